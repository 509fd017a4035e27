/- Totally antisymmetric tables, in plain numbers. -/
import Derived.Test.YthcnhkjiojeemaaQgM
namespace Go.Proofs.Ythcnhkjiojeemaa
open Go.RowKit

def swAt (x : List (List Int)) (i j : Nat) : Bool := !decide (tb x i j = tb x j i)
def swB (x : List (List Int)) : Bool := allN x.length fun i => allN i (swAt x i)
def chAt (x : List (List Int)) (r i j : Nat) : Bool := !decide (tb x (tb x r i).toNat j = tb x (tb x r j).toNat i)
def chR (x : List (List Int)) (r i : Nat) : Bool := allN i (chAt x r i)
def chB (x : List (List Int)) : Bool := allN x.length fun r => allN x.length (chR x r)
def taB (x : List (List Int)) : Bool := qgB x && (swB x && chB x)
theorem swB_iff {x : List (List Int)} : swB x = true ↔ ∀ i j, i < x.length → j < i → tb x i j ≠ tb x j i := by
  unfold swB
  rw [allN_iff]
  constructor
  · intro h i j hi hj
    have := allN_iff.1 (h i hi) j hj
    unfold swAt at this
    simpa using this
  · intro h i hi
    refine allN_yes fun j hj => ?_
    unfold swAt
    simpa using h i j hi hj
theorem chB_iff {x : List (List Int)} : chB x = true ↔ ∀ r i j, r < x.length → i < x.length → j < i → tb x (tb x r i).toNat j ≠ tb x (tb x r j).toNat i := by
  unfold chB
  rw [allN_iff]
  constructor
  · intro h r i j hr hi hj
    have := allN_iff.1 (allN_iff.1 (h r hr) i hi) j hj
    unfold chAt at this
    simpa using this
  · intro h r hr
    refine allN_yes fun i hi => allN_yes fun j hj => ?_
    unfold chAt
    simpa using h r i j hr hi hj
/-- A count is 0 exactly if all fit. -/
def Cnt (c : Nat) (b : Bool) : Prop := c = 0 ↔ b = true
theorem Cnt.zero : Cnt 0 true := ⟨fun _ => rfl, fun _ => rfl⟩
theorem Cnt.yes {c : Nat} {b d : Bool} (h : Cnt c b) (hd : d = true) : Cnt c (b && d) := by
  subst hd; unfold Cnt at *; rw [Bool.and_true]; exact h
theorem Cnt.no {c : Nat} {b d : Bool} (hd : d = false) : Cnt (c + 1) (b && d) := by
  subst hd; unfold Cnt; simp
theorem Cnt.eq {c : Nat} {b d : Bool} (h : Cnt c b) (e : b = d) : Cnt c d := by rw [← e]; exact h
theorem Cnt.bool {c : Nat} {b : Bool} (h : Cnt c b) : ((c : Int) == 0) = b := by
  unfold Cnt at h
  cases b
  · have : c ≠ 0 := fun e => by have := h.1 e; cases this
    simp; omega
  · have := h.2 rfl
    simp [this]
end Go.Proofs.Ythcnhkjiojeemaa
