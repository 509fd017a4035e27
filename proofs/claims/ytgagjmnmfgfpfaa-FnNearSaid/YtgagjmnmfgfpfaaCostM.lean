/- The least number of letters of a script between two lists, in plain numbers. -/
import Derived.Test.YtgagjmnmfgfpfaaBytesM
namespace Go.Proofs.Ytgagjmnmfgfpfaa
open Go.RowKit

/-- Two different numbers stand in the opposite order at the heads of both lists. -/
def swH : List Int → List Int → Bool
  | x :: x2 :: _, y :: y2 :: _ => decide (x ≠ x2) && (decide (x = y2) && decide (x2 = y))
  | _, _ => false
/-- The least number of letters: drop, put, turn, and, if sw, swap. -/
def cst (sw : Bool) : List Int → List Int → Nat
  | [], b => b.length
  | _ :: a, [] => a.length + 1
  | x :: a, y :: b =>
    let m := min (min (cst sw a (y :: b) + 1) (cst sw (x :: a) b + 1)) (cst sw a b + if x = y then 0 else 1)
    if sw && swH (x :: a) (y :: b) then min m (cst sw a.tail b.tail + 1) else m
  termination_by a b => a.length + b.length
  decreasing_by
    all_goals simp_wf
    all_goals (try simp)
    all_goals omega
theorem cst_nil_right (sw : Bool) (a : List Int) : cst sw a [] = a.length := by
  cases a <;> simp [cst]
theorem cst_nil_left (sw : Bool) (b : List Int) : cst sw [] b = b.length := by simp [cst]
theorem cst_cons (sw : Bool) (x y : Int) (a b : List Int) : cst sw (x :: a) (y :: b) =
    if sw && swH (x :: a) (y :: b) then min (min (min (cst sw a (y :: b) + 1) (cst sw (x :: a) b + 1)) (cst sw a b + if x = y then 0 else 1)) (cst sw a.tail b.tail + 1)
    else min (min (cst sw a (y :: b) + 1) (cst sw (x :: a) b + 1)) (cst sw a b + if x = y then 0 else 1) := by
  rw [cst]
theorem cst_del (sw : Bool) (x : Int) (a b : List Int) : cst sw (x :: a) b ≤ cst sw a b + 1 := by
  cases b with
  | nil => simp [cst_nil_right]
  | cons y b => rw [cst_cons]; split <;> omega
theorem cst_ins (sw : Bool) (y : Int) (a b : List Int) : cst sw a (y :: b) ≤ cst sw a b + 1 := by
  cases a with
  | nil => simp [cst_nil_left]
  | cons x a => rw [cst_cons]; split <;> omega
theorem cst_le (sw : Bool) : ∀ (a b : List Int), cst sw a b ≤ a.length + b.length
  | [], b => by simp [cst_nil_left]
  | x :: a, b => by
    have h1 := cst_del sw x a b
    have h2 := cst_le sw a b
    simp only [List.length_cons]
    omega
/-- The number for the rests behind i and k. -/
def cAt (sw : Bool) (a b : List Int) (i k : Nat) : Nat := cst sw (a.drop i) (b.drop k)
theorem drop_cons {a : List Int} {i : Nat} (h : i < a.length) : a.drop i = a.getD i 0 :: a.drop (i + 1) := by
  rw [List.drop_eq_getElem_cons h]; simp [h]
theorem cAt_left (sw : Bool) (a b : List Int) (i k : Nat) (h : a.length ≤ i) : cAt sw a b i k = b.length - k := by
  unfold cAt
  rw [List.drop_of_length_le h, cst_nil_left, List.length_drop]
theorem cAt_right (sw : Bool) (a b : List Int) (i k : Nat) (h : b.length ≤ k) : cAt sw a b i k = a.length - i := by
  unfold cAt
  rw [List.drop_of_length_le h, cst_nil_right, List.length_drop]
theorem cAt_le (sw : Bool) (a b : List Int) (i k : Nat) : cAt sw a b i k ≤ (a.length - i) + (b.length - k) := by
  have := cst_le sw (a.drop i) (b.drop k)
  rw [List.length_drop, List.length_drop] at this
  exact this
/-- Two different symbols stand in the opposite order at i and k. -/
def swA (a b : List Int) (i k : Nat) : Bool :=
  (decide (i + 1 < a.length) && decide (k + 1 < b.length)) && (decide (a.getD i 0 ≠ a.getD (i + 1) 0) && (decide (a.getD i 0 = b.getD (k + 1) 0) && decide (a.getD (i + 1) 0 = b.getD k 0)))
theorem swH_eq (a b : List Int) (i k : Nat) : swH (a.drop i) (b.drop k) = swA a b i k := by
  unfold swA
  by_cases h1 : i + 1 < a.length
  · by_cases h2 : k + 1 < b.length
    · rw [drop_cons (show i < a.length by omega), drop_cons h1, drop_cons (show k < b.length by omega), drop_cons h2]
      simp [swH, h1, h2]
    · rw [decide_eq_false h2]
      have : (b.drop k).length ≤ 1 := by rw [List.length_drop]; omega
      match hb : b.drop k, this with
      | [], _ => simp [swH]
      | [y], _ => simp [swH]
  · rw [decide_eq_false h1]
    have : (a.drop i).length ≤ 1 := by rw [List.length_drop]; omega
    match hb : a.drop i, this with
    | [], _ => simp [swH]
    | [y], _ => simp [swH]
theorem cAt_both (sw : Bool) (a b : List Int) (i k : Nat) (hi : i < a.length) (hk : k < b.length) : cAt sw a b i k =
    if sw && swA a b i k then min (min (min (cAt sw a b (i + 1) k + 1) (cAt sw a b i (k + 1) + 1)) (cAt sw a b (i + 1) (k + 1) + if a.getD i 0 = b.getD k 0 then 0 else 1)) (cAt sw a b (i + 2) (k + 2) + 1)
    else min (min (cAt sw a b (i + 1) k + 1) (cAt sw a b i (k + 1) + 1)) (cAt sw a b (i + 1) (k + 1) + if a.getD i 0 = b.getD k 0 then 0 else 1) := by
  have h := swH_eq a b i k
  unfold cAt
  rw [drop_cons hi, drop_cons hk] at h ⊢
  rw [cst_cons, h]
  simp [List.tail_drop]
end Go.Proofs.Ytgagjmnmfgfpfaa
