/- Texts as lists of numbers, and the first place of a number in a list: plain facts. -/
import Derived.Test.YthcnhkjiojeemaaRead
import Derived.Lib.Bytealg
import Derived.Lib.Strings
namespace Go.Proofs.Ythcnhkjiojeemaa
open Go.RowKit

theorem getD_eq {xs : List Int} {k : Nat} (h : k < xs.length) : xs.getD k 0 = xs[k] := by simp [h]
theorem getD_mem {xs : List Int} {k : Nat} (h : k < xs.length) : xs.getD k 0 ∈ xs := by rw [getD_eq h]; simp
/-- The bytes of a text. -/
def bz (s : ByteArray) : List Int := s.data.toList.map fun b => (b.toNat : Int)
theorem bz_len (s : ByteArray) : (bz s).length = s.size := by simp [bz]
theorem bz_get (s : ByteArray) (i : Nat) (h : i < s.size) : (bz s).getD i 0 = (s[i].toNat : Int) := by
  have h' : i < s.data.toList.length := by simpa using h
  have e : (bz s).getD i 0 = ((s.data.toList[i]'h').toNat : Int) := by
    unfold bz
    rw [List.getD_eq_getElem?_getD, List.getElem?_map, List.getElem?_eq_getElem h']
    rfl
  rw [e]
  simp [Array.getElem_toList]
  rfl
theorem bz_in (s : ByteArray) : ∀ x ∈ bz s, 0 ≤ x ∧ x ≤ 255 := by
  intro x hx
  unfold bz at hx
  obtain ⟨b, _, rfl⟩ := List.mem_map.1 hx
  have := b.toNat_lt
  omega
theorem map_toNat_inj : ∀ {l m : List UInt8}, l.map (fun b => (b.toNat : Int)) = m.map (fun b => (b.toNat : Int)) → l = m
  | [], [], _ => rfl
  | [], _ :: _, h => by simp at h
  | _ :: _, [], h => by simp at h
  | a :: l, b :: m, h => by
    simp only [List.map_cons, List.cons.injEq] at h
    have h1 : a.toNat = b.toNat := by omega
    rw [map_toNat_inj h.2, UInt8.toNat_inj.1 h1]
theorem bz_inj {s t : ByteArray} (h : bz s = bz t) : s = t := by
  have := map_toNat_inj h
  cases s; cases t
  simp at this
  rw [this]
theorem bz_append (s t : ByteArray) : bz (s ++ t) = bz s ++ bz t := by simp [bz]
theorem bz_extract (s : ByteArray) (a b : Nat) : bz (s.extract a b) = ((bz s).take b).drop a := by
  unfold bz
  rw [Lib.extract_data]
  rw [List.map_take, List.map_drop, List.drop_take]

/-- The first place of c, or -1. -/
def ix : List Int → Int → Int
  | [], _ => -1
  | x :: xs, c => if x = c then 0 else if ix xs c < 0 then -1 else ix xs c + 1
theorem ix_ge (xs : List Int) (c : Int) : -1 ≤ ix xs c := by
  induction xs with
  | nil => simp [ix]
  | cons x xs ih => rw [ix]; split; · omega
                    · split <;> omega
theorem ix_lt (xs : List Int) (c : Int) : ix xs c < xs.length := by
  induction xs with
  | nil => simp [ix]
  | cons x xs ih => rw [ix, List.length_cons]; split; · omega
                    · split <;> omega
theorem ix_mem (xs : List Int) (c : Int) : decide (0 ≤ ix xs c) = decide (c ∈ xs) := by
  induction xs with
  | nil => simp [ix]
  | cons x xs ih =>
    rw [ix]
    by_cases h : x = c
    · simp [h]
    · rw [if_neg h]
      have h2 : (c ∈ x :: xs) ↔ c ∈ xs := by simp [Ne.symm h]
      rw [decide_eq_decide.2 h2, ← ih]
      split <;> simp <;> omega
theorem indexByte_ix (l : List UInt8) (c : UInt8) : Lib.indexByte l c = ix (l.map fun b => (b.toNat : Int)) c.toNat := by
  induction l with
  | nil => rfl
  | cons b l ih =>
    rw [Lib.indexByte, List.map_cons, ix, ih]
    have hge := ix_ge (l.map fun b => (b.toNat : Int)) c.toNat
    by_cases h : b = c
    · subst h; simp
    · have h1 : (b == c) = false := by simp [h]
      have h2 : ¬ (b.toNat : Int) = c.toNat := fun e => h (UInt8.toNat_inj.1 (by omega))
      rw [h1, if_neg h2]
      simp only [Bool.false_eq_true, if_false]
      by_cases h3 : ix (l.map fun b => (b.toNat : Int)) c.toNat = -1
      · rw [h3]; simp
      · have h4 : (ix (l.map fun b => (b.toNat : Int)) c.toNat == -1) = false := by simp [h3]
        have h5 : ¬ ix (l.map fun b => (b.toNat : Int)) c.toNat < 0 := by omega
        rw [h4, if_neg h5]
        simp
/-- No element fails P or stands before itself. -/
def diffB (P : Int → Bool) (xs : List Int) : Bool := (List.range xs.length).all fun i => P (xs.getD i 0) && !decide (xs.getD i 0 ∈ xs.take i)
theorem diffB_no {P : Int → Bool} {xs : List Int} (k : Nat) (hk : k < xs.length) (h : (P (xs.getD k 0) && !decide (xs.getD k 0 ∈ xs.take k)) = false) : diffB P xs = false := by
  unfold diffB
  rw [← Bool.not_eq_true, List.all_eq_true]
  intro hh
  rw [hh k (List.mem_range.2 hk)] at h
  cases h
theorem diffB_yes {P : Int → Bool} {xs : List Int} (h : ∀ k, k < xs.length → (P (xs.getD k 0) && !decide (xs.getD k 0 ∈ xs.take k)) = true) : diffB P xs = true := by
  unfold diffB
  rw [List.all_eq_true]
  intro k hk
  exact h k (List.mem_range.1 hk)
theorem diffB_iff {P : Int → Bool} {xs : List Int} : diffB P xs = true ↔ (∀ k, k < xs.length → P (xs.getD k 0) = true) ∧ (∀ k, k < xs.length → xs.getD k 0 ∉ xs.take k) := by
  unfold diffB
  rw [List.all_eq_true]
  constructor
  · intro h
    constructor
    · intro k hk
      have := h k (List.mem_range.2 hk)
      simp only [Bool.and_eq_true] at this
      exact this.1
    · intro k hk
      have := h k (List.mem_range.2 hk)
      simp only [Bool.and_eq_true, Bool.not_eq_true', decide_eq_false_iff_not] at this
      exact this.2
  · intro h k hk
    have hk' := List.mem_range.1 hk
    rw [h.1 k hk']
    simpa using h.2 k hk'
end Go.Proofs.Ythcnhkjiojeemaa
