/- Families of symbols: what is reached, in plain numbers. -/
import Derived.Test.YtdkheeocglfogaaLks
namespace Go.Proofs.Ytdkheeocglfogaa
open Go.RowKit

/-- What is reached from i by steps within numbers below n. -/
inductive Rc (A : Nat → Nat → Bool) (n i : Nat) : Nat → Prop where
  | refl : Rc A n i i
  | step (j k : Nat) : Rc A n i j → k < n → A j k = true → Rc A n i k
theorem Rc.lt {A : Nat → Nat → Bool} {n i j : Nat} (h : Rc A n i j) (hi : i < n) : j < n := by
  cases h with
  | refl => exact hi
  | step j k _ hk _ => exact hk
theorem Rc.trans {A : Nat → Nat → Bool} {n i j k : Nat} (h1 : Rc A n i j) (h2 : Rc A n j k) : Rc A n i k := by
  induction h2 with
  | refl => exact h1
  | step a b _ hb hab ih => exact .step a b ih hb hab
theorem Rc.symm {A : Nat → Nat → Bool} {n i j : Nat} (hs : ∀ a b, A a b = A b a) (hi : i < n) (h : Rc A n i j) : Rc A n j i := by
  induction h with
  | refl => exact .refl
  | step a b ha hb hab ih =>
    have h1 : Rc A n b a := .step b a .refl (ha.lt hi) (by rw [hs]; exact hab)
    exact h1.trans ih
open Classical in
/-- i and j are of one family. -/
noncomputable def cmp (A : Nat → Nat → Bool) (n i j : Nat) : Bool := decide (Rc A n i j)
theorem cmp_iff {A : Nat → Nat → Bool} {n i j : Nat} : cmp A n i j = true ↔ Rc A n i j := by unfold cmp; simp
/-- A set that holds i, is closed, and has nothing that is not reached, is the family of i. -/
theorem cmp_of {A : Nat → Nat → Bool} {n i : Nat} (hi : i < n) {P : Nat → Bool} (h1 : P i = true) (h2 : ∀ j k, j < n → k < n → P j = true → A j k = true → P k = true) (h3 : ∀ j, j < n → P j = true → Rc A n i j) : ∀ j, j < n → P j = cmp A n i j := by
  intro j hj
  rw [Bool.eq_iff_iff, cmp_iff]
  refine ⟨h3 j hj, fun h => ?_⟩
  induction h with
  | refl => exact h1
  | step a b ha hb hab ih => exact h2 a b (ha.lt hi) hb (ih (ha.lt hi)) hab
/-- j is of a family of a number below k. -/
noncomputable def dn (A : Nat → Nat → Bool) (n k j : Nat) : Bool := (List.range k).any fun i => cmp A n i j
theorem dn_iff {A : Nat → Nat → Bool} {n k j : Nat} : dn A n k j = true ↔ ∃ i, i < k ∧ Rc A n i j := by
  unfold dn
  rw [List.any_eq_true]
  constructor
  · rintro ⟨i, h1, h2⟩; exact ⟨i, List.mem_range.1 h1, cmp_iff.1 h2⟩
  · rintro ⟨i, h1, h2⟩; exact ⟨i, List.mem_range.2 h1, cmp_iff.2 h2⟩
theorem dn_zero (A : Nat → Nat → Bool) (n j : Nat) : dn A n 0 j = false := rfl
theorem dn_succ (A : Nat → Nat → Bool) (n k j : Nat) : dn A n (k + 1) j = (dn A n k j || cmp A n k j) := by
  rw [Bool.eq_iff_iff, Bool.or_eq_true, dn_iff, dn_iff, cmp_iff]
  constructor
  · rintro ⟨i, h1, h2⟩
    by_cases e : i = k
    · subst e; exact .inr h2
    · exact .inl ⟨i, by omega, h2⟩
  · rintro (⟨i, h1, h2⟩ | h)
    · exact ⟨i, by omega, h2⟩
    · exact ⟨k, by omega, h⟩
theorem dn_skip {A : Nat → Nat → Bool} {n k : Nat} (h : dn A n k k = true) (j : Nat) : dn A n (k + 1) j = dn A n k j := by
  rw [dn_succ, Bool.eq_iff_iff, Bool.or_eq_true]
  refine ⟨?_, .inl⟩
  rintro (h1 | h1)
  · exact h1
  · obtain ⟨i, hi, hr⟩ := dn_iff.1 h
    exact dn_iff.2 ⟨i, hi, hr.trans (cmp_iff.1 h1)⟩
/-- The symbols of a set, in the order of s. -/
def ctB (s : ByteArray) (k : Nat) (p : Nat → Bool) : List Int := ((List.range k).filter p).map fun j => ((bAt s j).toNat : Int)
def ctx (s : ByteArray) (p : Nat → Bool) : ByteArray := strOfNums (ctB s s.size p)
theorem ctB_succ (s : ByteArray) (k : Nat) (p : Nat → Bool) : ctB s (k + 1) p = if p k then ctB s k p ++ [((bAt s k).toNat : Int)] else ctB s k p := by
  unfold ctB
  rw [List.range_succ, List.filter_append, List.map_append]
  cases h : p k <;> simp [h]
theorem ctB_congr {s : ByteArray} {k : Nat} {p q : Nat → Bool} (h : ∀ j, j < k → p j = q j) : ctB s k p = ctB s k q := by
  unfold ctB
  rw [List.filter_congr fun j hj => h j (List.mem_range.1 hj)]
theorem ctB_len (s : ByteArray) (k : Nat) (p : Nat → Bool) : (ctB s k p).length ≤ k := by
  unfold ctB
  rw [List.length_map]
  have := List.length_filter_le p (List.range k)
  simpa using this
/-- The families of the numbers below k. -/
noncomputable def fams (s : ByteArray) (A : Nat → Nat → Bool) : Nat → List ByteArray
  | 0 => []
  | k + 1 => if dn A s.size k k then fams s A k else fams s A k ++ [ctx s (cmp A s.size k)]
theorem fams_skip {s : ByteArray} {A : Nat → Nat → Bool} {k : Nat} (h : dn A s.size k k = true) : fams s A (k + 1) = fams s A k := by
  show (if dn A s.size k k then _ else _) = _
  rw [h]; rfl
theorem fams_new {s : ByteArray} {A : Nat → Nat → Bool} {k : Nat} (h : dn A s.size k k = false) : fams s A (k + 1) = fams s A k ++ [ctx s (cmp A s.size k)] := by
  show (if dn A s.size k k then _ else _) = _
  rw [h]; rfl
theorem fams_len (s : ByteArray) (A : Nat → Nat → Bool) : ∀ k, (fams s A k).length ≤ k
  | 0 => Nat.le_refl _
  | k + 1 => by
    have := fams_len s A k
    cases h : dn A s.size k k
    · rw [fams_new h]; simp; omega
    · rw [fams_skip h]; omega
theorem lk_symm (s : ByteArray) (l : List ByteArray) (a b : Nat) : lk s l a b = lk s l b a := by
  unfold lk alkB
  exact Bool.or_comm _ _
theorem msk_mono {n : Nat} {p q : Nat → Bool} (h : ∀ j, j < n → p j = true → q j = true) : msk n p ≤ msk n q := by
  have : msk n p ||| msk n q = msk n q := by
    rw [msk_or]
    exact msk_congr fun j hj => by
      cases hp : p j
      · rfl
      · rw [h j hj hp]; rfl
  rw [← this]; exact Nat.left_le_or
end Go.Proofs.Ytdkheeocglfogaa
