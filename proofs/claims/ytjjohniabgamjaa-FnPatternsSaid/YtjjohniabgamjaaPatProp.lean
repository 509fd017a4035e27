/- What the patterns of a number of elements, a sum and a greatest element are like, in plain numbers. -/
import Derived.Test.YtjjohniabgamjaaPatM
import Derived.Laws.BytesArg
namespace Go.Proofs.Ytjjohniabgamjaa
open Go.RowKit

def isum : List Int → Int
  | [] => 0
  | x :: xs => x + isum xs
theorem isum_append (xs ys : List Int) : isum (xs ++ ys) = isum xs + isum ys := by
  induction xs with
  | nil => simp [isum]
  | cons x xs ih => simp only [List.cons_append, isum, ih]; omega

theorem isPat_in (k : Nat) : ∀ l m r xs, IsPat k l m r xs → ∀ x ∈ xs, 49 ≤ x ∧ x ≤ 48 + k := by
  intro l
  induction l with
  | zero => intro m r xs h; rw [IsPat] at h; simp [h]
  | succ l ih =>
    intro m r xs h x hx
    obtain ⟨j, r', ys, hj, hm, _, _, rfl, h⟩ := h
    rcases List.mem_cons.1 hx with rfl | hx
    · omega
    · exact ih _ _ _ h x hx
theorem isPat_sum (k : Nat) : ∀ l m r xs, r < cN k l m → IsPat k l m r xs → isum xs = 48 * l + m := by
  intro l
  induction l with
  | zero =>
    intro m r xs hr h
    rw [IsPat] at h
    rw [cN] at hr
    by_cases hm : m = 0
    · simp [h, isum, hm]
    · rw [if_neg hm] at hr; omega
  | succ l ih =>
    intro m r xs _ h
    obtain ⟨j, r', ys, hj, hm, hr, hlt, rfl, h⟩ := h
    have := ih _ _ _ hlt h
    simp only [isum, this]
    omega
/-- The lexicographic order of lists of the same length. -/
def lexL : List Int → List Int → Prop
  | x :: xs, y :: ys => x < y ∨ (x = y ∧ lexL xs ys)
  | _, _ => False
theorem isPat_lex (k : Nat) : ∀ l m r r' xs ys, r < r' → IsPat k l m r xs → IsPat k l m r' ys → r' < cN k l m → lexL xs ys := by
  intro l
  induction l with
  | zero => intro m r r' xs ys h hx hy hlt; rw [cN] at hlt; split at hlt <;> omega
  | succ l ih =>
    intro m r r' xs ys h hx hy hlt
    obtain ⟨j, r1, t, _, hm, hr, hlt1, rfl, ht⟩ := hx
    obtain ⟨j', r1', t', _, hm', hr', hlt', rfl, ht'⟩ := hy
    have e1 := pre_step (k := k) (l := l) hm
    have e2 := pre_step (k := k) (l := l) hm'
    rcases Nat.lt_trichotomy j j' with h1 | h1 | h1
    · left; omega
    · subst h1
      right
      exact ⟨rfl, ih _ _ _ _ _ (by omega) ht ht' hlt'⟩
    · have := pre_mono k l m (show j' + 1 ≤ j from h1); omega
theorem toU8_lt {x y : Int} (hx : 0 ≤ x ∧ x < 256) (hy : 0 ≤ y ∧ y < 256) (h : x < y) : UInt8.ofNat x.toNat < UInt8.ofNat y.toNat := by
  rw [UInt8.lt_iff_toNat_lt]
  simp only [UInt8.toNat_ofNat']
  omega
theorem lexL_bytes : ∀ xs ys : List Int, (∀ x ∈ xs, 0 ≤ x ∧ x < 256) → (∀ x ∈ ys, 0 ≤ x ∧ x < 256) → lexL xs ys →
    Op.bytesLess (ys.map fun n => UInt8.ofNat n.toNat) (xs.map fun n => UInt8.ofNat n.toNat) = false ∧ (ys.map fun n => UInt8.ofNat n.toNat) ≠ (xs.map fun n => UInt8.ofNat n.toNat)
  | [], _, _, _, h => by simp [lexL] at h
  | _ :: _, [], _, _, h => by simp [lexL] at h
  | x :: xs, y :: ys, hx, hy, h => by
    rw [lexL] at h
    have hx0 := hx x (by simp)
    have hy0 := hy y (by simp)
    rcases h with h | ⟨rfl, h⟩
    · have hlt := toU8_lt hx0 hy0 h
      have hn := UInt8.not_lt.2 (UInt8.le_of_lt hlt)
      have hne : UInt8.ofNat y.toNat ≠ UInt8.ofNat x.toNat := fun e => by rw [e] at hlt; exact (UInt8.lt_irrefl _ hlt).elim
      refine ⟨?_, fun e => hne (List.cons.inj e).1⟩
      simp only [List.map_cons, Op.bytesLess]
      simp [hn, hne]
    · obtain ⟨h1, h2⟩ := lexL_bytes xs ys (fun z hz => hx z (by simp [hz])) (fun z hz => hy z (by simp [hz])) h
      refine ⟨?_, fun e => h2 (List.cons.inj e).2⟩
      simp only [List.map_cons, Op.bytesLess]
      simp [h1, UInt8.lt_irrefl]
theorem pat_leq {k l m r r' : Nat} {xs ys : List Int} (hk : k ≤ 4) (h : r < r') (hx : IsPat k l m r xs) (hy : IsPat k l m r' ys) (hlt : r' < cN k l m) :
    (Op.bytesLess (strOfNums ys).toList (strOfNums xs).toList || (strOfNums ys).toList == (strOfNums xs).toList) = false := by
  have h1 := lexL_bytes xs ys (fun z hz => by have := isPat_in k l m r xs hx z hz; omega) (fun z hz => by have := isPat_in k l m r' ys hy z hz; omega) (isPat_lex k l m r r' xs ys h hx hy hlt)
  have e : ∀ zs : List Int, (strOfNums zs).toList = zs.map fun n => UInt8.ofNat n.toNat := fun zs => by
    rw [← strOfNums_data zs]; exact ByteArray.toList_eq _ 
  rw [e, e, h1.1]
  simpa using h1.2

theorem cN_one (k m : Nat) (hm : 1 ≤ m) : cN k 1 m = if m ≤ k then 1 else 0 := by
  have h : ∀ j, pre k 0 m j = if m ≤ j then 1 else 0 := by
    intro j
    induction j with
    | zero => rw [pre_zero, if_neg (by omega)]
    | succ j ih =>
      rw [pre_succ, ih]
      by_cases h1 : m ≤ j
      · rw [if_pos h1, if_neg (by omega), if_pos (by omega)]
      · rw [if_neg h1]
        by_cases h2 : j + 1 = m
        · rw [if_pos (by omega), if_pos (by omega), cN, if_pos (by omega)]
        · by_cases h3 : j + 1 ≤ m
          · rw [if_pos h3, cN, if_neg (by omega), if_neg (by omega)]
          · rw [if_neg h3, if_neg (by omega)]
  rw [cN_pre, h]
theorem cN_zero (k l : Nat) : cN k (l + 1) 0 = 0 := by
  rw [cN_pre]
  have h : ∀ j, pre k l 0 j = 0 := by
    intro j
    induction j with
    | zero => rfl
    | succ j ih => rw [pre_succ, ih, if_neg (by omega)]
  exact h k
/-- The widths from 1 on that are less than the sum are all that begin a pattern of two elements and more. -/
theorem cN_less (k l m J : Nat) (hJ : J = min k (m - 1)) (hm : 1 ≤ m) : cN k (l + 2) m = pre k (l + 1) m J := by
  rw [cN_pre]
  by_cases h : k ≤ m - 1
  · rw [hJ, Nat.min_eq_left h]
  · rw [hJ, Nat.min_eq_right (by omega), pre_past k (l + 1) m (show m ≤ k by omega)]
    have := pre_step (k := k) (l := l + 1) (m := m) (j := m - 1) (by omega)
    rw [show m - 1 + 1 = m by omega, Nat.sub_self, cN_zero] at this
    omega
end Go.Proofs.Ytjjohniabgamjaa
