/- The pattern with a rank, in plain numbers. -/
import Derived.Test.YtjjohniabgamjaaCountM
namespace Go.Proofs.Ytjjohniabgamjaa
open Go.RowKit

theorem cN_bd (k e m : Nat) (he : e ≤ 10) (hk : k ≤ 4) : cN k e m ≤ 1048576 :=
  Nat.le_trans (cN_le k e m) (Nat.le_trans (Nat.pow_le_pow_left hk e) (Nat.le_trans (Nat.pow_le_pow_right (by decide) he) (by decide)))
/-- The patterns that begin with one of the widths 1 to j. -/
def pre (k l m : Nat) (j : Nat) : Nat := ((List.range j).map fun j => if j + 1 ≤ m then cN k l (m - (j + 1)) else 0).sum
theorem cN_pre (k l m : Nat) : cN k (l + 1) m = pre k l m k := rfl
theorem pre_zero (k l m : Nat) : pre k l m 0 = 0 := rfl
theorem pre_succ (k l m j : Nat) : pre k l m (j + 1) = pre k l m j + if j + 1 ≤ m then cN k l (m - (j + 1)) else 0 := by
  unfold pre
  rw [List.range_succ, List.map_append, List.sum_append]
  simp
theorem pre_mono (k l m : Nat) {i j : Nat} (h : i ≤ j) : pre k l m i ≤ pre k l m j := by
  obtain ⟨d, rfl⟩ := Nat.exists_eq_add_of_le h
  clear h
  induction d with
  | zero => exact Nat.le_refl _
  | succ d ih => rw [show i + (d + 1) = i + d + 1 by omega, pre_succ]; omega
theorem pre_past (k l m : Nat) {j : Nat} (h : m ≤ j) : pre k l m j = pre k l m m := by
  obtain ⟨d, rfl⟩ := Nat.exists_eq_add_of_le h
  clear h
  induction d with
  | zero => rfl
  | succ d ih => rw [show m + (d + 1) = m + d + 1 by omega, pre_succ, ih, if_neg (by omega)]; rfl
/-- Where not all that is asked for has been passed, there is a further width. -/
theorem pre_room {k l m j : Nat} (h : pre k l m j < pre k l m k) : j < k ∧ j + 1 ≤ m := by
  constructor
  · rcases Nat.lt_or_ge j k with h' | h'
    · exact h'
    · have := pre_mono k l m h'; omega
  · rcases Nat.lt_or_ge j m with h' | h'
    · exact h'
    · have h1 := pre_past k l m h'
      rcases Nat.lt_or_ge k m with h2 | h2
      · have := pre_mono k l m (Nat.le_of_lt h2); omega
      · have := pre_past k l m h2; omega

theorem pre_step {k l m j : Nat} (h : j + 1 ≤ m) : pre k l m (j + 1) = pre k l m j + cN k l (m - (j + 1)) := by rw [pre_succ, if_pos h]
theorem pre_last {k l m j r : Nat} (h : pre k l m j + r < pre k l m k) (hm : j + 1 = m) : r < cN k l (m - (j + 1)) := by
  have h1 := pre_step (k := k) (l := l) (show j + 1 ≤ m by omega)
  rcases Nat.lt_or_ge k m with h2 | h2
  · have := pre_mono k l m (show k ≤ j + 1 by omega); omega
  · have := pre_past k l m h2; rw [← hm] at this; rw [← hm] at h h1; rw [← hm]; omega
/-- xs are the symbols of the pattern of l elements with the sum m, none greater than k, with the rank r. -/
def IsPat (k : Nat) : Nat → Nat → Nat → List Int → Prop
  | 0, _, _, xs => xs = []
  | l + 1, m, r, xs => ∃ j r' ys, j < k ∧ j + 1 ≤ m ∧ r' + pre k l m j = r ∧ r' < cN k l (m - (j + 1)) ∧ xs = ((49 + j : Nat) : Int) :: ys ∧ IsPat k l (m - (j + 1)) r' ys
theorem isPat_unique (k : Nat) : ∀ l m r xs ys, IsPat k l m r xs → IsPat k l m r ys → xs = ys := by
  intro l
  induction l with
  | zero => intro m r xs ys h h'; rw [IsPat] at h h'; rw [h, h']
  | succ l ih =>
    intro m r xs ys h h'
    obtain ⟨j, r1, t, _, hm, hr, hlt, rfl, ht⟩ := h
    obtain ⟨j', r1', t', _, hm', hr', hlt', rfl, ht'⟩ := h'
    have e1 := pre_step (k := k) (l := l) hm
    have e2 := pre_step (k := k) (l := l) hm'
    have hj : j = j' := by
      rcases Nat.lt_trichotomy j j' with h | h | h
      · have := pre_mono k l m (show j + 1 ≤ j' from h); omega
      · exact h
      · have := pre_mono k l m (show j' + 1 ≤ j from h); omega
    subst hj
    have : r1 = r1' := by omega
    subst this
    rw [ih _ _ _ _ ht ht']
theorem isPat_len (k : Nat) : ∀ l m r xs, IsPat k l m r xs → xs.length = l := by
  intro l
  induction l with
  | zero => intro m r xs h; rw [IsPat] at h; simp [h]
  | succ l ih =>
    intro m r xs h
    obtain ⟨j, r', ys, _, _, _, _, rfl, h⟩ := h
    simp [ih _ _ _ h]
end Go.Proofs.Ytjjohniabgamjaa
