/- Words at a typing distance of one: the plain law. -/
import Derived.Test.YtgagjmnmfgfpfaaNwR
import Derived.Test.YtgagjmnmfgfpfaaEdP
namespace Go.Proofs.Ytgagjmnmfgfpfaa
open Go.RowKit

/-- One error of typing. -/
def E1 (a b : List Int) : Prop :=
  (∃ p x s, a = p ++ s ∧ b = p ++ x :: s) ∨ (∃ p x s, a = p ++ x :: s ∧ b = p ++ s) ∨
  (∃ p x y s, x ≠ y ∧ a = p ++ x :: s ∧ b = p ++ y :: s) ∨
  (∃ p x y s, x ≠ y ∧ a = p ++ x :: y :: s ∧ b = p ++ y :: x :: s)
theorem E1.cons {a b : List Int} (z : Int) (h : E1 a b) : E1 (z :: a) (z :: b) := by
  rcases h with ⟨p, x, s, rfl, rfl⟩ | ⟨p, x, s, rfl, rfl⟩ | ⟨p, x, y, s, hne, rfl, rfl⟩ | ⟨p, x, y, s, hne, rfl, rfl⟩
  · exact .inl ⟨z :: p, x, s, rfl, rfl⟩
  · exact .inr (.inl ⟨z :: p, x, s, rfl, rfl⟩)
  · exact .inr (.inr (.inl ⟨z :: p, x, y, s, hne, rfl, rfl⟩))
  · exact .inr (.inr (.inr ⟨z :: p, x, y, s, hne, rfl, rfl⟩))
theorem cstT_zero (a b : List Int) : cst true a b = 0 ↔ a = b := by
  have h1 := cst_true_le _ a b (Nat.le_refl _)
  have h2 := cst_false_le _ a b (Nat.le_refl _)
  rw [← cst_zero]
  omega
theorem cstT_one : ∀ (n : Nat) (a b : List Int), a.length + b.length ≤ n → cst true a b = 1 → E1 a b
  | n, [], b, _, h => by
    rw [cst_nil_left] at h
    match b, h with
    | [x], _ => exact .inl ⟨[], x, [], rfl, rfl⟩
  | n, x :: a, [], _, h => by
    rw [cst_nil_right] at h
    match a, h with
    | [], _ => exact .inr (.inl ⟨[], x, [], rfl, rfl⟩)
  | 0, x :: a, y :: b, hn, _ => by simp at hn
  | n + 1, x :: a, y :: b, hn, h => by
    simp only [List.length_cons] at hn
    rw [cst_cons] at h
    have step : min (min (cst true a (y :: b) + 1) (cst true (x :: a) b + 1)) (cst true a b + if x = y then 0 else 1) = 1 → E1 (x :: a) (y :: b) := fun h => by
      by_cases h1 : cst true a (y :: b) = 0
      · rw [cstT_zero] at h1
        exact .inr (.inl ⟨[], x, y :: b, by rw [h1]; rfl, rfl⟩)
      · by_cases h2 : cst true (x :: a) b = 0
        · rw [cstT_zero] at h2
          exact .inl ⟨[], y, x :: a, rfl, by rw [← h2]; rfl⟩
        · by_cases hxy : x = y
          · rw [if_pos hxy] at h
            subst hxy
            exact (cstT_one n a b (by omega) (by omega)).cons x
          · rw [if_neg hxy] at h
            have h3 : a = b := by rw [← cstT_zero]; omega
            exact .inr (.inr (.inl ⟨[], x, y, a, hxy, rfl, by rw [h3]; rfl⟩))
    by_cases hs : (true && swH (x :: a) (y :: b)) = true
    · rw [if_pos hs] at h
      by_cases h4 : cst true a.tail b.tail = 0
      · rw [cstT_zero] at h4
        rw [Bool.true_and] at hs
        match a, b, hs, h4 with
        | x2 :: a, y2 :: b, hs, h4 =>
          simp only [swH, Bool.and_eq_true, decide_eq_true_eq] at hs
          obtain ⟨h5, h6, h7⟩ := hs
          subst h6 h7
          have h4' : a = b := h4
          exact .inr (.inr (.inr ⟨[], x, x2, a, h5, rfl, by rw [h4']; rfl⟩))
      · exact step (by omega)
    · rw [if_neg hs] at h
      exact step h
theorem cstT_pre : ∀ (p a b : List Int), cst true (p ++ a) (p ++ b) ≤ cst true a b
  | [], _, _ => Nat.le_refl _
  | z :: p, a, b => by
    have h1 := cst_sub true z z (p ++ a) (p ++ b)
    rw [if_pos rfl] at h1
    exact Nat.le_trans h1 (cstT_pre p a b)
theorem cstT_of {a b : List Int} (h : E1 a b) : cst true a b = 1 := by
  have h0 : cst true a b ≠ 0 := fun e => by
    rw [cstT_zero] at e
    rcases h with ⟨p, x, s, h1, h2⟩ | ⟨p, x, s, h1, h2⟩ | ⟨p, x, y, s, hne, h1, h2⟩ | ⟨p, x, y, s, hne, h1, h2⟩
    · have := congrArg List.length (h1.symm.trans (e.trans h2)); simp at this
    · have := congrArg List.length (h1.symm.trans (e.trans h2)); simp at this
    · have := List.append_cancel_left (h1.symm.trans (e.trans h2)); simp at this; exact hne this
    · have := List.append_cancel_left (h1.symm.trans (e.trans h2)); simp at this; exact hne this.1
  have hself : ∀ s : List Int, cst true s s = 0 := fun s => (cstT_zero s s).2 rfl
  have h1 : cst true a b ≤ 1 := by
    rcases h with ⟨p, x, s, rfl, rfl⟩ | ⟨p, x, s, rfl, rfl⟩ | ⟨p, x, y, s, hne, rfl, rfl⟩ | ⟨p, x, y, s, hne, rfl, rfl⟩
    · have := cstT_pre p s (x :: s); have h2 := cst_ins true x s s; rw [hself] at h2; omega
    · have := cstT_pre p (x :: s) s; have h2 := cst_del true x s s; rw [hself] at h2; omega
    · have := cstT_pre p (x :: s) (y :: s); have h2 := cst_sub true x y s s; rw [hself, if_neg hne] at h2; omega
    · have h3 := cstT_pre p (x :: y :: s) (y :: x :: s)
      have h2 : cst true (x :: y :: s) (y :: x :: s) ≤ 1 := by
        rw [cst_cons, if_pos (by simp [swH, hne])]
        have : cst true (y :: s).tail (x :: s).tail = 0 := hself s
        omega
      omega
  omega
theorem T_one (a b : ByteArray) : T a b = 1 ↔ E1 (bz a) (bz b) := by
  rw [T_cst]
  exact ⟨cstT_one _ _ _ (Nat.le_refl _), cstT_of⟩
theorem T_zero (a b : ByteArray) : T a b = 0 ↔ a = b := by
  rw [T_cst, cstT_zero]
  exact ⟨bz_inj, fun h => by rw [h]⟩
end Go.Proofs.Ytgagjmnmfgfpfaa
