/- Edit distances in plain numbers: 0 only of equal words, the same in both directions, and at most the sum over a third word. -/
import Derived.Test.YtgagjmnmfgfpfaaEditM
namespace Go.Proofs.Ytgagjmnmfgfpfaa
open Go.RowKit

def flip (l : Alg) : Alg := l.map fun p => (p.2, p.1)
theorem top_flip (l : Alg) : top (flip l) = bot l := by simp [top, bot, flip, List.filterMap_map]; rfl
theorem bot_flip (l : Alg) : bot (flip l) = top l := by simp [top, bot, flip, List.filterMap_map]; rfl
theorem acost_flip : ∀ l : Alg, acost (flip l) = acost l
  | [] => rfl
  | (x, y) :: l => by
    have := acost_flip l
    rw [show flip ((x, y) :: l) = (y, x) :: flip l from rfl, acost_cons, acost_cons, this]
    by_cases h : x = y
    · subst h; rfl
    · simp [h, Ne.symm (a := x) h]
theorem cst_symm (a b : List Int) : cst false a b = cst false b a := by
  have key : ∀ a b, cst false b a ≤ cst false a b := fun a b => by
    obtain ⟨l, h1, h2, h3⟩ := alg_attain _ a b (Nat.le_refl _)
    have := cst_le_acost false (flip l)
    rw [top_flip, bot_flip, acost_flip, h1, h2, h3] at this
    exact this
  exact Nat.le_antisymm (key b a) (key a b)
theorem acost_zero : ∀ l : Alg, acost l = 0 → top l = bot l
  | [], _ => rfl
  | (x, y) :: l, h => by
    rw [acost_cons] at h
    by_cases e : x = y
    · subst e
      have := acost_zero l (by omega)
      cases x <;> simp [top, bot] at this ⊢ <;> exact this
    · simp [e] at h
theorem cst_same : ∀ a : List Int, cst false a a = 0
  | [] => by rw [cst_nil_left]; rfl
  | x :: a => by
    have h1 := cst_sub false x x a a
    have h2 := cst_same a
    rw [if_pos rfl] at h1; omega
theorem cst_zero (a b : List Int) : cst false a b = 0 ↔ a = b := by
  constructor
  · intro h
    obtain ⟨l, h1, h2, h3⟩ := alg_attain _ a b (Nat.le_refl _)
    rw [← h1, ← h2]
    exact acost_zero l (by omega)
  · rintro rfl; exact cst_same a
theorem alg_comp : ∀ (n : Nat) (l m : Alg), l.length + m.length ≤ n → bot l = top m → ∃ k : Alg, top k = top l ∧ bot k = bot m ∧ acost k ≤ acost l + acost m := by
  intro n
  induction n with
  | zero =>
    intro l m h _
    have h1 : l = [] := List.eq_nil_of_length_eq_zero (by omega)
    have h2 : m = [] := List.eq_nil_of_length_eq_zero (by omega)
    subst h1; subst h2
    exact ⟨[], rfl, rfl, by simp [acost]⟩
  | succ n ih =>
    intro l m h hb
    match l, m, h, hb with
    | [], [], _, _ => exact ⟨[], rfl, rfl, by simp [acost]⟩
    | (x, none) :: l, m, h, hb =>
      obtain ⟨k, h1, h2, h3⟩ := ih l m (by simp at h ⊢; omega) (by simpa [bot] using hb)
      refine ⟨(x, none) :: k, ?_, by simpa [bot] using h2, by rw [acost_cons, acost_cons]; omega⟩
      cases x <;> simp [top] at h1 ⊢ <;> exact h1
    | l, (none, y) :: m, h, hb =>
      obtain ⟨k, h1, h2, h3⟩ := ih l m (by simp at h ⊢; omega) (by simpa [top] using hb)
      refine ⟨(none, y) :: k, by simpa [top] using h1, ?_, by rw [acost_cons, acost_cons]; omega⟩
      cases y <;> simp [bot] at h2 ⊢ <;> exact h2
    | (x, some z) :: l, (some z', y) :: m, h, hb =>
      have hz : z = z' ∧ bot l = top m := by simpa [bot, top] using hb
      obtain ⟨rfl, hb'⟩ := hz
      obtain ⟨k, h1, h2, h3⟩ := ih l m (by simp at h ⊢; omega) hb'
      refine ⟨(x, y) :: k, ?_, ?_, ?_⟩
      · cases x <;> simp [top] at h1 ⊢ <;> exact h1
      · cases y <;> simp [bot] at h2 ⊢ <;> exact h2
      · rw [acost_cons, acost_cons, acost_cons]
        by_cases e1 : x = some z
        · subst e1; simp; omega
        · by_cases e2 : some z = y
          · subst e2; simp; omega
          · have : (if x = y then 0 else 1) ≤ 1 := by split <;> omega
            simp [e1, e2]; omega
    | [], (some z, y) :: m, _, hb => simp [bot, top] at hb
    | (x, some z) :: l, [], _, hb => simp [bot, top] at hb
theorem cst_tri (a b c : List Int) : cst false a b ≤ cst false a c + cst false c b := by
  obtain ⟨l, h1, h2, h3⟩ := alg_attain _ a c (Nat.le_refl _)
  obtain ⟨m, g1, g2, g3⟩ := alg_attain _ c b (Nat.le_refl _)
  obtain ⟨k, k1, k2, k3⟩ := alg_comp _ l m (Nat.le_refl _) (by rw [h2, g1])
  have := cst_le_acost false k
  rw [k1, k2, h1, g2] at this
  omega
theorem cst_true_le : ∀ (n : Nat) (a b : List Int), a.length + b.length ≤ n → cst true a b ≤ cst false a b := by
  intro n
  induction n with
  | zero =>
    intro a b h
    have h1 : a = [] := List.eq_nil_of_length_eq_zero (by omega)
    subst h1
    rw [cst_nil_left, cst_nil_left]; exact Nat.le_refl _
  | succ n ih =>
    intro a b h
    match a, b, h with
    | [], b, _ => rw [cst_nil_left, cst_nil_left]; exact Nat.le_refl _
    | x :: a, [], _ => rw [cst_nil_right, cst_nil_right]; exact Nat.le_refl _
    | x :: a, y :: b, h =>
      have i1 := ih a (y :: b) (by simp at h ⊢; omega)
      have i2 := ih (x :: a) b (by simp at h ⊢; omega)
      have i3 := ih a b (by simp at h ⊢; omega)
      have d1 := cst_del true x a (y :: b)
      have d2 := cst_ins true y (x :: a) b
      have d3 := cst_sub true x y a b
      rw [cst_cons false]
      simp only [Bool.false_and, Bool.false_eq_true, if_false]
      generalize (if x = y then 0 else 1) = t at *
      omega
theorem cst_false_le : ∀ (n : Nat) (a b : List Int), a.length + b.length ≤ n → cst false a b ≤ 2 * cst true a b := by
  intro n
  induction n with
  | zero =>
    intro a b h
    have h1 : a = [] := List.eq_nil_of_length_eq_zero (by omega)
    subst h1
    rw [cst_nil_left, cst_nil_left]; omega
  | succ n ih =>
    intro a b h
    match a, b, h with
    | [], b, _ => rw [cst_nil_left, cst_nil_left]; omega
    | x :: a, [], _ => rw [cst_nil_right, cst_nil_right]; omega
    | x :: a, y :: b, h =>
      have i1 := ih a (y :: b) (by simp at h ⊢; omega)
      have i2 := ih (x :: a) b (by simp at h ⊢; omega)
      have i3 := ih a b (by simp at h ⊢; omega)
      have d1 := cst_del false x a (y :: b)
      have d2 := cst_ins false y (x :: a) b
      have d3 := cst_sub false x y a b
      rw [cst_cons true]
      by_cases hs : swH (x :: a) (y :: b) = true
      · rw [if_pos (by simp [hs])]
        have hsw : cst false (x :: a) (y :: b) ≤ cst false a.tail b.tail + 2 := by
          match a, b, hs with
          | x2 :: a, y2 :: b, _ =>
            have e1 := cst_sub false x y (x2 :: a) (y2 :: b)
            have e2 := cst_sub false x2 y2 a b
            have t1 : (if x = y then 0 else 1) ≤ 1 := by split <;> omega
            have t2 : (if x2 = y2 then 0 else 1) ≤ 1 := by split <;> omega
            simp only [List.tail_cons]
            omega
          | [], b, hs => simp [swH] at hs
          | x2 :: a, [], hs => simp [swH] at hs
        have i4 := ih a.tail b.tail (by simp at h ⊢; omega)
        generalize (if x = y then 0 else 1) = t at *
        omega
      · rw [if_neg (by simp [hs])]
        generalize (if x = y then 0 else 1) = t at *
        omega
end Go.Proofs.Ytgagjmnmfgfpfaa
