/- The least number of letters without swaps: the same from both ends, in plain numbers. -/
import Derived.Test.YtgagjmnmfgfpfaaCostM
namespace Go.Proofs.Ytgagjmnmfgfpfaa
open Go.RowKit

theorem cst_sub (sw : Bool) (x y : Int) (a b : List Int) : cst sw (x :: a) (y :: b) ≤ cst sw a b + if x = y then 0 else 1 := by
  rw [cst_cons]; split <;> omega
/-- An alignment: what stands over what. -/
abbrev Alg := List (Option Int × Option Int)
def top (l : Alg) : List Int := l.filterMap (·.1)
def bot (l : Alg) : List Int := l.filterMap (·.2)
def acost (l : Alg) : Nat := (l.map fun p => if p.1 = p.2 then 0 else 1).sum
theorem acost_cons (p : Option Int × Option Int) (l : Alg) : acost (p :: l) = (if p.1 = p.2 then 0 else 1) + acost l := by simp [acost]
theorem cst_le_acost (sw : Bool) : ∀ l : Alg, cst sw (top l) (bot l) ≤ acost l
  | [] => by simp [top, bot, cst_nil_left]
  | (none, none) :: l => by
    have := cst_le_acost sw l
    rw [acost_cons]; simpa [top, bot] using this
  | (some x, none) :: l => by
    have := cst_le_acost sw l
    have h := cst_del sw x (top l) (bot l)
    rw [acost_cons]
    have e1 : top ((some x, none) :: l) = x :: top l := by simp [top]
    have e2 : bot ((some x, none) :: l) = bot l := by simp [bot]
    rw [e1, e2]; simp; omega
  | (none, some y) :: l => by
    have := cst_le_acost sw l
    have h := cst_ins sw y (top l) (bot l)
    rw [acost_cons]
    have e1 : top ((none, some y) :: l) = top l := by simp [top]
    have e2 : bot ((none, some y) :: l) = y :: bot l := by simp [bot]
    rw [e1, e2]; simp; omega
  | (some x, some y) :: l => by
    have := cst_le_acost sw l
    have h := cst_sub sw x y (top l) (bot l)
    rw [acost_cons]
    have e1 : top ((some x, some y) :: l) = x :: top l := by simp [top]
    have e2 : bot ((some x, some y) :: l) = y :: bot l := by simp [bot]
    rw [e1, e2]
    simp only [Option.some.injEq]
    omega
theorem alg_attain : ∀ (n : Nat) (a b : List Int), a.length + b.length ≤ n → ∃ l : Alg, top l = a ∧ bot l = b ∧ acost l = cst false a b := by
  intro n
  induction n with
  | zero =>
    intro a b h
    have h1 : a = [] := List.eq_nil_of_length_eq_zero (by omega)
    have h2 : b = [] := List.eq_nil_of_length_eq_zero (by omega)
    subst h1; subst h2
    exact ⟨[], rfl, rfl, by simp [acost, cst_nil_left]⟩
  | succ n ih =>
    intro a b h
    match a, b, h with
    | [], [], _ => exact ⟨[], rfl, rfl, by simp [acost, cst_nil_left]⟩
    | [], y :: b, h =>
      obtain ⟨l, h1, h2, h3⟩ := ih [] b (by simp at h ⊢; omega)
      refine ⟨(none, some y) :: l, by simpa [top] using h1, by simp [bot] at h2 ⊢; exact h2, ?_⟩
      rw [acost_cons, h3, cst_nil_left, cst_nil_left]; simp; omega
    | x :: a, [], h =>
      obtain ⟨l, h1, h2, h3⟩ := ih a [] (by simp at h ⊢; omega)
      refine ⟨(some x, none) :: l, by simp [top] at h1 ⊢; exact h1, by simpa [bot] using h2, ?_⟩
      rw [acost_cons, h3, cst_nil_right, cst_nil_right]; simp; omega
    | x :: a, y :: b, h =>
      simp only [List.length_cons] at h
      have hc := cst_cons false x y a b
      simp only [Bool.false_and, Bool.false_eq_true, if_false] at hc
      by_cases h1 : cst false (x :: a) (y :: b) = cst false a (y :: b) + 1
      · obtain ⟨l, e1, e2, e3⟩ := ih a (y :: b) (by simp; omega)
        refine ⟨(some x, none) :: l, by simp [top] at e1 ⊢; exact e1, by simpa [bot] using e2, ?_⟩
        rw [acost_cons, e3, h1]; simp; omega
      · by_cases h2 : cst false (x :: a) (y :: b) = cst false (x :: a) b + 1
        · obtain ⟨l, e1, e2, e3⟩ := ih (x :: a) b (by simp; omega)
          refine ⟨(none, some y) :: l, by simpa [top] using e1, by simp [bot] at e2 ⊢; exact e2, ?_⟩
          rw [acost_cons, e3, h2]; simp; omega
        · obtain ⟨l, e1, e2, e3⟩ := ih a b (by omega)
          refine ⟨(some x, some y) :: l, by simp [top] at e1 ⊢; exact e1, by simp [bot] at e2 ⊢; exact e2, ?_⟩
          rw [acost_cons, e3]
          simp only [Option.some.injEq]
          omega
theorem alg_of (a b : List Int) : ∃ l : Alg, top l = a ∧ bot l = b ∧ acost l = cst false a b := alg_attain _ a b (Nat.le_refl _)
theorem acost_rev (l : Alg) : acost l.reverse = acost l := by
  unfold acost; rw [List.map_reverse, List.sum_reverse]
theorem cst_rev_le (a b : List Int) : cst false a.reverse b.reverse ≤ cst false a b := by
  obtain ⟨l, h1, h2, h3⟩ := alg_of a b
  have := cst_le_acost false l.reverse
  have e1 : top l.reverse = a.reverse := by unfold top; rw [List.filterMap_reverse]; exact congrArg _ h1
  have e2 : bot l.reverse = b.reverse := by unfold bot; rw [List.filterMap_reverse]; exact congrArg _ h2
  rw [e1, e2, acost_rev, h3] at this
  exact this
theorem cst_rev (a b : List Int) : cst false a.reverse b.reverse = cst false a b := by
  have h1 := cst_rev_le a b
  have h2 := cst_rev_le a.reverse b.reverse
  rw [List.reverse_reverse, List.reverse_reverse] at h2
  omega
theorem cst_snoc (a b : List Int) (x y : Int) : cst false (a ++ [x]) (b ++ [y]) =
    min (min (cst false a (b ++ [y]) + 1) (cst false (a ++ [x]) b + 1)) (cst false a b + if x = y then 0 else 1) := by
  have h := cst_cons false x y a.reverse b.reverse
  simp only [Bool.false_and, Bool.false_eq_true, if_false] at h
  rw [← cst_rev (a ++ [x]) (b ++ [y]), ← cst_rev a (b ++ [y]), ← cst_rev (a ++ [x]) b, ← cst_rev a b]
  simp only [List.reverse_append, List.reverse_cons, List.reverse_nil, List.nil_append, List.cons_append]
  exact h
/-- The least number for the beginnings. -/
def pAt (a b : List Int) (i k : Nat) : Nat := cst false (a.take i) (b.take k)
theorem take_snocI {a : List Int} {i : Nat} (h : i < a.length) : a.take (i + 1) = a.take i ++ [a.getD i 0] := by
  rw [List.take_succ_eq_append_getElem h]; simp [h]
theorem pAt_zero_left (a b : List Int) (k : Nat) (h : k ≤ b.length) : pAt a b 0 k = k := by
  unfold pAt; rw [List.take_zero, cst_nil_left, List.length_take]; omega
theorem pAt_zero_right (a b : List Int) (i : Nat) (h : i ≤ a.length) : pAt a b i 0 = i := by
  unfold pAt; rw [List.take_zero, cst_nil_right, List.length_take]; omega
theorem pAt_succ (a b : List Int) (i k : Nat) (hi : i < a.length) (hk : k < b.length) : pAt a b (i + 1) (k + 1) =
    min (min (pAt a b i (k + 1) + 1) (pAt a b (i + 1) k + 1)) (pAt a b i k + if a.getD i 0 = b.getD k 0 then 0 else 1) := by
  unfold pAt
  rw [take_snocI hi, take_snocI hk, cst_snoc]
theorem pAt_all (a b : List Int) : pAt a b a.length b.length = cAt false a b 0 0 := by
  unfold pAt cAt; simp
theorem pAt_le (a b : List Int) (i k : Nat) : pAt a b i k ≤ i + k := by
  have := cst_le false (a.take i) (b.take k)
  rw [List.length_take, List.length_take] at this
  unfold pAt; omega
end Go.Proofs.Ytgagjmnmfgfpfaa
