/- The least script in plain numbers: it makes the second word of the first one, and has as many letters other than = as the typing distance. -/
import Derived.Test.YtgagjmnmfgfpfaaScr
import Derived.Test.YtgagjmnmfgfpfaaEditP
namespace Go.Proofs.Ytgagjmnmfgfpfaa
open Go.RowKit

/-- One letter of the script fits, and costs what it should. -/
theorem scS_fits {a b : ByteArray} {i k : Nat} (h : i < a.size ∨ k < b.size) :
    apS a b i k (scS a b i k).1 = some (scS a b i k).2 ∧ cI true a b (scS a b i k).2.1 (scS a b i k).2.2 + (if (scS a b i k).1 = 61 then 0 else 1) = cI true a b i k ∧ 0 ≤ (scS a b i k).1 ∧ (scS a b i k).1 ≤ 90 := by
  unfold scS
  by_cases h1 : i < a.size ∧ k < b.size ∧ (bz a).getD i 0 = (bz b).getD k 0 ∧ cI true a b (i + 1) (k + 1) = cI true a b i k
  · rw [if_pos h1]
    refine ⟨?_, ?_, by simp, by simp⟩
    · simp only; rw [apS_eq, if_pos ⟨h1.1, h1.2.1, h1.2.2.1⟩]
    · simp only [if_true]; have := h1.2.2.2; omega
  · rw [if_neg h1]
    by_cases h2 : i < a.size ∧ cI true a b (i + 1) k + 1 = cI true a b i k
    · rw [if_pos h2]
      refine ⟨?_, ?_, by simp, by simp⟩
      · simp only; rw [apS_drop, if_pos h2.1]
      · simp only; rw [if_neg (by decide)]; exact h2.2
    · rw [if_neg h2]
      by_cases h3 : k < b.size ∧ cI true a b i (k + 1) + 1 = cI true a b i k
      · rw [if_pos h3]
        refine ⟨?_, ?_, by simp, by simp⟩
        · simp only; rw [apS_put, if_pos h3.1]
        · simp only; rw [if_neg (by decide)]; exact h3.2
      · rw [if_neg h3]
        by_cases h4 : i < a.size ∧ k < b.size ∧ ¬ (bz a).getD i 0 = (bz b).getD k 0 ∧ cI true a b (i + 1) (k + 1) + 1 = cI true a b i k
        · rw [if_pos h4]
          refine ⟨?_, ?_, by simp, by simp⟩
          · simp only; rw [apS_turn, if_pos ⟨h4.1, h4.2.1, h4.2.2.1⟩]
          · simp only; rw [if_neg (by decide)]; exact h4.2.2.2
        · rw [if_neg h4]
          have hs := sc_swap h h1 h2 h3 h4
          refine ⟨?_, ?_, by simp, by simp⟩
          · simp only; rw [apS_swap, if_pos hs.1]
          · simp only; rw [if_neg (by decide)]; exact hs.2
/-- The letters other than =. -/
def offs (l : List Int) : Nat := (l.map fun c => if c = 61 then 0 else 1).sum
theorem offs_snoc (l : List Int) (c : Int) : offs (l ++ [c]) = offs l + if c = 61 then 0 else 1 := by simp [offs]
theorem runS_snoc {a b : ByteArray} {c : Int} {I K : Nat} : ∀ (l : List Int) (i k i' k' : Nat), runS a b l i k = some (i', k') → apS a b i' k' c = some (I, K) → runS a b (l ++ [c]) i k = some (I, K)
  | [], i, k, i', k', h, h2 => by
    simp only [runS, Option.some.injEq, Prod.mk.injEq] at h
    obtain ⟨rfl, rfl⟩ := h
    simp [runS, h2]
  | d :: l, i, k, i', k', h, h2 => by
    simp only [runS, List.cons_append] at h ⊢
    cases e : apS a b i k d with
    | none => rw [e] at h; cases h
    | some q =>
      obtain ⟨p, r⟩ := q
      rw [e] at h
      simp only at h ⊢
      exact runS_snoc l p r i' k' h h2
/-- The state after m rounds: the letters so far lead there and cost what is no longer to be paid. -/
theorem scR_inv (a b : ByteArray) : ∀ m, ∃ l i k, ScAt a b (min m m) l i k ∧ runS a b l 0 0 = some (i, k) ∧ (offs l : Int) + cI true a b i k = cI true a b 0 0 ∧ (∀ c ∈ l, 0 ≤ c ∧ c ≤ 90) ∨ ∃ l, scr a b = l ∧ runS a b l 0 0 = some (a.size, b.size) ∧ (offs l : Int) = cI true a b 0 0 ∧ (∀ c ∈ l, 0 ≤ c ∧ c ≤ 90)
  | 0 => ⟨[], 0, 0, .inl ⟨by simpa using ScAt.zero a b, rfl, by simp [offs], by simp⟩⟩
  | m + 1 => by
    obtain ⟨l, i, k, h | h⟩ := scR_inv a b m
    · obtain ⟨hs, hr, hc, hl⟩ := h
      by_cases hd : i < a.size ∨ k < b.size
      · obtain ⟨f1, f2, f3, f4⟩ := scS_fits hd
        rw [Nat.min_self] at hs
        refine ⟨l ++ [(scS a b i k).1], (scS a b i k).2.1, (scS a b i k).2.2, .inl ⟨?_, ?_, ?_, ?_⟩⟩
        · rw [Nat.min_self]; exact hs.next hd rfl
        · exact runS_snoc l 0 0 i k hr f1
        · rw [offs_snoc]
          split <;> rename_i hq
          · rw [if_pos hq] at f2; omega
          · rw [if_neg hq] at f2; omega
        · intro c hc'
          rw [List.mem_append, List.mem_singleton] at hc'
          rcases hc' with hc' | rfl
          · exact hl c hc'
          · exact ⟨f3, f4⟩
      · rw [Nat.min_self] at hs
        have hi := hs.2.1
        have hk := hs.2.2.1
        obtain rfl : i = a.size := by omega
        obtain rfl : k = b.size := by omega
        refine ⟨[], 0, 0, .inr ⟨l, hs.done hd, hr, ?_, hl⟩⟩
        rw [cI_right (Nat.le_refl _)] at hc
        simpa using hc
    · exact ⟨[], 0, 0, .inr h⟩
theorem scr_law (a b : ByteArray) : runS a b (scr a b) 0 0 = some (a.size, b.size) ∧ (offs (scr a b) : Int) = cI true a b 0 0 ∧ ∀ c ∈ scr a b, 0 ≤ c ∧ c ≤ 90 := by
  obtain ⟨l, i, k, h | h⟩ := scR_inv a b (a.size + b.size)
  · obtain ⟨hs, hr, hc, hl⟩ := h
    rw [Nat.min_self] at hs
    have hd : ¬ (i < a.size ∨ k < b.size) := by have := hs.2.2.2.1; have := hs.2.1; have := hs.2.2.1; omega
    have hi := hs.2.1
    have hk := hs.2.2.1
    obtain rfl : i = a.size := by omega
    obtain rfl : k = b.size := by omega
    rw [hs.done hd]
    rw [cI_right (Nat.le_refl _)] at hc
    exact ⟨hr, by simpa using hc, hl⟩
  · obtain ⟨l, rfl, h⟩ := h
    exact h
end Go.Proofs.Ytgagjmnmfgfpfaa
