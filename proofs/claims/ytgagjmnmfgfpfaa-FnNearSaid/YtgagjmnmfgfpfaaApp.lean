/- ApplyScript: the program's and the reference's walk through a script. -/
import Derived.Test.YtgagjmnmfgfpfaaEdit
namespace Go.Proofs.Ytgagjmnmfgfpfaa
open Go.RowKit

/-- One letter of a script at i and k. -/
def apS (a b : ByteArray) (i k : Nat) (c : Int) : Option (Nat × Nat) :=
  if c = 61 then (if i < a.size ∧ k < b.size ∧ (bz a).getD i 0 = (bz b).getD k 0 then some (i + 1, k + 1) else none)
  else if c = 83 then (if i < a.size ∧ k < b.size ∧ ¬ (bz a).getD i 0 = (bz b).getD k 0 then some (i + 1, k + 1) else none)
  else if c = 68 then (if i < a.size then some (i + 1, k) else none)
  else if c = 73 then (if k < b.size then some (i, k + 1) else none)
  else if c = 88 then (if swA (bz a) (bz b) i k = true then some (i + 2, k + 2) else none)
  else none
theorem apS_eq (a b : ByteArray) (i k : Nat) : apS a b i k 61 = if i < a.size ∧ k < b.size ∧ (bz a).getD i 0 = (bz b).getD k 0 then some (i + 1, k + 1) else none := by unfold apS; rw [if_pos rfl]
theorem apS_turn (a b : ByteArray) (i k : Nat) : apS a b i k 83 = if i < a.size ∧ k < b.size ∧ ¬ (bz a).getD i 0 = (bz b).getD k 0 then some (i + 1, k + 1) else none := by unfold apS; rw [if_neg (by decide), if_pos rfl]
theorem apS_drop (a b : ByteArray) (i k : Nat) : apS a b i k 68 = if i < a.size then some (i + 1, k) else none := by unfold apS; rw [if_neg (by decide), if_neg (by decide), if_pos rfl]
theorem apS_put (a b : ByteArray) (i k : Nat) : apS a b i k 73 = if k < b.size then some (i, k + 1) else none := by unfold apS; rw [if_neg (by decide), if_neg (by decide), if_neg (by decide), if_pos rfl]
theorem apS_swap (a b : ByteArray) (i k : Nat) : apS a b i k 88 = if swA (bz a) (bz b) i k = true then some (i + 2, k + 2) else none := by unfold apS; rw [if_neg (by decide), if_neg (by decide), if_neg (by decide), if_neg (by decide), if_pos rfl]
theorem apS_other (a b : ByteArray) (i k : Nat) {c : Int} (h1 : ¬ c = 61) (h2 : ¬ c = 83) (h3 : ¬ c = 68) (h4 : ¬ c = 73) (h5 : ¬ c = 88) : apS a b i k c = none := by
  unfold apS; rw [if_neg h1, if_neg h2, if_neg h3, if_neg h4, if_neg h5]
theorem swA_bd {a b : ByteArray} {i k : Nat} (h : swA (bz a) (bz b) i k = true) : i + 1 < a.size ∧ k + 1 < b.size := by
  unfold swA at h
  simp only [Bool.and_eq_true, decide_eq_true_eq, bz_len] at h
  exact h.1
theorem apS_bd {a b : ByteArray} {i k I K : Nat} {c : Int} (hi : i ≤ a.size) (hk : k ≤ b.size) (h : apS a b i k c = some (I, K)) : I ≤ a.size ∧ K ≤ b.size ∧ i + k + 1 ≤ I + K := by
  unfold apS at h
  split at h
  · split at h
    · simp only [Option.some.injEq, Prod.mk.injEq] at h; omega
    · cases h
  · split at h
    · split at h
      · simp only [Option.some.injEq, Prod.mk.injEq] at h; omega
      · cases h
    · split at h
      · split at h
        · simp only [Option.some.injEq, Prod.mk.injEq] at h; omega
        · cases h
      · split at h
        · split at h
          · simp only [Option.some.injEq, Prod.mk.injEq] at h; omega
          · cases h
        · split at h
          · split at h
            · rename_i hs
              have := swA_bd hs
              simp only [Option.some.injEq, Prod.mk.injEq] at h; omega
            · cases h
          · cases h
def runS (a b : ByteArray) : List Int → Nat → Nat → Option (Nat × Nat)
  | [], i, k => some (i, k)
  | c :: cs, i, k => match apS a b i k c with
    | some (I, K) => runS a b cs I K
    | none => none
theorem run_step {a b : ByteArray} {cs : List Int} {t i k I K : Nat} (ht : t < cs.length) (h : apS a b i k (cs.getD t 0) = some (I, K)) : runS a b (cs.drop t) i k = runS a b (cs.drop (t + 1)) I K := by
  rw [drop_cons ht]
  conv => lhs; unfold runS
  rw [h]
theorem run_none {a b : ByteArray} {cs : List Int} {t i k : Nat} (ht : t < cs.length) (h : apS a b i k (cs.getD t 0) = none) : runS a b (cs.drop t) i k = none := by
  rw [drop_cons ht]
  unfold runS
  rw [h]
theorem run_len {a b : ByteArray} : ∀ (cs : List Int) (i k I K : Nat), i ≤ a.size → k ≤ b.size → runS a b cs i k = some (I, K) → i + k + cs.length ≤ I + K ∧ I ≤ a.size ∧ K ≤ b.size
  | [], i, k, I, K, hi, hk, h => by
    simp only [runS, Option.some.injEq, Prod.mk.injEq] at h
    simp; omega
  | c :: cs, i, k, I, K, hi, hk, h => by
    unfold runS at h
    cases e : apS a b i k c with
    | none => rw [e] at h; cases h
    | some p =>
      obtain ⟨P, Q⟩ := p
      rw [e] at h
      have h1 := apS_bd hi hk e
      have h2 := run_len cs P Q I K h1.1 h1.2.1 h
      simp only [List.length_cons]
      omega
/-- A script makes b of a. -/
def apB (s a b : ByteArray) : Bool := decide (runS a b (bz s) 0 0 = some (a.size, b.size))
theorem apB_long {s a b : ByteArray} (h : a.size + b.size < s.size) : apB s a b = false := by
  unfold apB
  refine decide_eq_false fun e => ?_
  have := run_len (bz s) 0 0 _ _ (Nat.zero_le _) (Nat.zero_le _) e
  rw [bz_len] at this
  omega
theorem apB_none {s a b : ByteArray} (h : runS a b (bz s) 0 0 = none) : apB s a b = false := by
  unfold apB; rw [h]; exact decide_eq_false (by simp)
theorem apB_some {s a b : ByteArray} {i k : Nat} (h : runS a b (bz s) 0 0 = some (i, k)) : apB s a b = (decide (i = a.size) && decide (k = b.size)) := by
  unfold apB; rw [h, Bool.eq_iff_iff]; simp
/-- What a script makes. -/
def apV (s a b : ByteArray) : Value := if (digB a 36 20 && digB b 36 20) && apB s a b then .tuple #[.string b, .bool true] else .tuple #[.string ByteArray.empty, .bool false]
theorem apV_shape (s a b : ByteArray) : ∃ (x : ByteArray) (c : Bool), apV s a b = .tuple #[.string x, .bool c] := by
  unfold apV; split <;> exact ⟨_, _, rfl⟩
theorem apV_no1 {s a b : ByteArray} (h : digB a 36 20 = false) : apV s a b = .tuple #[.string ByteArray.empty, .bool false] := by unfold apV; rw [h]; rfl
theorem apV_no2 {s a b : ByteArray} (h : digB b 36 20 = false) : apV s a b = .tuple #[.string ByteArray.empty, .bool false] := by unfold apV; rw [h]; simp
theorem apV_no3 {s a b : ByteArray} (h : apB s a b = false) : apV s a b = .tuple #[.string ByteArray.empty, .bool false] := by unfold apV; rw [h]; simp
theorem apV_yes {s a b : ByteArray} (h1 : digB a 36 20 = true) (h2 : digB b 36 20 = true) (h3 : apB s a b = true) : apV s a b = .tuple #[.string b, .bool true] := by unfold apV; rw [h1, h2, h3]; rfl
end Go.Proofs.Ytgagjmnmfgfpfaa
