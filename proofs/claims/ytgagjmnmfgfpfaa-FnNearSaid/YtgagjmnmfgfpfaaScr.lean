/- The least script of two words, letter by letter, in plain numbers. -/
import Derived.Test.YtgagjmnmfgfpfaaAppI
import Derived.Test.YtgagjmnmfgfpfaaLibB
namespace Go.Proofs.Ytgagjmnmfgfpfaa
open Go.RowKit

/-- The next letter of the script, and where it leads. -/
def scS (a b : ByteArray) (i k : Nat) : Int × Nat × Nat :=
  if i < a.size ∧ k < b.size ∧ (bz a).getD i 0 = (bz b).getD k 0 ∧ cI true a b (i + 1) (k + 1) = cI true a b i k then (61, i + 1, k + 1)
  else if i < a.size ∧ cI true a b (i + 1) k + 1 = cI true a b i k then (68, i + 1, k)
  else if k < b.size ∧ cI true a b i (k + 1) + 1 = cI true a b i k then (73, i, k + 1)
  else if i < a.size ∧ k < b.size ∧ ¬ (bz a).getD i 0 = (bz b).getD k 0 ∧ cI true a b (i + 1) (k + 1) + 1 = cI true a b i k then (83, i + 1, k + 1)
  else (88, i + 2, k + 2)
theorem cI_right {a b : ByteArray} {i k : Nat} (hk : b.size ≤ k) : cI true a b i k = ((a.size - i : Nat) : Int) := by
  unfold cI; rw [cAt_right _ _ _ _ _ (by rw [bz_len]; exact hk), bz_len]
theorem cI_left {a b : ByteArray} {i k : Nat} (hi : a.size ≤ i) : cI true a b i k = ((b.size - k : Nat) : Int) := by
  unfold cI; rw [cAt_left _ _ _ _ _ (by rw [bz_len]; exact hi), bz_len]
/-- Where no other letter serves, two symbols change places. -/
theorem sc_swap {a b : ByteArray} {i k : Nat} (h : i < a.size ∨ k < b.size)
    (h1 : ¬ (i < a.size ∧ k < b.size ∧ (bz a).getD i 0 = (bz b).getD k 0 ∧ cI true a b (i + 1) (k + 1) = cI true a b i k))
    (h2 : ¬ (i < a.size ∧ cI true a b (i + 1) k + 1 = cI true a b i k)) (h3 : ¬ (k < b.size ∧ cI true a b i (k + 1) + 1 = cI true a b i k))
    (h4 : ¬ (i < a.size ∧ k < b.size ∧ ¬ (bz a).getD i 0 = (bz b).getD k 0 ∧ cI true a b (i + 1) (k + 1) + 1 = cI true a b i k)) :
    swA (bz a) (bz b) i k = true ∧ cI true a b (i + 2) (k + 2) + 1 = cI true a b i k := by
  by_cases hi : i < a.size
  · by_cases hk : k < b.size
    · have hb := cAt_both true (bz a) (bz b) i k (by rw [bz_len]; exact hi) (by rw [bz_len]; exact hk)
      have e10 : ¬ cI true a b (i + 1) k + 1 = cI true a b i k := fun e => h2 ⟨hi, e⟩
      have e01 : ¬ cI true a b i (k + 1) + 1 = cI true a b i k := fun e => h3 ⟨hk, e⟩
      unfold cI at h1 h4 e10 e01 ⊢
      cases hs : swA (bz a) (bz b) i k
      · rw [hs] at hb
        simp only [Bool.and_false, Bool.false_eq_true, if_false] at hb
        exfalso
        by_cases he : (bz a).getD i 0 = (bz b).getD k 0
        · rw [if_pos he] at hb
          have : ¬ ((cAt true (bz a) (bz b) (i + 1) (k + 1) : Nat) : Int) = (cAt true (bz a) (bz b) i k : Nat) := fun e => h1 ⟨hi, hk, he, e⟩
          omega
        · rw [if_neg he] at hb
          have : ¬ ((cAt true (bz a) (bz b) (i + 1) (k + 1) : Nat) : Int) + 1 = (cAt true (bz a) (bz b) i k : Nat) := fun e => h4 ⟨hi, hk, he, e⟩
          omega
      · rw [hs] at hb
        simp only [Bool.and_self, if_true] at hb
        refine ⟨rfl, ?_⟩
        by_cases he : (bz a).getD i 0 = (bz b).getD k 0
        · rw [if_pos he] at hb
          have : ¬ ((cAt true (bz a) (bz b) (i + 1) (k + 1) : Nat) : Int) = (cAt true (bz a) (bz b) i k : Nat) := fun e => h1 ⟨hi, hk, he, e⟩
          omega
        · rw [if_neg he] at hb
          have : ¬ ((cAt true (bz a) (bz b) (i + 1) (k + 1) : Nat) : Int) + 1 = (cAt true (bz a) (bz b) i k : Nat) := fun e => h4 ⟨hi, hk, he, e⟩
          omega
    · exfalso
      refine h2 ⟨hi, ?_⟩
      rw [cI_right (by omega), cI_right (by omega)]; omega
  · exfalso
    have hk : k < b.size := by omega
    refine h3 ⟨hk, ?_⟩
    rw [cI_left (by omega), cI_left (by omega)]; omega
theorem scS_bd {a b : ByteArray} {i k : Nat} (hi : i ≤ a.size) (hk : k ≤ b.size) (h : i < a.size ∨ k < b.size) :
    (scS a b i k).2.1 ≤ a.size ∧ (scS a b i k).2.2 ≤ b.size ∧ i + k < (scS a b i k).2.1 + (scS a b i k).2.2 := by
  unfold scS
  by_cases h1 : i < a.size ∧ k < b.size ∧ (bz a).getD i 0 = (bz b).getD k 0 ∧ cI true a b (i + 1) (k + 1) = cI true a b i k
  · rw [if_pos h1]; simp only; omega
  · rw [if_neg h1]
    by_cases h2 : i < a.size ∧ cI true a b (i + 1) k + 1 = cI true a b i k
    · rw [if_pos h2]; simp only; omega
    · rw [if_neg h2]
      by_cases h3 : k < b.size ∧ cI true a b i (k + 1) + 1 = cI true a b i k
      · rw [if_pos h3]; simp only; omega
      · rw [if_neg h3]
        by_cases h4 : i < a.size ∧ k < b.size ∧ ¬ (bz a).getD i 0 = (bz b).getD k 0 ∧ cI true a b (i + 1) (k + 1) + 1 = cI true a b i k
        · rw [if_pos h4]; simp only; omega
        · rw [if_neg h4]
          have := swA_bd (sc_swap h h1 h2 h3 h4).1
          simp only; omega
abbrev ScSt := List Int × Nat × Nat
def scT (a b : ByteArray) (st : ScSt) : ScSt := if st.2.1 < a.size ∨ st.2.2 < b.size then (st.1 ++ [(scS a b st.2.1 st.2.2).1], (scS a b st.2.1 st.2.2).2.1, (scS a b st.2.1 st.2.2).2.2) else st
def scR (a b : ByteArray) : Nat → ScSt
  | 0 => ([], 0, 0)
  | m + 1 => scT a b (scR a b m)
theorem scR_stop {a b : ByteArray} {m : Nat} (h : ¬ ((scR a b m).2.1 < a.size ∨ (scR a b m).2.2 < b.size)) : ∀ d, scR a b (m + d) = scR a b m
  | 0 => rfl
  | d + 1 => by
    show scT a b (scR a b (m + d)) = _
    rw [scR_stop h d]
    unfold scT
    rw [if_neg h]
/-- The script. -/
def scr (a b : ByteArray) : List Int := (scR a b (a.size + b.size)).1
/-- The state after m rounds. -/
def ScAt (a b : ByteArray) (m : Nat) (l : List Int) (i k : Nat) : Prop := scR a b m = (l, i, k) ∧ i ≤ a.size ∧ k ≤ b.size ∧ m ≤ i + k ∧ l.length ≤ m
theorem ScAt.zero (a b : ByteArray) : ScAt a b 0 [] 0 0 := ⟨rfl, Nat.zero_le _, Nat.zero_le _, Nat.zero_le _, Nat.zero_le _⟩
theorem ScAt.next {a b : ByteArray} {m : Nat} {l : List Int} {i k : Nat} (h : ScAt a b m l i k) (h2 : i < a.size ∨ k < b.size) {c : Int} {I K : Nat} (hs : scS a b i k = (c, I, K)) : ScAt a b (m + 1) (l ++ [c]) I K := by
  obtain ⟨h1, hi, hk, hm, hl⟩ := h
  have hb := scS_bd hi hk h2
  rw [hs] at hb
  refine ⟨?_, hb.1, hb.2.1, by have := hb.2.2; simp only at this; omega, by simp; omega⟩
  show scT a b (scR a b m) = _
  rw [h1]
  unfold scT
  simp only
  rw [if_pos h2, hs]
theorem ScAt.done {a b : ByteArray} {m : Nat} {l : List Int} {i k : Nat} (h : ScAt a b m l i k) (h2 : ¬ (i < a.size ∨ k < b.size)) : scr a b = l := by
  obtain ⟨h1, hi, hk, hm, hl⟩ := h
  have h3 : ¬ ((scR a b m).2.1 < a.size ∨ (scR a b m).2.2 < b.size) := by rw [h1]; exact h2
  have := scR_stop h3 (a.size + b.size - m)
  unfold scr
  rw [show m + (a.size + b.size - m) = a.size + b.size by omega] at this
  rw [this, h1]
theorem sc61 {a b : ByteArray} {i k : Nat} (hi : i < a.size) (hk : k < b.size) (he : (bz a).getD i 0 = (bz b).getD k 0) (hc : cI true a b (i + 1) (k + 1) = cI true a b i k) : scS a b i k = (61, i + 1, k + 1) := by
  unfold scS; rw [if_pos ⟨hi, hk, he, hc⟩]
theorem sc68 {a b : ByteArray} {i k : Nat} (h1 : ¬ (i < a.size ∧ k < b.size ∧ (bz a).getD i 0 = (bz b).getD k 0 ∧ cI true a b (i + 1) (k + 1) = cI true a b i k)) (hi : i < a.size) (hc : cI true a b (i + 1) k + 1 = cI true a b i k) : scS a b i k = (68, i + 1, k) := by
  unfold scS; rw [if_neg h1, if_pos ⟨hi, hc⟩]
theorem sc73 {a b : ByteArray} {i k : Nat} (h1 : ¬ (i < a.size ∧ k < b.size ∧ (bz a).getD i 0 = (bz b).getD k 0 ∧ cI true a b (i + 1) (k + 1) = cI true a b i k)) (h2 : ¬ (i < a.size ∧ cI true a b (i + 1) k + 1 = cI true a b i k)) (hk : k < b.size) (hc : cI true a b i (k + 1) + 1 = cI true a b i k) : scS a b i k = (73, i, k + 1) := by
  unfold scS; rw [if_neg h1, if_neg h2, if_pos ⟨hk, hc⟩]
theorem sc83 {a b : ByteArray} {i k : Nat} (hi : i < a.size) (hk : k < b.size) (he : ¬ (bz a).getD i 0 = (bz b).getD k 0) (h2 : ¬ cI true a b (i + 1) k + 1 = cI true a b i k) (h3 : ¬ cI true a b i (k + 1) + 1 = cI true a b i k) (hc : cI true a b (i + 1) (k + 1) + 1 = cI true a b i k) : scS a b i k = (83, i + 1, k + 1) := by
  unfold scS; rw [if_neg (fun h => he h.2.2.1), if_neg (fun h => h2 h.2), if_neg (fun h => h3 h.2), if_pos ⟨hi, hk, he, hc⟩]
theorem sc88 {a b : ByteArray} {i k : Nat} (h1 : ¬ ((bz a).getD i 0 = (bz b).getD k 0 ∧ cI true a b (i + 1) (k + 1) = cI true a b i k)) (h2 : ¬ cI true a b (i + 1) k + 1 = cI true a b i k) (h3 : ¬ cI true a b i (k + 1) + 1 = cI true a b i k) (h4 : ¬ (¬ (bz a).getD i 0 = (bz b).getD k 0 ∧ cI true a b (i + 1) (k + 1) + 1 = cI true a b i k)) : scS a b i k = (88, i + 2, k + 2) := by
  unfold scS; rw [if_neg (fun h => h1 h.2.2), if_neg (fun h => h2 h.2), if_neg (fun h => h3 h.2), if_neg (fun h => h4 h.2.2)]
theorem strOfNums_snoc (l : List Int) (c : Int) : strOfNums (l ++ [c]) = strOfNums l ++ ⟨#[UInt8.ofNat c.toNat]⟩ := by
  apply ByteArray.ext
  simp [strOfNums]
theorem app_below {T : TypeId} {k : IntKind} {B n : Nat} {w0 wr w5 : World} {v : Value} {xs : List Int} {o : Obj} (hb : Below B w0 wr) (ho : OK T k B wr v xs) (hB : B ≤ wr.heap.size) (hg : ((wr.drewN n).alloc o).grownBy w5 v.ownBlock) : Below B w0 w5 :=
  own_below ((below_drewN hb n).alloc hB _) (OK.alloc (by exact ho) _) hg (by simp; omega)
end Go.Proofs.Ytgagjmnmfgfpfaa
