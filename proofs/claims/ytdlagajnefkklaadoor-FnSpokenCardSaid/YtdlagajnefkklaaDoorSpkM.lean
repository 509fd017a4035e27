/- Numbers that are spoken: plain lists. -/
import Derived.Test.YtdlagajnefkklaaDoorGwM
import Derived.Test.YtdlagajnefkklaaDoorSpeech2
namespace Go.Proofs.YtdlagajnefkklaaDoor
open Go.RowKit

def bA (t : ByteArray) (i : Nat) : UInt8 := t.data.toList.getD i 0
theorem bA_get (t : ByteArray) (i : Nat) (h : i < t.size) : bA t i = t[i] := by
  unfold bA
  have h2 : i < t.data.toList.length := by simpa using h
  rw [List.getD_eq_getElem?_getD, List.getElem?_eq_getElem h2]
  rfl
/-- The syllable of a digit. -/
def syl (a b : ByteArray) (d : Nat) : ByteArray := ⟨#[bA a (d / b.size), bA b (d % b.size)]⟩
def dgN (B n i : Nat) : Nat := n / B ^ i % B
def sylN (a b : ByteArray) (n i : Nat) : ByteArray := syl a b (dgN (a.size * b.size) n i)
def sylS (a b : ByteArray) (n k : Nat) : List ByteArray := (List.range k).map (sylN a b n)
theorem sylS_len (a b : ByteArray) (n k : Nat) : (sylS a b n k).length = k := by simp [sylS]
theorem sylS_succ (a b : ByteArray) (n k : Nat) : sylS a b n (k + 1) = sylS a b n k ++ [sylN a b n k] := by simp [sylS, List.range_succ]
/-- The reference's text behind k syllables: the later ones stand in front. -/
def spT (a b : ByteArray) (n : Nat) : Nat → ByteArray
  | 0 => ByteArray.empty
  | k + 1 => (if k = 0 then sylN a b n k else sylN a b n k ++ dash) ++ spT a b n k
theorem spT_zero (a b : ByteArray) (n : Nat) : spT a b n (0 + 1) = sylN a b n 0 ++ ByteArray.empty := rfl
theorem spT_more (a b : ByteArray) (n k : Nat) (h : 0 < k) : spT a b n (k + 1) = (sylN a b n k ++ dash) ++ spT a b n k := by
  show (if k = 0 then sylN a b n k else sylN a b n k ++ dash) ++ spT a b n k = _
  rw [if_neg (by omega)]
theorem intercalate_cons2 {α : Type} (sep x : List α) (l : List (List α)) (h : l ≠ []) : sep.intercalate (x :: l) = x ++ sep ++ sep.intercalate l := by
  cases l with
  | nil => exact absurd rfl h
  | cons y l => simp [List.intercalate, List.intersperse]
theorem spT_join (a b : ByteArray) (n : Nat) : ∀ k, (spT a b n k).data.toList = Lib.join ((sylS a b n k).reverse.map (·.data.toList)) [45]
  | 0 => rfl
  | k + 1 => by
    have ih := spT_join a b n k
    rw [sylS_succ, List.reverse_append, List.reverse_singleton, List.singleton_append, List.map_cons]
    by_cases h : k = 0
    · subst h
      simp [spT, sylS, Lib.join, List.intercalate]
    · rw [spT_more a b n k (by omega)]
      unfold Lib.join at ih ⊢
      rw [intercalate_cons2 _ _ _ (by
        intro e
        have := congrArg List.length e
        simp [sylS_len] at this; exact h this), ← ih]
      simp [dash]
theorem join_spT (a b : ByteArray) (n k : Nat) : (⟨(Lib.join ((sylS a b n k).reverse.map (·.data.toList)) [45]).toArray⟩ : ByteArray) = spT a b n k := by
  rw [← spT_join]
theorem syl_size (a b : ByteArray) (d : Nat) : (syl a b d).size = 2 := rfl
theorem spT_size (a b : ByteArray) (n : Nat) : ∀ k, (spT a b n k).size ≤ 3 * k
  | 0 => by show 0 ≤ 0; omega
  | k + 1 => by
    have ih := spT_size a b n k
    have h2 : (sylN a b n k).size = 2 := rfl
    by_cases h : k = 0
    · subst h
      rw [spT_zero, ByteArray.size_append, h2]
      show 2 + 0 ≤ _
      omega
    · rw [spT_more a b n k (by omega), ByteArray.size_append, ByteArray.size_append, h2]
      have : dash.size = 1 := rfl
      omega
def maxV : Nat := 1000000000000000
/-- So many numbers are not too many. -/
def pwB (B k : Nat) : Bool := decide (B ^ k ≤ maxV)
theorem pwB_no {B k i : Nat} (hB : 1 ≤ B) (hi : i + 1 ≤ k) (h : maxV / B < B ^ i) : pwB B k = false := by
  unfold pwB
  rw [decide_eq_false_iff_not]
  intro hk
  have h1 : B ^ (i + 1) ≤ B ^ k := Nat.pow_le_pow_right hB hi
  have h2 : B ^ i * B ≤ maxV := by rw [← Nat.pow_succ]; exact Nat.le_trans h1 hk
  have h3 := (Nat.le_div_iff_mul_le (show 0 < B by omega)).2 h2
  omega
theorem pwB_step {B i : Nat} (hB : 1 ≤ B) (h : ¬ maxV / B < B ^ i) : B ^ (i + 1) ≤ maxV := by
  rw [Nat.pow_succ]
  exact (Nat.le_div_iff_mul_le (show 0 < B by omega)).1 (by omega)
theorem div_pow_succ (n B k : Nat) : n / B ^ (k + 1) = n / B ^ k / B := by rw [Nat.pow_succ, Nat.div_div_eq_div_mul]
def spB (a b : ByteArray) (n k : Int) : Bool := vsB a b && (inB k 1 8 && (pwB (a.size * b.size) k.toNat && inB n 0 (((a.size * b.size) ^ k.toNat : Nat) - 1)))
def spS (a b : ByteArray) (n k : Int) : ByteArray := if spB a b n k then spT a b n.toNat k.toNat else ByteArray.empty
theorem vsB_sz {a b : ByteArray} (h : vsB a b = true) : (1 ≤ a.size ∧ a.size ≤ 20) ∧ (1 ≤ b.size ∧ b.size ≤ 6) := by
  unfold vsB at h
  rw [Bool.and_eq_true, Bool.and_eq_true, inB_iff, inB_iff] at h
  omega
theorem vsB_base {a b : ByteArray} (h : vsB a b = true) : 1 ≤ a.size * b.size ∧ a.size * b.size ≤ 120 := by
  obtain ⟨⟨h1, h2⟩, h3, h4⟩ := vsB_sz h
  exact ⟨Nat.mul_le_mul h1 h3, Nat.mul_le_mul h2 h4⟩
theorem sp_ret {s t : ByteArray} {c d : Bool} (h1 : s = t) (h2 : c = d) : Ending.returned (.tuple #[.string t, .bool d]) = .returned (.tuple #[.string s, .bool c]) := by rw [h1, h2]
theorem spS_no {a b : ByteArray} {n k : Int} (h : spB a b n k = false) : spS a b n k = ByteArray.empty := by unfold spS; rw [h]; rfl
theorem spS_yes {a b : ByteArray} {n k : Int} (h : spB a b n k = true) : spS a b n k = spT a b n.toNat k.toNat := by unfold spS; rw [h]; rfl
end Go.Proofs.YtdlagajnefkklaaDoor
