/- FnSpoken: plain facts. -/
import Derived.Test.YtdlagajnefkklaaDoorHnP
import Derived.Test.YtdlagajnefkklaaDoorUnP
namespace Go.Proofs.YtdlagajnefkklaaDoor
open Go.RowKit

/-- The letters of a speech stand where they are found, and are no marks. -/
def lettB (a : ByteArray) : Bool := (List.range a.size).all fun i => decide (ix (bz a) ((bA a i).toNat : Int) = (i : Int)) && decide (bA a i ≠ 45)
theorem lettB_at {a : ByteArray} (h : lettB a = true) {i : Nat} (hi : i < a.size) : ix (bz a) ((bA a i).toNat : Int) = (i : Int) ∧ bA a i ≠ 45 := by
  have := List.all_eq_true.1 h i (List.mem_range.2 hi)
  simpa using this
section
variable {a b : ByteArray}
theorem syl_dig (ha : lettB a = true) (hb : lettB b = true) (hz : 1 ≤ b.size) {d : Nat} (hd : d < a.size * b.size) (m : Nat) : okT a b (syl a b d) = true ∧ hnN a b (syl a b d) m = m * (a.size * b.size) + d := by
  have h1 : d / b.size < a.size := (Nat.div_lt_iff_lt_mul (by omega)).2 hd
  have h2 : d % b.size < b.size := Nat.mod_lt _ (by omega)
  have e1 : xA a (syl a b d) = ((d / b.size : Nat) : Int) := (lettB_at ha h1).1
  have e2 : xB b (syl a b d) = ((d % b.size : Nat) : Int) := (lettB_at hb h2).1
  refine ⟨?_, ?_⟩
  · unfold okT
    rw [e1, e2, syl_size, decide_eq_true (Int.natCast_nonneg (d / b.size)), decide_eq_true (Int.natCast_nonneg (d % b.size))]
    rfl
  · unfold hnN
    rw [e1, e2, Int.toNat_natCast, Int.toNat_natCast, Nat.mul_comm (d / b.size), Nat.div_add_mod]
theorem hnG_syl (ha : lettB a = true) (hb : lettB b = true) (hz : 1 ≤ b.size) (hB : 1 ≤ a.size * b.size) (n : Nat) : ∀ (k m : Nat), hnG a b (sylS a b n k).reverse m = some (m * (a.size * b.size) ^ k + n % (a.size * b.size) ^ k)
  | 0, m => by simp [sylS, hnG, Nat.mod_one]
  | k + 1, m => by
    rw [sylS_succ, List.reverse_append, List.reverse_singleton, List.singleton_append]
    have hd : dgN (a.size * b.size) n k < a.size * b.size := Nat.mod_lt _ (by omega)
    obtain ⟨h1, h2⟩ := syl_dig ha hb hz hd m
    show (if okT a b (sylN a b n k) then hnG a b (sylS a b n k).reverse (hnN a b (sylN a b n k) m) else none) = _
    unfold sylN
    rw [h1, if_pos rfl, h2, hnG_syl ha hb hz hB n k]
    congr 1
    rw [Nat.mod_pow_succ, Nat.pow_succ]
    unfold dgN
    generalize a.size * b.size = B
    generalize n / B ^ k % B = d
    rw [Nat.add_mul, Nat.mul_assoc, Nat.mul_comm B (B ^ k), Nat.mul_comm d (B ^ k)]
    omega
theorem cutS_spT (ha : lettB a = true) (hb : lettB b = true) (hz : 1 ≤ b.size) (hB : 1 ≤ a.size * b.size) (n k : Nat) (hk : 1 ≤ k) : cutS (spT a b n k) = (sylS a b n k).reverse := by
  refine (cutS_of ?_).symm
  rw [spT_join]
  refine (cutG_of _ ?_ ?_).symm
  · intro e
    have := congrArg List.length e
    rw [List.length_map, List.length_reverse, sylS_len, List.length_nil] at this
    omega
  · intro x hx c hc
    obtain ⟨t, ht, rfl⟩ := List.mem_map.1 hx
    rw [List.mem_reverse] at ht
    obtain ⟨i, hi, rfl⟩ := List.mem_map.1 ht
    have hd : dgN (a.size * b.size) n i < a.size * b.size := Nat.mod_lt _ (by omega)
    have h1 : dgN (a.size * b.size) n i / b.size < a.size := (Nat.div_lt_iff_lt_mul (by omega)).2 hd
    have h2 : dgN (a.size * b.size) n i % b.size < b.size := Nat.mod_lt _ (by omega)
    have hc2 : c = bA a (dgN (a.size * b.size) n i / b.size) ∨ c = bA b (dgN (a.size * b.size) n i % b.size) := by
      unfold sylN syl at hc
      simpa using hc
    rcases hc2 with rfl | rfl
    · exact (lettB_at ha h1).2
    · exact (lettB_at hb h2).2
theorem spT_len (ha : lettB a = true) (hb : lettB b = true) (hz : 1 ≤ b.size) (hB : 1 ≤ a.size * b.size) (n k : Nat) (hk : 1 ≤ k) : (spT a b n k).size = 3 * k - 1 := by
  have h1 := cutS_sum (spT a b n k)
  rw [cutS_spT ha hb hz hB n k hk] at h1
  have h2 : ((sylS a b n k).reverse.map ByteArray.size).sum = 2 * k := by
    rw [List.map_reverse, List.sum_reverse]
    clear h1 hk
    induction k with
    | zero => rfl
    | succ k ih =>
      rw [sylS_succ, List.map_append, List.sum_append, ih]
      show 2 * k + (2 + 0) = _
      omega
  rw [h2, List.length_reverse, sylS_len] at h1
  omega
/-- A spoken number is heard. -/
theorem hear_spT (hv : vsB a b = true) (ha : lettB a = true) (hb : lettB b = true) (n k : Nat) (hk : 1 ≤ k ∧ k ≤ 8) (hp : pwB (a.size * b.size) k = true) (hn : n < (a.size * b.size) ^ k) : hnO a b (spT a b n k) = some n := by
  have hB := vsB_base hv
  obtain ⟨_, hz, _⟩ := vsB_sz hv
  have hc := cutS_spT ha hb hz hB.1 n k hk.1
  have hl : (cutS (spT a b n k)).length = k := by rw [hc, List.length_reverse, sylS_len]
  rw [hnO_y hv (by omega) (by rw [hl]; exact hp), hc, hnG_syl ha hb hz hB.1]
  rw [Nat.zero_mul, Nat.zero_add, Nat.mod_eq_of_lt hn]
end
def spF : ByteArray := ⟨#[98, 100, 102, 103, 104, 106, 107, 108, 109, 110, 112, 114, 115, 116, 118, 122]⟩
def spG : ByteArray := ⟨#[97, 105, 111, 117]⟩
def spkOk (i j : Nat) : Bool := vsB (spF.extract i 16) (spG.extract j 4) && (lettB (spF.extract i 16) && lettB (spG.extract j 4))
theorem spkAll : ((List.range 12).all fun i => (List.range 4).all fun j => spkOk i j) = true := by decide +kernel
theorem spk_ok {i j : Nat} (hi : i < 12) (hj : j < 4) : vsB (spF.extract i 16) (spG.extract j 4) = true ∧ lettB (spF.extract i 16) = true ∧ lettB (spG.extract j 4) = true := by
  have := List.all_eq_true.1 (List.all_eq_true.1 spkAll i (List.mem_range.2 hi)) j (List.mem_range.2 hj)
  unfold spkOk at this
  simpa using this
theorem spk_sz {i j : Nat} (hi : i < 12) (hj : j < 4) : (spF.extract i 16).size = 16 - i ∧ (spG.extract j 4).size = 4 - j := by
  have h1 : spF.size = 16 := rfl
  have h2 : spG.size = 4 := rfl
  rw [ByteArray.size_extract, ByteArray.size_extract, h1, h2]
  omega
end Go.Proofs.YtdlagajnefkklaaDoor
