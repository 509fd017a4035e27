/- bits.OnesCount of a small set: the number of its members. -/
import Derived.Test.YtdkheeocglfogaaMsk
namespace Go.Proofs.Ytdkheeocglfogaa

def pcA (x : Nat) : Nat := Nat.land (x / 2) 6148914691236517205 + Nat.land x 6148914691236517205
def pcB (x : Nat) : Nat := Nat.land (x / 4) 3689348814741910323 + Nat.land x 3689348814741910323
def pcC (x : Nat) : Nat := Nat.land (x / 16 + x) 1085102592571150095
def pcD (x : Nat) : Nat := x + x / 256
def pcE (x : Nat) : Nat := x + x / 65536
def pcF (x : Nat) : Nat := x + x / 4294967296
def pcN (x : Nat) : Nat := pcF (pcE (pcD (pcC (pcB (pcA x))))) % 128
def chk : Nat → Nat → Bool
  | 0, x => Nat.beq (pcN (2 * x)) (pcN x) && Nat.beq (pcN (2 * x + 1)) (pcN x + 1)
  | k + 1, lo => chk k lo && chk k (lo + 2 ^ k)
theorem chk_at : ∀ (k lo x : Nat), chk k lo = true → lo ≤ x → x < lo + 2 ^ k → pcN (2 * x) = pcN x ∧ pcN (2 * x + 1) = pcN x + 1
  | 0, lo, x, h, h1, h2 => by
    obtain rfl : x = lo := by omega
    unfold chk at h
    rw [Bool.and_eq_true] at h
    exact ⟨Nat.eq_of_beq_eq_true h.1, Nat.eq_of_beq_eq_true h.2⟩
  | k + 1, lo, x, h, h1, h2 => by
    unfold chk at h
    rw [Bool.and_eq_true] at h
    rw [Nat.pow_succ] at h2
    by_cases hx : x < lo + 2 ^ k
    · exact chk_at k lo x h.1 h1 hx
    · exact chk_at k (lo + 2 ^ k) x h.2 (by omega) (by omega)
theorem chk0 : chk 14 0 = true := by decide +kernel
theorem chk1 : chk 14 16384 = true := by decide +kernel
theorem chk2 : chk 14 32768 = true := by decide +kernel
theorem chk3 : chk 14 49152 = true := by decide +kernel
theorem chk4 : chk 14 65536 = true := by decide +kernel
theorem chk5 : chk 14 81920 = true := by decide +kernel
theorem chk6 : chk 14 98304 = true := by decide +kernel
theorem chk7 : chk 14 114688 = true := by decide +kernel
theorem pc_step {x : Nat} (h : x < 131072) : pcN (2 * x) = pcN x ∧ pcN (2 * x + 1) = pcN x + 1 := by
  have e : (2 : Nat) ^ 14 = 16384 := by decide
  by_cases h1 : x < 16384
  · exact chk_at 14 0 x chk0 (by omega) (by omega)
  by_cases h2 : x < 32768
  · exact chk_at 14 16384 x chk1 (by omega) (by omega)
  by_cases h3 : x < 49152
  · exact chk_at 14 32768 x chk2 (by omega) (by omega)
  by_cases h4 : x < 65536
  · exact chk_at 14 49152 x chk3 (by omega) (by omega)
  by_cases h5 : x < 81920
  · exact chk_at 14 65536 x chk4 (by omega) (by omega)
  by_cases h6 : x < 98304
  · exact chk_at 14 81920 x chk5 (by omega) (by omega)
  by_cases h7 : x < 114688
  · exact chk_at 14 98304 x chk6 (by omega) (by omega)
  exact chk_at 14 114688 x chk7 (by omega) (by omega)
/-- How many numbers below n are in the set. -/
def cnt (n : Nat) (p : Nat → Bool) : Nat := ((List.range n).filter p).length
theorem cnt_shift (n : Nat) (p : Nat → Bool) : cnt (n + 1) p = cnt n (fun j => p (j + 1)) + if p 0 then 1 else 0 := by
  unfold cnt
  rw [List.range_succ_eq_map, List.filter_cons, List.filter_map]
  cases p 0 <;> simp [Function.comp_def]
theorem msk_shift (n : Nat) (p : Nat → Bool) : msk (n + 1) p = 2 * msk n (fun j => p (j + 1)) + if p 0 then 1 else 0 := by
  apply Nat.eq_of_testBit_eq
  intro j
  rw [msk_test]
  cases j with
  | zero =>
    rw [Nat.testBit_zero]
    cases p 0 <;> simp <;> omega
  | succ j =>
    rw [Nat.testBit_succ]
    have : (2 * msk n (fun j => p (j + 1)) + if p 0 then 1 else 0) / 2 = msk n (fun j => p (j + 1)) := by cases p 0 <;> simp <;> omega
    rw [this, msk_test]
    congr 1
    exact decide_eq_decide.2 ⟨fun h => by omega, fun h => by omega⟩
theorem pc_msk : ∀ (n : Nat) (p : Nat → Bool), n ≤ 18 → pcN (msk n p) = cnt n p
  | 0, p, _ => by
    show pcN 0 = 0
    decide
  | n + 1, p, h => by
    have ih := pc_msk n (fun j => p (j + 1)) (by omega)
    have hl := msk_lt n (fun j => p (j + 1))
    have h17 : 2 ^ n ≤ 2 ^ 17 := Nat.pow_le_pow_right (by omega) (by omega)
    have hs := pc_step (x := msk n fun j => p (j + 1)) (by omega)
    rw [msk_shift, cnt_shift, ← ih]
    cases p 0
    · simpa using hs.1
    · simpa using hs.2
end Go.Proofs.Ytdkheeocglfogaa
