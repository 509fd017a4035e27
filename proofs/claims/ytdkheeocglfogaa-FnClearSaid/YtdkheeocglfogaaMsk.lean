/- Sets of small numbers as bits of a number: plain facts. -/
import Derived.Laws.Bits64b
import Derived.Laws.BitsLemmas
import Derived.Test.YtdkheeocglfogaaLib
namespace Go.Proofs.Ytdkheeocglfogaa

/-- The number whose bits below n are p. -/
def msk : Nat → (Nat → Bool) → Nat
  | 0, _ => 0
  | n + 1, p => msk n p ||| if p n then 2 ^ n else 0
theorem msk_lt : ∀ (n : Nat) (p : Nat → Bool), msk n p < 2 ^ n
  | 0, _ => by simp [msk]
  | n + 1, p => by
    have h1 := msk_lt n p
    have h2 : 2 ^ n < 2 ^ (n + 1) := Nat.pow_lt_pow_right (by omega) (by omega)
    unfold msk
    refine Nat.or_lt_two_pow (by omega) ?_
    split
    · exact h2
    · exact Nat.pow_pos (by omega)
theorem msk_test : ∀ (n : Nat) (p : Nat → Bool) (j : Nat), (msk n p).testBit j = (decide (j < n) && p j)
  | 0, p, j => by simp [msk]
  | n + 1, p, j => by
    unfold msk
    rw [Nat.testBit_or, msk_test n p j]
    by_cases h : j = n
    · subst h
      cases hp : p j <;> simp [Nat.testBit_two_pow]
    · have h3 : ¬ n = j := fun e => h e.symm
      have h2 : (if p n then 2 ^ n else 0 : Nat).testBit j = false := by
        cases p n <;> simp [Nat.testBit_two_pow, h3]
      rw [h2, Bool.or_false]
      congr 1
      exact decide_eq_decide.2 ⟨fun h4 => by omega, fun h4 => by omega⟩
theorem msk_congr {n : Nat} {p q : Nat → Bool} (h : ∀ j, j < n → p j = q j) : msk n p = msk n q := by
  apply Nat.eq_of_testBit_eq
  intro j
  rw [msk_test, msk_test]
  by_cases hj : j < n
  · rw [h j hj]
  · simp [hj]
theorem msk_inj {n : Nat} {p q : Nat → Bool} (h : msk n p = msk n q) : ∀ j, j < n → p j = q j := fun j hj => by
  have := congrArg (fun m => m.testBit j) h
  simp only [msk_test] at this
  simpa [hj] using this
theorem msk_or (n : Nat) (p q : Nat → Bool) : msk n p ||| msk n q = msk n fun j => p j || q j := by
  apply Nat.eq_of_testBit_eq
  intro j
  rw [Nat.testBit_or, msk_test, msk_test, msk_test]
  cases decide (j < n) <;> simp
theorem msk_and (n : Nat) (p q : Nat → Bool) : msk n p &&& msk n q = msk n fun j => p j && q j := by
  apply Nat.eq_of_testBit_eq
  intro j
  rw [Nat.testBit_and, msk_test, msk_test, msk_test]
  cases decide (j < n) <;> simp
theorem msk_one {n i : Nat} (h : i < n) : 2 ^ i = msk n fun j => decide (i = j) := by
  apply Nat.eq_of_testBit_eq
  intro j
  rw [msk_test, Nat.testBit_two_pow]
  by_cases e : i = j
  · subst e; simp [h]
  · simp [e]
theorem msk_none (n : Nat) : msk n (fun _ => false) = 0 := by
  apply Nat.eq_of_testBit_eq
  intro j
  rw [msk_test]; simp
theorem msk_bit (n : Nat) (p : Nat → Bool) (j : Nat) (hj : j < n) : msk n p / 2 ^ j % 2 = if p j then 1 else 0 := by
  have h := msk_test n p j
  rw [Nat.testBit_eq_decide_div_mod_eq] at h
  simp only [hj, decide_true, Bool.true_and] at h
  cases hp : p j
  · rw [hp, decide_eq_false_iff_not] at h
    have := Nat.mod_two_eq_zero_or_one (msk n p / 2 ^ j)
    simp; omega
  · rw [hp, decide_eq_true_eq] at h
    simp [h]
theorem pow18 {j : Nat} (h : j < 20) : 2 ^ j < 1048576 := by
  have : 2 ^ j < 2 ^ 20 := Nat.pow_lt_pow_right (by omega) h
  omega
theorem msk_20 {n : Nat} (h : n ≤ 18) (p : Nat → Bool) : msk n p < 262144 := by
  have h1 := msk_lt n p
  have h2 : 2 ^ n ≤ 2 ^ 18 := Nat.pow_le_pow_right (by omega) h
  omega
/-- What the program's operations make of such numbers. -/
theorem or_m {n : Nat} (h : n ≤ 18) (p q : Nat → Bool) : bits .or .u64 (msk n p : Int) (msk n q : Int) = (msk n (fun j => p j || q j) : Nat) := by
  have h1 := msk_20 h p
  have h2 := msk_20 h q
  rw [bits_or_u64_nat _ _ (by omega) (by omega), msk_or]
theorem and_m {n : Nat} (h : n ≤ 18) (p q : Nat → Bool) : bits .and .u64 (msk n p : Int) (msk n q : Int) = (msk n (fun j => p j && q j) : Nat) := by
  have h1 := msk_20 h p
  have h2 := msk_20 h q
  rw [bits_and_u64_nat _ _ (by omega) (by omega), msk_and]
theorem and_1 (x : Nat) (h : x < 18446744073709551616) : bits .and .u64 (x : Int) 1 = ((x % 2 : Nat) : Int) := by
  have := bits_and_u64_nat x 1 h (by omega)
  rw [show ((1 : Nat) : Int) = 1 from rfl] at this
  rw [this, Nat.and_one_is_mod]
end Go.Proofs.Ytdkheeocglfogaa
