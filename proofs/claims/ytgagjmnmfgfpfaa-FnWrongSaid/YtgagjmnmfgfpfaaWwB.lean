/- Errors of a kind: which kinds there are, and how long they are. -/
import Derived.Test.YtgagjmnmfgfpfaaDig
namespace Go.Proofs.Ytgagjmnmfgfpfaa
open Go.RowKit

/-- A kind of errors with a base. -/
def kOk (k b : Int) : Bool := inB k 0 5 && (decide (k ≠ 5) || decide (10 ≤ b))
/-- How many symbols an error of a kind spans. -/
def kL (k : Int) : Nat := if k = 0 then 1 else if k = 2 ∨ k = 4 then 3 else 2
theorem kOk_parts {k b : Int} (h : kOk k b = true) : (k = 0 ∨ k = 1 ∨ k = 2 ∨ k = 3 ∨ k = 4 ∨ k = 5) ∧ (k = 5 → 10 ≤ b) := by
  unfold kOk inB at h
  simp only [Bool.and_eq_true, Bool.or_eq_true, decide_eq_true_eq] at h
  omega
set_option maxHeartbeats 400000 in
theorem kindOk_any (k b : Int) (w : World) :
    Calls Try.prog 69 #[.int .i64 k, .int .i64 b] w fun e w' => e = .returned (.bool (kOk k b)) ∧ w = w' := by
  cases hi : inB k 0 5 with
  | false =>
    have HIN : Hid (∀ wx, Calls Try.prog 54 #[.int .i64 k, .int .i64 0, .int .i64 5] wx fun e w' => e = .returned (.bool false) ∧ wx = w') := fun wx => by
      have := in_any k 0 5 wx; rw [hi] at this; exact this
    have HR : Hid (kOk k b = false) := by unfold Hid kOk; rw [hi]; rfl
    clear hi
    go_enter Try.func69, Try.ntmps69
    go_wp2_with (go_at_call 54; refine (HIN.out _).mono ?_; rintro e w' ⟨rfl, rfl⟩)
    go_ret
    exact ⟨ret_bool HR.out.symm, rfl⟩
  | true =>
    have HIN : Hid (∀ wx, Calls Try.prog 54 #[.int .i64 k, .int .i64 0, .int .i64 5] wx fun e w' => e = .returned (.bool true) ∧ wx = w') := fun wx => by
      have := in_any k 0 5 wx; rw [hi] at this; exact this
    by_cases h5 : k = 5
    · subst h5
      have HR : Hid (kOk 5 b = decide (10 ≤ b)) := by unfold Hid kOk; rw [hi]; simp
      clear hi
      go_enter Try.func69, Try.ntmps69
      go_wp2_with (go_at_call 54; refine (HIN.out _).mono ?_; rintro e w' ⟨rfl, rfl⟩)
      go_ret
      exact ⟨ret_bool HR.out.symm, rfl⟩
    · have HR : Hid (kOk k b = true) := by unfold Hid kOk; rw [hi, decide_eq_true h5]; rfl
      have hb : (k != 5) = true := by simpa using h5
      clear hi
      go_enter Try.func69, Try.ntmps69
      go_wp2_with (go_at_call 54; refine (HIN.out _).mono ?_; rintro e w' ⟨rfl, rfl⟩)
      go_ret
      exact ⟨ret_bool HR.out.symm, rfl⟩
set_option maxHeartbeats 400000 in
theorem errorLength_any (k : Int) (w : World) (hk : k = 0 ∨ k = 1 ∨ k = 2 ∨ k = 3 ∨ k = 4 ∨ k = 5) :
    Calls Try.prog 97 #[.int .i64 k] w fun e w' => e = .returned (.int .i64 (kL k)) ∧ w = w' := by
  rcases hk with rfl | rfl | rfl | rfl | rfl | rfl
  all_goals
    go_enter Try.func97, Try.ntmps97
    go_wp2_with fail
    go_ret
    exact ⟨rfl, rfl⟩
set_option maxHeartbeats 1000000 in
theorem l02Size_any (b k : Int) (w : World) :
    Calls Try.prog 67 #[.int .i64 b, .int .i64 k] w fun e w' => e = .returned (.int .i64 (if kOk k b then kL k else 0 : Nat)) ∧ w = w' := by
  by_cases hk : k = 0 ∨ k = 1 ∨ k = 2 ∨ k = 3 ∨ k = 4
  · have HK : Hid ((if kOk k b then kL k else 0) = kL k) := by
      unfold Hid
      rw [if_pos]
      unfold kOk inB
      simp only [Bool.and_eq_true, Bool.or_eq_true, decide_eq_true_eq]
      omega
    rw [HK.out]
    rcases hk with rfl | rfl | rfl | rfl | rfl
    all_goals
      go_enter Try.func67, Try.ntmps67
      go_wp2_with fail
      go_ret
      exact ⟨rfl, rfl⟩
  · by_cases h5 : k = 5
    · subst h5
      by_cases h10 : 10 ≤ b
      · have HK : Hid ((if kOk 5 b then kL 5 else 0) = 2) := by
          unfold Hid
          rw [if_pos (by unfold kOk inB; simp; omega)]
          rfl
        rw [HK.out]
        go_enter Try.func67, Try.ntmps67
        go_wp2_with fail
        go_ret
        exact ⟨rfl, rfl⟩
      · have HK : Hid ((if kOk 5 b then kL 5 else 0) = 0) := by
          unfold Hid
          rw [if_neg (by unfold kOk inB; simp; omega)]
        rw [HK.out]
        go_enter Try.func67, Try.ntmps67
        go_wp2_with fail
        go_ret
        exact ⟨rfl, rfl⟩
    · have HK : Hid ((if kOk k b then kL k else 0) = 0) := by
        unfold Hid
        rw [if_neg]
        unfold kOk inB
        simp only [Bool.and_eq_true, Bool.or_eq_true, decide_eq_true_eq]
        omega
      rw [HK.out]
      have e0 : (k == 0) = false := by simp; omega
      have e1 : (k == 1) = false := by simp; omega
      have e2 : (k == 2) = false := by simp; omega
      have e3 : (k == 3) = false := by simp; omega
      have e4 : (k == 4) = false := by simp; omega
      have e5 : (k == 5) = false := by simp; omega
      go_enter Try.func67, Try.ntmps67
      go_wp2_with fail
      go_ret
      exact ⟨rfl, rfl⟩
end Go.Proofs.Ytgagjmnmfgfpfaa
