/- The program's and the reference's CountPatterns return the same: for all arguments. -/
import Derived.Test.YtjjohniabgamjaaCount
namespace Go.Proofs.Ytjjohniabgamjaa
open Go.RowKit

set_option maxHeartbeats 400000 in
theorem in_any (n a b : Int) (w : World) :
    Calls Try.prog 39 #[.int .i64 n, .int .i64 a, .int .i64 b] w fun e w' => e = .returned (.bool (inB n a b)) ∧ w = w' := by
  go_enter Try.func39, Try.ntmps39
  go_wp2
  all_goals (go_ret; exact ⟨ret_bool (by simp [inB]; omega), rfl⟩)
set_option maxHeartbeats 400000 in
theorem l00In_any (n a b : Int) (w : World) :
    Calls Try.prog 44 #[.int .i64 n, .int .i64 a, .int .i64 b] w fun e w' => e = .returned (.bool (inB n a b)) ∧ w = w' := by
  go_enter Try.func44, Try.ntmps44
  go_wp2
  all_goals (go_ret; exact ⟨ret_bool (by simp [inB]; omega), rfl⟩)

def countB (e m k : Int) : Bool := inB e 1 10 && inB m 1 20 && inB k 1 4
theorem countB_iff {e m k : Int} : countB e m k = true ↔ ((1 ≤ e ∧ e ≤ 10) ∧ (1 ≤ m ∧ m ≤ 20)) ∧ (1 ≤ k ∧ k ≤ 4) := by simp [countB, inB]

set_option maxHeartbeats 400000 in
theorem countOk_any (e m k : Int) (w : World) :
    Calls Try.prog 37 #[.int .i64 e, .int .i64 m, .int .i64 k] w fun r w' => r = .returned (.bool (countB e m k)) ∧ w = w' := by
  by_cases h1 : inB e 1 10 = true <;> by_cases h2 : inB m 1 20 = true
  all_goals
    go_enter Try.func37, Try.ntmps37
    go_wp2_with (go_at_call 39; refine (in_any _ _ _ _).mono ?_; rintro e w' ⟨rfl, rfl⟩)
    all_goals (go_ret; exact ⟨ret_bool (by simp [countB, *]), rfl⟩)
set_option maxHeartbeats 400000 in
theorem l08Counted_any (e m k : Int) (w : World) :
    Calls Try.prog 35 #[.int .i64 e, .int .i64 m, .int .i64 k] w fun r w' => r = .returned (.bool (countB e m k)) ∧ w = w' := by
  by_cases h1 : inB e 1 10 = true <;> by_cases h2 : inB m 1 20 = true
  all_goals
    go_enter Try.func35, Try.ntmps35
    go_wp2_with (go_at_call 44; refine (l00In_any _ _ _ _).mono ?_; rintro e w' ⟨rfl, rfl⟩)
    all_goals (go_ret; exact ⟨ret_bool (by simp [countB, *]), rfl⟩)

def cntR (e m k : Int) : Int := if countB e m k then cnt e.toNat m.toNat k.toNat else 0
set_option maxHeartbeats 400000 in
theorem implCount_any (e m k : Int) (w : World) :
    Calls Try.prog 12 #[.int .i64 e, .int .i64 m, .int .i64 k] w fun r w' => r = .returned (.tuple #[.int .i64 (cntR e m k), .bool (countB e m k)]) ∧ Below w.heap.size w w' := by
  by_cases h : countB e m k = true
  · obtain ⟨⟨⟨he, he'⟩, hm, hm'⟩, hk, hk'⟩ := countB_iff.1 h
    obtain ⟨e, rfl⟩ := Int.eq_ofNat_of_zero_le (show 0 ≤ e by omega)
    obtain ⟨m, rfl⟩ := Int.eq_ofNat_of_zero_le (show 0 ≤ m by omega)
    obtain ⟨k, rfl⟩ := Int.eq_ofNat_of_zero_le (show 0 ≤ k by omega)
    have hr : Hid (cntR e m k = cnt e m k) := by simp [Hid, cntR, h]
    go_enter Try.func12, Try.ntmps12
    go_wp2_with (first | (go_at_call 37; refine (countOk_any _ _ _ _).mono ?_; rintro e w' ⟨rfl, rfl⟩) | (go_at_call 38; refine (countPatterns_any _ _ _ _ (by omega) (by omega) (by omega)).mono ?_; rintro e w' ⟨rfl, hb⟩))
    go_ret2
    exact ⟨ret_ib hr.out.symm h.symm, hb⟩
  · simp only [Bool.not_eq_true] at h
    have hr : Hid (cntR e m k = 0) := by simp [Hid, cntR, h]
    go_enter Try.func12, Try.ntmps12
    go_wp2_with (go_at_call 37; refine (countOk_any _ _ _ _).mono ?_; rintro e w' ⟨rfl, rfl⟩)
    go_ret2
    exact ⟨ret_ib hr.out.symm h.symm, Below.refl _ _⟩
set_option maxHeartbeats 400000 in
theorem specCount_any (e m k : Int) (w : World) :
    Calls Try.prog 11 #[.int .i64 e, .int .i64 m, .int .i64 k] w fun r w' => r = .returned (.tuple #[.int .i64 (cntR e m k), .bool (countB e m k)]) ∧ Below w.heap.size w w' := by
  by_cases h : countB e m k = true
  · obtain ⟨⟨⟨he, he'⟩, hm, hm'⟩, hk, hk'⟩ := countB_iff.1 h
    obtain ⟨e, rfl⟩ := Int.eq_ofNat_of_zero_le (show 0 ≤ e by omega)
    obtain ⟨m, rfl⟩ := Int.eq_ofNat_of_zero_le (show 0 ≤ m by omega)
    obtain ⟨k, rfl⟩ := Int.eq_ofNat_of_zero_le (show 0 ≤ k by omega)
    have hr : Hid (cntR e m k = cnt e m k) := by simp [Hid, cntR, h]
    go_enter Try.func11, Try.ntmps11
    go_wp2_with (first | (go_at_call 35; refine (l08Counted_any _ _ _ _).mono ?_; rintro e w' ⟨rfl, rfl⟩) | (go_at_call 36; refine (l08Count_any _ _ _ _ (by omega) (by omega) (by omega)).mono ?_; rintro e w' ⟨rfl, hb⟩))
    go_ret2
    exact ⟨ret_ib hr.out.symm h.symm, hb⟩
  · simp only [Bool.not_eq_true] at h
    have hr : Hid (cntR e m k = 0) := by simp [Hid, cntR, h]
    go_enter Try.func11, Try.ntmps11
    go_wp2_with (go_at_call 35; refine (l08Counted_any _ _ _ _).mono ?_; rintro e w' ⟨rfl, rfl⟩)
    go_ret2
    exact ⟨ret_ib hr.out.symm h.symm, Below.refl _ _⟩

set_option maxHeartbeats 400000 in
theorem lawCount_any (e m k : Int) (w : World) :
    Calls Try.prog 3 #[.int .i64 e, .int .i64 m, .int .i64 k] w fun r w' => r = .returned (.bool true) ∧ Below w.heap.size w w' := by
  go_enter Try.func3, Try.ntmps3
  go_wp2_with (first | (go_at_call 11; refine (specCount_any _ _ _ _).mono ?_; rintro e w' ⟨rfl, hb1⟩) | (go_at_call 12; refine (implCount_any _ _ _ _).mono ?_; rintro e w' ⟨rfl, hb2⟩))
  go_ret
  exact ⟨rfl, hb1.trans (hb2.mono hb1.size)⟩
end Go.Proofs.Ytjjohniabgamjaa
