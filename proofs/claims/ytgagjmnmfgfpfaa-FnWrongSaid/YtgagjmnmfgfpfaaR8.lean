/- The laws' readers of drawn bytes: r8Long, r8At, r8One. -/
import Derived.Test.YtgagjmnmfgfpfaaRead
namespace Go.Proofs.Ytgagjmnmfgfpfaa
open Go.RowKit

def long8 (n m : Nat) : Bool := decide (48 < n) || decide (48 < m)
set_option maxHeartbeats 400000 in
theorem r8Long_any (a b : Option Addr) (n m c d : Nat) (w : World) :
    Calls Try.prog 22 #[.slice a n c, .slice b m d] w fun e w' => e = .returned (.bool (long8 n m)) ∧ w = w' := by
  by_cases h : 48 < n
  all_goals
    go_enter Try.func22, Try.ntmps22
    go_wp2
    all_goals (go_ret; exact ⟨ret_bool (by rw [Bool.eq_iff_iff]; simp [long8]; omega), rfl⟩)

set_option maxHeartbeats 400000 in
theorem r8At_any (a : Option Addr) (l c : Nat) (xs : List Int) (k n : Int) (w : World) (hx : RK .u8 w (.slice a l c) xs) (hw : ∀ x ∈ xs, (Lit.int .u8 x).wf = true) (hm : xs.length ≤ maxLen) (hk : 0 ≤ k ∧ k < 1000000) (hn : 1 ≤ n ∧ n < 1000000) :
    Calls Try.prog 37 #[.slice a l c, .int .i64 k, .int .i64 n] w fun e w' => ∃ r : Int, e = .returned (.int .i64 r) ∧ (0 ≤ r ∧ r < n) ∧ w = w' := by
  obtain ⟨k, rfl⟩ := Int.eq_ofNat_of_zero_le hk.1
  have hl := hx.len
  unfold maxLen at hm
  subst hl
  by_cases h : n ≤ 1 ∨ xs.length ≤ k
  · by_cases h1 : n ≤ 1
    · go_enter Try.func37, Try.ntmps37
      go_wp2
      go_ret
      exact ⟨_, rfl, by omega, rfl⟩
    · have h2 : xs.length ≤ k := by omega
      clear h
      go_enter Try.func37, Try.ntmps37
      go_wp2
      go_ret
      exact ⟨_, rfl, by omega, rfl⟩
  · have h1 : ¬ n ≤ 1 := by omega
    have h2 : k < xs.length := by omega
    clear h
    obtain ⟨g, off, rfl, _, hc⟩ := hx.at k h2
    have hb : 0 ≤ xs.getD k 0 ∧ xs.getD k 0 ≤ 255 := by
      have := hw (xs.getD k 0) (by simp [h2])
      simp [Lit.wf, IntKind.min, IntKind.max, IntKind.bits, IntKind.signed] at this
      simpa using this
    generalize xs.getD k 0 = z at *
    go_enter Try.func37, Try.ntmps37
    go_wp2
    go_ret
    exact ⟨_, rfl, ⟨Int.emod_nonneg _ (by omega), Int.emod_lt_of_pos _ (by omega)⟩, rfl⟩
end Go.Proofs.Ytgagjmnmfgfpfaa
