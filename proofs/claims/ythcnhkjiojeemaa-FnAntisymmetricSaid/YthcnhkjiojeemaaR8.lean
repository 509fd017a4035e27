/- The laws' readers of drawn bytes: r8Long, r8At, r8One. -/
import Derived.Test.YthcnhkjiojeemaaRead
namespace Go.Proofs.Ythcnhkjiojeemaa
open Go.RowKit

def long8 (n m : Nat) : Bool := decide (48 < n) || decide (48 < m)
set_option maxHeartbeats 400000 in
theorem r8Long_any (a b : Option Addr) (n m c d : Nat) (w : World) :
    Calls Try.prog 7 #[.slice a n c, .slice b m d] w fun e w' => e = .returned (.bool (long8 n m)) ∧ w = w' := by
  by_cases h : 48 < n
  all_goals
    go_enter Try.func7, Try.ntmps7
    go_wp2
    all_goals (go_ret; exact ⟨ret_bool (by rw [Bool.eq_iff_iff]; simp [long8]; omega), rfl⟩)

end Go.Proofs.Ythcnhkjiojeemaa
