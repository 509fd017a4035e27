/- The tests whether a number lies between two others: the program's in, the reference's l00In. -/
import Derived.Test.YthcnhkjiojeemaaLib
namespace Go.Proofs.Ythcnhkjiojeemaa
open Go.RowKit
set_option maxHeartbeats 400000 in
theorem in_any (n a b : Int) (w : World) :
    Calls Try.prog 32 #[.int .i64 n, .int .i64 a, .int .i64 b] w fun e w' => e = .returned (.bool (inB n a b)) ∧ w = w' := by
  go_enter Try.func32, Try.ntmps32
  go_wp2
  all_goals (go_ret; exact ⟨ret_bool (by simp [inB]; omega), rfl⟩)
set_option maxHeartbeats 400000 in
theorem l00In_any (n a b : Int) (w : World) :
    Calls Try.prog 37 #[.int .i64 n, .int .i64 a, .int .i64 b] w fun e w' => e = .returned (.bool (inB n a b)) ∧ w = w' := by
  go_enter Try.func37, Try.ntmps37
  go_wp2
  all_goals (go_ret; exact ⟨ret_bool (by simp [inB]; omega), rfl⟩)
end Go.Proofs.Ythcnhkjiojeemaa
