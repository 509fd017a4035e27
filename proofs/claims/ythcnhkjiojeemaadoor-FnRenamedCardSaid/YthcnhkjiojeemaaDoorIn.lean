/- The tests whether a number lies between two others: the program's in, the reference's l00In. -/
import Derived.Test.YthcnhkjiojeemaaDoorLib
namespace Go.Proofs.YthcnhkjiojeemaaDoor
open Go.RowKit
set_option maxHeartbeats 400000 in
theorem in_any (n a b : Int) (w : World) :
    Calls Tryd.prog 44 #[.int .i64 n, .int .i64 a, .int .i64 b] w fun e w' => e = .returned (.bool (inB n a b)) ∧ w = w' := by
  go_enter Tryd.func44, Tryd.ntmps44
  go_wp2
  all_goals (go_ret; exact ⟨ret_bool (by simp [inB]; omega), rfl⟩)
set_option maxHeartbeats 400000 in
theorem l00In_any (n a b : Int) (w : World) :
    Calls Tryd.prog 39 #[.int .i64 n, .int .i64 a, .int .i64 b] w fun e w' => e = .returned (.bool (inB n a b)) ∧ w = w' := by
  go_enter Tryd.func39, Tryd.ntmps39
  go_wp2
  all_goals (go_ret; exact ⟨ret_bool (by simp [inB]; omega), rfl⟩)
end Go.Proofs.YthcnhkjiojeemaaDoor
