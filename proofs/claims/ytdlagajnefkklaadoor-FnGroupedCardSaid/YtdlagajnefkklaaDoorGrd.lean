/- FnGrouped: SymbolOf; append(v, xs...) as one step of a region; the law. -/
import Derived.Test.YtdlagajnefkklaaDoorGrdP
import Derived.Test.YtdlagajnefkklaaDoorUn
import Derived.Test.YtdlagajnefkklaaDoorB10D
import Derived.Test.YtdlagajnefkklaaDoorApps
import Derived.Test.YtdlagajnefkklaaDoorFrameS
import Derived.Deep.RegionHeld3
namespace Go.Proofs.YtdlagajnefkklaaDoor
open Go.RowKit

set_option maxHeartbeats 400000 in
theorem symbolOf_any (d : Int) (w : World) (hd : 0 ≤ d ∧ d ≤ 35) :
    Calls Tryd.prog 13 #[.int .i64 d] w fun e w' => e = .returned (.tuple #[.string (wOf [d]), .bool true]) ∧ Below w.heap.size w w' := by
  have HIN : Hid (∀ wx, Calls Tryd.prog 25 #[.int .i64 d, .int .i64 0, .int .i64 35] wx fun e w' => e = .returned (.bool true) ∧ wx = w') := fun wx => by
    have := l00In_any d 0 35 wx
    rw [inB_iff.2 hd] at this; exact this
  have ho : OB w.heap.size (w.alloc (.cells #[.int .u8 (sy d)] 5)) (.slice (some ⟨w.heap.size, 0, none⟩) 1 1) [sy d] := OV.lit _ _ [.int .u8 (sy d)] (Nat.le_refl _) (by simp [maxLen])
  have hst := ho.str
  have HW : strOfNums [sy d] = wOf [d] := rfl
  rw [HW] at hst
  have hb : Below w.heap.size w (w.alloc (.cells #[.int .u8 (sy d)] 5)) := (Below.refl _ _).alloc (Nat.le_refl _) _
  clear HW ho
  generalize wOf [d] = z at *
  go_enter Tryd.func13, Tryd.ntmps13
  go_wp2_with (first | (go_at_call 25; refine (HIN.out _).mono ?_; rintro e w' ⟨rfl, rfl⟩) | (go_at_call 26; refine (l01Symbol_any _ _ hd).mono ?_; rintro e w' ⟨rfl, rfl⟩))
  go_ret2
  exact ⟨rfl, hb⟩
end Go.Proofs.YtdlagajnefkklaaDoor
