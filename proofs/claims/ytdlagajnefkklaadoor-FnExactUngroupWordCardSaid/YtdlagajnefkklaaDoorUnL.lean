/- The law of UngroupWord, for all arguments. -/
import Derived.Test.YtdlagajnefkklaaDoorUn
import Derived.Test.YtdlagajnefkklaaDoorFrameS
namespace Go.Proofs.YtdlagajnefkklaaDoor
open Go.RowKit

set_option maxHeartbeats 1000000 in
theorem lawUn_any (s : ByteArray) (v : Value) (xs : List Int) (w : World) (hx : RI w v xs) (hsm : s.size ≤ maxLen) (hml : xs.length ≤ maxLen) (hM : ∃ m, w.cell? ⟨0, 0, none⟩ = some (.int .i64 m)) :
    Calls Tryd.prog 3 #[.string s, v] w fun e w' => e = .returned (.bool true) ∧ Below w.heap.size w w' := by
  unfold maxLen at hsm hml
  by_cases hs : (s.size : Int) ≤ 1048576
  case neg =>
    obtain ⟨a, c, rfl⟩ := hx.slice
    go_enter Tryd.func3, Tryd.ntmps3
    go_wp2_with fail
    go_ret
    exact ⟨rfl, Below.refl _ _⟩
  by_cases hm : (xs.length : Int) ≤ 1048576
  case neg =>
    obtain ⟨a, c, rfl⟩ := hx.slice
    go_enter Tryd.func3, Tryd.ntmps3
    go_wp2_with fail
    go_ret
    exact ⟨rfl, Below.refl _ _⟩
  have hm' : xs.length ≤ 1048576 := by omega
  have hs' : s.size ≤ 1048576 := by omega
  have HM : Hid (∀ wx, Below w.heap.size w wx → ∃ m, wx.cell? ⟨0, 0, none⟩ = some (.int .i64 m)) := fun wx h => by
    obtain ⟨m, hm⟩ := hM
    exact ⟨m, (h.cell (p := ⟨0, 0, none⟩) (World.block_lt_of_cell? w _ hm)).trans hm⟩
  clear hM
  obtain ⟨t, b, hV⟩ := unV_shape s xs
  have HI : Hid (∀ w1 v1, RI w1 v1 xs → Below w.heap.size w w1 → Calls Tryd.prog 9 #[.string s, v1] w1 fun e w' => e = .returned (.tuple #[.string t, .bool b]) ∧ Below w1.heap.size w1 w') := fun w1 v1 hh hb => by
    rw [← hV]; exact implUn_any s v1 xs w1 hs' hh hm' (HM.out w1 hb)
  have HP : Hid (∀ w1 v1, RI w1 v1 xs → Calls Tryd.prog 7 #[.string s, v1] w1 fun e w' => e = .returned (.tuple #[.string t, .bool b]) ∧ Below w1.heap.size w1 w') := fun w1 v1 hh => by
    rw [← hV]; exact specUn_any s v1 xs w1 hs' hh hm'
  clear hV
  have HX := Lib.hid hx
  obtain ⟨a, c, rfl⟩ := hx.slice
  have e1 := str_eq t
  clear hx
  go_enter Tryd.func3, Tryd.ntmps3
  go_wp2_with fail
  refine (toInt64S_any _ _ _ HX.out hm').mono ?_
  rintro e w1 ⟨t0, rfl, o, hb⟩
  go_wp2_with fail
  refine (HP.out _ _ o.read).mono ?_
  rintro e w2 ⟨rfl, hb2⟩
  have hb := hb.trans (hb2.mono hb.size)
  clear hb2 o
  go_wp2_with fail
  refine (toInt64S_any _ _ _ (HX.out.later hb) hm').mono ?_
  rintro e w3 ⟨x0, rfl, ox, hb2⟩
  have hb := hb.trans (hb2.mono hb.size)
  clear hb2
  go_wp2_with fail
  refine (HI.out _ _ ox.read hb).mono ?_
  rintro e w4 ⟨rfl, hb2⟩
  have ox := ox.later hb2
  have hb := hb.trans (hb2.mono hb.size)
  clear hb2
  go_wp2_with fail
  refine (toInt64S_any _ _ _ (HX.out.later hb) hm').mono ?_
  rintro e w5 ⟨t1, rfl, ot, hb2⟩
  have ox := ox.later hb2
  have hb := hb.trans (hb2.mono hb.size)
  clear hb2
  go_wp2_with fail
  refine (eqInt64S_yes _ _ _ _ ox.read ot.read (by omega)).mono ?_
  rintro e w6 ⟨rfl, hb2⟩
  have hb := hb.trans (hb2.mono hb.size)
  clear hb2
  go_wp2_with fail
  go_ret
  exact ⟨rfl, hb⟩
end Go.Proofs.YtdlagajnefkklaaDoor
