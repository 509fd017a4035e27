/- The law of GroupWord, for all arguments. -/
import Derived.Test.YtdlagajnefkklaaGw2
namespace Go.Proofs.Ytdlagajnefkklaa
open Go.RowKit

set_option maxHeartbeats 1000000 in
theorem lawGw_any (s : ByteArray) (v : Value) (xs : List Int) (w : World) (hx : RI w v xs) (hsm : s.size ≤ maxLen) (hml : xs.length ≤ maxLen) :
    Calls Try.prog 9 #[.string s, v] w fun e w' => e = .returned (.bool true) ∧ Below w.heap.size w w' := by
  unfold maxLen at hsm hml
  by_cases hs : (s.size : Int) ≤ 1048576
  case neg =>
    obtain ⟨a, c, rfl⟩ := hx.slice
    go_enter Try.func9, Try.ntmps9
    go_wp2_with fail
    go_ret
    exact ⟨rfl, Below.refl _ _⟩
  by_cases hm : (xs.length : Int) ≤ 1048576
  case neg =>
    obtain ⟨a, c, rfl⟩ := hx.slice
    go_enter Try.func9, Try.ntmps9
    go_wp2_with fail
    go_ret
    exact ⟨rfl, Below.refl _ _⟩
  have hm' : xs.length ≤ 1048576 := by omega
  have hs' : s.size ≤ 1048576 := by omega
  obtain ⟨t, ht⟩ : ∃ t, t = gwS s xs := ⟨_, rfl⟩
  obtain ⟨b, hb⟩ : ∃ b, b = gwB s xs := ⟨_, rfl⟩
  have HI : Hid (∀ w1 v1, RI w1 v1 xs → Calls Try.prog 32 #[.string s, v1] w1 fun e w' => e = .returned (.tuple #[.string t, .bool b]) ∧ Below w1.heap.size w1 w') := fun w1 v1 hh => by
    rw [ht, hb]; exact implGw_any s v1 xs w1 hs' hh hm'
  have HP : Hid (∀ w1 v1, RI w1 v1 xs → Calls Try.prog 30 #[.string s, v1] w1 fun e w' => e = .returned (.tuple #[.string t, .bool b]) ∧ Below w1.heap.size w1 w') := fun w1 v1 hh => by
    rw [ht, hb]; exact specGw_any s v1 xs w1 hs' hh hm'
  clear ht hb
  have HX := Lib.hid hx
  obtain ⟨a, c, rfl⟩ := hx.slice
  have e1 := str_eq t
  clear hx
  go_enter Try.func9, Try.ntmps9
  go_wp2_with fail
  refine (toInt64S_any _ _ _ HX.out hm').mono ?_
  rintro e w1 ⟨t0, rfl, o, hb⟩
  go_wp2_with fail
  refine (HP.out _ _ o.read).mono ?_
  rintro e w2 ⟨rfl, hb2⟩
  have hb := hb.trans (hb2.mono hb.size)
  clear hb2 o
  go_wp2_with fail
  refine (toInt64S_any _ _ _ (HX.out.later hb) hm').mono ?_
  rintro e w3 ⟨x0, rfl, ox, hb2⟩
  have hb := hb.trans (hb2.mono hb.size)
  clear hb2
  go_wp2_with fail
  refine (HI.out _ _ ox.read).mono ?_
  rintro e w4 ⟨rfl, hb2⟩
  have ox := ox.later hb2
  have hb := hb.trans (hb2.mono hb.size)
  clear hb2
  go_wp2_with fail
  refine (toInt64S_any _ _ _ (HX.out.later hb) hm').mono ?_
  rintro e w5 ⟨t1, rfl, ot, hb2⟩
  have ox := ox.later hb2
  have hb := hb.trans (hb2.mono hb.size)
  clear hb2
  go_wp2_with fail
  refine (eqInt64S_yes _ _ _ _ ox.read ot.read (by omega)).mono ?_
  rintro e w6 ⟨rfl, hb2⟩
  have hb := hb.trans (hb2.mono hb.size)
  clear hb2
  go_wp2_with fail
  go_ret
  exact ⟨rfl, hb⟩
end Go.Proofs.Ytdlagajnefkklaa
