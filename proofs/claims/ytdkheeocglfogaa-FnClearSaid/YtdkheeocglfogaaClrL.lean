/- The law of IsClear, for all arguments. -/
import Derived.Test.YtdkheeocglfogaaClrS
namespace Go.Proofs.Ytdkheeocglfogaa
open Go.RowKit

set_option maxRecDepth 100000 in
set_option maxHeartbeats 4000000 in
theorem lawIsClear_any (s : ByteArray) (v : Value) (l : List ByteArray) (t : ByteArray) (w : World) (h1 : s.size ≤ maxLen) (hx : RSM w v l) (ht : (t.size : Int) ≤ 1048576) :
    Calls Try.prog 5 #[.agg #[.string s, v], .string t] w fun e w' => e = .returned (.bool true) ∧ Below w.heap.size w w' := by
  obtain ⟨hx, hml, hzl⟩ := hx
  obtain ⟨a, c, rfl⟩ := hx.slice
  have hb : Below w.heap.size w (w.alloc (.cells #[.string s, .slice a l.length c] 24)) := (Below.refl _ _).alloc (Nat.le_refl _) _
  have hbx : LX w.heap.size s (.slice a l.length c) (w.alloc (.cells #[.string s, .slice a l.length c] 24)) := ⟨World.cell?_alloc_at _ _ _ _ rfl, World.cell?_alloc_at _ _ _ _ rfl⟩
  replace hx := hx.later hb
  have c0 := hbx.c0
  have c1 := hbx.c1
  by_cases hs : s.size + (l.length + szS l) ≤ 1048576
  · have hm : l.length ≤ 1048576 := by omega
    have hs1 : s.size ≤ 1048576 := by omega
    have HI : Hid (∀ w1 v1, RS w1 v1 l → Calls Try.prog 18 #[.agg #[.string s, v1], .string t] w1 fun e w' => e = .returned (.bool (icB s l t)) ∧ Below w1.heap.size w1 w') := fun w1 v1 h => implIC_any s v1 l t w1 h hs1 hm (by omega)
    have HP : Hid (∀ w1 v1, RS w1 v1 l → Calls Try.prog 17 #[.agg #[.string s, v1], .string t] w1 fun e w' => e = .returned (.bool (icB s l t)) ∧ Below w1.heap.size w1 w') := fun w1 v1 h => specIC_any s v1 l t w1 h hs1 hm (by omega)
    generalize icB s l t = rb at *
    have HS := Lib.hid hs
    clear hs hzl hml h1
    go_enter Try.func5, Try.ntmps5
    go_wp2_with fail
    generalize w.alloc (.cells #[.string s, .slice a l.length c] 24) = w0 at *
    refine (szLikeness_yes s _ l _ hx HS.out).mono ?_
    rintro e w1 ⟨n, rfl, hn, hb1⟩
    replace hbx := hbx.later hb1
    replace hx := hx.later hb1
    replace hb := hb.trans (hb1.mono hb.size)
    clear hb1
    have c0 := hbx.c0
    have c1 := hbx.c1
    go_wp2_with fail
    refine (toLikeness_any s _ l _ hx hm).mono ?_
    rintro e w2 ⟨u2, rfl, o2, hb1⟩
    replace hbx := hbx.later hb1
    replace hx := hx.later hb1
    replace hb := hb.trans (hb1.mono hb.size)
    clear hb1
    have c0 := hbx.c0
    have c1 := hbx.c1
    go_wp2_with fail
    refine (HP.out _ _ o2.read).mono ?_
    rintro e w3 ⟨rfl, hb1⟩
    replace hbx := hbx.later hb1
    replace hx := hx.later hb1
    replace hb := hb.trans (hb1.mono hb.size)
    clear hb1
    clear o2
    have c0 := hbx.c0
    have c1 := hbx.c1
    go_wp2_with fail
    refine (toLikeness_any s _ l _ hx hm).mono ?_
    rintro e w4 ⟨u4, rfl, ox, hb1⟩
    replace hbx := hbx.later hb1
    replace hx := hx.later hb1
    replace hb := hb.trans (hb1.mono hb.size)
    clear hb1
    have c0 := hbx.c0
    have c1 := hbx.c1
    have ox := ox.read
    obtain ⟨ua, uc, rfl⟩ := ox.slice
    go_wp2_with fail
    have hbX : LX w4.heap.size s (.slice ua l.length uc) (w4.alloc (.cells #[.string s, .slice ua l.length uc] 27)) := ⟨World.cell?_alloc_at _ _ _ _ rfl, World.cell?_alloc_at _ _ _ _ rfl⟩
    have hb1 : Below w4.heap.size w4 (w4.alloc (.cells #[.string s, .slice ua l.length uc] 27)) := (Below.refl _ _).alloc (Nat.le_refl _) _
    replace ox := ox.later hb1
    replace hbx := hbx.later hb1
    replace hx := hx.later hb1
    replace hb := hb.trans (hb1.mono hb.size)
    clear hb1
    generalize w4.alloc (.cells #[.string s, .slice ua l.length uc] 27) = w5 at *
    generalize w4.heap.size = X at *
    refine (HI.out _ _ ox).mono ?_
    rintro e w6 ⟨rfl, hb1⟩
    replace hbx := hbx.later hb1
    replace hbX := hbX.later hb1
    replace hx := hx.later hb1
    replace ox := ox.later hb1
    replace hb := hb.trans (hb1.mono hb.size)
    clear hb1
    have c0 := hbx.c0
    have c1 := hbx.c1
    have d0 := hbX.c0
    have d1 := hbX.c1
    go_wp2_with fail
    have hb1 : Below w6.heap.size w6 w6.drew := (Below.refl _ _).drew
    replace hb := hb.drew
    replace hx := hx.later hb1
    replace ox := ox.later hb1
    replace hbX := hbX.later hb1
    replace hbx := hbx.later hb1
    clear hb1
    go_region_held3 (fun w' => (w'.cell? ⟨X, 0, none⟩ = some (.string s) ∧ w'.cell? ⟨X, 1, none⟩ = some (.slice ua l.length uc)) ∧ w'.cell? ⟨w.heap.size, 0, none⟩ = some (.string s) ∧ w'.cell? ⟨w.heap.size, 1, none⟩ = some (.slice a l.length c)) (exact ⟨⟨hbX.c0, hbX.c1⟩, hbx.c0, hbx.c1⟩)
      (first
        | (go_at_call 12; refine (toLikeness_any s _ l _ hx hm).mono ?_; rintro e w7 ⟨u7, rfl, o7, hb1⟩; replace hbX := hbX.later hb1; replace hbx := hbx.later hb1; replace ox := ox.later hb1; replace hb := hb.trans (hb1.mono hb.size))
        | (go_at_call 14; refine (eqLikeness_yes s _ _ l _ ox o7.read hm).mono ?_; rintro e w8 ⟨rfl, hb2⟩; replace hbX := hbX.later hb2; replace hbx := hbx.later hb2; replace hb := hb.trans (hb2.mono hb.size)))
    go_wp2_with fail
    go_ret
    exact ⟨rfl, hb⟩
  · go_enter Try.func5, Try.ntmps5
    go_wp2_with fail
    generalize w.alloc (.cells #[.string s, .slice a l.length c] 24) = w0 at *
    refine (szLikeness_no s _ l _ hx h1 hml hzl hs).mono ?_
    rintro e w1 ⟨rfl, hb1⟩
    go_wp2_with fail
    go_ret
    exact ⟨rfl, hb.trans (hb1.mono hb.size)⟩
set_option maxHeartbeats 1000000 in
theorem lawIsClear_all (s : ByteArray) (v : Value) (l : List ByteArray) (t : ByteArray) (w : World) (h1 : s.size ≤ maxLen) (hx : RSM w v l) (ht : t.size ≤ maxLen) :
    Calls Try.prog 5 #[.agg #[.string s, v], .string t] w fun e w' => e = .returned (.bool true) ∧ Below w.heap.size w w' := by
  unfold maxLen at ht
  by_cases a1 : (t.size : Int) ≤ 1048576
  · exact lawIsClear_any s v l t w h1 hx a1
  · obtain ⟨hx, _, _⟩ := hx
    obtain ⟨a, c, rfl⟩ := hx.slice
    go_enter Try.func5, Try.ntmps5
    go_wp2_with fail
    go_ret
    exact ⟨rfl, (Below.refl _ _).alloc (Nat.le_refl _) _⟩
end Go.Proofs.Ytdkheeocglfogaa
