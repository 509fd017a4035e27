/- Identity, inverses, orders and powers in groups: the program's and the reference's. -/
import Derived.Test.YtghmpaegmicheaaGrpT
import Derived.Test.YtghmpaegmicheaaGrpL
namespace Go.Proofs.Ytghmpaegmicheaa
open Go.RowKit

theorem implVG_is (v : Value) (x : List (List Int)) (w : World) (b : Bool) (h : Hid (grpB x = b)) (hx : RT w v x) (hm : x.length ≤ 1048576) (hr : Small x) :
    Calls Try.prog 33 #[.agg #[v]] w fun e w' => e = .returned (.bool b) ∧ Below w.heap.size w w' := by
  have := implVG_any v x w hx hm hr
  rw [h.out] at this; exact this
theorem l05Is_is (v : Value) (x : List (List Int)) (g : Nat) (w : World) (b : Bool) (h : Hid (grpB x = b)) (hg : w.cell? ⟨g, 0, none⟩ = some v) (hx : RT w v x) (hm : x.length ≤ 1048576) (hr : Small x) :
    Calls Try.prog 52 #[.pointer (some ⟨g, 0, none⟩)] w fun e w' => e = .returned (.bool b) ∧ Below w.heap.size w w' := by
  have := l05Is_any v x g w hg hx hm hr
  rw [h.out] at this
  exact this.mono fun _ _ h => ⟨h.1, h.2.below⟩
theorem l05Is_q (v : Value) (x : List (List Int)) (g : Nat) (w : World) (b : Bool) (h : Hid (grpB x = b)) (hg : w.cell? ⟨g, 0, none⟩ = some v) (hx : RT w v x) (hm : x.length ≤ 1048576) (hr : Small x) :
    Calls Try.prog 52 #[.pointer (some ⟨g, 0, none⟩)] w fun e w' => e = .returned (.bool b) ∧ Drw w w' := by
  have := l05Is_any v x g w hg hx hm hr
  rw [h.out] at this
  exact this
/-- A group that is right has the element k. -/
def hasB (x : List (List Int)) (k : Int) : Bool := grpB x && inB k 0 (x.length - 1)
theorem hasB_iff {x : List (List Int)} {k : Int} : hasB x k = true ↔ grpB x = true ∧ 0 ≤ k ∧ k < x.length := by
  unfold hasB; rw [Bool.and_eq_true, inB_iff]
  constructor <;> (rintro ⟨h1, h2, h3⟩; exact ⟨h1, h2, by omega⟩)
set_option maxHeartbeats 1000000 in
theorem has_any (v : Value) (x : List (List Int)) (k : Int) (g : Nat) (w : World) (hg : w.cell? ⟨g, 0, none⟩ = some v) (hx : RT w v x) (hm : x.length ≤ 1048576) (hr : Small x) :
    Calls Try.prog 62 #[.pointer (some ⟨g, 0, none⟩), .int .i64 k] w fun e w' => e = .returned (.bool (hasB x k)) ∧ Below w.heap.size w w' := by
  have hgl : g < w.heap.size := World.block_lt_of_cell? w _ hg
  obtain ⟨a, c, rfl⟩ := hx.slice
  have HH : Hid (hasB x k = (grpB x && inB k 0 (x.length - 1))) := rfl
  cases hb : grpB x
  · have HB := Lib.hid hb
    clear hb
    go_enter Try.func62, Try.ntmps62
    go_wp2_with fail
    refine (implVG_is _ x _ false HB hx hm hr).mono ?_
    rintro e w1 ⟨rfl, hb1⟩
    go_wp2_with fail
    go_ret
    exact ⟨ret_bool (by rw [HH.out, HB.out]; rfl), hb1⟩
  · have HB := Lib.hid hb
    clear hb
    go_enter Try.func62, Try.ntmps62
    go_wp2_with fail
    refine (implVG_is _ x _ true HB hx hm hr).mono ?_
    rintro e w1 ⟨rfl, hb1⟩
    have hg1 := (hb1.cell (p := ⟨g, 0, none⟩) hgl).trans hg
    clear hg
    go_wp2_with (go_at_call 64; refine (in_any _ _ _ _).mono ?_; rintro e w' ⟨rfl, rfl⟩)
    go_ret
    exact ⟨ret_bool (by rw [HH.out, HB.out]; rfl), hb1⟩
set_option maxHeartbeats 1000000 in
theorem l05With_any (v : Value) (x : List (List Int)) (k : Int) (g : Nat) (w : World) (hg : w.cell? ⟨g, 0, none⟩ = some v) (hx : RT w v x) (hm : x.length ≤ 1048576) (hr : Small x) :
    Calls Try.prog 79 #[.pointer (some ⟨g, 0, none⟩), .int .i64 k] w fun e w' => e = .returned (.bool (hasB x k)) ∧ Below w.heap.size w w' := by
  have hgl : g < w.heap.size := World.block_lt_of_cell? w _ hg
  obtain ⟨a, c, rfl⟩ := hx.slice
  have HH : Hid (hasB x k = (grpB x && inB k 0 (x.length - 1))) := rfl
  cases hb : grpB x
  · have HB := Lib.hid hb
    clear hb
    go_enter Try.func79, Try.ntmps79
    go_wp2_with fail
    refine (l05Is_is _ x _ _ false HB hg hx hm hr).mono ?_
    rintro e w1 ⟨rfl, hb1⟩
    go_wp2_with fail
    go_ret
    exact ⟨ret_bool (by rw [HH.out, HB.out]; rfl), hb1⟩
  · have HB := Lib.hid hb
    clear hb
    go_enter Try.func79, Try.ntmps79
    go_wp2_with fail
    refine (l05Is_is _ x _ _ true HB hg hx hm hr).mono ?_
    rintro e w1 ⟨rfl, hb1⟩
    have hg1 := (hb1.cell (p := ⟨g, 0, none⟩) hgl).trans hg
    clear hg
    go_wp2_with (go_at_call 89; refine (l00In_any _ _ _ _).mono ?_; rintro e w' ⟨rfl, rfl⟩)
    go_ret
    exact ⟨ret_bool (by rw [HH.out, HB.out]; rfl), hb1⟩
theorem has_is (v : Value) (x : List (List Int)) (k : Int) (g : Nat) (w : World) (b : Bool) (h : Hid (hasB x k = b)) (hg : w.cell? ⟨g, 0, none⟩ = some v) (hx : RT w v x) (hm : x.length ≤ 1048576) (hr : Small x) :
    Calls Try.prog 62 #[.pointer (some ⟨g, 0, none⟩), .int .i64 k] w fun e w' => e = .returned (.bool b) ∧ Below w.heap.size w w' := by
  have := has_any v x k g w hg hx hm hr
  rw [h.out] at this; exact this
theorem l05With_is (v : Value) (x : List (List Int)) (k : Int) (g : Nat) (w : World) (b : Bool) (h : Hid (hasB x k = b)) (hg : w.cell? ⟨g, 0, none⟩ = some v) (hx : RT w v x) (hm : x.length ≤ 1048576) (hr : Small x) :
    Calls Try.prog 79 #[.pointer (some ⟨g, 0, none⟩), .int .i64 k] w fun e w' => e = .returned (.bool b) ∧ Below w.heap.size w w' := by
  have := l05With_any v x k g w hg hx hm hr
  rw [h.out] at this; exact this


/-- The identity of a group, and whether it is one. -/
def idnV (x : List (List Int)) : Value := if grpB x then .tuple #[.int .i64 (idn x), .bool true] else .tuple #[.int .i64 0, .bool false]
theorem idnV_shape (x : List (List Int)) : ∃ (n : Int) (c : Bool), idnV x = .tuple #[.int .i64 n, .bool c] := by
  unfold idnV; split <;> exact ⟨_, _, rfl⟩
set_option maxHeartbeats 1000000 in
theorem implId_any (v : Value) (x : List (List Int)) (w : World) (hx : RT w v x) (hm : x.length ≤ 1048576) (hr : Small x) :
    Calls Try.prog 29 #[.agg #[v]] w fun e w' => e = .returned (idnV x) ∧ Below w.heap.size w w' := by
  by_cases hg : grpB x = true
  · have GP := Lib.hid (Gp.of hg)
    have hn := (Gp.of hg).n
    have hs : Hid (sqB x = true) := (Gp.of hg).sq
    obtain ⟨G, O, C, H, F, P, rfl, hat⟩ := hx.sq (Gp.of hg).sq
    have HSQ := Lib.hid hat
    have HG := Lib.hid hg
    have hb : Below w.heap.size w (w.alloc (.cells #[.slice (some ⟨G, O, none⟩) x.length C] 29)) := (Below.refl _ _).alloc (Nat.le_refl _) _
    have c0 : (w.alloc (.cells #[.slice (some ⟨G, O, none⟩) x.length C] 29)).cell? ⟨w.heap.size, 0, none⟩ = some (.slice (some ⟨G, O, none⟩) x.length C) := World.cell?_alloc_at _ _ _ _ rfl
    have hlt : w.heap.size < (w.alloc (.cells #[.slice (some ⟨G, O, none⟩) x.length C] 29)).heap.size := by simp
    replace hx := hx.later hb
    clear hat hg
    go_enter Try.func29, Try.ntmps29
    go_wp2_with fail
    generalize w.alloc (.cells #[.slice (some ⟨G, O, none⟩) x.length C] 29) = w0 at *
    refine (implVG_is _ x _ true HG  hx hm hr).mono ?_
    rintro e w1 ⟨rfl, hb1⟩
    replace c0 := (hb1.cell (p := ⟨w.heap.size, 0, none⟩) hlt).trans c0
    replace hx := hx.later hb1
    replace hb := hb.trans (hb1.mono (Nat.le_of_lt hlt))
    replace hlt := Nat.lt_of_lt_of_le hlt hb1.size
    clear hb1
    go_wp2_with (go_at_call 61; refine (identity_any x _ hs (HSQ.out.later hb)).mono ?_; rintro e w' ⟨rfl, rfl⟩)
    go_ret2
    exact ⟨by unfold idnV; rw [if_pos HG.out]; rfl, hb⟩
  · simp only [Bool.not_eq_true] at hg
    have HG := Lib.hid hg
    clear hg
    obtain ⟨a, c, rfl⟩ := hx.slice
    have hb : Below w.heap.size w (w.alloc (.cells #[.slice a x.length c] 29)) := (Below.refl _ _).alloc (Nat.le_refl _) _
    have c0 : (w.alloc (.cells #[.slice a x.length c] 29)).cell? ⟨w.heap.size, 0, none⟩ = some (.slice a x.length c) := World.cell?_alloc_at _ _ _ _ rfl
    have hlt : w.heap.size < (w.alloc (.cells #[.slice a x.length c] 29)).heap.size := by simp
    replace hx := hx.later hb
    go_enter Try.func29, Try.ntmps29
    go_wp2_with fail
    generalize w.alloc (.cells #[.slice a x.length c] 29) = w0 at *
    refine (implVG_is _ x _ false HG  hx hm hr).mono ?_
    rintro e w1 ⟨rfl, hb1⟩
    replace c0 := (hb1.cell (p := ⟨w.heap.size, 0, none⟩) hlt).trans c0
    replace hx := hx.later hb1
    replace hb := hb.trans (hb1.mono (Nat.le_of_lt hlt))
    replace hlt := Nat.lt_of_lt_of_le hlt hb1.size
    clear hb1
    go_wp2_with fail
    go_ret2
    exact ⟨by unfold idnV; rw [HG.out]; rfl, hb⟩

/-- The inverse of an element, and whether it is one. -/
def invV (x : List (List Int)) (k : Int) : Value := if hasB x k then .tuple #[.int .i64 (inv x (idn x) k.toNat), .bool true] else .tuple #[.int .i64 0, .bool false]
theorem invV_shape (x : List (List Int)) (k : Int) : ∃ (n : Int) (c : Bool), invV x k = .tuple #[.int .i64 n, .bool c] := by
  unfold invV; split <;> exact ⟨_, _, rfl⟩
set_option maxHeartbeats 1000000 in
theorem implInv_any (v : Value) (x : List (List Int)) (k : Int) (w : World) (hx : RT w v x) (hm : x.length ≤ 1048576) (hr : Small x) :
    Calls Try.prog 30 #[.agg #[v], .int .i64 k] w fun e w' => e = .returned (invV x k) ∧ Below w.heap.size w w' := by
  by_cases hh : hasB x k = true
  · obtain ⟨hg, hk0, hk1⟩ := hasB_iff.1 hh
    have HH := Lib.hid hh
    obtain ⟨q, rfl⟩ := Int.eq_ofNat_of_zero_le hk0
    have hq : q < x.length := by omega
    clear hh hk0 hk1
    have GP := Lib.hid (Gp.of hg)
    have hn := (Gp.of hg).n
    have hs : Hid (sqB x = true) := (Gp.of hg).sq
    obtain ⟨G, O, C, H, F, P, rfl, hat⟩ := hx.sq (Gp.of hg).sq
    have HSQ := Lib.hid hat
    have HG := Lib.hid hg
    have hb : Below w.heap.size w (w.alloc (.cells #[.slice (some ⟨G, O, none⟩) x.length C] 29)) := (Below.refl _ _).alloc (Nat.le_refl _) _
    have c0 : (w.alloc (.cells #[.slice (some ⟨G, O, none⟩) x.length C] 29)).cell? ⟨w.heap.size, 0, none⟩ = some (.slice (some ⟨G, O, none⟩) x.length C) := World.cell?_alloc_at _ _ _ _ rfl
    have hlt : w.heap.size < (w.alloc (.cells #[.slice (some ⟨G, O, none⟩) x.length C] 29)).heap.size := by simp
    replace hx := hx.later hb
    clear hat hg
    go_enter Try.func30, Try.ntmps30
    go_wp2_with fail
    generalize w.alloc (.cells #[.slice (some ⟨G, O, none⟩) x.length C] 29) = w0 at *
    refine (has_is _ x _ _ _ true HH c0 hx hm hr).mono ?_
    rintro e w1 ⟨rfl, hb1⟩
    replace c0 := (hb1.cell (p := ⟨w.heap.size, 0, none⟩) hlt).trans c0
    replace hx := hx.later hb1
    replace hb := hb.trans (hb1.mono (Nat.le_of_lt hlt))
    replace hlt := Nat.lt_of_lt_of_le hlt hb1.size
    clear hb1
    have HID : Hid (∀ wx, Below w1.heap.size w1 wx → Calls Try.prog 61 #[.slice (some ⟨G, O, none⟩) x.length C] wx fun e w' => e = .returned (.int .i64 (idn x)) ∧ wx = w') := fun wx h => identity_any x wx hs (HSQ.out.later (hb.trans (h.mono (Nat.le_of_lt hlt))))
    have HIN : Hid (∀ wx, Below w1.heap.size w1 wx → Calls Try.prog 63 #[.slice (some ⟨G, O, none⟩) x.length C, .int .i64 (idn x), .int .i64 q] wx fun e w' => e = .returned (.int .i64 (inv x (idn x) q)) ∧ wx = w') := fun wx h => inverse_any x (idn x) q wx hs (HSQ.out.later (hb.trans (h.mono (Nat.le_of_lt hlt)))) hq
    go_wp2_with fail
    go_quiet (first
      | (go_at_call 61; exact quiet_same (HID.out _ (below_drewN (Below.refl _ _) _)))
      | (go_at_call 63; exact quiet_same (HIN.out _ (below_drewN (Below.refl _ _) _))))
    go_wp2_with fail
    go_ret2
    exact ⟨by unfold invV; rw [if_pos HH.out]; rfl, below_drewN hb _⟩
  · simp only [Bool.not_eq_true] at hh
    have HH := Lib.hid hh
    clear hh
    obtain ⟨a, c, rfl⟩ := hx.slice
    have hb : Below w.heap.size w (w.alloc (.cells #[.slice a x.length c] 29)) := (Below.refl _ _).alloc (Nat.le_refl _) _
    have c0 : (w.alloc (.cells #[.slice a x.length c] 29)).cell? ⟨w.heap.size, 0, none⟩ = some (.slice a x.length c) := World.cell?_alloc_at _ _ _ _ rfl
    have hlt : w.heap.size < (w.alloc (.cells #[.slice a x.length c] 29)).heap.size := by simp
    replace hx := hx.later hb
    go_enter Try.func30, Try.ntmps30
    go_wp2_with fail
    generalize w.alloc (.cells #[.slice a x.length c] 29) = w0 at *
    refine (has_is _ x _ _ _ false HH c0 hx hm hr).mono ?_
    rintro e w1 ⟨rfl, hb1⟩
    replace c0 := (hb1.cell (p := ⟨w.heap.size, 0, none⟩) hlt).trans c0
    replace hx := hx.later hb1
    replace hb := hb.trans (hb1.mono (Nat.le_of_lt hlt))
    replace hlt := Nat.lt_of_lt_of_le hlt hb1.size
    clear hb1
    go_wp2_with fail
    go_ret2
    exact ⟨by unfold invV; rw [HH.out]; rfl, hb⟩
end Go.Proofs.Ytghmpaegmicheaa
