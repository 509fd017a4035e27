/- GroupChain: the reference's. -/
import Derived.Test.YtghmpaegmicheaaGc3
namespace Go.Proofs.Ytghmpaegmicheaa
open Go.RowKit

set_option maxHeartbeats 1000000 in
theorem specGc_h (v mv : Value) (x ms : List (List Int)) (k : Int) (w : World) (hx : RT w v x) (hms : RT w mv ms) (hm : x.length ≤ 1048576) (hr : Small x) (hh : hasB x k = false) :
    Calls Try.prog 42 #[.agg #[v], mv, .int .i64 k] w (ChR 0 0 0 0 [] [] false w) := by
  obtain ⟨a, c, rfl⟩ := hx.slice
  obtain ⟨ma, mc, rfl⟩ := hms.slice
  have hbA : Below w.heap.size w (w.alloc (.cells #[.slice a x.length c] 29)) := (Below.refl _ _).alloc (Nat.le_refl _) _
  have hcA : (w.alloc (.cells #[.slice a x.length c] 29)).cell? ⟨w.heap.size, 0, none⟩ = some (.slice a x.length c) := World.cell?_alloc_at _ _ _ _ rfl
  have hzA : (w.alloc (.cells #[.slice a x.length c] 29)).heap.size = w.heap.size + 1 := by simp
  have hbB : Below (w.alloc (.cells #[.slice a x.length c] 29)).heap.size (w.alloc (.cells #[.slice a x.length c] 29)) ((w.alloc (.cells #[.slice a x.length c] 29)).alloc zch) := (Below.refl _ _).alloc (Nat.le_refl _) _
  have fR := AF.fresh (w.alloc (.cells #[.slice a x.length c] 29))
  rw [hzA] at fR
  have hb0 := hbA.trans (hbB.mono hbA.size)
  have c0 := (hbB.cell (p := ⟨w.heap.size, 0, none⟩) (by show w.heap.size < _; omega)).trans hcA
  clear hbA hbB hcA hzA
  have hq := Lib.hid (l05With_is _ x k w.heap.size _ false (by unfold Hid; exact hh) c0 (hx.later hb0) hm hr)
  skip
  go_enter Try.func42, Try.ntmps42
  go_wp2_with (go_at_call 79; refine hq.out.mono ?_; rintro e w2 ⟨rfl, hb2⟩; have fR2 := fR.later hb2; have d0 := (hb2.cell (p := ⟨w.heap.size, 0, none⟩) (World.block_lt_of_cell? _ _ c0)).trans c0; have k0 := fR2.ch.c0; have k1 := fR2.ch.c1; have k2 := fR2.ch.c2; have k3 := fR2.ch.c3; have k4 := fR2.ch.c4; have k5 := fR2.ch.c5; have g0 := fR2.fz 0; have g1 := fR2.fz 1; have g2 := fR2.fz 2; have g3 := fR2.fz 3; have g4 := fR2.fz 4; have g5 := fR2.fz 5)
  have HE := Lib.hid (fun a0 a1 a2 a3 a4 a5 => crNil ((set6 (r := w.heap.size + 1) (w := w2) a0 a1 a2 a3 a4 a5).2 _ _ (Nat.le_succ _) (hb0.trans (hb2.mono hb0.size))))
  exact bodyPost_ret (v := .tuple #[.agg #[.int .i64 0, .int .i64 0, .int .i64 0, .int .i64 0, .slice none 0 0, .slice none 0 0], .bool false]) (by simp [results, Try.results42, go_sem, k0, k1, k2, k3, k4, k5]) rfl (HE.out _ _ _ _ _ _)
set_option maxHeartbeats 1000000 in
theorem specGc_2 (v mv : Value) (x ms : List (List Int)) (k : Int) (w : World) (hx : RT w v x) (hms : RT w mv ms) (hm : x.length ≤ 1048576) (hr : Small x) (hh : hasB x k = true) (h2 : x.length < 2) :
    Calls Try.prog 42 #[.agg #[v], mv, .int .i64 k] w (ChR 0 0 0 0 [] [] false w) := by
  obtain ⟨a, c, rfl⟩ := hx.slice
  obtain ⟨ma, mc, rfl⟩ := hms.slice
  have hbA : Below w.heap.size w (w.alloc (.cells #[.slice a x.length c] 29)) := (Below.refl _ _).alloc (Nat.le_refl _) _
  have hcA : (w.alloc (.cells #[.slice a x.length c] 29)).cell? ⟨w.heap.size, 0, none⟩ = some (.slice a x.length c) := World.cell?_alloc_at _ _ _ _ rfl
  have hzA : (w.alloc (.cells #[.slice a x.length c] 29)).heap.size = w.heap.size + 1 := by simp
  have hbB : Below (w.alloc (.cells #[.slice a x.length c] 29)).heap.size (w.alloc (.cells #[.slice a x.length c] 29)) ((w.alloc (.cells #[.slice a x.length c] 29)).alloc zch) := (Below.refl _ _).alloc (Nat.le_refl _) _
  have fR := AF.fresh (w.alloc (.cells #[.slice a x.length c] 29))
  rw [hzA] at fR
  have hb0 := hbA.trans (hbB.mono hbA.size)
  have c0 := (hbB.cell (p := ⟨w.heap.size, 0, none⟩) (by show w.heap.size < _; omega)).trans hcA
  clear hbA hbB hcA hzA
  have hq := Lib.hid (l05With_is _ x k w.heap.size _ true (by unfold Hid; exact hh) c0 (hx.later hb0) hm hr)
  have h2' : (x.length : Int) < 2 := by omega
  go_enter Try.func42, Try.ntmps42
  go_wp2_with (go_at_call 79; refine hq.out.mono ?_; rintro e w2 ⟨rfl, hb2⟩; have fR2 := fR.later hb2; have d0 := (hb2.cell (p := ⟨w.heap.size, 0, none⟩) (World.block_lt_of_cell? _ _ c0)).trans c0; have k0 := fR2.ch.c0; have k1 := fR2.ch.c1; have k2 := fR2.ch.c2; have k3 := fR2.ch.c3; have k4 := fR2.ch.c4; have k5 := fR2.ch.c5; have g0 := fR2.fz 0; have g1 := fR2.fz 1; have g2 := fR2.fz 2; have g3 := fR2.fz 3; have g4 := fR2.fz 4; have g5 := fR2.fz 5)
  have HE := Lib.hid (fun a0 a1 a2 a3 a4 a5 => crNil ((set6 (r := w.heap.size + 1) (w := w2) a0 a1 a2 a3 a4 a5).2 _ _ (Nat.le_succ _) (hb0.trans (hb2.mono hb0.size))))
  exact bodyPost_ret (v := .tuple #[.agg #[.int .i64 0, .int .i64 0, .int .i64 0, .int .i64 0, .slice none 0 0, .slice none 0 0], .bool false]) (by simp [results, Try.results42, go_sem, k0, k1, k2, k3, k4, k5]) rfl (HE.out _ _ _ _ _ _)
set_option maxHeartbeats 1000000 in
theorem specGc_m (v mv : Value) (x ms : List (List Int)) (k : Int) (w : World) (hx : RT w v x) (hms : RT w mv ms) (hm : x.length ≤ 1048576) (hr : Small x) (hh : hasB x k = true) (h2 : 2 ≤ x.length) (h3 : ms.length < 1) :
    Calls Try.prog 42 #[.agg #[v], mv, .int .i64 k] w (ChR 0 0 0 0 [] [] false w) := by
  obtain ⟨a, c, rfl⟩ := hx.slice
  obtain ⟨ma, mc, rfl⟩ := hms.slice
  have hbA : Below w.heap.size w (w.alloc (.cells #[.slice a x.length c] 29)) := (Below.refl _ _).alloc (Nat.le_refl _) _
  have hcA : (w.alloc (.cells #[.slice a x.length c] 29)).cell? ⟨w.heap.size, 0, none⟩ = some (.slice a x.length c) := World.cell?_alloc_at _ _ _ _ rfl
  have hzA : (w.alloc (.cells #[.slice a x.length c] 29)).heap.size = w.heap.size + 1 := by simp
  have hbB : Below (w.alloc (.cells #[.slice a x.length c] 29)).heap.size (w.alloc (.cells #[.slice a x.length c] 29)) ((w.alloc (.cells #[.slice a x.length c] 29)).alloc zch) := (Below.refl _ _).alloc (Nat.le_refl _) _
  have fR := AF.fresh (w.alloc (.cells #[.slice a x.length c] 29))
  rw [hzA] at fR
  have hb0 := hbA.trans (hbB.mono hbA.size)
  have c0 := (hbB.cell (p := ⟨w.heap.size, 0, none⟩) (by show w.heap.size < _; omega)).trans hcA
  clear hbA hbB hcA hzA
  have hq := Lib.hid (l05With_is _ x k w.heap.size _ true (by unfold Hid; exact hh) c0 (hx.later hb0) hm hr)
  have h2' : ¬ (x.length : Int) < 2 := (by omega); have h3' : (ms.length : Int) < 1 := by omega
  go_enter Try.func42, Try.ntmps42
  go_wp2_with (go_at_call 79; refine hq.out.mono ?_; rintro e w2 ⟨rfl, hb2⟩; have fR2 := fR.later hb2; have d0 := (hb2.cell (p := ⟨w.heap.size, 0, none⟩) (World.block_lt_of_cell? _ _ c0)).trans c0; have k0 := fR2.ch.c0; have k1 := fR2.ch.c1; have k2 := fR2.ch.c2; have k3 := fR2.ch.c3; have k4 := fR2.ch.c4; have k5 := fR2.ch.c5; have g0 := fR2.fz 0; have g1 := fR2.fz 1; have g2 := fR2.fz 2; have g3 := fR2.fz 3; have g4 := fR2.fz 4; have g5 := fR2.fz 5)
  have HE := Lib.hid (fun a0 a1 a2 a3 a4 a5 => crNil ((set6 (r := w.heap.size + 1) (w := w2) a0 a1 a2 a3 a4 a5).2 _ _ (Nat.le_succ _) (hb0.trans (hb2.mono hb0.size))))
  exact bodyPost_ret (v := .tuple #[.agg #[.int .i64 0, .int .i64 0, .int .i64 0, .int .i64 0, .slice none 0 0, .slice none 0 0], .bool false]) (by simp [results, Try.results42, go_sem, k0, k1, k2, k3, k4, k5]) rfl (HE.out _ _ _ _ _ _)
set_option maxHeartbeats 1000000 in
theorem specGc_n (v mv : Value) (x ms : List (List Int)) (k : Int) (w : World) (hx : RT w v x) (hms : RT w mv ms) (hm : x.length ≤ 1048576) (hr : Small x) (hh : hasB x k = true) (h2 : 2 ≤ x.length) (h3 : 20 < ms.length) :
    Calls Try.prog 42 #[.agg #[v], mv, .int .i64 k] w (ChR 0 0 0 0 [] [] false w) := by
  obtain ⟨a, c, rfl⟩ := hx.slice
  obtain ⟨ma, mc, rfl⟩ := hms.slice
  have hbA : Below w.heap.size w (w.alloc (.cells #[.slice a x.length c] 29)) := (Below.refl _ _).alloc (Nat.le_refl _) _
  have hcA : (w.alloc (.cells #[.slice a x.length c] 29)).cell? ⟨w.heap.size, 0, none⟩ = some (.slice a x.length c) := World.cell?_alloc_at _ _ _ _ rfl
  have hzA : (w.alloc (.cells #[.slice a x.length c] 29)).heap.size = w.heap.size + 1 := by simp
  have hbB : Below (w.alloc (.cells #[.slice a x.length c] 29)).heap.size (w.alloc (.cells #[.slice a x.length c] 29)) ((w.alloc (.cells #[.slice a x.length c] 29)).alloc zch) := (Below.refl _ _).alloc (Nat.le_refl _) _
  have fR := AF.fresh (w.alloc (.cells #[.slice a x.length c] 29))
  rw [hzA] at fR
  have hb0 := hbA.trans (hbB.mono hbA.size)
  have c0 := (hbB.cell (p := ⟨w.heap.size, 0, none⟩) (by show w.heap.size < _; omega)).trans hcA
  clear hbA hbB hcA hzA
  have hq := Lib.hid (l05With_is _ x k w.heap.size _ true (by unfold Hid; exact hh) c0 (hx.later hb0) hm hr)
  have h2' : ¬ (x.length : Int) < 2 := (by omega); have h3' : (20 : Int) < ms.length := (by omega); have h4' : ¬ (ms.length : Int) < 1 := by omega
  go_enter Try.func42, Try.ntmps42
  go_wp2_with (go_at_call 79; refine hq.out.mono ?_; rintro e w2 ⟨rfl, hb2⟩; have fR2 := fR.later hb2; have d0 := (hb2.cell (p := ⟨w.heap.size, 0, none⟩) (World.block_lt_of_cell? _ _ c0)).trans c0; have k0 := fR2.ch.c0; have k1 := fR2.ch.c1; have k2 := fR2.ch.c2; have k3 := fR2.ch.c3; have k4 := fR2.ch.c4; have k5 := fR2.ch.c5; have g0 := fR2.fz 0; have g1 := fR2.fz 1; have g2 := fR2.fz 2; have g3 := fR2.fz 3; have g4 := fR2.fz 4; have g5 := fR2.fz 5)
  have HE := Lib.hid (fun a0 a1 a2 a3 a4 a5 => crNil ((set6 (r := w.heap.size + 1) (w := w2) a0 a1 a2 a3 a4 a5).2 _ _ (Nat.le_succ _) (hb0.trans (hb2.mono hb0.size))))
  exact bodyPost_ret (v := .tuple #[.agg #[.int .i64 0, .int .i64 0, .int .i64 0, .int .i64 0, .slice none 0 0, .slice none 0 0], .bool false]) (by simp [results, Try.results42, go_sem, k0, k1, k2, k3, k4, k5]) rfl (HE.out _ _ _ _ _ _)
set_option maxHeartbeats 8000000 in
set_option maxRecDepth 100000 in
theorem specGc_go (v mv : Value) (x ms : List (List Int)) (k : Nat) (w : World) (hx : RT w v x) (hms : RT w mv ms) (hm : x.length ≤ 1048576) (hr : Small x) (hrm : Small ms) (hh : hasB x (k : Int) = true) (h2 : 2 ≤ x.length) (h3 : 1 ≤ ms.length ∧ ms.length ≤ 20) :
    Calls Try.prog 42 #[.agg #[v], mv, .int .i64 k] w (GcR x ms k w) := by
  obtain ⟨hg, _, hk⟩ := hasB_iff.1 hh
  have hsq := (grpB_iff.1 hg).1
  have h10 := (sqB_iff.1 hsq).1
  obtain ⟨n0, hn0⟩ := Int.eq_ofNat_of_zero_le (grpB_iff.1 hg).2.1
  have hn0l : n0 < x.length := by have := idn_bd x; omega
  have HNO : Hid (∀ i, i < ms.length → mOk x.length (rowAt ms i) = false → gcOk x ms (k : Int) = false) := fun i hi h => by
    unfold gcOk; rw [allN_no i hi h]; simp
  have HYES : Hid ((∀ i, i < ms.length → mOk x.length (rowAt ms i) = true) → gcOk x ms (k : Int) = powB x.length ms.length) := fun h => by
    unfold gcOk; rw [hh, decide_eq_true h2, inB_yes (show (1 : Int) ≤ ms.length ∧ (ms.length : Int) ≤ 20 by omega), allN_yes h]; rfl
  have HN0 := Lib.hid hn0
  have HG := Lib.hid hg
  have HX := Lib.hid hx
  have HM := Lib.hid hms
  obtain ⟨a, c, rfl⟩ := hx.slice
  obtain ⟨ma, mc, rfl⟩ := hms.slice
  have hbA : Below w.heap.size w (w.alloc (.cells #[.slice a x.length c] 29)) := (Below.refl _ _).alloc (Nat.le_refl _) _
  have hcA : (w.alloc (.cells #[.slice a x.length c] 29)).cell? ⟨w.heap.size, 0, none⟩ = some (.slice a x.length c) := World.cell?_alloc_at _ _ _ _ rfl
  have hzA : (w.alloc (.cells #[.slice a x.length c] 29)).heap.size = w.heap.size + 1 := by simp
  have hbB : Below (w.alloc (.cells #[.slice a x.length c] 29)).heap.size (w.alloc (.cells #[.slice a x.length c] 29)) ((w.alloc (.cells #[.slice a x.length c] 29)).alloc zch) := (Below.refl _ _).alloc (Nat.le_refl _) _
  have fR := AF.fresh (w.alloc (.cells #[.slice a x.length c] 29))
  rw [hzA] at fR
  have hb0 := hbA.trans (hbB.mono hbA.size)
  have c0 := (hbB.cell (p := ⟨w.heap.size, 0, none⟩) (by show w.heap.size < _; omega)).trans hcA
  clear hbA hbB hcA hzA
  have hq := Lib.hid (l05With_is _ x (k : Int) w.heap.size _ true (by unfold Hid; exact hh) c0 (hx.later hb0) hm hr)
  have h2' : ¬ (x.length : Int) < 2 := by omega
  have h3' : ¬ (ms.length : Int) < 1 := by omega
  have h4' : ¬ (20 : Int) < ms.length := by omega
  obtain ⟨G, O, C, H, F, P, hv, hsqa⟩ := hx.sq hsq
  simp only [Value.slice.injEq, true_and] at hv
  obtain ⟨rfl, rfl⟩ := hv
  have HSQ := Lib.hid hsqa
  clear hsqa hx hms
  go_enter Try.func42, Try.ntmps42
  go_wp2_with (go_at_call 79; refine hq.out.mono ?_; rintro e w2 ⟨rfl, hb2⟩; have d0 := (hb2.cell (p := ⟨w.heap.size, 0, none⟩) (World.block_lt_of_cell? _ _ c0)).trans c0)
  have hbb := hb0.trans (hb2.mono hb0.size)
  have hlw : w.heap.size < w2.heap.size := World.block_lt_of_cell? _ _ d0
  have HW : Hid (∀ wx, Below w2.heap.size w2 wx → AF (w.heap.size + 1) wx ∧ wx.cell? ⟨w.heap.size, 0, none⟩ = some (.slice (some ⟨G, O, none⟩) x.length c) ∧ Below w.heap.size w wx) := fun wx h => ⟨(fR.later hb2).later h, (h.cell (p := ⟨w.heap.size, 0, none⟩) hlw).trans d0, hbb.trans (h.mono hbb.size)⟩
  clear hbb hb2 d0 hq hb0 c0 fR
  go_loopw [8] (fun iv wr => ∃ i : Nat, i ≤ ms.length ∧ iv = .int .i64 i ∧ Hid (∀ j, j < i → mOk x.length (rowAt ms j) = true) ∧ Below w2.heap.size w2 wr) (fun iv _ => ms.length - (intOf iv).toNat)
  case atStart => exact ⟨0, Nat.zero_le _, rfl, Lib.hid (fun j hj => by omega), Below.refl _ _⟩
  case round =>
    obtain ⟨i, hi, rfl, HOK, hbw⟩ := hrel
    obtain ⟨fR, d0, hb⟩ := HW.out wr hbw
    by_cases hlt : i < ms.length
    · obtain ⟨g, off, r, rfl, hgl, hcr, hri⟩ := HM.out.at i hlt
      obtain ⟨ra, rc, rfl⟩ := hri.slice
      have hrk := hrm.out i hlt
      have hcr2 := (hb.cell (p := ⟨g, off + i, none⟩) hgl).trans hcr
      have HLO : Hid (∀ wx, Below w.heap.size w wx → Calls Try.prog 80 #[.slice ra (rowAt ms i).length rc, .int .i64 x.length] wx fun e w' => e = .returned (.bool (mOk x.length (rowAt ms i))) ∧ Drw wx w') := fun wx h => by
        have := l01Order_any _ (rowAt ms i) x.length wx (hri.later h) hrk (by omega)
        have e : (ordAt (x.length : Int) (rowAt ms i) && decide (((rowAt ms i).length : Int) = (x.length : Int))) = mOk x.length (rowAt ms i) := by
          unfold mOk
          rw [Bool.and_comm]
          congr 1
          exact decide_eq_decide.2 (by omega)
        rw [e] at this
        exact this
      have HNI := Lib.hid (HNO.out i hlt)
      obtain ⟨ob, hob⟩ : ∃ b, b = mOk x.length (rowAt ms i) := ⟨_, rfl⟩
      rw [← hob] at HLO HNI
      have HOB := Lib.hid hob
      clear hob hri hcr
      cases ob
      · go_wp2_with fail
        go_quiet ((go_at_call 80; exact quiet_drw (HLO.out _ (below_drewN hb _))))
        have hb9 := below_drewN hb nq
        obtain ⟨fR9, d9, _⟩ := HW.out _ (below_drewN hbw nq)
        clear fR d0 hb hcr2
        generalize wr.drewN nq = w9 at *
        have k0 := (fR9).ch.c0
        have k1 := (fR9).ch.c1
        have k2 := (fR9).ch.c2
        have k3 := (fR9).ch.c3
        have k4 := (fR9).ch.c4
        have k5 := (fR9).ch.c5
        have g0 := (fR9).fz 0
        have g1 := (fR9).fz 1
        have g2 := (fR9).fz 2
        have g3 := (fR9).fz 3
        have g4 := (fR9).fz 4
        have g5 := (fR9).fz 5
        have HE := Lib.hid (fun a0 a1 a2 a3 a4 a5 => GcR.no (by first | exact HNI.out rfl | exact HNI.out trivial) (crNil ((set6 (r := w.heap.size + 1) (w := w9) a0 a1 a2 a3 a4 a5).2 _ _ (Nat.le_succ _) hb9)))
        go_wp2_with fail
        exact bodyPost_ret (v := .tuple #[.agg #[.int .i64 0, .int .i64 0, .int .i64 0, .int .i64 0, .slice none 0 0, .slice none 0 0], .bool false]) (by simp [results, Try.results42, go_sem, k0, k1, k2, k3, k4, k5]) rfl (HE.out _ _ _ _ _ _)
      · go_wp2_with fail
        go_quiet ((go_at_call 80; exact quiet_drw (HLO.out _ (below_drewN hb _))))
        have hbw9 := below_drewN hbw nq
        clear fR d0 hb hcr2
        generalize wr.drewN nq = w9 at *
        have HO9 := Lib.hid (fun j (hj : j < i + 1) => (show mOk x.length (rowAt ms j) = true from if e : j = i then by rw [e]; exact HOB.out.symm else HOK.out j (by omega)))
        go_wp2_with fail
        go_roundw
        case rel => exact ⟨i + 1, by omega, by go_num, HO9, hbw9⟩
        case measure => first | (simp [intOf]; done) | (simp [intOf]; omega)
    · obtain rfl : i = ms.length := by omega
      have HLC : Hid (Calls Try.prog 81 #[.pointer (some ⟨w.heap.size, 0, none⟩), .slice ma ms.length mc, .int .i64 k] wr (LcPost x ms n0 k wr)) := by
        have := l05Chain_any _ x ms k w.heap.size c wr HG.out (HSQ.out.later hb) d0 (HM.out.later hb) h3.2 HOK.out
        rw [HN0.out] at this; exact this
      clear fR
      go_wp2_with fail
      refine HLC.out.mono ?_
      rintro e w5 ⟨tv, pv, rfl, ho, hy, hb5⟩
      obtain ⟨ta, tc, rfl⟩ := ho.slice
      obtain ⟨pa, pc, hpv⟩ := hy.slice
      subst hpv
      rw [tabs_len, idx_len] at *
      have hbw5 := hbw.trans (hb5.mono hbw.size)
      have hb6 : Below w5.heap.size w5 (w5.alloc (.cells #[.int .i64 x.length, .int .i64 x.length, .int .i64 n0, .int .i64 k, .slice ta ms.length tc, .slice pa ms.length pc] 56)) := (Below.refl _ _).alloc (Nat.le_refl _) _
      have hc6 : ChAt w5.heap.size x.length x.length n0 k (.slice ta ms.length tc) (.slice pa ms.length pc) (w5.alloc (.cells #[.int .i64 x.length, .int .i64 x.length, .int .i64 n0, .int .i64 k, .slice ta ms.length tc, .slice pa ms.length pc] 56)) :=
        ⟨by simp, World.cell?_alloc_at _ _ _ _ rfl, World.cell?_alloc_at _ _ _ _ rfl, World.cell?_alloc_at _ _ _ _ rfl, World.cell?_alloc_at _ _ _ _ rfl, World.cell?_alloc_at _ _ _ _ rfl, World.cell?_alloc_at _ _ _ _ rfl⟩
      have hbw6 := hbw5.trans (hb6.mono hbw5.size)
      have ho6 := ho.later hb6 (Nat.le_refl _)
      have hy6 := OV.later hy hb6
      have HK := Lib.hid (HYES.out HOK.out)
      obtain ⟨pb, hpb⟩ : ∃ pb, pb = powB x.length ms.length := ⟨_, rfl⟩
      rw [← hpb] at HK
      have HG6 := Lib.hid (l02Is_good w5.heap.size x.length x.length n0 k (.slice ta ms.length tc) (.slice pa ms.length pc) (tabs x ms) (idx ms.length) _ hc6 ho6.read (OK.read hy6) (gc_good HG.out (by omega) h2 h3 HOK.out hn0l))
      rw [idx_len, ← hpb] at HG6
      have hX : w.heap.size + 1 < wr.heap.size := (HW.out wr hbw).1.ch.lt
      have hX5 := hb5.size
      have hlr := hbw.size
      clear ho hy hb6 hpb HNO HYES
      go_wp2_with fail
      generalize w5.alloc (.cells #[.int .i64 x.length, .int .i64 x.length, .int .i64 n0, .int .i64 k, .slice ta ms.length tc, .slice pa ms.length pc] 56) = w6 at *
      generalize w5.heap.size = X at *
      refine HG6.out.mono ?_
      rintro e w9 ⟨rfl, hd⟩
      have hc9 := hc6.drw hd
      have ho9 := ho6.later hd.below (Nat.le_of_lt hc6.lt)
      have hy9 := OV.later hy6 hd.below
      obtain ⟨fR9, d9, hb9⟩ := HW.out _ (hbw6.trans (hd.below.mono hbw6.size))
      clear hbw6 hc6 ho6 hy6
      have k0 := (fR9).ch.c0
      have k1 := (fR9).ch.c1
      have k2 := (fR9).ch.c2
      have k3 := (fR9).ch.c3
      have k4 := (fR9).ch.c4
      have k5 := (fR9).ch.c5
      have g0 := (fR9).fz 0
      have g1 := (fR9).fz 1
      have g2 := (fR9).fz 2
      have g3 := (fR9).fz 3
      have g4 := (fR9).fz 4
      have g5 := (fR9).fz 5
      cases pb
      · have HE := Lib.hid (fun a0 a1 a2 a3 a4 a5 => GcR.no HK.out (crNil ((set6 (r := w.heap.size + 1) (w := w9) a0 a1 a2 a3 a4 a5).2 _ _ (Nat.le_succ _) hb9)))
        go_wp2_with fail
        exact bodyPost_ret (v := .tuple #[.agg #[.int .i64 0, .int .i64 0, .int .i64 0, .int .i64 0, .slice none 0 0, .slice none 0 0], .bool false]) (by simp [results, Try.results42, go_sem, k0, k1, k2, k3, k4, k5]) rfl (HE.out _ _ _ _ _ _)
      · have HE : Hid (∀ a0 a1 a2 a3 a4 a5, GcR x ms k w (.returned (.tuple #[.agg #[.int .i64 x.length, .int .i64 x.length, .int .i64 n0, .int .i64 k, .slice ta ms.length tc, .slice pa ms.length pc], .bool true])) ((((((w9.setCell ⟨w.heap.size + 1, 0, none⟩ a0).setCell ⟨w.heap.size + 1, 1, none⟩ a1).setCell ⟨w.heap.size + 1, 2, none⟩ a2).setCell ⟨w.heap.size + 1, 3, none⟩ a3).setCell ⟨w.heap.size + 1, 4, none⟩ a4).setCell ⟨w.heap.size + 1, 5, none⟩ a5)) := fun a0 a1 a2 a3 a4 a5 => by
          obtain ⟨s1, s2⟩ := set6 (r := w.heap.size + 1) (w := w9) a0 a1 a2 a3 a4 a5
          refine GcR.yes HK.out ?_
          rw [HN0.out]
          exact ⟨_, _, rfl, (ho9.keep fun q q1 _ => s1 q (by omega)).read, OK.read (OV.heap hy9 fun q hq => s1 q (by have := (hy9.lt q hq).1; omega)), s2 _ _ (Nat.le_succ _) hb9⟩
        have c0 := hc9.c0
        have c1 := hc9.c1
        have c2 := hc9.c2
        have c3 := hc9.c3
        have c4 := hc9.c4
        have c5 := hc9.c5
        have hnX : ¬ X = w.heap.size + 1 := by omega
        go_wp2_with fail
        exact bodyPost_ret (v := .tuple #[.agg #[.int .i64 x.length, .int .i64 x.length, .int .i64 n0, .int .i64 k, .slice ta ms.length tc, .slice pa ms.length pc], .bool true]) (by simp [results, Try.results42, go_sem, k0, k1, k2, k3, k4, k5]) rfl (HE.out _ _ _ _ _ _)
theorem specGc_any (v mv : Value) (x ms : List (List Int)) (k : Int) (w : World) (hx : RT w v x) (hms : RT w mv ms) (hm : x.length ≤ 1048576) (hr : Small x) (hrm : Small ms) :
    Calls Try.prog 42 #[.agg #[v], mv, .int .i64 k] w (GcR x ms k w) := by
  cases hh : hasB x k
  · exact (specGc_h v mv x ms k w hx hms hm hr hh).mono fun e w' h => GcR.no (by unfold gcOk; rw [hh]; rfl) h
  by_cases h2 : x.length < 2
  · exact (specGc_2 v mv x ms k w hx hms hm hr hh h2).mono fun e w' h => GcR.no (by unfold gcOk; rw [decide_eq_false (by omega)]; simp) h
  by_cases h3 : ms.length < 1
  · exact (specGc_m v mv x ms k w hx hms hm hr hh (by omega) h3).mono fun e w' h => GcR.no (by unfold gcOk; rw [inB_no (show ¬ ((1 : Int) ≤ ms.length ∧ (ms.length : Int) ≤ 20) by omega)]; simp) h
  by_cases h4 : 20 < ms.length
  · exact (specGc_n v mv x ms k w hx hms hm hr hh (by omega) h4).mono fun e w' h => GcR.no (by unfold gcOk; rw [inB_no (show ¬ ((1 : Int) ≤ ms.length ∧ (ms.length : Int) ≤ 20) by omega)]; simp) h
  obtain ⟨_, hk1, hk2⟩ := hasB_iff.1 hh
  obtain ⟨q, rfl⟩ := Int.eq_ofNat_of_zero_le hk1
  exact specGc_go v mv x ms q w hx hms hm hr hrm hh (by omega) (by omega)
end Go.Proofs.Ytghmpaegmicheaa
