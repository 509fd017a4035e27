/- GroupChain: the program's. -/
import Derived.Test.YtghmpaegmicheaaGc
namespace Go.Proofs.Ytghmpaegmicheaa
open Go.RowKit

def gX (x ms : List (List Int)) (e : Int) : List (List (List Int)) := if gcOk x ms e then tabs x ms else []
def gY (x ms : List (List Int)) (e : Int) : List Int := if gcOk x ms e then idx ms.length else []
def gN (x ms : List (List Int)) (e : Int) : Int := if gcOk x ms e then x.length else 0
def gS (x ms : List (List Int)) (e : Int) : Int := if gcOk x ms e then idn x else 0
def gE (x ms : List (List Int)) (e : Int) : Int := if gcOk x ms e then e else 0
abbrev GcP (x ms : List (List Int)) (e : Int) := ChP (gN x ms e) (gN x ms e) (gS x ms e) (gE x ms e) (gX x ms e) (gY x ms e) (gcOk x ms e)
abbrev GcR (x ms : List (List Int)) (e : Int) := ChR (gN x ms e) (gN x ms e) (gS x ms e) (gE x ms e) (gX x ms e) (gY x ms e) (gcOk x ms e)
theorem GcP.no {x ms : List (List Int)} {k : Int} {w w' : World} {e : Ending} (h : gcOk x ms k = false) (hh : ChP 0 0 0 0 [] [] false w e w') : GcP x ms k w e w' := by
  unfold GcP gN gS gE gX gY; rw [h]; exact hh
theorem GcR.no {x ms : List (List Int)} {k : Int} {w w' : World} {e : Ending} (h : gcOk x ms k = false) (hh : ChR 0 0 0 0 [] [] false w e w') : GcR x ms k w e w' := by
  unfold GcR gN gS gE gX gY; rw [h]; exact hh
theorem GcP.yes {x ms : List (List Int)} {k : Int} {w w' : World} {e : Ending} (h : gcOk x ms k = true) (hh : ChP x.length x.length (idn x) k (tabs x ms) (idx ms.length) true w e w') : GcP x ms k w e w' := by
  unfold GcP gN gS gE gX gY; rw [h]; exact hh
theorem GcR.yes {x ms : List (List Int)} {k : Int} {w w' : World} {e : Ending} (h : gcOk x ms k = true) (hh : ChR x.length x.length (idn x) k (tabs x ms) (idx ms.length) true w e w') : GcR x ms k w e w' := by
  unfold GcR gN gS gE gX gY; rw [h]; exact hh

set_option maxHeartbeats 1000000 in
theorem implGc_h (v mv : Value) (x ms : List (List Int)) (k : Int) (w : World) (hx : RT w v x) (hms : RT w mv ms) (hm : x.length ≤ 1048576) (hr : Small x) (hh : hasB x k = false) :
    Calls Try.prog 44 #[.agg #[v], mv, .int .i64 k] w (ChP 0 0 0 0 [] [] false w) := by
  obtain ⟨a, c, rfl⟩ := hx.slice
  obtain ⟨ma, mc, rfl⟩ := hms.slice
  have hbA : Below w.heap.size w (w.alloc (.cells #[.slice a x.length c] 29)) := (Below.refl _ _).alloc (Nat.le_refl _) _
  have hcA : (w.alloc (.cells #[.slice a x.length c] 29)).cell? ⟨w.heap.size, 0, none⟩ = some (.slice a x.length c) := World.cell?_alloc_at _ _ _ _ rfl
  have hzA : (w.alloc (.cells #[.slice a x.length c] 29)).heap.size = w.heap.size + 1 := by simp
  have hbB : Below (w.alloc (.cells #[.slice a x.length c] 29)).heap.size (w.alloc (.cells #[.slice a x.length c] 29)) ((w.alloc (.cells #[.slice a x.length c] 29)).alloc zch) := (Below.refl _ _).alloc (Nat.le_refl _) _
  have fR := AF.fresh (w.alloc (.cells #[.slice a x.length c] 29))
  rw [hzA] at fR
  have hb0 := hbA.trans (hbB.mono hbA.size)
  have c0 := (hbB.cell (p := ⟨w.heap.size, 0, none⟩) (by show w.heap.size < _; omega)).trans hcA
  clear hbA hbB hcA hzA
  have hq := Lib.hid (has_is _ x k w.heap.size _ false (by unfold Hid; exact hh) c0 (hx.later hb0) hm hr)
  skip
  go_enter Try.func44, Try.ntmps44
  go_wp2_with (first | (go_at_call 62; refine hq.out.mono ?_; rintro e w2 ⟨rfl, hb2⟩; have fR2 := fR.later hb2; have d0 := (hb2.cell (p := ⟨w.heap.size, 0, none⟩) (World.block_lt_of_cell? _ _ c0)).trans c0; have k0 := fR2.ch.c0; have k1 := fR2.ch.c1; have k2 := fR2.ch.c2; have k3 := fR2.ch.c3; have k4 := fR2.ch.c4; have k5 := fR2.ch.c5; have g0 := fR2.fz 0; have g1 := fR2.fz 1; have g2 := fR2.fz 2; have g3 := fR2.fz 3; have g4 := fR2.fz 4; have g5 := fR2.fz 5) | (go_at_call 64; refine (cin_is _ _ _ _ false HIN).mono ?_; rintro e w' ⟨rfl, rfl⟩))
  have HE := Lib.hid (fun a0 a1 a2 a3 a4 a5 => evNil ((set6 (r := w.heap.size + 1) (w := w2) a0 a1 a2 a3 a4 a5).2 _ _ (Nat.le_succ _) (hb0.trans (hb2.mono hb0.size))))
  exact bodyPost_ret (v := .tuple #[.agg #[.int .i64 0, .int .i64 0, .int .i64 0, .int .i64 0, .slice none 0 0, .slice none 0 0], .bool false]) (by simp [results, Try.results44, go_sem, k0, k1, k2, k3, k4, k5]) rfl (HE.out _ _ _ _ _ _)
set_option maxHeartbeats 1000000 in
theorem implGc_2 (v mv : Value) (x ms : List (List Int)) (k : Int) (w : World) (hx : RT w v x) (hms : RT w mv ms) (hm : x.length ≤ 1048576) (hr : Small x) (hh : hasB x k = true) (h2 : x.length < 2) :
    Calls Try.prog 44 #[.agg #[v], mv, .int .i64 k] w (ChP 0 0 0 0 [] [] false w) := by
  obtain ⟨a, c, rfl⟩ := hx.slice
  obtain ⟨ma, mc, rfl⟩ := hms.slice
  have hbA : Below w.heap.size w (w.alloc (.cells #[.slice a x.length c] 29)) := (Below.refl _ _).alloc (Nat.le_refl _) _
  have hcA : (w.alloc (.cells #[.slice a x.length c] 29)).cell? ⟨w.heap.size, 0, none⟩ = some (.slice a x.length c) := World.cell?_alloc_at _ _ _ _ rfl
  have hzA : (w.alloc (.cells #[.slice a x.length c] 29)).heap.size = w.heap.size + 1 := by simp
  have hbB : Below (w.alloc (.cells #[.slice a x.length c] 29)).heap.size (w.alloc (.cells #[.slice a x.length c] 29)) ((w.alloc (.cells #[.slice a x.length c] 29)).alloc zch) := (Below.refl _ _).alloc (Nat.le_refl _) _
  have fR := AF.fresh (w.alloc (.cells #[.slice a x.length c] 29))
  rw [hzA] at fR
  have hb0 := hbA.trans (hbB.mono hbA.size)
  have c0 := (hbB.cell (p := ⟨w.heap.size, 0, none⟩) (by show w.heap.size < _; omega)).trans hcA
  clear hbA hbB hcA hzA
  have hq := Lib.hid (has_is _ x k w.heap.size _ true (by unfold Hid; exact hh) c0 (hx.later hb0) hm hr)
  have h2' : (x.length : Int) < 2 := by omega
  go_enter Try.func44, Try.ntmps44
  go_wp2_with (first | (go_at_call 62; refine hq.out.mono ?_; rintro e w2 ⟨rfl, hb2⟩; have fR2 := fR.later hb2; have d0 := (hb2.cell (p := ⟨w.heap.size, 0, none⟩) (World.block_lt_of_cell? _ _ c0)).trans c0; have k0 := fR2.ch.c0; have k1 := fR2.ch.c1; have k2 := fR2.ch.c2; have k3 := fR2.ch.c3; have k4 := fR2.ch.c4; have k5 := fR2.ch.c5; have g0 := fR2.fz 0; have g1 := fR2.fz 1; have g2 := fR2.fz 2; have g3 := fR2.fz 3; have g4 := fR2.fz 4; have g5 := fR2.fz 5) | (go_at_call 64; refine (cin_is _ _ _ _ false HIN).mono ?_; rintro e w' ⟨rfl, rfl⟩))
  have HE := Lib.hid (fun a0 a1 a2 a3 a4 a5 => evNil ((set6 (r := w.heap.size + 1) (w := w2) a0 a1 a2 a3 a4 a5).2 _ _ (Nat.le_succ _) (hb0.trans (hb2.mono hb0.size))))
  exact bodyPost_ret (v := .tuple #[.agg #[.int .i64 0, .int .i64 0, .int .i64 0, .int .i64 0, .slice none 0 0, .slice none 0 0], .bool false]) (by simp [results, Try.results44, go_sem, k0, k1, k2, k3, k4, k5]) rfl (HE.out _ _ _ _ _ _)
set_option maxHeartbeats 1000000 in
theorem implGc_m (v mv : Value) (x ms : List (List Int)) (k : Int) (w : World) (hx : RT w v x) (hms : RT w mv ms) (hm : x.length ≤ 1048576) (hr : Small x) (hh : hasB x k = true) (h2 : 2 ≤ x.length) (h3 : inB ms.length 1 20 = false) :
    Calls Try.prog 44 #[.agg #[v], mv, .int .i64 k] w (ChP 0 0 0 0 [] [] false w) := by
  obtain ⟨a, c, rfl⟩ := hx.slice
  obtain ⟨ma, mc, rfl⟩ := hms.slice
  have hbA : Below w.heap.size w (w.alloc (.cells #[.slice a x.length c] 29)) := (Below.refl _ _).alloc (Nat.le_refl _) _
  have hcA : (w.alloc (.cells #[.slice a x.length c] 29)).cell? ⟨w.heap.size, 0, none⟩ = some (.slice a x.length c) := World.cell?_alloc_at _ _ _ _ rfl
  have hzA : (w.alloc (.cells #[.slice a x.length c] 29)).heap.size = w.heap.size + 1 := by simp
  have hbB : Below (w.alloc (.cells #[.slice a x.length c] 29)).heap.size (w.alloc (.cells #[.slice a x.length c] 29)) ((w.alloc (.cells #[.slice a x.length c] 29)).alloc zch) := (Below.refl _ _).alloc (Nat.le_refl _) _
  have fR := AF.fresh (w.alloc (.cells #[.slice a x.length c] 29))
  rw [hzA] at fR
  have hb0 := hbA.trans (hbB.mono hbA.size)
  have c0 := (hbB.cell (p := ⟨w.heap.size, 0, none⟩) (by show w.heap.size < _; omega)).trans hcA
  clear hbA hbB hcA hzA
  have hq := Lib.hid (has_is _ x k w.heap.size _ true (by unfold Hid; exact hh) c0 (hx.later hb0) hm hr)
  have h2' : ¬ (x.length : Int) < 2 := (by omega); have HIN := Lib.hid h3
  go_enter Try.func44, Try.ntmps44
  go_wp2_with (first | (go_at_call 62; refine hq.out.mono ?_; rintro e w2 ⟨rfl, hb2⟩; have fR2 := fR.later hb2; have d0 := (hb2.cell (p := ⟨w.heap.size, 0, none⟩) (World.block_lt_of_cell? _ _ c0)).trans c0; have k0 := fR2.ch.c0; have k1 := fR2.ch.c1; have k2 := fR2.ch.c2; have k3 := fR2.ch.c3; have k4 := fR2.ch.c4; have k5 := fR2.ch.c5; have g0 := fR2.fz 0; have g1 := fR2.fz 1; have g2 := fR2.fz 2; have g3 := fR2.fz 3; have g4 := fR2.fz 4; have g5 := fR2.fz 5) | (go_at_call 64; refine (cin_is _ _ _ _ false HIN).mono ?_; rintro e w' ⟨rfl, rfl⟩))
  have HE := Lib.hid (fun a0 a1 a2 a3 a4 a5 => evNil ((set6 (r := w.heap.size + 1) (w := w2) a0 a1 a2 a3 a4 a5).2 _ _ (Nat.le_succ _) (hb0.trans (hb2.mono hb0.size))))
  exact bodyPost_ret (v := .tuple #[.agg #[.int .i64 0, .int .i64 0, .int .i64 0, .int .i64 0, .slice none 0 0, .slice none 0 0], .bool false]) (by simp [results, Try.results44, go_sem, k0, k1, k2, k3, k4, k5]) rfl (HE.out _ _ _ _ _ _)

theorem gcStart {pg r n : Nat} {s e : Int} {gv : Value} {w0 w : World} (hr : AF r w) (hrr : pg ≠ r ∧ w0.heap.size ≤ r) (hg : w.cell? ⟨pg, 0, none⟩ = some gv) (hb : Below w0.heap.size w0 w) :
    GcSt pg r w.heap.size n s e gv [] (idx 0) (.slice none 0 0) (.slice none 0 0) w0 (w.alloc (.cells #[.int .i64 n, .int .i64 n, .int .i64 s, .int .i64 e, .slice none 0 0, .slice none 0 0] 56)) := by
  have hba : Below w.heap.size w (w.alloc (.cells #[.int .i64 n, .int .i64 n, .int .i64 s, .int .i64 e, .slice none 0 0, .slice none 0 0] 56)) := (Below.refl _ _).alloc (Nat.le_refl _) _
  have hgl := World.block_lt_of_cell? w _ hg
  refine ⟨(hba.cell (p := ⟨pg, 0, none⟩) hgl).trans hg, hr.later hba, ⟨hgl, hrr.1, hrr.2, hr.ch.lt⟩, ⟨by simp, World.cell?_alloc_at _ _ _ _ rfl, World.cell?_alloc_at _ _ _ _ rfl, World.cell?_alloc_at _ _ _ _ rfl, World.cell?_alloc_at _ _ _ _ rfl, World.cell?_alloc_at _ _ _ _ rfl, World.cell?_alloc_at _ _ _ _ rfl⟩, fun o => by simp [go_sem], O3.nil _ _ _ _, OK.nil _ _ _ _, hb.trans (hba.mono hb.size)⟩
/-- The end: the chain lies in the result's box. -/
theorem gcRes {pg r X n : Nat} {s e : Int} {gv : Value} {xs : List (List (List Int))} {ys : List Int} {tv pv : Value} {w0 w : World} (h : GcSt pg r X n s e gv xs ys tv pv w0 w) (a0 a1 a2 a3 a4 a5 : Value) :
    ChP n n s e xs ys true w0 (.returned (.tuple #[.agg #[.int .i64 n, .int .i64 n, .int .i64 s, .int .i64 e, tv, pv], .bool true]))
      ((((((w.setCell ⟨r, 0, none⟩ a0).setCell ⟨r, 1, none⟩ a1).setCell ⟨r, 2, none⟩ a2).setCell ⟨r, 3, none⟩ a3).setCell ⟨r, 4, none⟩ a4).setCell ⟨r, 5, none⟩ a5) := by
  obtain ⟨s1, s2⟩ := set6 (r := r) (w := w) a0 a1 a2 a3 a4 a5
  have hrX := h.rX
  have hz : ((((((w.setCell ⟨r, 0, none⟩ a0).setCell ⟨r, 1, none⟩ a1).setCell ⟨r, 2, none⟩ a2).setCell ⟨r, 3, none⟩ a3).setCell ⟨r, 4, none⟩ a4).setCell ⟨r, 5, none⟩ a5).heap.size = w.heap.size := by simp
  refine ⟨_, _, rfl, ?_, (OV.heap h.pl fun k hk => s1 k (by have := (h.pl.lt k hk).1; omega)).mono (by omega), s2 _ _ (by omega) h.b⟩
  rw [hz]
  exact (h.o.keep fun k k1 _ => s1 k (by omega)).monoB (by omega)
set_option maxHeartbeats 8000000 in
set_option maxRecDepth 100000 in
theorem implGc_go (v mv : Value) (x ms : List (List Int)) (k : Nat) (w : World) (hx : RT w v x) (hms : RT w mv ms) (hm : x.length ≤ 1048576) (hr : Small x) (hrm : Small ms) (hh : hasB x (k : Int) = true) (h2 : 2 ≤ x.length) (h3 : 1 ≤ ms.length ∧ ms.length ≤ 20) :
    Calls Try.prog 44 #[.agg #[v], mv, .int .i64 k] w (GcP x ms k w) := by
  obtain ⟨hg, _, hk⟩ := hasB_iff.1 hh
  have hsq := (grpB_iff.1 hg).1
  have h10 := (sqB_iff.1 hsq).1
  obtain ⟨n0, hn0⟩ := Int.eq_ofNat_of_zero_le (grpB_iff.1 hg).2.1
  have hn0l : n0 < x.length := by have := idn_bd x; omega
  have HIN : Hid (inB (ms.length : Int) 1 20 = true) := inB_yes (by omega)
  have HNO : Hid (∀ i, i < ms.length → mOk x.length (rowAt ms i) = false → gcOk x ms (k : Int) = false) := fun i hi h => by
    unfold gcOk; rw [allN_no i hi h]; simp
  have HYES : Hid ((∀ i, i < ms.length → mOk x.length (rowAt ms i) = true) → gcOk x ms (k : Int) = powB x.length ms.length) := fun h => by
    unfold gcOk; rw [hh, decide_eq_true h2, HIN.out, allN_yes h]; rfl
  have HN0 := Lib.hid hn0
  have HG := Lib.hid hg
  have HX := Lib.hid hx
  have HM := Lib.hid hms
  obtain ⟨a, c, rfl⟩ := hx.slice
  obtain ⟨ma, mc, rfl⟩ := hms.slice
  have hbA : Below w.heap.size w (w.alloc (.cells #[.slice a x.length c] 29)) := (Below.refl _ _).alloc (Nat.le_refl _) _
  have hcA : (w.alloc (.cells #[.slice a x.length c] 29)).cell? ⟨w.heap.size, 0, none⟩ = some (.slice a x.length c) := World.cell?_alloc_at _ _ _ _ rfl
  have hzA : (w.alloc (.cells #[.slice a x.length c] 29)).heap.size = w.heap.size + 1 := by simp
  have hbB : Below (w.alloc (.cells #[.slice a x.length c] 29)).heap.size (w.alloc (.cells #[.slice a x.length c] 29)) ((w.alloc (.cells #[.slice a x.length c] 29)).alloc zch) := (Below.refl _ _).alloc (Nat.le_refl _) _
  have fR := AF.fresh (w.alloc (.cells #[.slice a x.length c] 29))
  rw [hzA] at fR
  have hb0 := hbA.trans (hbB.mono hbA.size)
  have c0 := (hbB.cell (p := ⟨w.heap.size, 0, none⟩) (by show w.heap.size < _; omega)).trans hcA
  clear hbA hbB hcA hzA
  have hq := Lib.hid (has_is _ x (k : Int) w.heap.size _ true (by unfold Hid; exact hh) c0 (hx.later hb0) hm hr)
  have h2' : ¬ (x.length : Int) < 2 := by omega
  obtain ⟨G, O, C, H, F, P, hv, hsqa⟩ := hx.sq hsq
  simp only [Value.slice.injEq, true_and] at hv
  obtain ⟨rfl, rfl⟩ := hv
  have HSQ := Lib.hid hsqa
  have HID : Hid (∀ wx, Below w.heap.size w wx → Calls Try.prog 61 #[.slice (some ⟨G, O, none⟩) x.length c] wx fun e w' => e = .returned (.int .i64 n0) ∧ wx = w') := fun wx h => by
    have := identity_any (C := c) x wx (Lib.hid hsq) (HSQ.out.later h)
    rw [HN0.out] at this; exact this
  clear hsqa hx hms
  go_enter Try.func44, Try.ntmps44
  go_wp2_with (first | (go_at_call 62; refine hq.out.mono ?_; rintro e w2 ⟨rfl, hb2⟩; have d0 := (hb2.cell (p := ⟨w.heap.size, 0, none⟩) (World.block_lt_of_cell? _ _ c0)).trans c0) | (go_at_call 64; refine (cin_is _ _ _ _ true HIN).mono ?_; rintro e w' ⟨rfl, rfl⟩))
  have hbb := hb0.trans (hb2.mono hb0.size)
  refine (HID.out _ hbb).mono ?_
  rintro e w3 ⟨rfl, rfl⟩
  have hst := gcStart (n := x.length) (s := n0) (e := k) (fR.later hb2) ⟨by omega, Nat.le_succ _⟩ d0 hbb
  go_wp2_with fail
  generalize w2.alloc (.cells #[.int .i64 x.length, .int .i64 x.length, .int .i64 n0, .int .i64 k, .slice none 0 0, .slice none 0 0] 56) = w4 at *
  generalize w2.heap.size = X at *
  clear hbb hb2 d0 hq hb0 c0 fR
  go_loopw [40] (fun iv wr => ∃ (i : Nat) (tv pv : Value), i ≤ ms.length ∧ iv = .int .i64 i ∧ Hid (∀ j, j < i → mOk x.length (rowAt ms j) = true) ∧ GcSt w.heap.size (w.heap.size + 1) X x.length n0 k (.slice (some ⟨G, O, none⟩) x.length c) (tabs x (ms.take i)) (idx i) tv pv w wr) (fun iv _ => ms.length - (intOf iv).toNat)
  case atStart => exact ⟨0, _, _, Nat.zero_le _, rfl, Lib.hid (fun j hj => by omega), hst⟩
  case round =>
    clear hst w4
    obtain ⟨i, tv, pv, hi, rfl, HOK, hst⟩ := hrel
    by_cases hlt : i < ms.length
    · obtain ⟨g, off, r, rfl, hgl, hcr, hri⟩ := HM.out.at i hlt
      obtain ⟨ra, rc, rfl⟩ := hri.slice
      have hrk := hrm.out i hlt
      have hcr2 := (hst.b.cell (p := ⟨g, off + i, none⟩) hgl).trans hcr
      have hbR : Below wr.heap.size wr (wr.alloc (.cells #[.slice ra (rowAt ms i).length rc] 26)) := (Below.refl _ _).alloc (Nat.le_refl _) _
      have hcR : (wr.alloc (.cells #[.slice ra (rowAt ms i).length rc] 26)).cell? ⟨wr.heap.size, 0, none⟩ = some (.slice ra (rowAt ms i).length rc) := World.cell?_alloc_at _ _ _ _ rfl
      have hst2 := hst.later hbR
      have HOD := Lib.hid (isOrd_any _ (rowAt ms i) (wr.alloc (.cells #[.slice ra (rowAt ms i).length rc] 26)) (hri.later hst2.b) hrk)
      have HRI := Lib.hid hri
      by_cases hml : (rowAt ms i).length = x.length
      · have hmi : ((rowAt ms i).length : Int) = (x.length : Int) := by omega
        have hol : inB ((rowAt ms i).length : Int) 1 36 = true := inB_yes (by omega)
        rw [hol, Bool.and_true, hml] at HOD
        rw [hml] at hcr2 hcR hst2 hbR
        obtain ⟨ob, hob⟩ : ∃ b, b = ordAt x.length (rowAt ms i) := ⟨_, rfl⟩
        rw [← hob] at HOD
        have HM1 : Hid (mOk x.length (rowAt ms i) = ob) := by unfold Hid mOk; rw [decide_eq_true hml, ← hob]; rfl
        have HRL : Hid (RI w (.slice ra x.length rc) (rowAt ms i)) := by unfold Hid; rw [← hml]; exact hri
        clear hob hri HRI hst
        rw [hml] at hmi
        cases ob
        · have HN := Lib.hid (HNO.out i hlt HM1.out)
          go_wp2_with (go_at_call 83; refine HOD.out.mono ?_; rintro e w5 ⟨rfl, hb5⟩; have fR := (hst2.later hb5).cr; have k0 := fR.ch.c0; have k1 := fR.ch.c1; have k2 := fR.ch.c2; have k3 := fR.ch.c3; have k4 := fR.ch.c4; have k5 := fR.ch.c5; have g0 := fR.fz 0; have g1 := fR.fz 1; have g2 := fR.fz 2; have g3 := fR.fz 3; have g4 := fR.fz 4; have g5 := fR.fz 5)
          have HE := Lib.hid (fun a0 a1 a2 a3 a4 a5 => GcP.no HN.out (evNil ((set6 (r := w.heap.size + 1) (w := w5) a0 a1 a2 a3 a4 a5).2 _ _ (Nat.le_succ _) (hst2.b.trans (hb5.mono hst2.b.size)))))
          go_wp2_with fail
          exact bodyPost_ret (v := .tuple #[.agg #[.int .i64 0, .int .i64 0, .int .i64 0, .int .i64 0, .slice none 0 0, .slice none 0 0], .bool false]) (by simp [results, Try.results44, go_sem, k0, k1, k2, k3, k4, k5]) rfl (HE.out _ _ _ _ _ _)
        · go_wp2_with (go_at_call 83; refine HOD.out.mono ?_; rintro e w5 ⟨rfl, hb5⟩)
          have hst6 := (hst2.later hb5).later (Below.refl _ _).drew
          have hcR6 := ((hb5.trans (Below.refl _ _).drew).cell (p := ⟨wr.heap.size, 0, none⟩) (World.block_lt_of_cell? _ _ hcR)).trans hcR
          have hmf : ∀ (fn : Fn) (first cap : Array Value) (w : World), (Instr.makeFunc fn first cap).run Try.prog w = .ok (.func fn first cap) w := fun _ _ _ _ => rfl
          clear hst2 hb5 hcR hcr2 hcr HOD hbR
          refine wp_region_held_drew (S := fun _ => True) (by kernel_rfl) trivial (fun hHeld => ?_)
          generalize w5.drew = w6 at *
          refine wpAnyH_take (i := 0) (oi := ⟨some 55, _, _, _, _, _⟩) (v := ?va0) rfl (by kernel_rfl) (by kernel_rfl) (by kernel_rfl) (fun _ _ _ h => h) (Or.inl ⟨by rfl, ?ya0⟩) trivial ?ra0
          case ya0 => (intro w hSw; (try dsimp only at hSw); go_simp; all_goals (with_reducible rfl))
          try simp only [Act.put, List.setIfInBounds_toArray, List.set_cons_zero, List.set_cons_succ]
          refine wpAnyH_take (i := 2) (oi := ⟨some 57, _, _, _, _, _⟩) (v := ?va2) rfl (by kernel_rfl) (by kernel_rfl) (by kernel_rfl) (fun _ _ _ h => h) (Or.inl ⟨by rfl, ?ya2⟩) trivial ?ra2
          case ya2 => (intro w hSw; (try dsimp only at hSw); go_simp; all_goals (with_reducible rfl))
          try simp only [Act.put, List.setIfInBounds_toArray, List.set_cons_zero, List.set_cons_succ]
          refine wpAnyH_take (i := 3) (oi := ⟨some 58, _, _, _, _, _⟩) (v := ?va3) rfl (by kernel_rfl) (by kernel_rfl) (by kernel_rfl) (fun _ _ _ h => h) (Or.inl ⟨by rfl, ?ya3⟩) trivial ?ra3
          case ya3 => (intro w hSw; (try dsimp only at hSw); go_simp; all_goals (with_reducible rfl))
          try simp only [Act.put, List.setIfInBounds_toArray, List.set_cons_zero, List.set_cons_succ]
          obtain ⟨ts, t1, t2, tpush⟩ := hst6.o.parts (Nat.le_refl _)
          obtain ⟨ta, tc, rfl⟩ := t1.read.slice
          have htl : ts.length ≤ 1099511627776 := by rw [t2, tabs_len, List.length_take]; omega
          have HH := Lib.hid hst6
          have T1 := Lib.hid t1
          have TP := Lib.hid tpush
          have HMD : Hid (Calls Try.prog 67 #[.int .i64 x.length, .func (.func 84) #[] #[.pointer (some ⟨w.heap.size, 0, none⟩), .pointer (some ⟨wr.heap.size, 0, none⟩)]] w6 fun e w' => ∃ v', e = .returned v' ∧ OT w6.heap.size w'.heap.size w' v' (gT x (rowAt ms i)) ∧ Below w6.heap.size w6 w') :=
            madeGc x.length _ w.heap.size wr.heap.size w6 (by omega) trivial (fun w1 i' d' hi' hd' hb1 => gc1_any x (rowAt ms i) _ w.heap.size wr.heap.size c i' d' w1 hsq HM1.out (HSQ.out.later (HH.out.b.trans (hb1.mono HH.out.b.size))) ((hb1.cell (p := ⟨w.heap.size, 0, none⟩) (World.block_lt_of_cell? _ _ HH.out.g)).trans HH.out.g) ((hb1.cell (p := ⟨wr.heap.size, 0, none⟩) (World.block_lt_of_cell? _ _ hcR6)).trans hcR6) (HRL.out.later (HH.out.b.trans (hb1.mono HH.out.b.size))) hi' hd')
          have c4 := hst6.ch.c4
          clear hst6 t1 t2 tpush hcR6 hmf
          refine wpAnyH_ready (rs := [1, 4]) (by kernel_rfl) (by simp) ?_
          refine AllReadyH.cons rfl (fun K hK => ?cb) (AllReadyH.cons rfl (fun K hK => ?ab) AllReadyH.nil)
          case cb =>
            go_simp
            clear c4
            refine hK.out _ _ trivial (fun hHeld => ?_)
            clear hK K hHeld
            try simp only [Act.put, List.setIfInBounds_toArray, List.set_cons_zero, List.set_cons_succ]
            refine wpAnyH_ready (rs := [4]) (by kernel_rfl) (by simp) ?_
            refine AllReadyH.cons rfl (fun K hK => ?_) AllReadyH.nil
            go_simp
            go_at_call 67
            refine HMD.out.mono ?_
            rintro e w7 ⟨u, rfl, hou, hb7⟩
            have HB7 := Lib.hid (HH.out.later hb7)
            have t1 := T1.out.later hb7
            obtain ⟨ua, uc, hu⟩ := hou.slice
            rw [show (gT x (rowAt ms i)).length = x.length from mkT_len _ _] at hu
            subst hu
            refine hK.out _ _ trivial (fun hHeld => ?_)
            clear hK K hHeld
            try simp only [Act.put, List.setIfInBounds_toArray, List.set_cons_zero, List.set_cons_succ]
            refine wpAnyH_ready (rs := [5]) (by kernel_rfl) (by simp) ?_
            refine AllReadyH.cons rfl (fun K hK => ?_) AllReadyH.nil
            go_simp
            refine hK.out _ _ trivial (fun hHeld => ?_)
            clear hK K hHeld
            try simp only [Act.put, List.setIfInBounds_toArray, List.set_cons_zero, List.set_cons_succ]
            have hsz7 : X + 1 ≤ (w7.alloc (.cells #[.slice ua x.length uc] 22)).heap.size := by have := HB7.out.ch.lt; simp; omega
            refine wpAnyH_ready (rs := [6]) (by kernel_rfl) (by simp) ?_
            refine AllReadyH.cons rfl (fun K hK => ?_) AllReadyH.nil
            refine step_appL Try.underlying54 info_tab rfl (by omega) (by rfl) _ _ (by rfl) (X + 1) _ _ (by rfl) (t1.alloc _) ⟨w7.heap.size, 0, none⟩ 1 (.slice ua x.length uc) (by rfl) (World.cell?_alloc_at _ _ _ _ rfl) rfl htl hsz7 ?_
            intro v' w8 hv hgr hL
            obtain ⟨va, vc, hv'⟩ := hv.read.slice
            rw [List.length_append, List.length_singleton] at hv'
            subst hv'
            have HP := Lib.hid (HH.out.tab (TP.out w7 _ _ _ _ _ w8 hb7 (Nat.le_refl _) hb7.size (Nat.le_refl _) hou (fun q hq => (HH.out.pl.lt q hq).2) hv hgr hL HH.out.ch.lt) hb7 t1 hgr)
            have d4 := HP.out.1.c4
            have f4 := HP.out.2.1
            refine hK.out _ _ trivial (fun hHeld => ?_)
            clear hK K hHeld
            try simp only [Act.put, List.setIfInBounds_toArray, List.set_cons_zero, List.set_cons_succ]
            refine wpAnyH_take (i := 7) (oi := ⟨some 62, _, _, _, _, _⟩) (v := ?vc7) rfl (by kernel_rfl) (by kernel_rfl) (by kernel_rfl) (fun _ _ _ h => h) (Or.inl ⟨by rfl, ?yc7⟩) trivial ?rc7
            case yc7 => (intro w hSw; (try dsimp only at hSw); go_simp; all_goals (with_reducible rfl))
            try simp only [Act.put, List.setIfInBounds_toArray, List.set_cons_zero, List.set_cons_succ]
            refine wpAnyH_ready (rs := [8]) (by kernel_rfl) (by simp) ?_
            refine AllReadyH.cons rfl (fun K hK => ?_) AllReadyH.nil
            go_simp
            have HS9 := Lib.hid HP.out.2.2
            refine hK.out _ _ trivial (fun hHeld => ?_)
            clear hK K hHeld
            try simp only [Act.put, List.setIfInBounds_toArray, List.set_cons_zero, List.set_cons_succ]
            refine wpAnyH_done (by kernel_rfl) ?_ _
            clear d4 f4 HP t1 hou HB7 HH T1 TP HMD hv hgr hL
            rw [← tabs_take hlt] at HS9
            generalize w8.setCell ⟨X, 4, none⟩ (.slice va (ts.length + 1) vc) = w9 at *
            have c5 := HS9.out.ch.c5
            have P9 := HS9.out.pl
            have HO9 := Lib.hid (fun j (hj : j < i + 1) => (show mOk x.length (rowAt ms j) = true from if e : j = i then by rw [e]; exact HM1.out else HOK.out j (by omega)))
            have hz9 : X + 1 ≤ (w9.alloc (.cells #[.int .i64 i] 2)).heap.size := by have := HS9.out.ch.lt; simp; omega
            obtain ⟨pa, pc, hpv⟩ := P9.slice
            rw [idx_len] at hpv
            subst hpv
            have hil : ((idx i).map (Value.int .i64)).length ≤ 1099511627776 := by rw [List.length_map, idx_len]; omega
            have HP9 := Lib.hid P9
            clear P9 HOK
            go_wp2_with (at_builtin; refine wpl_appL Try.underlying26 info_i64 rfl (by omega) rfl _ _ rfl (X + 1) _ _ rfl (OV.alloc HP9.out _) _ _ _ rfl (World.cell?_alloc_at _ _ _ _ rfl) rfl hil hz9 ?_; intro v' w10 hv hgr hL; have HPL := Lib.hid (HS9.out.plc (z := i) (by unfold OI OK; rw [List.map_append]; exact hv) hgr hL); have d5 := HPL.out.1.c5; have f5 := HPL.out.2.1; obtain ⟨qa, qc, hq'⟩ := hv.read.slice; rw [List.length_append, List.length_map, idx_len, List.length_singleton] at hq'; subst hq')
            have HS11 := Lib.hid HPL.out.2.2
            rw [← idx_succ] at HS11
            go_roundw
            case rel => exact ⟨i + 1, _, _, by omega, by go_num, HO9, HS11.out⟩
            case measure => first | (simp [intOf]; done) | (simp [intOf]; omega)
          case ab =>
            go_simp
            go_at_call 67
            refine HMD.out.mono ?_
            rintro e w7 ⟨u, rfl, hou, hb7⟩
            have HB7 := Lib.hid (HH.out.later hb7)
            have t1 := T1.out.later hb7
            obtain ⟨ua, uc, hu⟩ := hou.slice
            rw [show (gT x (rowAt ms i)).length = x.length from mkT_len _ _] at hu
            subst hu
            refine hK.out _ _ trivial (fun hHeld => ?_)
            clear hK K hHeld
            try simp only [Act.put, List.setIfInBounds_toArray, List.set_cons_zero, List.set_cons_succ]
            have c4 := HB7.out.ch.c4
            refine wpAnyH_ready (rs := [1, 5]) (by kernel_rfl) (by simp) ?_
            refine AllReadyH.cons rfl (fun K hK => ?cd) (AllReadyH.cons rfl (fun K hK => ?ad) AllReadyH.nil)
            case cd =>
              go_simp
              clear c4
              refine hK.out _ _ trivial (fun hHeld => ?_)
              clear hK K hHeld
              try simp only [Act.put, List.setIfInBounds_toArray, List.set_cons_zero, List.set_cons_succ]
              refine wpAnyH_ready (rs := [5]) (by kernel_rfl) (by simp) ?_
              refine AllReadyH.cons rfl (fun K hK => ?_) AllReadyH.nil
              go_simp
              refine hK.out _ _ trivial (fun hHeld => ?_)
              clear hK K hHeld
              try simp only [Act.put, List.setIfInBounds_toArray, List.set_cons_zero, List.set_cons_succ]
              have hsz7 : X + 1 ≤ (w7.alloc (.cells #[.slice ua x.length uc] 22)).heap.size := by have := HB7.out.ch.lt; simp; omega
              refine wpAnyH_ready (rs := [6]) (by kernel_rfl) (by simp) ?_
              refine AllReadyH.cons rfl (fun K hK => ?_) AllReadyH.nil
              refine step_appL Try.underlying54 info_tab rfl (by omega) (by rfl) _ _ (by rfl) (X + 1) _ _ (by rfl) (t1.alloc _) ⟨w7.heap.size, 0, none⟩ 1 (.slice ua x.length uc) (by rfl) (World.cell?_alloc_at _ _ _ _ rfl) rfl htl hsz7 ?_
              intro v' w8 hv hgr hL
              obtain ⟨va, vc, hv'⟩ := hv.read.slice
              rw [List.length_append, List.length_singleton] at hv'
              subst hv'
              have HP := Lib.hid (HH.out.tab (TP.out w7 _ _ _ _ _ w8 hb7 (Nat.le_refl _) hb7.size (Nat.le_refl _) hou (fun q hq => (HH.out.pl.lt q hq).2) hv hgr hL HH.out.ch.lt) hb7 t1 hgr)
              have d4 := HP.out.1.c4
              have f4 := HP.out.2.1
              refine hK.out _ _ trivial (fun hHeld => ?_)
              clear hK K hHeld
              try simp only [Act.put, List.setIfInBounds_toArray, List.set_cons_zero, List.set_cons_succ]
              refine wpAnyH_take (i := 7) (oi := ⟨some 62, _, _, _, _, _⟩) (v := ?ve7) rfl (by kernel_rfl) (by kernel_rfl) (by kernel_rfl) (fun _ _ _ h => h) (Or.inl ⟨by rfl, ?ye7⟩) trivial ?re7
              case ye7 => (intro w hSw; (try dsimp only at hSw); go_simp; all_goals (with_reducible rfl))
              try simp only [Act.put, List.setIfInBounds_toArray, List.set_cons_zero, List.set_cons_succ]
              refine wpAnyH_ready (rs := [8]) (by kernel_rfl) (by simp) ?_
              refine AllReadyH.cons rfl (fun K hK => ?_) AllReadyH.nil
              go_simp
              have HS9 := Lib.hid HP.out.2.2
              refine hK.out _ _ trivial (fun hHeld => ?_)
              clear hK K hHeld
              try simp only [Act.put, List.setIfInBounds_toArray, List.set_cons_zero, List.set_cons_succ]
              refine wpAnyH_done (by kernel_rfl) ?_ _
              clear d4 f4 HP t1 hou HB7 HH T1 TP HMD hv hgr hL
              rw [← tabs_take hlt] at HS9
              generalize w8.setCell ⟨X, 4, none⟩ (.slice va (ts.length + 1) vc) = w9 at *
              have c5 := HS9.out.ch.c5
              have P9 := HS9.out.pl
              have HO9 := Lib.hid (fun j (hj : j < i + 1) => (show mOk x.length (rowAt ms j) = true from if e : j = i then by rw [e]; exact HM1.out else HOK.out j (by omega)))
              have hz9 : X + 1 ≤ (w9.alloc (.cells #[.int .i64 i] 2)).heap.size := by have := HS9.out.ch.lt; simp; omega
              obtain ⟨pa, pc, hpv⟩ := P9.slice
              rw [idx_len] at hpv
              subst hpv
              have hil : ((idx i).map (Value.int .i64)).length ≤ 1099511627776 := by rw [List.length_map, idx_len]; omega
              have HP9 := Lib.hid P9
              clear P9 HOK
              go_wp2_with (at_builtin; refine wpl_appL Try.underlying26 info_i64 rfl (by omega) rfl _ _ rfl (X + 1) _ _ rfl (OV.alloc HP9.out _) _ _ _ rfl (World.cell?_alloc_at _ _ _ _ rfl) rfl hil hz9 ?_; intro v' w10 hv hgr hL; have HPL := Lib.hid (HS9.out.plc (z := i) (by unfold OI OK; rw [List.map_append]; exact hv) hgr hL); have d5 := HPL.out.1.c5; have f5 := HPL.out.2.1; obtain ⟨qa, qc, hq'⟩ := hv.read.slice; rw [List.length_append, List.length_map, idx_len, List.length_singleton] at hq'; subst hq')
              have HS11 := Lib.hid HPL.out.2.2
              rw [← idx_succ] at HS11
              go_roundw
              case rel => exact ⟨i + 1, _, _, by omega, by go_num, HO9, HS11.out⟩
              case measure => first | (simp [intOf]; done) | (simp [intOf]; omega)
            case ad =>
              go_simp
              refine hK.out _ _ trivial (fun hHeld => ?_)
              clear hK K hHeld
              try simp only [Act.put, List.setIfInBounds_toArray, List.set_cons_zero, List.set_cons_succ]
              have c4 : (w7.alloc (.cells #[.slice ua x.length uc] 22)).cell? ⟨X, 4, none⟩ = _ := (World.cell?_alloc_lt _ _ _ (World.block_lt_of_cell? w7 _ HB7.out.ch.c4)).trans HB7.out.ch.c4
              refine wpAnyH_ready (rs := [1]) (by kernel_rfl) (by simp) ?_
              refine AllReadyH.cons rfl (fun K hK => ?_) AllReadyH.nil
              go_simp
              clear c4
              refine hK.out _ _ trivial (fun hHeld => ?_)
              clear hK K hHeld
              try simp only [Act.put, List.setIfInBounds_toArray, List.set_cons_zero, List.set_cons_succ]
              have hsz7 : X + 1 ≤ (w7.alloc (.cells #[.slice ua x.length uc] 22)).heap.size := by have := HB7.out.ch.lt; simp; omega
              refine wpAnyH_ready (rs := [6]) (by kernel_rfl) (by simp) ?_
              refine AllReadyH.cons rfl (fun K hK => ?_) AllReadyH.nil
              refine step_appL Try.underlying54 info_tab rfl (by omega) (by rfl) _ _ (by rfl) (X + 1) _ _ (by rfl) (t1.alloc _) ⟨w7.heap.size, 0, none⟩ 1 (.slice ua x.length uc) (by rfl) (World.cell?_alloc_at _ _ _ _ rfl) rfl htl hsz7 ?_
              intro v' w8 hv hgr hL
              obtain ⟨va, vc, hv'⟩ := hv.read.slice
              rw [List.length_append, List.length_singleton] at hv'
              subst hv'
              have HP := Lib.hid (HH.out.tab (TP.out w7 _ _ _ _ _ w8 hb7 (Nat.le_refl _) hb7.size (Nat.le_refl _) hou (fun q hq => (HH.out.pl.lt q hq).2) hv hgr hL HH.out.ch.lt) hb7 t1 hgr)
              have d4 := HP.out.1.c4
              have f4 := HP.out.2.1
              refine hK.out _ _ trivial (fun hHeld => ?_)
              clear hK K hHeld
              try simp only [Act.put, List.setIfInBounds_toArray, List.set_cons_zero, List.set_cons_succ]
              refine wpAnyH_take (i := 7) (oi := ⟨some 62, _, _, _, _, _⟩) (v := ?vf7) rfl (by kernel_rfl) (by kernel_rfl) (by kernel_rfl) (fun _ _ _ h => h) (Or.inl ⟨by rfl, ?yf7⟩) trivial ?rf7
              case yf7 => (intro w hSw; (try dsimp only at hSw); go_simp; all_goals (with_reducible rfl))
              try simp only [Act.put, List.setIfInBounds_toArray, List.set_cons_zero, List.set_cons_succ]
              refine wpAnyH_ready (rs := [8]) (by kernel_rfl) (by simp) ?_
              refine AllReadyH.cons rfl (fun K hK => ?_) AllReadyH.nil
              go_simp
              have HS9 := Lib.hid HP.out.2.2
              refine hK.out _ _ trivial (fun hHeld => ?_)
              clear hK K hHeld
              try simp only [Act.put, List.setIfInBounds_toArray, List.set_cons_zero, List.set_cons_succ]
              refine wpAnyH_done (by kernel_rfl) ?_ _
              clear d4 f4 HP t1 hou HB7 HH T1 TP HMD hv hgr hL
              rw [← tabs_take hlt] at HS9
              generalize w8.setCell ⟨X, 4, none⟩ (.slice va (ts.length + 1) vc) = w9 at *
              have c5 := HS9.out.ch.c5
              have P9 := HS9.out.pl
              have HO9 := Lib.hid (fun j (hj : j < i + 1) => (show mOk x.length (rowAt ms j) = true from if e : j = i then by rw [e]; exact HM1.out else HOK.out j (by omega)))
              have hz9 : X + 1 ≤ (w9.alloc (.cells #[.int .i64 i] 2)).heap.size := by have := HS9.out.ch.lt; simp; omega
              obtain ⟨pa, pc, hpv⟩ := P9.slice
              rw [idx_len] at hpv
              subst hpv
              have hil : ((idx i).map (Value.int .i64)).length ≤ 1099511627776 := by rw [List.length_map, idx_len]; omega
              have HP9 := Lib.hid P9
              clear P9 HOK
              go_wp2_with (at_builtin; refine wpl_appL Try.underlying26 info_i64 rfl (by omega) rfl _ _ rfl (X + 1) _ _ rfl (OV.alloc HP9.out _) _ _ _ rfl (World.cell?_alloc_at _ _ _ _ rfl) rfl hil hz9 ?_; intro v' w10 hv hgr hL; have HPL := Lib.hid (HS9.out.plc (z := i) (by unfold OI OK; rw [List.map_append]; exact hv) hgr hL); have d5 := HPL.out.1.c5; have f5 := HPL.out.2.1; obtain ⟨qa, qc, hq'⟩ := hv.read.slice; rw [List.length_append, List.length_map, idx_len, List.length_singleton] at hq'; subst hq')
              have HS11 := Lib.hid HPL.out.2.2
              rw [← idx_succ] at HS11
              go_roundw
              case rel => exact ⟨i + 1, _, _, by omega, by go_num, HO9, HS11.out⟩
              case measure => first | (simp [intOf]; done) | (simp [intOf]; omega)
      · have HN := Lib.hid (HNO.out i hlt (by unfold mOk; rw [decide_eq_false hml]; rfl))
        have hmi : ((rowAt ms i).length : Int) ≠ (x.length : Int) := by omega
        have k0 := (hst2.cr).ch.c0
        have k1 := (hst2.cr).ch.c1
        have k2 := (hst2.cr).ch.c2
        have k3 := (hst2.cr).ch.c3
        have k4 := (hst2.cr).ch.c4
        have k5 := (hst2.cr).ch.c5
        have g0 := (hst2.cr).fz 0
        have g1 := (hst2.cr).fz 1
        have g2 := (hst2.cr).fz 2
        have g3 := (hst2.cr).fz 3
        have g4 := (hst2.cr).fz 4
        have g5 := (hst2.cr).fz 5
        have HB2 := Lib.hid hst2.b
        clear hst hst2 hri HOD
        have HE := Lib.hid (fun a0 a1 a2 a3 a4 a5 => GcP.no HN.out (evNil ((set6 (r := w.heap.size + 1) (w := (wr.alloc (.cells #[.slice ra (rowAt ms i).length rc] 26))) a0 a1 a2 a3 a4 a5).2 _ _ (Nat.le_succ _) HB2.out)))
        go_wp2_with fail
        exact bodyPost_ret (v := .tuple #[.agg #[.int .i64 0, .int .i64 0, .int .i64 0, .int .i64 0, .slice none 0 0, .slice none 0 0], .bool false]) (by simp [results, Try.results44, go_sem, k0, k1, k2, k3, k4, k5]) rfl (HE.out _ _ _ _ _ _)
    · obtain rfl : i = ms.length := by omega
      rw [List.take_of_length_le (Nat.le_refl _)] at hst
      have HK := Lib.hid (HYES.out HOK.out)
      obtain ⟨pb, hpb⟩ : ∃ pb, pb = powB x.length ms.length := ⟨_, rfl⟩
      rw [← hpb] at HK
      have HVC := Lib.hid (validC_good x.length x.length n0 k tv pv (tabs x ms) (idx ms.length) wr hst.o.read (OK.read hst.pl) (gc_good HG.out (by omega) h2 h3 HOK.out hn0l))
      rw [idx_len, ← hpb] at HVC
      clear hpb HYES HNO
      obtain ⟨ta, tc, rfl⟩ := hst.o.slice
      obtain ⟨pa, pc, hpv⟩ := hst.pl.slice
      subst hpv
      have hrX := hst.rX
      have hnX : ¬ X = w.heap.size + 1 := by omega
      have c0 := hst.ch.c0
      have c1 := hst.ch.c1
      have c2 := hst.ch.c2
      have c3 := hst.ch.c3
      have c4 := hst.ch.c4
      have c5 := hst.ch.c5
      have HS := Lib.hid hst
      clear hst
      go_wp2_with fail
      refine HVC.out.mono ?_
      rintro e w9 ⟨rfl, hb9⟩
      have HS9 := Lib.hid (HS.out.later hb9)
      clear c0 c1 c2 c3 c4 c5 HVC HS
      have k0 := (HS9.out.cr).ch.c0
      have k1 := (HS9.out.cr).ch.c1
      have k2 := (HS9.out.cr).ch.c2
      have k3 := (HS9.out.cr).ch.c3
      have k4 := (HS9.out.cr).ch.c4
      have k5 := (HS9.out.cr).ch.c5
      have g0 := (HS9.out.cr).fz 0
      have g1 := (HS9.out.cr).fz 1
      have g2 := (HS9.out.cr).fz 2
      have g3 := (HS9.out.cr).fz 3
      have g4 := (HS9.out.cr).fz 4
      have g5 := (HS9.out.cr).fz 5
      cases pb
      · have HE := Lib.hid (fun a0 a1 a2 a3 a4 a5 => GcP.no HK.out (evNil ((set6 (r := w.heap.size + 1) (w := w9) a0 a1 a2 a3 a4 a5).2 _ _ (Nat.le_succ _) HS9.out.b)))
        go_wp2_with fail
        exact bodyPost_ret (v := .tuple #[.agg #[.int .i64 0, .int .i64 0, .int .i64 0, .int .i64 0, .slice none 0 0, .slice none 0 0], .bool false]) (by simp [results, Try.results44, go_sem, k0, k1, k2, k3, k4, k5]) rfl (HE.out _ _ _ _ _ _)
      · have HE := Lib.hid (fun a0 a1 a2 a3 a4 a5 => GcP.yes HK.out (by rw [HN0.out]; exact gcRes HS9.out a0 a1 a2 a3 a4 a5))
        have c0 := HS9.out.ch.c0
        have c1 := HS9.out.ch.c1
        have c2 := HS9.out.ch.c2
        have c3 := HS9.out.ch.c3
        have c4 := HS9.out.ch.c4
        have c5 := HS9.out.ch.c5
        go_wp2_with fail
        exact bodyPost_ret (v := .tuple #[.agg #[.int .i64 x.length, .int .i64 x.length, .int .i64 n0, .int .i64 k, .slice ta (tabs x ms).length tc, .slice pa (idx ms.length).length pc], .bool true]) (by simp [results, Try.results44, go_sem, k0, k1, k2, k3, k4, k5]) rfl (HE.out _ _ _ _ _ _)
theorem implGc_any (v mv : Value) (x ms : List (List Int)) (k : Int) (w : World) (hx : RT w v x) (hms : RT w mv ms) (hm : x.length ≤ 1048576) (hr : Small x) (hrm : Small ms) :
    Calls Try.prog 44 #[.agg #[v], mv, .int .i64 k] w (GcP x ms k w) := by
  cases hh : hasB x k
  · exact (implGc_h v mv x ms k w hx hms hm hr hh).mono fun e w' h => GcP.no (by unfold gcOk; rw [hh]; rfl) h
  by_cases h2 : x.length < 2
  · exact (implGc_2 v mv x ms k w hx hms hm hr hh h2).mono fun e w' h => GcP.no (by unfold gcOk; rw [decide_eq_false (by omega)]; simp) h
  cases h3 : inB ms.length 1 20
  · exact (implGc_m v mv x ms k w hx hms hm hr hh (by omega) h3).mono fun e w' h => GcP.no (by unfold gcOk; rw [h3]; simp) h
  obtain ⟨_, hk1, hk2⟩ := hasB_iff.1 hh
  obtain ⟨q, rfl⟩ := Int.eq_ofNat_of_zero_le hk1
  have := inB_iff.1 h3
  exact implGc_go v mv x ms q w hx hms hm hr hrm hh (by omega) (by omega)
end Go.Proofs.Ytghmpaegmicheaa
