/- The law of GroupChain, for all arguments. -/
import Derived.Test.YtghmpaegmicheaaGc4
import Derived.Test.YtghmpaegmicheaaGrpL
namespace Go.Proofs.Ytghmpaegmicheaa
open Go.RowKit

theorem gc_fine (x ms : List (List Int)) (k : Int) : Fine3 (gX x ms k) (gY x ms k) := by
  unfold gX gY
  cases h : gcOk x ms k
  · exact ⟨by simp, by simp [tot3], fun j hj => by simp at hj, by simp⟩
  · unfold gcOk at h
    simp only [Bool.and_eq_true, decide_eq_true_eq] at h
    obtain ⟨hh, h2, hi, ho, hp⟩ := h
    have h10 := (sqB_iff.1 (grpB_iff.1 (hasB_iff.1 hh).1).1).1
    have hi2 := inB_iff.1 hi
    have hrow : ∀ m, tot (gT x m) ≤ 100 := fun m => by
      have := tot_rows (gT x m) 10 (fun i hi => by
        unfold gT at hi ⊢
        rw [mkT_len] at hi
        rw [mkT_rowlen _ _ _ hi]; omega)
      have e : (gT x m).length = x.length := mkT_len _ _
      rw [e] at this
      omega
    have htot : ∀ l : List (List Int), tot3 (tabs x l) ≤ l.length * 100 := fun l => by
      induction l with
      | nil => simp [tabs, tot3]
      | cons m l ih =>
        have e : tot3 (tabs x (m :: l)) = tot (gT x m) + tot3 (tabs x l) := by simp [tabs, tot3]
        have := hrow m
        rw [e, List.length_cons, Nat.succ_mul]
        omega
    refine ⟨by simp only [if_true, tabs_len]; omega, by have := htot ms; simp only [if_true]; omega, fun j hj => ?_, by simp only [if_true, idx_len]; omega⟩
    simp only [if_true] at hj ⊢
    rw [tabs_len] at hj
    rw [tabs_at hj]
    refine ⟨by show (mkT _ _).length ≤ _; rw [mkT_len]; omega, fun i hi => ?_⟩
    unfold gT at hi ⊢
    rw [mkT_len] at hi
    rw [mkT_rowlen _ _ _ hi]; omega
theorem smallT {x : List (List Int)} (h : (szT x : Int) ≤ 1048576) : x.length ≤ 1048576 ∧ Small x ∧ tot x ≤ 1048576 := by
  unfold szT at h
  refine ⟨by omega, fun j hj => ?_, by omega⟩
  have := tot_at x j hj
  omega
set_option maxHeartbeats 8000000 in
set_option maxRecDepth 100000 in
theorem lawGc_any (v mv : Value) (x ms : List (List Int)) (k : Int) (w : World) (hx0 : RT w v x) (hm0 : RT w mv ms) :
    Calls Try.prog 9 #[.agg #[v], mv, .int .i64 k] w fun e w' => e = .returned (.bool true) ∧ Below w.heap.size w w' := by
  obtain ⟨a, c, rfl⟩ := hx0.slice
  have hbw : Below w.heap.size w (w.alloc (.cells #[.slice a x.length c] 24)) := (Below.refl _ _).alloc (Nat.le_refl _) _
  have C0 : (w.alloc (.cells #[.slice a x.length c] 24)).cell? ⟨w.heap.size, 0, none⟩ = some (.slice a x.length c) := World.cell?_alloc_at _ _ _ _ rfl
  have hlt : w.heap.size < (w.alloc (.cells #[.slice a x.length c] 24)).heap.size := by simp
  have hx := hx0.later hbw
  have hms := hm0.later hbw
  clear hx0 hm0
  by_cases hs : (szT x : Int) ≤ 1048576
  case neg =>
    have HS := Lib.hid hs
    clear hs
    go_enter Try.func9, Try.ntmps9
    go_wp2_with fail
    generalize w.alloc (.cells #[.slice a x.length c] 24) = w0 at *
    refine (szGroup_no _ x _ _ hx (by omega) (by have := HS.out; omega)).mono ?_
    rintro e w1 ⟨rfl, hb⟩
    go_wp2_with fail
    go_ret
    exact ⟨rfl, hbw.trans (hb.mono hbw.size)⟩
  obtain ⟨hm, hr, ht⟩ := smallT hs
  have HS := Lib.hid hs
  clear hs
  go_enter Try.func9, Try.ntmps9
  go_wp2_with fail
  generalize w.alloc (.cells #[.slice a x.length c] 24) = w0 at *
  have HX := Lib.hid hx
  have HMS := Lib.hid hms
  have HC0 : Hid (∀ wr, Below w0.heap.size w0 wr → wr.cell? ⟨w.heap.size, 0, none⟩ = some (.slice a x.length c)) := fun wr h => (h.cell (p := ⟨w.heap.size, 0, none⟩) hlt).trans C0
  refine (szGroup_yes _ x _ _ hx (by omega) HS.out).mono ?_
  rintro e w1 ⟨r, rfl, HR, h1, h2, hb⟩
  clear hx hms C0
  by_cases hs2 : (szT ms : Int) ≤ r
  case neg =>
    have HS2 := Lib.hid hs2
    clear hs2
    go_wp2_with fail
    refine (szInt64SS_no _ ms _ _ (HMS.out.later hb) (by omega) (by have := HS2.out; omega)).mono ?_
    rintro e w2 ⟨rfl, rfl⟩
    go_wp2_with fail
    go_ret
    exact ⟨rfl, hbw.trans (hb.mono hbw.size)⟩
  obtain ⟨hmm, hrm, htm⟩ := smallT (x := ms) (by omega)
  have HS2 := Lib.hid hs2
  clear hs2
  have HF := Lib.hid (gc_fine x ms k)
  obtain ⟨x3, hx3⟩ : ∃ l, l = gX x ms k := ⟨_, rfl⟩
  obtain ⟨ys, hys⟩ : ∃ l, l = gY x ms k := ⟨_, rfl⟩
  obtain ⟨n, hn⟩ : ∃ l, l = gN x ms k := ⟨_, rfl⟩
  obtain ⟨s0, hs0⟩ : ∃ l, l = gS x ms k := ⟨_, rfl⟩
  obtain ⟨e0, he0⟩ : ∃ l, l = gE x ms k := ⟨_, rfl⟩
  obtain ⟨ok, hok⟩ : ∃ l, l = gcOk x ms k := ⟨_, rfl⟩
  have HI : Hid (∀ w1 v1 m1, RT w1 v1 x → RT w1 m1 ms → Calls Try.prog 44 #[.agg #[v1], m1, .int .i64 k] w1 (ChP n n s0 e0 x3 ys ok w1)) := fun w1 v1 m1 h h' => by
    rw [hx3, hys, hn, hs0, he0, hok]; exact implGc_any v1 m1 x ms k w1 h h' hm hr hrm
  have HP : Hid (∀ w1 v1 m1, RT w1 v1 x → RT w1 m1 ms → Calls Try.prog 42 #[.agg #[v1], m1, .int .i64 k] w1 (ChR n n s0 e0 x3 ys ok w1)) := fun w1 v1 m1 h h' => by
    rw [hx3, hys, hn, hs0, he0, hok]; exact specGc_any v1 m1 x ms k w1 h h' hm hr hrm
  rw [← hx3, ← hys] at HF
  clear hx3 hys hn hs0 he0 hok
  have HR' : Hid (∀ j, j < ms.length → (rowAt ms j).length ≤ 1099511627776) := fun j hj => by have := hrm.out j hj; omega
  go_wp2_with fail
  refine (szInt64SS_yes _ ms _ _ (HMS.out.later hb) (by omega) HS2.out).mono ?_
  rintro e w2 ⟨r2, rfl, HR2, h3, h4, rfl⟩
  have c0 := HC0.out _ hb
  go_wp2_with fail
  clear c0
  refine (toGroup_any _ x _ (HX.out.later hb) hm hr).mono ?_
  rintro e w2 ⟨u2, rfl, o2, hb1⟩
  try replace ox := ox.later hb1 sX
  try replace sX := Nat.le_trans sX hb1.size
  try replace cX := (hb1.cell (p := ⟨PX, 0, none⟩) lX).trans cX
  try replace lX := Nat.lt_of_lt_of_le lX hb1.size
  try replace oy := oy.later hb1 sY
  try replace sY := Nat.le_trans sY hb1.size
  try replace cG := cG.later hb1
  try replace oG := oG.later hb1 sG
  try replace sG := Nat.le_trans sG hb1.size
  try replace oGy := OV.later oGy hb1
  try replace hbW := hbW.trans (hb1.mono hbW.size)
  replace hb := hb.trans (hb1.mono hb.size)
  clear hb1
  go_wp2_with fail
  refine (toInt64SS_any _ ms _ (HMS.out.later hb) hmm hrm).mono ?_
  rintro e w2b ⟨m2, rfl, o2b, hb1⟩
  replace o2 := o2.later hb1 (Nat.le_refl _)
  try replace ox := ox.later hb1 sX
  try replace sX := Nat.le_trans sX hb1.size
  try replace cX := (hb1.cell (p := ⟨PX, 0, none⟩) lX).trans cX
  try replace lX := Nat.lt_of_lt_of_le lX hb1.size
  try replace oy := oy.later hb1 sY
  try replace sY := Nat.le_trans sY hb1.size
  try replace cG := cG.later hb1
  try replace oG := oG.later hb1 sG
  try replace sG := Nat.le_trans sG hb1.size
  try replace oGy := OV.later oGy hb1
  try replace hbW := hbW.trans (hb1.mono hbW.size)
  replace hb := hb.trans (hb1.mono hb.size)
  clear hb1
  go_wp2_with fail
  refine (HP.out _ _ _ o2.read o2b.read).mono ?_
  rintro e w3 ⟨tW, pW, rfl, rW3, rWy, hb1⟩
  try replace ox := ox.later hb1 sX
  try replace sX := Nat.le_trans sX hb1.size
  try replace cX := (hb1.cell (p := ⟨PX, 0, none⟩) lX).trans cX
  try replace lX := Nat.lt_of_lt_of_le lX hb1.size
  try replace oy := oy.later hb1 sY
  try replace sY := Nat.le_trans sY hb1.size
  try replace cG := cG.later hb1
  try replace oG := oG.later hb1 sG
  try replace sG := Nat.le_trans sG hb1.size
  try replace oGy := OV.later oGy hb1
  try replace hbW := hbW.trans (hb1.mono hbW.size)
  replace hb := hb.trans (hb1.mono hb.size)
  clear hb1
  clear o2 o2b
  obtain ⟨ta, tc, rfl⟩ := rW3.slice
  obtain ⟨pa, pc, rfl⟩ := rWy.slice
  have c0 := HC0.out _ hb
  have hl3 : w.heap.size < w3.heap.size := World.block_lt_of_cell? _ _ c0
  go_wp2_with fail
  clear c0
  have hb1 : Below w3.heap.size w3 (w3.alloc (.cells #[.int .i64 n, .int .i64 n, .int .i64 s0, .int .i64 e0, .slice ta x3.length tc, .slice pa ys.length pc] 56)) := (Below.refl _ _).alloc (Nat.le_refl _) _
  have cW : ChAt w3.heap.size n n s0 e0 (.slice ta x3.length tc) (.slice pa ys.length pc) (w3.alloc (.cells #[.int .i64 n, .int .i64 n, .int .i64 s0, .int .i64 e0, .slice ta x3.length tc, .slice pa ys.length pc] 56)) :=
    ⟨by simp, World.cell?_alloc_at _ _ _ _ rfl, World.cell?_alloc_at _ _ _ _ rfl, World.cell?_alloc_at _ _ _ _ rfl, World.cell?_alloc_at _ _ _ _ rfl, World.cell?_alloc_at _ _ _ _ rfl, World.cell?_alloc_at _ _ _ _ rfl⟩
  have HW3 := Lib.hid (rW3.later hb1)
  have HWy := Lib.hid (rWy.later hb1)
  try replace ox := ox.later hb1 sX
  try replace sX := Nat.le_trans sX hb1.size
  try replace cX := (hb1.cell (p := ⟨PX, 0, none⟩) lX).trans cX
  try replace lX := Nat.lt_of_lt_of_le lX hb1.size
  try replace oy := oy.later hb1 sY
  try replace sY := Nat.le_trans sY hb1.size
  try replace cG := cG.later hb1
  try replace oG := oG.later hb1 sG
  try replace sG := Nat.le_trans sG hb1.size
  try replace oGy := OV.later oGy hb1
  try replace hbW := hbW.trans (hb1.mono hbW.size)
  replace hb := hb.trans (hb1.mono hb.size)
  clear hb1
  clear rW3 rWy
  generalize w3.alloc (.cells #[.int .i64 n, .int .i64 n, .int .i64 s0, .int .i64 e0, .slice ta x3.length tc, .slice pa ys.length pc] 56) = w4 at *
  generalize w3.heap.size = PW at *
  have HCW := Lib.hid cW
  have hPW : PW < w4.heap.size := cW.lt
  clear cW
  have hbW := Below.refl w4.heap.size w4
  refine (toGroup_any _ x _ (HX.out.later hb) hm hr).mono ?_
  rintro e w5 ⟨u5, rfl, ox, hb1⟩
  obtain ⟨BX, hBX⟩ : ∃ B, B = w4.heap.size := ⟨_, rfl⟩
  obtain ⟨SX, hSX⟩ : ∃ B, B = w5.heap.size := ⟨_, rfl⟩
  rw [← hBX, ← hSX] at ox
  have hWX : PW < BX := by omega
  have hBS : BX ≤ SX := by have := hb1.size; omega
  have sX : SX ≤ w5.heap.size := by omega
  have hWB : w4.heap.size ≤ BX := by omega
  have hwB : w0.heap.size ≤ BX := by have := hb.size; omega
  clear hPW hBX
  replace hbW := hbW.trans hb1
  replace hb := hb.trans (hb1.mono hb.size)
  clear hb1
  obtain ⟨xa, xc, rfl⟩ := ox.slice
  go_wp2_with fail
  have hb1 : Below w5.heap.size w5 (w5.alloc (.cells #[.slice xa x.length xc] 29)) := (Below.refl _ _).alloc (Nat.le_refl _) _
  have cX : (w5.alloc (.cells #[.slice xa x.length xc] 29)).cell? ⟨w5.heap.size, 0, none⟩ = some (.slice xa x.length xc) := World.cell?_alloc_at _ _ _ _ rfl
  have lX : w5.heap.size < (w5.alloc (.cells #[.slice xa x.length xc] 29)).heap.size := by simp
  replace ox := ox.later hb1 sX
  have hSPX : SX ≤ w5.heap.size := by omega
  replace sX := Nat.le_trans sX hb1.size
  replace hbW := hbW.trans (hb1.mono hbW.size)
  replace hb := hb.trans (hb1.mono hb.size)
  clear hb1 hSX
  generalize w5.alloc (.cells #[.slice xa x.length xc] 29) = w5b at *
  generalize w5.heap.size = PX at *
  refine (toInt64SS_any _ ms _ (HMS.out.later hb) hmm hrm).mono ?_
  rintro e w5c ⟨m5, rfl, oy, hb1⟩
  obtain ⟨BY, hBY⟩ : ∃ B, B = w5b.heap.size := ⟨_, rfl⟩
  obtain ⟨SY, hSY⟩ : ∃ B, B = w5c.heap.size := ⟨_, rfl⟩
  rw [← hBY, ← hSY] at oy
  have hXY : PX < BY := by omega
  have hBSY : BY ≤ SY := by have := hb1.size; omega
  have sY : SY ≤ w5c.heap.size := by omega
  clear hBY
  replace ox := ox.later hb1 sX
  replace sX := Nat.le_trans sX hb1.size
  replace cX := (hb1.cell (p := ⟨PX, 0, none⟩) lX).trans cX
  replace lX := Nat.lt_of_lt_of_le lX hb1.size
  replace hbW := hbW.trans (hb1.mono hbW.size)
  replace hb := hb.trans (hb1.mono hb.size)
  clear hb1
  go_wp2_with fail
  refine (HI.out _ _ _ ox.read oy.read).mono ?_
  rintro e w6 ⟨tG, pG, rfl, oG, oGy, hb1⟩
  obtain ⟨BG, hBG⟩ : ∃ B, B = w5c.heap.size := ⟨_, rfl⟩
  obtain ⟨SG, hSG⟩ : ∃ B, B = w6.heap.size := ⟨_, rfl⟩
  rw [← hBG, ← hSG] at oG
  rw [← hBG] at oGy
  have hYG : SY ≤ BG := by omega
  have hBSG : BG ≤ SG := by have := hb1.size; omega
  have sG : SG ≤ w6.heap.size := by omega
  have hlG : ∀ k, pG.ownBlock = some k → k < SG := fun k hk => by have := (oGy.lt k hk).2; omega
  clear hSY
  replace ox := ox.later hb1 sX
  replace sX := Nat.le_trans sX hb1.size
  replace cX := (hb1.cell (p := ⟨PX, 0, none⟩) lX).trans cX
  replace lX := Nat.lt_of_lt_of_le lX hb1.size
  replace oy := oy.later hb1 sY
  replace sY := Nat.le_trans sY hb1.size
  replace hbW := hbW.trans (hb1.mono hbW.size)
  replace hb := hb.trans (hb1.mono hb.size)
  clear hb1 hBG
  obtain ⟨ga, gc, rfl⟩ := oG.slice
  obtain ⟨ha, hc, hpG⟩ := oGy.slice
  subst hpG
  have HLG := Lib.hid hlG
  have hSP : SG ≤ w6.heap.size := sG
  have cW := HCW.out.later hbW
  have c0 := (cW).c0
  have c1 := (cW).c1
  have c2 := (cW).c2
  have c3 := (cW).c3
  have c4 := (cW).c4
  have c5 := (cW).c5
  have hlw6 : PW < w6.heap.size := cW.lt
  clear cW hlG
  go_wp2_with fail
  have hb1 : Below w6.heap.size w6 (w6.alloc (.cells #[.int .i64 n, .int .i64 n, .int .i64 s0, .int .i64 e0, .slice ga x3.length gc, .slice ha ys.length hc] 56)) := (Below.refl _ _).alloc (Nat.le_refl _) _
  have cG : ChAt w6.heap.size n n s0 e0 (.slice ga x3.length gc) (.slice ha ys.length hc) (w6.alloc (.cells #[.int .i64 n, .int .i64 n, .int .i64 s0, .int .i64 e0, .slice ga x3.length gc, .slice ha ys.length hc] 56)) :=
    ⟨by simp, World.cell?_alloc_at _ _ _ _ rfl, World.cell?_alloc_at _ _ _ _ rfl, World.cell?_alloc_at _ _ _ _ rfl, World.cell?_alloc_at _ _ _ _ rfl, World.cell?_alloc_at _ _ _ _ rfl, World.cell?_alloc_at _ _ _ _ rfl⟩
  replace ox := ox.later hb1 sX
  replace sX := Nat.le_trans sX hb1.size
  replace cX := (hb1.cell (p := ⟨PX, 0, none⟩) lX).trans cX
  replace lX := Nat.lt_of_lt_of_le lX hb1.size
  replace oy := oy.later hb1 sY
  replace sY := Nat.le_trans sY hb1.size
  replace oG := oG.later hb1 sG
  replace sG := Nat.le_trans sG hb1.size
  replace oGy := OV.later oGy hb1
  replace hbW := hbW.trans (hb1.mono hbW.size)
  replace hb := hb.trans (hb1.mono hb.size)
  clear hb1
  generalize w6.alloc (.cells #[.int .i64 n, .int .i64 n, .int .i64 s0, .int .i64 e0, .slice ga x3.length gc, .slice ha ys.length hc] 56) = w7 at *
  clear hSG c0 c1 c2 c3 c4 c5
  generalize w6.heap.size = PG at *
  refine (eqChain_yes _ _ _ _ n n s0 e0 x3 ys _ oG.read (OK.read oGy) (HW3.out.later hbW) (HWy.out.later hbW) HF.out).mono ?_
  rintro e w8 ⟨rfl, hb1⟩
  try replace ox := ox.later hb1 sX
  try replace sX := Nat.le_trans sX hb1.size
  try replace cX := (hb1.cell (p := ⟨PX, 0, none⟩) lX).trans cX
  try replace lX := Nat.lt_of_lt_of_le lX hb1.size
  try replace oy := oy.later hb1 sY
  try replace sY := Nat.le_trans sY hb1.size
  try replace cG := cG.later hb1
  try replace oG := oG.later hb1 sG
  try replace sG := Nat.le_trans sG hb1.size
  try replace oGy := OV.later oGy hb1
  try replace hbW := hbW.trans (hb1.mono hbW.size)
  replace hb := hb.trans (hb1.mono hb.size)
  clear hb1
  have c0 := HC0.out _ hb
  go_wp2_with fail
  go_region_held3 (fun w' => w'.cell? ⟨PX, 0, none⟩ = some (.slice xa x.length xc) ∧ w'.cell? ⟨w.heap.size, 0, none⟩ = some (.slice a x.length c)) (go_keep)
    (first
      | (go_at_call 13; refine (toGroup_any _ x _ (HX.out.later hb.drew) hm hr).mono ?_; rintro e w9 ⟨u9, rfl, o9, hb1⟩; replace cX := (hb1.cell (p := ⟨PX, 0, none⟩) lX).trans cX; replace c0 := HC0.out _ (hb.drew.trans (hb1.mono hb.size)); replace ox := ox.drew.later hb1 sX)
      | (go_at_call 16; refine (eqGroup_yes _ _ x _ (by exact ox.read) (by exact o9.read) hm hr).mono ?_; rintro e w10 ⟨rfl, hb2⟩; replace cX := (hb2.cell (p := ⟨PX, 0, none⟩) (Nat.lt_of_lt_of_le lX hb1.size)).trans cX; replace c0 := HC0.out _ ((hb.drew.trans (hb1.mono hb.size)).trans (hb2.mono (hb.drew.trans (hb1.mono hb.size)).size))))
  replace ox := ox.later hb2 (Nat.le_trans sX hb1.size)
  have hb3 : Below w8.heap.size w8 w10 := ((Below.refl _ _).drew.trans hb1).trans (hb2.mono hb1.size)
  clear hb1 hb2 o9 c0
  have hb1 := hb3
  clear hb3
  replace sX := Nat.le_trans sX hb1.size
  replace lX := Nat.lt_of_lt_of_le lX hb1.size
  replace oy := oy.later hb1 sY
  replace sY := Nat.le_trans sY hb1.size
  replace cG := cG.later hb1
  replace oG := oG.later hb1 sG
  replace sG := Nat.le_trans sG hb1.size
  replace oGy := OV.later oGy hb1
  replace hbW := hbW.trans (hb1.mono hbW.size)
  replace hb := hb.trans (hb1.mono hb.size)
  clear hb1
  go_wp2_with fail
  refine (toInt64SS_any _ ms _ (HMS.out.later hb) hmm hrm).mono ?_
  rintro e w9 ⟨u9, rfl, o9, hb1⟩
  try replace ox := ox.later hb1 sX
  try replace sX := Nat.le_trans sX hb1.size
  try replace cX := (hb1.cell (p := ⟨PX, 0, none⟩) lX).trans cX
  try replace lX := Nat.lt_of_lt_of_le lX hb1.size
  try replace oy := oy.later hb1 sY
  try replace sY := Nat.le_trans sY hb1.size
  try replace cG := cG.later hb1
  try replace oG := oG.later hb1 sG
  try replace sG := Nat.le_trans sG hb1.size
  try replace oGy := OV.later oGy hb1
  try replace hbW := hbW.trans (hb1.mono hbW.size)
  replace hb := hb.trans (hb1.mono hb.size)
  clear hb1
  go_wp2_with fail
  refine (eqInt64SS_q _ _ ms _ oy.read o9.read (by omega) HR'.out).mono ?_
  rintro e w10 ⟨rfl, hd⟩
  have hb1 := hd.below
  clear o9 hd
  try replace ox := ox.later hb1 sX
  try replace sX := Nat.le_trans sX hb1.size
  try replace cX := (hb1.cell (p := ⟨PX, 0, none⟩) lX).trans cX
  try replace lX := Nat.lt_of_lt_of_le lX hb1.size
  try replace oy := oy.later hb1 sY
  try replace sY := Nat.le_trans sY hb1.size
  try replace cG := cG.later hb1
  try replace oG := oG.later hb1 sG
  try replace sG := Nat.le_trans sG hb1.size
  try replace oGy := OV.later oGy hb1
  try replace hbW := hbW.trans (hb1.mono hbW.size)
  replace hb := hb.trans (hb1.mono hb.size)
  clear hb1
  go_wp2_with fail
  refine (markGroup_any _ x 1 _ BX SX ox sX (by omega) (by omega)).mono ?_
  rintro e w11 ⟨rfl, _, hch⟩
  have hs11 := hch.size
  replace oy := oy.chgR hch sY (.inl (by omega))
  replace cG := cG.heap (hch.block PG cG.lt (.inr (by omega))) hs11
  replace oG := oG.chgR hch sG (.inl (by omega))
  replace oGy := OK.chgR oGy hch (by omega)
  replace hb := hch.below hb hwB hb.size
  replace hbW := hch.below hbW hWB hbW.size
  replace sG := Nat.le_trans sG hs11
  replace sY := Nat.le_trans sY hs11
  clear hch hs11 ox sX cX lX
  generalize htx : tot x = tx at *
  clear htx
  go_wp2_with fail
  refine (markInt64SS_any _ ms _ _ BY SY oy (by omega) (by omega)).mono ?_
  rintro e w11 ⟨rfl, _, hch⟩
  have hs11 := hch.size
  replace cG := cG.heap (hch.block PG cG.lt (.inr (by omega))) hs11
  replace oG := oG.chgR hch sG (.inl (by omega))
  replace oGy := OK.chgR oGy hch (by omega)
  replace hb := hch.below hb (by omega) hb.size
  replace hbW := hch.below hbW (by omega) hbW.size
  replace sG := Nat.le_trans sG hs11
  clear hch hs11 oy sY
  obtain ⟨ty, hty⟩ : ∃ t : Nat, t = tx + tot ms := ⟨_, rfl⟩
  have hty2 : (1 : Int) + (tx : Int) + (tot ms : Nat) = 1 + (ty : Int) := by omega
  rw [hty2]
  clear hty2 hty
  have hnk : ¬ (1 + (ty : Int)) < 0 := by omega
  have cW := HCW.out.later hbW
  have c0 := (cW).c0
  have c1 := (cW).c1
  have c2 := (cW).c2
  have c3 := (cW).c3
  have c4 := (cW).c4
  have c5 := (cW).c5
  have d0 := (cG).c0
  have d1 := (cG).c1
  have d2 := (cG).c2
  have d3 := (cG).c3
  have d4 := (cG).c4
  have d5 := (cG).c5
  go_wp2_with fail
  refine (eqChain_yes _ _ _ _ n n s0 e0 x3 ys _ oG.read (OK.read oGy) (HW3.out.later hbW) (HWy.out.later hbW) HF.out).mono ?_
  rintro e w12 ⟨rfl, hb1⟩
  clear cW c0 c1 c2 c3 c4 c5 d0 d1 d2 d3 d4 d5
  try replace ox := ox.later hb1 sX
  try replace sX := Nat.le_trans sX hb1.size
  try replace cX := (hb1.cell (p := ⟨PX, 0, none⟩) lX).trans cX
  try replace lX := Nat.lt_of_lt_of_le lX hb1.size
  try replace oy := oy.later hb1 sY
  try replace sY := Nat.le_trans sY hb1.size
  try replace cG := cG.later hb1
  try replace oG := oG.later hb1 sG
  try replace sG := Nat.le_trans sG hb1.size
  try replace oGy := OV.later oGy hb1
  try replace hbW := hbW.trans (hb1.mono hbW.size)
  replace hb := hb.trans (hb1.mono hb.size)
  clear hb1
  have d0 := (cG).c0
  have d1 := (cG).c1
  have d2 := (cG).c2
  have d3 := (cG).c3
  have d4 := (cG).c4
  have d5 := (cG).c5
  go_wp2_with fail
  refine (markChain_any _ _ n n s0 e0 x3 ys 1 _ BG SG oG oGy sG HLG.out HF.out (by omega)).mono ?_
  rintro e w13 ⟨rfl, oG2, oGy2, hch⟩
  have hs13 := hch.size
  replace cG := cG.heap (hch.block PG cG.lt (.inr hSP)) hs13
  replace hb := hch.below hb (by omega) hb.size
  replace hbW := hch.below hbW (by omega) hbW.size
  replace sG := Nat.le_trans sG hs13
  clear hch hs13 oG oGy d0 d1 d2 d3 d4 d5
  have HTO := Lib.hid HF.out.ht
  have HYL := Lib.hid HF.out.hy
  obtain ⟨M, hM⟩ : ∃ M : Nat, M = tot3 x3 + ys.length := ⟨_, rfl⟩
  have hMM : (1 : Int) + tot3 x3 + ys.length = 1 + (M : Int) := by omega
  have HMM := Lib.hid hMM
  rw [hMM]
  have hMn : ¬ (1 + (M : Int)) < 0 := by omega
  clear hM hMM
  have d0 := (cG).c0
  have d1 := (cG).c1
  have d2 := (cG).c2
  have d3 := (cG).c3
  have d4 := (cG).c4
  have d5 := (cG).c5
  go_wp2_with fail
  refine (heldChain_yes _ _ n n s0 e0 x3 ys 1 _ oG2.read (OK.read oGy2) HF.out (by omega)).mono ?_
  rintro e w14 ⟨rfl, hb1⟩
  rw [HMM.out]
  clear d0 d1 d2 d3 d4 d5
  replace oG2 := oG2.later hb1 sG
  replace oGy2 := OV.later oGy2 hb1
  try replace ox := ox.later hb1 sX
  try replace sX := Nat.le_trans sX hb1.size
  try replace cX := (hb1.cell (p := ⟨PX, 0, none⟩) lX).trans cX
  try replace lX := Nat.lt_of_lt_of_le lX hb1.size
  try replace oy := oy.later hb1 sY
  try replace sY := Nat.le_trans sY hb1.size
  try replace cG := cG.later hb1
  try replace oG := oG.later hb1 sG
  try replace sG := Nat.le_trans sG hb1.size
  try replace oGy := OV.later oGy hb1
  try replace hbW := hbW.trans (hb1.mono hbW.size)
  replace hb := hb.trans (hb1.mono hb.size)
  clear hb1
  have c0 := HC0.out _ hb
  go_wp2_with fail
  clear c0
  refine (toGroup_any _ x _ (HX.out.later hb) hm hr).mono ?_
  rintro e w15 ⟨u15, rfl, o15, hb1⟩
  replace oG2 := oG2.later hb1 sG
  replace oGy2 := OV.later oGy2 hb1
  try replace ox := ox.later hb1 sX
  try replace sX := Nat.le_trans sX hb1.size
  try replace cX := (hb1.cell (p := ⟨PX, 0, none⟩) lX).trans cX
  try replace lX := Nat.lt_of_lt_of_le lX hb1.size
  try replace oy := oy.later hb1 sY
  try replace sY := Nat.le_trans sY hb1.size
  try replace cG := cG.later hb1
  try replace oG := oG.later hb1 sG
  try replace sG := Nat.le_trans sG hb1.size
  try replace oGy := OV.later oGy hb1
  try replace hbW := hbW.trans (hb1.mono hbW.size)
  replace hb := hb.trans (hb1.mono hb.size)
  clear hb1
  go_wp2_with fail
  refine (toInt64SS_any _ ms _ (HMS.out.later hb) hmm hrm).mono ?_
  rintro e w15b ⟨m15, rfl, o15b, hb1⟩
  replace o15 := o15.later hb1 (Nat.le_refl _)
  replace oG2 := oG2.later hb1 sG
  replace oGy2 := OV.later oGy2 hb1
  try replace ox := ox.later hb1 sX
  try replace sX := Nat.le_trans sX hb1.size
  try replace cX := (hb1.cell (p := ⟨PX, 0, none⟩) lX).trans cX
  try replace lX := Nat.lt_of_lt_of_le lX hb1.size
  try replace oy := oy.later hb1 sY
  try replace sY := Nat.le_trans sY hb1.size
  try replace cG := cG.later hb1
  try replace oG := oG.later hb1 sG
  try replace sG := Nat.le_trans sG hb1.size
  try replace oGy := OV.later oGy hb1
  try replace hbW := hbW.trans (hb1.mono hbW.size)
  replace hb := hb.trans (hb1.mono hb.size)
  clear hb1
  go_wp2_with fail
  refine (HI.out _ _ _ o15.read o15b.read).mono ?_
  rintro e w16 ⟨tH, pH, rfl, oH, oHy, hb1⟩
  replace oG2 := oG2.later hb1 sG
  replace oGy2 := OV.later oGy2 hb1
  try replace ox := ox.later hb1 sX
  try replace sX := Nat.le_trans sX hb1.size
  try replace cX := (hb1.cell (p := ⟨PX, 0, none⟩) lX).trans cX
  try replace lX := Nat.lt_of_lt_of_le lX hb1.size
  try replace oy := oy.later hb1 sY
  try replace sY := Nat.le_trans sY hb1.size
  try replace cG := cG.later hb1
  try replace oG := oG.later hb1 sG
  try replace sG := Nat.le_trans sG hb1.size
  try replace oGy := OV.later oGy hb1
  try replace hbW := hbW.trans (hb1.mono hbW.size)
  replace hb := hb.trans (hb1.mono hb.size)
  clear hb1
  clear o15 o15b
  obtain ⟨ka, kc, rfl⟩ := oH.slice
  obtain ⟨la, lc, hpH⟩ := oHy.slice
  subst hpH
  have cW := HCW.out.later hbW
  have hlw16 : PW < w16.heap.size := cW.lt
  have hlg16 : PG < w16.heap.size := cG.lt
  have c0 := (cW).c0
  have c1 := (cW).c1
  have c2 := (cW).c2
  have c3 := (cW).c3
  have c4 := (cW).c4
  have c5 := (cW).c5
  go_wp2_with fail
  have hb1 : Below w16.heap.size w16 (w16.alloc (.cells #[.int .i64 n, .int .i64 n, .int .i64 s0, .int .i64 e0, .slice ka x3.length kc, .slice la ys.length lc] 56)) := (Below.refl _ _).alloc (Nat.le_refl _) _
  have cH : ChAt w16.heap.size n n s0 e0 (.slice ka x3.length kc) (.slice la ys.length lc) (w16.alloc (.cells #[.int .i64 n, .int .i64 n, .int .i64 s0, .int .i64 e0, .slice ka x3.length kc, .slice la ys.length lc] 56)) :=
    ⟨by simp, World.cell?_alloc_at _ _ _ _ rfl, World.cell?_alloc_at _ _ _ _ rfl, World.cell?_alloc_at _ _ _ _ rfl, World.cell?_alloc_at _ _ _ _ rfl, World.cell?_alloc_at _ _ _ _ rfl, World.cell?_alloc_at _ _ _ _ rfl⟩
  replace oG2 := oG2.later hb1 sG
  replace oGy2 := OV.later oGy2 hb1
  have rH := oH.read.later hb1
  have rHy := (OK.read oHy).later hb1
  try replace ox := ox.later hb1 sX
  try replace sX := Nat.le_trans sX hb1.size
  try replace cX := (hb1.cell (p := ⟨PX, 0, none⟩) lX).trans cX
  try replace lX := Nat.lt_of_lt_of_le lX hb1.size
  try replace oy := oy.later hb1 sY
  try replace sY := Nat.le_trans sY hb1.size
  try replace cG := cG.later hb1
  try replace oG := oG.later hb1 sG
  try replace sG := Nat.le_trans sG hb1.size
  try replace oGy := OV.later oGy hb1
  try replace hbW := hbW.trans (hb1.mono hbW.size)
  replace hb := hb.trans (hb1.mono hb.size)
  clear hb1
  generalize w16.alloc (.cells #[.int .i64 n, .int .i64 n, .int .i64 s0, .int .i64 e0, .slice ka x3.length kc, .slice la ys.length lc] 56) = w17 at *
  clear c0 c1 c2 c3 c4 c5 cW
  refine (eqChain_yes _ _ _ _ n n s0 e0 x3 ys _ rH rHy (HW3.out.later hbW) (HWy.out.later hbW) HF.out).mono ?_
  rintro e w18 ⟨rfl, hb1⟩
  replace oG2 := oG2.later hb1 sG
  replace oGy2 := OV.later oGy2 hb1
  try replace ox := ox.later hb1 sX
  try replace sX := Nat.le_trans sX hb1.size
  try replace cX := (hb1.cell (p := ⟨PX, 0, none⟩) lX).trans cX
  try replace lX := Nat.lt_of_lt_of_le lX hb1.size
  try replace oy := oy.later hb1 sY
  try replace sY := Nat.le_trans sY hb1.size
  try replace cG := cG.later hb1
  try replace oG := oG.later hb1 sG
  try replace sG := Nat.le_trans sG hb1.size
  try replace oGy := OV.later oGy hb1
  try replace hbW := hbW.trans (hb1.mono hbW.size)
  replace hb := hb.trans (hb1.mono hb.size)
  clear hb1
  have d0 := (cG).c0
  have d1 := (cG).c1
  have d2 := (cG).c2
  have d3 := (cG).c3
  have d4 := (cG).c4
  have d5 := (cG).c5
  go_wp2_with fail
  refine (heldChain_yes _ _ n n s0 e0 x3 ys 1 _ oG2.read (OK.read oGy2) HF.out (by omega)).mono ?_
  rintro e w19 ⟨rfl, hb1⟩
  rw [HMM.out]
  replace hb := hb.trans (hb1.mono hb.size)
  go_wp2_with fail
  go_ret
  exact ⟨rfl, hbw.trans (hb.mono hbw.size)⟩
end Go.Proofs.Ytghmpaegmicheaa
