/- The law of TableChain, for all arguments. -/
import Derived.Test.YthcnhkjiojeemaaChT
namespace Go.Proofs.Ythcnhkjiojeemaa
open Go.RowKit

theorem specTc_any (v : Value) (x : List (List Int)) (p : Int) (w : World) (hx : RT w v x) (hm : x.length ≤ 1048576) (hr : Small x) :
    Calls Try.prog 20 #[v, .int .i64 p] w (TcR x p w) := by
  cases hq : qgB x
  · exact (specTc_q v x p w hx hm hr hq).mono fun e w' h => TcR.no (by unfold tcOk; rw [hq]; rfl) h
  by_cases h2 : x.length < 2
  · exact (specTc_2 v x p w hx hm hr hq h2).mono fun e w' h => TcR.no (by unfold tcOk; rw [decide_eq_false (by omega)]; simp) h
  cases hi : inB p 1 20
  · exact (specTc_p v x p w hx hm hr hq (by omega) hi).mono fun e w' h => TcR.no (by unfold tcOk; rw [hi]; simp) h
  have hi2 := inB_iff.1 hi
  obtain ⟨q, rfl⟩ := Int.eq_ofNat_of_zero_le (show 0 ≤ p by omega)
  exact specTc_go v x q w hx hm hr hq (by omega) (by omega)
theorem smallT {x : List (List Int)} (h : (szT x : Int) ≤ 1048576) : x.length ≤ 1048576 ∧ Small x ∧ tot x ≤ 1048576 := by
  unfold szT at h
  refine ⟨by omega, fun j hj => ?_, by omega⟩
  have := tot_at x j hj
  omega
set_option maxHeartbeats 4000000 in
set_option maxRecDepth 100000 in
theorem lawTc_any (v : Value) (x : List (List Int)) (p : Int) (w : World) (hx : RT w v x) :
    Calls Try.prog 6 #[v, .int .i64 p] w fun e w' => e = .returned (.bool true) ∧ Below w.heap.size w w' := by
  by_cases hs : (szT x : Int) ≤ 1048576
  case neg =>
    go_enter Try.func6, Try.ntmps6
    go_wp2_with fail
    refine (szInt64SS_no _ x _ _ hx (by omega) (by omega)).mono ?_
    rintro e w1 ⟨rfl, rfl⟩
    go_wp2_with fail
    go_ret
    exact ⟨rfl, Below.refl _ _⟩
  obtain ⟨hm, hr, ht⟩ := smallT hs
  have HS := Lib.hid hs
  clear hs
  have HF := Lib.hid (tc_fine x p)
  obtain ⟨x3, hx3⟩ : ∃ l, l = tcX x p := ⟨_, rfl⟩
  obtain ⟨ys, hys⟩ : ∃ l, l = tcY x p := ⟨_, rfl⟩
  obtain ⟨n, hn⟩ : ∃ l, l = tcN x p := ⟨_, rfl⟩
  obtain ⟨ok, hok⟩ : ∃ l, l = tcOk x p := ⟨_, rfl⟩
  have HI : Hid (∀ w1 v1, RT w1 v1 x → Calls Try.prog 15 #[v1, .int .i64 p] w1 (ChP n n 0 0 x3 ys ok w1)) := fun w1 v1 h => by
    rw [hx3, hys, hn, hok]; exact implTc_any v1 x p w1 h hm hr
  have HP : Hid (∀ w1 v1, RT w1 v1 x → Calls Try.prog 20 #[v1, .int .i64 p] w1 (ChR n n 0 0 x3 ys ok w1)) := fun w1 v1 h => by
    rw [hx3, hys, hn, hok]; exact specTc_any v1 x p w1 h hm hr
  rw [← hx3, ← hys] at HF
  clear hx3 hys hn hok
  have hb := Below.refl w.heap.size w
  have HR' : Hid (∀ j, j < x.length → (rowAt x j).length ≤ 1099511627776) := fun j hj => by have := hr.out j hj; omega
  have HX := Lib.hid hx
  clear hx
  go_enter Try.func6, Try.ntmps6
  go_wp2_with fail
  refine (szInt64SS_yes _ x _ _ HX.out (by omega) HS.out).mono ?_
  rintro e w1 ⟨r, rfl, HR, h1, h2, rfl⟩
  go_wp2_with fail
  refine (toInt64SS_any _ x _ HX.out hm hr).mono ?_
  rintro e w2 ⟨u2, rfl, o2, hb1⟩
  try replace ox := ox.later hb1 sX
  try replace sX := Nat.le_trans sX hb1.size
  try replace cG := cG.later hb1
  try replace oG := oG.later hb1 sG
  try replace sG := Nat.le_trans sG hb1.size
  try replace oGy := OV.later oGy hb1
  try replace hbW := hbW.trans (hb1.mono hbW.size)
  replace hb := hb.trans (hb1.mono hb.size)
  clear hb1
  go_wp2_with fail
  refine (HP.out _ _ o2.read).mono ?_
  rintro e w3 ⟨tW, pW, rfl, rW3, rWy, hb1⟩
  try replace ox := ox.later hb1 sX
  try replace sX := Nat.le_trans sX hb1.size
  try replace cG := cG.later hb1
  try replace oG := oG.later hb1 sG
  try replace sG := Nat.le_trans sG hb1.size
  try replace oGy := OV.later oGy hb1
  try replace hbW := hbW.trans (hb1.mono hbW.size)
  replace hb := hb.trans (hb1.mono hb.size)
  clear hb1
  clear o2
  obtain ⟨ta, tc, rfl⟩ := rW3.slice
  obtain ⟨pa, pc, rfl⟩ := rWy.slice
  go_wp2_with fail
  have hb1 : Below w3.heap.size w3 (w3.alloc (.cells #[.int .i64 n, .int .i64 n, .int .i64 0, .int .i64 0, .slice ta x3.length tc, .slice pa ys.length pc] 35)) := (Below.refl _ _).alloc (Nat.le_refl _) _
  have cW : ChAt w3.heap.size n n 0 0 (.slice ta x3.length tc) (.slice pa ys.length pc) (w3.alloc (.cells #[.int .i64 n, .int .i64 n, .int .i64 0, .int .i64 0, .slice ta x3.length tc, .slice pa ys.length pc] 35)) :=
    ⟨by simp, World.cell?_alloc_at _ _ _ _ rfl, World.cell?_alloc_at _ _ _ _ rfl, World.cell?_alloc_at _ _ _ _ rfl, World.cell?_alloc_at _ _ _ _ rfl, World.cell?_alloc_at _ _ _ _ rfl, World.cell?_alloc_at _ _ _ _ rfl⟩
  have HW3 := Lib.hid (rW3.later hb1)
  have HWy := Lib.hid (rWy.later hb1)
  try replace ox := ox.later hb1 sX
  try replace sX := Nat.le_trans sX hb1.size
  try replace cG := cG.later hb1
  try replace oG := oG.later hb1 sG
  try replace sG := Nat.le_trans sG hb1.size
  try replace oGy := OV.later oGy hb1
  try replace hbW := hbW.trans (hb1.mono hbW.size)
  replace hb := hb.trans (hb1.mono hb.size)
  clear hb1
  clear rW3 rWy
  generalize w3.alloc (.cells #[.int .i64 n, .int .i64 n, .int .i64 0, .int .i64 0, .slice ta x3.length tc, .slice pa ys.length pc] 35) = w4 at *
  generalize w3.heap.size = PW at *
  have HCW := Lib.hid cW
  have hPW : PW < w4.heap.size := cW.lt
  clear cW
  have hbW := Below.refl w4.heap.size w4
  refine (toInt64SS_any _ x _ (HX.out.later hb) hm hr).mono ?_
  rintro e w5 ⟨u5, rfl, ox, hb1⟩
  obtain ⟨BX, hBX⟩ : ∃ B, B = w4.heap.size := ⟨_, rfl⟩
  obtain ⟨SX, hSX⟩ : ∃ B, B = w5.heap.size := ⟨_, rfl⟩
  rw [← hBX, ← hSX] at ox
  have hWX : PW < BX := by omega
  have hBS : BX ≤ SX := by have := hb1.size; omega
  have sX : SX ≤ w5.heap.size := by omega
  have hWB : w4.heap.size ≤ BX := by omega
  have hwB : w.heap.size ≤ BX := by have := hb.size; omega
  clear hPW hBX
  replace hbW := hbW.trans hb1
  replace hb := hb.trans (hb1.mono hb.size)
  clear hb1
  go_wp2_with fail
  refine (HI.out _ _ ox.read).mono ?_
  rintro e w6 ⟨tG, pG, rfl, oG, oGy, hb1⟩
  obtain ⟨BG, hBG⟩ : ∃ B, B = w5.heap.size := ⟨_, rfl⟩
  obtain ⟨SG, hSG⟩ : ∃ B, B = w6.heap.size := ⟨_, rfl⟩
  rw [← hBG, ← hSG] at oG
  rw [← hBG] at oGy
  have hXG : SX ≤ BG := by omega
  have hBSG : BG ≤ SG := by have := hb1.size; omega
  have sG : SG ≤ w6.heap.size := by omega
  have hlG : ∀ k, pG.ownBlock = some k → k < SG := fun k hk => by have := (oGy.lt k hk).2; omega
  clear hSX
  replace ox := ox.later hb1 sX
  replace sX := Nat.le_trans sX hb1.size
  replace hbW := hbW.trans (hb1.mono hbW.size)
  replace hb := hb.trans (hb1.mono hb.size)
  clear hb1 hBG
  obtain ⟨ga, gc, rfl⟩ := oG.slice
  obtain ⟨ha, hc, hpG⟩ := oGy.slice
  subst hpG
  have HLG := Lib.hid hlG
  have hSP : SG ≤ w6.heap.size := sG
  have cW := HCW.out.later hbW
  have c0 := (cW).c0
  have c1 := (cW).c1
  have c2 := (cW).c2
  have c3 := (cW).c3
  have c4 := (cW).c4
  have c5 := (cW).c5
  have hlw6 : PW < w6.heap.size := cW.lt
  clear cW hlG
  go_wp2_with fail
  have hb1 : Below w6.heap.size w6 (w6.alloc (.cells #[.int .i64 n, .int .i64 n, .int .i64 0, .int .i64 0, .slice ga x3.length gc, .slice ha ys.length hc] 35)) := (Below.refl _ _).alloc (Nat.le_refl _) _
  have cG : ChAt w6.heap.size n n 0 0 (.slice ga x3.length gc) (.slice ha ys.length hc) (w6.alloc (.cells #[.int .i64 n, .int .i64 n, .int .i64 0, .int .i64 0, .slice ga x3.length gc, .slice ha ys.length hc] 35)) :=
    ⟨by simp, World.cell?_alloc_at _ _ _ _ rfl, World.cell?_alloc_at _ _ _ _ rfl, World.cell?_alloc_at _ _ _ _ rfl, World.cell?_alloc_at _ _ _ _ rfl, World.cell?_alloc_at _ _ _ _ rfl, World.cell?_alloc_at _ _ _ _ rfl⟩
  replace ox := ox.later hb1 sX
  replace sX := Nat.le_trans sX hb1.size
  replace oG := oG.later hb1 sG
  replace sG := Nat.le_trans sG hb1.size
  replace oGy := OV.later oGy hb1
  replace hbW := hbW.trans (hb1.mono hbW.size)
  replace hb := hb.trans (hb1.mono hb.size)
  clear hb1
  generalize w6.alloc (.cells #[.int .i64 n, .int .i64 n, .int .i64 0, .int .i64 0, .slice ga x3.length gc, .slice ha ys.length hc] 35) = w7 at *
  clear hSG c0 c1 c2 c3 c4 c5
  generalize w6.heap.size = PG at *
  refine (eqChain_yes _ _ _ _ n n 0 0 x3 ys _ oG.read (OK.read oGy) (HW3.out.later hbW) (HWy.out.later hbW) HF.out).mono ?_
  rintro e w8 ⟨rfl, hb1⟩
  try replace ox := ox.later hb1 sX
  try replace sX := Nat.le_trans sX hb1.size
  try replace cG := cG.later hb1
  try replace oG := oG.later hb1 sG
  try replace sG := Nat.le_trans sG hb1.size
  try replace oGy := OV.later oGy hb1
  try replace hbW := hbW.trans (hb1.mono hbW.size)
  replace hb := hb.trans (hb1.mono hb.size)
  clear hb1
  go_wp2_with fail
  refine (toInt64SS_any _ x _ (HX.out.later hb) hm hr).mono ?_
  rintro e w9 ⟨u9, rfl, o9, hb1⟩
  try replace ox := ox.later hb1 sX
  try replace sX := Nat.le_trans sX hb1.size
  try replace cG := cG.later hb1
  try replace oG := oG.later hb1 sG
  try replace sG := Nat.le_trans sG hb1.size
  try replace oGy := OV.later oGy hb1
  try replace hbW := hbW.trans (hb1.mono hbW.size)
  replace hb := hb.trans (hb1.mono hb.size)
  clear hb1
  go_wp2_with fail
  refine (eqInt64SS_q _ _ x _ ox.read o9.read (by omega) HR'.out).mono ?_
  rintro e w10 ⟨rfl, hd⟩
  have hb1 := hd.below
  clear o9 hd
  try replace ox := ox.later hb1 sX
  try replace sX := Nat.le_trans sX hb1.size
  try replace cG := cG.later hb1
  try replace oG := oG.later hb1 sG
  try replace sG := Nat.le_trans sG hb1.size
  try replace oGy := OV.later oGy hb1
  try replace hbW := hbW.trans (hb1.mono hbW.size)
  replace hb := hb.trans (hb1.mono hb.size)
  clear hb1
  go_wp2_with fail
  refine (markInt64SS_any _ x 1 _ BX SX ox (by omega) (by omega)).mono ?_
  rintro e w11 ⟨rfl, _, hch⟩
  have hs11 := hch.size
  replace cG := cG.heap (hch.block PG cG.lt (.inr (by omega))) hs11
  replace oG := oG.chgR hch sG (.inl (by omega))
  replace oGy := OK.chgR oGy hch (by omega)
  replace hb := hch.below hb hwB hb.size
  replace hbW := hch.below hbW hWB hbW.size
  replace sG := Nat.le_trans sG hs11
  clear hch hs11 ox sX
  generalize htx : tot x = tx at *
  have hnk : ¬ (1 + (tx : Int)) < 0 := by omega
  have cW := HCW.out.later hbW
  have c0 := (cW).c0
  have c1 := (cW).c1
  have c2 := (cW).c2
  have c3 := (cW).c3
  have c4 := (cW).c4
  have c5 := (cW).c5
  have d0 := (cG).c0
  have d1 := (cG).c1
  have d2 := (cG).c2
  have d3 := (cG).c3
  have d4 := (cG).c4
  have d5 := (cG).c5
  go_wp2_with fail
  refine (eqChain_yes _ _ _ _ n n 0 0 x3 ys _ oG.read (OK.read oGy) (HW3.out.later hbW) (HWy.out.later hbW) HF.out).mono ?_
  rintro e w12 ⟨rfl, hb1⟩
  clear cW c0 c1 c2 c3 c4 c5 d0 d1 d2 d3 d4 d5
  try replace ox := ox.later hb1 sX
  try replace sX := Nat.le_trans sX hb1.size
  try replace cG := cG.later hb1
  try replace oG := oG.later hb1 sG
  try replace sG := Nat.le_trans sG hb1.size
  try replace oGy := OV.later oGy hb1
  try replace hbW := hbW.trans (hb1.mono hbW.size)
  replace hb := hb.trans (hb1.mono hb.size)
  clear hb1
  have d0 := (cG).c0
  have d1 := (cG).c1
  have d2 := (cG).c2
  have d3 := (cG).c3
  have d4 := (cG).c4
  have d5 := (cG).c5
  go_wp2_with fail
  refine (markChain_any _ _ n n 0 0 x3 ys 1 _ BG SG oG oGy sG HLG.out HF.out (by omega)).mono ?_
  rintro e w13 ⟨rfl, oG2, oGy2, hch⟩
  have hs13 := hch.size
  replace cG := cG.heap (hch.block PG cG.lt (.inr hSP)) hs13
  replace hb := hch.below hb (by omega) hb.size
  replace hbW := hch.below hbW (by omega) hbW.size
  replace sG := Nat.le_trans sG hs13
  clear hch hs13 oG oGy d0 d1 d2 d3 d4 d5
  have HTO := Lib.hid HF.out.ht
  have HYL := Lib.hid HF.out.hy
  obtain ⟨M, hM⟩ : ∃ M : Nat, M = tot3 x3 + ys.length := ⟨_, rfl⟩
  have hMM : (1 : Int) + tot3 x3 + ys.length = 1 + (M : Int) := by omega
  have HMM := Lib.hid hMM
  rw [hMM]
  have hMn : ¬ (1 + (M : Int)) < 0 := by omega
  clear hM hMM
  have d0 := (cG).c0
  have d1 := (cG).c1
  have d2 := (cG).c2
  have d3 := (cG).c3
  have d4 := (cG).c4
  have d5 := (cG).c5
  go_wp2_with fail
  refine (heldChain_yes _ _ n n 0 0 x3 ys 1 _ oG2.read (OK.read oGy2) HF.out (by omega)).mono ?_
  rintro e w14 ⟨rfl, hb1⟩
  rw [HMM.out]
  clear d0 d1 d2 d3 d4 d5
  replace oG2 := oG2.later hb1 sG
  replace oGy2 := OV.later oGy2 hb1
  try replace ox := ox.later hb1 sX
  try replace sX := Nat.le_trans sX hb1.size
  try replace cG := cG.later hb1
  try replace oG := oG.later hb1 sG
  try replace sG := Nat.le_trans sG hb1.size
  try replace oGy := OV.later oGy hb1
  try replace hbW := hbW.trans (hb1.mono hbW.size)
  replace hb := hb.trans (hb1.mono hb.size)
  clear hb1
  go_wp2_with fail
  refine (toInt64SS_any _ x _ (HX.out.later hb) hm hr).mono ?_
  rintro e w15 ⟨u15, rfl, o15, hb1⟩
  replace oG2 := oG2.later hb1 sG
  replace oGy2 := OV.later oGy2 hb1
  try replace ox := ox.later hb1 sX
  try replace sX := Nat.le_trans sX hb1.size
  try replace cG := cG.later hb1
  try replace oG := oG.later hb1 sG
  try replace sG := Nat.le_trans sG hb1.size
  try replace oGy := OV.later oGy hb1
  try replace hbW := hbW.trans (hb1.mono hbW.size)
  replace hb := hb.trans (hb1.mono hb.size)
  clear hb1
  go_wp2_with fail
  refine (HI.out _ _ o15.read).mono ?_
  rintro e w16 ⟨tH, pH, rfl, oH, oHy, hb1⟩
  replace oG2 := oG2.later hb1 sG
  replace oGy2 := OV.later oGy2 hb1
  try replace ox := ox.later hb1 sX
  try replace sX := Nat.le_trans sX hb1.size
  try replace cG := cG.later hb1
  try replace oG := oG.later hb1 sG
  try replace sG := Nat.le_trans sG hb1.size
  try replace oGy := OV.later oGy hb1
  try replace hbW := hbW.trans (hb1.mono hbW.size)
  replace hb := hb.trans (hb1.mono hb.size)
  clear hb1
  clear o15
  obtain ⟨ka, kc, rfl⟩ := oH.slice
  obtain ⟨la, lc, hpH⟩ := oHy.slice
  subst hpH
  have cW := HCW.out.later hbW
  have hlw16 : PW < w16.heap.size := cW.lt
  have hlg16 : PG < w16.heap.size := cG.lt
  have c0 := (cW).c0
  have c1 := (cW).c1
  have c2 := (cW).c2
  have c3 := (cW).c3
  have c4 := (cW).c4
  have c5 := (cW).c5
  go_wp2_with fail
  have hb1 : Below w16.heap.size w16 (w16.alloc (.cells #[.int .i64 n, .int .i64 n, .int .i64 0, .int .i64 0, .slice ka x3.length kc, .slice la ys.length lc] 35)) := (Below.refl _ _).alloc (Nat.le_refl _) _
  have cH : ChAt w16.heap.size n n 0 0 (.slice ka x3.length kc) (.slice la ys.length lc) (w16.alloc (.cells #[.int .i64 n, .int .i64 n, .int .i64 0, .int .i64 0, .slice ka x3.length kc, .slice la ys.length lc] 35)) :=
    ⟨by simp, World.cell?_alloc_at _ _ _ _ rfl, World.cell?_alloc_at _ _ _ _ rfl, World.cell?_alloc_at _ _ _ _ rfl, World.cell?_alloc_at _ _ _ _ rfl, World.cell?_alloc_at _ _ _ _ rfl, World.cell?_alloc_at _ _ _ _ rfl⟩
  replace oG2 := oG2.later hb1 sG
  replace oGy2 := OV.later oGy2 hb1
  have rH := oH.read.later hb1
  have rHy := (OK.read oHy).later hb1
  try replace ox := ox.later hb1 sX
  try replace sX := Nat.le_trans sX hb1.size
  try replace cG := cG.later hb1
  try replace oG := oG.later hb1 sG
  try replace sG := Nat.le_trans sG hb1.size
  try replace oGy := OV.later oGy hb1
  try replace hbW := hbW.trans (hb1.mono hbW.size)
  replace hb := hb.trans (hb1.mono hb.size)
  clear hb1
  generalize w16.alloc (.cells #[.int .i64 n, .int .i64 n, .int .i64 0, .int .i64 0, .slice ka x3.length kc, .slice la ys.length lc] 35) = w17 at *
  clear c0 c1 c2 c3 c4 c5 cW
  refine (eqChain_yes _ _ _ _ n n 0 0 x3 ys _ rH rHy (HW3.out.later hbW) (HWy.out.later hbW) HF.out).mono ?_
  rintro e w18 ⟨rfl, hb1⟩
  replace oG2 := oG2.later hb1 sG
  replace oGy2 := OV.later oGy2 hb1
  try replace ox := ox.later hb1 sX
  try replace sX := Nat.le_trans sX hb1.size
  try replace cG := cG.later hb1
  try replace oG := oG.later hb1 sG
  try replace sG := Nat.le_trans sG hb1.size
  try replace oGy := OV.later oGy hb1
  try replace hbW := hbW.trans (hb1.mono hbW.size)
  replace hb := hb.trans (hb1.mono hb.size)
  clear hb1
  have d0 := (cG).c0
  have d1 := (cG).c1
  have d2 := (cG).c2
  have d3 := (cG).c3
  have d4 := (cG).c4
  have d5 := (cG).c5
  go_wp2_with fail
  refine (heldChain_yes _ _ n n 0 0 x3 ys 1 _ oG2.read (OK.read oGy2) HF.out (by omega)).mono ?_
  rintro e w19 ⟨rfl, hb1⟩
  rw [HMM.out]
  replace hb := hb.trans (hb1.mono hb.size)
  go_wp2_with fail
  go_ret
  exact ⟨rfl, hb⟩
end Go.Proofs.Ythcnhkjiojeemaa
