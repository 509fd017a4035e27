/- The law of DihedralChain, for all arguments. -/
import Derived.Test.YtghmpaegmicheaaDhc3
import Derived.Test.YtghmpaegmicheaaGcL
namespace Go.Proofs.Ytghmpaegmicheaa
open Go.RowKit

theorem dc_fine (p : Int) : Fine3 (dcX p) (dcY p) := by
  unfold dcX dcY
  cases h : inB p 1 15
  · exact ⟨by simp, by simp [tot3], fun j hj => by simp at hj, by simp⟩
  · have h2 := inB_iff.1 h
    obtain ⟨q, rfl⟩ := Int.eq_ofNat_of_zero_le (show 0 ≤ p by omega)
    have hf := gc_fine dD (mps q) 0
    unfold gX gY at hf
    rw [dgc_ok (by omega), mps_len] at hf
    simpa using hf
set_option maxHeartbeats 8000000 in
set_option maxRecDepth 100000 in
theorem lawDc_any (p : Int) (w : World) :
    Calls Try.prog 10 #[.int .i64 p] w fun e w' => e = .returned (.bool true) ∧ Below w.heap.size w w' := by
  have HF := Lib.hid (dc_fine p)
  obtain ⟨x3, hx3⟩ : ∃ l, l = dcX p := ⟨_, rfl⟩
  obtain ⟨ys, hys⟩ : ∃ l, l = dcY p := ⟨_, rfl⟩
  obtain ⟨n, hn⟩ : ∃ l, l = dcN p := ⟨_, rfl⟩
  obtain ⟨s0, hs0⟩ : ∃ l, l = dcS p := ⟨_, rfl⟩
  obtain ⟨ok, hok⟩ : ∃ l, l = inB p 1 15 := ⟨_, rfl⟩
  have HI : Hid (∀ w1, Calls Try.prog 51 #[.int .i64 p] w1 (ChP n n s0 0 x3 ys ok w1)) := fun w1 => by
    rw [hx3, hys, hn, hs0, hok]; exact implDc_any p w1
  have HP : Hid (∀ w1, Calls Try.prog 50 #[.int .i64 p] w1 (ChR n n s0 0 x3 ys ok w1)) := fun w1 => by
    rw [hx3, hys, hn, hs0, hok]; exact specDc_any p w1
  rw [← hx3, ← hys] at HF
  clear hx3 hys hn hs0 hok
  have hb := Below.refl w.heap.size w
  go_enter Try.func10, Try.ntmps10
  go_wp2_with fail
  refine (HP.out _).mono ?_
  rintro e w3 ⟨tW, pW, rfl, rW3, rWy, hb1⟩
  try replace cG := cG.later hb1
  try replace oG := oG.later hb1 sG
  try replace sG := Nat.le_trans sG hb1.size
  try replace oGy := OV.later oGy hb1
  try replace hbW := hbW.trans (hb1.mono hbW.size)
  replace hb := hb.trans (hb1.mono hb.size)
  clear hb1
  obtain ⟨ta, tc, rfl⟩ := rW3.slice
  obtain ⟨pa, pc, rfl⟩ := rWy.slice
  go_wp2_with fail
  have hb1 : Below w3.heap.size w3 (w3.alloc (.cells #[.int .i64 n, .int .i64 n, .int .i64 s0, .int .i64 0, .slice ta x3.length tc, .slice pa ys.length pc] 56)) := (Below.refl _ _).alloc (Nat.le_refl _) _
  have cW : ChAt w3.heap.size n n s0 0 (.slice ta x3.length tc) (.slice pa ys.length pc) (w3.alloc (.cells #[.int .i64 n, .int .i64 n, .int .i64 s0, .int .i64 0, .slice ta x3.length tc, .slice pa ys.length pc] 56)) :=
    ⟨by simp, World.cell?_alloc_at _ _ _ _ rfl, World.cell?_alloc_at _ _ _ _ rfl, World.cell?_alloc_at _ _ _ _ rfl, World.cell?_alloc_at _ _ _ _ rfl, World.cell?_alloc_at _ _ _ _ rfl, World.cell?_alloc_at _ _ _ _ rfl⟩
  have HW3 := Lib.hid (rW3.later hb1)
  have HWy := Lib.hid (rWy.later hb1)
  try replace cG := cG.later hb1
  try replace oG := oG.later hb1 sG
  try replace sG := Nat.le_trans sG hb1.size
  try replace oGy := OV.later oGy hb1
  try replace hbW := hbW.trans (hb1.mono hbW.size)
  replace hb := hb.trans (hb1.mono hb.size)
  clear hb1
  clear rW3 rWy
  generalize w3.alloc (.cells #[.int .i64 n, .int .i64 n, .int .i64 s0, .int .i64 0, .slice ta x3.length tc, .slice pa ys.length pc] 56) = w4 at *
  generalize w3.heap.size = PW at *
  have HCW := Lib.hid cW
  have hPW : PW < w4.heap.size := cW.lt
  clear cW
  have hbW := Below.refl w4.heap.size w4
  refine (HI.out _).mono ?_
  rintro e w6 ⟨tG, pG, rfl, oG, oGy, hb1⟩
  obtain ⟨BG, hBG⟩ : ∃ B, B = w4.heap.size := ⟨_, rfl⟩
  obtain ⟨SG, hSG⟩ : ∃ B, B = w6.heap.size := ⟨_, rfl⟩
  rw [← hBG, ← hSG] at oG
  rw [← hBG] at oGy
  have hWG : PW < BG := by omega
  have hWB : w4.heap.size ≤ BG := by omega
  have hwB : w.heap.size ≤ BG := by have := hb.size; omega
  have hBSG : BG ≤ SG := by have := hb1.size; omega
  have sG : SG ≤ w6.heap.size := by omega
  have hlG : ∀ k, pG.ownBlock = some k → k < SG := fun k hk => by have := (oGy.lt k hk).2; omega
  replace hbW := hbW.trans (hb1.mono hbW.size)
  replace hb := hb.trans (hb1.mono hb.size)
  clear hb1 hBG
  obtain ⟨ga, gc, rfl⟩ := oG.slice
  obtain ⟨ha, hc, hpG⟩ := oGy.slice
  subst hpG
  have HLG := Lib.hid hlG
  have hSP : SG ≤ w6.heap.size := sG
  have cW := HCW.out.later hbW
  have c0 := (cW).c0
  have c1 := (cW).c1
  have c2 := (cW).c2
  have c3 := (cW).c3
  have c4 := (cW).c4
  have c5 := (cW).c5
  have hlw6 : PW < w6.heap.size := cW.lt
  clear cW hlG
  go_wp2_with fail
  have hb1 : Below w6.heap.size w6 (w6.alloc (.cells #[.int .i64 n, .int .i64 n, .int .i64 s0, .int .i64 0, .slice ga x3.length gc, .slice ha ys.length hc] 56)) := (Below.refl _ _).alloc (Nat.le_refl _) _
  have cG : ChAt w6.heap.size n n s0 0 (.slice ga x3.length gc) (.slice ha ys.length hc) (w6.alloc (.cells #[.int .i64 n, .int .i64 n, .int .i64 s0, .int .i64 0, .slice ga x3.length gc, .slice ha ys.length hc] 56)) :=
    ⟨by simp, World.cell?_alloc_at _ _ _ _ rfl, World.cell?_alloc_at _ _ _ _ rfl, World.cell?_alloc_at _ _ _ _ rfl, World.cell?_alloc_at _ _ _ _ rfl, World.cell?_alloc_at _ _ _ _ rfl, World.cell?_alloc_at _ _ _ _ rfl⟩
  replace oG := oG.later hb1 sG
  replace sG := Nat.le_trans sG hb1.size
  replace oGy := OV.later oGy hb1
  replace hbW := hbW.trans (hb1.mono hbW.size)
  replace hb := hb.trans (hb1.mono hb.size)
  clear hb1
  generalize w6.alloc (.cells #[.int .i64 n, .int .i64 n, .int .i64 s0, .int .i64 0, .slice ga x3.length gc, .slice ha ys.length hc] 56) = w7 at *
  clear hSG c0 c1 c2 c3 c4 c5
  generalize w6.heap.size = PG at *
  refine (eqChain_yes _ _ _ _ n n s0 0 x3 ys _ oG.read (OK.read oGy) (HW3.out.later hbW) (HWy.out.later hbW) HF.out).mono ?_
  rintro e w8 ⟨rfl, hb1⟩
  try replace cG := cG.later hb1
  try replace oG := oG.later hb1 sG
  try replace sG := Nat.le_trans sG hb1.size
  try replace oGy := OV.later oGy hb1
  try replace hbW := hbW.trans (hb1.mono hbW.size)
  replace hb := hb.trans (hb1.mono hb.size)
  clear hb1
  have d0 := (cG).c0
  have d1 := (cG).c1
  have d2 := (cG).c2
  have d3 := (cG).c3
  have d4 := (cG).c4
  have d5 := (cG).c5
  go_wp2_with fail
  refine (markChain_any _ _ n n s0 0 x3 ys 1 _ BG SG oG oGy sG HLG.out HF.out (by omega)).mono ?_
  rintro e w13 ⟨rfl, oG2, oGy2, hch⟩
  have hs13 := hch.size
  replace cG := cG.heap (hch.block PG cG.lt (.inr hSP)) hs13
  replace hb := hch.below hb (by omega) hb.size
  replace hbW := hch.below hbW (by omega) hbW.size
  replace sG := Nat.le_trans sG hs13
  clear hch hs13 oG oGy d0 d1 d2 d3 d4 d5
  have HTO := Lib.hid HF.out.ht
  have HYL := Lib.hid HF.out.hy
  obtain ⟨M, hM⟩ : ∃ M : Nat, M = tot3 x3 + ys.length := ⟨_, rfl⟩
  have hMM : (1 : Int) + tot3 x3 + ys.length = 1 + (M : Int) := by omega
  have HMM := Lib.hid hMM
  rw [hMM]
  have hMn : ¬ (1 + (M : Int)) < 0 := by omega
  clear hM hMM
  have d0 := (cG).c0
  have d1 := (cG).c1
  have d2 := (cG).c2
  have d3 := (cG).c3
  have d4 := (cG).c4
  have d5 := (cG).c5
  go_wp2_with fail
  refine (heldChain_yes _ _ n n s0 0 x3 ys 1 _ oG2.read (OK.read oGy2) HF.out (by omega)).mono ?_
  rintro e w14 ⟨rfl, hb1⟩
  rw [HMM.out]
  clear d0 d1 d2 d3 d4 d5
  replace oG2 := oG2.later hb1 sG
  replace oGy2 := OV.later oGy2 hb1
  try replace cG := cG.later hb1
  try replace oG := oG.later hb1 sG
  try replace sG := Nat.le_trans sG hb1.size
  try replace oGy := OV.later oGy hb1
  try replace hbW := hbW.trans (hb1.mono hbW.size)
  replace hb := hb.trans (hb1.mono hb.size)
  clear hb1
  go_wp2_with fail
  refine (HI.out _).mono ?_
  rintro e w16 ⟨tH, pH, rfl, oH, oHy, hb1⟩
  replace oG2 := oG2.later hb1 sG
  replace oGy2 := OV.later oGy2 hb1
  try replace cG := cG.later hb1
  try replace oG := oG.later hb1 sG
  try replace sG := Nat.le_trans sG hb1.size
  try replace oGy := OV.later oGy hb1
  try replace hbW := hbW.trans (hb1.mono hbW.size)
  replace hb := hb.trans (hb1.mono hb.size)
  clear hb1
  obtain ⟨ka, kc, rfl⟩ := oH.slice
  obtain ⟨la, lc, hpH⟩ := oHy.slice
  subst hpH
  have cW := HCW.out.later hbW
  have hlw16 : PW < w16.heap.size := cW.lt
  have hlg16 : PG < w16.heap.size := cG.lt
  have c0 := (cW).c0
  have c1 := (cW).c1
  have c2 := (cW).c2
  have c3 := (cW).c3
  have c4 := (cW).c4
  have c5 := (cW).c5
  go_wp2_with fail
  have hb1 : Below w16.heap.size w16 (w16.alloc (.cells #[.int .i64 n, .int .i64 n, .int .i64 s0, .int .i64 0, .slice ka x3.length kc, .slice la ys.length lc] 56)) := (Below.refl _ _).alloc (Nat.le_refl _) _
  have cH : ChAt w16.heap.size n n s0 0 (.slice ka x3.length kc) (.slice la ys.length lc) (w16.alloc (.cells #[.int .i64 n, .int .i64 n, .int .i64 s0, .int .i64 0, .slice ka x3.length kc, .slice la ys.length lc] 56)) :=
    ⟨by simp, World.cell?_alloc_at _ _ _ _ rfl, World.cell?_alloc_at _ _ _ _ rfl, World.cell?_alloc_at _ _ _ _ rfl, World.cell?_alloc_at _ _ _ _ rfl, World.cell?_alloc_at _ _ _ _ rfl, World.cell?_alloc_at _ _ _ _ rfl⟩
  replace oG2 := oG2.later hb1 sG
  replace oGy2 := OV.later oGy2 hb1
  have rH := oH.read.later hb1
  have rHy := (OK.read oHy).later hb1
  try replace cG := cG.later hb1
  try replace oG := oG.later hb1 sG
  try replace sG := Nat.le_trans sG hb1.size
  try replace oGy := OV.later oGy hb1
  try replace hbW := hbW.trans (hb1.mono hbW.size)
  replace hb := hb.trans (hb1.mono hb.size)
  clear hb1
  generalize w16.alloc (.cells #[.int .i64 n, .int .i64 n, .int .i64 s0, .int .i64 0, .slice ka x3.length kc, .slice la ys.length lc] 56) = w17 at *
  clear c0 c1 c2 c3 c4 c5 cW
  refine (eqChain_yes _ _ _ _ n n s0 0 x3 ys _ rH rHy (HW3.out.later hbW) (HWy.out.later hbW) HF.out).mono ?_
  rintro e w18 ⟨rfl, hb1⟩
  replace oG2 := oG2.later hb1 sG
  replace oGy2 := OV.later oGy2 hb1
  try replace cG := cG.later hb1
  try replace oG := oG.later hb1 sG
  try replace sG := Nat.le_trans sG hb1.size
  try replace oGy := OV.later oGy hb1
  try replace hbW := hbW.trans (hb1.mono hbW.size)
  replace hb := hb.trans (hb1.mono hb.size)
  clear hb1
  have d0 := (cG).c0
  have d1 := (cG).c1
  have d2 := (cG).c2
  have d3 := (cG).c3
  have d4 := (cG).c4
  have d5 := (cG).c5
  go_wp2_with fail
  refine (heldChain_yes _ _ n n s0 0 x3 ys 1 _ oG2.read (OK.read oGy2) HF.out (by omega)).mono ?_
  rintro e w19 ⟨rfl, hb1⟩
  rw [HMM.out]
  replace hb := hb.trans (hb1.mono hb.size)
  go_wp2_with fail
  go_ret
  exact ⟨rfl, hb⟩
end Go.Proofs.Ytghmpaegmicheaa
