/- DihedralChain: the reference's. -/
import Derived.Test.YtghmpaegmicheaaDhc2
namespace Go.Proofs.Ytghmpaegmicheaa
open Go.RowKit

def slLen : Value → Nat
  | .slice _ n _ => n
  | _ => 0
theorem bms_len (k : Nat) : (bms k).length = k := by rw [bms_eq, mps_len]
set_option maxHeartbeats 4000000 in
theorem l05Behind_any (p : Nat) (fv : Value) (w : World) (hf : RI w fv dF) (hp : 1 ≤ p ∧ p ≤ 15) :
    Calls Try.prog 91 #[fv, .int .i64 p] w fun e w' => ∃ v', e = .returned v' ∧ RT w' v' (mps p) ∧ Below w.heap.size w w' := by
  obtain ⟨fa, fc, hfv⟩ := hf.slice
  have e10 : dF.length = 10 := rfl
  rw [e10] at hfv
  subst hfv
  go_enter Try.func91, Try.ntmps91
  go_wp2_with fail
  have hb : Below w.heap.size w (w.alloc (.cells #[] 2)) := (Below.refl _ _).alloc (Nat.le_refl _) _
  have ho : OI w.heap.size (w.alloc (.cells #[] 2)) (.slice (some ⟨w.heap.size, 0, none⟩) 0 0) (idx 0) := OK.made _ _ _ (Nat.le_refl _)
  generalize w.alloc (.cells #[] 2) = w1 at *
  generalize Value.slice (some ⟨w.heap.size, 0, none⟩) 0 0 = v0 at *
  go_loopw [5, 6] (fun ov iv wr => ∃ k : Nat, k ≤ 10 ∧ iv = .int .i64 k ∧ OI w.heap.size wr ov (idx k) ∧ Below w.heap.size w wr) (fun _ iv _ => 10 - (intOf iv).toNat)
  case atStart => exact ⟨0, Nat.zero_le _, rfl, ho, hb⟩
  case round =>
    clear ho hb
    obtain ⟨k, hk, rfl, ho, hb⟩ := hrel
    have hz := hb.size
    by_cases hlt : k < 10
    · have hl : (idx k).length ≤ 1099511627776 := by rw [idx_len]; omega
      go_wp2_with (at_builtin; refine wpl_app_i64 rfl _ _ rfl w.heap.size _ _ rfl (ho.alloc _) _ _ _ rfl (World.cell?_alloc_at _ _ _ _ rfl) hl (by simp; omega) ?_; intro v' w2 ho2 hgr)
      have hb2 := own_below (hb.alloc hz _) (ho.alloc _) hgr (by simp; omega)
      rw [← idx_succ] at ho2
      go_roundw
      case rel => exact ⟨k + 1, by omega, by go_num, ho2, hb2⟩
      case measure => first | (simp [intOf]; done) | (simp [intOf]; omega)
    · obtain rfl : k = 10 := by omega
      rw [show ((10 : Nat) : Int) = 10 from rfl]
      obtain ⟨na, nc, hnv⟩ := ho.slice
      rw [idx_len] at hnv
      subst hnv
      have hb1 : Below wr.heap.size wr (wr.alloc (.cells #[.slice na 10 nc] 26)) := (Below.refl _ _).alloc (Nat.le_refl _) _
      have hT : RT (wr.alloc (.cells #[.slice na 10 nc] 26)) (.slice (some ⟨wr.heap.size, 0, none⟩) 1 1) (bms 1) := by
        refine ⟨[.slice na 10 nc], OV.read (OV.lit 26 wr [.slice na 10 nc] (Nat.le_refl _) (by simp [maxLen])), rfl, fun j hj => ?_⟩
        obtain rfl : j = 0 := by simp [bms_len] at hj; omega
        exact OK.read (ho.later hb1)
      have hb2 := hb.trans (hb1.mono hz)
      clear ho hb hb1
      go_wp2_with fail
      generalize wr.alloc (.cells #[.slice na 10 nc] 26) = w2 at *
      generalize Value.slice (some ⟨wr.heap.size, 0, none⟩) 1 1 = v1 at *
      go_loopw [7] (fun ov wr => ∃ k : Nat, 1 ≤ k ∧ k ≤ p ∧ RT wr ov (bms k) ∧ Below w.heap.size w wr) (fun ov _ => p - slLen ov)
      case atStart => exact ⟨1, Nat.le_refl _, hp.1, hT, hb2⟩
      case round =>
        clear hT hb2
        obtain ⟨k, hk1, hk, hT, hb⟩ := hrel
        obtain ⟨rs, r1, r2, r3⟩ := hT
        rw [bms_len] at r2 r3
        obtain ⟨oa, oc, rfl⟩ := r1.slice
        rw [r2]
        by_cases hlt : k < p
        · obtain ⟨g, off, rfl, hg, hc⟩ := r1.at 0 (by omega)
          have h0 := r3 0 hk1
          rw [List.getElem?_eq_getElem (by omega)] at hc
          have hget : rs.getD 0 nl = rs[0]'(by omega) := by simp [show 0 < rs.length by omega]
          rw [← hget] at hc
          have hb0 : rowAt (bms k) 0 = mp (k - 1) := by
            obtain ⟨q, rfl⟩ : ∃ q, k = q + 1 := ⟨k - 1, by omega⟩
            rfl
          rw [hb0] at h0
          obtain ⟨ra, rc, hra⟩ := h0.slice
          rw [mp_len] at hra
          rw [hra] at hc h0
          replace hc : wr.cell? ⟨g, off, none⟩ = some (.slice ra 10 rc) := hc
          have hF := hf.later hb
          have hCP := Lib.hid (l01Compose_any (fv := .slice ra 10 rc) (gv := .slice fa 10 fc) (mp (k - 1)) dF wr h0 hF (fun i hi => by have := dF_bd i hi; rw [mp_len]; exact this) (by simp [dF]))
          have hmk : cmpL (mp (k - 1)) dF = mp k := by
            obtain ⟨q, rfl⟩ : ∃ q, k = q + 1 := ⟨k - 1, by omega⟩
            rfl
          rw [hmk] at hCP
          have hlti : (k : Int) < (p : Int) := by omega
          have R1 := Lib.hid r1
          have R3 := Lib.hid r3
          rw [r2] at R1
          clear r1 r3 h0 hF hmk hra hb0 hget
          go_wp2_with fail
          refine hCP.out.mono ?_
          rintro e w5 ⟨nv, rfl, ho5, hb5⟩
          obtain ⟨na2, nc2, hnv⟩ := ho5.slice
          rw [mp_len] at hnv
          subst hnv
          have hL : Hid (OV 26 w5.heap.size (w5.alloc (.cells #[.slice na2 10 nc2] 26)) (.slice (some ⟨w5.heap.size, 0, none⟩) 1 1) [.slice na2 10 nc2]) := OV.lit 26 w5 [.slice na2 10 nc2] (Nat.le_refl _) (by simp [maxLen])
          have hbL : Below w5.heap.size w5 (w5.alloc (.cells #[.slice na2 10 nc2] 26)) := (Below.refl _ _).alloc (Nat.le_refl _) _
          have hb7 := hb5.trans (hbL.mono hb5.size)
          have R1' := Lib.hid (RV.later R1.out hb7)
          have hone : ∀ u ∈ rs, u.oneCell' = true := fun u hu => by
            obtain ⟨j, hj, rfl⟩ := List.mem_iff_getElem.1 hu
            obtain ⟨a', c', e'⟩ := (R3.out j (by omega)).slice
            have : rs[j] = rs.getD j nl := by simp [hj]
            rw [this, e']; rfl
          have hlen : ([Value.slice na2 10 nc2] : List Value).length + rs.length ≤ 1099511627776 := by simp; omega
          go_wp2_with (at_builtin; refine wpl_apps Try.underlying22 info_row rfl (by omega) rfl _ _ rfl w5.heap.size _ _ rfl hL.out _ _ rfl R1'.out hone hlen hbL.size ?_; intro v' w6 ho6 hgr)
          have hb6 : Below wr.heap.size wr w6 := hb5.trans ((own_below hbL hL.out hgr hbL.size).mono hb5.size)
          have h56 : Below w5.heap.size w5 w6 := own_below hbL hL.out hgr hbL.size
          have hT6 : RT w6 v' (bms (k + 1)) := by
            refine ⟨_, ho6.read, by rw [bms_len]; simp; omega, fun j hj => ?_⟩
            rw [bms_len] at hj
            cases j with
            | zero => exact (OK.read ho5).later h56
            | succ j =>
              have := (R3.out j (by omega)).later hb6
              exact this
          obtain ⟨va, vc, hva⟩ := hT6.slice
          rw [bms_len] at hva
          subst hva
          clear ho6 hgr
          go_roundw
          case rel => exact ⟨k + 1, by omega, by omega, hT6, hb.trans (hb6.mono hb.size)⟩
          case measure => simp [slLen]; omega
        · obtain rfl : k = p := by omega
          go_wp2_with fail
          go_ret
          exact ⟨_, rfl, by rw [← bms_eq]; exact ⟨rs, by rw [← r2]; exact r1, by rw [bms_len]; exact r2, by rw [bms_len]; exact r3⟩, hb⟩
set_option maxHeartbeats 4000000 in
set_option maxRecDepth 100000 in
theorem specDc_go (p : Nat) (w : World) (hp : 1 ≤ p ∧ p ≤ 15) :
    Calls Try.prog 50 #[.int .i64 p] w (ChR 10 10 (idn dD) 0 (tabs dD (mps p)) (idx p) true w) := by
  have HI : Hid (inB (p : Int) 1 15 = true) := inB_yes (by omega)
  have hb0 : Below w.heap.size w (w.alloc zch) := (Below.refl _ _).alloc (Nat.le_refl _) _
  have fR := AF.fresh w
  go_enter Try.func50, Try.ntmps50
  go_wp2_with (go_at_call 89; refine (cl00In_is _ _ _ _ true HI).mono ?_; rintro e w' ⟨rfl, rfl⟩)
  generalize w.alloc zch = w1 at *
  refine (l05Dihedral_any 5 w1 ⟨by omega, by omega⟩).mono ?_
  rintro e w2 ⟨u, rfl, hou, hb2⟩
  obtain ⟨ua, uc, rfl⟩ := hou.slice
  rw [dD_len] at *
  have hba : Below w2.heap.size w2 (w2.alloc (.cells #[.slice ua 10 uc] 29)) := (Below.refl _ _).alloc (Nat.le_refl _) _
  have hcg : (w2.alloc (.cells #[.slice ua 10 uc] 29)).cell? ⟨w2.heap.size, 0, none⟩ = some (.slice ua 10 uc) := World.cell?_alloc_at _ _ _ _ rfl
  have hz3 : (w2.alloc (.cells #[.slice ua 10 uc] 29)).heap.size = w2.heap.size + 1 := by simp
  have hou3 := hou.read.later hba
  have hbL : Below (w2.alloc (.cells #[.slice ua 10 uc] 29)).heap.size (w2.alloc (.cells #[.slice ua 10 uc] 29)) ((w2.alloc (.cells #[.slice ua 10 uc] 29)).alloc lit10) := (Below.refl _ _).alloc (Nat.le_refl _) _
  have hL := lit10_read (w2.alloc (.cells #[.slice ua 10 uc] 29))
  have hcg4 := (hbL.cell (p := ⟨w2.heap.size, 0, none⟩) (by show w2.heap.size < _; omega)).trans hcg
  have hou4 := hou3.later hbL
  have hb24 := hba.trans (hbL.mono hba.size)
  have fR4 := (fR.later hb2).later hb24
  have hb4 := (hb0.trans (hb2.mono hb0.size)).trans (hb24.mono (hb0.trans (hb2.mono hb0.size)).size)
  rw [hz3] at hL
  clear hou hba hcg hou3 hbL fR hb24
  go_wp2_with fail
  generalize (w2.alloc (.cells #[.slice ua 10 uc] 29)).alloc lit10 = w4 at *
  refine (l05Behind_any p _ w4 hL hp).mono ?_
  rintro e w5 ⟨mv, rfl, hmv, hb5⟩
  obtain ⟨G, O, C, H, F, P, hv, hsq⟩ := (hou4.later hb5).sq (grpB_iff.1 dD_grp).1
  rw [← dD_len] at hv
  simp only [Value.slice.injEq, true_and] at hv
  obtain ⟨rfl, rfl⟩ := hv
  have hLC := Lib.hid (l05Chain_any mv dD (mps p) 0 w2.heap.size uc w5 dD_grp hsq ((hb5.cell (p := ⟨w2.heap.size, 0, none⟩) (World.block_lt_of_cell? _ _ hcg4)).trans (by rw [dD_len]; exact hcg4)) hmv (by rw [mps_len]; omega) (mps_ok hp.2))
  have fR5 := fR4.later hb5
  have hb6 := hb4.trans (hb5.mono hb4.size)
  clear hsq hmv hou4 fR4 hL
  go_wp2_with fail
  refine hLC.out.mono ?_
  rintro e w7 ⟨tv, pv, rfl, ho, hy, hb7⟩
  rw [mps_len, dD_len] at *
  obtain ⟨ta, tc, rfl⟩ := ho.slice
  obtain ⟨pa, pc, hpv⟩ := hy.slice
  subst hpv
  have fR7 := fR5.later hb7
  have hb8 := hb6.trans (hb7.mono hb6.size)
  have hlw : w.heap.size < w5.heap.size := fR5.ch.lt
  have k0 := (fR7).ch.c0
  have k1 := (fR7).ch.c1
  have k2 := (fR7).ch.c2
  have k3 := (fR7).ch.c3
  have k4 := (fR7).ch.c4
  have k5 := (fR7).ch.c5
  have g0 := (fR7).fz 0
  have g1 := (fR7).fz 1
  have g2 := (fR7).fz 2
  have g3 := (fR7).fz 3
  have g4 := (fR7).fz 4
  have g5 := (fR7).fz 5
  have HE : Hid (∀ a0 a1 a2 a3 a4 a5, ChR 10 10 (idn dD) 0 (tabs dD (mps p)) (idx p) true w (.returned (.tuple #[.agg #[.int .i64 10, .int .i64 10, .int .i64 (idn dD), .int .i64 0, .slice ta (tabs dD (mps p)).length tc, .slice pa (idx p).length pc], .bool true])) ((((((w7.setCell ⟨w.heap.size, 0, none⟩ a0).setCell ⟨w.heap.size, 1, none⟩ a1).setCell ⟨w.heap.size, 2, none⟩ a2).setCell ⟨w.heap.size, 3, none⟩ a3).setCell ⟨w.heap.size, 4, none⟩ a4).setCell ⟨w.heap.size, 5, none⟩ a5)) := fun a0 a1 a2 a3 a4 a5 => by
    obtain ⟨s1, s2⟩ := set6 (r := w.heap.size) (w := w7) a0 a1 a2 a3 a4 a5
    exact ⟨_, _, rfl, (ho.keep fun q q1 _ => s1 q (by omega)).read, OK.read (OV.heap hy fun q hq => s1 q (by have := (hy.lt q hq).1; omega)), s2 _ _ (Nat.le_refl _) hb8⟩
  clear ho hy fR5 fR7
  generalize idn dD = i0 at *
  go_wp2_with fail
  exact bodyPost_ret (v := .tuple #[.agg #[.int .i64 10, .int .i64 10, .int .i64 i0, .int .i64 0, .slice ta (tabs dD (mps p)).length tc, .slice pa (idx p).length pc], .bool true]) (by simp [results, Try.results50, go_sem, k0, k1, k2, k3, k4, k5]) rfl (HE.out _ _ _ _ _ _)
theorem specDc_any (p : Int) (w : World) : Calls Try.prog 50 #[.int .i64 p] w (DcR p w) := by
  unfold DcR dcN dcS dcX dcY
  cases hp : inB p 1 15
  · exact specDc_no p w hp
  · have := inB_iff.1 hp
    obtain ⟨q, rfl⟩ := Int.eq_ofNat_of_zero_le (show 0 ≤ p by omega)
    rw [Int.toNat_natCast]
    exact specDc_go q w (by omega)
end Go.Proofs.Ytghmpaegmicheaa
