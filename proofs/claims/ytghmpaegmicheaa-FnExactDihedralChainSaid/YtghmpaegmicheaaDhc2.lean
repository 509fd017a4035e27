/- DihedralChain: the program's and the reference's. -/
import Derived.Test.YtghmpaegmicheaaDhc
import Derived.Test.YtghmpaegmicheaaGc4
namespace Go.Proofs.Ytghmpaegmicheaa
open Go.RowKit

theorem revT_any (v : Value) (x : List (List Int)) (B S : Nat) (w : World) (ho : OT B S w v x) (hm : x.length ≤ 1000) (hB : B ≤ w.heap.size) :
    Calls Try.prog 94 #[v] w fun e w' => e = .returned (.tuple #[]) ∧ RT w' v x.reverse ∧ Below B w w' := by
  obtain ⟨rs, h1, h2, h3, h4⟩ := ho
  refine (revR_any v rs B w h1 (by omega) (fun k hk => by obtain ⟨a, c, e⟩ := (h4 k (by omega)).1.slice; exact ⟨_, _, _, e⟩)).mono ?_
  rintro e w' ⟨rfl, ho', hch⟩
  refine ⟨rfl, ⟨rs.reverse, ho'.read, by simp [h3], fun j hj => ?_⟩, hch.below (Below.refl _ _) (fun k hk => (h1.lt k (mem_vb.1 hk)).1) hB⟩
  rw [List.length_reverse] at hj
  have e1 : rs.reverse.getD j nl = rs.getD (x.length - 1 - j) nl := by
    rw [List.getD_eq_getElem?_getD, List.getElem?_reverse (by omega), h3, ← List.getD_eq_getElem?_getD]
  have e2 : rowAt x.reverse j = rowAt x (x.length - 1 - j) := by
    unfold rowAt
    rw [List.getD_eq_getElem?_getD, List.getElem?_reverse hj, ← List.getD_eq_getElem?_getD]
  rw [e1, e2]
  obtain ⟨a1, a2, _⟩ := h4 (x.length - 1 - j) (by omega)
  exact OK.read (OV.heap a1 fun k hk => hch.block k (a1.lt k hk).2 (fun hm' => (a2 k hk).2 (mem_vb.1 hm')))

abbrev dD : List (List Int) := mkT (2 * 5) (dihF 5)
def dms (p : Nat) : List (List Int) := (List.range p).map mp
theorem dms_succ (k : Nat) : dms (k + 1) = dms k ++ [mp k] := by unfold dms; rw [List.range_succ, List.map_append]; rfl
theorem mps_eq (p : Nat) : mps p = (dms p).reverse := rfl
theorem dms_len (p : Nat) : (dms p).length = p := by simp [dms]
theorem mps_len (p : Nat) : (mps p).length = p := by rw [mps_eq, List.length_reverse, dms_len]
theorem mps_at {p i : Nat} (h : i < p) : rowAt (mps p) i = mp (p - 1 - i) := by
  unfold rowAt
  rw [mps_eq, List.getD_eq_getElem?_getD, List.getElem?_reverse (by rw [dms_len]; exact h), dms_len]
  unfold dms
  simp [show p - 1 - i < p by omega]
theorem dD_len : dD.length = 10 := by rw [mkT_len]
theorem dD_grp : grpB dD = true := dih_grp (n := 5) ⟨by omega, by omega⟩
theorem dD_small : Small dD := fun j hj => by
  rw [dD_len] at hj
  rw [mkT_rowlen _ _ _ (by omega)]; omega
theorem mps_small (p : Nat) : Small (mps p) := fun j hj => by
  rw [mps_len] at hj
  rw [mps_at hj, mp_len]; omega
theorem mps_ok {p : Nat} (hp : p ≤ 15) : ∀ i, i < (mps p).length → mOk dD.length (rowAt (mps p) i) = true := fun i hi => by
  rw [mps_len] at hi
  rw [mps_at hi, dD_len]
  exact mp_ok15 ⟨p - 1 - i, by omega⟩
theorem pow15 {p : Nat} (hp : p ≤ 15) : powB 10 p = true := by
  unfold powB
  exact decide_eq_true (Nat.le_trans (Nat.pow_le_pow_right (by omega) hp) (by decide))
theorem dgc_ok {p : Nat} (hp : 1 ≤ p ∧ p ≤ 15) : gcOk dD (mps p) 0 = true := by
  unfold gcOk
  rw [hasB_iff.2 ⟨dD_grp, by omega, by rw [dD_len]; omega⟩, dD_len, mps_len, inB_yes (show (1 : Int) ≤ p ∧ (p : Int) ≤ 20 by omega), pow15 hp.2, allN_yes (fun i hi => by have := mps_ok hp.2 i (by rw [mps_len]; exact hi); rwa [dD_len] at this)]; rfl

def dcX (p : Int) : List (List (List Int)) := if inB p 1 15 then tabs dD (mps p.toNat) else []
def dcY (p : Int) : List Int := if inB p 1 15 then idx p.toNat else []
def dcN (p : Int) : Int := if inB p 1 15 then 10 else 0
def dcS (p : Int) : Int := if inB p 1 15 then idn dD else 0
abbrev DcP (p : Int) := ChP (dcN p) (dcN p) (dcS p) 0 (dcX p) (dcY p) (inB p 1 15)
abbrev DcR (p : Int) := ChR (dcN p) (dcN p) (dcS p) 0 (dcX p) (dcY p) (inB p 1 15)
abbrev lit10 : Obj := .cells #[.int .i64 1, .int .i64 5, .int .i64 7, .int .i64 6, .int .i64 2, .int .i64 8, .int .i64 3, .int .i64 0, .int .i64 9, .int .i64 4] 2
theorem lit10_read (w : World) : RI (w.alloc lit10) (.slice (some ⟨w.heap.size, 0, none⟩) 10 10) dF := by
  have h : OV 2 w.heap.size (w.alloc lit10) (.slice (some ⟨w.heap.size, 0, none⟩) 10 10) (dF.map (Value.int .i64)) := OV.lit 2 w (dF.map (Value.int .i64)) (Nat.le_refl _) (by simp [dF, maxLen])
  exact OV.read h
set_option maxHeartbeats 8000000 in
set_option maxRecDepth 100000 in
theorem implDc_go (p : Nat) (w : World) (hp : 1 ≤ p ∧ p ≤ 15) :
    Calls Try.prog 51 #[.int .i64 p] w (ChP 10 10 (idn dD) 0 (tabs dD (mps p)) (idx p) true w) := by
  have HI : Hid (inB (p : Int) 1 15 = true) := inB_yes (by omega)
  have hb0 : Below w.heap.size w (w.alloc zch) := (Below.refl _ _).alloc (Nat.le_refl _) _
  have fR := AF.fresh w
  have sR : w.heap.size < (w.alloc zch).heap.size := by simp
  have hbF : Below (w.alloc zch).heap.size (w.alloc zch) ((w.alloc zch).alloc lit10) := (Below.refl _ _).alloc (Nat.le_refl _) _
  have hF := lit10_read (w.alloc zch)
  have hbM : Below ((w.alloc zch).alloc lit10).heap.size ((w.alloc zch).alloc lit10) (((w.alloc zch).alloc lit10).alloc (.cells #[] 26)) := (Below.refl _ _).alloc (Nat.le_refl _) _
  have hoM : OT ((w.alloc zch).alloc lit10).heap.size (((w.alloc zch).alloc lit10).alloc (.cells #[] 26)).heap.size (((w.alloc zch).alloc lit10).alloc (.cells #[] 26)) (.slice (some ⟨((w.alloc zch).alloc lit10).heap.size, 0, none⟩) 0 0) (dms 0) := ⟨[], OV.made _ _ (Nat.le_refl _), fun k hk => by simp [Value.ownBlock] at hk; simp; omega, Rows.nil _ _ _ _⟩
  have e1 : (w.alloc zch).heap.size = w.heap.size + 1 := by simp
  have e2 : ((w.alloc zch).alloc lit10).heap.size = w.heap.size + 1 + 1 := by simp
  rw [e2] at hoM hbM
  rw [e1] at hF hbF sR
  have fR3 := (fR.later (by rw [e1]; exact hbF)).later (by rw [e2]; exact hbM)
  have hF3 := hF.later (by rw [e2]; exact hbM)
  have hb3 : Below w.heap.size w (((w.alloc zch).alloc lit10).alloc (.cells #[] 26)) := (hb0.trans (hbF.mono (by omega))).trans (hbM.mono (by omega))
  have hz3 : (((w.alloc zch).alloc lit10).alloc (.cells #[] 26)).heap.size = w.heap.size + 1 + 1 + 1 := by simp
  clear fR hF hbF hbM hb0 e1 e2 sR
  go_enter Try.func51, Try.ntmps51
  go_wp2_with (go_at_call 64; refine (cin_is _ _ _ _ true HI).mono ?_; rintro e w' ⟨rfl, rfl⟩)
  generalize ((w.alloc zch).alloc lit10).alloc (.cells #[] 26) = w3 at *
  refine (sameOrder_any 10 w3 (by omega)).mono ?_
  rintro e w4 ⟨nv, rfl, ho4, hb4⟩
  obtain ⟨B, hB⟩ : ∃ B, B = w.heap.size + 1 + 1 := ⟨_, rfl⟩
  have hB3 : B ≤ w3.heap.size := by omega
  have hM4 := hoM.later hb4 (Nat.le_refl _)
  rw [← hB] at hM4
  have hbB : Below B w3 w4 := hb4.mono hB3
  have HR : Hid (∀ wr, Below B w3 wr → AF w.heap.size wr ∧ RI wr (.slice (some ⟨w.heap.size + 1, 0, none⟩) 10 10) dF ∧ Below w.heap.size w wr) := fun wr h => by
    refine ⟨⟨fR3.ch.heap (h.block _ (by omega)) h.size, fun o => (frozenH (h.block w.heap.size (by omega)) o).trans (fR3.fz o)⟩, ?_, hb3.trans (h.mono (by omega))⟩
    refine ⟨some ⟨w.heap.size + 1, 0, none⟩, 10, rfl, by simp [dF, maxLen], fun j hj => ⟨w.heap.size + 1, 0, rfl, ?_⟩⟩
    obtain ⟨a, c, e, _, hc⟩ := hF3
    obtain ⟨g, o, e', hc'⟩ := hc j hj
    simp only [Value.slice.injEq] at e
    rw [← e.1] at e'
    simp only [Option.some.injEq, Addr.mk.injEq, and_true] at e'
    obtain ⟨rfl, rfl⟩ := e'
    exact (cellH (h.block _ (by omega)) _).trans hc'
  have sS : w3.heap.size ≤ w4.heap.size := hb4.size
  have hB0 : (w.heap.size + 1 + 1) = B := hB.symm
  clear hoM hF3 fR3 hb3 hb4 hB
  go_wp2_with fail
  go_loopw [5, 6, 17] (fun mv nv iv wr => ∃ k S : Nat, k ≤ p ∧ iv = .int .i64 k ∧ B ≤ S ∧ S ≤ wr.heap.size ∧ OT B S wr mv (dms k) ∧ OI S wr nv (mp k) ∧ Below B w3 wr) (fun _ _ iv _ => p - (intOf iv).toNat)
  case atStart => exact ⟨0, w3.heap.size, Nat.zero_le _, rfl, hB3, sS, hM4, ho4, hbB⟩
  case round =>
    clear hM4 ho4 hbB sS w4
    obtain ⟨k, S, hk, rfl, hS1, hS2, hM, hN, hbB⟩ := hrel
    by_cases hlt : k < p
    · obtain ⟨rs, h1, h3, hl⟩ := hM.parts
      rw [dms_len] at hl
      have hrl : rs.length ≤ 1099511627776 := by omega
      obtain ⟨va, vc, rfl⟩ := h1.slice
      obtain ⟨na, nc, hnv⟩ := hN.slice
      rw [mp_len] at hnv
      subst hnv
      have H3 := Lib.hid h3
      have H1 := Lib.hid h1
      have HN := Lib.hid hN
      clear hM hl h1 h3 hN
      go_wp2_with (at_builtin; refine wpl_app Try.underlying22 info_row rfl (by omega) rfl _ _ rfl B _ _ rfl (H1.out.alloc _) _ _ _ rfl (World.cell?_alloc_at _ _ _ _ rfl) rfl hrl (by simp; omega) ?_; intro v' w5 hv hgr)
      have hp5 := OT.push H1.out H3.out hS2 hS1 HN.out hv hgr
      rw [← dms_succ] at hp5
      have hN5 : RI w5 (.slice na 10 nc) (mp k) := by
        have hT : (26 : TypeId) ≠ 2 := by decide
        have hba : Below wr.heap.size wr (wr.alloc (.cells #[.slice na 10 nc] 26)) := (Below.refl _ _).alloc (Nat.le_refl _) _
        refine OK.read (OV.heap HN.out fun q hq => ?_)
        have hlt' := HN.out.lt q hq
        exact (hgr.block q (by simp; omega) (fun e => OV.ne H1.out HN.out hT q e.symm hq)).trans (hba.block q hlt'.2)
      have hb5 := hbB.trans hp5.2
      obtain ⟨_, hF5, _⟩ := HR.out w5 hb5
      refine (compose_any _ _ (mp k) dF w5 hN5 hF5 (fun i hi => by have := dF_bd i hi; rw [mp_len]; exact this) (by simp [dF])).mono ?_
      rintro e w6 ⟨nv', rfl, ho6, hb6⟩
      have hM6 := hp5.1.later hb6 (Nat.le_refl _)
      have hsz5 : S ≤ w5.heap.size := Nat.le_trans hS2 hp5.2.size
      have hb7 := hb5.trans (hb6.mono (by omega))
      clear hv hgr hp5
      go_wp2_with fail
      go_roundw
      case rel => exact ⟨k + 1, w5.heap.size, by omega, by go_num, by omega, hb6.size, hM6, ho6, hb7⟩
      case measure => first | (simp [intOf]; done) | (simp [intOf]; omega)
    · obtain rfl : k = p := by omega
      have hml : (dms k).length ≤ 1000 := by rw [dms_len]; omega
      obtain ⟨va, vc, hva⟩ := hM.slice
      rw [dms_len] at hva
      subst hva
      go_wp2_with fail
      refine (revT_any _ (dms k) B S _ hM hml (by omega)).mono ?_
      rintro e w7 ⟨rfl, hrt, hb7⟩
      rw [← mps_eq] at hrt
      have hb8 := hbB.trans hb7
      clear hM hN
      go_wp2_with fail
      refine (dihedral_any 5 w7 ⟨by omega, by omega⟩).mono ?_
      rintro e w8 ⟨u, rfl, hou, hb9⟩
      have hb10 := hb8.trans (hb9.mono (by have := hb8.size; omega))
      obtain ⟨fR8, _, hbw⟩ := HR.out w8 hb10
      have HGC := Lib.hid (implGc_any u _ dD (mps k) 0 w8 hou.read (hrt.later hb9) (by rw [dD_len]; omega) dD_small (mps_small k))
      clear hou hrt hb9 hb8 hb7
      go_wp2_with fail
      refine HGC.out.mono ?_
      rintro e w9 hpost
      unfold GcP gN gS gE gX gY at hpost
      rw [dgc_ok hp] at hpost
      simp only [if_true] at hpost
      obtain ⟨tv, pv, rfl, ho, hy, hb11⟩ := hpost
      rw [dD_len] at *
      have fR9 := fR8.later hb11
      obtain ⟨ta, tc, rfl⟩ := ho.slice
      obtain ⟨pa, pc, hpv⟩ := hy.slice
      subst hpv
      have k0 := (fR9).ch.c0
      have k1 := (fR9).ch.c1
      have k2 := (fR9).ch.c2
      have k3 := (fR9).ch.c3
      have k4 := (fR9).ch.c4
      have k5 := (fR9).ch.c5
      have g0 := (fR9).fz 0
      have g1 := (fR9).fz 1
      have g2 := (fR9).fz 2
      have g3 := (fR9).fz 3
      have g4 := (fR9).fz 4
      have g5 := (fR9).fz 5
      have HE := Lib.hid (fun a0 a1 a2 a3 a4 a5 => chStore (b := 10) (n := 10) (s := idn dD) (e0 := 0) (ok := true) ho hy hb11 hbw fR8.ch.lt a0 a1 a2 a3 a4 a5)
      rw [mps_len] at *
      generalize idn dD = i0 at *
      clear ho hy fR8 fR9
      go_wp2_with fail
      exact bodyPost_ret (v := .tuple #[.agg #[.int .i64 10, .int .i64 10, .int .i64 i0, .int .i64 0, .slice ta (tabs dD (mps k)).length tc, .slice pa (idx k).length pc], .bool true]) (by simp [results, Try.results51, go_sem, k0, k1, k2, k3, k4, k5]) rfl (HE.out _ _ _ _ _ _)
set_option maxHeartbeats 1000000 in
theorem implDc_no (p : Int) (w : World) (hp : inB p 1 15 = false) :
    Calls Try.prog 51 #[.int .i64 p] w (ChP 0 0 0 0 [] [] false w) := by
  have HI := Lib.hid hp
  have hb0 : Below w.heap.size w (w.alloc zch) := (Below.refl _ _).alloc (Nat.le_refl _) _
  go_enter Try.func51, Try.ntmps51
  go_wp2_with (go_at_call 64; refine (cin_is _ _ _ _ false HI).mono ?_; rintro e w' ⟨rfl, rfl⟩)
  exact bodyPost_ret (v := .tuple #[.agg #[.int .i64 0, .int .i64 0, .int .i64 0, .int .i64 0, .slice none 0 0, .slice none 0 0], .bool false]) (by simp [results, Try.results51, go_sem]) rfl (evNil hb0)
set_option maxHeartbeats 1000000 in
theorem specDc_no (p : Int) (w : World) (hp : inB p 1 15 = false) :
    Calls Try.prog 50 #[.int .i64 p] w (ChR 0 0 0 0 [] [] false w) := by
  have HI := Lib.hid hp
  have hb0 : Below w.heap.size w (w.alloc zch) := (Below.refl _ _).alloc (Nat.le_refl _) _
  go_enter Try.func50, Try.ntmps50
  go_wp2_with (go_at_call 89; refine (cl00In_is _ _ _ _ false HI).mono ?_; rintro e w' ⟨rfl, rfl⟩)
  exact bodyPost_ret (v := .tuple #[.agg #[.int .i64 0, .int .i64 0, .int .i64 0, .int .i64 0, .slice none 0 0, .slice none 0 0], .bool false]) (by simp [results, Try.results50, go_sem]) rfl (crNil hb0)
theorem implDc_any (p : Int) (w : World) : Calls Try.prog 51 #[.int .i64 p] w (DcP p w) := by
  unfold DcP dcN dcS dcX dcY
  cases hp : inB p 1 15
  · exact implDc_no p w hp
  · have := inB_iff.1 hp
    obtain ⟨q, rfl⟩ := Int.eq_ofNat_of_zero_le (show 0 ≤ p by omega)
    rw [Int.toNat_natCast]
    exact implDc_go q w (by omega)
/-- The maps, one after another, of the reference. -/
def bms : Nat → List (List Int)
  | 0 => []
  | k + 1 => mp k :: bms k
theorem bms_eq : ∀ k, bms k = mps k
  | 0 => rfl
  | k + 1 => by rw [bms, bms_eq k, mps_eq, mps_eq, dms_succ, List.reverse_append]; rfl
end Go.Proofs.Ytghmpaegmicheaa
