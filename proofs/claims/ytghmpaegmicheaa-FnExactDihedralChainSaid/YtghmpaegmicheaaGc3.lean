/- GroupChain: the reference's chain. -/
import Derived.Test.YtghmpaegmicheaaGc2
import Derived.Test.YtghmpaegmicheaaRow
import Derived.Deep.DeepCutAuto
namespace Go.Proofs.Ytghmpaegmicheaa
open Go.RowKit

def LcPost (x ms : List (List Int)) (s k : Int) (w : World) (e : Ending) (w' : World) : Prop :=
  ∃ tv pv, e = .returned (.agg #[.int .i64 x.length, .int .i64 x.length, .int .i64 s, .int .i64 k, tv, pv]) ∧ O3 pv.ownBlock w.heap.size w'.heap.size w' tv (tabs x ms) ∧ OI w.heap.size w' pv (idx ms.length) ∧ Below w.heap.size w w'
set_option maxHeartbeats 8000000 in
set_option maxRecDepth 100000 in
theorem l05Chain_any (mv : Value) (x ms : List (List Int)) (k : Nat) (pg c : Nat) (w : World) {G O : Nat} {H F P : Nat → Nat} (hg : grpB x = true) (hsqa : SqAt G O H F P x w) (hpg : w.cell? ⟨pg, 0, none⟩ = some (.slice (some ⟨G, O, none⟩) x.length c)) (hms : RT w mv ms) (hml : ms.length ≤ 20) (hok : ∀ i, i < ms.length → mOk x.length (rowAt ms i) = true) :
    Calls Try.prog 81 #[.pointer (some ⟨pg, 0, none⟩), mv, .int .i64 k] w (LcPost x ms (idn x) k w) := by
  obtain ⟨ma, mc, rfl⟩ := hms.slice
  have hsq := (grpB_iff.1 hg).1
  have h10 := (sqB_iff.1 hsq).1
  obtain ⟨n0, hn0⟩ := Int.eq_ofNat_of_zero_le (grpB_iff.1 hg).2.1
  rw [hn0]
  have HN0 := Lib.hid hn0
  have HG := Lib.hid hg
  have HSQ := Lib.hid hsqa
  have HM := Lib.hid hms
  have HOK := Lib.hid hok
  have hpl := World.block_lt_of_cell? w _ hpg
  have hpl' : pg < w.heap.size := hpl
  have hb0 : Below w.heap.size w (w.alloc zch) := (Below.refl _ _).alloc (Nat.le_refl _) _
  have c0 := (hb0.cell (p := ⟨pg, 0, none⟩) hpl).trans hpg
  have fR := AF.fresh w
  have HID : Hid (∀ wx, Below w.heap.size w wx → Calls Try.prog 70 #[.slice (some ⟨G, O, none⟩) x.length c] wx fun e w' => e = .returned (.int .i64 n0) ∧ wx = w') := fun wx h => by
    have := l05Identity_any (C := c) x wx (Lib.hid hsq) (HSQ.out.later h)
    rw [HN0.out] at this; exact this
  have hst := gcStart (pg := pg) (n := x.length) (s := n0) (e := k) fR ⟨by omega, Nat.le_refl _⟩ c0 hb0
  rw [show (w.alloc zch).heap.size = w.heap.size + 1 by simp] at hst
  clear hsqa hms hg hok
  go_enter Try.func81, Try.ntmps81
  go_wp2_with (go_at_call 70; refine (HID.out _ hb0).mono ?_; rintro e w3 ⟨rfl, rfl⟩)
  have hXw : w.heap.size < w.heap.size + 1 := Nat.lt_succ_self _
  generalize (w.alloc zch).alloc (.cells #[.int .i64 x.length, .int .i64 x.length, .int .i64 n0, .int .i64 k, .slice none 0 0, .slice none 0 0] 56) = w4 at *
  generalize w.heap.size + 1 = X at *
  clear fR c0 hb0 HID hXw
  go_loopw [9] (fun iv wr => ∃ (i : Nat) (tv pv : Value), i ≤ ms.length ∧ iv = .int .i64 i ∧ GcSt pg w.heap.size X x.length n0 k (.slice (some ⟨G, O, none⟩) x.length c) (tabs x (ms.take i)) (idx i) tv pv w wr) (fun iv _ => ms.length - (intOf iv).toNat)
  case atStart => exact ⟨0, _, _, Nat.zero_le _, rfl, hst⟩
  case round =>
    clear hst w4
    obtain ⟨i, tv, pv, hi, rfl, hst⟩ := hrel
    by_cases hlt : i < ms.length
    · obtain ⟨g, off, r, rfl, hgl, hcr, hri⟩ := HM.out.at i hlt
      have hmk := HOK.out i hlt
      have hmlen := (mOk_iff.1 hmk).1
      obtain ⟨ra, rc, rfl⟩ := hri.slice
      rw [hmlen] at hcr hri
      have HRI := Lib.hid hri
      have HMK := Lib.hid hmk
      have hb1 : Below wr.heap.size wr (wr.alloc (.cells #[] 26)) := (Below.refl _ _).alloc (Nat.le_refl _) _
      have ho : OT wr.heap.size (wr.heap.size + 1) (wr.alloc (.cells #[] 26)) (.slice (some ⟨wr.heap.size, 0, none⟩) 0 0) ((gT x (rowAt ms i)).take 0) := ⟨[], OV.made _ _ (Nat.le_refl _), fun k hk => by simp [Value.ownBlock] at hk; omega, Rows.nil _ _ _ _⟩
      have hsz : wr.heap.size + 1 ≤ (wr.alloc (.cells #[] 26)).heap.size := by simp
      have HST := Lib.hid hst
      have HGL : Hid ((gT x (rowAt ms i)).length = x.length ∧ ∀ a, a < x.length → (rowAt (gT x (rowAt ms i)) a).length = x.length) := ⟨mkT_len _ _, fun a ha => mkT_rowlen _ _ _ ha⟩
      have HQ : Hid (∀ d, d < x.length → ∃ q : Nat, q < x.length ∧ (rowAt ms i).getD d 0 = (q : Int)) := fun d hd => by
        obtain ⟨h1, h2⟩ := mOk_bd hmk d hd
        obtain ⟨q, hq⟩ := Int.eq_ofNat_of_zero_le h1
        exact ⟨q, by omega, hq⟩
      have HFA : Hid (∀ w' a d q, Below wr.heap.size wr w' → a < x.length → d < x.length → q < x.length → (rowAt ms i).getD d 0 = (q : Int) → w'.cell? ⟨pg, 0, none⟩ = some (.slice (some ⟨G, O, none⟩) x.length c) ∧ w'.cell? ⟨g, off + i, none⟩ = some (.slice ra x.length rc) ∧ (∃ rg ro, ra = some ⟨rg, ro, none⟩ ∧ w'.cell? ⟨rg, ro + d, none⟩ = some (.int .i64 q)) ∧ w'.cell? ⟨G, O + q, none⟩ = some (.slice (some ⟨H q, F q, none⟩) x.length (P q)) ∧ w'.cell? ⟨H q, F q + a, none⟩ = some (.int .i64 ((rowAt (gT x (rowAt ms i)) a).getD d 0))) := fun w' a d q hb ha hd hql hq => by
        have hbw := HST.out.b.trans (hb.mono HST.out.b.size)
        have hst' := HST.out.later hb
        obtain ⟨rg, ro, e1, e2, e3⟩ := HRI.out.at d (by rw [hmlen]; exact hd)
        have hs' := HSQ.out.later hbw
        refine ⟨hst'.g, (hbw.cell (p := ⟨g, off + i, none⟩) hgl).trans hcr, ⟨rg, ro, e1, (hbw.cell (p := ⟨rg, ro + d, none⟩) e2).trans (by rw [e3, hq])⟩, hs'.row q hql, ?_⟩
        rw [hs'.cell q a hql ha]
        unfold gT
        rw [mkT_get _ _ _ _ ha hd, hq, Int.toNat_natCast]
      clear hst hri hmk
      go_wp2_with fail
      obtain ⟨w6, hw6⟩ : ∃ w, w = wr := ⟨_, rfl⟩
      rw [← hw6] at HST HFA
      rw [← hw6] at hb1 ho hsz ⊢
      generalize w6.alloc (.cells #[] 26) = w7 at *
      generalize hv0 : Value.slice (some ⟨w6.heap.size, 0, none⟩) 0 0 = v0 at *
      clear hv0 hw6 wr
      go_loopw [10, 11] (fun tv av wr => ∃ a S : Nat, a ≤ x.length ∧ av = .int .i64 a ∧ w6.heap.size ≤ S ∧ S ≤ wr.heap.size ∧ OT w6.heap.size S wr tv ((gT x (rowAt ms i)).take a) ∧ Below w6.heap.size w6 wr) (fun _ av _ => x.length - (intOf av).toNat)
      case atStart => exact ⟨0, _, Nat.zero_le _, rfl, by omega, hsz, ho, hb1⟩
      case round =>
        clear ho hb1 hsz w7
        obtain ⟨a, S, ha, rfl, hS1, hS2, ho, hb⟩ := hrel
        by_cases hal : a < x.length
        · have hb1 : Below wr.heap.size wr (wr.alloc (.cells #[] 2)) := (Below.refl _ _).alloc (Nat.le_refl _) _
          have ho0 : OI wr.heap.size (wr.alloc (.cells #[] 2)) (.slice (some ⟨wr.heap.size, 0, none⟩) 0 0) ((rowAt (gT x (rowAt ms i)) a).take 0) := OK.made _ _ _ (Nat.le_refl _)
          have ho1 := ho.later hb1 hS2
          have hb2 := hb.trans (hb1.mono hb.size)
          have hR2 : wr.heap.size ≤ (wr.alloc (.cells #[] 2)).heap.size := by simp
          clear ho hb hb1
          go_wp2_with fail
          generalize wr.alloc (.cells #[] 2) = w8 at *
          generalize Value.slice (some ⟨wr.heap.size, 0, none⟩) 0 0 = v1 at *
          generalize wr.heap.size = R at *
          go_loopw [12, 13] (fun rv dv wr => ∃ d : Nat, d ≤ x.length ∧ dv = .int .i64 d ∧ R ≤ wr.heap.size ∧ OI R wr rv ((rowAt (gT x (rowAt ms i)) a).take d) ∧ OT w6.heap.size S wr u10 ((gT x (rowAt ms i)).take a) ∧ Below w6.heap.size w6 wr) (fun _ dv _ => x.length - (intOf dv).toNat)
          case atStart => exact ⟨0, Nat.zero_le _, rfl, hR2, ho0, ho1, hb2⟩
          case round =>
            clear ho0 ho1 hb2 hR2 w8
            obtain ⟨d, hd, rfl, hRz, ho, hot, hb⟩ := hrel
            by_cases hdl : d < x.length
            · obtain ⟨q, hq, hqe⟩ := HQ.out d hdl
              have HQE := Lib.hid hqe
              obtain ⟨s1, s2, ⟨rg, ro, rfl, s3⟩, s4, s5⟩ := HFA.out wr a d q hb hal hdl hq hqe
              clear hqe
              have HT : Hid ((rowAt (gT x (rowAt ms i)) a).take (d + 1) = (rowAt (gT x (rowAt ms i)) a).take d ++ [(rowAt (gT x (rowAt ms i)) a).getD d 0]) := by
                have := HGL.out.2 a hal
                unfold Hid
                rw [List.take_succ_eq_append_getElem (by omega)]
                congr 2
                rw [List.getD_eq_getElem?_getD, List.getElem?_eq_getElem (by omega)]; rfl
              have hl : ((rowAt (gT x (rowAt ms i)) a).take d).length ≤ 1099511627776 := by rw [List.length_take]; omega
              have HS : Hid (∀ w', Below R wr w' → w'.cell? ⟨pg, 0, none⟩ = some (.slice (some ⟨G, O, none⟩) x.length c) ∧ w'.cell? ⟨g, off + i, none⟩ = some (.slice (some ⟨rg, ro, none⟩) x.length rc) ∧ w'.cell? ⟨rg, ro + d, none⟩ = some (.int .i64 q) ∧ w'.cell? ⟨G, O + q, none⟩ = some (.slice (some ⟨H q, F q, none⟩) x.length (P q)) ∧ w'.cell? ⟨H q, F q + a, none⟩ = some (.int .i64 ((rowAt (gT x (rowAt ms i)) a).getD d 0))) := fun w' hB => by
                obtain ⟨e1, e2, ⟨rg', ro', e3, e4⟩, e5, e6⟩ := HFA.out w' a d q (hb.trans (hB.mono (by omega))) hal hdl hq HQE.out
                simp only [Option.some.injEq, Addr.mk.injEq, and_true] at e3
                obtain ⟨rfl, rfl⟩ := e3
                exact ⟨e1, e2, e4, e5, e6⟩
              have hq1 : (q : Int) < (x.length : Int) := by omega
              have hq0 : (0 : Int) ≤ (q : Int) := by omega
              generalize (rowAt (gT x (rowAt ms i)) a).getD d 0 = z at *
              go_wp2_with fail
              go_region_held3 (fun w' => w'.cell? ⟨pg, 0, none⟩ = some (.slice (some ⟨G, O, none⟩) x.length c) ∧ w'.cell? ⟨g, off + i, none⟩ = some (.slice (some ⟨rg, ro, none⟩) x.length rc) ∧ w'.cell? ⟨rg, ro + d, none⟩ = some (.int .i64 q) ∧ w'.cell? ⟨G, O + q, none⟩ = some (.slice (some ⟨H q, F q, none⟩) x.length (P q)) ∧ w'.cell? ⟨H q, F q + a, none⟩ = some (.int .i64 z)) (first | go_keep | exact ⟨s1, s2, s3, s4, s5⟩)
                ((refine step_app_i64 (by rfl) _ _ (by rfl) R _ _ (by rfl) ((ho.alloc _).drew) ⟨wr.heap.size, 0, none⟩ 1 z (by rfl) (World.cell?_alloc_at _ _ _ _ rfl) hl (by simp; omega) ?_; intro v' w5 ho5 hgr; have hbn : Below R wr w5 := own_below (((Below.refl R wr).alloc hRz _).drew) ((ho.alloc _).drew) hgr (by simp; omega); obtain ⟨s1, s2, s3, s4, s5⟩ := HS.out w5 hbn))
              go_wp2_with fail
              go_roundw
              case rel => exact ⟨d + 1, by omega, by go_num, Nat.le_trans hRz hbn.size, by rw [HT.out]; exact ho5, hot.keep fun q _ h2 => hbn.block q (by omega), hb.trans (hbn.mono (by omega))⟩
              case measure => first | (simp [intOf]; done) | (simp [intOf]; omega)
            · obtain rfl : d = x.length := by omega
              have hrl := HGL.out.2 a hal
              rw [List.take_of_length_le (by omega)] at ho
              obtain ⟨rs, h1, h3, hl⟩ := hot.parts
              rw [List.length_take] at hl
              have hrs : rs.length ≤ 1099511627776 := by have := HGL.out.1; omega
              obtain ⟨va, vc, rfl⟩ := h1.slice
              obtain ⟨ua, uc, hu⟩ := ho.slice
              rw [hrl] at hu
              subst hu
              have H3 := Lib.hid h3
              have HO := Lib.hid ho
              have HTK : Hid ((gT x (rowAt ms i)).take (a + 1) = (gT x (rowAt ms i)).take a ++ [rowAt (gT x (rowAt ms i)) a]) := take_snocT (by rw [HGL.out.1]; exact hal)
              clear hot hl h3 ho
              go_wp2_with (at_builtin; refine wpl_app Try.underlying22 info_row rfl (by omega) rfl _ _ rfl w6.heap.size _ _ rfl (h1.alloc _) _ _ _ rfl (World.cell?_alloc_at _ _ _ _ rfl) rfl hrs (by simp; omega) ?_; intro v' w5 hv hgr)
              have hp := OT.push h1 H3.out (by omega) hS1 (HO.out.mono (by omega)) hv hgr
              rw [← HTK.out] at hp
              go_roundw
              case rel => exact ⟨a + 1, _, by omega, by go_num, by have := hp.1; have := hb.size; have := hp.2.size; omega, Nat.le_refl _, hp.1, hb.trans hp.2⟩
              case measure => first | (simp [intOf]; done) | (simp [intOf]; omega)
        · obtain rfl : a = x.length := by omega
          have hgl' := HGL.out.1
          rw [List.take_of_length_le (by omega)] at ho
          have hwr := HST.out.later hb
          obtain ⟨ts, t1, t2, tpush⟩ := HST.out.o.parts (Nat.le_refl _)
          have t1r := t1.later hb
          obtain ⟨ta, tc, rfl⟩ := t1.slice
          obtain ⟨ua, uc, hu⟩ := ho.slice
          rw [hgl'] at hu
          subst hu
          have htl : ts.length ≤ 1099511627776 := by rw [t2, tabs_len, List.length_take]; omega
          have TP := Lib.hid tpush
          have HO := Lib.hid (ho.mono hS2)
          have c4 := hwr.ch.c4
          have f4 := hwr.fx 4
          have hXS : X + 1 ≤ (wr.alloc (.cells #[.slice ua x.length uc] 22)).heap.size := by have := hwr.ch.lt; simp; omega
          clear hwr t1 t2 tpush ho hgl'
          go_upto_region 17 with (at_builtin; refine wpl_appL Try.underlying54 info_tab rfl (by omega) rfl _ _ rfl (X + 1) _ _ rfl (t1r.alloc _) _ _ _ rfl (World.cell?_alloc_at _ _ _ _ rfl) rfl htl hXS ?_; intro v' w8 hv hgr hL; obtain ⟨va, vc, hv'⟩ := hv.slice; rw [List.length_append, List.length_singleton] at hv'; subst hv'; have HP := Lib.hid (HST.out.tab (TP.out wr _ _ _ _ _ w8 hb (Nat.le_refl _) hb.size (Nat.le_refl _) HO.out (fun q hq => (HST.out.pl.lt q hq).2) hv hgr hL HST.out.ch.lt) hb t1r hgr); have d4 := HP.out.1.c4; have g4 := HP.out.2.1)
          have HS9 := Lib.hid HP.out.2.2
          clear d4 g4 HP hv hgr hL t1r TP HO c4 f4 hXS
          rw [← tabs_take hlt] at HS9
          generalize w8.setCell ⟨X, 4, none⟩ (.slice va (ts.length + 1) vc) = w9 at *
          have c5 := HS9.out.ch.c5
          have P9 := HS9.out.pl
          have hz9 : X + 1 ≤ (w9.alloc (.cells #[.int .i64 i] 2)).heap.size := by have := HS9.out.ch.lt; simp; omega
          obtain ⟨pa, pc, hpv⟩ := P9.slice
          rw [idx_len] at hpv
          subst hpv
          have hil : ((idx i).map (Value.int .i64)).length ≤ 1099511627776 := by rw [List.length_map, idx_len]; omega
          have HP9 := Lib.hid P9
          clear P9 HST HFA
          go_wp2_with (at_builtin; refine wpl_appL Try.underlying26 info_i64 rfl (by omega) rfl _ _ rfl (X + 1) _ _ rfl (OV.alloc HP9.out _) _ _ _ rfl (World.cell?_alloc_at _ _ _ _ rfl) rfl hil hz9 ?_; intro v' w10 hv hgr hL; have HPL := Lib.hid (HS9.out.plc (z := i) (by unfold OI OK; rw [List.map_append]; exact hv) hgr hL); have d5 := HPL.out.1.c5; have f5 := HPL.out.2.1; obtain ⟨qa, qc, hq'⟩ := hv.slice; rw [List.length_append, List.length_map, idx_len, List.length_singleton] at hq'; subst hq')
          have HS11 := Lib.hid HPL.out.2.2
          rw [← idx_succ] at HS11
          go_roundw
          case rel => exact ⟨i + 1, _, _, by omega, by go_num, HS11.out⟩
          case measure => first | (simp [intOf]; done) | (simp [intOf]; omega)
    · obtain rfl : i = ms.length := by omega
      rw [List.take_of_length_le (Nat.le_refl _)] at hst
      obtain ⟨ta, tc, rfl⟩ := hst.o.slice
      obtain ⟨pa, pc, hpv⟩ := hst.pl.slice
      subst hpv
      have hrX := hst.rX
      have hnX : ¬ X = w.heap.size := by omega
      have c0 := hst.ch.c0
      have c1 := hst.ch.c1
      have c2 := hst.ch.c2
      have c3 := hst.ch.c3
      have c4 := hst.ch.c4
      have c5 := hst.ch.c5
      have k0 := (hst.cr).ch.c0
      have k1 := (hst.cr).ch.c1
      have k2 := (hst.cr).ch.c2
      have k3 := (hst.cr).ch.c3
      have k4 := (hst.cr).ch.c4
      have k5 := (hst.cr).ch.c5
      have g0 := (hst.cr).fz 0
      have g1 := (hst.cr).fz 1
      have g2 := (hst.cr).fz 2
      have g3 := (hst.cr).fz 3
      have g4 := (hst.cr).fz 4
      have g5 := (hst.cr).fz 5
      have HE : Hid (∀ a0 a1 a2 a3 a4 a5, LcPost x ms n0 k w (.returned (.agg #[.int .i64 x.length, .int .i64 x.length, .int .i64 n0, .int .i64 k, .slice ta (tabs x ms).length tc, .slice pa (idx ms.length).length pc])) ((((((wr.setCell ⟨w.heap.size, 0, none⟩ a0).setCell ⟨w.heap.size, 1, none⟩ a1).setCell ⟨w.heap.size, 2, none⟩ a2).setCell ⟨w.heap.size, 3, none⟩ a3).setCell ⟨w.heap.size, 4, none⟩ a4).setCell ⟨w.heap.size, 5, none⟩ a5)) := fun a0 a1 a2 a3 a4 a5 => by
        obtain ⟨tv, pv, h1, h2, h3, h4⟩ := gcRes hst a0 a1 a2 a3 a4 a5
        simp only [Ending.returned.injEq, Value.tuple.injEq, Array.mk.injEq, List.cons.injEq, Value.agg.injEq, Value.bool.injEq, and_true, true_and] at h1
        obtain ⟨rfl, rfl⟩ := h1
        exact ⟨_, _, rfl, h2, h3, h4⟩
      clear hst
      go_wp2_with fail
      exact bodyPost_ret (v := .agg #[.int .i64 x.length, .int .i64 x.length, .int .i64 n0, .int .i64 k, .slice ta (tabs x ms).length tc, .slice pa (idx ms.length).length pc]) (by simp [results, Try.results81, go_sem, k0, k1, k2, k3, k4, k5]) rfl (HE.out _ _ _ _ _ _)
end Go.Proofs.Ytghmpaegmicheaa
