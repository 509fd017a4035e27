/- FnRenamed: the law. -/
import Derived.Test.YthcnhkjiojeemaaDoorRnT
import Derived.Test.YthcnhkjiojeemaaDoorRnK
import Derived.Test.YthcnhkjiojeemaaDoorRt
import Derived.Test.YthcnhkjiojeemaaDoorApps
import Derived.Test.YthcnhkjiojeemaaDoorR8
namespace Go.Proofs.YthcnhkjiojeemaaDoor
open Go.RowKit

theorem inv_of {n : Nat} {xs ys : List Int} (h : Inv n xs ys) : ys.Perm (upN n) := h.perm
theorem qgR {n : Nat} {t : Nat → Nat → Int} (hn : 1 ≤ n ∧ n ≤ 36) (q : Qg n t) (v : Value) (w : World) (h : RT w v (mkT n t)) :
    Calls Tryd.prog 17 #[v] w fun e w' => e = .returned (.bool true) ∧ Below w.heap.size w w' := by
  have := implQg_any v (mkT n t) w h (by rw [mkT_len]; omega) (fun j hj => by rw [mkT_len] at hj; rw [mkT_rowlen n t j hj]; omega)
  rw [qgB_mk.2 ⟨hn, q⟩] at this; exact this
theorem ttR {n : Nat} {t : Nat → Nat → Int} (hn : 1 ≤ n ∧ n ≤ 36) (q : Qg n t) (v : Value) (w : World) (h : RT w v (mkT n t)) :
    Calls Tryd.prog 16 #[v] w fun e w' => e = .returned (.tuple #[.string (txT (mkT n t) n), .bool true]) ∧ Below w.heap.size w w' := by
  have := implTt_any (mkT n t) v w h (qgB_mk.2 ⟨hn, q⟩)
  rw [mkT_len] at this; exact this
theorem mkT_cells {n : Nat} {t : Nat → Nat → Int} (hn : 1 ≤ n ∧ n ≤ 36) (q : Qg n t) : ∀ r ∈ mkT n t, ∀ z ∈ r, 0 ≤ z ∧ z ≤ 35 := fun r hr z hz => by
  obtain ⟨i, hi, rfl⟩ := List.mem_iff_getElem.1 hr
  have hi' := hi
  rw [mkT_len] at hi'
  have e : rowAt (mkT n t) i = (mkT n t)[i] := rowAt_lt hi
  rw [← e] at hz
  obtain ⟨j, hj, rfl⟩ := List.mem_iff_getElem.1 hz
  have hj' := hj
  rw [mkT_rowlen n t i hi'] at hj'
  have := q.bd i j hi' hj'
  have e2 := mkT_get n t i j hi' hj'
  rw [getD_eq hj] at e2
  omega
theorem rtR {n : Nat} {t : Nat → Nat → Int} (hn : 1 ≤ n ∧ n ≤ 36) (q : Qg n t) (w : World) (hM : ∃ m, w.cell? ⟨0, 0, none⟩ = some (.int .i64 m)) :
    Calls Tryd.prog 6 #[.string (txT (mkT n t) n)] w fun e w' => ∃ v, e = .returned (.tuple #[v, .bool true]) ∧ RT w' v (mkT n t) ∧ Below w.heap.size w w' := by
  have hl := mkT_len n t
  have hs := txT_len (mkT n t) (k := n) (by omega) (fun i hi => by rw [hl] at hi; rw [mkT_rowlen n t i hi]; omega)
  have hr : rdT (txT (mkT n t) n) = mkT n t := by
    have := rdT_txT (mkT n t) (by intro e; rw [e] at hl; simp at hl; omega) (mkT_cells hn q)
    rw [hl] at this; exact this
  have hq : qgB (mkT n t) = true := qgB_mk.2 ⟨hn, q⟩
  refine (implRt_any (txT (mkT n t) n) w (by omega) hM).mono ?_
  rintro e w' ⟨v, rfl, ho, hb⟩
  have hx : rtX (txT (mkT n t) n) = mkT n t := by unfold rtX; rw [hr, hq]; rfl
  rw [hx] at ho
  exact ⟨v, by rw [hr, hq], ho.read, hb⟩
theorem tbR {n : Nat} {t : Nat → Nat → Int} (hn : 1 ≤ n ∧ n ≤ 36) (u v : Value) (w : World) (hu : RT w u (mkT n t)) (hv : RT w v (mkT n t)) :
    Calls Tryd.prog 18 #[u, v] w fun e w' => e = .returned (.bool true) ∧ Drw w w' :=
  r8TablesY_any u v (mkT n t) w hu hv (by rw [mkT_len]; omega) (fun j hj => by rw [mkT_len] at hj; rw [mkT_rowlen n t j hj]; omega)
set_option maxRecDepth 100000 in
set_option maxHeartbeats 8000000 in
theorem lawRenamed_any (v0 v1 : Value) (xs ys : List Int) (w : World) (hx : RK .u8 w v0 xs ∧ (∀ x ∈ xs, (Lit.int .u8 x).wf = true) ∧ xs.length ≤ maxLen)
    (hy : RK .u8 w v1 ys ∧ (∀ x ∈ ys, (Lit.int .u8 x).wf = true) ∧ ys.length ≤ maxLen) (hM : ∃ m, w.cell? ⟨0, 0, none⟩ = some (.int .i64 m)) :
    Calls Tryd.prog 4 #[v0, v1] w fun x w' => x = .returned (.bool true) ∧ Below w.heap.size w w' := by
  have HM : Hid (∀ wx, Below w.heap.size w wx → ∃ m, wx.cell? ⟨0, 0, none⟩ = some (.int .i64 m)) := fun wx h => by
    obtain ⟨m, hm⟩ := hM
    exact ⟨m, (h.cell (p := ⟨0, 0, none⟩) (World.block_lt_of_cell? w _ hm)).trans hm⟩
  clear hM
  obtain ⟨hx, hxw, _⟩ := hx
  obtain ⟨hy, hyw, _⟩ := hy
  obtain ⟨a, c, rfl⟩ := hx.slice
  obtain ⟨b, d, rfl⟩ := hy.slice
  cases hs : long8 xs.length ys.length
  case true =>
    have HS := Lib.hid hs
    clear hx hy hs
    go_enter Tryd.func4, Tryd.ntmps4
    go_wp2_with fail
    refine (r8Long_any _ _ _ _ _ _ _).mono ?_
    rintro e w' ⟨rfl, rfl⟩
    rw [HS.out]
    go_wp2_with fail
    go_ret
    exact ⟨rfl, Below.refl _ _⟩
  have hm48 : xs.length ≤ 48 ∧ ys.length ≤ 48 := by unfold long8 at hs; simp at hs; omega
  obtain ⟨hxm, hym⟩ := hm48
  have HS := Lib.hid hs
  clear hs
  have hb := Below.refl w.heap.size w
  have HX : Hid (∀ wr, Below w.heap.size w wr → RK .u8 wr (.slice a xs.length c) xs) := fun wr h => hx.later h
  have HY : Hid (∀ wr, Below w.heap.size w wr → RK .u8 wr (.slice b ys.length d) ys) := fun wr h => hy.later h
  clear hx hy
  go_enter Tryd.func4, Tryd.ntmps4
  go_wp2_with fail
  refine (r8Long_any _ _ _ _ _ _ _).mono ?_
  rintro e w' ⟨rfl, rfl⟩
  rw [HS.out]
  go_wp2_with fail
  refine (r8Table_any _ xs _ (HX.out _ hb) hxw (by omega)).mono ?_
  rintro e w1 ⟨n, tv, t, rfl, hn, ht, hq, hb1⟩
  replace hb := hb.trans (hb1.mono hb.size)
  clear hb1
  have hn36 : 1 ≤ n ∧ n ≤ 36 := ⟨hn.1, by omega⟩
  obtain ⟨ta, tc, rfl⟩ := ht.slice
  rw [mkT_len] at ht ⊢
  have HT : Hid (∀ wr, Below w1.heap.size w1 wr → RT wr (.slice ta n tc) (mkT n t)) := fun wr h => ht.later h
  have HB1 := Lib.hid hb
  clear ht hb
  have hb := Below.refl w1.heap.size w1
  go_wp2_with fail
  refine (r8Order_any _ ys n _ (HY.out _ HB1.out) hyw (by omega) hn36).mono ?_
  rintro e w2 ⟨rv, rs, rfl, hrs, pr, hb1⟩
  replace hb := hb.trans (hb1.mono hb.size)
  clear hb1
  have HR : Hid (∀ wr, Below w2.heap.size w2 wr → RI wr rv rs) := fun wr h => hrs.read.later h
  obtain ⟨ra, rc, rfl⟩ := hrs.read.slice
  have HB2 := Lib.hid hb
  clear hrs hb
  have hb := Below.refl w2.heap.size w2
  have HBw : Hid (∀ wr, Below w2.heap.size w2 wr → Below w1.heap.size w1 wr ∧ Below w.heap.size w wr) := fun wr h => by
    have h1 := HB2.out.trans (h.mono HB2.out.size)
    exact ⟨h1, HB1.out.trans (h1.mono HB1.out.size)⟩
  go_wp2_with fail
  refine (r8Order_any _ xs n _ (HX.out _ (HBw.out _ hb).2) hxw (by omega) hn36).mono ?_
  rintro e w3 ⟨cv, cs, rfl, hcs, pc, hb1⟩
  replace hb := hb.trans (hb1.mono hb.size)
  clear hb1
  obtain ⟨ca, cc, rfl⟩ := hcs.read.slice
  have HC : Hid (∀ wr, Below w3.heap.size w3 wr → RI wr (.slice ca cs.length cc) cs ∧ Below w2.heap.size w2 wr) := fun wr h => ⟨hcs.read.later h, hb.trans (h.mono hb.size)⟩
  clear hcs hb
  have hb := Below.refl w3.heap.size w3
  have hb1 : Below w3.heap.size w3 (w3.alloc (.cells #[.int .u8 7] 5)) := (Below.refl _ _).alloc (Nat.le_refl _) _
  have ho : OB w3.heap.size (w3.alloc (.cells #[.int .u8 7] 5)) (.slice (some ⟨w3.heap.size, 0, none⟩) 1 1) [7] := OV.lit _ _ [.int .u8 7] (Nat.le_refl _) (by simp [maxLen])
  have hxr := HY.out _ (HBw.out _ (HC.out _ hb1).2).2
  have hu1 : ∀ u ∈ ys.map (Value.int .u8), u.oneCell' = true := fun u hu => by obtain ⟨z, _, rfl⟩ := List.mem_map.1 hu; rfl
  have HOW : Hid (∀ v' w', OV 5 w3.heap.size w' v' ([7].map (Value.int .u8) ++ ys.map (Value.int .u8)) → (w3.alloc (.cells #[.int .u8 7] 5)).grownBy w' (Value.slice (some ⟨w3.heap.size, 0, none⟩) 1 1).ownBlock → RK .u8 w' v' (7 :: ys) ∧ Below w3.heap.size w3 w') := fun v' w' hv hg => by
    refine ⟨?_, own_below hb1 ho hg (by simp)⟩
    have := OV.read hv
    rw [← List.map_append] at this
    exact this
  go_wp2_with (at_builtin; refine wpl_apps Tryd.underlying28 info_u8 rfl (by omega) rfl _ _ rfl w3.heap.size _ _ rfl ho _ _ rfl hxr hu1 (by simp; omega) (by simp) ?_; intro v' w4 ho3 hgr)
  obtain ⟨hx3, hb2⟩ := HOW.out _ _ ho3 hgr
  clear hb1
  have hb1 := hb2
  replace hb := hb.trans (hb1.mono hb.size)
  clear ho hxr hu1 HOW ho3 hgr hb2 hb1
  obtain ⟨qa, qc, rfl⟩ := hx3.slice
  try go_wp2_with fail
  refine (r8Order_any _ (7 :: ys) n _ hx3 (fun x hx => by rcases List.mem_cons.1 hx with rfl | h; rfl; exact hyw x h) (by simp; omega) hn36).mono ?_
  rintro e w5 ⟨vv, vs, rfl, hvs, pv, hb1⟩
  replace hb := hb.trans (hb1.mono hb.size)
  clear hb1 hx3
  obtain ⟨va, vc, rfl⟩ := hvs.read.slice
  have HV : Hid (∀ wr, Below w5.heap.size w5 wr → RI wr (.slice va vs.length vc) vs ∧ Below w3.heap.size w3 wr) := fun wr h => ⟨hvs.read.later h, hb.trans (h.mono hb.size)⟩
  clear hvs hb HX HY hxw hyw
  have HA : Hid (∀ wr, Below w5.heap.size w5 wr → RT wr (.slice ta n tc) (mkT n t) ∧ RI wr (.slice ra rs.length rc) rs ∧ RI wr (.slice ca cs.length cc) cs ∧ RI wr (.slice va vs.length vc) vs ∧ Below w.heap.size w wr ∧ ∃ m, wr.cell? ⟨0, 0, none⟩ = some (.int .i64 m)) := fun wr h => by
    obtain ⟨h1, h2⟩ := HV.out wr h
    obtain ⟨h3, h4⟩ := HC.out wr h2
    obtain ⟨h5, h6⟩ := HBw.out wr h4
    exact ⟨HT.out wr h5, HR.out wr h4, h3, h1, h6, HM.out wr h6⟩
  clear HM HT HR HC HV HB1 HB2 HBw
  have hb := Below.refl w5.heap.size w5
  go_wp2_with fail
  refine (implRn_any n hn36 t _ _ (HA.out _ hb).1 hq _ _ _ rs cs vs (HA.out _ hb).2.1 (HA.out _ hb).2.2.1 (HA.out _ hb).2.2.2.1 pr pc pv).mono ?_
  rintro e w6 ⟨uv, u, rfl, hu, hren, hb1⟩
  replace hb := hb.trans (hb1.mono hb.size)
  clear hb1
  have hqu := ren_qg pr pc pv hren hq
  obtain ⟨ua, uc, rfl⟩ := hu.slice
  rw [mkT_len] at hu
  simp only [mkT_len]
  have HU : Hid (∀ wr, Below w6.heap.size w6 wr → RT wr (.slice ua n uc) (mkT n u) ∧ Below w5.heap.size w5 wr) := fun wr h => ⟨hu.later h, hb.trans (h.mono hb.size)⟩
  clear hu hb
  have hb := Below.refl w6.heap.size w6
  go_wp2_with fail
  refine (r8Inverse_any n hn36.2 _ rs _ (HA.out _ (HU.out _ hb).2).2.1 pr).mono ?_
  rintro e w7 ⟨riv, ri, rfl, hri, ir, hb1⟩
  have hbA := hb1
  replace hb := hb.trans (hb1.mono hb.size)
  clear hb1 hbA
  obtain ⟨ria, ric, rfl⟩ := hri.read.slice
  go_wp2_with fail
  refine (r8Inverse_any n hn36.2 _ cs _ (HA.out _ (HU.out _ hb).2).2.2.1 pc).mono ?_
  rintro e w8 ⟨civ, ci, rfl, hci, ic, hb1⟩
  have hri8 := hri.read.later hb1
  replace hb := hb.trans (hb1.mono hb.size)
  clear hb1 hri
  obtain ⟨cia, cic, rfl⟩ := hci.read.slice
  go_wp2_with fail
  refine (r8Inverse_any n hn36.2 _ vs _ (HA.out _ (HU.out _ hb).2).2.2.2.1 pv).mono ?_
  rintro e w9 ⟨viv, vi, rfl, hvi, iv, hb1⟩
  have hri9 := hri8.later hb1
  have hci9 := hci.read.later hb1
  replace hb := hb.trans (hb1.mono hb.size)
  clear hb1 hri8 hci
  obtain ⟨via, vic, rfl⟩ := hvi.read.slice
  go_wp2_with fail
  refine (implRn_any n hn36 u _ _ (HU.out _ hb).1 hqu _ _ _ ri ci vi hri9 hci9 hvi.read ir.perm ic.perm iv.perm).mono ?_
  rintro e w10 ⟨vvv, v, rfl, hv, hren2, hb1⟩
  replace hb := hb.trans (hb1.mono hb.size)
  clear hb1 hri9 hci9 hvi
  have hvt : mkT n v = mkT n t := mkT_congr fun i j hi hj => ren_back pr pc pv ir ic iv hq hren hren2 i j hi hj
  rw [hvt] at hv
  clear hvt hren hren2 ir ic iv
  obtain ⟨vta, vtc, rfl⟩ := hv.slice
  rw [mkT_len] at hv
  simp only [mkT_len]
  have HW : Hid (∀ wr, Below w10.heap.size w10 wr → RT wr (.slice vta n vtc) (mkT n t) ∧ Below w6.heap.size w6 wr) := fun wr h => ⟨hv.later h, hb.trans (h.mono hb.size)⟩
  clear hv hb
  have HD : Hid (∀ wr, Below w10.heap.size w10 wr → RT wr (.slice ta n tc) (mkT n t) ∧ RT wr (.slice ua n uc) (mkT n u) ∧ RT wr (.slice vta n vtc) (mkT n t) ∧ Below w.heap.size w wr ∧ ∃ m, wr.cell? ⟨0, 0, none⟩ = some (.int .i64 m)) := fun wr h => by
    obtain ⟨h1, h2⟩ := HW.out wr h
    obtain ⟨h3, h4⟩ := HU.out wr h2
    obtain ⟨h5, _, _, _, h6, h7⟩ := HA.out wr h4
    exact ⟨h5, h3, h1, h6, h7⟩
  clear HW HU HA pr pc pv
  have hb := Below.refl w10.heap.size w10
  go_wp2_with fail
  refine (implZd_any n hn36 t _ _ (HD.out _ hb).1 hq).mono ?_
  rintro e w11 ⟨wv, z, rfl, Z, hw, hb1⟩
  replace hb := hb.trans (hb1.mono hb.size)
  clear hb1
  have hqw := Z.qg hq
  obtain ⟨wa, wc, rfl⟩ := hw.slice
  rw [mkT_len] at hw
  simp only [mkT_len]
  have HE : Hid (∀ wr, Below w11.heap.size w11 wr → RT wr (.slice wa n wc) (mkT n (fun x y => t x (z y))) ∧ Below w10.heap.size w10 wr) := fun wr h => ⟨hw.later h, hb.trans (h.mono hb.size)⟩
  clear hw hb
  have hb := Below.refl w11.heap.size w11
  go_wp2_with fail
  refine (ttR hn36 hq _ _ (HD.out _ (HE.out _ hb).2).1).mono ?_
  rintro e w12 ⟨rfl, hb1⟩
  replace hb := hb.trans (hb1.mono hb.size)
  clear hb1
  have HTX : Hid (∀ wx, (∃ m, wx.cell? ⟨0, 0, none⟩ = some (.int .i64 m)) → Calls Tryd.prog 6 #[.string (txT (mkT n t) n)] wx fun e w' => ∃ v, e = .returned (.tuple #[v, .bool true]) ∧ RT w' v (mkT n t) ∧ Below wx.heap.size wx w') := fun wx h => rtR hn36 hq wx h
  generalize txT (mkT n t) n = tx at *
  go_wp2_with fail
  refine (HTX.out _ (HD.out _ (HE.out _ hb).2).2.2.2.2).mono ?_
  rintro e w13 ⟨bv, rfl, hbk, hb1⟩
  replace hb := hb.trans (hb1.mono hb.size)
  clear hb1 HTX
  obtain ⟨ba, bc, rfl⟩ := hbk.slice
  rw [mkT_len] at hbk
  simp only [mkT_len]
  go_wp2_with fail
  refine (qgR hn36 hqu _ _ (HD.out _ (HE.out _ hb).2).2.1).mono ?_
  rintro e w14 ⟨rfl, hb1⟩
  replace hbk := hbk.later hb1
  replace hb := hb.trans (hb1.mono hb.size)
  clear hb1
  go_wp2_with fail
  refine (tbR hn36 _ _ _ (HD.out _ (HE.out _ hb).2).2.2.1 (HD.out _ (HE.out _ hb).2).1).mono ?_
  rintro e w15 ⟨rfl, hd⟩
  have hb1 := hd.below
  replace hbk := hbk.later hb1
  replace hb := hb.trans (hb1.mono hb.size)
  clear hb1 hd
  go_wp2_with fail
  refine (qgR hn36 hqw _ _ (HE.out _ hb).1).mono ?_
  rintro e w16 ⟨rfl, hb1⟩
  replace hbk := hbk.later hb1
  replace hb := hb.trans (hb1.mono hb.size)
  clear hb1
  go_wp2_with fail
  refine (tbR hn36 _ _ _ hbk (HD.out _ (HE.out _ hb).2).1).mono ?_
  rintro e w17 ⟨rfl, hd⟩
  have hb1 := hd.below
  replace hb := hb.trans (hb1.mono hb.size)
  clear hb1 hd hbk
  go_wp2_with fail
  have hD := HD.out _ (HE.out _ hb).2
  obtain ⟨G, O, C, H, F, P, e1, hsq⟩ := hD.1.sqn (by rw [mkT_len]; exact hn.1) (fun i hi => by rw [mkT_len] at hi ⊢; exact mkT_rowlen n t i hi)
  rw [mkT_len] at e1
  obtain ⟨rfl, _, rfl⟩ := Value.slice.inj e1
  clear e1
  obtain ⟨G', O', C', H', F', P', e1, hsq'⟩ := (HE.out _ hb).1.sqn (by rw [mkT_len]; exact hn.1) (fun i hi => by rw [mkT_len] at hi ⊢; exact mkT_rowlen n _ i hi)
  rw [mkT_len] at e1
  obtain ⟨rfl, _, rfl⟩ := Value.slice.inj e1
  clear e1
  have hbw := hD.2.2.2.1
  clear hD HD HE hb HS
  have HSQ : Hid (∀ wr, Drw w17 wr → SqAt G O H F P (mkT n t) wr ∧ SqAt G' O' H' F' P' (mkT n (fun x y => t x (z y))) wr) := fun wr h => ⟨hsq.later h.below, hsq'.later h.below⟩
  have HC1 : Hid (∀ wr i, Drw w17 wr → i < n → wr.cell? ⟨G, O + i, none⟩ = some (.slice (some ⟨H i, F i, none⟩) n (P i)) ∧ wr.cell? ⟨G', O' + i, none⟩ = some (.slice (some ⟨H' i, F' i, none⟩) n (P' i))) := fun wr i h hi => by
    obtain ⟨h1, h2⟩ := HSQ.out wr h
    have e1 := h1.row i (by rw [mkT_len]; exact hi)
    have e2 := h2.row i (by rw [mkT_len]; exact hi)
    rw [mkT_len] at e1 e2
    exact ⟨e1, e2⟩
  have HC2 : Hid (∀ wr i j, Drw w17 wr → i < n → j < n → wr.cell? ⟨H i, F i + j, none⟩ = some (.int .i64 (t i j)) ∧ wr.cell? ⟨H' i, F' i + j, none⟩ = some (.int .i64 (t i (z j)))) := fun wr i j h hi hj => by
    obtain ⟨h1, h2⟩ := HSQ.out wr h
    have e1 := h1.cell i j (by rw [mkT_len]; exact hi) (by rw [mkT_len]; exact hj)
    have e2 := h2.cell i j (by rw [mkT_len]; exact hi) (by rw [mkT_len]; exact hj)
    rw [tb_mk hi hj] at e1 e2
    exact ⟨e1, e2⟩
  have HZ := Lib.hid Z
  have HBW := Lib.hid hbw
  clear hsq hsq' HSQ Z hbw hq hqu hqw
  go_loopw [20] (fun xv wr => ∃ x : Nat, x ≤ n ∧ xv = .int .i64 x ∧ Drw w17 wr) (fun xv _ => n - (intOf xv).toNat)
  case atStart => exact ⟨0, Nat.zero_le _, rfl, Drw.refl _⟩
  case round =>
    obtain ⟨x, hxn, rfl, hd⟩ := hrel
    by_cases hlt : x < n
    · have hzx := HZ.out.lt x hlt
      have hli : (x : Int) < (n : Int) := by omega
      obtain ⟨_, c1⟩ := HC1.out _ x hd hlt
      obtain ⟨_, c2⟩ := HC2.out _ x x hd hlt hlt
      rw [HZ.out.zero x hlt] at c2
      go_upto_region 22 with fail
      go_loopw [21, 22] (fun fv yv wx => ∃ (y : Nat) (b : Bool), y ≤ n ∧ yv = .int .i64 y ∧ fv = .bool b ∧ Hid (z x < y → b = true) ∧ Drw w17 wx) (fun _ yv _ => n - (intOf yv).toNat)
      case atStart => exact ⟨0, false, Nat.zero_le _, rfl, rfl, Lib.hid (fun h => by omega), hd⟩
      case round =>
        clear c1 c2
        obtain ⟨y, bf, hyn, rfl, rfl, HF, hd2⟩ := hrel
        by_cases hly : y < n
        · have hyi : (y : Int) < (n : Int) := by omega
          go_upto_region 26 with fail
          go_loopw [23, 24] (fun sv kv wx => ∃ (k : Nat) (b : Bool), k ≤ n ∧ kv = .int .i64 k ∧ sv = .bool b ∧ Hid (y = z x → b = true) ∧ Drw w17 wx) (fun _ kv _ => n - (intOf kv).toNat)
          case atStart => exact ⟨0, true, Nat.zero_le _, rfl, rfl, Lib.hid (fun _ => rfl), hd2⟩
          case round =>
            obtain ⟨k, b, hkn, rfl, rfl, HBB, hd3⟩ := hrel
            by_cases hlk : k < n
            · have hki : (k : Int) < (n : Int) := by omega
              obtain ⟨c1, c2⟩ := HC1.out _ k hd3 hlk
              obtain ⟨c3, _⟩ := HC2.out _ k y hd3 hlk hly
              obtain ⟨_, c4⟩ := HC2.out _ k x hd3 hlk hlt
              cases b
              · go_wp2_with fail
                go_quiet (fail)
                go_wp2_with fail
                go_roundw
                case rel => exact ⟨k + 1, false, by omega, by go_num, rfl, HBB, hd3.more _⟩
                case measure => first | (simp [intOf]; done) | (simp [intOf]; omega)
              · by_cases he : t k (z x) = t k y
                · rw [he] at c4
                  go_wp2_with fail
                  go_quiet (fail)
                  go_wp2_with fail
                  go_roundw
                  case rel => exact ⟨k + 1, true, by omega, by go_num, rfl, Lib.hid (fun _ => rfl), hd3.more _⟩
                  case measure => first | (simp [intOf]; done) | (simp [intOf]; omega)
                · have hb1 : (t k (z x) == t k y) = false := by rw [beq_eq_false_iff_ne]; exact he
                  have HN : Hid (y = z x → false = true) := fun e => absurd (by rw [e]) he
                  generalize t k (z x) = p1 at *
                  generalize t k y = p2 at *
                  go_wp2_with fail
                  go_quiet (fail)
                  go_wp2_with fail
                  go_roundw
                  case rel => exact ⟨k + 1, false, by omega, by go_num, rfl, HN, hd3.more _⟩
                  case measure => first | (simp [intOf]; done) | (simp [intOf]; omega)
            · obtain rfl : k = n := by omega
              cases bf
              · have HF2 : Hid (z x < y + 1 → b = true) := fun h => by
                  rcases Nat.lt_or_ge (z x) y with h1 | h1
                  · cases HF.out h1
                  · exact HBB.out (by omega)
                go_wp2_with fail
                go_roundw
                case rel => exact ⟨y + 1, b, by omega, by go_num, rfl, HF2, hd3⟩
                case measure => first | (simp [intOf]; done) | (simp [intOf]; omega)
              · go_wp2_with fail
                go_roundw
                case rel => exact ⟨y + 1, true, by omega, by go_num, rfl, Lib.hid (fun _ => rfl), hd3⟩
                case measure => first | (simp [intOf]; done) | (simp [intOf]; omega)
        · obtain rfl : y = n := by omega
          obtain rfl := HF.out hzx
          go_wp2_with fail
          go_roundw
          case rel => exact ⟨x + 1, by omega, by go_num, hd2⟩
          case measure => first | (simp [intOf]; done) | (simp [intOf]; omega)
    · obtain rfl : x = n := by omega
      go_wp2_with fail
      go_ret
      exact ⟨rfl, HBW.out.trans (hd.below.mono HBW.out.size)⟩
end Go.Proofs.YthcnhkjiojeemaaDoor
