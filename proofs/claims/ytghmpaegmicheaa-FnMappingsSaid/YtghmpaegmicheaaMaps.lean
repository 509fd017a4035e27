/- The law FnMappings: for every input. -/
import Derived.Test.YtghmpaegmicheaaGrpY
import Derived.Test.YtghmpaegmicheaaMapP
namespace Go.Proofs.Ytghmpaegmicheaa
open Go.RowKit

def LcY (cm : Bool) (x : List (List Int)) (b : Bool) (w : World) (e : Ending) (w' : World) : Prop := ∃ sa os sc, e = .returned (.tuple #[.slice sa os.length sc, .bool b]) ∧ OI w.heap.size w' (.slice sa os.length sc) os ∧ Hid (os.length ≤ 10 ∧ (b = true → aoB cm x os = true)) ∧ Below w.heap.size w w'
theorem lcI (v : Value) (x : List (List Int)) (b : Bool) (w : World) (hx : RT w v x) (hg : Hid (grpB x = true)) (hb : Hid ((lstO true x).isSome = b)) :
    Calls Try.prog 21 #[.agg #[v]] w (LcY true x b w) := by
  have G := Gp.of hg.out
  refine (implLC_any v x w hx G.small.1 G.small.2).mono ?_
  rintro e w' ⟨v', h1, h2, h3⟩
  have e1 : lstB true x = b := by unfold lstB; rw [hg.out, hb.out]; rfl
  rw [e1] at h1
  obtain ⟨sa, sc, rfl⟩ := h2.slice
  refine ⟨sa, _, sc, h1, h2, ?_, h3⟩
  have e2 : lstL true x = (lstO true x).getD [] := by unfold lstL; rw [if_pos hg.out]
  have hbb := hb.out
  rw [e2]
  cases hq : lstO true x with
  | none => exact ⟨by simp, fun h => by rw [hq] at hbb; rw [← hbb] at h; simp at h⟩
  | some r =>
    have hgd := lst_good hq
    refine ⟨?_, fun _ => good_ao hg.out hgd⟩
    have := hgd.1
    have := G.n
    simp only [Option.getD_some]; omega
theorem laI (v : Value) (x : List (List Int)) (b : Bool) (w : World) (hx : RT w v x) (hg : Hid (grpB x = true)) (hb : Hid ((lstO false x).isSome = b)) :
    Calls Try.prog 14 #[.agg #[v]] w (LcY false x b w) := by
  have G := Gp.of hg.out
  refine (implLA_any v x w hx G.small.1 G.small.2).mono ?_
  rintro e w' ⟨v', h1, h2, h3⟩
  have e1 : lstB false x = b := by unfold lstB; rw [hg.out, hb.out]; rfl
  rw [e1] at h1
  obtain ⟨sa, sc, rfl⟩ := h2.slice
  refine ⟨sa, _, sc, h1, h2, ?_, h3⟩
  have e2 : lstL false x = (lstO false x).getD [] := by unfold lstL; rw [if_pos hg.out]
  have hbb := hb.out
  rw [e2]
  cases hq : lstO false x with
  | none => exact ⟨by simp, fun h => by rw [hq] at hbb; rw [← hbb] at h; simp at h⟩
  | some r =>
    have hgd := lst_good hq
    refine ⟨?_, fun _ => good_ao hg.out hgd⟩
    have := hgd.1
    have := G.n
    simp only [Option.getD_some]; omega
theorem lcS (v : Value) (x : List (List Int)) (b : Bool) (w : World) (hx : RT w v x) (hg : Hid (grpB x = true)) (hb : Hid ((lstO true x).isSome = b)) :
    Calls Try.prog 20 #[.agg #[v]] w (LcY true x b w) := by
  have G := Gp.of hg.out
  refine (specLC_any v x w hx G.small.1 G.small.2).mono ?_
  rintro e w' ⟨v', h1, h2, h3⟩
  have e1 : lstB true x = b := by unfold lstB; rw [hg.out, hb.out]; rfl
  rw [e1] at h1
  obtain ⟨sa, sc, rfl⟩ := h2.slice
  refine ⟨sa, _, sc, h1, h2, ?_, h3⟩
  have e2 : lstL true x = (lstO true x).getD [] := by unfold lstL; rw [if_pos hg.out]
  have hbb := hb.out
  rw [e2]
  cases hq : lstO true x with
  | none => exact ⟨by simp, fun h => by rw [hq] at hbb; rw [← hbb] at h; simp at h⟩
  | some r =>
    have hgd := lst_good hq
    refine ⟨?_, fun _ => good_ao hg.out hgd⟩
    have := hgd.1
    have := G.n
    simp only [Option.getD_some]; omega
theorem laS (v : Value) (x : List (List Int)) (b : Bool) (w : World) (hx : RT w v x) (hg : Hid (grpB x = true)) (hb : Hid ((lstO false x).isSome = b)) :
    Calls Try.prog 12 #[.agg #[v]] w (LcY false x b w) := by
  have G := Gp.of hg.out
  refine (specLA_any v x w hx G.small.1 G.small.2).mono ?_
  rintro e w' ⟨v', h1, h2, h3⟩
  have e1 : lstB false x = b := by unfold lstB; rw [hg.out, hb.out]; rfl
  rw [e1] at h1
  obtain ⟨sa, sc, rfl⟩ := h2.slice
  refine ⟨sa, _, sc, h1, h2, ?_, h3⟩
  have e2 : lstL false x = (lstO false x).getD [] := by unfold lstL; rw [if_pos hg.out]
  have hbb := hb.out
  rw [e2]
  cases hq : lstO false x with
  | none => exact ⟨by simp, fun h => by rw [hq] at hbb; rw [← hbb] at h; simp at h⟩
  | some r =>
    have hgd := lst_good hq
    refine ⟨?_, fun _ => good_ao hg.out hgd⟩
    have := hgd.1
    have := G.n
    simp only [Option.getD_some]; omega
theorem cmpY (v ov : Value) (x : List (List Int)) (o : List Int) (b : Bool) (w : World) (hx : RT w v x) (hg : Hid (grpB x = true)) (hov : RI w ov o) (hmo : o.length ≤ 1048576) (hb : Hid (aoB true x o = b)) :
    Calls Try.prog 24 #[.agg #[v], ov] w fun e w' => e = .returned (.bool b) ∧ Below w.heap.size w w' := by
  have G := Gp.of hg.out
  have := implCmp_any v ov x o w hx G.small.1 G.small.2 hov hmo
  rw [hb.out] at this; exact this
theorem antY (v ov : Value) (x : List (List Int)) (o : List Int) (b : Bool) (w : World) (hx : RT w v x) (hg : Hid (grpB x = true)) (hov : RI w ov o) (hmo : o.length ≤ 1048576) (hb : Hid (aoB false x o = b)) :
    Calls Try.prog 25 #[.agg #[v], ov] w fun e w' => e = .returned (.bool b) ∧ Below w.heap.size w w' := by
  have G := Gp.of hg.out
  have := implAnt_any v ov x o w hx G.small.1 G.small.2 hov hmo
  rw [hb.out] at this; exact this
/-- No element before j fits badly to k. -/
def nft (cm : Bool) (x : List (List Int)) (o : List Int) (k j : Nat) : Bool := allN j fun a => !fitEq cm x o a k
/-- What the loops know: all rows below k, and row k below j. -/
def lp (cm : Bool) (x : List (List Int)) (o : List Int) (k j : Nat) : Bool := allN k (fitK cm x o) && nft cm x o k j
theorem lp_zero (cm : Bool) (x : List (List Int)) (o : List Int) (k : Nat) : lp cm x o k 0 = allN k (fitK cm x o) := by unfold lp nft; rw [allN_zero]; simp
theorem lp_end (cm : Bool) (x : List (List Int)) (o : List Int) (k : Nat) : lp cm x o k k = allN (k + 1) (fitK cm x o) := by unfold lp nft; rw [allN_succ]; rfl
theorem lp_succ (cm : Bool) (x : List (List Int)) (o : List Int) (k j : Nat) : lp cm x o k (j + 1) = (lp cm x o k j && !fitEq cm x o j k) := by unfold lp nft; rw [allN_succ, Bool.and_assoc]
set_option maxHeartbeats 4000000 in
set_option maxRecDepth 100000 in
theorem lawMaps_any (v0 v1 : Value) (xs ys : List Int) (w : World) (hx : RK .u8 w v0 xs ∧ (∀ x ∈ xs, (Lit.int .u8 x).wf = true) ∧ xs.length ≤ maxLen)
    (hy : RK .u8 w v1 ys ∧ (∀ x ∈ ys, (Lit.int .u8 x).wf = true) ∧ ys.length ≤ maxLen) :
    Calls Try.prog 5 #[v0, v1] w fun x w' => x = .returned (.bool true) ∧ Below w.heap.size w w' := by
  obtain ⟨hx, hxw, _⟩ := hx
  obtain ⟨hy, hyw, _⟩ := hy
  obtain ⟨a, c, rfl⟩ := hx.slice
  obtain ⟨b, d, rfl⟩ := hy.slice
  cases hs : longB xs.length ys.length
  case true =>
    have HS := Lib.hid hs
    clear hx hy hs
    go_enter Try.func5, Try.ntmps5
    go_wp2_with fail
    refine (b10Long_any _ _ _ _ _ _ _).mono ?_
    rintro e w' ⟨rfl, rfl⟩
    rw [HS.out]
    go_wp2_with fail
    go_ret
    exact ⟨rfl, Below.refl _ _⟩
  obtain ⟨hxm, hym⟩ := longB_no hs
  have HS := Lib.hid hs
  clear hs
  go_enter Try.func5, Try.ntmps5
  go_wp2_with fail
  refine (b10Long_any _ _ _ _ _ _ _).mono ?_
  rintro e w' ⟨rfl, rfl⟩
  rw [HS.out]
  go_wp2_with fail
  refine (b10Group_any _ xs _ hx hxw hxm).mono ?_
  rintro e w1 ⟨ua, x, uc, rfl, ho, hg, hb⟩
  have HG := Lib.hid hg
  clear hg hx hxw hxm HS
  go_wp2_with fail
  have hb1 : Below w1.heap.size w1 (w1.alloc (.cells #[.slice ua x.length uc] 29)) := (Below.refl _ _).alloc (Nat.le_refl _) _
  have g0 := GB.box ho 29
  replace hb := hb.trans (hb1.mono hb.size)
  clear hb1
  generalize w1.alloc (.cells #[.slice ua x.length uc] 29) = w2 at *
  generalize w1.heap.size = p at *
  clear ho
  have HR : Hid (∀ wr, Below w2.heap.size w2 wr → GB p ua uc x wr) := fun wr h => g0.later h
  have HY : Hid (∀ wr, Below w2.heap.size w2 wr → RK .u8 wr (.slice b ys.length d) ys) := fun wr h => hy.later (hb.trans (h.mono hb.size))
  have HB0 := Lib.hid hb
  have G := Lib.hid (Gp.of HG.out)
  have hn := G.out.n
  replace hb := Below.refl w2.heap.size w2
  have hzw : w.heap.size ≤ w2.heap.size := HB0.out.size
  clear g0 hy
  obtain ⟨b1, hb1e⟩ : ∃ b, (lstO true x).isSome = b := ⟨_, rfl⟩
  obtain ⟨b2, hb2e⟩ : ∃ b, (lstO false x).isSome = b := ⟨_, rfl⟩
  have HBO : Hid (comB x = true → b1 = b2) := fun h => by rw [← hb1e, ← hb2e]; exact both h
  have HE1 := Lib.hid hb1e
  have HE2 := Lib.hid hb2e
  clear hb1e hb2e
  have q := HR.out _ hb
  refine (lcI _ x b1 _ q.r HG HE1).mono ?_
  rintro e w3 ⟨la, ls, lc, rfl, ol, HL, hb1⟩
  replace hb := hb.trans (hb1.mono hb.size)
  clear hb1
  replace q := HR.out _ hb
  have c0 := q.c
  go_wp2_with fail
  clear c0
  refine (laI _ x b2 _ q.r HG HE2).mono ?_
  rintro e w4 ⟨ma, ms, mc, rfl, om, HM, hb1⟩
  replace ol := ol.later hb1
  replace hb := hb.trans (hb1.mono hb.size)
  clear hb1
  replace q := HR.out _ hb
  have c0 := q.c
  go_wp2_with fail
  clear c0
  refine (lcS _ x b1 _ q.r HG HE1).mono ?_
  rintro e w5 ⟨ka, ks, kc, rfl, _, _, hb1⟩
  replace ol := ol.later hb1
  replace om := om.later hb1
  replace hb := hb.trans (hb1.mono hb.size)
  clear hb1
  replace q := HR.out _ hb
  have c0 := q.c
  go_wp2_with fail
  clear c0
  refine (laS _ x b2 _ q.r HG HE2).mono ?_
  rintro e w6 ⟨na, ns, nc, rfl, _, _, hb1⟩
  replace ol := ol.later hb1
  replace om := om.later hb1
  replace hb := hb.trans (hb1.mono hb.size)
  clear hb1
  clear HE1 HE2
  replace q := HR.out _ hb
  have c0 := q.c
  go_upto_region 8 with fail
  clear c0
  go_cut [70] (fun s wx => s = .bool false ∧ Below w2.heap.size w2 wx)
  case first =>
    have c0 := q.c
    cases b1 <;> cases b2
    case false.false =>
      go_wp2_with fail
      go_meet
      exact ⟨rfl, hb⟩
    case false.true =>
      go_wp2_with fail
      clear c0
      refine (antY _ _ x ms true _ q.r HG om.read (by have := HM.out.1; omega) (HM.out.2 (by first | rfl | trivial))).mono ?_
      rintro e w7 ⟨rfl, hb1⟩
      replace hb := hb.trans (hb1.mono hb.size)
      clear hb1
      go_wp2_with fail
      go_meet
      exact ⟨rfl, hb⟩
    case true.false =>
      go_wp2_with fail
      clear c0
      refine (cmpY _ _ x ls true _ q.r HG ol.read (by have := HL.out.1; omega) (HL.out.2 (by first | rfl | trivial))).mono ?_
      rintro e w7 ⟨rfl, hb1⟩
      replace hb := hb.trans (hb1.mono hb.size)
      clear hb1
      go_wp2_with fail
      go_meet
      exact ⟨rfl, hb⟩
    case true.true =>
      go_wp2_with fail
      clear c0
      refine (cmpY _ _ x ls true _ q.r HG ol.read (by have := HL.out.1; omega) (HL.out.2 (by first | rfl | trivial))).mono ?_
      rintro e w7 ⟨rfl, hb1⟩
      replace om := om.later hb1
      replace hb := hb.trans (hb1.mono hb.size)
      clear hb1
      replace q := HR.out _ hb
      have c0 := q.c
      go_wp2_with fail
      clear c0
      refine (antY _ _ x ms true _ q.r HG om.read (by have := HM.out.1; omega) (HM.out.2 (by first | rfl | trivial))).mono ?_
      rintro e w8 ⟨rfl, hb1⟩
      replace hb := hb.trans (hb1.mono hb.size)
      clear hb1
      go_wp2_with fail
      go_meet
      exact ⟨rfl, hb⟩
  case rest =>
    clear hb ol om HL HM q
    obtain ⟨rfl, hb⟩ := hcut
    have q := HR.out _ hb
    have c0 := q.c
    go_wp2_with fail
    clear c0
    refine (b10Order_any _ ys x.length _ (HY.out _ hb) hyw hym (by omega)).mono ?_
    rintro e w9 ⟨vo, o, rfl, oo, hpm, hb1⟩
    have hol := perm_len hpm
    obtain ⟨oa, oc, rfl⟩ := oo.slice
    rw [hol] at oo ⊢
    replace hb := hb.trans (hb1.mono hb.size)
    clear hb1
    have HOL := Lib.hid hol
    have HPM := Lib.hid hpm
    have q9 := HR.out _ hb
    have HB1 : Hid (Below w.heap.size w w9) := HB0.out.trans (hb.mono hzw)
    have hz9 : w.heap.size ≤ w9.heap.size := HB1.out.size
    have HALL : Hid (∀ wr, Below w9.heap.size w9 wr → GB p ua uc x wr ∧ RI wr (.slice oa x.length oc) o) := fun wr h => ⟨q9.later h, oo.read.later h⟩
    have HEL : Hid (Elems x.length o) := ordAt_elems (ordAt_perm hpm)
    have HN : Hid (∀ i, i < x.length → o.getD i 0 = (nt o i : Int) ∧ nt o i < x.length) := fun i hi => by
      obtain ⟨q, h1, h2, h3⟩ := HEL.out.nt i (by rw [HOL.out]; exact hi)
      rw [h3]; exact ⟨h2, h1⟩
    clear q q9 oo hb hol hpm HB0 hzw HR HY
    have hb := Below.refl w9.heap.size w9
    go_wp2_with fail
    go_loopw [16, 17, 18] (fun cv av iv wr => ∃ k : Nat, k ≤ x.length ∧ iv = .int .i64 k ∧ cv = .bool (allN k (fitK true x o)) ∧ av = .bool (allN k (fitK false x o)) ∧ Below w9.heap.size w9 wr) (fun _ _ iv _ => x.length - (intOf iv).toNat)
    case atStart => exact ⟨0, Nat.zero_le _, rfl, rfl, rfl, hb⟩
    case round =>
      clear hb
      obtain ⟨k, hk, rfl, rfl, rfl, hb⟩ := hrel
      by_cases hkl : k < x.length
      · go_wp2_with fail
        go_loopw [16, 17, 19] (fun cv av jv wr => ∃ j : Nat, j ≤ k ∧ jv = .int .i64 j ∧ cv = .bool (lp true x o k j) ∧ av = .bool (lp false x o k j) ∧ Below w9.heap.size w9 wr) (fun _ _ jv _ => k - (intOf jv).toNat)
        case atStart => exact ⟨0, Nat.zero_le _, rfl, by rw [lp_zero], by rw [lp_zero], hb⟩
        case round =>
          clear hb
          obtain ⟨j, hj, rfl, rfl, rfl, hb⟩ := hrel
          by_cases hjl : j < k
          · have hjx : j < x.length := by omega
            obtain ⟨qg, qo⟩ := HALL.out _ hb
            obtain ⟨ek, ek2⟩ := HN.out k hkl
            obtain ⟨ej, ej2⟩ := HN.out j hjx
            obtain ⟨g1, o1, z1, h1, f1, p1, hv, hsq⟩ := qg.r.sq G.out.sq
            simp only [Value.slice.injEq, true_and] at hv
            obtain ⟨rfl, rfl⟩ := hv
            have c0 := qg.c
            rw [← HOL.out] at qo
            obtain ⟨sg, so, rfl, _, hci⟩ := qo.at k (by rw [HOL.out]; exact hkl)
            obtain ⟨sg2, so2, e2, _, hcj⟩ := qo.at j (by rw [HOL.out]; exact hjx)
            simp only [Option.some.injEq, Addr.mk.injEq, and_true] at e2
            obtain ⟨rfl, rfl⟩ := e2
            rw [ek] at hci
            rw [ej] at hcj
            have r1 := hsq.row k hkl
            have r2 := hsq.row j hjx
            have s1 := hsq.cell k _ hkl ek2
            have s2 := hsq.cell j _ hjx ej2
            have s3 := hsq.cell k _ hkl ej2
            have s4 := hsq.cell j _ hjx ek2
            rw [G.out.tb_eq _ _ hkl ek2] at s1
            rw [G.out.tb_eq _ _ hjx ej2] at s2
            rw [G.out.tb_eq _ _ hkl ej2] at s3
            rw [G.out.tb_eq _ _ hjx ek2] at s4
            have HF1 := Lib.hid (fitEq_true G.out HEL.out HOL.out hjx hkl)
            have HF2 := Lib.hid (fitEq_false G.out HEL.out HOL.out hjx hkl)
            clear hsq qg qo ek ej
            generalize mul x k (nt o k) = z1 at *
            generalize mul x j (nt o j) = z2 at *
            generalize mul x k (nt o j) = z3 at *
            generalize mul x j (nt o k) = z4 at *
            generalize nt o k = nk at *
            generalize nt o j = nj at *
            have HCC : Hid (lp true x o k j = lp true x o k j) := rfl
            generalize hcc : lp true x o k j = cc at HCC ⊢
            generalize hca : lp false x o k j = ca at *
            have HCC := Lib.hid hcc
            have HCA := Lib.hid hca
            clear hcc hca
            cases cc
            · have HC : Hid (lp true x o k (j + 1) = false) := by unfold Hid; rw [lp_succ, HCC.out]; rfl
              cases ca
              · have HA : Hid (lp false x o k (j + 1) = false) := by unfold Hid; rw [lp_succ, HCA.out]; rfl
                go_wp2_with fail
                go_quiet (fail)
                go_wp2_with fail
                go_quiet (fail)
                go_wp2_with fail
                go_roundw
                case rel => exact ⟨j + 1, by omega, by go_num, by rw [HC.out], by rw [HA.out], below_drewN hb _⟩
                case measure => first | (simp [intOf]; done) | (simp [intOf]; omega)
              · by_cases h2 : z3 = z4
                · have t3 : ((z3 : Int) != (z4 : Int)) = false := by simp [h2]
                  have HA : Hid (lp false x o k (j + 1) = false) := by unfold Hid; rw [lp_succ, HCA.out, HF2.out, decide_eq_true h2.symm]; rfl
                  clear h2
                  go_wp2_with fail
                  go_quiet (fail)
                  go_wp2_with fail
                  go_quiet (fail)
                  go_wp2_with fail
                  go_roundw
                  case rel => exact ⟨j + 1, by omega, by go_num, by rw [HC.out], by rw [HA.out], below_drewN hb _⟩
                  case measure => first | (simp [intOf]; done) | (simp [intOf]; omega)
                · have t3 : ((z3 : Int) != (z4 : Int)) = true := by simp; omega
                  have HA : Hid (lp false x o k (j + 1) = true) := by unfold Hid; rw [lp_succ, HCA.out, HF2.out, decide_eq_false (fun e => h2 e.symm)]; rfl
                  clear h2
                  go_wp2_with fail
                  go_quiet (fail)
                  go_wp2_with fail
                  go_quiet (fail)
                  go_wp2_with fail
                  go_roundw
                  case rel => exact ⟨j + 1, by omega, by go_num, by rw [HC.out], by rw [HA.out], below_drewN hb _⟩
                  case measure => first | (simp [intOf]; done) | (simp [intOf]; omega)
            · by_cases h1 : z1 = z2
              · have t1 : ((z1 : Int) != (z2 : Int)) = false := by simp [h1]
                have HC : Hid (lp true x o k (j + 1) = false) := by unfold Hid; rw [lp_succ, HCC.out, HF1.out, decide_eq_true h1.symm]; rfl
                clear h1
                cases ca
                · have HA : Hid (lp false x o k (j + 1) = false) := by unfold Hid; rw [lp_succ, HCA.out]; rfl
                  go_wp2_with fail
                  go_quiet (fail)
                  go_wp2_with fail
                  go_quiet (fail)
                  go_wp2_with fail
                  go_roundw
                  case rel => exact ⟨j + 1, by omega, by go_num, by rw [HC.out], by rw [HA.out], below_drewN hb _⟩
                  case measure => first | (simp [intOf]; done) | (simp [intOf]; omega)
                · by_cases h2 : z3 = z4
                  · have t3 : ((z3 : Int) != (z4 : Int)) = false := by simp [h2]
                    have HA : Hid (lp false x o k (j + 1) = false) := by unfold Hid; rw [lp_succ, HCA.out, HF2.out, decide_eq_true h2.symm]; rfl
                    clear h2
                    go_wp2_with fail
                    go_quiet (fail)
                    go_wp2_with fail
                    go_quiet (fail)
                    go_wp2_with fail
                    go_roundw
                    case rel => exact ⟨j + 1, by omega, by go_num, by rw [HC.out], by rw [HA.out], below_drewN hb _⟩
                    case measure => first | (simp [intOf]; done) | (simp [intOf]; omega)
                  · have t3 : ((z3 : Int) != (z4 : Int)) = true := by simp; omega
                    have HA : Hid (lp false x o k (j + 1) = true) := by unfold Hid; rw [lp_succ, HCA.out, HF2.out, decide_eq_false (fun e => h2 e.symm)]; rfl
                    clear h2
                    go_wp2_with fail
                    go_quiet (fail)
                    go_wp2_with fail
                    go_quiet (fail)
                    go_wp2_with fail
                    go_roundw
                    case rel => exact ⟨j + 1, by omega, by go_num, by rw [HC.out], by rw [HA.out], below_drewN hb _⟩
                    case measure => first | (simp [intOf]; done) | (simp [intOf]; omega)
              · have t1 : ((z1 : Int) != (z2 : Int)) = true := by simp; omega
                have HC : Hid (lp true x o k (j + 1) = true) := by unfold Hid; rw [lp_succ, HCC.out, HF1.out, decide_eq_false (fun e => h1 e.symm)]; rfl
                clear h1
                cases ca
                · have HA : Hid (lp false x o k (j + 1) = false) := by unfold Hid; rw [lp_succ, HCA.out]; rfl
                  go_wp2_with fail
                  go_quiet (fail)
                  go_wp2_with fail
                  go_quiet (fail)
                  go_wp2_with fail
                  go_roundw
                  case rel => exact ⟨j + 1, by omega, by go_num, by rw [HC.out], by rw [HA.out], below_drewN hb _⟩
                  case measure => first | (simp [intOf]; done) | (simp [intOf]; omega)
                · by_cases h2 : z3 = z4
                  · have t3 : ((z3 : Int) != (z4 : Int)) = false := by simp [h2]
                    have HA : Hid (lp false x o k (j + 1) = false) := by unfold Hid; rw [lp_succ, HCA.out, HF2.out, decide_eq_true h2.symm]; rfl
                    clear h2
                    go_wp2_with fail
                    go_quiet (fail)
                    go_wp2_with fail
                    go_quiet (fail)
                    go_wp2_with fail
                    go_roundw
                    case rel => exact ⟨j + 1, by omega, by go_num, by rw [HC.out], by rw [HA.out], below_drewN hb _⟩
                    case measure => first | (simp [intOf]; done) | (simp [intOf]; omega)
                  · have t3 : ((z3 : Int) != (z4 : Int)) = true := by simp; omega
                    have HA : Hid (lp false x o k (j + 1) = true) := by unfold Hid; rw [lp_succ, HCA.out, HF2.out, decide_eq_false (fun e => h2 e.symm)]; rfl
                    clear h2
                    go_wp2_with fail
                    go_quiet (fail)
                    go_wp2_with fail
                    go_quiet (fail)
                    go_wp2_with fail
                    go_roundw
                    case rel => exact ⟨j + 1, by omega, by go_num, by rw [HC.out], by rw [HA.out], below_drewN hb _⟩
                    case measure => first | (simp [intOf]; done) | (simp [intOf]; omega)
          · obtain rfl : j = k := by omega
            rw [lp_end, lp_end]
            go_wp2_with fail
            go_roundw
            case rel => exact ⟨j + 1, by omega, by go_num, rfl, rfl, hb⟩
            case measure => first | (simp [intOf]; done) | (simp [intOf]; omega)
      · obtain rfl : k = x.length := by omega
        have HC1 := Lib.hid (aoB_perm (cm := true) HG.out HPM.out)
        have HC2 := Lib.hid (aoB_perm (cm := false) HG.out HPM.out)
        generalize allN x.length (fitK true x o) = cc at *
        generalize allN x.length (fitK false x o) = ca at *
        obtain ⟨q, qo⟩ := HALL.out _ hb
        have c0 := q.c
        go_wp2_with fail
        clear c0
        refine (cmpY _ _ x o cc _ q.r HG qo (by rw [HOL.out]; omega) HC1).mono ?_
        rintro e w10 ⟨rfl, hb1⟩
        replace hb := hb.trans (hb1.mono hb.size)
        clear hb1
        obtain ⟨q, qo⟩ := HALL.out _ hb
        have c0 := q.c
        cases cc
        all_goals
          go_wp2_with fail
          clear c0
          refine (antY _ _ x o ca _ q.r HG qo (by rw [HOL.out]; omega) HC2).mono ?_
          rintro e w11 ⟨rfl, hb1⟩
          replace hb := hb.trans (hb1.mono hb.size)
          clear hb1
          obtain ⟨q, qo⟩ := HALL.out _ hb
          have c0 := q.c
          cases ca
          all_goals
            cases hcb : comB x
            · have HCB := Lib.hid hcb
              clear hcb
              go_wp2_with fail
              clear c0
              refine (comY _ x _ false q.r HG HCB).mono ?_
              rintro e w12 ⟨rfl, hb1⟩
              replace hb := hb.trans (hb1.mono hb.size)
              clear hb1
              cases b1
              all_goals
                cases b2
                all_goals
                  go_wp2_with fail
                  go_ret
                  exact ⟨rfl, HB1.out.trans (hb.mono hz9)⟩
            · have HCB := Lib.hid hcb
              have hbe := HBO.out hcb
              subst hbe
              clear hcb
              go_wp2_with fail
              clear c0
              refine (comY _ x _ true q.r HG HCB).mono ?_
              rintro e w12 ⟨rfl, hb1⟩
              replace hb := hb.trans (hb1.mono hb.size)
              clear hb1
              cases b1
              all_goals
                go_wp2_with fail
                go_ret
                exact ⟨rfl, HB1.out.trans (hb.mono hz9)⟩
end Go.Proofs.Ytghmpaegmicheaa
