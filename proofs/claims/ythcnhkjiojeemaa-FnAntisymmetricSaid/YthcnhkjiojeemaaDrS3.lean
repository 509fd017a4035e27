/- l04DrawSized: the walk. -/
import Derived.Test.YthcnhkjiojeemaaDrS2
namespace Go.Proofs.Ythcnhkjiojeemaa
open Go.RowKit

theorem addF_qg {n : Nat} (hn : 1 ≤ n) : Qg n (fun i j => (((i + j) % n : Nat) : Int)) := by
  have key : ∀ i j k, j < k → k < n → (i + j) % n ≠ (i + k) % n := fun i j k hj hk e => by
    have h1 := Nat.div_add_mod (i + j) n
    have h2 := Nat.div_add_mod (i + k) n
    rw [e] at h1
    have h3 : n * ((i + k) / n) = n * ((i + j) / n) + (k - j) := by omega
    have h4 : (k - j) % n = 0 := by
      have : k - j = n * ((i + k) / n - (i + j) / n) := by
        rw [Nat.mul_sub]; omega
      rw [this, Nat.mul_mod_right]
    rw [Nat.mod_eq_of_lt (by omega)] at h4
    omega
  refine ⟨fun i j hi hj => ?_, fun i j k hi hj hk => ?_, fun i j k hi hj hk => ?_⟩
  · have := Nat.mod_lt (i + j) (show 0 < n by omega)
    show (0 : Int) ≤ _ ∧ _ < (n : Int)
    omega
  · have := key i j k hj hk
    show (((i + j) % n : Nat) : Int) ≠ _
    omega
  · have := key i j k hj hk
    rw [Nat.add_comm i j, Nat.add_comm i k] at this
    show (((j + i) % n : Nat) : Int) ≠ _
    omega
def DzPost (p m n : Nat) (w : World) (e : Ending) (w' : World) : Prop := ∃ v t, e = .returned v ∧ RT w' v (mkT n t) ∧ Qg n t ∧ Src p (m + 3 * n + 3) w' ∧ Chg [p] w w'
theorem DzPost.mk {p m n : Nat} {w w' : World} {v : Value} {t : Nat → Nat → Int} (h1 : RT w' v (mkT n t)) (h2 : Qg n t) (h3 : Src p (m + 3 * n + 3) w') (h4 : Chg [p] w w') : DzPost p m n w (.returned v) w' := ⟨v, t, rfl, h1, h2, h3, h4⟩
set_option maxRecDepth 100000 in
set_option maxHeartbeats 4000000 in
theorem drawSized_any (p m n : Nat) (w : World) (h : Src p m w) (hm : m ≤ 1000000) (hn : 1 ≤ n ∧ n ≤ 10) :
    Calls Try.prog 31 #[.pointer (some ⟨p, 0, none⟩), .int .i64 n] w (DzPost p m n w) := by
  have hp := h.lt
  obtain ⟨hn1, hn2⟩ := hn
  have hn0 : ¬ n = 0 := by omega
  go_enter Try.func31, Try.ntmps31
  go_wp2_with fail
  refine (l04Blank_any n w (by omega)).mono ?_
  rintro e w1 ⟨v1, rfl, ho, hb⟩
  rw [rep_mk] at ho
  obtain ⟨G, H, P, C, rfl, htb⟩ := ho.tbl hn1 (Nat.le_refl _)
  have hs := h.later hb
  have hch : Chg [p] w w1 := (Below.chg hb).mono (by simp)
  have hgrow := hb.size
  generalize hS : w1.heap.size = S at *
  obtain ⟨B, hB⟩ : ∃ B, B = w.heap.size := ⟨_, rfl⟩
  rw [← hB] at htb hp
  have HPB : Hid (p < B) := hp
  have HWZ : Hid (w.heap.size ≤ B) := Nat.le_of_eq hB.symm
  clear ho hS h hb hB hgrow
  go_wp2_with fail
  refine (pick_any p _ n _ hs (by omega) (by omega)).mono ?_
  rintro e w2 ⟨z1, rfl, hz1, hs2, hc⟩
  replace htb := htb.chg hc (fun k hk => by simp at hk; omega)
  replace hch := hch.trans hc
  clear hs hc
  obtain ⟨a, ha⟩ : ∃ a : Nat, 1 + z1 = (a : Int) := ⟨(1 + z1).toNat, by omega⟩
  have ha10 : a ≤ 10 := by omega
  clear hz1
  go_wp2_with fail
  clear ha
  refine (pick_any p _ n _ hs2 (by omega) (by omega)).mono ?_
  rintro e w3 ⟨z2, rfl, hz2, hs, hc⟩
  replace htb := htb.chg hc (fun k hk => by simp at hk; omega)
  replace hch := hch.trans hc
  clear hs2 hc
  obtain ⟨b, hb⟩ : ∃ b : Nat, 1 + z2 = (b : Int) := ⟨(1 + z2).toNat, by omega⟩
  have hb10 : b ≤ 10 := by omega
  clear hz2
  obtain ⟨f1, hf1⟩ : ∃ f : Nat → Nat → Int, f = fun i j : Nat => (((a * i + b * j) % n : Nat) : Int) := ⟨_, rfl⟩
  obtain ⟨f2, hf2⟩ : ∃ f : Nat → Nat → Int, f = fun i j : Nat => (((i + j) % n : Nat) : Int) := ⟨_, rfl⟩
  have HF1 := Lib.hid hf1
  have HF2 := Lib.hid hf2
  clear hf1 hf2
  obtain ⟨f0, hf0⟩ : ∃ f : Nat → Nat → Int, f = fun _ _ => 0 := ⟨_, rfl⟩
  rw [← hf0] at htb
  clear hf0
  go_wp2_with fail
  clear hb
  go_loopw [8] (fun iv wr => ∃ i : Nat, i ≤ n ∧ iv = .int .i64 i ∧ TbAt B S G H P C n (upG f1 f0 i 0) wr ∧ Src p (m + 2) wr ∧ Chg [p] w wr) (fun iv _ => n - (intOf iv).toNat)
  case atStart => exact ⟨0, Nat.zero_le _, rfl, htb.congr (fun a b _ _ => (upG_none _ _ a b).symm), hs, hch⟩
  case round =>
    clear htb hs hch
    obtain ⟨i, hi, rfl, htb, hs, hch⟩ := hrel
    by_cases hin : i < n
    · have hini : (i : Int) < (n : Int) := by omega
      go_wp2_with fail
      go_loopw [9] (fun jv wr => ∃ j : Nat, j ≤ n ∧ jv = .int .i64 j ∧ TbAt B S G H P C n (upG f1 f0 i j) wr ∧ Src p (m + 2) wr ∧ Chg [p] w wr) (fun jv _ => n - (intOf jv).toNat)
      case atStart => exact ⟨0, Nat.zero_le _, rfl, htb, hs, hch⟩
      case round =>
        clear htb hs hch
        obtain ⟨j, hj, rfl, htb, hs, hch⟩ := hrel
        by_cases hjn : j < n
        · have hjni : (j : Int) < (n : Int) := by omega
          have c1 := htb.row i hin
          have c2 := htb.cell i j hin hjn
          have c3 := htb.fr i j hin hjn
          obtain ⟨z, hz⟩ : ∃ z, z = f1 i j := ⟨_, rfl⟩
          have hst := (htb.store i j hin hjn (f1 i j)).1.congr (fun a b _ _ => upG_step f1 f0 i j a b)
          rw [← hz] at hst
          have hbH := (htb.hb i hin).1
          have hpS := HPB.out
          have hwz := HWZ.out
          have hbs : Below B wr (wr.setCell ⟨H i, j, none⟩ (.int .i64 z)) := (Below.refl B wr).setCell hbH _
          have hs2 := hs.below hbs (by omega)
          have hch2 := chg_below hch (by omega) hbs
          have HST := Lib.hid hst
          have HS2 := Lib.hid hs2
          have HCH2 := Lib.hid hch2
          obtain ⟨q1, hq1⟩ : ∃ q1, q1 = a * i := ⟨_, rfl⟩
          obtain ⟨q2, hq2⟩ : ∃ q2, q2 = b * j := ⟨_, rfl⟩
          have hq1b : q1 ≤ 100 := by rw [hq1]; exact Nat.mul_le_mul (show a ≤ 10 by omega) (show i ≤ 10 by omega)
          have hq2b : q2 ≤ 100 := by rw [hq2]; exact Nat.mul_le_mul (show b ≤ 10 by omega) (show j ≤ 10 by omega)
          have hw1 : IntKind.i64.wrap ((a : Int) * (i : Int)) = (q1 : Int) := by rw [← Int.natCast_mul, ← hq1]; exact IntWalk.i64_in _ (by omega)
          have hw2 : IntKind.i64.wrap ((b : Int) * (j : Int)) = (q2 : Int) := by rw [← Int.natCast_mul, ← hq2]; exact IntWalk.i64_in _ (by omega)
          have hw3 : IntKind.i64.wrap ((q1 : Int) + (q2 : Int)) = ((q1 + q2 : Nat) : Int) := by rw [← Int.natCast_add]; exact IntWalk.i64_in _ (by omega)
          have hw4 : (((q1 + q2 : Nat) : Int)).tmod (n : Int) = (((q1 + q2) % n : Nat) : Int) := by rw [Int.tmod_eq_emod_of_nonneg (by omega)]; simp
          have hw5 : (q1 + q2) % n < n := Nat.mod_lt _ (by omega)
          have hzr : f1 i j = (((q1 + q2) % n : Nat) : Int) := by rw [HF1.out, hq1, hq2]
          generalize (q1 + q2) % n = r at *
          generalize q1 + q2 = q3 at *
          clear hq1b hq2b hq1 hq2
          rw [hzr] at hz
          generalize upG f1 f0 i j i j = y0 at *
          clear hst hs2 hch2 htb hs hch hbs
          subst hz
          go_upto_region 10 with fail
          refine wp_region_qtail 15 (by kernel_rfl) (by kernel_rfl) ?_; simp only [List.take_succ_cons, List.take_zero, List.drop_succ_cons, List.drop_zero]; (repeat (go_big_quiet_step (fail))); refine wpQuiet_nil ?_
          go_wp2_with fail
          go_roundw
          case rel => exact ⟨j + 1, by omega, by go_num, by first | exact HST.out | exact HST.out.later (below_drewN (Below.refl _ _) _), by first | exact HS2.out | exact HS2.out.later (below_drewN (Below.refl _ _) _), by first | exact HCH2.out | exact HCH2.out.trans ((Below.chg (below_drewN (Below.refl _ _) _)).mono (by simp))⟩
          case measure => first | (simp [intOf]; done) | (simp [intOf]; omega)
        · obtain rfl : j = n := by omega
          go_wp2_with fail
          go_roundw
          case rel => exact ⟨i + 1, by omega, by go_num, htb.congr (fun a b _ hb => upG_row _ _ i a b hb), hs, hch⟩
          case measure => first | (simp [intOf]; done) | (simp [intOf]; omega)
    · obtain rfl : n = i := by omega
      replace htb := htb.congr (fun a b ha _ => upG_all (n := n) f1 f0 a b ha)
      have HIS : Hid (Calls Try.prog 47 #[.slice (some ⟨G, 0, none⟩) n C] wr fun e w' => e = .returned (.bool (qgB (mkT n f1))) ∧ Below wr.heap.size wr w') := l04Is_any _ (mkT n f1) wr htb.read (by rw [mkT_len]; omega) (Lib.hid (fun j hj => by rw [mkT_len] at hj; rw [mkT_rowlen _ _ _ hj]; omega))
      have HQG : Hid (qgB (mkT n f1) = true → Qg n f1) := fun h => (qgB_mk.1 h).2
      generalize qgB (mkT n f1) = bq at *
      go_wp2_with fail
      refine HIS.out.mono ?_
      rintro e w4 ⟨rfl, hb1⟩
      clear HIS
      replace htb := htb.later hb1
      replace hs := hs.later hb1
      have hwz := HWZ.out
      have hsz := htb.sz
      have hgb := htb.gb
      replace hch := chg_below hch hch.size hb1
      clear hb1
      cases bq
      · go_wp2_with fail
        go_loopw [10] (fun iv wr => ∃ i : Nat, i ≤ n ∧ iv = .int .i64 i ∧ TbAt B S G H P C n (upG f2 f1 i 0) wr ∧ Src p (m + 2) wr ∧ Chg [p] w wr) (fun iv _ => n - (intOf iv).toNat)
        case atStart => exact ⟨0, Nat.zero_le _, rfl, htb.congr (fun a b _ _ => (upG_none _ _ a b).symm), hs, hch⟩
        case round =>
          clear htb hs hch
          obtain ⟨i, hi, rfl, htb, hs, hch⟩ := hrel
          by_cases hin : i < n
          · have hini : (i : Int) < (n : Int) := by omega
            go_wp2_with fail
            go_loopw [11] (fun jv wr => ∃ j : Nat, j ≤ n ∧ jv = .int .i64 j ∧ TbAt B S G H P C n (upG f2 f1 i j) wr ∧ Src p (m + 2) wr ∧ Chg [p] w wr) (fun jv _ => n - (intOf jv).toNat)
            case atStart => exact ⟨0, Nat.zero_le _, rfl, htb, hs, hch⟩
            case round =>
              clear htb hs hch
              obtain ⟨j, hj, rfl, htb, hs, hch⟩ := hrel
              by_cases hjn : j < n
              · have hjni : (j : Int) < (n : Int) := by omega
                have c1 := htb.row i hin
                have c2 := htb.cell i j hin hjn
                have c3 := htb.fr i j hin hjn
                obtain ⟨z, hz⟩ : ∃ z, z = f2 i j := ⟨_, rfl⟩
                have hst := (htb.store i j hin hjn (f2 i j)).1.congr (fun a b _ _ => upG_step f2 f1 i j a b)
                rw [← hz] at hst
                have hbH := (htb.hb i hin).1
                have hpS := HPB.out
                have hwz := HWZ.out
                have hbs : Below B wr (wr.setCell ⟨H i, j, none⟩ (.int .i64 z)) := (Below.refl B wr).setCell hbH _
                have hs2 := hs.below hbs (by omega)
                have hch2 := chg_below hch (by omega) hbs
                have HST := Lib.hid hst
                have HS2 := Lib.hid hs2
                have HCH2 := Lib.hid hch2
                have hw3 : IntKind.i64.wrap ((i : Int) + (j : Int)) = ((i + j : Nat) : Int) := by rw [← Int.natCast_add]; exact IntWalk.i64_in _ (by omega)
                have hw4 : (((i + j : Nat) : Int)).tmod (n : Int) = (((i + j) % n : Nat) : Int) := by rw [Int.tmod_eq_emod_of_nonneg (by omega)]; simp
                have hw5 : (i + j) % n < n := Nat.mod_lt _ (by omega)
                have hzr : f2 i j = (((i + j) % n : Nat) : Int) := by rw [HF2.out]
                generalize (i + j) % n = r at *
                generalize hij : i + j = q3 at *
                have HIJ := Lib.hid hij
                clear hij
                rw [hzr] at hz
                generalize upG f2 f1 i j i j = y0 at *
                clear hst hs2 hch2 htb hs hch hbs
                subst hz
                go_upto_region 18 with fail
                refine wp_region_qtail 11 (by kernel_rfl) (by kernel_rfl) ?_; simp only [List.take_succ_cons, List.take_zero, List.drop_succ_cons, List.drop_zero]; (repeat (go_big_quiet_step (fail))); refine wpQuiet_nil ?_
                go_wp2_with fail
                go_roundw
                case rel => exact ⟨j + 1, by omega, by go_num, by first | exact HST.out | exact HST.out.later (below_drewN (Below.refl _ _) _), by first | exact HS2.out | exact HS2.out.later (below_drewN (Below.refl _ _) _), by first | exact HCH2.out | exact HCH2.out.trans ((Below.chg (below_drewN (Below.refl _ _) _)).mono (by simp))⟩
                case measure => first | (simp [intOf]; done) | (simp [intOf]; omega)
              · obtain rfl : j = n := by omega
                go_wp2_with fail
                go_roundw
                case rel => exact ⟨i + 1, by omega, by go_num, htb.congr (fun a b _ hb => upG_row _ _ i a b hb), hs, hch⟩
                case measure => first | (simp [intOf]; done) | (simp [intOf]; omega)
          · obtain rfl : n = i := by omega
            replace htb := htb.congr (fun a b ha _ => upG_all (n := n) f2 f1 a b ha)
            have HQ : Hid (Qg n f2) := by unfold Hid; rw [HF2.out]; exact addF_qg hn1
            go_wp2_with fail
            refine (one_any p _ 2 _ hs (by omega) (by omega)).mono ?_
            rintro e w5 ⟨b1, rfl, hs2, hc⟩
            have hpS := HPB.out
            replace htb := htb.chg hc (fun k hk => by simp at hk; omega)
            replace hch := hch.trans hc
            clear hs hc
            cases b1
            · go_wp2_with fail
              go_ret
              exact .mk htb.read HQ.out (hs2.mono (by omega)) hch
            · go_wp2_with fail
              refine (drawOrderQ_any p _ n _ hs2 (by omega) (by omega)).mono ?_
              rintro e w6 ⟨vr, rs, rfl, hor, pr, hs3, hc⟩
              have hw5 : B ≤ w5.heap.size := by have := htb.sz; have := htb.gb; omega
              replace htb := htb.chg hc (fun k hk => by simp at hk; omega)
              replace hch := hch.trans hc
              clear hs2 hc
              go_wp2_with fail
              refine (drawOrderQ_any p _ n _ hs3 (by omega) (by omega)).mono ?_
              rintro e w7 ⟨vc, cs, rfl, hoc, pc, hs4, hc⟩
              have hw6 : B ≤ w6.heap.size := by have := htb.sz; have := htb.gb; omega
              replace htb := htb.chg hc (fun k hk => by simp at hk; omega)
              replace hor := hor.chgP hc (by omega)
              replace hch := hch.trans hc
              clear hs3 hc
              go_wp2_with fail
              refine (drawOrderQ_any p _ n _ hs4 (by omega) (by omega)).mono ?_
              rintro e w8 ⟨vv, vs, rfl, hov, pv, hs5, hc⟩
              have hw7 : B ≤ w7.heap.size := by have := htb.sz; have := htb.gb; omega
              replace htb := htb.chg hc (fun k hk => by simp at hk; omega)
              replace hor := hor.chgP hc (by omega)
              replace hoc := hoc.chgP hc (by omega)
              replace hch := hch.trans hc
              clear hs4 hc
              have HRN := Lib.hid (l04Rename_any n (by omega) f2 C w8 htb.sq HQ.out vr vc vv rs cs vs hor.read hoc.read hov.read pr pc pv)
              have HPP := Lib.hid (And.intro pr (And.intro pc pv))
              obtain ⟨ra, rc, rfl⟩ := hor.slice
              obtain ⟨ca, cc, rfl⟩ := hoc.slice
              obtain ⟨va, vc', rfl⟩ := hov.slice
              clear hor hoc hov pr pc pv
              go_wp2_with fail
              refine HRN.out.mono ?_
              rintro e w9 ⟨v9, u, rfl, hrt, hren, hb9⟩
              have hfin := DzPost.mk (m := m) hrt (ren_qg HPP.out.1 HPP.out.2.1 HPP.out.2.2 hren HQ.out) ((hs5.later hb9).mono (by omega)) (chg_below hch hch.size hb9)
              go_wp2_with fail
              go_ret
              exact hfin
      · have HQ := Lib.hid (HQG.out rfl)
        go_wp2_with fail
        refine (one_any p _ 2 _ hs (by omega) (by omega)).mono ?_
        rintro e w5 ⟨b1, rfl, hs2, hc⟩
        have hpS := HPB.out
        replace htb := htb.chg hc (fun k hk => by simp at hk; omega)
        replace hch := hch.trans hc
        clear hs hc
        cases b1
        · go_wp2_with fail
          go_ret
          exact .mk htb.read HQ.out (hs2.mono (by omega)) hch
        · go_wp2_with fail
          refine (drawOrderQ_any p _ n _ hs2 (by omega) (by omega)).mono ?_
          rintro e w6 ⟨vr, rs, rfl, hor, pr, hs3, hc⟩
          have hw5 : B ≤ w5.heap.size := by have := htb.sz; have := htb.gb; omega
          replace htb := htb.chg hc (fun k hk => by simp at hk; omega)
          replace hch := hch.trans hc
          clear hs2 hc
          go_wp2_with fail
          refine (drawOrderQ_any p _ n _ hs3 (by omega) (by omega)).mono ?_
          rintro e w7 ⟨vc, cs, rfl, hoc, pc, hs4, hc⟩
          have hw6 : B ≤ w6.heap.size := by have := htb.sz; have := htb.gb; omega
          replace htb := htb.chg hc (fun k hk => by simp at hk; omega)
          replace hor := hor.chgP hc (by omega)
          replace hch := hch.trans hc
          clear hs3 hc
          go_wp2_with fail
          refine (drawOrderQ_any p _ n _ hs4 (by omega) (by omega)).mono ?_
          rintro e w8 ⟨vv, vs, rfl, hov, pv, hs5, hc⟩
          have hw7 : B ≤ w7.heap.size := by have := htb.sz; have := htb.gb; omega
          replace htb := htb.chg hc (fun k hk => by simp at hk; omega)
          replace hor := hor.chgP hc (by omega)
          replace hoc := hoc.chgP hc (by omega)
          replace hch := hch.trans hc
          clear hs4 hc
          have HRN := Lib.hid (l04Rename_any n (by omega) f1 C w8 htb.sq HQ.out vr vc vv rs cs vs hor.read hoc.read hov.read pr pc pv)
          have HPP := Lib.hid (And.intro pr (And.intro pc pv))
          obtain ⟨ra, rc, rfl⟩ := hor.slice
          obtain ⟨ca, cc, rfl⟩ := hoc.slice
          obtain ⟨va, vc', rfl⟩ := hov.slice
          clear hor hoc hov pr pc pv
          go_wp2_with fail
          refine HRN.out.mono ?_
          rintro e w9 ⟨v9, u, rfl, hrt, hren, hb9⟩
          have hfin := DzPost.mk (m := m) hrt (ren_qg HPP.out.1 HPP.out.2.1 HPP.out.2.2 hren HQ.out) ((hs5.later hb9).mono (by omega)) (chg_below hch hch.size hb9)
          go_wp2_with fail
          go_ret
          exact hfin
end Go.Proofs.Ythcnhkjiojeemaa
