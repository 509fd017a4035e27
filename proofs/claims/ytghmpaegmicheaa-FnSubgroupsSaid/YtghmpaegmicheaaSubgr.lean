/- The law FnSubgroups: for every input. -/
import Derived.Test.YtghmpaegmicheaaSubT
namespace Go.Proofs.Ytghmpaegmicheaa
open Go.RowKit

set_option maxHeartbeats 4000000 in
set_option maxRecDepth 100000 in
theorem lawSubgr_any (v0 v1 : Value) (xs ys : List Int) (w : World) (hx : RK .u8 w v0 xs ∧ (∀ x ∈ xs, (Lit.int .u8 x).wf = true) ∧ xs.length ≤ maxLen)
    (hy : RK .u8 w v1 ys ∧ (∀ x ∈ ys, (Lit.int .u8 x).wf = true) ∧ ys.length ≤ maxLen) :
    Calls Try.prog 8 #[v0, v1] w fun x w' => x = .returned (.bool true) ∧ Below w.heap.size w w' := by
  obtain ⟨hx, hxw, _⟩ := hx
  obtain ⟨hy, hyw, _⟩ := hy
  obtain ⟨a, c, rfl⟩ := hx.slice
  obtain ⟨b, d, rfl⟩ := hy.slice
  cases hs : longB xs.length ys.length
  case true =>
    have HS := Lib.hid hs
    clear hx hy hs
    go_enter Try.func8, Try.ntmps8
    go_wp2_with fail
    refine (b10Long_any _ _ _ _ _ _ _).mono ?_
    rintro e w' ⟨rfl, rfl⟩
    rw [HS.out]
    go_wp2_with fail
    go_ret
    exact ⟨rfl, Below.refl _ _⟩
  obtain ⟨hxm, hym⟩ := longB_no hs
  have HS := Lib.hid hs
  clear hs
  go_enter Try.func8, Try.ntmps8
  go_wp2_with fail
  refine (b10Long_any _ _ _ _ _ _ _).mono ?_
  rintro e w' ⟨rfl, rfl⟩
  rw [HS.out]
  go_wp2_with fail
  refine (b10Group_any _ xs _ hx hxw hxm).mono ?_
  rintro e w1 ⟨ua, x, uc, rfl, ho, hg, hb⟩
  have HG := Lib.hid hg
  clear hg hx hxw hxm HS
  go_wp2_with fail
  have hb1 : Below w1.heap.size w1 (w1.alloc (.cells #[.slice ua x.length uc] 29)) := (Below.refl _ _).alloc (Nat.le_refl _) _
  have g0 := GB.box ho 29
  replace hb := hb.trans (hb1.mono hb.size)
  clear hb1
  generalize w1.alloc (.cells #[.slice ua x.length uc] 29) = w2 at *
  generalize w1.heap.size = p at *
  clear ho
  have HR : Hid (∀ wr, Below w2.heap.size w2 wr → GB p ua uc x wr) := fun wr h => g0.later h
  have HY : Hid (∀ wr, Below w2.heap.size w2 wr → RK .u8 wr (.slice b ys.length d) ys) := fun wr h => hy.later (hb.trans (h.mono hb.size))
  have HB0 := Lib.hid hb
  have G := Lib.hid (Gp.of HG.out)
  have hn := G.out.n
  replace hb := Below.refl w2.heap.size w2
  have hzw : w.heap.size ≤ w2.heap.size := HB0.out.size
  clear g0 hy
  refine (b10At_any _ ys 0 x.length _ (HY.out _ hb) hyw hym (by omega) (by omega)).mono ?_
  rintro e w3 ⟨x0, rfl, hx0, hd⟩
  have hb1 := hd.below
  clear hd
  replace hb := hb.trans (hb1.mono hb.size)
  clear hb1
  replace hx0 : x0 < x.length := by omega
  go_wp2_with fail
  refine (b10At_any _ ys 1 x.length _ (HY.out _ hb) hyw hym (by omega) (by omega)).mono ?_
  rintro e w4 ⟨x1, rfl, hx1, hd⟩
  have hb1 := hd.below
  clear hd
  replace hb := hb.trans (hb1.mono hb.size)
  clear hb1
  replace hx1 : x1 < x.length := by omega
  have hb1 : Below w4.heap.size w4 (w4.alloc (.cells #[.int .i64 x0, .int .i64 x1] 2)) := (Below.refl _ _).alloc (Nat.le_refl _) _
  have ho : OI w4.heap.size (w4.alloc (.cells #[.int .i64 x0, .int .i64 x1] 2)) (.slice (some ⟨w4.heap.size, 0, none⟩) 2 2) [(x0 : Int), (x1 : Int)] := OV.lit _ _ _ (Nat.le_refl _) (by simp [maxLen])
  have q := (HR.out _ (hb.trans (hb1.mono hb.size)))
  have c0 := q.c
  go_wp2_with fail
  clear c0
  replace hb := hb.trans (hb1.mono hb.size)
  clear hb1
  have h01 := ho.cell 0 (by simp)
  have h02 := ho.cell 1 (by simp)
  generalize w4.alloc (.cells #[.int .i64 x0, .int .i64 x1] 2) = w5 at *
  generalize w4.heap.size = ps at *
  refine (subY _ _ x x0 x1 _ q.r HG hx0 hx1 ho.read).mono ?_
  rintro e w6 ⟨sa, cs, sc, rfl, os, HT, hc10, hc1, hb1⟩
  have k1 := (hb1.cell (p := ⟨ps, 0, none⟩) (World.block_lt_of_cell? _ _ h01)).trans h01
  have k2 := (hb1.cell (p := ⟨ps, 1, none⟩) (World.block_lt_of_cell? _ _ h02)).trans h02
  replace hb := hb.trans (hb1.mono hb.size)
  clear hb1
  clear ho h01 h02
  replace q := HR.out _ hb
  have c0 := q.c
  go_wp2_with fail
  clear c0
  refine (cenY _ x _ q.r HG).mono ?_
  rintro e w7 ⟨ma, mc, rfl, oc, hb1⟩
  replace k1 := (hb1.cell (p := ⟨ps, 0, none⟩) (World.block_lt_of_cell? _ _ k1)).trans k1
  replace k2 := (hb1.cell (p := ⟨ps, 1, none⟩) (World.block_lt_of_cell? _ _ k2)).trans k2
  replace os := os.later hb1
  replace hb := hb.trans (hb1.mono hb.size)
  clear hb1
  have HB1 : Hid (Below w.heap.size w w7) := HB0.out.trans (hb.mono hzw)
  have q7 := HR.out _ hb
  have hz7 : w.heap.size ≤ w7.heap.size := HB1.out.size
  have hcl := cenP_len x x.length
  replace hcl : (cenL x).length ≤ 10 := by have : (cenL x).length ≤ x.length := hcl; omega
  have HALL : Hid (∀ wr, Below w7.heap.size w7 wr → GB p ua uc x wr ∧ RI wr (.slice sa cs.length sc) cs ∧ RI wr (.slice ma (cenL x).length mc) (cenL x) ∧ wr.cell? ⟨ps, 0, none⟩ = some (.int .i64 x0) ∧ wr.cell? ⟨ps, 1, none⟩ = some (.int .i64 x1)) := fun wr h =>
    ⟨q7.later h, os.read.later h, oc.read.later h, (h.cell (p := ⟨ps, 0, none⟩) (World.block_lt_of_cell? _ _ k1)).trans k1, (h.cell (p := ⟨ps, 1, none⟩) (World.block_lt_of_cell? _ _ k2)).trans k2⟩
  clear q q7 os oc k1 k2 HR HY hb HB0 hzw
  have hb := Below.refl w7.heap.size w7
  obtain ⟨L, hL⟩ : ∃ L, L = cs.length := ⟨_, rfl⟩
  have HD : Hid (L ∣ x.length) := by rw [hL]; exact HT.out.dvd
  rw [← hL] at HALL hc1 hc10 ⊢
  have HL : Hid (cs.length = L) := hL.symm
  clear hL
  have hcn : ¬ L = 0 := by omega
  have hcn2 : ((L : Int) == 0) = false := by simp; omega
  have hmod : ((x.length : Int) % (L : Int)) = 0 := by have := HD.out; omega
  have hmod2 : ((x.length : Int).tmod (L : Int)) = 0 := by rw [Int.tmod_eq_emod_of_nonneg (by omega)]; exact hmod
  have ⟨_, qs, _, k1, k2⟩ := HALL.out _ hb
  go_wp2_with fail
  refine (b10Has_any _ cs _ _ qs (by rw [HL.out]; omega)).mono ?_
  rintro e w8 ⟨rfl, hd⟩
  rw [decide_eq_true HT.out.ma]
  clear k1 k2 qs
  have hb1 := hd.below
  clear hd
  replace hb := hb.trans (hb1.mono hb.size)
  clear hb1
  have ⟨_, qs, _, k1, k2⟩ := HALL.out _ hb
  go_wp2_with fail
  refine (b10Has_any _ cs _ _ qs (by rw [HL.out]; omega)).mono ?_
  rintro e w9 ⟨rfl, hd⟩
  rw [decide_eq_true HT.out.mb]
  clear k1 k2 qs hmod hmod2 hcn hcn2
  have hb1 := hd.below
  clear hd
  replace hb := hb.trans (hb1.mono hb.size)
  clear hb1
  go_wp2_with fail
  go_loopw [12] (fun iv wr => ∃ i : Nat, i ≤ L ∧ iv = .int .i64 i ∧ Below w7.heap.size w7 wr) (fun iv _ => L - (intOf iv).toNat)
  case atStart => exact ⟨0, Nat.zero_le _, rfl, hb⟩
  case round =>
    clear hb
    obtain ⟨i, hi, rfl, hb⟩ := hrel
    by_cases hil : i < L
    · go_wp2_with fail
      go_loopw [13] (fun jv wr => ∃ j : Nat, j ≤ L ∧ jv = .int .i64 j ∧ Below w7.heap.size w7 wr) (fun jv _ => L - (intOf jv).toNat)
      case atStart => exact ⟨0, Nat.zero_le _, rfl, hb⟩
      case round =>
        clear hb
        obtain ⟨j, hj, rfl, hb⟩ := hrel
        by_cases hjl : j < L
        · obtain ⟨qg, qs, _, _, _⟩ := HALL.out _ hb
          obtain ⟨zi, hzi, hzi2⟩ := HT.out.bd i (by rw [HL.out]; exact hil)
          obtain ⟨zj, hzj, hzj2⟩ := HT.out.bd j (by rw [HL.out]; exact hjl)
          have HM : Hid (((mul x zi zj : Nat) : Int) ∈ cs) := HT.out.cl zi zj (by rw [← hzi]; exact getD_mem (by rw [HL.out]; exact hil)) (by rw [← hzj]; exact getD_mem (by rw [HL.out]; exact hjl))
          obtain ⟨sg, so, rfl, _, hci⟩ := qs.at i (by rw [HL.out]; exact hil)
          obtain ⟨sg2, so2, e2, _, hcj⟩ := qs.at j (by rw [HL.out]; exact hjl)
          simp only [Option.some.injEq, Addr.mk.injEq, and_true] at e2
          obtain ⟨rfl, rfl⟩ := e2
          rw [hzi] at hci
          rw [hzj] at hcj
          have HQ := Lib.hid qs
          obtain ⟨g1, o1, z1, h1, f1, p1, hv, hsq⟩ := qg.r.sq G.out.sq
          simp only [Value.slice.injEq, true_and] at hv
          obtain ⟨rfl, rfl⟩ := hv
          have c0 := qg.c
          have r1 := hsq.row zi hzi2
          have s1 := hsq.cell zi zj hzi2 hzj2
          rw [G.out.tb_eq zi zj hzi2 hzj2] at s1
          clear qg qs hsq hzi hzj
          have HC : Hid (∀ n, Calls Try.prog 40 #[.slice (some ⟨sg, so, none⟩) L sc, .int .i64 (mul x zi zj : Nat)] (wr.drewN n) fun e w' => e = .returned (.bool true) ∧ Drw (wr.drewN n) w') := fun n => by
            have := b10Has_any _ cs (mul x zi zj : Nat) (wr.drewN n) (HQ.out.drewN n) (by rw [HL.out]; omega)
            rw [decide_eq_true HM.out] at this; exact this
          generalize mul x zi zj = zm at *
          go_wp2_with fail
          go_quiet ((go_at_call 40; exact quiet_drw (HC.out _)))
          go_wp2_with fail
          go_roundw
          case rel => exact ⟨j + 1, by omega, by go_num, below_drewN hb _⟩
          case measure => first | (simp [intOf]; done) | (simp [intOf]; omega)
        · obtain rfl : j = L := by omega
          go_wp2_with fail
          go_roundw
          case rel => exact ⟨i + 1, by omega, by go_num, hb⟩
          case measure => first | (simp [intOf]; done) | (simp [intOf]; omega)
    · obtain rfl : i = L := by omega
      go_wp2_with fail
      go_loopw [14] (fun iv wr => ∃ k : Nat, k ≤ x.length ∧ iv = .int .i64 k ∧ Below w7.heap.size w7 wr) (fun iv _ => x.length - (intOf iv).toNat)
      case atStart => exact ⟨0, Nat.zero_le _, rfl, hb⟩
      case round =>
        clear hb
        obtain ⟨k, hk, rfl, hb⟩ := hrel
        by_cases hkl : k < x.length
        · go_wp2_with fail
          go_loopw [15, 16] (fun bv jv wr => ∃ j : Nat, j ≤ x.length ∧ jv = .int .i64 j ∧ bv = .bool (allN j (comAt x k)) ∧ Below w7.heap.size w7 wr) (fun _ jv _ => x.length - (intOf jv).toNat)
          case atStart => exact ⟨0, Nat.zero_le _, rfl, rfl, hb⟩
          case round =>
            clear hb
            obtain ⟨j, hj, rfl, rfl, hb⟩ := hrel
            by_cases hjl : j < x.length
            · obtain ⟨qg, _, _, _, _⟩ := HALL.out _ hb
              obtain ⟨g1, o1, z1, h1, f1, p1, hv, hsq⟩ := qg.r.sq G.out.sq
              simp only [Value.slice.injEq, true_and] at hv
              obtain ⟨rfl, rfl⟩ := hv
              have c0 := qg.c
              have r1 := hsq.row k hkl
              have r2 := hsq.row j hjl
              have c1 := hsq.cell k j hkl hjl
              have c2 := hsq.cell j k hjl hkl
              have HS : Hid (allN (j + 1) (comAt x k) = (allN j (comAt x k) && decide (tb x k j = tb x j k))) := allN_succ _ _
              clear hsq qg
              generalize tb x k j = z1 at *
              generalize tb x j k = z2 at *
              generalize allN j (comAt x k) = b at *
              cases b
              · have HV : Hid (allN (j + 1) (comAt x k) = false) := by unfold Hid; rw [HS.out]; simp
                go_wp2_with fail
                go_quiet (fail)
                go_wp2_with fail
                go_roundw
                case rel => exact ⟨j + 1, by omega, by go_num, by rw [HV.out], below_drewN hb _⟩
                case measure => first | (simp [intOf]; done) | (simp [intOf]; omega)
              · by_cases h1 : z1 = z2
                · have b1 : (z1 == z2) = true := by simp [h1]
                  have HV : Hid (allN (j + 1) (comAt x k) = true) := by unfold Hid; rw [HS.out, decide_eq_true h1]; rfl
                  clear h1
                  go_wp2_with fail
                  go_quiet (fail)
                  go_wp2_with fail
                  go_roundw
                  case rel => exact ⟨j + 1, by omega, by go_num, by rw [HV.out], below_drewN hb _⟩
                  case measure => first | (simp [intOf]; done) | (simp [intOf]; omega)
                · have b1 : (z1 == z2) = false := by simp [h1]
                  have HV : Hid (allN (j + 1) (comAt x k) = false) := by unfold Hid; rw [HS.out, decide_eq_false h1]; simp
                  clear h1
                  go_wp2_with fail
                  go_quiet (fail)
                  go_wp2_with fail
                  go_roundw
                  case rel => exact ⟨j + 1, by omega, by go_num, by rw [HV.out], below_drewN hb _⟩
                  case measure => first | (simp [intOf]; done) | (simp [intOf]; omega)
            · obtain rfl : j = x.length := by omega
              obtain ⟨_, _, qc, _, _⟩ := HALL.out _ hb
              have HC := Lib.hid (cen_mem x k hkl)
              unfold cenB at HC
              go_wp2_with fail
              refine (b10Has_any _ (cenL x) _ _ qc (by omega)).mono ?_
              rintro e w8 ⟨rfl, hd⟩
              have hb1 := hd.below
              clear hd
              replace hb := hb.trans (hb1.mono hb.size)
              clear hb1
              rw [HC.out]
              clear HC
              generalize allN x.length (comAt x k) = b at *
              cases b
              all_goals
                go_wp2_with fail
                go_roundw
                case rel => exact ⟨k + 1, by omega, by go_num, hb⟩
                case measure => first | (simp [intOf]; done) | (simp [intOf]; omega)
        · obtain rfl : k = x.length := by omega
          obtain ⟨qg, _, _, _, _⟩ := HALL.out _ hb
          have c0 := qg.c
          by_cases h : (cenL x).length = x.length
          · have b1 : (((cenL x).length : Int) == (x.length : Int)) = true := by simp [h]
            have HC : Hid (comB x = true) := by unfold Hid comB; rw [HG.out, decide_eq_true h]; rfl
            clear h
            go_wp2_with fail
            refine (comY _ x _ true qg.r HG HC).mono ?_
            rintro e w10 ⟨rfl, hb1⟩
            replace hb := hb.trans (hb1.mono hb.size)
            clear hb1
            go_wp2_with fail
            go_ret
            exact ⟨rfl, HB1.out.trans (hb.mono hz7)⟩
          · have b1 : (((cenL x).length : Int) == (x.length : Int)) = false := by simp; omega
            have HC : Hid (comB x = false) := by unfold Hid comB; rw [HG.out, decide_eq_false h]; rfl
            clear h
            go_wp2_with fail
            refine (comY _ x _ false qg.r HG HC).mono ?_
            rintro e w10 ⟨rfl, hb1⟩
            replace hb := hb.trans (hb1.mono hb.size)
            clear hb1
            go_wp2_with fail
            go_ret
            exact ⟨rfl, HB1.out.trans (hb.mono hz7)⟩
end Go.Proofs.Ytghmpaegmicheaa
