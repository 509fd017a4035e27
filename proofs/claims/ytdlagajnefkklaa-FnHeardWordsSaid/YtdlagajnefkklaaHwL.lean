/- The law FnHeardWords: for every input. -/
import Derived.Test.YtdlagajnefkklaaHwP
import Derived.Test.YtdlagajnefkklaaB10
namespace Go.Proofs.Ytdlagajnefkklaa
open Go.RowKit

set_option maxHeartbeats 4000000 in
set_option maxRecDepth 100000 in
theorem lawHeard_any (v0 v1 : Value) (xs ys : List Int) (w : World) (hx : RK .u8 w v0 xs ∧ (∀ x ∈ xs, (Lit.int .u8 x).wf = true) ∧ xs.length ≤ maxLen)
    (hy : RK .u8 w v1 ys ∧ (∀ x ∈ ys, (Lit.int .u8 x).wf = true) ∧ ys.length ≤ maxLen) :
    Calls Try.prog 8 #[v0, v1] w fun x w' => x = .returned (.bool true) ∧ Below w.heap.size w w' := by
  obtain ⟨hx, hxw, _⟩ := hx
  obtain ⟨hy, hyw, _⟩ := hy
  obtain ⟨a, c, rfl⟩ := hx.slice
  obtain ⟨b, d, rfl⟩ := hy.slice
  cases hs : longB xs.length ys.length
  case true =>
    have HS := Lib.hid hs
    clear hx hy hs
    go_enter Try.func8, Try.ntmps8
    go_wp2_with fail
    refine (b10Long_any _ _ _ _ _ _ _).mono ?_
    rintro e w' ⟨rfl, rfl⟩
    rw [HS.out]
    go_wp2_with fail
    go_ret
    exact ⟨rfl, Below.refl _ _⟩
  obtain ⟨hxm, hym⟩ := longB_no hs
  have HS := Lib.hid hs
  clear hs
  have HX : Hid (∀ wr, Below w.heap.size w wr → RK .u8 wr (.slice a xs.length c) xs) := fun wr h => hx.later h
  have HY : Hid (∀ wr, Below w.heap.size w wr → RK .u8 wr (.slice b ys.length d) ys) := fun wr h => hy.later h
  clear hx hy
  have hb := Below.refl w.heap.size w
  go_enter Try.func8, Try.ntmps8
  go_wp2_with fail
  refine (b10Long_any _ _ _ _ _ _ _).mono ?_
  rintro e w' ⟨rfl, rfl⟩
  rw [HS.out]
  go_wp2_with fail
  refine (b10Heard_any _ xs _ (HX.out _ hb) hxw hxm).mono ?_
  rintro e w1 ⟨s, rfl, hls, hs6, hb1⟩
  replace hb := hb.trans (hb1.mono hb.size)
  clear hb1
  go_wp2_with fail
  refine (b10Heard_any _ ys _ (HY.out _ hb) hyw hym).mono ?_
  rintro e w2 ⟨t, rfl, hlt, ht6, hb1⟩
  replace hb := hb.trans (hb1.mono hb.size)
  clear hb1
  have HLS := Lib.hid hls
  have HLT := Lib.hid hlt
  clear hls hlt
  go_wp2_with fail
  refine (b10Lex_any _ xs _ (HX.out _ hb) hxw hxm).mono ?_
  rintro e w3 ⟨la, l, lc, rfl, hrs, hlx, hb1⟩
  have HLX := Lib.hid hlx
  have h2 := lex_sh hlx
  have hn := h2.2
  have HSH := Lib.hid h2.1
  replace hb := hb.trans (hb1.mono hb.size)
  clear hb1
  clear hlx h2
  have HB1 := Lib.hid hb
  have HRS : Hid (∀ wr, Below w3.heap.size w3 wr → RS wr (.slice la l.length lc) l) := fun wr h => hrs.later h
  have HY3 : Hid (∀ wr, Below w3.heap.size w3 wr → RK .u8 wr (.slice b ys.length d) ys) := fun wr h => HY.out _ (HB1.out.trans (h.mono HB1.out.size))
  have hz3 : w.heap.size ≤ w3.heap.size := HB1.out.size
  clear hrs hb HX HY
  have hb := Below.refl w3.heap.size w3
  go_wp2_with fail
  refine (b10At_any _ ys 0 l.length _ (HY3.out _ hb) hyw hym (by omega) (by omega)).mono ?_
  rintro e w4 ⟨ci, rfl, hci, hd⟩
  have hci : ci < l.length := by omega
  have hb1 := hd.below
  clear hd
  replace hb := hb.trans (hb1.mono hb.size)
  clear hb1
  obtain ⟨g, off, rfl, hg, hcc⟩ := (HRS.out _ hb).at ci hci
  have HLC := Lib.hid (lex_let HLX.out hci)
  obtain ⟨cw, hcw⟩ : ∃ cw, cw = sAt l ci := ⟨_, rfl⟩
  have HCW := Lib.hid hcw
  rw [← hcw] at hcc HLC
  clear hcw
  go_wp2_with fail
  clear hcc
  refine (wdI s t _ HLS.out HLT.out).mono ?_
  rintro e w5 ⟨rfl, hb1⟩
  replace hb := hb.trans (hb1.mono hb.size)
  clear hb1
  go_wp2_with fail
  refine (wdI t s _ HLT.out HLS.out).mono ?_
  rintro e w6 ⟨rfl, hb1⟩
  replace hb := hb.trans (hb1.mono hb.size)
  clear hb1
  go_wp2_with fail
  refine (wdI s cw _ HLS.out HLC.out).mono ?_
  rintro e w7 ⟨rfl, hb1⟩
  replace hb := hb.trans (hb1.mono hb.size)
  clear hb1
  go_wp2_with fail
  refine (wdI cw t _ HLC.out HLT.out).mono ?_
  rintro e w8 ⟨rfl, hb1⟩
  replace hb := hb.trans (hb1.mono hb.size)
  clear hb1
  go_wp2_with fail
  refine (gapY _ l _ (HRS.out _ hb) HLX).mono ?_
  rintro e w9 ⟨gd, gi, gk, rfl, G, hb1⟩
  replace hb := hb.trans (hb1.mono hb.size)
  clear hb1
  have hgl := G.lt
  have hgp := G.pos
  have HG := Lib.hid G
  clear G
  have hsy := D_symm t s
  have htr := D_tri s t cw
  have hz0 := D_zero s t
  have hle1 := D_le s t
  have hle2 := D_le s cw
  have hle3 := D_le cw t
  have hcs := HSH.out ci hci
  rw [← HCW.out] at hcs
  rw [hsy]
  clear hsy
  generalize D s t = dx at *
  generalize D s cw = du at *
  generalize D cw t = dv at *
  have hk1 : (gk : Int) < (l.length : Int) := by omega
  by_cases hst : s = t
  · have hdx : dx = 0 := hz0.2 hst
    subst hst
    subst hdx
    clear hz0
    have e1 := str_eq s
    go_wp2_with fail
    refine (lexY _ l _ (HRS.out _ hb) HLX).mono ?_
    rintro e w10 ⟨rfl, rfl⟩
    have hci1 := (HRS.out _ hb).at gi (by omega)
    obtain ⟨g1, o1, ee, hgl1, hcc1⟩ := hci1
    simp only [Option.some.injEq, Addr.mk.injEq, and_true] at ee
    obtain ⟨rfl, rfl⟩ := ee
    obtain ⟨g2, o2, ee, _, hcc2⟩ := (HRS.out _ hb).at gk (by omega)
    simp only [Option.some.injEq, Addr.mk.injEq, and_true] at ee
    obtain ⟨rfl, rfl⟩ := ee
    have HI1 := Lib.hid (lex_let HLX.out (show gi < l.length by omega))
    have HI2 := Lib.hid (lex_let HLX.out (show gk < l.length by omega))
    have HGE : Hid (gd = D (sAt l gi) (sAt l gk)) := HG.out.eq
    generalize sAt l gi = s1 at *
    generalize sAt l gk = s2 at *
    have hk0 : (gi : Int) < (l.length : Int) := by omega
    go_wp2_with fail
    go_region_held3 (fun w' => w'.cell? ⟨g, off + gi, none⟩ = some (.string s1) ∧ w'.cell? ⟨g, off + gk, none⟩ = some (.string s2)) (go_keep)
      (first | (go_at_call 21; refine (wdI s1 s2 _ HI1.out HI2.out).mono ?_; rintro e w11 ⟨rfl, hb3⟩; replace hcc1 := (hb3.cell (p := ⟨g, off + gi, none⟩) hgl1).trans hcc1; replace hcc2 := (hb3.cell (p := ⟨g, off + gk, none⟩) hgl1).trans hcc2))
    have hb1 := (Below.refl w9.heap.size w9).drew.trans hb3
    clear hb3 hcc1 hcc2
    replace hb := hb.trans (hb1.mono hb.size)
    clear hb1
    rw [← HGE.out]
    obtain ⟨m, hm⟩ : ∃ m : Nat, ((gd : Int) - 1) / 2 = (m : Int) ∧ 2 * m < gd ∧ m ≤ 20 := ⟨(gd - 1) / 2, by omega, by omega, by omega⟩
    have hm1 := hm.1
    have hm2 : ((gd : Int) - 1).tdiv 2 = (m : Int) := by rw [Int.tdiv_eq_ediv_of_nonneg (by omega)]; exact hm1
    have HM := Lib.hid hm.2.1
    have HSF : Hid (∀ wx vx, RS wx vx l → Calls Try.prog 25 #[vx, .string cw, .int .i64 m] wx fun e w' => e = .returned (.tuple #[.int .i64 ci, .bool true]) ∧ Below wx.heap.size wx w') := fun wx vx h => by
      rw [HCW.out]; exact hearSelf vx l gd gi gk m ci wx h HLX HG.out HM.out hci
    have hm20 := hm.2.2
    clear hm
    go_wp2_with fail
    refine (HSF.out _ _ (HRS.out _ hb)).mono ?_
    rintro e w12 ⟨rfl, hb1⟩
    replace hb := hb.trans (hb1.mono hb.size)
    clear hb1
    obtain ⟨g3, o3, ee, _, hcc⟩ := (HRS.out _ hb).at ci hci
    simp only [Option.some.injEq, Addr.mk.injEq, and_true] at ee
    obtain ⟨rfl, rfl⟩ := ee
    rw [← HCW.out] at hcc
    have e3 := str_eq cw
    have hci0 : (ci : Int) < (l.length : Int) := by omega
    go_wp2_with fail
    clear hcc
    refine (hearAny _ l s gd gi gk m _ (HRS.out _ hb) HLX HLS.out HG.out HM.out).mono ?_
    rintro e w13 ⟨nz, nb, rfl, HF, hb1⟩
    replace hb := hb.trans (hb1.mono hb.size)
    clear hb1
    clear hm1 hm2 hk0 hk1 hci0 e3
    go_wp2_with fail
    go_loopw [28, 29] (fun cv jv wr => ∃ j : Nat, j ≤ l.length ∧ jv = .int .i64 j ∧ cv = .int .i64 ((hrP l s m j).length : Nat) ∧ Below w3.heap.size w3 wr) (fun _ jv _ => l.length - (intOf jv).toNat)
    case atStart => exact ⟨0, Nat.zero_le _, rfl, rfl, hb⟩
    case round =>
      clear hb
      obtain ⟨j, hj, rfl, rfl, hb⟩ := hrel
      by_cases hjl : j < l.length
      · obtain ⟨g3, o3, ee, _, hcj⟩ := (HRS.out _ hb).at j hjl
        simp only [Option.some.injEq, Addr.mk.injEq, and_true] at ee
        obtain ⟨rfl, rfl⟩ := ee
        have HLJ := Lib.hid (lex_let HLX.out hjl)
        have HD : Hid (hrB l s m j = decide ((D (sAt l j) s : Int) ≤ m)) := rfl
        have HC : Hid (Calls Try.prog 20 #[.string (sAt l j), .string s] wr fun e w' => e = .returned (.tuple #[.int .i64 (D (sAt l j) s : Nat), .bool true]) ∧ Below wr.heap.size wr w') := wdS (sAt l j) s wr HLJ.out HLS.out
        have hle := D_le (sAt l j) s
        have hsj := HSH.out j hjl
        have hlen := hrP_len l s m j
        generalize D (sAt l j) s = dj at *
        generalize sAt l j = sj at *
        go_wp2_with fail
        refine HC.out.mono ?_
        rintro e w14 ⟨rfl, hb1⟩
        replace hb := hb.trans (hb1.mono hb.size)
        clear hb1 hcj HC
        by_cases hdm : (dj : Int) ≤ m
        · have HBJ : hrB l s m j = true := by rw [HD.out]; exact decide_eq_true hdm
          obtain ⟨hnz, hnb⟩ := HF.out.yes j hjl HBJ
          have hnz2 : (nz != (j : Int)) = false := by rw [hnz]; simp
          have HLN : Hid ((((hrP l s m (j + 1)).length : Nat) : Int) = ((hrP l s m j).length : Int) + 1) := by unfold Hid; rw [hrP_yes HBJ]; simp
          cases nb
          · cases hnb
          clear hnz hnb HBJ
          generalize (hrP l s m j).length = q at *
          go_wp2_with fail
          go_roundw
          case rel => exact ⟨j + 1, by omega, by go_num, by rw [HLN.out], hb⟩
          case measure => first | (simp [intOf]; done) | (simp [intOf]; omega)
        · have HBJ : hrB l s m j = false := by rw [HD.out]; exact decide_eq_false hdm
          have HLN : Hid (hrP l s m (j + 1) = hrP l s m j) := hrP_no HBJ
          clear HBJ
          have HLN2 : Hid (((hrP l s m (j + 1)).length : Int) = ((hrP l s m j).length : Int)) := by unfold Hid; rw [HLN.out]
          clear HLN
          generalize (hrP l s m j).length = q at *
          go_wp2_with fail
          go_roundw
          case rel => exact ⟨j + 1, by omega, by go_num, by rw [HLN2.out], hb⟩
          case measure => first | (simp [intOf]; done) | (simp [intOf]; omega)
      · obtain rfl : j = l.length := by omega
        have hcn := HF.out.cnt
        have hlen := hrP_len l s m l.length
        by_cases h1 : (hrP l s m l.length).length = 1
        · rw [decide_eq_true h1] at hcn
          rw [h1]
          subst hcn
          go_wp2_with fail
          go_ret
          exact ⟨rfl, HB1.out.trans (hb.mono hz3)⟩
        · rw [decide_eq_false h1] at hcn
          subst hcn
          generalize (hrP l s m l.length).length = q at *
          have h1' : ((q : Int) == 1) = false := by simp; omega
          go_wp2_with fail
          go_ret
          exact ⟨rfl, HB1.out.trans (hb.mono hz3)⟩
  · have hdx : dx ≠ 0 := fun h => hst (hz0.1 h)
    have e1 := str_ne hst
    have e2 : ((dx : Int) == 0) = false := by simp; omega
    clear hz0 hst
    go_wp2_with fail
    refine (lexY _ l _ (HRS.out _ hb) HLX).mono ?_
    rintro e w10 ⟨rfl, rfl⟩
    have hci1 := (HRS.out _ hb).at gi (by omega)
    obtain ⟨g1, o1, ee, hgl1, hcc1⟩ := hci1
    simp only [Option.some.injEq, Addr.mk.injEq, and_true] at ee
    obtain ⟨rfl, rfl⟩ := ee
    obtain ⟨g2, o2, ee, _, hcc2⟩ := (HRS.out _ hb).at gk (by omega)
    simp only [Option.some.injEq, Addr.mk.injEq, and_true] at ee
    obtain ⟨rfl, rfl⟩ := ee
    have HI1 := Lib.hid (lex_let HLX.out (show gi < l.length by omega))
    have HI2 := Lib.hid (lex_let HLX.out (show gk < l.length by omega))
    have HGE : Hid (gd = D (sAt l gi) (sAt l gk)) := HG.out.eq
    generalize sAt l gi = s1 at *
    generalize sAt l gk = s2 at *
    have hk0 : (gi : Int) < (l.length : Int) := by omega
    go_wp2_with fail
    go_region_held3 (fun w' => w'.cell? ⟨g, off + gi, none⟩ = some (.string s1) ∧ w'.cell? ⟨g, off + gk, none⟩ = some (.string s2)) (go_keep)
      (first | (go_at_call 21; refine (wdI s1 s2 _ HI1.out HI2.out).mono ?_; rintro e w11 ⟨rfl, hb3⟩; replace hcc1 := (hb3.cell (p := ⟨g, off + gi, none⟩) hgl1).trans hcc1; replace hcc2 := (hb3.cell (p := ⟨g, off + gk, none⟩) hgl1).trans hcc2))
    have hb1 := (Below.refl w9.heap.size w9).drew.trans hb3
    clear hb3 hcc1 hcc2
    replace hb := hb.trans (hb1.mono hb.size)
    clear hb1
    rw [← HGE.out]
    obtain ⟨m, hm⟩ : ∃ m : Nat, ((gd : Int) - 1) / 2 = (m : Int) ∧ 2 * m < gd ∧ m ≤ 20 := ⟨(gd - 1) / 2, by omega, by omega, by omega⟩
    have hm1 := hm.1
    have hm2 : ((gd : Int) - 1).tdiv 2 = (m : Int) := by rw [Int.tdiv_eq_ediv_of_nonneg (by omega)]; exact hm1
    have HM := Lib.hid hm.2.1
    have HSF : Hid (∀ wx vx, RS wx vx l → Calls Try.prog 25 #[vx, .string cw, .int .i64 m] wx fun e w' => e = .returned (.tuple #[.int .i64 ci, .bool true]) ∧ Below wx.heap.size wx w') := fun wx vx h => by
      rw [HCW.out]; exact hearSelf vx l gd gi gk m ci wx h HLX HG.out HM.out hci
    have hm20 := hm.2.2
    clear hm
    go_wp2_with fail
    refine (HSF.out _ _ (HRS.out _ hb)).mono ?_
    rintro e w12 ⟨rfl, hb1⟩
    replace hb := hb.trans (hb1.mono hb.size)
    clear hb1
    obtain ⟨g3, o3, ee, _, hcc⟩ := (HRS.out _ hb).at ci hci
    simp only [Option.some.injEq, Addr.mk.injEq, and_true] at ee
    obtain ⟨rfl, rfl⟩ := ee
    rw [← HCW.out] at hcc
    have e3 := str_eq cw
    have hci0 : (ci : Int) < (l.length : Int) := by omega
    go_wp2_with fail
    clear hcc
    refine (hearAny _ l t gd gi gk m _ (HRS.out _ hb) HLX HLT.out HG.out HM.out).mono ?_
    rintro e w13 ⟨nz, nb, rfl, HF, hb1⟩
    replace hb := hb.trans (hb1.mono hb.size)
    clear hb1
    clear hm1 hm2 hk0 hk1 hci0 e3
    go_wp2_with fail
    go_loopw [28, 29] (fun cv jv wr => ∃ j : Nat, j ≤ l.length ∧ jv = .int .i64 j ∧ cv = .int .i64 ((hrP l t m j).length : Nat) ∧ Below w3.heap.size w3 wr) (fun _ jv _ => l.length - (intOf jv).toNat)
    case atStart => exact ⟨0, Nat.zero_le _, rfl, rfl, hb⟩
    case round =>
      clear hb
      obtain ⟨j, hj, rfl, rfl, hb⟩ := hrel
      by_cases hjl : j < l.length
      · obtain ⟨g3, o3, ee, _, hcj⟩ := (HRS.out _ hb).at j hjl
        simp only [Option.some.injEq, Addr.mk.injEq, and_true] at ee
        obtain ⟨rfl, rfl⟩ := ee
        have HLJ := Lib.hid (lex_let HLX.out hjl)
        have HD : Hid (hrB l t m j = decide ((D (sAt l j) t : Int) ≤ m)) := rfl
        have HC : Hid (Calls Try.prog 20 #[.string (sAt l j), .string t] wr fun e w' => e = .returned (.tuple #[.int .i64 (D (sAt l j) t : Nat), .bool true]) ∧ Below wr.heap.size wr w') := wdS (sAt l j) t wr HLJ.out HLT.out
        have hle := D_le (sAt l j) t
        have hsj := HSH.out j hjl
        have hlen := hrP_len l t m j
        generalize D (sAt l j) t = dj at *
        generalize sAt l j = sj at *
        go_wp2_with fail
        refine HC.out.mono ?_
        rintro e w14 ⟨rfl, hb1⟩
        replace hb := hb.trans (hb1.mono hb.size)
        clear hb1 hcj HC
        by_cases hdm : (dj : Int) ≤ m
        · have HBJ : hrB l t m j = true := by rw [HD.out]; exact decide_eq_true hdm
          obtain ⟨hnz, hnb⟩ := HF.out.yes j hjl HBJ
          have hnz2 : (nz != (j : Int)) = false := by rw [hnz]; simp
          have HLN : Hid ((((hrP l t m (j + 1)).length : Nat) : Int) = ((hrP l t m j).length : Int) + 1) := by unfold Hid; rw [hrP_yes HBJ]; simp
          cases nb
          · cases hnb
          clear hnz hnb HBJ
          generalize (hrP l t m j).length = q at *
          go_wp2_with fail
          go_roundw
          case rel => exact ⟨j + 1, by omega, by go_num, by rw [HLN.out], hb⟩
          case measure => first | (simp [intOf]; done) | (simp [intOf]; omega)
        · have HBJ : hrB l t m j = false := by rw [HD.out]; exact decide_eq_false hdm
          have HLN : Hid (hrP l t m (j + 1) = hrP l t m j) := hrP_no HBJ
          clear HBJ
          have HLN2 : Hid (((hrP l t m (j + 1)).length : Int) = ((hrP l t m j).length : Int)) := by unfold Hid; rw [HLN.out]
          clear HLN
          generalize (hrP l t m j).length = q at *
          go_wp2_with fail
          go_roundw
          case rel => exact ⟨j + 1, by omega, by go_num, by rw [HLN2.out], hb⟩
          case measure => first | (simp [intOf]; done) | (simp [intOf]; omega)
      · obtain rfl : j = l.length := by omega
        have hcn := HF.out.cnt
        have hlen := hrP_len l t m l.length
        by_cases h1 : (hrP l t m l.length).length = 1
        · rw [decide_eq_true h1] at hcn
          rw [h1]
          subst hcn
          go_wp2_with fail
          go_ret
          exact ⟨rfl, HB1.out.trans (hb.mono hz3)⟩
        · rw [decide_eq_false h1] at hcn
          subst hcn
          generalize (hrP l t m l.length).length = q at *
          have h1' : ((q : Int) == 1) = false := by simp; omega
          go_wp2_with fail
          go_ret
          exact ⟨rfl, HB1.out.trans (hb.mono hz3)⟩
end Go.Proofs.Ytdlagajnefkklaa
