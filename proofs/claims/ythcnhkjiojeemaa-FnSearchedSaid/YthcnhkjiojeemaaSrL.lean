/- FnSearched: the law. -/
import Derived.Test.YthcnhkjiojeemaaSkG
import Derived.Test.YthcnhkjiojeemaaSml
import Derived.Test.YthcnhkjiojeemaaR8
namespace Go.Proofs.Ythcnhkjiojeemaa
open Go.RowKit

theorem small_mkS (n : Nat) (t : Nat → Nat → Int) (h : n ≤ 1048576) : Small (mkT n t) := fun j hj => by rw [mkT_len] at hj; rw [mkT_rowlen _ _ _ hj]; exact h
theorem ta5 : ∃ u, Ta 5 u := ⟨fun i j => (((2 * i + j) % 5 : Nat) : Int), (taB_mk.1 (by decide +kernel : taB (mkT 5 fun i j => (((2 * i + j) % 5 : Nat) : Int)) = true)).2⟩
set_option maxRecDepth 100000 in
set_option maxHeartbeats 4000000 in
theorem lawSearched_any (v0 v1 : Value) (xs ys : List Int) (w : World) (hx : RK .u8 w v0 xs ∧ (∀ x ∈ xs, (Lit.int .u8 x).wf = true) ∧ xs.length ≤ maxLen)
    (hy : RK .u8 w v1 ys ∧ (∀ x ∈ ys, (Lit.int .u8 x).wf = true) ∧ ys.length ≤ maxLen) :
    Calls Try.prog 3 #[v0, v1] w fun x w' => x = .returned (.bool true) ∧ Below w.heap.size w w' := by
  obtain ⟨hx, hxw, _⟩ := hx
  obtain ⟨hy, hyw, _⟩ := hy
  obtain ⟨a, c, rfl⟩ := hx.slice
  obtain ⟨b, d, rfl⟩ := hy.slice
  cases hs : long8 xs.length ys.length
  case true =>
    have HS := Lib.hid hs
    clear hx hy hs
    go_enter Try.func3, Try.ntmps3
    go_wp2_with fail
    refine (r8Long_any _ _ _ _ _ _ _).mono ?_
    rintro e w' ⟨rfl, rfl⟩
    rw [HS.out]
    go_wp2_with fail
    go_ret
    exact ⟨rfl, Below.refl _ _⟩
  have hm48 : xs.length ≤ 48 ∧ ys.length ≤ 48 := by unfold long8 at hs; simp at hs; omega
  obtain ⟨hxm, hym⟩ := hm48
  have HS := Lib.hid hs
  clear hs
  have hb := Below.refl w.heap.size w
  have HX : Hid (∀ wr, Below w.heap.size w wr → RK .u8 wr (.slice a xs.length c) xs) := fun wr h => hx.later h
  have HY : Hid (∀ wr, Below w.heap.size w wr → RK .u8 wr (.slice b ys.length d) ys) := fun wr h => hy.later h
  clear hx hy
  go_enter Try.func3, Try.ntmps3
  go_wp2_with fail
  refine (r8Long_any _ _ _ _ _ _ _).mono ?_
  rintro e w' ⟨rfl, rfl⟩
  rw [HS.out]
  go_wp2_with fail
  refine (r8Small_any _ xs _ (HX.out _ hb) hxw (by omega)).mono ?_
  rintro e w1 ⟨v1, n, t, rfl, hn, h1, hs, hb1⟩
  replace hb := hb.trans (hb1.mono hb.size)
  clear hb1 HX HY
  have HQ := Lib.hid hs
  obtain ⟨G1, O1, C1, H1, F1, P1, rfl, hsq1⟩ := h1.sqn (by rw [mkT_len]; exact hn.1) (fun i hi => by rw [mkT_len] at *; exact mkT_rowlen _ _ _ hi)
  have H1R := Lib.hid h1
  have H1S : Hid (∀ wx, Below w1.heap.size w1 wx → SqAt G1 O1 H1 F1 P1 (mkT n t) wx) := fun wx h => hsq1.later h
  rw [mkT_len] at *
  obtain ⟨bt, hbt⟩ : ∃ b, b = taB (mkT n t) := ⟨_, rfl⟩
  have HT1 : Hid (∀ wx, Below w1.heap.size w1 wx → Calls Try.prog 11 #[.slice (some ⟨G1, O1, none⟩) n C1] wx fun e w' => e = .returned (.bool bt) ∧ Below wx.heap.size wx w') := fun wx hbx => by
    have h2 := H1R.out.later hbx
    have := implTot_any _ _ wx h2 (by rw [mkT_len]; omega) (small_mkS _ _ (by omega))
    rw [← hbt] at this; exact this
  have HBT : Hid (bt = true → Ta n t) := fun h => (taB_mk.1 (hbt.symm.trans h)).2
  have HFI : Hid (∀ wx, Calls Try.prog 9 #[.int .i64 n] wx (FiPost n wx)) := fun wx => implFirst_any n wx hn
  have HFS : Hid (∀ wx, Calls Try.prog 10 #[.int .i64 n] wx (FtPost n wx)) := fun wx => specFirst_any n wx hn
  obtain ⟨hn1, hn5⟩ := hn
  have HB1 := Lib.hid hb
  have hz1 := hb.size
  clear hbt h1 hsq1 hs hb
  go_wp2_with fail
  refine (HFI.out _).mono ?_
  rintro e w2 ⟨v2, b1, rfl, HY1, HE1, hb⟩
  go_wp2_with fail
  refine (HFS.out _).mono ?_
  rintro e w3 ⟨v3, b2, rfl, _, HE2, hb1⟩
  have hb12 : b2 = b1 := by
    rw [Bool.eq_iff_iff, HE1.out, HE2.out]
  subst hb12
  cases b2
  case false =>
    replace hb := hb.trans (hb1.mono hb.size)
    have HNE : Hid (∀ u, ¬ Ta n u) := fun u hu => by have := HE1.out.2 ⟨u, hu⟩; cases this
    have hn4 : n ≤ 4 := by
      by_cases h : n = 5
      · subst h; obtain ⟨u, hu⟩ := ta5; exact absurd hu (HNE.out u)
      · omega
    have hbf : bt = false := by
      cases bt
      · rfl
      · exact absurd (HBT.out rfl) (HNE.out t)
    subst hbf
    clear HE1 HE2 HY1 hb1 HBT
    have hn4i : (n : Int) ≤ 4 := by omega
    have HCT : Hid (∀ wx, Calls Try.prog 12 #[.int .i64 n] wx (CtPost n wx)) := fun wx => implCount_any n wx ⟨hn1, hn4⟩
    go_wp2_with fail
    refine (HT1.out _ hb).mono ?_
    rintro e w4 ⟨rfl, hb1⟩
    replace hb := hb.trans (hb1.mono hb.size)
    clear hb1
    go_wp2_with fail
    refine (HCT.out _).mono ?_
    rintro e w9 ⟨cc, rfl, HC, hb1⟩
    have hcp : cc = 0 := HC.out.2 HNE.out
    subst hcp
    have hbf := HB1.out.trans ((hb.trans (hb1.mono hb.size)).mono hz1)
    have hcp : ¬ (0 : Int) < ((0 : Nat) : Int) := by omega
    clear hb1 hb
    go_wp2_with fail
    go_ret
    exact ⟨rfl, hbf⟩
  case true =>
    obtain ⟨F, hrF, hL⟩ := HY1.out rfl
    have HEX : Hid (∃ u, Ta n u) := HE1.out.1 rfl
    replace hrF := hrF.later hb1
    replace hb := hb.trans (hb1.mono hb.size)
    have HL := Lib.hid hL
    obtain ⟨G2, O2, C2, H2, F2, P2, rfl, hsq2⟩ := hrF.sqn (by rw [mkT_len]; exact hn1) (fun i hi => by rw [mkT_len] at *; exact mkT_rowlen _ _ _ hi)
    have HT2 : Hid (Calls Try.prog 11 #[.slice (some ⟨G2, O2, none⟩) (mkT n F).length C2] w3 fun e w' => e = .returned (.bool true) ∧ Below w3.heap.size w3 w') := by
      have := implTot_any _ _ w3 hrF (by rw [mkT_len]; omega) (small_mkS _ _ (by omega))
      rw [taB_mk.2 ⟨by omega, hL.c.ta⟩] at this; exact this
    have H2S : Hid (∀ wx, Below w3.heap.size w3 wx → SqAt G2 O2 H2 F2 P2 (mkT n F) wx) := fun wx h => hsq2.later h
    rw [mkT_len] at *
    have HB3 := Lib.hid hb
    have hz3 := hb.size
    clear HE1 HE2 HY1 hb1 hL hrF hsq2 hb
    go_wp2_with fail
    refine HT2.out.mono ?_
    rintro e w4 ⟨rfl, hb1⟩
    clear HT2
    go_wp2_with fail
    refine (HT1.out _ (HB3.out.trans (hb1.mono hz3))).mono ?_
    rintro e w5 ⟨rfl, hb2⟩
    have hb3 := hb1.trans (hb2.mono hb1.size)
    clear hb1 hb2
    cases bt
    case false =>
      have hb := HB1.out.trans ((HB3.out.trans (hb3.mono hz3)).mono hz1)
      clear hb3
      by_cases hn4 : n ≤ 4
      · have hn4i : (n : Int) ≤ 4 := by omega
        have HCT : Hid (∀ wx, Calls Try.prog 12 #[.int .i64 n] wx (CtPost n wx)) := fun wx => implCount_any n wx ⟨hn1, hn4⟩
        go_wp2_with fail
        refine (HCT.out _).mono ?_
        rintro e w9 ⟨cc, rfl, HC, hb1⟩
        replace hb := hb.trans (hb1.mono hb.size)
        have hcp : (0 : Int) < (cc : Int) := by
          have : cc ≠ 0 := fun e => by obtain ⟨u, hu⟩ := HEX.out; exact HC.out.1 e u hu
          omega
        clear hb1
        have hcn : 0 < cc := by omega
        go_wp2_with fail
        go_ret
        exact ⟨rfl, hb⟩
      · have hn4i : ¬ (n : Int) ≤ 4 := by omega
        have hn4j : (4 : Int) < (n : Int) := by omega
        go_wp2_with fail
        go_ret
        exact ⟨rfl, hb⟩
    case true =>
      have HTT := Lib.hid (HBT.out rfl)
      clear HBT
      go_wp2_with fail
      go_loopw [11] (fun iv wr => ∃ i : Nat, i ≤ n ∧ iv = .int .i64 i ∧ Hid (∀ a b, a < i → b < n → F a b = t a b) ∧ Below w3.heap.size w3 wr) (fun iv _ => n - (intOf iv).toNat)
      case atStart => exact ⟨0, Nat.zero_le _, rfl, Lib.hid (fun a b h => by omega), hb3⟩
      case round =>
        clear hb3
        obtain ⟨i, hi, rfl, HA, hb3⟩ := hrel
        by_cases hin : i < n
        · have hii : (i : Int) < (n : Int) := by omega
          go_wp2_with fail
          go_loopw [12] (fun jv wr => ∃ j : Nat, j ≤ n ∧ jv = .int .i64 j ∧ Hid (∀ b, b < j → F i b = t i b) ∧ Below w3.heap.size w3 wr) (fun jv _ => n - (intOf jv).toNat)
          case atStart => exact ⟨0, Nat.zero_le _, rfl, Lib.hid (fun b h => by omega), hb3⟩
          case round =>
            clear hb3
            obtain ⟨j, hj, rfl, HA2, hb3⟩ := hrel
            by_cases hjn : j < n
            · have hji : (j : Int) < (n : Int) := by omega
              have s1 := H1S.out _ (HB3.out.trans (hb3.mono hz3))
              have s2 := H2S.out _ hb3
              have r1 := s1.row i (by rw [mkT_len]; exact hin)
              have r2 := s1.cell i j (by rw [mkT_len]; exact hin) (by rw [mkT_len]; exact hjn)
              have r3 := s2.row i (by rw [mkT_len]; exact hin)
              have r4 := s2.cell i j (by rw [mkT_len]; exact hin) (by rw [mkT_len]; exact hjn)
              rw [mkT_len] at r1 r3
              rw [tb_mk hin hjn] at r2 r4
              have HD : Hid (t i j ≠ F i j → F i j < t i j) := fun hne => lex_diff (HL.out.le t (compl0 _ HTT.out)) hin hjn (fun a b ha hb hp => by
                rw [pos_before hb hjn] at hp
                rcases hp with hp | ⟨rfl, hp⟩
                · exact HA.out a b hp hb
                · exact HA2.out b hp) hne
              have HEQ : Hid (t i j = F i j → ∀ b, b < j + 1 → F i b = t i b) := fun he b hb => by
                by_cases e : b = j
                · subst e; exact he.symm
                · exact HA2.out b (by omega)
              clear s1 s2
              generalize t i j = z1 at *
              generalize F i j = z2 at *
              by_cases he : z1 = z2
              · have HE2 := Lib.hid (HEQ.out he)
                have hne : (z1 != z2) = false := by simp [he]
                clear he HD HEQ
                go_wp2_with fail
                go_quiet (fail)
                go_wp2_with fail
                go_roundw
                case rel => exact ⟨j + 1, by omega, by go_num, HE2, by first | exact hb3 | exact below_drewN hb3 _⟩
                case measure => first | (simp [intOf]; done) | (simp [intOf]; omega)
              · have hlt := HD.out he
                have hne : (z1 != z2) = true := by simp [he]
                have hd1 : decide (z2 < z1) = true := by simpa using hlt
                have hn6 : (n : Int) < 6 := by omega
                clear he HD HEQ
                go_wp2_with fail
                go_quiet (fail)
                have hb4 := below_drewN hb3 nq
                replace r1 : (wr.drewN nq).cell? _ = _ := r1
                replace r2 : (wr.drewN nq).cell? _ = _ := r2
                replace r3 : (wr.drewN nq).cell? _ = _ := r3
                replace r4 : (wr.drewN nq).cell? _ = _ := r4
                generalize wr.drewN nq = wq at *
                have hd2 : decide ((n : Int) < 6) = true := by simpa using hn6
                go_wp2_with fail
                go_quiet (fail)
                have hb := HB1.out.trans ((HB3.out.trans ((below_drewN hb4 nq).mono hz3)).mono hz1)
                clear hb3 hb4
                go_wp2_with fail
                go_ret
                exact ⟨rfl, hb⟩
            · obtain rfl : n = j := by omega
              go_wp2_with fail
              go_roundw
              case rel => exact ⟨i + 1, by omega, by go_num, Lib.hid (fun a b ha hb => by
                by_cases e : a = i
                · subst e; exact HA2.out b hb
                · exact HA.out a b (by omega) hb), hb3⟩
              case measure => first | (simp [intOf]; done) | (simp [intOf]; omega)
        · obtain rfl : n = i := by omega
          have hb := HB1.out.trans ((HB3.out.trans (hb3.mono hz3)).mono hz1)
          clear hb3
          by_cases hn4 : n ≤ 4
          · have hn4i : (n : Int) ≤ 4 := by omega
            have HCT : Hid (∀ wx, Calls Try.prog 12 #[.int .i64 n] wx (CtPost n wx)) := fun wx => implCount_any n wx ⟨hn1, hn4⟩
            go_wp2_with fail
            refine (HCT.out _).mono ?_
            rintro e w9 ⟨cc, rfl, HC, hb1⟩
            replace hb := hb.trans (hb1.mono hb.size)
            have hcp : (0 : Int) < (cc : Int) := by
              have : cc ≠ 0 := fun e => by obtain ⟨u, hu⟩ := HEX.out; exact HC.out.1 e u hu
              omega
            clear hb1
            have hcn : 0 < cc := by omega
            go_wp2_with fail
            go_ret
            exact ⟨rfl, hb⟩
          · have hn4i : ¬ (n : Int) ≤ 4 := by omega
            have hn4j : (4 : Int) < (n : Int) := by omega
            go_wp2_with fail
            go_ret
            exact ⟨rfl, hb⟩
end Go.Proofs.Ythcnhkjiojeemaa
