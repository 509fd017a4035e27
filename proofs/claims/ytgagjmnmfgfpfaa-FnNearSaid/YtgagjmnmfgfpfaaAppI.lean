/- ApplyScript: the program's. -/
import Derived.Test.YtgagjmnmfgfpfaaApp
namespace Go.Proofs.Ytgagjmnmfgfpfaa
open Go.RowKit

theorem wordOk_is (s : ByteArray) (m : Int) (w : World) (b : Bool) (h : Hid (digB s 36 m = b)) (hs : s.size ≤ 1048576) :
    Calls Try.prog 45 #[.string s, .int .i64 m] w fun e w' => e = .returned (.bool b) ∧ Below w.heap.size w w' := by
  have := wordOk_any s m w hs
  rw [h.out] at this; exact this
theorem l06Word_is (s : ByteArray) (m : Int) (w : World) (b : Bool) (h : Hid (digB s 36 m = b)) (hs : s.size ≤ 1048576) (hm : m ≤ 20) :
    Calls Try.prog 44 #[.string s, .int .i64 m] w fun e w' => e = .returned (.bool b) ∧ w = w' := by
  have := l06Word_any s m w hs hm
  rw [h.out] at this; exact this

set_option maxHeartbeats 4000000 in
set_option maxRecDepth 100000 in
theorem implAp_any (s a b : ByteArray) (w : World) (hs : s.size ≤ 1048576) (ha : a.size ≤ 1048576) (hb : b.size ≤ 1048576) :
    Calls Try.prog 17 #[.string s, .string a, .string b] w fun e w' => e = .returned (apV s a b) ∧ Below w.heap.size w w' := by
  cases h1 : digB a 36 20
  · have H1 := Lib.hid h1
    clear h1
    go_enter Try.func17, Try.ntmps17
    go_wp2_with fail
    refine (wordOk_is a 20 _ false H1 ha).mono ?_
    rintro e w1 ⟨rfl, hb1⟩
    go_wp2_with fail
    go_ret2
    exact ⟨by rw [apV_no1 H1.out]; rfl, hb1⟩
  have H1 := Lib.hid h1
  have ha' := digB_size h1
  clear h1
  cases h2 : digB b 36 20
  · have H2 := Lib.hid h2
    clear h2
    go_enter Try.func17, Try.ntmps17
    go_wp2_with fail
    refine (wordOk_is a 20 _ true H1 ha).mono ?_
    rintro e w1 ⟨rfl, hb1⟩
    go_wp2_with fail
    refine (wordOk_is b 20 _ false H2 hb).mono ?_
    rintro e w2 ⟨rfl, hb2⟩
    go_wp2_with fail
    go_ret2
    exact ⟨by rw [apV_no2 H2.out]; rfl, hb1.trans (hb2.mono hb1.size)⟩
  have H2 := Lib.hid h2
  have hb' := digB_size h2
  clear h2
  by_cases h40 : (s.size : Int) ≤ 40
  case neg =>
    have HR : Hid (apB s a b = false) := apB_long (by omega)
    go_enter Try.func17, Try.ntmps17
    go_wp2_with fail
    refine (wordOk_is a 20 _ true H1 ha).mono ?_
    rintro e w1 ⟨rfl, hb1⟩
    go_wp2_with fail
    refine (wordOk_is b 20 _ true H2 hb).mono ?_
    rintro e w2 ⟨rfl, hb2⟩
    go_wp2_with fail
    go_ret2
    exact ⟨by rw [apV_no3 HR.out]; rfl, hb1.trans (hb2.mono hb1.size)⟩
  clear hs
  go_enter Try.func17, Try.ntmps17
  go_wp2_with fail
  refine (wordOk_is a 20 _ true H1 ha).mono ?_
  rintro e w1 ⟨rfl, hb1⟩
  go_wp2_with fail
  refine (wordOk_is b 20 _ true H2 hb).mono ?_
  rintro e w2 ⟨rfl, hb2⟩
  have hbw := hb1.trans (hb2.mono hb1.size)
  clear hb1 hb2 ha hb
  go_wp2_with fail
  go_loopw [8, 9, 28] (fun iv kv tv wr => ∃ (t i k : Nat), t ≤ s.size ∧ tv = .int .i64 t ∧ iv = .int .i64 i ∧ kv = .int .i64 k ∧ i ≤ a.size ∧ k ≤ b.size ∧ t ≤ i + k ∧ Hid (runS a b ((bz s).drop t) i k = runS a b (bz s) 0 0) ∧ Below w.heap.size w wr) (fun _ _ tv _ => s.size - (intOf tv).toNat)
  case atStart => exact ⟨0, 0, 0, Nat.zero_le _, rfl, rfl, rfl, Nat.zero_le _, Nat.zero_le _, Nat.zero_le _, rfl, hbw⟩
  case round =>
    obtain ⟨t, i, k, ht, rfl, rfl, rfl, hia, hkb, htk, HRUN, hb⟩ := hrel
    clear hbw
    by_cases hlt : t < s.size
    · have HLT : t < (bz s).length := by rw [bz_len]; exact hlt
      have HCV := Lib.hid (bz_get s t hlt)
      have HS : Hid (∀ I K, apS a b i k (s[t].toNat : Int) = some (I, K) → runS a b ((bz s).drop (t + 1)) I K = runS a b (bz s) 0 0) := fun I K h => by
        rw [← HRUN.out, run_step HLT (by rw [HCV.out]; exact h)]
      have HN : Hid (apS a b i k (s[t].toNat : Int) = none → runS a b (bz s) 0 0 = none) := fun h => by
        rw [← HRUN.out, run_none HLT (by rw [HCV.out]; exact h)]
      have f1 : IntKind.i64.wrap ((i : Int) + 1) = (i : Int) + 1 := IntWalk.i64_in _ (by omega)
      have f2 : IntKind.i64.wrap ((k : Int) + 1) = (k : Int) + 1 := IntWalk.i64_in _ (by omega)
      have f3 : (0 : Int) ≤ (i : Int) := by omega
      have f4 : (0 : Int) ≤ (k : Int) := by omega
      have f5 : (0 : Int) ≤ (i : Int) + 1 := by omega
      have f6 : (0 : Int) ≤ (k : Int) + 1 := by omega
      have f7 : ((i : Int) + 1).toNat = i + 1 := by omega
      have f8 : ((k : Int) + 1).toNat = k + 1 := by omega
      clear HLT
      by_cases hi : i < a.size
      · have di : decide ((i : Int) < (a.size : Int)) = true := by simp; omega
        have di2 : (i : Int) < (a.size : Int) := by omega
        have hg1 := Lib.hid (bz_get a i hi)
        by_cases hk : k < b.size
        · have dk : decide ((k : Int) < (b.size : Int)) = true := by simp; omega
          have dk2 : (k : Int) < (b.size : Int) := by omega
          have hg2 := Lib.hid (bz_get b k hk)
          by_cases hc : (s[t].toNat : Int) = 61
          · have q61 : ((s[t].toNat : Int) == 61) = true := by rw [hc]; rfl
            have q83 : ((s[t].toNat : Int) == 83) = false := by rw [hc]; rfl
            have q68 : ((s[t].toNat : Int) == 68) = false := by rw [hc]; rfl
            have q73 : ((s[t].toNat : Int) == 73) = false := by rw [hc]; rfl
            have q88 : ((s[t].toNat : Int) == 88) = false := by rw [hc]; rfl
            have HC := Lib.hid hc
            clear hc
            by_cases hxy : (a[i].toNat : Int) = b[k].toNat
            · have HXY : Hid ((bz a).getD i 0 = (bz b).getD k 0) := by unfold Hid; rw [hg1.out, hg2.out]; exact hxy
              have e1 : ((a[i].toNat : Int) == b[k].toNat) = true := by simp [hxy]
              clear hxy
              have HR : Hid (runS a b ((bz s).drop (t + 1)) (i + 1) (k + 1) = runS a b (bz s) 0 0) := HS.out _ _ (by rw [HC.out, apS_eq, if_pos ⟨hi, hk, HXY.out⟩])
              go_wp2_with fail
              go_quiet (fail)
              go_wp2_with fail
              go_roundw
              case rel => exact ⟨t + 1, (i + 1), (k + 1), by omega, by go_num, by go_num, by go_num, by omega, by omega, by omega, HR, (by first | exact hb | exact below_drewN hb _ | exact below_drewN (below_drewN hb _) _ | exact below_drewN (below_drewN (below_drewN hb _) _) _)⟩
              case measure => first | (simp [intOf]; done) | (simp [intOf]; omega)
            · have HXY : Hid (¬ (bz a).getD i 0 = (bz b).getD k 0) := by unfold Hid; rw [hg1.out, hg2.out]; exact hxy
              have e1 : ((a[i].toNat : Int) == b[k].toNat) = false := by simp; omega
              clear hxy
              have HR : Hid (runS a b (bz s) 0 0 = none) := HN.out (by rw [HC.out, apS_eq, if_neg fun h => HXY.out h.2.2])
              go_wp2_with fail
              go_quiet (fail)
              go_wp2_with fail
              go_quiet (fail)
              go_wp2_with (fail)
              go_ret2
              exact ⟨by rw [apV_no3 (apB_none HR.out)]; rfl, (by first | exact hb | exact below_drewN hb _ | exact below_drewN (below_drewN hb _) _ | exact below_drewN (below_drewN (below_drewN hb _) _) _)⟩
          · by_cases hc2 : (s[t].toNat : Int) = 83
            · clear hc; rename (s[t].toNat : Int) = 83 => hc
              have q61 : ((s[t].toNat : Int) == 61) = false := by rw [hc]; rfl
              have q83 : ((s[t].toNat : Int) == 83) = true := by rw [hc]; rfl
              have q68 : ((s[t].toNat : Int) == 68) = false := by rw [hc]; rfl
              have q73 : ((s[t].toNat : Int) == 73) = false := by rw [hc]; rfl
              have q88 : ((s[t].toNat : Int) == 88) = false := by rw [hc]; rfl
              have HC := Lib.hid hc
              clear hc
              by_cases hxy : (a[i].toNat : Int) = b[k].toNat
              · have HXY : Hid ((bz a).getD i 0 = (bz b).getD k 0) := by unfold Hid; rw [hg1.out, hg2.out]; exact hxy
                have e1 : ((a[i].toNat : Int) != b[k].toNat) = false := by simp [hxy]
                clear hxy
                have HR : Hid (runS a b (bz s) 0 0 = none) := HN.out (by rw [HC.out, apS_turn, if_neg fun h => h.2.2 HXY.out])
                go_wp2_with fail
                go_quiet (fail)
                go_wp2_with fail
                go_quiet (fail)
                go_wp2_with (fail)
                go_ret2
                exact ⟨by rw [apV_no3 (apB_none HR.out)]; rfl, (by first | exact hb | exact below_drewN hb _ | exact below_drewN (below_drewN hb _) _ | exact below_drewN (below_drewN (below_drewN hb _) _) _)⟩
              · have HXY : Hid (¬ (bz a).getD i 0 = (bz b).getD k 0) := by unfold Hid; rw [hg1.out, hg2.out]; exact hxy
                have e1 : ((a[i].toNat : Int) != b[k].toNat) = true := by simp; omega
                clear hxy
                have HR : Hid (runS a b ((bz s).drop (t + 1)) (i + 1) (k + 1) = runS a b (bz s) 0 0) := HS.out _ _ (by rw [HC.out, apS_turn, if_pos ⟨hi, hk, HXY.out⟩])
                go_wp2_with fail
                go_quiet (fail)
                go_wp2_with fail
                go_quiet (fail)
                go_wp2_with (fail)
                go_roundw
                case rel => exact ⟨t + 1, (i + 1), (k + 1), by omega, by go_num, by go_num, by go_num, by omega, by omega, by omega, HR, (by first | exact hb | exact below_drewN hb _ | exact below_drewN (below_drewN hb _) _ | exact below_drewN (below_drewN (below_drewN hb _) _) _)⟩
                case measure => first | (simp [intOf]; done) | (simp [intOf]; omega)
            · by_cases hc3 : (s[t].toNat : Int) = 68
              · clear hc hc2; rename (s[t].toNat : Int) = 68 => hc
                have q61 : ((s[t].toNat : Int) == 61) = false := by rw [hc]; rfl
                have q83 : ((s[t].toNat : Int) == 83) = false := by rw [hc]; rfl
                have q68 : ((s[t].toNat : Int) == 68) = true := by rw [hc]; rfl
                have q73 : ((s[t].toNat : Int) == 73) = false := by rw [hc]; rfl
                have q88 : ((s[t].toNat : Int) == 88) = false := by rw [hc]; rfl
                have HC := Lib.hid hc
                clear hc
                have HR : Hid (runS a b ((bz s).drop (t + 1)) (i + 1) k = runS a b (bz s) 0 0) := HS.out _ _ (by rw [HC.out, apS_drop, if_pos hi])
                go_wp2_with fail
                go_quiet (fail)
                go_wp2_with fail
                go_quiet (fail)
                go_wp2_with (fail)
                go_roundw
                case rel => exact ⟨t + 1, (i + 1), k, by omega, by go_num, by go_num, by go_num, by omega, by omega, by omega, HR, (by first | exact hb | exact below_drewN hb _ | exact below_drewN (below_drewN hb _) _ | exact below_drewN (below_drewN (below_drewN hb _) _) _)⟩
                case measure => first | (simp [intOf]; done) | (simp [intOf]; omega)
              · by_cases hc4 : (s[t].toNat : Int) = 73
                · clear hc hc2 hc3; rename (s[t].toNat : Int) = 73 => hc
                  have q61 : ((s[t].toNat : Int) == 61) = false := by rw [hc]; rfl
                  have q83 : ((s[t].toNat : Int) == 83) = false := by rw [hc]; rfl
                  have q68 : ((s[t].toNat : Int) == 68) = false := by rw [hc]; rfl
                  have q73 : ((s[t].toNat : Int) == 73) = true := by rw [hc]; rfl
                  have q88 : ((s[t].toNat : Int) == 88) = false := by rw [hc]; rfl
                  have HC := Lib.hid hc
                  clear hc
                  have HR : Hid (runS a b ((bz s).drop (t + 1)) i (k + 1) = runS a b (bz s) 0 0) := HS.out _ _ (by rw [HC.out, apS_put, if_pos hk])
                  go_wp2_with fail
                  go_quiet (fail)
                  go_wp2_with fail
                  go_quiet (fail)
                  go_wp2_with (fail)
                  go_roundw
                  case rel => exact ⟨t + 1, i, (k + 1), by omega, by go_num, by go_num, by go_num, by omega, by omega, by omega, HR, (by first | exact hb | exact below_drewN hb _ | exact below_drewN (below_drewN hb _) _ | exact below_drewN (below_drewN (below_drewN hb _) _) _)⟩
                  case measure => first | (simp [intOf]; done) | (simp [intOf]; omega)
                · by_cases hc5 : (s[t].toNat : Int) = 88
                  · clear hc hc2 hc3 hc4; rename (s[t].toNat : Int) = 88 => hc
                    have q61 : ((s[t].toNat : Int) == 61) = false := by rw [hc]; rfl
                    have q83 : ((s[t].toNat : Int) == 83) = false := by rw [hc]; rfl
                    have q68 : ((s[t].toNat : Int) == 68) = false := by rw [hc]; rfl
                    have q73 : ((s[t].toNat : Int) == 73) = false := by rw [hc]; rfl
                    have q88 : ((s[t].toNat : Int) == 88) = true := by rw [hc]; rfl
                    have HC := Lib.hid hc
                    clear hc
                    cases hsw : swA (bz a) (bz b) i k
                    · have HSW := Lib.hid hsw
                      clear hsw
                      have HR : Hid (runS a b (bz s) 0 0 = none) := HN.out (by rw [HC.out, apS_swap, if_neg (by rw [HSW.out]; simp)])
                      go_wp2_with fail
                      go_quiet (fail)
                      go_wp2_with fail
                      go_quiet (fail)
                      go_wp2_with (go_at_call 46; refine (swapped_is _ _ _ _ _ (by omega) (by omega) (by omega) (by omega) false HSW).mono ?_; rintro e w' ⟨rfl, n2, rfl⟩)
                      go_ret2
                      exact ⟨by rw [apV_no3 (apB_none HR.out)]; rfl, (by first | exact hb | exact below_drewN hb _ | exact below_drewN (below_drewN hb _) _ | exact below_drewN (below_drewN (below_drewN hb _) _) _)⟩
                    · have HSW := Lib.hid hsw
                      have hsb := swA_bd hsw
                      clear hsw
                      have HR : Hid (runS a b ((bz s).drop (t + 1)) (i + 2) (k + 2) = runS a b (bz s) 0 0) := HS.out _ _ (by rw [HC.out, apS_swap, if_pos HSW.out])
                      go_wp2_with fail
                      go_quiet (fail)
                      go_wp2_with fail
                      go_quiet (fail)
                      go_wp2_with (go_at_call 46; refine (swapped_is _ _ _ _ _ (by omega) (by omega) (by omega) (by omega) true HSW).mono ?_; rintro e w' ⟨rfl, n2, rfl⟩)
                      go_roundw
                      case rel => exact ⟨t + 1, (i + 2), (k + 2), by omega, by go_num, by go_num, by go_num, by omega, by omega, by omega, HR, (by first | exact hb | exact below_drewN hb _ | exact below_drewN (below_drewN hb _) _ | exact below_drewN (below_drewN (below_drewN hb _) _) _)⟩
                      case measure => first | (simp [intOf]; done) | (simp [intOf]; omega)
                  · have q61 : ((s[t].toNat : Int) == 61) = false := beq_eq_false_iff_ne.2 hc
                    have q83 : ((s[t].toNat : Int) == 83) = false := beq_eq_false_iff_ne.2 hc2
                    have q68 : ((s[t].toNat : Int) == 68) = false := beq_eq_false_iff_ne.2 hc3
                    have q73 : ((s[t].toNat : Int) == 73) = false := beq_eq_false_iff_ne.2 hc4
                    have q88 : ((s[t].toNat : Int) == 88) = false := beq_eq_false_iff_ne.2 hc5
                    have HR : Hid (runS a b (bz s) 0 0 = none) := HN.out (apS_other _ _ _ _ hc hc2 hc3 hc4 hc5)
                    clear hc hc2 hc3 hc4 hc5
                    go_wp2_with fail
                    go_quiet (fail)
                    go_wp2_with fail
                    go_quiet (fail)
                    go_wp2_with (fail)
                    go_ret2
                    exact ⟨by rw [apV_no3 (apB_none HR.out)]; rfl, (by first | exact hb | exact below_drewN hb _ | exact below_drewN (below_drewN hb _) _ | exact below_drewN (below_drewN (below_drewN hb _) _) _)⟩
        · have dk : decide ((k : Int) < (b.size : Int)) = false := by simp; omega
          have hnb : ¬ (i < a.size ∧ k < b.size) := fun h => hk h.2
          by_cases hc : (s[t].toNat : Int) = 61
          · have q61 : ((s[t].toNat : Int) == 61) = true := by rw [hc]; rfl
            have q83 : ((s[t].toNat : Int) == 83) = false := by rw [hc]; rfl
            have q68 : ((s[t].toNat : Int) == 68) = false := by rw [hc]; rfl
            have q73 : ((s[t].toNat : Int) == 73) = false := by rw [hc]; rfl
            have q88 : ((s[t].toNat : Int) == 88) = false := by rw [hc]; rfl
            have HC := Lib.hid hc
            clear hc
            have HR : Hid (runS a b (bz s) 0 0 = none) := HN.out (by rw [HC.out, apS_eq, if_neg fun h => hnb ⟨h.1, h.2.1⟩])
            go_wp2_with fail
            go_quiet (fail)
            go_wp2_with fail
            go_quiet (fail)
            go_wp2_with (fail)
            go_ret2
            exact ⟨by rw [apV_no3 (apB_none HR.out)]; rfl, (by first | exact hb | exact below_drewN hb _ | exact below_drewN (below_drewN hb _) _ | exact below_drewN (below_drewN (below_drewN hb _) _) _)⟩
          · by_cases hc2 : (s[t].toNat : Int) = 83
            · clear hc; rename (s[t].toNat : Int) = 83 => hc
              have q61 : ((s[t].toNat : Int) == 61) = false := by rw [hc]; rfl
              have q83 : ((s[t].toNat : Int) == 83) = true := by rw [hc]; rfl
              have q68 : ((s[t].toNat : Int) == 68) = false := by rw [hc]; rfl
              have q73 : ((s[t].toNat : Int) == 73) = false := by rw [hc]; rfl
              have q88 : ((s[t].toNat : Int) == 88) = false := by rw [hc]; rfl
              have HC := Lib.hid hc
              clear hc
              have HR : Hid (runS a b (bz s) 0 0 = none) := HN.out (by rw [HC.out, apS_turn, if_neg fun h => hnb ⟨h.1, h.2.1⟩])
              go_wp2_with fail
              go_quiet (fail)
              go_wp2_with fail
              go_quiet (fail)
              go_wp2_with (fail)
              go_ret2
              exact ⟨by rw [apV_no3 (apB_none HR.out)]; rfl, (by first | exact hb | exact below_drewN hb _ | exact below_drewN (below_drewN hb _) _ | exact below_drewN (below_drewN (below_drewN hb _) _) _)⟩
            · by_cases hc3 : (s[t].toNat : Int) = 68
              · clear hc hc2; rename (s[t].toNat : Int) = 68 => hc
                have q61 : ((s[t].toNat : Int) == 61) = false := by rw [hc]; rfl
                have q83 : ((s[t].toNat : Int) == 83) = false := by rw [hc]; rfl
                have q68 : ((s[t].toNat : Int) == 68) = true := by rw [hc]; rfl
                have q73 : ((s[t].toNat : Int) == 73) = false := by rw [hc]; rfl
                have q88 : ((s[t].toNat : Int) == 88) = false := by rw [hc]; rfl
                have HC := Lib.hid hc
                clear hc
                have HR : Hid (runS a b ((bz s).drop (t + 1)) (i + 1) k = runS a b (bz s) 0 0) := HS.out _ _ (by rw [HC.out, apS_drop, if_pos hi])
                go_wp2_with fail
                go_quiet (fail)
                go_wp2_with fail
                go_quiet (fail)
                go_wp2_with (fail)
                go_roundw
                case rel => exact ⟨t + 1, (i + 1), k, by omega, by go_num, by go_num, by go_num, by omega, by omega, by omega, HR, (by first | exact hb | exact below_drewN hb _ | exact below_drewN (below_drewN hb _) _ | exact below_drewN (below_drewN (below_drewN hb _) _) _)⟩
                case measure => first | (simp [intOf]; done) | (simp [intOf]; omega)
              · by_cases hc4 : (s[t].toNat : Int) = 73
                · clear hc hc2 hc3; rename (s[t].toNat : Int) = 73 => hc
                  have q61 : ((s[t].toNat : Int) == 61) = false := by rw [hc]; rfl
                  have q83 : ((s[t].toNat : Int) == 83) = false := by rw [hc]; rfl
                  have q68 : ((s[t].toNat : Int) == 68) = false := by rw [hc]; rfl
                  have q73 : ((s[t].toNat : Int) == 73) = true := by rw [hc]; rfl
                  have q88 : ((s[t].toNat : Int) == 88) = false := by rw [hc]; rfl
                  have HC := Lib.hid hc
                  clear hc
                  have HR : Hid (runS a b (bz s) 0 0 = none) := HN.out (by rw [HC.out, apS_put, if_neg hk])
                  go_wp2_with fail
                  go_quiet (fail)
                  go_wp2_with fail
                  go_quiet (fail)
                  go_wp2_with (fail)
                  go_ret2
                  exact ⟨by rw [apV_no3 (apB_none HR.out)]; rfl, (by first | exact hb | exact below_drewN hb _ | exact below_drewN (below_drewN hb _) _ | exact below_drewN (below_drewN (below_drewN hb _) _) _)⟩
                · by_cases hc5 : (s[t].toNat : Int) = 88
                  · clear hc hc2 hc3 hc4; rename (s[t].toNat : Int) = 88 => hc
                    have q61 : ((s[t].toNat : Int) == 61) = false := by rw [hc]; rfl
                    have q83 : ((s[t].toNat : Int) == 83) = false := by rw [hc]; rfl
                    have q68 : ((s[t].toNat : Int) == 68) = false := by rw [hc]; rfl
                    have q73 : ((s[t].toNat : Int) == 73) = false := by rw [hc]; rfl
                    have q88 : ((s[t].toNat : Int) == 88) = true := by rw [hc]; rfl
                    have HC := Lib.hid hc
                    clear hc
                    have HSW : Hid (swA (bz a) (bz b) i k = false) := by
                      unfold Hid
                      cases hsw : swA (bz a) (bz b) i k with
                      | false => rfl
                      | true => exact absurd (swA_bd hsw) (by omega)
                    have HR : Hid (runS a b (bz s) 0 0 = none) := HN.out (by rw [HC.out, apS_swap, if_neg (by rw [HSW.out]; simp)])
                    go_wp2_with fail
                    go_quiet (fail)
                    go_wp2_with fail
                    go_quiet (fail)
                    go_wp2_with (go_at_call 46; refine (swapped_is _ _ _ _ _ (by omega) (by omega) (by omega) (by omega) false HSW).mono ?_; rintro e w' ⟨rfl, n2, rfl⟩)
                    go_ret2
                    exact ⟨by rw [apV_no3 (apB_none HR.out)]; rfl, (by first | exact hb | exact below_drewN hb _ | exact below_drewN (below_drewN hb _) _ | exact below_drewN (below_drewN (below_drewN hb _) _) _)⟩
                  · have q61 : ((s[t].toNat : Int) == 61) = false := beq_eq_false_iff_ne.2 hc
                    have q83 : ((s[t].toNat : Int) == 83) = false := beq_eq_false_iff_ne.2 hc2
                    have q68 : ((s[t].toNat : Int) == 68) = false := beq_eq_false_iff_ne.2 hc3
                    have q73 : ((s[t].toNat : Int) == 73) = false := beq_eq_false_iff_ne.2 hc4
                    have q88 : ((s[t].toNat : Int) == 88) = false := beq_eq_false_iff_ne.2 hc5
                    have HR : Hid (runS a b (bz s) 0 0 = none) := HN.out (apS_other _ _ _ _ hc hc2 hc3 hc4 hc5)
                    clear hc hc2 hc3 hc4 hc5
                    go_wp2_with fail
                    go_quiet (fail)
                    go_wp2_with fail
                    go_quiet (fail)
                    go_wp2_with (fail)
                    go_ret2
                    exact ⟨by rw [apV_no3 (apB_none HR.out)]; rfl, (by first | exact hb | exact below_drewN hb _ | exact below_drewN (below_drewN hb _) _ | exact below_drewN (below_drewN (below_drewN hb _) _) _)⟩
      · have di : decide ((i : Int) < (a.size : Int)) = false := by simp; omega
        have hnb : ¬ (i < a.size ∧ k < b.size) := fun h => hi h.1
        by_cases hk : k < b.size
        · have dk : decide ((k : Int) < (b.size : Int)) = true := by simp; omega
          have dk2 : (k : Int) < (b.size : Int) := by omega
          by_cases hc : (s[t].toNat : Int) = 61
          · have q61 : ((s[t].toNat : Int) == 61) = true := by rw [hc]; rfl
            have q83 : ((s[t].toNat : Int) == 83) = false := by rw [hc]; rfl
            have q68 : ((s[t].toNat : Int) == 68) = false := by rw [hc]; rfl
            have q73 : ((s[t].toNat : Int) == 73) = false := by rw [hc]; rfl
            have q88 : ((s[t].toNat : Int) == 88) = false := by rw [hc]; rfl
            have HC := Lib.hid hc
            clear hc
            have HR : Hid (runS a b (bz s) 0 0 = none) := HN.out (by rw [HC.out, apS_eq, if_neg fun h => hnb ⟨h.1, h.2.1⟩])
            go_wp2_with fail
            go_quiet (fail)
            go_wp2_with fail
            go_quiet (fail)
            go_wp2_with (fail)
            go_ret2
            exact ⟨by rw [apV_no3 (apB_none HR.out)]; rfl, (by first | exact hb | exact below_drewN hb _ | exact below_drewN (below_drewN hb _) _ | exact below_drewN (below_drewN (below_drewN hb _) _) _)⟩
          · by_cases hc2 : (s[t].toNat : Int) = 83
            · clear hc; rename (s[t].toNat : Int) = 83 => hc
              have q61 : ((s[t].toNat : Int) == 61) = false := by rw [hc]; rfl
              have q83 : ((s[t].toNat : Int) == 83) = true := by rw [hc]; rfl
              have q68 : ((s[t].toNat : Int) == 68) = false := by rw [hc]; rfl
              have q73 : ((s[t].toNat : Int) == 73) = false := by rw [hc]; rfl
              have q88 : ((s[t].toNat : Int) == 88) = false := by rw [hc]; rfl
              have HC := Lib.hid hc
              clear hc
              have HR : Hid (runS a b (bz s) 0 0 = none) := HN.out (by rw [HC.out, apS_turn, if_neg fun h => hnb ⟨h.1, h.2.1⟩])
              go_wp2_with fail
              go_quiet (fail)
              go_wp2_with fail
              go_quiet (fail)
              go_wp2_with (fail)
              go_ret2
              exact ⟨by rw [apV_no3 (apB_none HR.out)]; rfl, (by first | exact hb | exact below_drewN hb _ | exact below_drewN (below_drewN hb _) _ | exact below_drewN (below_drewN (below_drewN hb _) _) _)⟩
            · by_cases hc3 : (s[t].toNat : Int) = 68
              · clear hc hc2; rename (s[t].toNat : Int) = 68 => hc
                have q61 : ((s[t].toNat : Int) == 61) = false := by rw [hc]; rfl
                have q83 : ((s[t].toNat : Int) == 83) = false := by rw [hc]; rfl
                have q68 : ((s[t].toNat : Int) == 68) = true := by rw [hc]; rfl
                have q73 : ((s[t].toNat : Int) == 73) = false := by rw [hc]; rfl
                have q88 : ((s[t].toNat : Int) == 88) = false := by rw [hc]; rfl
                have HC := Lib.hid hc
                clear hc
                have HR : Hid (runS a b (bz s) 0 0 = none) := HN.out (by rw [HC.out, apS_drop, if_neg hi])
                go_wp2_with fail
                go_quiet (fail)
                go_wp2_with fail
                go_quiet (fail)
                go_wp2_with (fail)
                go_ret2
                exact ⟨by rw [apV_no3 (apB_none HR.out)]; rfl, (by first | exact hb | exact below_drewN hb _ | exact below_drewN (below_drewN hb _) _ | exact below_drewN (below_drewN (below_drewN hb _) _) _)⟩
              · by_cases hc4 : (s[t].toNat : Int) = 73
                · clear hc hc2 hc3; rename (s[t].toNat : Int) = 73 => hc
                  have q61 : ((s[t].toNat : Int) == 61) = false := by rw [hc]; rfl
                  have q83 : ((s[t].toNat : Int) == 83) = false := by rw [hc]; rfl
                  have q68 : ((s[t].toNat : Int) == 68) = false := by rw [hc]; rfl
                  have q73 : ((s[t].toNat : Int) == 73) = true := by rw [hc]; rfl
                  have q88 : ((s[t].toNat : Int) == 88) = false := by rw [hc]; rfl
                  have HC := Lib.hid hc
                  clear hc
                  have HR : Hid (runS a b ((bz s).drop (t + 1)) i (k + 1) = runS a b (bz s) 0 0) := HS.out _ _ (by rw [HC.out, apS_put, if_pos hk])
                  go_wp2_with fail
                  go_quiet (fail)
                  go_wp2_with fail
                  go_quiet (fail)
                  go_wp2_with (fail)
                  go_roundw
                  case rel => exact ⟨t + 1, i, (k + 1), by omega, by go_num, by go_num, by go_num, by omega, by omega, by omega, HR, (by first | exact hb | exact below_drewN hb _ | exact below_drewN (below_drewN hb _) _ | exact below_drewN (below_drewN (below_drewN hb _) _) _)⟩
                  case measure => first | (simp [intOf]; done) | (simp [intOf]; omega)
                · by_cases hc5 : (s[t].toNat : Int) = 88
                  · clear hc hc2 hc3 hc4; rename (s[t].toNat : Int) = 88 => hc
                    have q61 : ((s[t].toNat : Int) == 61) = false := by rw [hc]; rfl
                    have q83 : ((s[t].toNat : Int) == 83) = false := by rw [hc]; rfl
                    have q68 : ((s[t].toNat : Int) == 68) = false := by rw [hc]; rfl
                    have q73 : ((s[t].toNat : Int) == 73) = false := by rw [hc]; rfl
                    have q88 : ((s[t].toNat : Int) == 88) = true := by rw [hc]; rfl
                    have HC := Lib.hid hc
                    clear hc
                    have HSW : Hid (swA (bz a) (bz b) i k = false) := by
                      unfold Hid
                      cases hsw : swA (bz a) (bz b) i k with
                      | false => rfl
                      | true => exact absurd (swA_bd hsw) (by omega)
                    have HR : Hid (runS a b (bz s) 0 0 = none) := HN.out (by rw [HC.out, apS_swap, if_neg (by rw [HSW.out]; simp)])
                    go_wp2_with fail
                    go_quiet (fail)
                    go_wp2_with fail
                    go_quiet (fail)
                    go_wp2_with (go_at_call 46; refine (swapped_is _ _ _ _ _ (by omega) (by omega) (by omega) (by omega) false HSW).mono ?_; rintro e w' ⟨rfl, n2, rfl⟩)
                    go_ret2
                    exact ⟨by rw [apV_no3 (apB_none HR.out)]; rfl, (by first | exact hb | exact below_drewN hb _ | exact below_drewN (below_drewN hb _) _ | exact below_drewN (below_drewN (below_drewN hb _) _) _)⟩
                  · have q61 : ((s[t].toNat : Int) == 61) = false := beq_eq_false_iff_ne.2 hc
                    have q83 : ((s[t].toNat : Int) == 83) = false := beq_eq_false_iff_ne.2 hc2
                    have q68 : ((s[t].toNat : Int) == 68) = false := beq_eq_false_iff_ne.2 hc3
                    have q73 : ((s[t].toNat : Int) == 73) = false := beq_eq_false_iff_ne.2 hc4
                    have q88 : ((s[t].toNat : Int) == 88) = false := beq_eq_false_iff_ne.2 hc5
                    have HR : Hid (runS a b (bz s) 0 0 = none) := HN.out (apS_other _ _ _ _ hc hc2 hc3 hc4 hc5)
                    clear hc hc2 hc3 hc4 hc5
                    go_wp2_with fail
                    go_quiet (fail)
                    go_wp2_with fail
                    go_quiet (fail)
                    go_wp2_with (fail)
                    go_ret2
                    exact ⟨by rw [apV_no3 (apB_none HR.out)]; rfl, (by first | exact hb | exact below_drewN hb _ | exact below_drewN (below_drewN hb _) _ | exact below_drewN (below_drewN (below_drewN hb _) _) _)⟩
        · have dk : decide ((k : Int) < (b.size : Int)) = false := by simp; omega
          by_cases hc : (s[t].toNat : Int) = 61
          · have q61 : ((s[t].toNat : Int) == 61) = true := by rw [hc]; rfl
            have q83 : ((s[t].toNat : Int) == 83) = false := by rw [hc]; rfl
            have q68 : ((s[t].toNat : Int) == 68) = false := by rw [hc]; rfl
            have q73 : ((s[t].toNat : Int) == 73) = false := by rw [hc]; rfl
            have q88 : ((s[t].toNat : Int) == 88) = false := by rw [hc]; rfl
            have HC := Lib.hid hc
            clear hc
            have HR : Hid (runS a b (bz s) 0 0 = none) := HN.out (by rw [HC.out, apS_eq, if_neg fun h => hnb ⟨h.1, h.2.1⟩])
            go_wp2_with fail
            go_quiet (fail)
            go_wp2_with fail
            go_quiet (fail)
            go_wp2_with (fail)
            go_ret2
            exact ⟨by rw [apV_no3 (apB_none HR.out)]; rfl, (by first | exact hb | exact below_drewN hb _ | exact below_drewN (below_drewN hb _) _ | exact below_drewN (below_drewN (below_drewN hb _) _) _)⟩
          · by_cases hc2 : (s[t].toNat : Int) = 83
            · clear hc; rename (s[t].toNat : Int) = 83 => hc
              have q61 : ((s[t].toNat : Int) == 61) = false := by rw [hc]; rfl
              have q83 : ((s[t].toNat : Int) == 83) = true := by rw [hc]; rfl
              have q68 : ((s[t].toNat : Int) == 68) = false := by rw [hc]; rfl
              have q73 : ((s[t].toNat : Int) == 73) = false := by rw [hc]; rfl
              have q88 : ((s[t].toNat : Int) == 88) = false := by rw [hc]; rfl
              have HC := Lib.hid hc
              clear hc
              have HR : Hid (runS a b (bz s) 0 0 = none) := HN.out (by rw [HC.out, apS_turn, if_neg fun h => hnb ⟨h.1, h.2.1⟩])
              go_wp2_with fail
              go_quiet (fail)
              go_wp2_with fail
              go_quiet (fail)
              go_wp2_with (fail)
              go_ret2
              exact ⟨by rw [apV_no3 (apB_none HR.out)]; rfl, (by first | exact hb | exact below_drewN hb _ | exact below_drewN (below_drewN hb _) _ | exact below_drewN (below_drewN (below_drewN hb _) _) _)⟩
            · by_cases hc3 : (s[t].toNat : Int) = 68
              · clear hc hc2; rename (s[t].toNat : Int) = 68 => hc
                have q61 : ((s[t].toNat : Int) == 61) = false := by rw [hc]; rfl
                have q83 : ((s[t].toNat : Int) == 83) = false := by rw [hc]; rfl
                have q68 : ((s[t].toNat : Int) == 68) = true := by rw [hc]; rfl
                have q73 : ((s[t].toNat : Int) == 73) = false := by rw [hc]; rfl
                have q88 : ((s[t].toNat : Int) == 88) = false := by rw [hc]; rfl
                have HC := Lib.hid hc
                clear hc
                have HR : Hid (runS a b (bz s) 0 0 = none) := HN.out (by rw [HC.out, apS_drop, if_neg hi])
                go_wp2_with fail
                go_quiet (fail)
                go_wp2_with fail
                go_quiet (fail)
                go_wp2_with (fail)
                go_ret2
                exact ⟨by rw [apV_no3 (apB_none HR.out)]; rfl, (by first | exact hb | exact below_drewN hb _ | exact below_drewN (below_drewN hb _) _ | exact below_drewN (below_drewN (below_drewN hb _) _) _)⟩
              · by_cases hc4 : (s[t].toNat : Int) = 73
                · clear hc hc2 hc3; rename (s[t].toNat : Int) = 73 => hc
                  have q61 : ((s[t].toNat : Int) == 61) = false := by rw [hc]; rfl
                  have q83 : ((s[t].toNat : Int) == 83) = false := by rw [hc]; rfl
                  have q68 : ((s[t].toNat : Int) == 68) = false := by rw [hc]; rfl
                  have q73 : ((s[t].toNat : Int) == 73) = true := by rw [hc]; rfl
                  have q88 : ((s[t].toNat : Int) == 88) = false := by rw [hc]; rfl
                  have HC := Lib.hid hc
                  clear hc
                  have HR : Hid (runS a b (bz s) 0 0 = none) := HN.out (by rw [HC.out, apS_put, if_neg hk])
                  go_wp2_with fail
                  go_quiet (fail)
                  go_wp2_with fail
                  go_quiet (fail)
                  go_wp2_with (fail)
                  go_ret2
                  exact ⟨by rw [apV_no3 (apB_none HR.out)]; rfl, (by first | exact hb | exact below_drewN hb _ | exact below_drewN (below_drewN hb _) _ | exact below_drewN (below_drewN (below_drewN hb _) _) _)⟩
                · by_cases hc5 : (s[t].toNat : Int) = 88
                  · clear hc hc2 hc3 hc4; rename (s[t].toNat : Int) = 88 => hc
                    have q61 : ((s[t].toNat : Int) == 61) = false := by rw [hc]; rfl
                    have q83 : ((s[t].toNat : Int) == 83) = false := by rw [hc]; rfl
                    have q68 : ((s[t].toNat : Int) == 68) = false := by rw [hc]; rfl
                    have q73 : ((s[t].toNat : Int) == 73) = false := by rw [hc]; rfl
                    have q88 : ((s[t].toNat : Int) == 88) = true := by rw [hc]; rfl
                    have HC := Lib.hid hc
                    clear hc
                    have HSW : Hid (swA (bz a) (bz b) i k = false) := by
                      unfold Hid
                      cases hsw : swA (bz a) (bz b) i k with
                      | false => rfl
                      | true => exact absurd (swA_bd hsw) (by omega)
                    have HR : Hid (runS a b (bz s) 0 0 = none) := HN.out (by rw [HC.out, apS_swap, if_neg (by rw [HSW.out]; simp)])
                    go_wp2_with fail
                    go_quiet (fail)
                    go_wp2_with fail
                    go_quiet (fail)
                    go_wp2_with (go_at_call 46; refine (swapped_is _ _ _ _ _ (by omega) (by omega) (by omega) (by omega) false HSW).mono ?_; rintro e w' ⟨rfl, n2, rfl⟩)
                    go_ret2
                    exact ⟨by rw [apV_no3 (apB_none HR.out)]; rfl, (by first | exact hb | exact below_drewN hb _ | exact below_drewN (below_drewN hb _) _ | exact below_drewN (below_drewN (below_drewN hb _) _) _)⟩
                  · have q61 : ((s[t].toNat : Int) == 61) = false := beq_eq_false_iff_ne.2 hc
                    have q83 : ((s[t].toNat : Int) == 83) = false := beq_eq_false_iff_ne.2 hc2
                    have q68 : ((s[t].toNat : Int) == 68) = false := beq_eq_false_iff_ne.2 hc3
                    have q73 : ((s[t].toNat : Int) == 73) = false := beq_eq_false_iff_ne.2 hc4
                    have q88 : ((s[t].toNat : Int) == 88) = false := beq_eq_false_iff_ne.2 hc5
                    have HR : Hid (runS a b (bz s) 0 0 = none) := HN.out (apS_other _ _ _ _ hc hc2 hc3 hc4 hc5)
                    clear hc hc2 hc3 hc4 hc5
                    go_wp2_with fail
                    go_quiet (fail)
                    go_wp2_with fail
                    go_quiet (fail)
                    go_wp2_with (fail)
                    go_ret2
                    exact ⟨by rw [apV_no3 (apB_none HR.out)]; rfl, (by first | exact hb | exact below_drewN hb _ | exact below_drewN (below_drewN hb _) _ | exact below_drewN (below_drewN (below_drewN hb _) _) _)⟩
    · have HE : Hid (runS a b (bz s) 0 0 = some (i, k)) := by
        unfold Hid
        rw [← HRUN.out, List.drop_of_length_le (by rw [bz_len]; omega)]
        rfl
      have HAP := Lib.hid (apB_some HE.out)
      by_cases e1 : i = a.size
      · have q1 : ((i : Int) != (a.size : Int)) = false := by simp [e1]
        rw [decide_eq_true e1] at HAP
        clear e1
        by_cases e2 : k = b.size
        · have q2 : ((k : Int) != (b.size : Int)) = false := by simp [e2]
          rw [decide_eq_true e2] at HAP
          clear e2
          go_wp2_with fail
          go_ret2
          exact ⟨by rw [apV_yes H1.out H2.out (by rw [HAP.out]; rfl)]; rfl, hb⟩
        · have q2 : ((k : Int) != (b.size : Int)) = true := by simp; omega
          rw [decide_eq_false e2] at HAP
          clear e2
          go_wp2_with fail
          go_ret2
          exact ⟨by rw [apV_no3 (by rw [HAP.out]; rfl)]; rfl, hb⟩
      · have q1 : ((i : Int) != (a.size : Int)) = true := by simp; omega
        rw [decide_eq_false e1] at HAP
        clear e1
        go_wp2_with fail
        go_ret2
        exact ⟨by rw [apV_no3 (by rw [HAP.out]; rfl)]; rfl, hb⟩
end Go.Proofs.Ytgagjmnmfgfpfaa
