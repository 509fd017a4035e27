/- The reference's ValidBarcode. -/
import Derived.Test.YtjjohniabgamjaaBar
namespace Go.Proofs.Ytjjohniabgamjaa
open Go.RowKit

theorem l08Elements_is (p : ByteArray) (w : World) (hp : p.size ≤ 1048576) (hok : Hid (pok p = true)) :
    Calls Try.prog 50 #[.string p] w fun e w' => ∃ v, e = .returned v ∧ OI w.heap.size w' v (pw p) ∧ Below w.heap.size w w' := l08Elements_any p w hp (pok_okB hok.out)
theorem l08Sum_is (p : ByteArray) (v : Value) (w : World) (hok : Hid (pok p = true)) (hx : RI w v (pw p)) :
    Calls Try.prog 64 #[v] w fun e w' => e = .returned (.int .i64 (isum (pw p))) ∧ w = w' := l08Sum_any v _ w hx (pw_100 hok.out) (pw_len1 hok.out)
theorem barB_no3 {s r : ByteArray} {l : List ByteArray} {g : Int} (h : ¬ r.size % 2 = 1) : barB s r l g = false := by unfold barB barP; rw [decide_eq_false h]; simp

set_option maxRecDepth 100000 in
set_option maxHeartbeats 4000000 in
theorem l08Is_any (s r : ByteArray) (v : Value) (l : List ByteArray) (g : Int) (X : Nat) (w : World) (hbx : BX X s r v g w) (hx : RS w v l) (hs : s.size ≤ 1048576) (hr : r.size ≤ 1048576) (hm : l.length ≤ 1048576) (hz : ∀ k, k < l.length → (sAt l k).size ≤ 1048576) :
    Calls Try.prog 54 #[.pointer (some ⟨X, 0, none⟩)] w fun e w' => e = .returned (.bool (barB s r l g)) ∧ Below w.heap.size w w' := by
  obtain ⟨a, c, rfl⟩ := hx.slice
  have hcap := hx.cap
  unfold maxLen at hcap
  have HZ := Lib.hid hz
  clear hz
  have c0 := hbx.c0
  have c1 := hbx.c1
  have c2 := hbx.c2
  have c3 := hbx.c3
  cases p1 : pok s
  · have P1 := Lib.hid p1
    have P2 : True := trivial
    have HR : Hid (barB s r l g = false) := barB_no1 (by unfold barH; rw [p1]; rfl)
    clear p1
    go_enter Try.func54, Try.ntmps54
    go_wp2_with (first | (go_at_call 44; refine (l00In_any _ _ _ _).mono ?_; rintro e w' ⟨rfl, rfl⟩) | (go_at_call 40; (first | (with_reducible refine (l08Pattern_is s _ P1 _ hs).mono ?_) | (with_reducible refine (l08Pattern_is r _ P2 _ hr).mono ?_)); rintro e w' ⟨rfl, rfl⟩))
    go_ret
    exact ⟨ret_bool HR.out.symm, Below.refl _ _⟩
  · have P1 := Lib.hid p1
    clear p1
    cases p2 : pok r
    · have P2 := Lib.hid p2
      have HR : Hid (barB s r l g = false) := barB_no1 (by unfold barH; rw [p2]; simp)
      clear p2
      go_enter Try.func54, Try.ntmps54
      go_wp2_with (first | (go_at_call 44; refine (l00In_any _ _ _ _).mono ?_; rintro e w' ⟨rfl, rfl⟩) | (go_at_call 40; (first | (with_reducible refine (l08Pattern_is s _ P1 _ hs).mono ?_) | (with_reducible refine (l08Pattern_is r _ P2 _ hr).mono ?_)); rintro e w' ⟨rfl, rfl⟩))
      go_ret
      exact ⟨ret_bool HR.out.symm, Below.refl _ _⟩
    · have P2 := Lib.hid p2
      clear p2
      by_cases e1 : r.size % 2 = 1
      · have b1 : ((r.size : Int) % 2 == 0) = false := by rw [beq_eq_false_iff_ne]; omega
        have E1 := Lib.hid e1
        clear e1
        cases q1 : inB l.length 1 36
        · have HR : Hid (barB s r l g = false) := barB_no1 (by unfold barH; rw [q1]; simp)
          go_enter Try.func54, Try.ntmps54
          go_wp2_with (first | (go_at_call 44; refine (l00In_any _ _ _ _).mono ?_; rintro e w' ⟨rfl, rfl⟩) | (go_at_call 40; (first | (with_reducible refine (l08Pattern_is s _ P1 _ hs).mono ?_) | (with_reducible refine (l08Pattern_is r _ P2 _ hr).mono ?_)); rintro e w' ⟨rfl, rfl⟩))
          go_ret
          exact ⟨ret_bool HR.out.symm, Below.refl _ _⟩
        · cases q2 : inB g 0 4
          · have HR : Hid (barB s r l g = false) := barB_no1 (by unfold barH; rw [q2]; simp)
            go_enter Try.func54, Try.ntmps54
            go_wp2_with (first | (go_at_call 44; refine (l00In_any _ _ _ _).mono ?_; rintro e w' ⟨rfl, rfl⟩) | (go_at_call 40; (first | (with_reducible refine (l08Pattern_is s _ P1 _ hs).mono ?_) | (with_reducible refine (l08Pattern_is r _ P2 _ hr).mono ?_)); rintro e w' ⟨rfl, rfl⟩))
            go_ret
            exact ⟨ret_bool HR.out.symm, Below.refl _ _⟩
          · have n1 : (1 : Int) ≤ l.length ∧ (l.length : Int) ≤ 36 := by simpa [inB] using q1
            have n3 : 0 ≤ g ∧ g ≤ 4 := by simpa [inB] using q2
            have HH : Hid (barH s r l g = true) := by unfold Hid barH; rw [P1.out, P2.out, q1, q2]; rfl
            go_enter Try.func54, Try.ntmps54
            go_wp2_with (first | (go_at_call 44; refine (l00In_any _ _ _ _).mono ?_; rintro e w' ⟨rfl, rfl⟩) | (go_at_call 40; (first | (with_reducible refine (l08Pattern_is s _ P1 _ hs).mono ?_) | (with_reducible refine (l08Pattern_is r _ P2 _ hr).mono ?_)); rintro e w' ⟨rfl, rfl⟩))
            clear q1 q2 b1 c0 c1 c2 c3
            go_loopw [3] (fun iv wr => ∃ k : Nat, k ≤ l.length ∧ iv = .int .i64 k ∧ Hid (∀ i, i < k → patAt l i = true) ∧ Below w.heap.size w wr) (fun iv _ => l.length - (intOf iv).toNat)
            case atStart => exact ⟨0, Nat.zero_le _, rfl, fun i hi => by omega, Below.refl _ _⟩
            case round =>
              obtain ⟨k, hk, rfl, HK, hb⟩ := hrel
              have hbx := hbx.later hb
              have hlX := hbx.lt
              have c2 := hbx.c2
              by_cases hlt : k < l.length
              · obtain ⟨ga, off, rfl, hg, hc⟩ := (hx.later hb).at k hlt
                obtain ⟨ga0, off0, e0, hg0, hc00⟩ := (hx.later hb).at 0 (by omega)
                simp only [Option.some.injEq, Addr.mk.injEq, and_true] at e0
                obtain ⟨rfl, rfl⟩ := e0
                have hzk := HZ.out k hlt
                have hz0 := HZ.out 0 (by omega)
                have h0l : 0 < l.length := by omega
                have h0i : (0 : Int) < (l.length : Int) := by omega
                have HA : Hid (patAt l k = ((pok (sAt l k) && decide ((sAt l k).size = (sAt l 0).size)) && (decide (isum (pw (sAt l k)) = isum (pw (sAt l 0))) && !hasS (l.take k) (sAt l k)))) := rfl
                have HNO : Hid (patAt l k = false → barB s r l g = false) := barB_no2 k hlt
                have HYES : Hid (patAt l k = true → ∀ i, i < k + 1 → patAt l i = true) := fun h i hi => by
                  by_cases e : i = k
                  · subst e; exact h
                  · exact HK.out i (by omega)
                have HP0 : Hid (pok (sAt l k) = true → pok (sAt l 0) = true) := fun h => by
                  by_cases e : k = 0
                  · subst e; exact h
                  · exact patAt_pok (HK.out 0 (by omega))
                have hc0 := hc00
                rw [Nat.add_zero] at hc0
                clear hc00 hg0
                generalize hsk : sAt l k = p at *
                have HSK := Lib.hid hsk
                clear hsk
                generalize sAt l 0 = q at *
                cases h1 : pok p
                · have H1 := Lib.hid h1
                  have HR : Hid (barB s r l g = false) := HNO.out (by rw [HA.out, h1]; rfl)
                  clear h1
                  go_wp2_with fail
                  go_quiet ((go_at_call 40; exact quiet_same (l08Pattern_is p _ H1 _ hzk)))
                  go_wp2_with fail
                  go_ret
                  exact ⟨ret_bool HR.out.symm, below_drewN hb _⟩
                · have H1 := Lib.hid h1
                  have H0 := Lib.hid (HP0.out h1)
                  clear h1 HP0
                  by_cases h2 : p.size = q.size
                  · have b2 : ((p.size : Int) != q.size) = false := by rw [h2]; simp
                    have H2 := Lib.hid h2
                    clear h2
                    by_cases h3 : isum (pw p) = isum (pw q)
                    · have b3 : (isum (pw p) != isum (pw q)) = false := by rw [h3]; simp
                      have H3 := Lib.hid h3
                      have hq := (Below.refl wr.heap.size wr).drew
                      have HS1 : Hid (∀ wx vx, RI wx vx (pw p) → Calls Try.prog 64 #[vx] wx fun e w' => e = .returned (.int .i64 (isum (pw p))) ∧ wx = w') := fun wx vx h => l08Sum_is p vx wx H1 h
                      have HS2 : Hid (∀ wx vx, RI wx vx (pw q) → Calls Try.prog 64 #[vx] wx fun e w' => e = .returned (.int .i64 (isum (pw q))) ∧ wx = w') := fun wx vx h => l08Sum_is q vx wx H0 h
                      clear h3
                      generalize isum (pw p) = z1 at *
                      generalize isum (pw q) = z2 at *
                      go_wp2_with fail
                      go_region_held3 (fun w' => w'.cell? ⟨X, 2, none⟩ = some (.slice (some ⟨ga, off, none⟩) l.length c) ∧ w'.cell? ⟨ga, off + k, none⟩ = some (.string p) ∧ w'.cell? ⟨ga, off, none⟩ = some (.string q)) (go_keep)
                        (first
                          | (go_at_call 40; refine (l08Pattern_is p _ H1 _ hzk).mono ?_; rintro e w' ⟨rfl, rfl⟩)
                          | (go_at_call 50; refine (l08Elements_is _ _ (by assumption) (by assumption)).mono ?_; rintro e w4 ⟨v4, rfl, o4, hb1⟩; replace c2 := (hb1.cell (p := ⟨X, 2, none⟩) hlX).trans c2; replace hc := (hb1.cell (p := ⟨ga, off + k, none⟩) hg).trans hc; replace hc0 := (hb1.cell (p := ⟨ga, off, none⟩) hg).trans hc0; replace hlX := Nat.lt_of_lt_of_le hlX hb1.size; replace hg := Nat.lt_of_lt_of_le hg hb1.size; replace hq := hq.trans (hb1.mono hq.size))
                          | (go_at_call 64; (first | refine (HS1.out _ _ (by exact o4.read)).mono ?_ | refine (HS2.out _ _ (by exact o4.read)).mono ?_); rintro e w' ⟨rfl, rfl⟩))
                      clear c2 hc hc0 hlX hg b2 b3
                      go_wp2_with fail
                      go_loopw [4] (fun jv wx => ∃ j : Nat, j ≤ k ∧ jv = .int .i64 j ∧ Hid (∀ i, i < j → p ≠ sAt l i) ∧ Below wr.heap.size wr wx) (fun jv _ => k - (intOf jv).toNat)
                      case atStart => exact ⟨0, Nat.zero_le _, rfl, fun i hi => by omega, hq⟩
                      case round =>
                        obtain ⟨j, hj, rfl, HJ, hq2⟩ := hrel
                        have c2 := (hbx.later hq2).c2
                        by_cases hjk : j < k
                        · obtain ⟨g1, off1, he1, hg1, hc1⟩ := ((hx.later hb).later hq2).at j (by omega)
                          obtain ⟨g2, off2, he2, hg2, hc2⟩ := ((hx.later hb).later hq2).at k hlt
                          rw [HSK.out] at hc2
                          simp only [Option.some.injEq, Addr.mk.injEq, and_true] at he1 he2
                          obtain ⟨rfl, rfl⟩ := he1
                          obtain ⟨rfl, rfl⟩ := he2
                          have hjl : j < l.length := by omega
                          by_cases heq : p = sAt l j
                          · have HR : Hid (barB s r l g = false) := HNO.out (by
                              have : hasS (l.take k) p = true := hasS_iff.2 (by
                                rw [heq]
                                have h5 : sAt l j = (l.take k)[j]'(by rw [List.length_take]; omega) := by simp [hjl]
                                rw [h5]; exact List.getElem_mem _)
                              rw [HA.out, this]; simp)
                            rw [← heq] at hc1
                            clear heq
                            go_wp2_with fail
                            go_quiet (fail)
                            go_wp2_with fail
                            go_ret
                            exact ⟨ret_bool HR.out.symm, hb.trans ((below_drewN hq2 _).mono hb.size)⟩
                          · have HJ2 : Hid (∀ i, i < j + 1 → p ≠ sAt l i) := fun i hi => by
                              by_cases e : i = j
                              · subst e; exact heq
                              · exact HJ.out i (by omega)
                            have hne : ((sAt l j).toList == p.toList) = false := str_ne (Ne.symm heq)
                            clear heq
                            generalize sAt l j = t at *
                            go_wp2_with fail
                            go_quiet (fail)
                            go_wp2_with fail
                            go_roundw
                            case rel => exact ⟨j + 1, by omega, by go_num, HJ2, below_drewN hq2 _⟩
                            case measure => first | (simp [intOf]; done) | (simp [intOf]; omega)
                        · have HR := Lib.hid (HYES.out (by
                            have : hasS (l.take k) p = false := hasS_no (fun hmem => by
                              obtain ⟨i, hi, he⟩ := List.getElem_of_mem hmem
                              rw [List.length_take] at hi
                              exact HJ.out i (by omega) (by rw [← he]; simp [show i < l.length by omega]))
                            rw [HA.out, H1.out, this, decide_eq_true H2.out, decide_eq_true H3.out]; rfl))
                          go_wp2_with fail
                          go_roundw
                          case rel => exact ⟨k + 1, by omega, by go_num, HR, hb.trans (hq2.mono hb.size)⟩
                          case measure => first | (simp [intOf]; done) | (simp [intOf]; omega)
                    · have b3 : (isum (pw p) != isum (pw q)) = true := by rw [bne_iff_ne]; exact h3
                      have HR : Hid (barB s r l g = false) := HNO.out (by rw [HA.out, decide_eq_false h3]; simp)
                      have hq := (Below.refl wr.heap.size wr).drew
                      have HS1 : Hid (∀ wx vx, RI wx vx (pw p) → Calls Try.prog 64 #[vx] wx fun e w' => e = .returned (.int .i64 (isum (pw p))) ∧ wx = w') := fun wx vx h => l08Sum_is p vx wx H1 h
                      have HS2 : Hid (∀ wx vx, RI wx vx (pw q) → Calls Try.prog 64 #[vx] wx fun e w' => e = .returned (.int .i64 (isum (pw q))) ∧ wx = w') := fun wx vx h => l08Sum_is q vx wx H0 h
                      clear h3
                      generalize isum (pw p) = z1 at *
                      generalize isum (pw q) = z2 at *
                      go_wp2_with fail
                      go_region_held3 (fun w' => w'.cell? ⟨X, 2, none⟩ = some (.slice (some ⟨ga, off, none⟩) l.length c) ∧ w'.cell? ⟨ga, off + k, none⟩ = some (.string p) ∧ w'.cell? ⟨ga, off, none⟩ = some (.string q)) (go_keep)
                        (first
                          | (go_at_call 40; refine (l08Pattern_is p _ H1 _ hzk).mono ?_; rintro e w' ⟨rfl, rfl⟩)
                          | (go_at_call 50; refine (l08Elements_is _ _ (by assumption) (by assumption)).mono ?_; rintro e w4 ⟨v4, rfl, o4, hb1⟩; replace c2 := (hb1.cell (p := ⟨X, 2, none⟩) hlX).trans c2; replace hc := (hb1.cell (p := ⟨ga, off + k, none⟩) hg).trans hc; replace hc0 := (hb1.cell (p := ⟨ga, off, none⟩) hg).trans hc0; replace hlX := Nat.lt_of_lt_of_le hlX hb1.size; replace hg := Nat.lt_of_lt_of_le hg hb1.size; replace hq := hq.trans (hb1.mono hq.size))
                          | (go_at_call 64; (first | refine (HS1.out _ _ (by exact o4.read)).mono ?_ | refine (HS2.out _ _ (by exact o4.read)).mono ?_); rintro e w' ⟨rfl, rfl⟩))
                      go_wp2_with fail
                      go_ret
                      exact ⟨ret_bool HR.out.symm, hb.trans (hq.mono hb.size)⟩
                  · have b2 : ((p.size : Int) != q.size) = true := by rw [bne_iff_ne]; omega
                    have HR : Hid (barB s r l g = false) := HNO.out (by rw [HA.out, decide_eq_false h2]; simp)
                    clear h2
                    go_wp2_with fail
                    go_quiet ((go_at_call 40; exact quiet_same (l08Pattern_is p _ H1 _ hzk)))
                    go_wp2_with fail
                    go_ret
                    exact ⟨ret_bool HR.out.symm, below_drewN hb _⟩
              · have HR : Hid (barB s r l g = barP s r (sAt l 0) g) := barB_all HH.out fun i hi => HK.out i (by omega)
                obtain ⟨ga0, off0, rfl, hg0, hc0⟩ := (hx.later hb).at 0 (by omega)
                rw [Nat.add_zero] at hc0
                have h0l : 0 < l.length := by omega
                have c0 := hbx.c0
                have c1 := hbx.c1
                have c3 := hbx.c3
                generalize sAt l 0 = q at *
                have HV : Hid (barP s r q g = (decide (q.size % 2 = s.size % 2) && (decide (s.size % 2 = 1) == decide (0 < g)))) := by
                  unfold Hid barP; rw [decide_eq_true E1.out]; simp
                by_cases e2 : (q.size : Int) % 2 = 0
                · have b2 : ((q.size : Int) % 2 == 0) = true := by rw [beq_iff_eq]; exact e2
                  by_cases e3 : (s.size : Int) % 2 = 0
                  · have b3 : ((s.size : Int) % 2 == 0) = true := by rw [beq_iff_eq]; exact e3
                    by_cases e4 : g = 0
                    · have hv : barP s r q g = true := by
                        rw [HV.out, decide_eq_true (show q.size % 2 = s.size % 2 by omega), decide_eq_false (show ¬ s.size % 2 = 1 by omega), decide_eq_false (show ¬ 0 < g by omega)]; rfl
                      have HW := Lib.hid hv
                      have b4 : (g == 0) = true := by rw [beq_iff_eq]; exact e4
                      clear e2 e3 e4 hv
                      go_wp2_with fail
                      go_ret
                      exact ⟨ret_bool (by rw [HR.out, HW.out]), hb⟩
                    · have hv : barP s r q g = false := by
                        rw [HV.out, decide_eq_false (show ¬ s.size % 2 = 1 by omega), decide_eq_true (show 0 < g by omega)]; simp
                      have HW := Lib.hid hv
                      have b4 : (g == 0) = false := by rw [beq_eq_false_iff_ne]; exact e4
                      clear e2 e3 e4 hv
                      go_wp2_with fail
                      go_ret
                      exact ⟨ret_bool (by rw [HR.out, HW.out]), hb⟩
                  · have b3 : ((s.size : Int) % 2 == 0) = false := by rw [beq_eq_false_iff_ne]; exact e3
                    have hv : barP s r q g = false := by rw [HV.out, decide_eq_false (show ¬ q.size % 2 = s.size % 2 by omega)]; rfl
                    have HW := Lib.hid hv
                    clear e2 e3 hv
                    go_wp2_with fail
                    go_ret
                    exact ⟨ret_bool (by rw [HR.out, HW.out]), hb⟩
                · have b2 : ((q.size : Int) % 2 == 0) = false := by rw [beq_eq_false_iff_ne]; exact e2
                  by_cases e3 : (s.size : Int) % 2 = 0
                  · have b3 : ((s.size : Int) % 2 == 0) = true := by rw [beq_iff_eq]; exact e3
                    have hv : barP s r q g = false := by rw [HV.out, decide_eq_false (show ¬ q.size % 2 = s.size % 2 by omega)]; rfl
                    have HW := Lib.hid hv
                    clear e2 e3 hv
                    go_wp2_with fail
                    go_ret
                    exact ⟨ret_bool (by rw [HR.out, HW.out]), hb⟩
                  · have b3 : ((s.size : Int) % 2 == 0) = false := by rw [beq_eq_false_iff_ne]; exact e3
                    by_cases e4 : g = 0
                    · have hv : barP s r q g = false := by
                        rw [HV.out, decide_eq_true (show s.size % 2 = 1 by omega), decide_eq_false (show ¬ 0 < g by omega)]; simp
                      have HW := Lib.hid hv
                      have b4 : (g == 0) = true := by rw [beq_iff_eq]; exact e4
                      clear e2 e3 e4 hv
                      go_wp2_with fail
                      go_ret
                      exact ⟨ret_bool (by rw [HR.out, HW.out]), hb⟩
                    · have hv : barP s r q g = true := by
                        rw [HV.out, decide_eq_true (show q.size % 2 = s.size % 2 by omega), decide_eq_true (show s.size % 2 = 1 by omega), decide_eq_true (show 0 < g by omega)]; rfl
                      have HW := Lib.hid hv
                      have b4 : (g == 0) = false := by rw [beq_eq_false_iff_ne]; exact e4
                      clear e2 e3 e4 hv
                      go_wp2_with fail
                      go_ret
                      exact ⟨ret_bool (by rw [HR.out, HW.out]), hb⟩
      · have b1 : ((r.size : Int) % 2 == 0) = true := by rw [beq_iff_eq]; omega
        have HR : Hid (barB s r l g = false) := barB_no3 e1
        clear e1
        go_enter Try.func54, Try.ntmps54
        go_wp2_with (first | (go_at_call 44; refine (l00In_any _ _ _ _).mono ?_; rintro e w' ⟨rfl, rfl⟩) | (go_at_call 40; (first | (with_reducible refine (l08Pattern_is s _ P1 _ hs).mono ?_) | (with_reducible refine (l08Pattern_is r _ P2 _ hr).mono ?_)); rintro e w' ⟨rfl, rfl⟩))
        go_ret
        exact ⟨ret_bool HR.out.symm, Below.refl _ _⟩
end Go.Proofs.Ytjjohniabgamjaa
