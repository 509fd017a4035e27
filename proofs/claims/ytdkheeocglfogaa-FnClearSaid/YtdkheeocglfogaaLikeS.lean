/- The reference's ValidLikeness. -/
import Derived.Test.YtdkheeocglfogaaLike
namespace Go.Proofs.Ytdkheeocglfogaa
open Go.RowKit

/-- Only draws lie between two worlds. -/
def Drd (w w' : World) : Prop := ∃ n, w' = w.drewN n
theorem Drd.refl (w : World) : Drd w w := ⟨0, rfl⟩
theorem Drd.more {w w' : World} (h : Drd w w') (n : Nat) : Drd w (w'.drewN n) := by
  obtain ⟨m, rfl⟩ := h
  exact ⟨m + n, World.drewN_drewN _ _ _⟩
theorem Drd.below {w w' : World} (h : Drd w w') : Below w.heap.size w w' := by
  obtain ⟨n, rfl⟩ := h
  exact below_drewN (Below.refl _ _) _
theorem l07Index_b (s : ByteArray) (c : UInt8) (d : Int) (hd : Hid (ix (bz s) (c.toNat : Int) = d)) (w : World) (hs : s.size ≤ 1048576) :
    Calls Try.prog 51 #[.string s, .int .u8 (c.toNat : Int)] w fun e w' => e = .returned (.int .i64 d) ∧ w = w' := by
  have := l07Index_any s (c.toNat : Int) w hs
  rw [hd.out] at this; exact this
theorem pair_eq (x y z t : UInt8) : ((⟨#[x, y]⟩ : ByteArray) = ⟨#[z, t]⟩) ↔ (x = z ∧ y = t) := by simp
/-- p is q, or q turned. -/
def same2 (p q : ByteArray) : Bool := decide (p = q) || decide (turnS p = q)
theorem pairAt_no {sy : ByteArray} {l : List ByteArray} {i j : Nat} (hj : j < i) (hi : i < l.length) (h : same2 (sAt l i) (sAt l j) = true) : pairAt sy l i = false := by
  have hm : sAt l j ∈ l.take i := by
    have h5 : sAt l j = (l.take i)[j]'(by rw [List.length_take]; omega) := by simp [show j < l.length by omega]
    rw [h5]; exact List.getElem_mem _
  unfold same2 at h
  unfold pairAt
  rw [Bool.or_eq_true, decide_eq_true_eq, decide_eq_true_eq] at h
  rcases h with h | h
  · rw [hasS_iff.2 (show sAt l i ∈ l.take i by rw [h]; exact hm)]; simp
  · rw [hasS_iff.2 (show turnS (sAt l i) ∈ l.take i by rw [h]; exact hm)]; simp
theorem pairAt_yes {sy : ByteArray} {l : List ByteArray} {i : Nat} (hp : pairOk sy (sAt l i) = true) (h : ∀ j, j < i → same2 (sAt l i) (sAt l j) = false) : pairAt sy l i = true := by
  have hh : ∀ q, q ∈ l.take i → same2 (sAt l i) q = false := fun q hq => by
    obtain ⟨j, hj, rfl⟩ := List.getElem_of_mem hq
    rw [List.length_take] at hj
    have := h j (by omega)
    have e : (l.take i)[j] = sAt l j := by simp [show j < l.length by omega]
    rw [e]; exact this
  have h1 : hasS (l.take i) (sAt l i) = false := hasS_no fun hm => by
    have := hh _ hm
    simp [same2] at this
  have h2 : hasS (l.take i) (turnS (sAt l i)) = false := hasS_no fun hm => by
    have := hh _ hm
    simp [same2] at this
  unfold pairAt
  rw [hp, h1, h2]; rfl

set_option maxRecDepth 100000 in
set_option maxHeartbeats 4000000 in
theorem l07Is_any (s : ByteArray) (v : Value) (l : List ByteArray) (X : Nat) (w : World) (hbW : LX X s v w) (hxW : RS w v l) (hs : s.size ≤ 1048576) (hm : l.length ≤ 1048576) :
    Calls Try.prog 33 #[.pointer (some ⟨X, 0, none⟩)] w fun e w' => e = .returned (.bool (vlB s l)) ∧ Drd w w' := by
  obtain ⟨a, c, rfl⟩ := hxW.slice
  have c0 := hbW.c0
  have c1 := hbW.c1
  by_cases q1 : 1 ≤ (s.size : Int) ∧ (s.size : Int) ≤ 18
  · obtain ⟨n1, n2⟩ := q1
    by_cases h40 : (l.length : Int) ≤ 40
    · have Q1 : Hid (inB s.size 1 18 = true) := by simp [Hid, inB]; omega
      have HNO1 : Hid (∀ k, k < s.size → (isS ((bz s).getD k 0) && !decide ((bz s).getD k 0 ∈ (bz s).take k)) = false → vlB s l = false) := fun k hk h => by
        unfold vlB; rw [diffB_no k (by rw [bz_len]; exact hk) h]; simp
      go_enter Try.func33, Try.ntmps33
      go_wp2_with fail
      go_loopw [4] (fun iv wr => ∃ k : Nat, k ≤ s.size ∧ iv = .int .i64 k ∧ Hid (∀ i, i < k → (isS ((bz s).getD i 0) && !decide ((bz s).getD i 0 ∈ (bz s).take i)) = true) ∧ Drd w wr) (fun iv _ => s.size - (intOf iv).toNat)
      case atStart => exact ⟨0, Nat.zero_le _, rfl, fun i hi => by omega, Drd.refl _⟩
      case round =>
        obtain ⟨k, hk, rfl, HK, hd⟩ := hrel
        have hbx := hbW.later hd.below
        have hx := hxW.later hd.below
        have c0 := hbx.c0
        have c1 := hbx.c1
        by_cases hlt : k < s.size
        · have hg := bz_get s k hlt
          have hb255 := bz_in s ((bz s).getD k 0) (by have := bz_len s; simp [show k < (bz s).length by omega])
          have hes : (s.extract 0 k).size ≤ 1048576 := by
            have h := congrArg List.length (bz_extract s 0 k)
            rw [bz_len] at h
            rw [h]; simp [bz_len]; omega
          have HX : Hid (∀ wx, Calls Try.prog 51 #[.string (s.extract 0 k), .int .u8 (s[k].toNat : Int)] wx fun e w' => e = .returned (.int .i64 (ix ((bz s).take k) ((bz s).getD k 0))) ∧ wx = w') := fun wx => by
            have := l07Index_any (s.extract 0 k) (s[k].toNat : Int) wx hes
            rw [bz_extract, List.drop_zero, ← hg] at this
            rw [← hg]; exact this
          have HL : Hid (∀ wx, Calls Try.prog 59 #[.int .u8 (s[k].toNat : Int)] wx fun e w' => e = .returned (.int .i64 (dg ((bz s).getD k 0))) ∧ wx = w') := fun wx => by
            rw [← hg]; exact l01Digit_any _ wx hb255
          have HM := Lib.hid (ix_mem ((bz s).take k) ((bz s).getD k 0))
          have HS : Hid (isS ((bz s).getD k 0) = decide (0 ≤ dg ((bz s).getD k 0))) := rfl
          have HN := Lib.hid (HNO1.out k hlt)
          have HY : Hid ((isS ((bz s).getD k 0) && !decide ((bz s).getD k 0 ∈ (bz s).take k)) = true → ∀ i, i < k + 1 → (isS ((bz s).getD i 0) && !decide ((bz s).getD i 0 ∈ (bz s).take i)) = true) := fun h i hi => by
            by_cases e : i = k
            · subst e; exact h
            · exact HK.out i (by omega)
          clear hg hb255 hes
          by_cases h1 : 0 ≤ dg ((bz s).getD k 0)
          · by_cases h2 : 0 ≤ ix ((bz s).take k) ((bz s).getD k 0)
            · have HR : Hid (vlB s l = false) := HN.out (by rw [← HM.out, decide_eq_true h2]; simp)
              clear HM HS HN HY
              generalize ix ((bz s).take k) ((bz s).getD k 0) = z at *
              generalize dg ((bz s).getD k 0) = d at *
              go_wp2_with fail
              go_quiet (first | (go_at_call 59; exact quiet_same (HL.out _)) | (go_at_call 51; exact quiet_same (HX.out _)))
              go_wp2_with fail
              go_ret
              exact ⟨ret_bool HR.out.symm, hd.more _⟩
            · have HR := Lib.hid (HY.out (by rw [HS.out, decide_eq_true h1, ← HM.out, decide_eq_false h2]; rfl))
              clear HM HS HN HY
              generalize ix ((bz s).take k) ((bz s).getD k 0) = z at *
              generalize dg ((bz s).getD k 0) = d at *
              go_wp2_with fail
              go_quiet (first | (go_at_call 59; exact quiet_same (HL.out _)) | (go_at_call 51; exact quiet_same (HX.out _)))
              go_wp2_with fail
              go_roundw
              case rel => exact ⟨k + 1, by omega, by go_num, HR, hd.more _⟩
              case measure => first | (simp [intOf]; done) | (simp [intOf]; omega)
          · have HR : Hid (vlB s l = false) := HN.out (by rw [HS.out, decide_eq_false h1]; rfl)
            clear HM HS HN HY HX
            generalize dg ((bz s).getD k 0) = d at *
            go_wp2_with fail
            go_quiet ((go_at_call 59; exact quiet_same (HL.out _)))
            go_wp2_with fail
            go_ret
            exact ⟨ret_bool HR.out.symm, hd.more _⟩
        · have Q2 : Hid (diffB isS (bz s) = true) := diffB_yes fun i hi => HK.out i (by have := bz_len s; omega)
          clear HK HNO1
          go_wp2_with fail
          go_loopw [5] (fun iv wr => ∃ k : Nat, k ≤ l.length ∧ iv = .int .i64 k ∧ Hid (∀ i, i < k → pairAt s l i = true) ∧ Drd w wr) (fun iv _ => l.length - (intOf iv).toNat)
          case atStart => exact ⟨0, Nat.zero_le _, rfl, fun i hi => by omega, hd⟩
          case round =>
            clear hlt hk
            clear c0 c1 hbx hx hd
            obtain ⟨k, hk, rfl, HK, hd⟩ := hrel
            have hbx := hbW.later hd.below
            have hx := hxW.later hd.below
            have c0 := hbx.c0
            have c1 := hbx.c1
            by_cases hlt : k < l.length
            · obtain ⟨ga, off, rfl, hg, hc⟩ := hx.at k hlt
              have HNO : Hid (pairAt s l k = false → vlB s l = false) := vlB_no k hlt
              have HYES : Hid (pairAt s l k = true → ∀ i, i < k + 1 → pairAt s l i = true) := fun h i hi => by
                by_cases e : i = k
                · subst e; exact h
                · exact HK.out i (by omega)
              have HPN : Hid (pairOk s (sAt l k) = false → pairAt s l k = false) := fun h => by unfold pairAt; rw [h]; rfl
              have HPY : Hid (pairOk s (sAt l k) = true → (∀ j, j < k → same2 (sAt l k) (sAt l j) = false) → pairAt s l k = true) := pairAt_yes
              have HSN : Hid (∀ j, j < k → same2 (sAt l k) (sAt l j) = true → pairAt s l k = false) := fun j hj h => pairAt_no hj hlt h
              have H2 : Hid (∀ j, j < k → ∃ z t : UInt8, sAt l j = ⟨#[z, t]⟩) := fun j hj => size2 (pairOk_size (pairAt_ok (HK.out j hj)))
              generalize sAt l k = p at *
              by_cases h2 : p.size = 2
              · obtain ⟨x, y, rfl⟩ := size2 h2
                have hi0 : ∀ h, (⟨#[x, y]⟩ : ByteArray)[0]'h = x := fun _ => rfl
                have hi1 : ∀ h, (⟨#[x, y]⟩ : ByteArray)[1]'h = y := fun _ => rfl
                have HOK := Lib.hid (pairOk2 s x y)
                clear h2
                by_cases h3 : x = y
                · have HR : Hid (vlB s l = false) := HNO.out (HPN.out (by rw [HOK.out, decide_eq_true h3]; rfl))
                  subst h3
                  go_wp2_with fail
                  go_quiet (fail)
                  go_wp2_with fail
                  go_ret
                  exact ⟨ret_bool HR.out.symm, hd.more _⟩
                · have b3 : ((x.toNat : Int) == y.toNat) = false := by rw [beq_eq_false_iff_ne]; exact fun e => h3 (UInt8.toNat_inj.1 (by omega))
                  have H3 := Lib.hid h3
                  clear h3
                  have HM1 := Lib.hid (ix_mem (bz s) (x.toNat : Int))
                  have HM2 := Lib.hid (ix_mem (bz s) (y.toNat : Int))
                  have HX1 : Hid (∀ wx, Calls Try.prog 51 #[.string s, .int .u8 (x.toNat : Int)] wx fun e w' => e = .returned (.int .i64 (ix (bz s) (x.toNat : Int))) ∧ wx = w') := fun wx => l07Index_any s _ wx hs
                  have HX2 : Hid (∀ wx, Calls Try.prog 51 #[.string s, .int .u8 (y.toNat : Int)] wx fun e w' => e = .returned (.int .i64 (ix (bz s) (y.toNat : Int))) ∧ wx = w') := fun wx => l07Index_any s _ wx hs
                  by_cases m1 : 0 ≤ ix (bz s) (x.toNat : Int)
                  · by_cases m2 : 0 ≤ ix (bz s) (y.toNat : Int)
                    · have HPK : Hid (pairOk s ⟨#[x, y]⟩ = true) := by unfold Hid; rw [HOK.out, ← HM1.out, ← HM2.out, decide_eq_true m1, decide_eq_true m2, decide_eq_false H3.out]; rfl
                      clear HM1 HM2 HOK
                      generalize ix (bz s) (x.toNat : Int) = z1 at *
                      generalize ix (bz s) (y.toNat : Int) = z2 at *
                      go_wp2_with fail
                      go_quiet ((go_at_call 51; first | with_reducible exact quiet_same (HX1.out _) | with_reducible exact quiet_same (HX2.out _)))
                      go_wp2_with fail
                      clear hc
                      go_loopw [7] (fun jv wr => ∃ j : Nat, j ≤ k ∧ jv = .int .i64 j ∧ Hid (∀ i, i < j → same2 ⟨#[x, y]⟩ (sAt l i) = false) ∧ Drd w wr) (fun jv _ => k - (intOf jv).toNat)
                      case atStart => exact ⟨0, Nat.zero_le _, rfl, fun i hi => by omega, hd.more _⟩
                      case round =>
                        clear c0 c1 hbx hx hd
                        obtain ⟨j, hj, rfl, HJ, hd⟩ := hrel
                        have hbx := hbW.later hd.below
                        have hx := hxW.later hd.below
                        have c0 := hbx.c0
                        have c1 := hbx.c1
                        by_cases hjk : j < k
                        · obtain ⟨ga2, off2, e2, hg2, hc2⟩ := hx.at j (by omega)
                          simp only [Option.some.injEq, Addr.mk.injEq, and_true] at e2
                          obtain ⟨rfl, rfl⟩ := e2
                          obtain ⟨z, t, hzt⟩ := H2.out j hjk
                          have HN2 := Lib.hid (HSN.out j hjk)
                          have HY2 : Hid (same2 ⟨#[x, y]⟩ (sAt l j) = false → ∀ i, i < j + 1 → same2 ⟨#[x, y]⟩ (sAt l i) = false) := fun h i hi => by
                            by_cases e : i = j
                            · subst e; exact h
                            · exact HJ.out i (by omega)
                          have hjl : j < l.length := by omega
                          rw [hzt] at hc2 HN2 HY2
                          have HS2 : Hid (same2 ⟨#[x, y]⟩ ⟨#[z, t]⟩ = (decide (x = z ∧ y = t) || decide (y = z ∧ x = t))) := by
                            unfold Hid same2; rw [turnS2]; congr 1 <;> exact decide_eq_decide.2 (by simp)
                          have hj0 : ∀ h, (⟨#[z, t]⟩ : ByteArray)[0]'h = z := fun _ => rfl
                          have hj1 : ∀ h, (⟨#[z, t]⟩ : ByteArray)[1]'h = t := fun _ => rfl
                          clear hzt
                          by_cases e1 : x = z ∧ y = t
                          · have HR : Hid (vlB s l = false) := HNO.out (HN2.out (by rw [HS2.out, decide_eq_true e1]; rfl))
                            obtain ⟨rfl, rfl⟩ := e1
                            go_wp2_with fail
                            go_quiet (fail)
                            go_wp2_with fail
                            go_ret
                            exact ⟨ret_bool HR.out.symm, hd.more _⟩
                          · have hne := str_ne (fun h => e1 ((pair_eq x y z t).1 h))
                            rw [ByteArray.toList_eq, ByteArray.toList_eq] at hne
                            by_cases e2 : x = t
                            · by_cases e3 : y = z
                              · have HR : Hid (vlB s l = false) := HNO.out (HN2.out (by rw [HS2.out, decide_eq_true (show y = z ∧ x = t from ⟨e3, e2⟩)]; simp))
                                subst e2 e3
                                clear e1
                                go_wp2_with fail
                                go_quiet (fail)
                                go_wp2_with fail
                                go_ret
                                exact ⟨ret_bool HR.out.symm, hd.more _⟩
                              · have HR := Lib.hid (HY2.out (by rw [HS2.out, decide_eq_false e1, decide_eq_false (fun h => e3 h.1)]; rfl))
                                have b4 : ((y.toNat : Int) == z.toNat) = false := by rw [beq_eq_false_iff_ne]; exact fun e => e3 (UInt8.toNat_inj.1 (by omega))
                                subst e2
                                clear e1 e3
                                go_wp2_with fail
                                go_quiet (fail)
                                go_wp2_with fail
                                go_roundw
                                case rel => exact ⟨j + 1, by omega, by go_num, HR, hd.more _⟩
                                case measure => first | (simp [intOf]; done) | (simp [intOf]; omega)
                            · have HR := Lib.hid (HY2.out (by rw [HS2.out, decide_eq_false e1, decide_eq_false (fun h => e2 h.2)]; rfl))
                              have b4 : ((x.toNat : Int) == t.toNat) = false := by rw [beq_eq_false_iff_ne]; exact fun e => e2 (UInt8.toNat_inj.1 (by omega))
                              clear e1 e2
                              go_wp2_with fail
                              go_quiet (fail)
                              go_wp2_with fail
                              go_roundw
                              case rel => exact ⟨j + 1, by omega, by go_num, HR, hd.more _⟩
                              case measure => first | (simp [intOf]; done) | (simp [intOf]; omega)
                        · have HR := Lib.hid (HYES.out (HPY.out HPK.out fun j h => HJ.out j (by omega)))
                          go_wp2_with fail
                          go_roundw
                          case rel => exact ⟨k + 1, by omega, by go_num, HR, hd⟩
                          case measure => first | (simp [intOf]; done) | (simp [intOf]; omega)
                    · have HR : Hid (vlB s l = false) := HNO.out (HPN.out (by rw [HOK.out, ← HM2.out, decide_eq_false m2]; simp))
                      clear HM1 HM2 HOK
                      generalize ix (bz s) (x.toNat : Int) = z1 at *
                      generalize ix (bz s) (y.toNat : Int) = z2 at *
                      go_wp2_with fail
                      go_quiet ((go_at_call 51; first | with_reducible exact quiet_same (HX1.out _) | with_reducible exact quiet_same (HX2.out _)))
                      go_wp2_with fail
                      go_ret
                      exact ⟨ret_bool HR.out.symm, hd.more _⟩
                  · have HR : Hid (vlB s l = false) := HNO.out (HPN.out (by rw [HOK.out, ← HM1.out, decide_eq_false m1]; simp))
                    clear HM1 HM2 HOK
                    generalize ix (bz s) (x.toNat : Int) = z1 at *
                    go_wp2_with fail
                    go_quiet ((go_at_call 51; exact quiet_same (HX1.out _)))
                    go_wp2_with fail
                    go_ret
                    exact ⟨ret_bool HR.out.symm, hd.more _⟩
              · have HR : Hid (vlB s l = false) := HNO.out (HPN.out (pairOk_no h2))
                have b2 : ((p.size : Int) != 2) = true := by rw [bne_iff_ne]; omega
                clear h2
                go_wp2_with fail
                go_quiet (fail)
                go_wp2_with fail
                go_ret
                exact ⟨ret_bool HR.out.symm, hd.more _⟩
            · have HR : Hid (vlB s l = true) := vlB_yes Q1.out Q2.out (by omega) fun i hi => HK.out i (by omega)
              go_wp2_with fail
              go_ret
              exact ⟨ret_bool HR.out.symm, hd⟩
    · have HR : Hid (vlB s l = false) := by unfold Hid vlB; rw [decide_eq_false (show ¬ l.length ≤ 40 by omega)]; simp
      go_enter Try.func33, Try.ntmps33
      go_wp2_with fail
      go_ret
      exact ⟨ret_bool HR.out.symm, Drd.refl _⟩
  · have HR : Hid (vlB s l = false) := by
      have : inB s.size 1 18 = false := by rw [← Bool.not_eq_true]; simpa [inB] using q1
      unfold Hid vlB; rw [this]; rfl
    by_cases h1 : 1 ≤ (s.size : Int)
    · have h18 : ¬ (s.size : Int) ≤ 18 := by omega
      clear q1
      go_enter Try.func33, Try.ntmps33
      go_wp2_with fail
      go_ret
      exact ⟨ret_bool HR.out.symm, Drd.refl _⟩
    · clear q1
      go_enter Try.func33, Try.ntmps33
      go_wp2_with fail
      go_ret
      exact ⟨ret_bool HR.out.symm, Drd.refl _⟩
end Go.Proofs.Ytdkheeocglfogaa
