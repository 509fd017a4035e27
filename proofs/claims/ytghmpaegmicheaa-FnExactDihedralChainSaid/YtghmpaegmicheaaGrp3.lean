/- The tests of groups: the program's and the reference's. -/
import Derived.Test.YtghmpaegmicheaaGrp2
namespace Go.Proofs.Ytghmpaegmicheaa
open Go.RowKit

theorem grpB_sq {x : List (List Int)} (h : sqB x = false) : grpB x = false := by unfold grpB; rw [h]; rfl
theorem grpB_id {x : List (List Int)} (h : ¬ 0 ≤ idn x) : grpB x = false := by unfold grpB; rw [decide_eq_false h]; simp
theorem grpB_row {x : List (List Int)} (i : Nat) (hi : i < x.length) (h : grpR x i = false) : grpB x = false := by unfold grpB; rw [allN_no i hi h]; simp
theorem grpB_yes {x : List (List Int)} (h1 : sqB x = true) (h2 : 0 ≤ idn x) (h3 : ∀ i, i < x.length → grpR x i = true) : grpB x = true := by
  unfold grpB; rw [h1, decide_eq_true h2, allN_yes h3]; rfl
theorem grpB_iff {x : List (List Int)} : grpB x = true ↔ sqB x = true ∧ 0 ≤ idn x ∧ ∀ i, i < x.length → grpR x i = true := by
  unfold grpB; rw [Bool.and_eq_true, Bool.and_eq_true, allN_iff, decide_eq_true_eq]
theorem grpR_no {x : List (List Int)} {i : Nat} (j k : Nat) (hj : j < x.length) (hk : k < x.length) (h : asc x i j k = false) : grpR x i = false := by
  unfold grpR; rw [allN_no j hj (show ascR x i j = false from allN_no k hk h)]; simp
theorem grpR_inv {x : List (List Int)} {i : Nat} (h : ¬ 0 ≤ inv x (idn x) i) : grpR x i = false := by unfold grpR; rw [decide_eq_false h]; rfl
theorem grpR_yes {x : List (List Int)} {i : Nat} (h : 0 ≤ inv x (idn x) i) (h2 : ∀ j, j < x.length → ascR x i j = true) : grpR x i = true := by
  unfold grpR; rw [decide_eq_true h, allN_yes h2]; rfl


set_option maxHeartbeats 4000000 in
theorem implVG_any (v : Value) (x : List (List Int)) (w : World) (hx : RT w v x) (hm : x.length ≤ 1048576) (hr : Small x) :
    Calls Try.prog 33 #[.agg #[v]] w fun e w' => e = .returned (.bool (grpB x)) ∧ Below w.heap.size w w' := by
  have hb1 : Below w.heap.size w (w.alloc (.cells #[v] 29)) := (Below.refl _ _).alloc (Nat.le_refl _) _
  have hsz : w.heap.size + 1 = (w.alloc (.cells #[v] 29)).heap.size := by simp
  by_cases hsq : sqB x = true
  · have hs := Lib.hid hsq
    obtain ⟨G, O, C, H, F, P, rfl, hat⟩ := hx.sq hsq
    have hel : ∀ w1, Below w.heap.size w w1 → Calls Try.prog 65 #[.slice (some ⟨G, O, none⟩) x.length C] w1 fun e w' => e = .returned (.bool true) ∧ Below w1.heap.size w1 w' := fun w1 h1 => by
      have := elements_any _ x w1 (hx.later h1) hm hr
      rw [hsq] at this; exact this
    have hn := (sqB_iff.1 hsq).1
    have HSQ := Lib.hid hat
    have hb0 : Hid True := trivial
    have hcg : Hid (∀ w1, Below w.heap.size w w1 → True) := fun _ _ => trivial
    clear hsq hat
    by_cases hid : 0 ≤ idn x
    · have hidb := idn_bd x
      have HID : Hid (∀ w1, Below w.heap.size w w1 → Calls Try.prog 61 #[.slice (some ⟨G, O, none⟩) x.length C] w1 fun e w' => e = .returned (.int .i64 (idn x)) ∧ w1 = w') := fun w1 h => identity_any x w1 hs (HSQ.out.later h)
      have HIDN : Hid (0 ≤ idn x) := hid
      generalize hidv : idn x = e0 at *
      have HE0 := Lib.hid hidv
      clear hidv
      go_enter Try.func33, Try.ntmps33
      go_wp2_with fail
      refine (hel _ hb1).mono ?_
      rintro e w1 ⟨rfl, hb2⟩
      have hb := hb1.trans (hb2.mono (by omega))
      clear hb1 hb2 hsz
      go_wp2_with (go_at_call 61; refine (HID.out _ hb).mono ?_; rintro e w' ⟨rfl, rfl⟩)
      go_loopw [19] (fun iv wr => ∃ i : Nat, i ≤ x.length ∧ iv = .int .i64 i ∧ Hid (∀ q, q < i → grpR x q = true) ∧ Below w.heap.size w wr) (fun iv _ => x.length - (intOf iv).toNat)
      case atStart => exact ⟨0, Nat.zero_le _, rfl, (fun q hq => by omega), hb⟩
      case round =>
        obtain ⟨i, hi, rfl, HI, hb⟩ := hrel
        by_cases hil : i < x.length
        · have hib := inv_bd x e0 i
          have HIN : Hid (∀ w1, Below w.heap.size w w1 → Calls Try.prog 63 #[.slice (some ⟨G, O, none⟩) x.length C, .int .i64 e0, .int .i64 i] w1 fun e w' => e = .returned (.int .i64 (inv x e0 i)) ∧ w1 = w') := fun w1 h => inverse_any x e0 i w1 hs (HSQ.out.later h) hil
          by_cases hinv : 0 ≤ inv x e0 i
          · have HINV : Hid (0 ≤ inv x (idn x) i) := by unfold Hid; rw [HE0.out]; exact hinv
            generalize inv x e0 i = y0 at *
            go_wp2_with (first
              | (go_at_call 61; refine (HID.out _ hb).mono ?_; rintro e w' ⟨rfl, rfl⟩)
              | (go_at_call 63; refine (HIN.out _ hb).mono ?_; rintro e w' ⟨rfl, rfl⟩))
            go_wp2_with fail
            go_loopw [30] (fun jv wr => ∃ j : Nat, j ≤ x.length ∧ jv = .int .i64 j ∧ Hid (∀ q, q < j → ascR x i q = true) ∧ Below w.heap.size w wr) (fun jv _ => x.length - (intOf jv).toNat)
            case atStart => exact ⟨0, Nat.zero_le _, rfl, (fun q hq => by omega), hb⟩
            case round =>
              obtain ⟨j, hj, rfl, HJ, hb⟩ := hrel
              by_cases hjl : j < x.length
              · go_wp2_with fail
                go_loopw [35] (fun kv wr => ∃ k : Nat, k ≤ x.length ∧ kv = .int .i64 k ∧ Hid (∀ q, q < k → asc x i j q = true) ∧ Below w.heap.size w wr) (fun kv _ => x.length - (intOf kv).toNat)
                case atStart => exact ⟨0, Nat.zero_le _, rfl, (fun q hq => by omega), hb⟩
                case round =>
                  obtain ⟨k, hk, rfl, HK, hb⟩ := hrel
                  by_cases hkl : k < x.length
                  · have hsq := HSQ.out.later hb
                    have hd := hb0.out
                    have t1 := tb_bd hs.out i j hil hjl
                    have t2 := tb_bd hs.out j k hjl hkl
                    have r1 := hsq.row i hil
                    have r2 := hsq.row j hjl
                    have r3 := hsq.row (tb x i j).toNat (by omega)
                    have c1 := hsq.cell i j hil hjl
                    have c2 := hsq.cell j k hjl hkl
                    have c3 := hsq.cell (tb x i j).toNat k (by omega) hkl
                    have c4 := hsq.cell i (tb x j k).toNat hil (by omega)
                    have HA : Hid (asc x i j k = decide (tb x (tb x i j).toNat k = tb x i (tb x j k).toNat)) := rfl
                    have HN : Hid (asc x i j k = true → ∀ q, q < k + 1 → asc x i j q = true) := fun hf q hq => by
                      by_cases h : q = k
                      · subst h; exact hf
                      · exact HK.out q (by omega)
                    have HF : Hid (asc x i j k = false → grpB x = false) := fun h => grpB_row i hil (grpR_no j k hjl hkl h)
                    have hcell := hcg.out wr hb
                    clear hsq hd
                    generalize tb x (tb x i j).toNat k = z3 at *
                    generalize tb x i (tb x j k).toNat = z4 at *
                    generalize tb x i j = z1 at *
                    generalize tb x j k = z2 at *
                    by_cases h : z3 = z4
                    · have hne : (z3 != z4) = false := by simp [h]
                      have HV : Hid (∀ q, q < k + 1 → asc x i j q = true) := HN.out (by rw [HA.out, decide_eq_true h])
                      clear h
                      go_wp2_with fail
                      go_quiet (fail)
                      go_wp2_with fail
                      go_roundw
                      case rel => exact ⟨k + 1, by omega, by go_num, HV, below_drewN hb _⟩
                      case measure => first | (simp [intOf]; done) | (simp [intOf]; omega)
                    · have hne : (z3 != z4) = true := by simp [h]
                      have HV : Hid (grpB x = false) := HF.out (by rw [HA.out, decide_eq_false h])
                      clear h
                      go_wp2_with fail
                      go_quiet (fail)
                      go_wp2_with fail
                      go_ret
                      exact ⟨ret_bool HV.out.symm, below_drewN hb _⟩
                  · have HV : Hid (∀ q, q < j + 1 → ascR x i q = true) := fun q hq => by
                      by_cases h : q = j
                      · subst h; exact allN_yes fun m hm => HK.out m (by omega)
                      · exact HJ.out q (by omega)
                    go_wp2_with fail
                    go_roundw
                    case rel => exact ⟨j + 1, by omega, by go_num, HV, hb⟩
                    case measure => first | (simp [intOf]; done) | (simp [intOf]; omega)
              · have HV : Hid (∀ q, q < i + 1 → grpR x q = true) := fun q hq => by
                  by_cases h : q = i
                  · subst h; exact grpR_yes HINV.out fun m hm => HJ.out m (by omega)
                  · exact HI.out q (by omega)
                go_wp2_with fail
                go_roundw
                case rel => exact ⟨i + 1, by omega, by go_num, HV, hb⟩
                case measure => first | (simp [intOf]; done) | (simp [intOf]; omega)
          · have HV : Hid (grpB x = false) := grpB_row i hil (grpR_inv (by rw [HE0.out]; exact hinv))
            generalize inv x e0 i = y0 at *
            go_wp2_with (first
              | (go_at_call 61; refine (HID.out _ hb).mono ?_; rintro e w' ⟨rfl, rfl⟩)
              | (go_at_call 63; refine (HIN.out _ hb).mono ?_; rintro e w' ⟨rfl, rfl⟩))
            go_ret
            exact ⟨ret_bool HV.out.symm, hb⟩
        · have HV : Hid (grpB x = true) := grpB_yes hs.out (by rw [HE0.out]; exact HIDN.out) fun q hq => HI.out q (by omega)
          go_wp2_with fail
          go_ret
          exact ⟨ret_bool HV.out.symm, hb⟩
    · have HV : Hid (grpB x = false) := grpB_id hid
      have HID : Hid (∀ w1, Below w.heap.size w w1 → Calls Try.prog 61 #[.slice (some ⟨G, O, none⟩) x.length C] w1 fun e w' => e = .returned (.int .i64 (idn x)) ∧ w1 = w') := fun w1 h => identity_any x w1 hs (HSQ.out.later h)
      generalize idn x = e0 at *
      go_enter Try.func33, Try.ntmps33
      go_wp2_with fail
      refine (hel _ hb1).mono ?_
      rintro e w1 ⟨rfl, hb2⟩
      have hb := hb1.trans (hb2.mono (by omega))
      clear hb1 hb2 hsz
      go_wp2_with (go_at_call 61; refine (HID.out _ hb).mono ?_; rintro e w' ⟨rfl, rfl⟩)
      go_ret
      exact ⟨ret_bool HV.out.symm, hb⟩
  · simp only [Bool.not_eq_true] at hsq
    have HV := Lib.hid (grpB_sq hsq)
    have hel : ∀ w1, Below w.heap.size w w1 → Calls Try.prog 65 #[v] w1 fun e w' => e = .returned (.bool false) ∧ Below w1.heap.size w1 w' := fun w1 h1 => by
      have := elements_any _ x w1 (hx.later h1) hm hr
      rw [hsq] at this; exact this
    clear hsq
    obtain ⟨a, c, rfl⟩ := hx.slice
    go_enter Try.func33, Try.ntmps33
    go_wp2_with fail
    refine (hel _ hb1).mono ?_
    rintro e w1 ⟨rfl, hb2⟩
    have hb := hb1.trans (hb2.mono (by omega))
    clear hb1 hb2 hsz
    go_wp2_with fail
    go_ret
    exact ⟨ret_bool HV.out.symm, hb⟩

set_option maxHeartbeats 4000000 in
set_option maxRecDepth 100000 in
theorem l05Is_any (v : Value) (x : List (List Int)) (g : Nat) (w : World) (hg : w.cell? ⟨g, 0, none⟩ = some v) (hx : RT w v x) (hm : x.length ≤ 1048576) (hr : Small x) :
    Calls Try.prog 52 #[.pointer (some ⟨g, 0, none⟩)] w fun e w' => e = .returned (.bool (grpB x)) ∧ Drw w w' := by
  have hgl : g < w.heap.size := World.block_lt_of_cell? w _ hg
  obtain ⟨a, c, rfl⟩ := hx.slice
  by_cases h1 : 1 ≤ x.length ∧ x.length ≤ 10
  · obtain ⟨h1, h2⟩ := h1
    go_enter Try.func52, Try.ntmps52
    go_wp2_with fail
    go_loop [4] (fun iv => ∃ k : Nat, k ≤ x.length ∧ iv = .int .i64 k ∧ Hid (∀ i, i < k → okR x.length (rowAt x i) = true)) (fun iv => x.length - (intOf iv).toNat)
    case atStart => exact ⟨0, Nat.zero_le _, rfl, fun i hi => by omega⟩
    case round =>
      obtain ⟨k, hk, rfl, HK⟩ := hrel
      by_cases hlt : k < x.length
      · obtain ⟨g1, off, r, rfl, hg1, hc, hrow⟩ := hx.at k hlt
        have hrk := hr.out k hlt
        obtain ⟨ra, rc, rfl⟩ := hrow.slice
        have HN : Hid (okR x.length (rowAt x k) = true → ∀ i, i < k + 1 → okR x.length (rowAt x i) = true) := fun hf i hi => by
          by_cases h : i = k
          · subst h; exact hf
          · exact HK.out i (by omega)
        have HF : Hid (okR x.length (rowAt x k) = false → grpB x = false) := fun hf => by
          refine grpB_sq (sqB_no k hlt fun hh => ?_)
          unfold okR at hf
          rw [hh.2, decide_eq_true hh.1] at hf
          cases hf
        have HO : Hid (okR x.length (rowAt x k) = (decide ((rowAt x k).length = x.length) && rowB x.length (rowAt x k))) := rfl
        by_cases h : (rowAt x k).length = x.length
        · have HB : Hid (∀ wx, RI wx (.slice ra (rowAt x k).length rc) (rowAt x k) → Calls Try.prog 69 #[.slice ra (rowAt x k).length rc, .int .i64 x.length] wx fun e w' => e = .returned (.bool (rowB x.length (rowAt x k))) ∧ wx = w') := fun wx hw => l01Below_any _ _ _ wx hw (by omega) (by omega)
          rw [decide_eq_true h] at HO
          have hne : (((rowAt x k).length : Int) != (x.length : Int)) = false := by simp [h]
          clear h
          generalize rowB x.length (rowAt x k) = b at *
          cases b
          · have HV : Hid (grpB x = false) := HF.out (by rw [HO.out]; rfl)
            go_wp2_with (go_at_call 69; refine (HB.out _ hrow).mono ?_; rintro e w' ⟨rfl, rfl⟩)
            go_ret
            exact ⟨ret_bool HV.out.symm, Drw.refl _⟩
          · have HV : Hid (∀ i, i < k + 1 → okR x.length (rowAt x i) = true) := HN.out (by rw [HO.out]; rfl)
            go_wp2_with (go_at_call 69; refine (HB.out _ hrow).mono ?_; rintro e w' ⟨rfl, rfl⟩)
            go_round
            case rel => exact ⟨k + 1, by omega, by go_num, HV⟩
            case measure => first | (simp [intOf]; done) | (simp [intOf]; omega)
        · have hne : (((rowAt x k).length : Int) != (x.length : Int)) = true := by simp; omega
          have HV : Hid (grpB x = false) := HF.out (by rw [HO.out, decide_eq_false h]; rfl)
          clear h
          go_wp2_with fail
          go_ret
          exact ⟨ret_bool HV.out.symm, Drw.refl _⟩
      · have hsq : sqB x = true := sqB_iff.2 ⟨⟨h1, h2⟩, fun i hi => by
          have := HK.out i (by omega)
          unfold okR at this
          simpa using this⟩
        have hs := Lib.hid hsq
        obtain ⟨G, O, C, H, F, P, hve, hat⟩ := hx.sq hsq
        simp only [Value.slice.injEq, true_and] at hve
        obtain ⟨rfl, rfl⟩ := hve
        have HSQ := Lib.hid hat
        have hb0 : Hid True := trivial
        have hcg : Hid (∀ w1, Below w.heap.size w w1 → w1.cell? ⟨g, 0, none⟩ = some (.slice (some ⟨G, O, none⟩) x.length c)) := fun w1 h => by rw [h.cell (p := ⟨g, 0, none⟩) hgl]; exact hg
        clear hsq hat HK
        have HID : Hid (∀ w1, Below w.heap.size w w1 → Calls Try.prog 70 #[.slice (some ⟨G, O, none⟩) x.length c] w1 fun e w' => e = .returned (.int .i64 (idn x)) ∧ w1 = w') := fun w1 h => l05Identity_any x w1 hs (HSQ.out.later h)
        have hidb := idn_bd x
        by_cases hid : 0 ≤ idn x
        · have HIDN : Hid (0 ≤ idn x) := hid
          generalize hidv : idn x = e0 at *
          have HE0 := Lib.hid hidv
          clear hidv
          go_wp2_with (go_at_call 70; refine (HID.out _ (Below.refl _ _)).mono ?_; rintro e w' ⟨rfl, rfl⟩)
          go_loopw [6] (fun iv wr => ∃ i : Nat, i ≤ x.length ∧ iv = .int .i64 i ∧ Hid (∀ q, q < i → grpR x q = true) ∧ Drw w wr) (fun iv _ => x.length - (intOf iv).toNat)
          case atStart => exact ⟨0, Nat.zero_le _, rfl, (fun q hq => by omega), Drw.refl _⟩
          case round =>
            obtain ⟨i, hi, rfl, HI, hb⟩ := hrel
            have hcell := hcg.out wr hb.below
            by_cases hil : i < x.length
            · have hib := inv_bd x e0 i
              have HIN : Hid (∀ w1, Below w.heap.size w w1 → Calls Try.prog 95 #[.slice (some ⟨G, O, none⟩) x.length c, .int .i64 e0, .int .i64 i] w1 fun e w' => e = .returned (.int .i64 (inv x e0 i)) ∧ w1 = w') := fun w1 h => l05Inverse_any x e0 i w1 hs (HSQ.out.later h) hil
              by_cases hinv : 0 ≤ inv x e0 i
              · have HINV : Hid (0 ≤ inv x (idn x) i) := by unfold Hid; rw [HE0.out]; exact hinv
                generalize inv x e0 i = y0 at *
                go_wp2_with (go_at_call 95; refine (HIN.out _ hb.below).mono ?_; rintro e w' ⟨rfl, rfl⟩)
                clear hcell
                go_wp2_with fail
                go_loopw [7] (fun jv wr => ∃ j : Nat, j ≤ x.length ∧ jv = .int .i64 j ∧ Hid (∀ q, q < j → ascR x i q = true) ∧ Drw w wr) (fun jv _ => x.length - (intOf jv).toNat)
                case atStart => exact ⟨0, Nat.zero_le _, rfl, (fun q hq => by omega), hb⟩
                case round =>
                  obtain ⟨j, hj, rfl, HJ, hb⟩ := hrel
                  by_cases hjl : j < x.length
                  · go_wp2_with fail
                    go_loopw [8] (fun kv wr => ∃ k : Nat, k ≤ x.length ∧ kv = .int .i64 k ∧ Hid (∀ q, q < k → asc x i j q = true) ∧ Drw w wr) (fun kv _ => x.length - (intOf kv).toNat)
                    case atStart => exact ⟨0, Nat.zero_le _, rfl, (fun q hq => by omega), hb⟩
                    case round =>
                      obtain ⟨k, hk, rfl, HK, hb⟩ := hrel
                      by_cases hkl : k < x.length
                      · have hsq := HSQ.out.later hb.below
                        have hd := hb0.out
                        have t1 := tb_bd hs.out i j hil hjl
                        have t2 := tb_bd hs.out j k hjl hkl
                        have r1 := hsq.row i hil
                        have r2 := hsq.row j hjl
                        have r3 := hsq.row (tb x i j).toNat (by omega)
                        have c1 := hsq.cell i j hil hjl
                        have c2 := hsq.cell j k hjl hkl
                        have c3 := hsq.cell (tb x i j).toNat k (by omega) hkl
                        have c4 := hsq.cell i (tb x j k).toNat hil (by omega)
                        have HA : Hid (asc x i j k = decide (tb x (tb x i j).toNat k = tb x i (tb x j k).toNat)) := rfl
                        have HN : Hid (asc x i j k = true → ∀ q, q < k + 1 → asc x i j q = true) := fun hf q hq => by
                          by_cases h : q = k
                          · subst h; exact hf
                          · exact HK.out q (by omega)
                        have HF : Hid (asc x i j k = false → grpB x = false) := fun h => grpB_row i hil (grpR_no j k hjl hkl h)
                        have hcell := hcg.out wr hb.below
                        clear hsq hd
                        generalize tb x (tb x i j).toNat k = z3 at *
                        generalize tb x i (tb x j k).toNat = z4 at *
                        generalize tb x i j = z1 at *
                        generalize tb x j k = z2 at *
                        by_cases h : z3 = z4
                        · have hne : (z3 != z4) = false := by simp [h]
                          have HV : Hid (∀ q, q < k + 1 → asc x i j q = true) := HN.out (by rw [HA.out, decide_eq_true h])
                          clear h
                          go_wp2_with fail
                          go_quiet (fail)
                          go_wp2_with fail
                          go_roundw
                          case rel => exact ⟨k + 1, by omega, by go_num, HV, hb.more _⟩
                          case measure => first | (simp [intOf]; done) | (simp [intOf]; omega)
                        · have hne : (z3 != z4) = true := by simp [h]
                          have HV : Hid (grpB x = false) := HF.out (by rw [HA.out, decide_eq_false h])
                          clear h
                          go_wp2_with fail
                          go_quiet (fail)
                          go_wp2_with fail
                          go_ret
                          exact ⟨ret_bool HV.out.symm, hb.more _⟩
                      · have HV : Hid (∀ q, q < j + 1 → ascR x i q = true) := fun q hq => by
                          by_cases h : q = j
                          · subst h; exact allN_yes fun m hm => HK.out m (by omega)
                          · exact HJ.out q (by omega)
                        go_wp2_with fail
                        go_roundw
                        case rel => exact ⟨j + 1, by omega, by go_num, HV, hb⟩
                        case measure => first | (simp [intOf]; done) | (simp [intOf]; omega)
                  · have HV : Hid (∀ q, q < i + 1 → grpR x q = true) := fun q hq => by
                      by_cases h : q = i
                      · subst h; exact grpR_yes HINV.out fun m hm => HJ.out m (by omega)
                      · exact HI.out q (by omega)
                    go_wp2_with fail
                    go_roundw
                    case rel => exact ⟨i + 1, by omega, by go_num, HV, hb⟩
                    case measure => first | (simp [intOf]; done) | (simp [intOf]; omega)
              · have HV : Hid (grpB x = false) := grpB_row i hil (grpR_inv (by rw [HE0.out]; exact hinv))
                generalize inv x e0 i = y0 at *
                go_wp2_with (go_at_call 95; refine (HIN.out _ hb.below).mono ?_; rintro e w' ⟨rfl, rfl⟩)
                go_ret
                exact ⟨ret_bool HV.out.symm, hb⟩
            · have HV : Hid (grpB x = true) := grpB_yes hs.out (by rw [HE0.out]; exact HIDN.out) fun q hq => HI.out q (by omega)
              go_wp2_with fail
              go_ret
              exact ⟨ret_bool HV.out.symm, hb⟩
        · have HV : Hid (grpB x = false) := grpB_id hid
          generalize idn x = e0 at *
          go_wp2_with (go_at_call 70; refine (HID.out _ (Below.refl _ _)).mono ?_; rintro e w' ⟨rfl, rfl⟩)
          go_ret
          exact ⟨ret_bool HV.out.symm, Drw.refl _⟩
  · have HV : Hid (grpB x = false) := grpB_sq (sqB_size h1)
    by_cases h2 : 1 ≤ x.length
    · have h3 : ¬ x.length ≤ 10 := fun h => h1 ⟨h2, h⟩
      clear h1
      go_enter Try.func52, Try.ntmps52
      go_wp2_with fail
      go_ret
      exact ⟨ret_bool HV.out.symm, Drw.refl _⟩
    · clear h1
      go_enter Try.func52, Try.ntmps52
      go_wp2_with fail
      go_ret
      exact ⟨ret_bool HV.out.symm, Drw.refl _⟩
end Go.Proofs.Ytghmpaegmicheaa
