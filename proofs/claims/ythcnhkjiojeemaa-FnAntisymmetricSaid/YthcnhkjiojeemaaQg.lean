/- IsQuasigroup: the program's. -/
import Derived.Test.YthcnhkjiojeemaaQgM
namespace Go.Proofs.Ythcnhkjiojeemaa
open Go.RowKit

set_option maxHeartbeats 2000000 in
theorem implQg_any (v : Value) (x : List (List Int)) (w : World) (hx : RT w v x) (hm : x.length ≤ 1048576) (hr : Small x) :
    Calls Try.prog 18 #[v] w fun e w' => e = .returned (.bool (qgB x)) ∧ Below w.heap.size w w' := by
  obtain ⟨a, c, rfl⟩ := hx.slice
  by_cases hin : 1 ≤ x.length ∧ x.length ≤ 36
  case neg =>
    have HR : Hid (qgB x = false) := qgB_size (inB_no (by omega))
    by_cases h1 : (x.length : Int) < 1
    · go_enter Try.func18, Try.ntmps18
      go_wp2_with fail
      go_ret
      exact ⟨ret_bool HR.out.symm, Below.refl _ _⟩
    · have h2 : 36 < (x.length : Int) := by omega
      go_enter Try.func18, Try.ntmps18
      go_wp2_with fail
      go_ret
      exact ⟨ret_bool HR.out.symm, Below.refl _ _⟩
  case pos =>
    obtain ⟨hin1, hin2⟩ := hin
    have hb := Below.refl w.heap.size w
    go_enter Try.func18, Try.ntmps18
    go_wp2_with fail
    go_loopw [17] (fun iv wr => ∃ k : Nat, k ≤ x.length ∧ iv = .int .i64 k ∧ Hid (∀ i, i < k → qRow x i = true) ∧ Below w.heap.size w wr) (fun iv _ => x.length - (intOf iv).toNat)
    case atStart => exact ⟨0, Nat.zero_le _, rfl, Lib.hid (fun i hi => by omega), hb⟩
    case round =>
      clear hb
      obtain ⟨k, hk, rfl, HK, hb⟩ := hrel
      by_cases hlt : k < x.length
      · obtain ⟨g, off, r, rfl, hg, hc, hri⟩ := (hx.later hb).at k hlt
        obtain ⟨ra, rc, rfl⟩ := hri.slice
        have hs := hr.out k hlt
        have HN : Hid (qRow x k = false → qgB x = false) := fun h => qgB_row k hlt h
        have HY : Hid (qRow x k = true → ∀ i, i < k + 1 → qRow x i = true) := fun h i hi => by
          by_cases e : i = k
          · subst e; exact h
          · exact HK.out i (by omega)
        clear HK
        by_cases hl : (rowAt x k).length = x.length
        · have HO : Hid (Calls Try.prog 45 #[.slice ra x.length rc, .int .i64 36] wr fun e w' => e = .returned (.bool (qRow x k)) ∧ Below wr.heap.size wr w') := by
            have := orderOf_any _ (rowAt x k) 36 wr hri hs
            rw [hl, inB_yes (show 1 ≤ (x.length : Int) ∧ (x.length : Int) ≤ 36 by omega), Bool.and_true, ← qRow_ord hl] at this
            exact this
          rw [hl] at hc
          clear hl hri hs
          generalize qRow x k = q at *
          cases q
          · have HR : Hid (qgB x = false) := HN.out rfl
            clear HN HY
            go_wp2_with (go_at_call 45; refine HO.out.mono ?_; rintro e w2 ⟨rfl, hb2⟩)
            go_ret
            exact ⟨ret_bool HR.out.symm, hb.trans (hb2.mono hb.size)⟩
          · have HR := Lib.hid (HY.out rfl)
            clear HN HY
            go_wp2_with (go_at_call 45; refine HO.out.mono ?_; rintro e w2 ⟨rfl, hb2⟩)
            go_roundw
            case rel => exact ⟨k + 1, by omega, by go_num, HR, hb.trans (hb2.mono hb.size)⟩
            case measure => first | (simp [intOf]; done) | (simp [intOf]; omega)
        · have HR : Hid (qgB x = false) := HN.out (qRow_len hl)
          clear HN HY hri
          generalize (rowAt x k).length = L at *
          go_wp2_with fail
          go_ret
          exact ⟨ret_bool HR.out.symm, hb⟩
      · obtain rfl : k = x.length := by omega
        have HL : Hid (∀ i, i < x.length → (rowAt x i).length = x.length) := fun i hi => by
          have := HK.out i hi
          unfold qRow at this
          rw [Bool.and_eq_true, decide_eq_true_eq] at this; exact this.1
        obtain ⟨G, O, C, H, F, P, he, hsq⟩ := hx.sqn (by omega) HL.out
        simp only [Value.slice.injEq, true_and] at he
        obtain ⟨rfl, rfl⟩ := he
        have HSQ := Lib.hid hsq
        clear hsq HL hlt
        go_wp2_with fail
        go_loopw [37] (fun iv wr => ∃ k : Nat, k ≤ x.length ∧ iv = .int .i64 k ∧ Hid (∀ i, i < k → qCol x i = true) ∧ Below w.heap.size w wr) (fun iv _ => x.length - (intOf iv).toNat)
        case atStart => exact ⟨0, Nat.zero_le _, rfl, Lib.hid (fun i hi => by omega), hb⟩
        case round =>
          clear hb
          obtain ⟨k, hk, rfl, HK2, hb⟩ := hrel
          by_cases hlt : k < x.length
          · have HN : Hid (qCol x k = false → qgB x = false) := fun h => qgB_col k hlt h
            have HY : Hid (qCol x k = true → ∀ i, i < k + 1 → qCol x i = true) := fun h i hi => by
              by_cases e : i = k
              · subst e; exact h
              · exact HK2.out i (by omega)
            clear HK2
            have hlti : (k : Int) < (x.length : Int) := by omega
            go_wp2_with fail
            have hb1 : Below w.heap.size w (wr.alloc (.cells #[] 2)) := hb.alloc hb.size _
            have ho : OI w.heap.size (wr.alloc (.cells #[] 2)) (.slice (some ⟨wr.heap.size, 0, none⟩) 0 0) ((colAt x k).take 0) := OK.made _ _ _ hb.size
            generalize wr.alloc (.cells #[] 2) = w1 at *
            generalize Value.slice (some ⟨wr.heap.size, 0, none⟩) 0 0 = ov0 at *
            go_loopw [6, 42] (fun ov iv wq => ∃ i : Nat, i ≤ x.length ∧ iv = .int .i64 i ∧ OI w.heap.size wq ov ((colAt x k).take i) ∧ Below w.heap.size w wq) (fun _ iv _ => x.length - (intOf iv).toNat)
            case atStart => exact ⟨0, Nat.zero_le _, rfl, ho, hb1⟩
            case round =>
              clear ho hb hb1
              obtain ⟨i, hi, rfl, ho, hb⟩ := hrel
              by_cases hil : i < x.length
              · have hsq := HSQ.out.later (hb.mono (Nat.le_refl _))
                have r1 := hsq.row i hil
                have r2 := hsq.cell i k hil hlt
                have HT := Lib.hid (colAt_take (y := k) hil)
                have hll : ((colAt x k).take i).length ≤ 1099511627776 := by rw [List.length_take]; omega
                have hz := hb.size
                have hili : (i : Int) < (x.length : Int) := by omega
                clear hsq
                generalize tb x i k = z at *
                go_wp2_with (at_builtin; refine wpl_app_i64 rfl _ _ rfl w.heap.size _ _ rfl (ho.alloc _) _ _ _ rfl (World.cell?_alloc_at _ _ _ _ rfl) hll (by simp; omega) ?_; intro v' w5 ho5 hgr)
                have hb5 : Below w.heap.size w w5 := own_below (hb.alloc hz _) (ho.alloc _) hgr (by simp; omega)
                go_roundw
                case rel => exact ⟨i + 1, by omega, by go_num, by rw [HT.out]; exact ho5, hb5⟩
                case measure => first | (simp [intOf]; done) | (simp [intOf]; omega)
              · obtain rfl : i = x.length := by omega
                rw [List.take_of_length_le (by rw [colAt_len]; exact Nat.le_refl _)] at ho
                have HO : Hid (∀ u, OI w.heap.size wr u (colAt x k) → Calls Try.prog 45 #[u, .int .i64 36] wr fun e w' => e = .returned (.bool (qCol x k)) ∧ Below wr.heap.size wr w') := fun u hu => by
                  have := orderOf_any _ (colAt x k) 36 wr hu.read (by rw [colAt_len]; exact hm)
                  rw [colAt_len, inB_yes (show 1 ≤ (x.length : Int) ∧ (x.length : Int) ≤ 36 by omega), Bool.and_true] at this
                  exact this
                generalize qCol x k = q at *
                cases q
                · have HR : Hid (qgB x = false) := HN.out rfl
                  clear HN HY
                  go_wp2_with (go_at_call 45; refine (HO.out _ ho).mono ?_; rintro e w2 ⟨rfl, hb2⟩)
                  go_ret
                  exact ⟨ret_bool HR.out.symm, hb.trans (hb2.mono hb.size)⟩
                · have HR := Lib.hid (HY.out rfl)
                  clear HN HY
                  go_wp2_with (go_at_call 45; refine (HO.out _ ho).mono ?_; rintro e w2 ⟨rfl, hb2⟩)
                  go_roundw
                  case rel => exact ⟨k + 1, by omega, by go_num, HR, hb.trans (hb2.mono hb.size)⟩
                  case measure => first | (simp [intOf]; done) | (simp [intOf]; omega)
          · obtain rfl : k = x.length := by omega
            have HR : Hid (qgB x = true) := qgB_yes (inB_yes (by omega)) HK.out HK2.out
            go_wp2_with fail
            go_ret
            exact ⟨ret_bool HR.out.symm, hb⟩
end Go.Proofs.Ythcnhkjiojeemaa
