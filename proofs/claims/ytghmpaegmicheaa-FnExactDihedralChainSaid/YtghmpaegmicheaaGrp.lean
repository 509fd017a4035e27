/- The identity and the inverses of a square table: the program's and the reference's. -/
import Derived.Test.YtghmpaegmicheaaGrpM
import Derived.Test.YtghmpaegmicheaaIn
namespace Go.Proofs.Ytghmpaegmicheaa
open Go.RowKit

set_option maxHeartbeats 1000000 in
theorem identity_any (x : List (List Int)) (w : World) {G O C : Nat} {H F P : Nat → Nat} (hs : Hid (sqB x = true)) (hx : SqAt G O H F P x w) :
    Calls Try.prog 61 #[.slice (some ⟨G, O, none⟩) x.length C] w fun e w' => e = .returned (.int .i64 (idn x)) ∧ w = w' := by
  have hn := (sqB_iff.1 hs.out).1.2
  have HR := Lib.hid hx.row
  have HC := Lib.hid hx.cell
  clear hx
  go_enter Try.func61, Try.ntmps61
  go_wp2_with fail
  go_loop [8] (fun iv => ∃ k : Nat, k ≤ x.length ∧ iv = .int .i64 k ∧ Hid (∀ i, i < k → allN x.length (idAt x i) = false)) (fun iv => x.length - (intOf iv).toNat)
  case atStart => exact ⟨0, Nat.zero_le _, rfl, fun i hi => by omega⟩
  case round =>
    obtain ⟨e, he, rfl, HK⟩ := hrel
    by_cases hlt : e < x.length
    · have r1 := HR.out e hlt
      go_wp2_with fail
      go_loop [4, 13] (fun bv iv => ∃ k : Nat, k ≤ x.length ∧ iv = .int .i64 k ∧ bv = .bool (allN k (idAt x e))) (fun _ iv => x.length - (intOf iv).toNat)
      case atStart => exact ⟨0, Nat.zero_le _, rfl, rfl⟩
      case round =>
        obtain ⟨k, hk, rfl, rfl⟩ := hrel
        by_cases hk2 : k < x.length
        · have r2 := HR.out k hk2
          have c1 := HC.out e k hlt hk2
          have c2 := HC.out k e hk2 hlt
          have HS : Hid (allN (k + 1) (idAt x e) = (allN k (idAt x e) && (decide (tb x e k = (k : Int)) && decide (tb x k e = (k : Int))))) := allN_succ _ _
          generalize tb x e k = z1 at *
          generalize tb x k e = z2 at *
          generalize allN k (idAt x e) = b at *
          cases b
          · have HV : Hid (allN (k + 1) (idAt x e) = false) := by unfold Hid; rw [HS.out]; simp
            go_wp2_with fail
            go_round
            case rel => exact ⟨k + 1, by omega, by go_num, by rw [HV.out]⟩
            case measure => first | (simp [intOf]; done) | (simp [intOf]; omega)
          · by_cases h1 : z1 = (k : Int)
            · have b1 : (z1 == (k : Int)) = true := by simp [h1]
              by_cases h2 : z2 = (k : Int)
              · have b2 : (z2 == (k : Int)) = true := by simp [h2]
                have HV : Hid (allN (k + 1) (idAt x e) = true) := by unfold Hid; rw [HS.out, decide_eq_true h1, decide_eq_true h2]; rfl
                clear h1 h2
                go_wp2_with fail
                go_round
                case rel => exact ⟨k + 1, by omega, by go_num, by rw [HV.out]⟩
                case measure => first | (simp [intOf]; done) | (simp [intOf]; omega)
              · have b2 : (z2 == (k : Int)) = false := by simp [h2]
                have HV : Hid (allN (k + 1) (idAt x e) = false) := by unfold Hid; rw [HS.out, decide_eq_false h2]; simp
                clear h1 h2
                go_wp2_with fail
                go_round
                case rel => exact ⟨k + 1, by omega, by go_num, by rw [HV.out]⟩
                case measure => first | (simp [intOf]; done) | (simp [intOf]; omega)
            · have b1 : (z1 == (k : Int)) = false := by simp [h1]
              have HV : Hid (allN (k + 1) (idAt x e) = false) := by unfold Hid; rw [HS.out, decide_eq_false h1]; simp
              clear h1
              go_wp2_with fail
              go_round
              case rel => exact ⟨k + 1, by omega, by go_num, by rw [HV.out]⟩
              case measure => first | (simp [intOf]; done) | (simp [intOf]; omega)
        · obtain rfl : k = x.length := by omega
          generalize hb : allN x.length (idAt x e) = b at *
          cases b
          · have HK2 : Hid (∀ i, i < e + 1 → allN x.length (idAt x i) = false) := fun i hi => by
              by_cases h : i = e
              · subst h; exact hb
              · exact HK.out i (by omega)
            clear hb
            go_wp2_with fail
            go_round
            case rel => exact ⟨e + 1, by omega, by go_num, HK2⟩
            case measure => first | (simp [intOf]; done) | (simp [intOf]; omega)
          · have HV : Hid (idn x = (e : Int)) := fst1_yes e hlt hb HK.out
            clear hb
            go_wp2_with fail
            go_ret
            exact ⟨ret_i64 HV.out.symm, rfl⟩
    · have HV : Hid (idn x = -1) := fst1_no fun i hi => HK.out i (by omega)
      go_wp2_with fail
      go_ret
      exact ⟨ret_i64 HV.out.symm, rfl⟩
set_option maxHeartbeats 1000000 in
theorem l05Identity_any (x : List (List Int)) (w : World) {G O C : Nat} {H F P : Nat → Nat} (hs : Hid (sqB x = true)) (hx : SqAt G O H F P x w) :
    Calls Try.prog 70 #[.slice (some ⟨G, O, none⟩) x.length C] w fun e w' => e = .returned (.int .i64 (idn x)) ∧ w = w' := by
  have hn := (sqB_iff.1 hs.out).1.2
  have HR := Lib.hid hx.row
  have HC := Lib.hid hx.cell
  clear hx
  go_enter Try.func70, Try.ntmps70
  go_wp2_with fail
  go_loop [3] (fun iv => ∃ k : Nat, k ≤ x.length ∧ iv = .int .i64 k ∧ Hid (∀ i, i < k → allN x.length (idAt x i) = false)) (fun iv => x.length - (intOf iv).toNat)
  case atStart => exact ⟨0, Nat.zero_le _, rfl, fun i hi => by omega⟩
  case round =>
    obtain ⟨e, he, rfl, HK⟩ := hrel
    by_cases hlt : e < x.length
    · have r1 := HR.out e hlt
      go_wp2_with fail
      go_loop [4, 5] (fun bv iv => ∃ k : Nat, k ≤ x.length ∧ iv = .int .i64 k ∧ bv = .bool (allN k (idAt x e))) (fun _ iv => x.length - (intOf iv).toNat)
      case atStart => exact ⟨0, Nat.zero_le _, rfl, rfl⟩
      case round =>
        obtain ⟨k, hk, rfl, rfl⟩ := hrel
        by_cases hk2 : k < x.length
        · have r2 := HR.out k hk2
          have c1 := HC.out e k hlt hk2
          have c2 := HC.out k e hk2 hlt
          have HS : Hid (allN (k + 1) (idAt x e) = (allN k (idAt x e) && (decide (tb x e k = (k : Int)) && decide (tb x k e = (k : Int))))) := allN_succ _ _
          generalize tb x e k = z1 at *
          generalize tb x k e = z2 at *
          generalize allN k (idAt x e) = b at *
          cases b
          · have HV : Hid (allN (k + 1) (idAt x e) = false) := by unfold Hid; rw [HS.out]; simp
            go_wp2_with fail
            go_round
            case rel => exact ⟨k + 1, by omega, by go_num, by rw [HV.out]⟩
            case measure => first | (simp [intOf]; done) | (simp [intOf]; omega)
          · by_cases h1 : z1 = (k : Int)
            · have b1 : (z1 == (k : Int)) = true := by simp [h1]
              by_cases h2 : z2 = (k : Int)
              · have b2 : (z2 == (k : Int)) = true := by simp [h2]
                have HV : Hid (allN (k + 1) (idAt x e) = true) := by unfold Hid; rw [HS.out, decide_eq_true h1, decide_eq_true h2]; rfl
                clear h1 h2
                go_wp2_with fail
                go_round
                case rel => exact ⟨k + 1, by omega, by go_num, by rw [HV.out]⟩
                case measure => first | (simp [intOf]; done) | (simp [intOf]; omega)
              · have b2 : (z2 == (k : Int)) = false := by simp [h2]
                have HV : Hid (allN (k + 1) (idAt x e) = false) := by unfold Hid; rw [HS.out, decide_eq_false h2]; simp
                clear h1 h2
                go_wp2_with fail
                go_round
                case rel => exact ⟨k + 1, by omega, by go_num, by rw [HV.out]⟩
                case measure => first | (simp [intOf]; done) | (simp [intOf]; omega)
            · have b1 : (z1 == (k : Int)) = false := by simp [h1]
              have HV : Hid (allN (k + 1) (idAt x e) = false) := by unfold Hid; rw [HS.out, decide_eq_false h1]; simp
              clear h1
              go_wp2_with fail
              go_round
              case rel => exact ⟨k + 1, by omega, by go_num, by rw [HV.out]⟩
              case measure => first | (simp [intOf]; done) | (simp [intOf]; omega)
        · obtain rfl : k = x.length := by omega
          generalize hb : allN x.length (idAt x e) = b at *
          cases b
          · have HK2 : Hid (∀ i, i < e + 1 → allN x.length (idAt x i) = false) := fun i hi => by
              by_cases h : i = e
              · subst h; exact hb
              · exact HK.out i (by omega)
            clear hb
            go_wp2_with fail
            go_round
            case rel => exact ⟨e + 1, by omega, by go_num, HK2⟩
            case measure => first | (simp [intOf]; done) | (simp [intOf]; omega)
          · have HV : Hid (idn x = (e : Int)) := fst1_yes e hlt hb HK.out
            clear hb
            go_wp2_with fail
            go_ret
            exact ⟨ret_i64 HV.out.symm, rfl⟩
    · have HV : Hid (idn x = -1) := fst1_no fun i hi => HK.out i (by omega)
      go_wp2_with fail
      go_ret
      exact ⟨ret_i64 HV.out.symm, rfl⟩

set_option maxHeartbeats 1000000 in
theorem inverse_any (x : List (List Int)) (e : Int) (k : Nat) (w : World) {G O C : Nat} {H F P : Nat → Nat} (hs : Hid (sqB x = true)) (hx : SqAt G O H F P x w) (hk : k < x.length) :
    Calls Try.prog 63 #[.slice (some ⟨G, O, none⟩) x.length C, .int .i64 e, .int .i64 k] w fun r w' => r = .returned (.int .i64 (inv x e k)) ∧ w = w' := by
  have hn := (sqB_iff.1 hs.out).1.2
  have HR := Lib.hid hx.row
  have HC := Lib.hid hx.cell
  have r1 := HR.out k hk
  clear hx
  go_enter Try.func63, Try.ntmps63
  go_wp2_with fail
  go_loop [10] (fun iv => ∃ y : Nat, y ≤ x.length ∧ iv = .int .i64 y ∧ Hid (∀ i, i < y → invAt x e k i = false)) (fun iv => x.length - (intOf iv).toNat)
  case atStart => exact ⟨0, Nat.zero_le _, rfl, fun i hi => by omega⟩
  case round =>
    obtain ⟨y, hy, rfl, HK⟩ := hrel
    by_cases hlt : y < x.length
    · have r2 := HR.out y hlt
      have c1 := HC.out k y hk hlt
      have c2 := HC.out y k hlt hk
      have HS : Hid (invAt x e k y = (decide (tb x k y = e) && decide (tb x y k = e))) := rfl
      have HN : Hid (invAt x e k y = false → ∀ i, i < y + 1 → invAt x e k i = false) := fun hf i hi => by
        by_cases h : i = y
        · subst h; exact hf
        · exact HK.out i (by omega)
      have HY : Hid (invAt x e k y = true → inv x e k = (y : Int)) := fun hf => fst1_yes y hlt hf HK.out
      generalize tb x k y = z1 at *
      generalize tb x y k = z2 at *
      by_cases h1 : z1 = e
      · have b1 : (z1 == e) = true := by simp [h1]
        by_cases h2 : z2 = e
        · have b2 : (z2 == e) = true := by simp [h2]
          have HV : Hid (inv x e k = (y : Int)) := HY.out (by rw [HS.out, decide_eq_true h1, decide_eq_true h2]; rfl)
          clear h1 h2
          go_wp2_with fail
          go_ret
          exact ⟨ret_i64 HV.out.symm, rfl⟩
        · have b2 : (z2 == e) = false := by simp [h2]
          have HV : Hid (∀ i, i < y + 1 → invAt x e k i = false) := HN.out (by rw [HS.out, decide_eq_false h2]; simp)
          clear h1 h2
          go_wp2_with fail
          go_round
          case rel => exact ⟨y + 1, by omega, by go_num, HV⟩
          case measure => first | (simp [intOf]; done) | (simp [intOf]; omega)
      · have b1 : (z1 == e) = false := by simp [h1]
        have HV : Hid (∀ i, i < y + 1 → invAt x e k i = false) := HN.out (by rw [HS.out, decide_eq_false h1]; simp)
        clear h1
        go_wp2_with fail
        go_round
        case rel => exact ⟨y + 1, by omega, by go_num, HV⟩
        case measure => first | (simp [intOf]; done) | (simp [intOf]; omega)
    · have HV : Hid (inv x e k = -1) := fst1_no fun i hi => HK.out i (by omega)
      go_wp2_with fail
      go_ret
      exact ⟨ret_i64 HV.out.symm, rfl⟩
set_option maxHeartbeats 1000000 in
theorem l05Inverse_any (x : List (List Int)) (e : Int) (k : Nat) (w : World) {G O C : Nat} {H F P : Nat → Nat} (hs : Hid (sqB x = true)) (hx : SqAt G O H F P x w) (hk : k < x.length) :
    Calls Try.prog 95 #[.slice (some ⟨G, O, none⟩) x.length C, .int .i64 e, .int .i64 k] w fun r w' => r = .returned (.int .i64 (inv x e k)) ∧ w = w' := by
  have hn := (sqB_iff.1 hs.out).1.2
  have HR := Lib.hid hx.row
  have HC := Lib.hid hx.cell
  have r1 := HR.out k hk
  clear hx
  go_enter Try.func95, Try.ntmps95
  go_wp2_with fail
  go_loop [7] (fun iv => ∃ y : Nat, y ≤ x.length ∧ iv = .int .i64 y ∧ Hid (∀ i, i < y → invAt x e k i = false)) (fun iv => x.length - (intOf iv).toNat)
  case atStart => exact ⟨0, Nat.zero_le _, rfl, fun i hi => by omega⟩
  case round =>
    obtain ⟨y, hy, rfl, HK⟩ := hrel
    by_cases hlt : y < x.length
    · have r2 := HR.out y hlt
      have c1 := HC.out k y hk hlt
      have c2 := HC.out y k hlt hk
      have HS : Hid (invAt x e k y = (decide (tb x k y = e) && decide (tb x y k = e))) := rfl
      have HN : Hid (invAt x e k y = false → ∀ i, i < y + 1 → invAt x e k i = false) := fun hf i hi => by
        by_cases h : i = y
        · subst h; exact hf
        · exact HK.out i (by omega)
      have HY : Hid (invAt x e k y = true → inv x e k = (y : Int)) := fun hf => fst1_yes y hlt hf HK.out
      generalize tb x k y = z1 at *
      generalize tb x y k = z2 at *
      by_cases h1 : z1 = e
      · have b1 : (z1 == e) = true := by simp [h1]
        by_cases h2 : z2 = e
        · have b2 : (z2 == e) = true := by simp [h2]
          have HV : Hid (inv x e k = (y : Int)) := HY.out (by rw [HS.out, decide_eq_true h1, decide_eq_true h2]; rfl)
          clear h1 h2
          go_wp2_with fail
          go_ret
          exact ⟨ret_i64 HV.out.symm, rfl⟩
        · have b2 : (z2 == e) = false := by simp [h2]
          have HV : Hid (∀ i, i < y + 1 → invAt x e k i = false) := HN.out (by rw [HS.out, decide_eq_false h2]; simp)
          clear h1 h2
          go_wp2_with fail
          go_round
          case rel => exact ⟨y + 1, by omega, by go_num, HV⟩
          case measure => first | (simp [intOf]; done) | (simp [intOf]; omega)
      · have b1 : (z1 == e) = false := by simp [h1]
        have HV : Hid (∀ i, i < y + 1 → invAt x e k i = false) := HN.out (by rw [HS.out, decide_eq_false h1]; simp)
        clear h1
        go_wp2_with fail
        go_round
        case rel => exact ⟨y + 1, by omega, by go_num, HV⟩
        case measure => first | (simp [intOf]; done) | (simp [intOf]; omega)
    · have HV : Hid (inv x e k = -1) := fst1_no fun i hi => HK.out i (by omega)
      go_wp2_with fail
      go_ret
      exact ⟨ret_i64 HV.out.symm, rfl⟩

set_option maxHeartbeats 1000000 in
theorem l01Below_any (v : Value) (xs : List Int) (n : Int) (w : World) (hx : RI w v xs) (hm : xs.length ≤ 1099511627776) (hn : 0 ≤ n ∧ n ≤ 1099511627776) :
    Calls Try.prog 69 #[v, .int .i64 n] w fun e w' => e = .returned (.bool (rowB n xs)) ∧ w = w' := by
  obtain ⟨a, c, rfl⟩ := hx.slice
  go_enter Try.func69, Try.ntmps69
  go_wp2_with fail
  go_loop [5] (fun iv => ∃ k : Nat, k ≤ xs.length ∧ iv = .int .i64 k ∧ Hid (∀ i, i < k → inB (xs.getD i 0) 0 (n - 1) = true)) (fun iv => xs.length - (intOf iv).toNat)
  case atStart => exact ⟨0, Nat.zero_le _, rfl, fun i hi => by omega⟩
  case round =>
    obtain ⟨k, hk, rfl, HK⟩ := hrel
    by_cases hlt : k < xs.length
    · obtain ⟨g, off, rfl, hg, hc⟩ := hx.at k hlt
      have HN : Hid (inB (xs.getD k 0) 0 (n - 1) = true → ∀ i, i < k + 1 → inB (xs.getD i 0) 0 (n - 1) = true) := fun hf i hi => by
        by_cases h : i = k
        · subst h; exact hf
        · exact HK.out i (by omega)
      have HF : Hid (inB (xs.getD k 0) 0 (n - 1) = false → rowB n xs = false) := rowB_no k hlt
      generalize xs.getD k 0 = z at *
      generalize hb : inB z 0 (n - 1) = b at *
      have hin : ∀ w, Calls Try.prog 89 #[.int .i64 z, .int .i64 0, .int .i64 (n - 1)] w fun e w' => e = .returned (.bool b) ∧ w = w' := fun w => by
        have := l00In_any z 0 (n - 1) w
        rw [hb] at this; exact this
      clear hb
      cases b
      · go_wp2_with (go_at_call 89; refine (hin _).mono ?_; rintro e w' ⟨rfl, rfl⟩)
        go_ret
        exact ⟨ret_bool (HF.out (by first | trivial | rfl)).symm, rfl⟩
      · go_wp2_with (go_at_call 89; refine (hin _).mono ?_; rintro e w' ⟨rfl, rfl⟩)
        go_round
        case rel => exact ⟨k + 1, by omega, by go_num, HN.out (by first | trivial | rfl)⟩
        case measure => first | (simp [intOf]; done) | (simp [intOf]; omega)
    · have HV : Hid (rowB n xs = true) := rowB_yes fun i hi => HK.out i (by omega)
      go_wp2_with fail
      go_ret
      exact ⟨ret_bool HV.out.symm, rfl⟩
end Go.Proofs.Ytghmpaegmicheaa
