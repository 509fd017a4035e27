/- SwapClashes, ChainClashes, IsTotally: the program's. -/
import Derived.Test.YthcnhkjiojeemaaTotM
import Derived.Test.YthcnhkjiojeemaaQg
import Derived.Deep.QuietTactic
import Derived.BigQuiet
namespace Go.Proofs.Ythcnhkjiojeemaa
open Go.RowKit

def ClPost (b : Bool) (w : World) (e : Ending) (w' : World) : Prop := ∃ c : Nat, e = .returned (.tuple #[.int .i64 c, .bool true]) ∧ Hid (Cnt c b) ∧ Below w.heap.size w w'
theorem ClPost.mk {b : Bool} {w w' : World} (c : Nat) (h1 : Hid (Cnt c b)) (h2 : Below w.heap.size w w') : ClPost b w (.returned (.tuple #[.int .i64 c, .bool true])) w' := ⟨c, rfl, h1, h2⟩
set_option maxHeartbeats 400000 in
theorem swap_no (v : Value) (x : List (List Int)) (w : World) (hx : RT w v x) (hm : x.length ≤ 1048576) (hr : Small x) (hq : qgB x = false) :
    Calls Try.prog 13 #[v] w fun e w' => e = .returned (.tuple #[.int .i64 0, .bool false]) ∧ Below w.heap.size w w' := by
  have HQ : Hid (Calls Try.prog 18 #[v] w fun e w' => e = .returned (.bool false) ∧ Below w.heap.size w w') := by
    have := implQg_any v x w hx hm hr
    rw [hq] at this; exact this
  clear hq hx
  go_enter Try.func13, Try.ntmps13
  go_wp2_with (go_at_call 18; refine HQ.out.mono ?_; rintro e w2 ⟨rfl, hb⟩)
  go_ret2
  exact ⟨rfl, hb⟩
set_option maxHeartbeats 400000 in
theorem chain_no (v : Value) (x : List (List Int)) (w : World) (hx : RT w v x) (hm : x.length ≤ 1048576) (hr : Small x) (hq : qgB x = false) :
    Calls Try.prog 14 #[v] w fun e w' => e = .returned (.tuple #[.int .i64 0, .bool false]) ∧ Below w.heap.size w w' := by
  have HQ : Hid (Calls Try.prog 18 #[v] w fun e w' => e = .returned (.bool false) ∧ Below w.heap.size w w') := by
    have := implQg_any v x w hx hm hr
    rw [hq] at this; exact this
  clear hq hx
  go_enter Try.func14, Try.ntmps14
  go_wp2_with (go_at_call 18; refine HQ.out.mono ?_; rintro e w2 ⟨rfl, hb⟩)
  go_ret2
  exact ⟨rfl, hb⟩
set_option maxHeartbeats 2000000 in
theorem swap_any (v : Value) (x : List (List Int)) (w : World) (hx : RT w v x) (hm : x.length ≤ 1048576) (hr : Small x) (hq : qgB x = true) :
    Calls Try.prog 13 #[v] w (ClPost (swB x) w) := by
  have HQ : Hid (Calls Try.prog 18 #[v] w fun e w' => e = .returned (.bool true) ∧ Below w.heap.size w w') := by
    have := implQg_any v x w hx hm hr
    rw [hq] at this; exact this
  obtain ⟨⟨hn1, hn2⟩, hl, Q⟩ := qgB_iff.1 hq
  obtain ⟨G, O, C, H, F, P, rfl, hsq⟩ := hx.sqn hn1 hl
  have HSQ : Hid (∀ wx, Below w.heap.size w wx → SqAt G O H F P x wx) := fun wx h => hsq.later h
  have HBD : Hid (∀ i j, i < x.length → j < x.length → ∃ z : Nat, tb x i j = (z : Int) ∧ z < x.length) := fun i j hi hj => by
    have := Q.bd i j hi hj
    obtain ⟨z, hz⟩ := Int.eq_ofNat_of_zero_le this.1
    exact ⟨z, hz, by omega⟩
  clear hq hx hsq hl Q
  go_enter Try.func13, Try.ntmps13
  go_wp2_with (go_at_call 18; refine HQ.out.mono ?_; rintro e w2 ⟨rfl, hb⟩)
  go_loopw [4, 12] (fun cv iv wr => ∃ k c : Nat, k ≤ x.length ∧ iv = .int .i64 k ∧ cv = .int .i64 c ∧ c ≤ 36 * k ∧ Hid (Cnt c (allN k fun i => allN i (swAt x i))) ∧ Below w.heap.size w wr) (fun _ iv _ => x.length - (intOf iv).toNat)
  case atStart => exact ⟨0, 0, Nat.zero_le _, rfl, rfl, Nat.zero_le _, Lib.hid Cnt.zero, hb⟩
  case round =>
    clear hb
    obtain ⟨k, c, hk, rfl, rfl, hc, HC, hb⟩ := hrel
    by_cases hlt : k < x.length
    · have hki : (k : Int) < (x.length : Int) := by omega
      go_wp2_with fail
      go_loopw [4, 16] (fun cv jv wq => ∃ j c : Nat, j ≤ k ∧ jv = .int .i64 j ∧ cv = .int .i64 c ∧ c ≤ 36 * k + j ∧ Hid (Cnt c ((allN k fun i => allN i (swAt x i)) && allN j (swAt x k))) ∧ Below w.heap.size w wq) (fun _ jv _ => k - (intOf jv).toNat)
      case atStart => exact ⟨0, c, Nat.zero_le _, rfl, rfl, by omega, Lib.hid (HC.out.yes rfl), hb⟩
      case round =>
        clear hb HC hc
        obtain ⟨j, c, hj, rfl, rfl, hc, HC, hb⟩ := hrel
        by_cases hjk : j < k
        · have hsq := HSQ.out _ hb
          have hjn : j < x.length := by omega
          have hji : (j : Int) < (k : Int) := by omega
          have hjni : (j : Int) < (x.length : Int) := by omega
          have r1 := hsq.row k hlt
          have r2 := hsq.row j hjn
          have r3 := hsq.cell k j hlt hjn
          have r4 := hsq.cell j k hjn hlt
          have HS : Hid (swAt x k j = !decide (tb x k j = tb x j k)) := rfl
          have HA : Hid (((allN k fun i => allN i (swAt x i)) && allN (j + 1) (swAt x k)) = ((allN k fun i => allN i (swAt x i)) && allN j (swAt x k) && swAt x k j)) := by unfold Hid; rw [allN_succ, Bool.and_assoc]
          clear hsq
          generalize tb x k j = z1 at *
          generalize tb x j k = z2 at *
          by_cases he : z1 = z2
          · have b1 : (z1 == z2) = true := by simp [he]
            have HC2 : Hid (Cnt (c + 1) ((allN k fun i => allN i (swAt x i)) && allN (j + 1) (swAt x k))) := by unfold Hid; rw [HA.out]; exact Cnt.no (by rw [HS.out, decide_eq_true he]; rfl)
            clear he
            go_wp2_with fail
            go_quiet (fail)
            go_wp2_with fail
            go_roundw
            case rel => exact ⟨j + 1, c + 1, by omega, by go_num, by go_num, by omega, HC2, by first | exact hb | exact below_drewN hb _⟩
            case measure => first | (simp [intOf]; done) | (simp [intOf]; omega)
          · have b1 : (z1 == z2) = false := by simp [he]
            have HC2 : Hid (Cnt c ((allN k fun i => allN i (swAt x i)) && allN (j + 1) (swAt x k))) := by unfold Hid; rw [HA.out]; exact HC.out.yes (by rw [HS.out, decide_eq_false he]; rfl)
            clear he
            go_wp2_with fail
            go_quiet (fail)
            go_wp2_with fail
            go_roundw
            case rel => exact ⟨j + 1, c, by omega, by go_num, rfl, by omega, HC2, by first | exact hb | exact below_drewN hb _⟩
            case measure => first | (simp [intOf]; done) | (simp [intOf]; omega)
        · obtain rfl : j = k := by omega
          have HC2 : Hid (Cnt c (allN (j + 1) fun i => allN i (swAt x i))) := by unfold Hid; rw [allN_succ]; exact HC.out
          go_wp2_with fail
          go_roundw
          case rel => exact ⟨j + 1, c, by omega, by go_num, rfl, by omega, HC2, hb⟩
          case measure => first | (simp [intOf]; done) | (simp [intOf]; omega)
    · obtain rfl : k = x.length := by omega
      have HC2 : Hid (Cnt c (swB x)) := HC.out
      go_wp2_with fail
      go_ret2
      exact ClPost.mk c HC2 hb
set_option maxHeartbeats 4000000 in
theorem chain_any (v : Value) (x : List (List Int)) (w : World) (hx : RT w v x) (hm : x.length ≤ 1048576) (hr : Small x) (hq : qgB x = true) :
    Calls Try.prog 14 #[v] w (ClPost (chB x) w) := by
  have HQ : Hid (Calls Try.prog 18 #[v] w fun e w' => e = .returned (.bool true) ∧ Below w.heap.size w w') := by
    have := implQg_any v x w hx hm hr
    rw [hq] at this; exact this
  obtain ⟨⟨hn1, hn2⟩, hl, Q⟩ := qgB_iff.1 hq
  obtain ⟨G, O, C, H, F, P, rfl, hsq⟩ := hx.sqn hn1 hl
  have HSQ : Hid (∀ wx, Below w.heap.size w wx → SqAt G O H F P x wx) := fun wx h => hsq.later h
  have HBD : Hid (∀ i j, i < x.length → j < x.length → ∃ z : Nat, tb x i j = (z : Int) ∧ z < x.length) := fun i j hi hj => by
    have := Q.bd i j hi hj
    obtain ⟨z, hz⟩ := Int.eq_ofNat_of_zero_le this.1
    exact ⟨z, hz, by omega⟩
  clear hq hx hsq hl Q
  go_enter Try.func14, Try.ntmps14
  go_wp2_with (go_at_call 18; refine HQ.out.mono ?_; rintro e w2 ⟨rfl, hb⟩)
  go_loopw [4, 14] (fun cv iv wr => ∃ r c : Nat, r ≤ x.length ∧ iv = .int .i64 r ∧ cv = .int .i64 c ∧ c ≤ 1296 * r ∧ Hid (Cnt c (allN r fun r => allN x.length (chR x r))) ∧ Below w.heap.size w wr) (fun _ iv _ => x.length - (intOf iv).toNat)
  case atStart => exact ⟨0, 0, Nat.zero_le _, rfl, rfl, Nat.zero_le _, Lib.hid Cnt.zero, hb⟩
  case round =>
    clear hb
    obtain ⟨r, c, hrn, rfl, rfl, hc, HC, hb⟩ := hrel
    by_cases hrl : r < x.length
    · have hri : (r : Int) < (x.length : Int) := by omega
      have r0 := (HSQ.out _ hb).row r hrl
      obtain ⟨A, hA⟩ : ∃ A, A = allN r fun r => allN x.length (chR x r) := ⟨_, rfl⟩
      have HAE : Hid (allN (r + 1) (fun r => allN x.length (chR x r)) = (A && allN x.length (chR x r))) := by unfold Hid; rw [allN_succ, ← hA]
      rw [← hA] at HC
      clear hA
      go_wp2_with fail
      clear r0
      go_loopw [4, 20] (fun cv iv wq => ∃ k c : Nat, k ≤ x.length ∧ iv = .int .i64 k ∧ cv = .int .i64 c ∧ c ≤ 1296 * r + 36 * k ∧ Hid (Cnt c (A && allN k (chR x r))) ∧ Below w.heap.size w wq) (fun _ iv _ => x.length - (intOf iv).toNat)
      case atStart => exact ⟨0, c, Nat.zero_le _, rfl, rfl, by omega, Lib.hid (HC.out.yes rfl), hb⟩
      case round =>
        clear hb HC hc
        obtain ⟨k, c, hk, rfl, rfl, hc, HC, hb⟩ := hrel
        by_cases hlt : k < x.length
        · have hki : (k : Int) < (x.length : Int) := by omega
          obtain ⟨B, hB⟩ : ∃ B, B = (A && allN k (chR x r)) := ⟨_, rfl⟩
          have HBE : Hid ((A && allN (k + 1) (chR x r)) = (B && chR x r k)) := by unfold Hid; rw [allN_succ, hB, Bool.and_assoc]
          rw [← hB] at HC
          clear hB
          go_wp2_with fail
          go_loopw [4, 24] (fun cv jv wq => ∃ j c : Nat, j ≤ k ∧ jv = .int .i64 j ∧ cv = .int .i64 c ∧ c ≤ 1296 * r + 36 * k + j ∧ Hid (Cnt c (B && allN j (chAt x r k))) ∧ Below w.heap.size w wq) (fun _ jv _ => k - (intOf jv).toNat)
          case atStart => exact ⟨0, c, Nat.zero_le _, rfl, rfl, by omega, Lib.hid (HC.out.yes rfl), hb⟩
          case round =>
            clear hb HC hc
            obtain ⟨j, c, hj, rfl, rfl, hc, HC, hb⟩ := hrel
            by_cases hjk : j < k
            · have hsq := HSQ.out _ hb
              have hjn : j < x.length := by omega
              have hji : (j : Int) < (k : Int) := by omega
              have hjni : (j : Int) < (x.length : Int) := by omega
              obtain ⟨p, hp, hpn⟩ := HBD.out r k hrl hlt
              obtain ⟨q, hq, hqn⟩ := HBD.out r j hrl hjn
              have r1 := hsq.cell r k hrl hlt
              have r2 := hsq.cell r j hrl hjn
              rw [hp] at r1
              rw [hq] at r2
              have r3 := hsq.row p hpn
              have r4 := hsq.row q hqn
              have r5 := hsq.cell p j hpn hjn
              have r6 := hsq.cell q k hqn hlt
              have hpi : (p : Int) < (x.length : Int) := by omega
              have hqi : (q : Int) < (x.length : Int) := by omega
              have HS : Hid (chAt x r k j = !decide (tb x p j = tb x q k)) := by unfold Hid chAt; rw [hp, hq]; rfl
              have HA : Hid ((B && allN (j + 1) (chAt x r k)) = (B && allN j (chAt x r k) && chAt x r k j)) := by unfold Hid; rw [allN_succ, Bool.and_assoc]
              clear hsq hp hq
              generalize tb x p j = z1 at *
              generalize tb x q k = z2 at *
              by_cases he : z1 = z2
              · have b1 : (z1 == z2) = true := by simp [he]
                have HC2 : Hid (Cnt (c + 1) (B && allN (j + 1) (chAt x r k))) := by unfold Hid; rw [HA.out]; exact Cnt.no (by rw [HS.out, decide_eq_true he]; rfl)
                clear he
                go_wp2_with fail
                go_quiet (fail)
                go_wp2_with fail
                go_roundw
                case rel => exact ⟨j + 1, c + 1, by omega, by go_num, by go_num, by omega, HC2, by first | exact hb | exact below_drewN hb _⟩
                case measure => first | (simp [intOf]; done) | (simp [intOf]; omega)
              · have b1 : (z1 == z2) = false := by simp [he]
                have HC2 : Hid (Cnt c (B && allN (j + 1) (chAt x r k))) := by unfold Hid; rw [HA.out]; exact HC.out.yes (by rw [HS.out, decide_eq_false he]; rfl)
                clear he
                go_wp2_with fail
                go_quiet (fail)
                go_wp2_with fail
                go_roundw
                case rel => exact ⟨j + 1, c, by omega, by go_num, rfl, by omega, HC2, by first | exact hb | exact below_drewN hb _⟩
                case measure => first | (simp [intOf]; done) | (simp [intOf]; omega)
            · obtain rfl : j = k := by omega
              have HC2 : Hid (Cnt c (A && allN (j + 1) (chR x r))) := by unfold Hid; rw [HBE.out]; exact HC.out
              go_wp2_with fail
              go_roundw
              case rel => exact ⟨j + 1, c, by omega, by go_num, rfl, by omega, HC2, hb⟩
              case measure => first | (simp [intOf]; done) | (simp [intOf]; omega)
        · obtain rfl : k = x.length := by omega
          have HC2 : Hid (Cnt c (allN (r + 1) fun r => allN x.length (chR x r))) := by unfold Hid; rw [HAE.out]; exact HC.out
          go_wp2_with fail
          go_roundw
          case rel => exact ⟨r + 1, c, by omega, by go_num, rfl, by omega, HC2, hb⟩
          case measure => first | (simp [intOf]; done) | (simp [intOf]; omega)
    · obtain rfl : r = x.length := by omega
      have HC2 : Hid (Cnt c (chB x)) := HC.out
      go_wp2_with fail
      go_ret2
      exact ClPost.mk c HC2 hb
set_option maxHeartbeats 1000000 in
theorem implTot_any (v : Value) (x : List (List Int)) (w : World) (hx : RT w v x) (hm : x.length ≤ 1048576) (hr : Small x) :
    Calls Try.prog 11 #[v] w fun e w' => e = .returned (.bool (taB x)) ∧ Below w.heap.size w w' := by
  cases hq : qgB x
  · have HR : Hid (taB x = false) := by unfold Hid taB; rw [hq]; rfl
    have H1 := Lib.hid (swap_no v x w hx hm hr hq)
    have H2 : Hid (∀ wx, Below w.heap.size w wx → Calls Try.prog 14 #[v] wx fun e w' => e = .returned (.tuple #[.int .i64 0, .bool false]) ∧ Below wx.heap.size wx w') := fun wx h => chain_no v x wx (hx.later h) hm hr hq
    clear hq hx
    go_enter Try.func11, Try.ntmps11
    go_wp2_with fail
    refine H1.out.mono ?_
    rintro e w2 ⟨rfl, hb⟩
    go_wp2_with fail
    refine (H2.out _ hb).mono ?_
    rintro e w3 ⟨rfl, hb2⟩
    go_wp2_with fail
    go_ret
    exact ⟨ret_bool HR.out.symm, hb.trans (hb2.mono hb.size)⟩
  · have HR : Hid (taB x = (swB x && chB x)) := by unfold Hid taB; rw [hq]; rfl
    have H1 := Lib.hid (swap_any v x w hx hm hr hq)
    have H2 : Hid (∀ wx, Below w.heap.size w wx → Calls Try.prog 14 #[v] wx (ClPost (chB x) wx)) := fun wx h => chain_any v x wx (hx.later h) hm hr hq
    clear hq hx
    go_enter Try.func11, Try.ntmps11
    go_wp2_with fail
    refine H1.out.mono ?_
    rintro e w2 ⟨c1, rfl, HC1, hb⟩
    go_wp2_with fail
    refine (H2.out _ hb).mono ?_
    rintro e w3 ⟨c2, rfl, HC2, hb2⟩
    have b1 := HC1.out.bool
    have b2 := HC2.out.bool
    generalize swB x = s1 at *
    generalize chB x = s2 at *
    cases s1 <;> cases s2
    all_goals
      go_wp2_with fail
      go_ret
      exact ⟨ret_bool (by rw [HR.out]; rfl), hb.trans (hb2.mono hb.size)⟩
end Go.Proofs.Ythcnhkjiojeemaa
