/- GroupWord: the program's and the reference's. -/
import Derived.Test.YtdlagajnefkklaaDoorGwM
import Derived.Test.YtdlagajnefkklaaDoorShJoin
namespace Go.Proofs.YtdlagajnefkklaaDoor
open Go.RowKit

def SzPost (xs : List Int) (w : World) (e : Ending) (w' : World) : Prop := ∃ r : Int, e = .returned (.tuple #[.int .i64 r, .bool (szsB xs)]) ∧ Hid (szsB xs = true → r = xs.sum) ∧ w = w'
theorem SzPost.mk {xs : List Int} {r : Int} {b : Bool} {w : World} (hb : szsB xs = b) (hr : b = true → r = xs.sum) : SzPost xs w (.returned (.tuple #[.int .i64 r, .bool b])) w := ⟨r, by rw [hb], fun h => hr (hb.symm.trans h), rfl⟩
theorem szsB_no {xs : List Int} (k : Nat) (hk : k < xs.length) (h : inB (xs.getD k 0) 1 20 = false) : szsB xs = false := by
  cases e : szsB xs with
  | false => rfl
  | true =>
    have := (szsB_iff.1 e).2 k hk
    rw [inB_iff.2 this] at h; cases h
theorem szsB_len {xs : List Int} (h : inB (xs.length : Int) 1 10 = false) : szsB xs = false := by unfold szsB; rw [h]; rfl
theorem szsB_all {xs : List Int} (h : ∀ i, i < xs.length → inB (xs.getD i 0) 1 20 = true) : szsB xs = inB (xs.length : Int) 1 10 := by
  cases e : inB (xs.length : Int) 1 10 with
  | false => exact szsB_len e
  | true =>
    rw [inB_iff] at e
    exact szsB_iff.2 ⟨by omega, fun i hi => inB_iff.1 (h i hi)⟩
set_option maxHeartbeats 1000000 in
theorem sizesOk_any (v : Value) (xs : List Int) (w : World) (hx : RI w v xs) (hm : xs.length ≤ 1048576) :
    Calls Tryd.prog 27 #[v] w (SzPost xs w) := by
  obtain ⟨a, c, rfl⟩ := hx.slice
  cases hl : inB (xs.length : Int) 1 10
  · have HF := Lib.hid (szsB_len hl)
    have HIN : Hid (∀ wx, Calls Tryd.prog 37 #[.int .i64 xs.length, .int .i64 1, .int .i64 10] wx fun e w' => e = .returned (.bool false) ∧ wx = w') := fun wx => by
      have := in_any (xs.length : Int) 1 10 wx
      rw [hl] at this; exact this
    clear hl
    go_enter Tryd.func27, Tryd.ntmps27
    go_wp2_with (go_at_call 37; refine (HIN.out _).mono ?_; rintro e w' ⟨rfl, rfl⟩)
    go_ret2
    exact SzPost.mk HF.out (fun h => by cases h)
  · have HL := Lib.hid hl
    have HIN : Hid (∀ wx, Calls Tryd.prog 37 #[.int .i64 xs.length, .int .i64 1, .int .i64 10] wx fun e w' => e = .returned (.bool true) ∧ wx = w') := fun wx => by
      have := in_any (xs.length : Int) 1 10 wx
      rw [hl] at this; exact this
    clear hl
    go_enter Tryd.func27, Tryd.ntmps27
    go_wp2_with (go_at_call 37; refine (HIN.out _).mono ?_; rintro e w' ⟨rfl, rfl⟩)
    go_loop [4, 13] (fun sv iv => ∃ (k : Nat) (r : Int), k ≤ xs.length ∧ iv = .int .i64 k ∧ sv = .int .i64 r ∧ 0 ≤ r ∧ r ≤ 20 * k ∧ Hid (r = (xs.take k).sum) ∧ Hid (∀ i, i < k → inB (xs.getD i 0) 1 20 = true)) (fun _ iv => xs.length - (intOf iv).toNat)
    case atStart => exact ⟨0, 0, Nat.zero_le _, rfl, rfl, by omega, by omega, by simp [Hid], fun i hi => by omega⟩
    case round =>
      obtain ⟨k, r, hk, rfl, rfl, hr0, hr1, HR, HK⟩ := hrel
      by_cases hlt : k < xs.length
      · obtain ⟨g, off, rfl, hg, hc⟩ := hx.at k hlt
        have HS : Hid ((xs.take (k + 1)).sum = (xs.take k).sum + xs.getD k 0) := by
          unfold Hid; rw [List.take_succ_eq_append_getElem hlt, List.sum_append, getD_eq hlt]; simp
        have HN : Hid (inB (xs.getD k 0) 1 20 = false → szsB xs = false) := szsB_no k hlt
        have HY : Hid (inB (xs.getD k 0) 1 20 = true → ∀ i, i < k + 1 → inB (xs.getD i 0) 1 20 = true) := fun h i hi => by
          by_cases e : i = k
          · subst e; exact h
          · exact HK.out i (by omega)
        generalize xs.getD k 0 = z at *
        by_cases hin : inB z 1 20 = true
        · have hz := inB_iff.1 hin
          have HIN : Hid (∀ wx, Calls Tryd.prog 37 #[.int .i64 z, .int .i64 1, .int .i64 20] wx fun e w' => e = .returned (.bool true) ∧ wx = w') := fun wx => by
            have := in_any z 1 20 wx
            rw [hin] at this; exact this
          have HK2 := Lib.hid (HY.out hin)
          have HS2 : Hid (r + z = (xs.take (k + 1)).sum) := by unfold Hid; rw [HS.out, HR.out]
          clear hin HN HY
          go_wp2_with (go_at_call 37; refine (HIN.out _).mono ?_; rintro e w' ⟨rfl, rfl⟩)
          go_round
          case rel => exact ⟨k + 1, r + z, by omega, by go_num, by go_num, by omega, by omega, HS2, HK2⟩
          case measure => first | (simp [intOf]; done) | (simp [intOf]; omega)
        · simp only [Bool.not_eq_true] at hin
          have HIN : Hid (∀ wx, Calls Tryd.prog 37 #[.int .i64 z, .int .i64 1, .int .i64 20] wx fun e w' => e = .returned (.bool false) ∧ wx = w') := fun wx => by
            have := in_any z 1 20 wx
            rw [hin] at this; exact this
          have HF := Lib.hid (HN.out hin)
          clear hin HN HY
          go_wp2_with (go_at_call 37; refine (HIN.out _).mono ?_; rintro e w' ⟨rfl, rfl⟩)
          go_ret2
          exact SzPost.mk HF.out (fun h => by cases h)
      · have HT : Hid (szsB xs = true) := (szsB_all fun i hi => HK.out i (by omega)).trans HL.out
        have HS2 : Hid (r = xs.sum) := by unfold Hid; rw [HR.out, List.take_of_length_le (by omega)]
        go_wp2_with fail
        go_ret2
        exact SzPost.mk HT.out (fun _ => HS2.out)
set_option maxHeartbeats 1000000 in
theorem l07Sizes_any (v : Value) (xs : List Int) (w : World) (hx : RI w v xs) (hm : xs.length ≤ 1048576) :
    Calls Tryd.prog 21 #[v] w (SzPost xs w) := by
  obtain ⟨a, c, rfl⟩ := hx.slice
  go_enter Tryd.func21, Tryd.ntmps21
  go_wp2_with fail
  go_loop [4, 5] (fun sv iv => ∃ (k : Nat) (r : Int), k ≤ xs.length ∧ iv = .int .i64 k ∧ sv = .int .i64 r ∧ 0 ≤ r ∧ r ≤ 20 * k ∧ Hid (r = (xs.take k).sum) ∧ Hid (∀ i, i < k → inB (xs.getD i 0) 1 20 = true)) (fun _ iv => xs.length - (intOf iv).toNat)
  case atStart => exact ⟨0, 0, Nat.zero_le _, rfl, rfl, by omega, by omega, by simp [Hid], fun i hi => by omega⟩
  case round =>
    obtain ⟨k, r, hk, rfl, rfl, hr0, hr1, HR, HK⟩ := hrel
    by_cases hlt : k < xs.length
    · obtain ⟨g, off, rfl, hg, hc⟩ := hx.at k hlt
      have HS : Hid ((xs.take (k + 1)).sum = (xs.take k).sum + xs.getD k 0) := by
        unfold Hid; rw [List.take_succ_eq_append_getElem hlt, List.sum_append, getD_eq hlt]; simp
      have HN : Hid (inB (xs.getD k 0) 1 20 = false → szsB xs = false) := szsB_no k hlt
      have HY : Hid (inB (xs.getD k 0) 1 20 = true → ∀ i, i < k + 1 → inB (xs.getD i 0) 1 20 = true) := fun h i hi => by
        by_cases e : i = k
        · subst e; exact h
        · exact HK.out i (by omega)
      generalize xs.getD k 0 = z at *
      by_cases hin : inB z 1 20 = true
      · have hz := inB_iff.1 hin
        have HIN : Hid (∀ wx, Calls Tryd.prog 25 #[.int .i64 z, .int .i64 1, .int .i64 20] wx fun e w' => e = .returned (.bool true) ∧ wx = w') := fun wx => by
          have := l00In_any z 1 20 wx
          rw [hin] at this; exact this
        have HK2 := Lib.hid (HY.out hin)
        have HS2 : Hid (r + z = (xs.take (k + 1)).sum) := by unfold Hid; rw [HS.out, HR.out]
        clear hin HN HY
        go_wp2_with (go_at_call 25; refine (HIN.out _).mono ?_; rintro e w' ⟨rfl, rfl⟩)
        go_round
        case rel => exact ⟨k + 1, r + z, by omega, by go_num, by go_num, by omega, by omega, HS2, HK2⟩
        case measure => first | (simp [intOf]; done) | (simp [intOf]; omega)
      · simp only [Bool.not_eq_true] at hin
        have HIN : Hid (∀ wx, Calls Tryd.prog 25 #[.int .i64 z, .int .i64 1, .int .i64 20] wx fun e w' => e = .returned (.bool false) ∧ wx = w') := fun wx => by
          have := l00In_any z 1 20 wx
          rw [hin] at this; exact this
        have HF := Lib.hid (HN.out hin)
        clear hin HN HY
        go_wp2_with (go_at_call 25; refine (HIN.out _).mono ?_; rintro e w' ⟨rfl, rfl⟩)
        go_ret2
        exact SzPost.mk HF.out (fun h => by cases h)
    · have HS2 : Hid (r = xs.sum) := by unfold Hid; rw [HR.out, List.take_of_length_le (by omega)]
      have HA := Lib.hid (szsB_all (xs := xs) fun i hi => HK.out i (by omega))
      by_cases h1 : 1 ≤ (xs.length : Int)
      · by_cases h2 : (xs.length : Int) ≤ 10
        · have HT : Hid (szsB xs = true) := HA.out.trans (inB_iff.2 ⟨h1, h2⟩)
          go_wp2_with fail
          go_ret2
          exact SzPost.mk HT.out (fun _ => HS2.out)
        · have HT : Hid (szsB xs = false) := HA.out.trans (by unfold inB; simp; omega)
          go_wp2_with fail
          go_ret2
          exact SzPost.mk HT.out (fun _ => HS2.out)
      · have HT : Hid (szsB xs = false) := HA.out.trans (by unfold inB; simp; omega)
        go_wp2_with fail
        go_ret2
        exact SzPost.mk HT.out (fun _ => HS2.out)
end Go.Proofs.YtdlagajnefkklaaDoor
