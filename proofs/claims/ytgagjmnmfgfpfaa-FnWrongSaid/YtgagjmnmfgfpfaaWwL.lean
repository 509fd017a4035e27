/- The law of WrongWords, for all arguments. -/
import Derived.Test.YtgagjmnmfgfpfaaWwI
import Derived.Test.YtgagjmnmfgfpfaaWwS
import Derived.Test.YtgagjmnmfgfpfaaMark
namespace Go.Proofs.Ytgagjmnmfgfpfaa
open Go.RowKit

set_option maxHeartbeats 2000000 in
theorem implWw_no (s : ByteArray) (b : Int) (k : Int) (w : World) (hs : s.size ≤ 1048576) (hd : digB s b 20 = false) :
    Calls Try.prog 36 #[.string s, .int .i64 b, .int .i64 k] w (WwPost s b k w) := by
  have HD : Hid (∀ wx, Calls Try.prog 42 #[.string s, .int .i64 b] wx fun e w' => ∃ v, e = .returned (.tuple #[v, .bool false]) ∧ OI wx.heap.size w' v [] ∧ Below wx.heap.size wx w') := fun wx => by
    have HQ := Lib.hid (digitsOf_any s b 20 wx hs)
    go_enter Try.func42, Try.ntmps42
    go_wp2_with (go_at_call 61; refine HQ.out.mono ?_; rintro e w1 ⟨v, rfl, ho, hb⟩)
    go_ret2
    rw [hd] at ho
    exact ⟨v, rfl, ho, hb⟩
  have HB : Hid (wwB s b k = false) := by unfold Hid wwB; rw [hd]; rfl
  clear hd
  go_enter Try.func36, Try.ntmps36
  go_wp2_with fail
  refine (HD.out _).mono ?_
  rintro e w1 ⟨v, rfl, ho, hb⟩
  have hF := WwPost.no HB.out hb
  obtain ⟨a, c, rfl⟩ := ho.slice
  clear ho hb
  go_wp2_with fail
  go_ret2
  exact hF
set_option maxHeartbeats 2000000 in
theorem implWw_nk (s : ByteArray) (b : Int) (k : Int) (w : World) (hs : s.size ≤ 1048576) (hd : digB s b 20 = true) (hk : kOk k b = false) :
    Calls Try.prog 36 #[.string s, .int .i64 b, .int .i64 k] w (WwPost s b k w) := by
  have HD : Hid (∀ wx, Calls Try.prog 42 #[.string s, .int .i64 b] wx fun e w' => ∃ v, e = .returned (.tuple #[v, .bool true]) ∧ OI wx.heap.size w' v (dgs s) ∧ Below wx.heap.size wx w') := fun wx => by
    have HQ := Lib.hid (digitsOf_any s b 20 wx hs)
    go_enter Try.func42, Try.ntmps42
    go_wp2_with (go_at_call 61; refine HQ.out.mono ?_; rintro e w1 ⟨v, rfl, ho, hb⟩)
    go_ret2
    rw [hd, if_pos rfl] at ho
    exact ⟨v, rfl, ho, hb⟩
  have HK : Hid (∀ wx, Calls Try.prog 69 #[.int .i64 k, .int .i64 b] wx fun e w' => e = .returned (.bool false) ∧ wx = w') := fun wx => by
    have := kindOk_any k b wx
    rw [hk] at this; exact this
  have HB : Hid (wwB s b k = false) := by unfold Hid wwB; rw [hk, Bool.and_false]
  clear hd hk
  go_enter Try.func36, Try.ntmps36
  go_wp2_with fail
  refine (HD.out _).mono ?_
  rintro e w1 ⟨v, rfl, ho, hb⟩
  have hF := WwPost.no HB.out hb
  obtain ⟨a, c, rfl⟩ := ho.slice
  clear ho hb
  go_wp2_with (go_at_call 69; refine (HK.out _).mono ?_; rintro e w' ⟨rfl, rfl⟩)
  go_ret2
  exact hF
theorem implWw_any (s : ByteArray) (b k : Int) (w : World) (hs : s.size ≤ 1048576) :
    Calls Try.prog 36 #[.string s, .int .i64 b, .int .i64 k] w (WwPost s b k w) := by
  cases hd : digB s b 20 with
  | false => exact implWw_no s b k w hs hd
  | true =>
    cases hk : kOk k b with
    | false => exact implWw_nk s b k w hs hd hk
    | true =>
      obtain ⟨n, rfl⟩ := Int.eq_ofNat_of_zero_le (show 0 ≤ b by have := (dig_mem hd).1; omega)
      exact implWw_go s n k w hs hd hk
set_option maxHeartbeats 4000000 in
theorem specWw_no (s : ByteArray) (b k : Int) (w : World) (hs : s.size ≤ 1048576) (hd : digB s b 20 = false) :
    Calls Try.prog 35 #[.string s, .int .i64 b, .int .i64 k] w (WwPost s b k w) := by
  have HN := Lib.hid (WwPost.no (w := w) (w' := w) (show wwB s b k = false by unfold wwB; rw [hd]; rfl) (Below.refl _ _))
  cases h1 : inB b 2 36 with
  | false =>
    have HB : Hid (∀ wx, Calls Try.prog 57 #[.int .i64 b] wx fun e w' => e = .returned (.bool false) ∧ wx = w') := fun wx => by
      have := l01Base_any b wx; rw [h1] at this; exact this
    clear h1 hd
    go_enter Try.func35, Try.ntmps35
    go_wp2_with (go_at_call 57; refine (HB.out _).mono ?_; rintro e w' ⟨rfl, rfl⟩)
    go_ret2
    exact HN.out
  | true =>
    have HB : Hid (∀ wx, Calls Try.prog 57 #[.int .i64 b] wx fun e w' => e = .returned (.bool true) ∧ wx = w') := fun wx => by
      have := l01Base_any b wx; rw [h1] at this; exact this
    cases h2 : digB s 36 20 with
    | false =>
      have HC : Hid (∀ wx, Calls Try.prog 44 #[.string s, .int .i64 20] wx fun e w' => e = .returned (.bool false) ∧ wx = w') := fun wx => by
        have := l06Word_any s 20 wx hs (by omega); rw [h2] at this; exact this
      clear h1 h2 hd
      go_enter Try.func35, Try.ntmps35
      go_wp2_with (first
        | (go_at_call 57; refine (HB.out _).mono ?_; rintro e w' ⟨rfl, rfl⟩)
        | (go_at_call 44; refine (HC.out _).mono ?_; rintro e w' ⟨rfl, rfl⟩))
      go_ret2
      exact HN.out
    | true =>
      have HC : Hid (∀ wx, Calls Try.prog 44 #[.string s, .int .i64 20] wx fun e w' => e = .returned (.bool true) ∧ wx = w') := fun wx => by
        have := l06Word_any s 20 wx hs (by omega); rw [h2] at this; exact this
      have h12 := (dig_mem h2).2.1
      have hw : wdB s b = false := by
        unfold digB at hd
        rw [h1, decide_eq_true h12] at hd
        simpa using hd
      have hne : 1 ≤ s.size := by
        rcases Nat.eq_zero_or_pos s.size with h | h
        · have : s = ByteArray.empty := ba_ext (by simpa using (show s.data.toList = [] by apply List.eq_nil_of_length_eq_zero; simpa using h))
          rw [this, wdB_empty] at hw; cases hw
        · exact h
      have h3 : s.toList.isEmpty = false := nonempty_is hne
      have hb2 : 2 ≤ b ∧ b ≤ 36 := by unfold inB at h1; simp only [Bool.and_eq_true, decide_eq_true_eq] at h1; omega
      have HD : Hid (∀ wx, Calls Try.prog 58 #[.string s, .int .i64 b] wx fun e w' => e = .returned (.bool false) ∧ wx = w') := fun wx => by
        have := l01Word_any s b wx hs hb2
        rw [hw, Bool.and_false] at this; exact this
      clear h1 h2 hw hd h12
      go_enter Try.func35, Try.ntmps35
      go_wp2_with (first
        | (go_at_call 57; refine (HB.out _).mono ?_; rintro e w' ⟨rfl, rfl⟩)
        | (go_at_call 44; refine (HC.out _).mono ?_; rintro e w' ⟨rfl, rfl⟩)
        | (go_at_call 58; refine (HD.out _).mono ?_; rintro e w' ⟨rfl, rfl⟩))
      go_ret2
      exact HN.out
set_option maxHeartbeats 4000000 in
theorem specWw_n0 (s : ByteArray) (b : Nat) (k : Int) (w : World) (hd : digB s b 20 = true) (kb : Bool) (hk : kOk k b = kb) (hkb : kb = false) (hne : s.toList.isEmpty = true) :
    Calls Try.prog 35 #[.string s, .int .i64 b, .int .i64 k] w (WwPost s b k w) := by
  subst hkb
  obtain ⟨hb2, hs20, hdm⟩ := dig_mem hd
  have hs : s.size ≤ 1048576 := by omega
  have h1 : inB (b : Int) 2 36 = true := by unfold inB; simp; omega
  have h2 : digB s 36 20 = true := digB_mono hd (by omega)
  have hw : wdB s b = true := by unfold digB at hd; simp only [Bool.and_eq_true] at hd; exact hd.2
  have HB : Hid (∀ wx, Calls Try.prog 57 #[.int .i64 b] wx fun e w' => e = .returned (.bool true) ∧ wx = w') := fun wx => by
    have := l01Base_any b wx; rw [h1] at this; exact this
  have HC : Hid (∀ wx, Calls Try.prog 44 #[.string s, .int .i64 20] wx fun e w' => e = .returned (.bool true) ∧ wx = w') := fun wx => by
    have := l06Word_any s 20 wx hs (by omega); rw [h2] at this; exact this
  have HD : Hid (∀ wx, Calls Try.prog 58 #[.string s, .int .i64 b] wx fun e w' => e = .returned (.bool true) ∧ wx = w') := fun wx => by
    have := l01Word_any s b wx hs hb2
    rw [hw, Bool.and_true, decide_eq_true (show s.size ≤ 20 by omega)] at this; exact this
  have hkr := kL_rng k
  obtain ⟨N, hN⟩ : ∃ N : Nat, N = (if kOk k b then kL k else 0) := ⟨_, rfl⟩
  have HS : Hid (∀ wx, Calls Try.prog 67 #[.int .i64 b, .int .i64 k] wx fun e w' => e = .returned (.int .i64 N) ∧ wx = w') := fun wx => by
    rw [hN]; exact l02Size_any b k wx
  have HWB : Hid (wwB s b k = false) := by unfold Hid wwB; rw [hd, hk]; rfl
  (have hN0 : (N : Int) = 0 := by rw [hN, hk]; rfl); (have hN1 : N = 0 := by omega); (have HF := Lib.hid (WwPost.no (w := w) (w' := w) HWB.out (Below.refl _ _)))
  clear h1 h2 hw hd hs20 hN hk hkr hb2 hdm
  go_enter Try.func35, Try.ntmps35
  go_wp2_with (first
    | (go_at_call 57; refine (HB.out _).mono ?_; rintro e w' ⟨rfl, rfl⟩)
    | (go_at_call 44; refine (HC.out _).mono ?_; rintro e w' ⟨rfl, rfl⟩)
    | (go_at_call 58; refine (HD.out _).mono ?_; rintro e w' ⟨rfl, rfl⟩)
    | (go_at_call 67; refine (HS.out _).mono ?_; rintro e w' ⟨rfl, rfl⟩))
  go_ret2
  exact HF.out
set_option maxHeartbeats 4000000 in
theorem specWw_n1 (s : ByteArray) (b : Nat) (k : Int) (w : World) (hd : digB s b 20 = true) (kb : Bool) (hk : kOk k b = kb) (hkb : kb = false) (hne : s.toList.isEmpty = false) :
    Calls Try.prog 35 #[.string s, .int .i64 b, .int .i64 k] w (WwPost s b k w) := by
  subst hkb
  obtain ⟨hb2, hs20, hdm⟩ := dig_mem hd
  have hs : s.size ≤ 1048576 := by omega
  have h1 : inB (b : Int) 2 36 = true := by unfold inB; simp; omega
  have h2 : digB s 36 20 = true := digB_mono hd (by omega)
  have hw : wdB s b = true := by unfold digB at hd; simp only [Bool.and_eq_true] at hd; exact hd.2
  have HB : Hid (∀ wx, Calls Try.prog 57 #[.int .i64 b] wx fun e w' => e = .returned (.bool true) ∧ wx = w') := fun wx => by
    have := l01Base_any b wx; rw [h1] at this; exact this
  have HC : Hid (∀ wx, Calls Try.prog 44 #[.string s, .int .i64 20] wx fun e w' => e = .returned (.bool true) ∧ wx = w') := fun wx => by
    have := l06Word_any s 20 wx hs (by omega); rw [h2] at this; exact this
  have HD : Hid (∀ wx, Calls Try.prog 58 #[.string s, .int .i64 b] wx fun e w' => e = .returned (.bool true) ∧ wx = w') := fun wx => by
    have := l01Word_any s b wx hs hb2
    rw [hw, Bool.and_true, decide_eq_true (show s.size ≤ 20 by omega)] at this; exact this
  have hkr := kL_rng k
  obtain ⟨N, hN⟩ : ∃ N : Nat, N = (if kOk k b then kL k else 0) := ⟨_, rfl⟩
  have HS : Hid (∀ wx, Calls Try.prog 67 #[.int .i64 b, .int .i64 k] wx fun e w' => e = .returned (.int .i64 N) ∧ wx = w') := fun wx => by
    rw [hN]; exact l02Size_any b k wx
  have HWB : Hid (wwB s b k = false) := by unfold Hid wwB; rw [hd, hk]; rfl
  (have hN0 : (N : Int) = 0 := by rw [hN, hk]; rfl); (have hN1 : N = 0 := by omega); (have HF := Lib.hid (WwPost.no (w := w) (w' := w) HWB.out (Below.refl _ _)))
  clear h1 h2 hw hd hs20 hN hk hkr hb2 hdm
  go_enter Try.func35, Try.ntmps35
  go_wp2_with (first
    | (go_at_call 57; refine (HB.out _).mono ?_; rintro e w' ⟨rfl, rfl⟩)
    | (go_at_call 44; refine (HC.out _).mono ?_; rintro e w' ⟨rfl, rfl⟩)
    | (go_at_call 58; refine (HD.out _).mono ?_; rintro e w' ⟨rfl, rfl⟩)
    | (go_at_call 67; refine (HS.out _).mono ?_; rintro e w' ⟨rfl, rfl⟩))
  go_ret2
  exact HF.out
theorem ww_of06 {s : ByteArray} {b : Nat} {k : Int} {w w' : World} {v : Value} {l : List ByteArray} (h : wwB s b k = true) (h1 : OS w.heap.size w' v l) (h2 : AscS l) (h3 : ∀ t, t ∈ l ↔ WwP k b (dgs s) t) (h4 : l.length ≤ 2000000) (h5 : Below w.heap.size w w') : WwPost s b k w (.returned (.tuple #[v, .bool true])) w' :=
  ⟨v, l, by rw [h], h1, h2, fun t => by rw [h3 t, h]; simp, h4, h5⟩
set_option maxHeartbeats 4000000 in
theorem specWw_y0 (s : ByteArray) (b : Nat) (k : Int) (w : World) (hd : digB s b 20 = true) (kb : Bool) (hk : kOk k b = kb) (hkb : kb = true) (hne : s.toList.isEmpty = true) :
    Calls Try.prog 35 #[.string s, .int .i64 b, .int .i64 k] w (WwPost s b k w) := by
  subst hkb
  obtain ⟨hb2, hs20, hdm⟩ := dig_mem hd
  have hs : s.size ≤ 1048576 := by omega
  have h1 : inB (b : Int) 2 36 = true := by unfold inB; simp; omega
  have h2 : digB s 36 20 = true := digB_mono hd (by omega)
  have hw : wdB s b = true := by unfold digB at hd; simp only [Bool.and_eq_true] at hd; exact hd.2
  have HB : Hid (∀ wx, Calls Try.prog 57 #[.int .i64 b] wx fun e w' => e = .returned (.bool true) ∧ wx = w') := fun wx => by
    have := l01Base_any b wx; rw [h1] at this; exact this
  have HC : Hid (∀ wx, Calls Try.prog 44 #[.string s, .int .i64 20] wx fun e w' => e = .returned (.bool true) ∧ wx = w') := fun wx => by
    have := l06Word_any s 20 wx hs (by omega); rw [h2] at this; exact this
  have HD : Hid (∀ wx, Calls Try.prog 58 #[.string s, .int .i64 b] wx fun e w' => e = .returned (.bool true) ∧ wx = w') := fun wx => by
    have := l01Word_any s b wx hs hb2
    rw [hw, Bool.and_true, decide_eq_true (show s.size ≤ 20 by omega)] at this; exact this
  have hkr := kL_rng k
  obtain ⟨N, hN⟩ : ∃ N : Nat, N = (if kOk k b then kL k else 0) := ⟨_, rfl⟩
  have HS : Hid (∀ wx, Calls Try.prog 67 #[.int .i64 b, .int .i64 k] wx fun e w' => e = .returned (.int .i64 N) ∧ wx = w') := fun wx => by
    rw [hN]; exact l02Size_any b k wx
  have HWB : Hid (wwB s b k = true) := by unfold Hid wwB; rw [hd, hk]; rfl
  (have hN0 : ¬ (N : Int) = 0 := by rw [hN, hk]; simp; omega); (have hN1 : ¬ N = 0 := by omega); (have HL := Lib.hid (fun wx => l06Wrong_any s b k wx hd hk))
  clear h1 h2 hw hd hs20 hN hk hkr hb2 hdm
  go_enter Try.func35, Try.ntmps35
  go_wp2_with (first
    | (go_at_call 57; refine (HB.out _).mono ?_; rintro e w' ⟨rfl, rfl⟩)
    | (go_at_call 44; refine (HC.out _).mono ?_; rintro e w' ⟨rfl, rfl⟩)
    | (go_at_call 58; refine (HD.out _).mono ?_; rintro e w' ⟨rfl, rfl⟩)
    | (go_at_call 67; refine (HS.out _).mono ?_; rintro e w' ⟨rfl, rfl⟩) | (go_at_call 68; refine (HL.out _).mono ?_; rintro e w5 ⟨v5, l5, rfl, ho5, hA5, hm5, hl5, hb5⟩; have HF := Lib.hid (ww_of06 HWB.out ho5 hA5 hm5 hl5 hb5)))
  go_ret2
  exact HF.out
set_option maxHeartbeats 4000000 in
theorem specWw_y1 (s : ByteArray) (b : Nat) (k : Int) (w : World) (hd : digB s b 20 = true) (kb : Bool) (hk : kOk k b = kb) (hkb : kb = true) (hne : s.toList.isEmpty = false) :
    Calls Try.prog 35 #[.string s, .int .i64 b, .int .i64 k] w (WwPost s b k w) := by
  subst hkb
  obtain ⟨hb2, hs20, hdm⟩ := dig_mem hd
  have hs : s.size ≤ 1048576 := by omega
  have h1 : inB (b : Int) 2 36 = true := by unfold inB; simp; omega
  have h2 : digB s 36 20 = true := digB_mono hd (by omega)
  have hw : wdB s b = true := by unfold digB at hd; simp only [Bool.and_eq_true] at hd; exact hd.2
  have HB : Hid (∀ wx, Calls Try.prog 57 #[.int .i64 b] wx fun e w' => e = .returned (.bool true) ∧ wx = w') := fun wx => by
    have := l01Base_any b wx; rw [h1] at this; exact this
  have HC : Hid (∀ wx, Calls Try.prog 44 #[.string s, .int .i64 20] wx fun e w' => e = .returned (.bool true) ∧ wx = w') := fun wx => by
    have := l06Word_any s 20 wx hs (by omega); rw [h2] at this; exact this
  have HD : Hid (∀ wx, Calls Try.prog 58 #[.string s, .int .i64 b] wx fun e w' => e = .returned (.bool true) ∧ wx = w') := fun wx => by
    have := l01Word_any s b wx hs hb2
    rw [hw, Bool.and_true, decide_eq_true (show s.size ≤ 20 by omega)] at this; exact this
  have hkr := kL_rng k
  obtain ⟨N, hN⟩ : ∃ N : Nat, N = (if kOk k b then kL k else 0) := ⟨_, rfl⟩
  have HS : Hid (∀ wx, Calls Try.prog 67 #[.int .i64 b, .int .i64 k] wx fun e w' => e = .returned (.int .i64 N) ∧ wx = w') := fun wx => by
    rw [hN]; exact l02Size_any b k wx
  have HWB : Hid (wwB s b k = true) := by unfold Hid wwB; rw [hd, hk]; rfl
  (have hN0 : ¬ (N : Int) = 0 := by rw [hN, hk]; simp; omega); (have hN1 : ¬ N = 0 := by omega); (have HL := Lib.hid (fun wx => l06Wrong_any s b k wx hd hk))
  clear h1 h2 hw hd hs20 hN hk hkr hb2 hdm
  go_enter Try.func35, Try.ntmps35
  go_wp2_with (first
    | (go_at_call 57; refine (HB.out _).mono ?_; rintro e w' ⟨rfl, rfl⟩)
    | (go_at_call 44; refine (HC.out _).mono ?_; rintro e w' ⟨rfl, rfl⟩)
    | (go_at_call 58; refine (HD.out _).mono ?_; rintro e w' ⟨rfl, rfl⟩)
    | (go_at_call 67; refine (HS.out _).mono ?_; rintro e w' ⟨rfl, rfl⟩) | (go_at_call 68; refine (HL.out _).mono ?_; rintro e w5 ⟨v5, l5, rfl, ho5, hA5, hm5, hl5, hb5⟩; have HF := Lib.hid (ww_of06 HWB.out ho5 hA5 hm5 hl5 hb5)))
  go_ret2
  exact HF.out
theorem specWw_any (s : ByteArray) (b k : Int) (w : World) (hs : s.size ≤ 1048576) :
    Calls Try.prog 35 #[.string s, .int .i64 b, .int .i64 k] w (WwPost s b k w) := by
  cases hd : digB s b 20 with
  | false => exact specWw_no s b k w hs hd
  | true =>
    obtain ⟨n, rfl⟩ := Int.eq_ofNat_of_zero_le (show 0 ≤ b by have := (dig_mem hd).1; omega)
    cases hk : kOk k n with
    | false =>
      cases he : s.toList.isEmpty with
      | true => exact specWw_n0 s n k w hd _ hk rfl he
      | false => exact specWw_n1 s n k w hd _ hk rfl he
    | true =>
      cases he : s.toList.isEmpty with
      | true => exact specWw_y0 s n k w hd _ hk rfl he
      | false => exact specWw_y1 s n k w hd _ hk rfl he
theorem os_awayW {B : Nat} {w w' : World} {u v : Value} {l : List ByteArray} (h : OS B w u l) (hc : Chg (vb v) w w') (hd : ∀ k, u.ownBlock = some k → ∀ j, v.ownBlock = some j → k ≠ j) : OS B w' u l :=
  OS.chg h hc fun k hk hk2 => hd k (mem_vb.1 hk) k (mem_vb.1 hk2) rfl
open Classical in
noncomputable def wwL (s : ByteArray) (b k : Int) : List ByteArray := if h : ∃ l, AscS l ∧ (∀ t, t ∈ l ↔ wwB s b k = true ∧ WwP k b (dgs s) t) ∧ l.length ≤ 2000000 then Classical.choose h else []
theorem wwL_len (s : ByteArray) (b k : Int) : (wwL s b k).length ≤ 2000000 := by
  unfold wwL
  split
  · rename_i h; exact (Classical.choose_spec h).2.2
  · simp
theorem wwL_eq {s : ByteArray} {b k : Int} {l : List ByteArray} (h1 : AscS l) (h2 : ∀ t, t ∈ l ↔ wwB s b k = true ∧ WwP k b (dgs s) t) (h3 : l.length ≤ 2000000) : wwL s b k = l := by
  have h : ∃ l, AscS l ∧ (∀ t, t ∈ l ↔ wwB s b k = true ∧ WwP k b (dgs s) t) ∧ l.length ≤ 2000000 := ⟨l, h1, h2, h3⟩
  unfold wwL
  rw [dif_pos h]
  have := Classical.choose_spec h
  exact AscS.eq this.1 h1 fun u => by rw [this.2.1 u, h2 u]
theorem WwPost.to {s : ByteArray} {b k : Int} {w : World} {e : Ending} {w' : World} (h : WwPost s b k w e w') : ∃ u, e = .returned (.tuple #[u, .bool (wwB s b k)]) ∧ OS w.heap.size w' u (wwL s b k) ∧ Below w.heap.size w w' := by
  obtain ⟨v, l, he, ho, h1, h2, h3, hb⟩ := h
  rw [wwL_eq h1 h2 h3]
  exact ⟨v, he, ho, hb⟩
set_option maxRecDepth 100000 in
set_option maxHeartbeats 4000000 in
theorem lawWw_any (s : ByteArray) (b k : Int) (w : World) :
    Calls Try.prog 11 #[.string s, .int .i64 b, .int .i64 k] w fun e w' => e = .returned (.bool true) ∧ Below w.heap.size w w' := by
  by_cases hs : s.size ≤ 1048576
  case neg =>
    have k : ¬ (s.size : Int) ≤ 1048576 := by omega
    go_enter Try.func11, Try.ntmps11
    go_wp2_with fail
    go_ret
    exact ⟨rfl, Below.refl _ _⟩
  have hfl := wwL_len s b k
  have HI : Hid (∀ w1, Calls Try.prog 36 #[.string s, .int .i64 b, .int .i64 k] w1 fun e w' => ∃ u, e = .returned (.tuple #[u, .bool (wwB s b k)]) ∧ OS w1.heap.size w' u (wwL s b k) ∧ Below w1.heap.size w1 w') := fun w1 => (implWw_any s b k w1 hs).mono fun _ _ h => h.to
  have HP : Hid (∀ w1, Calls Try.prog 35 #[.string s, .int .i64 b, .int .i64 k] w1 fun e w' => ∃ u, e = .returned (.tuple #[u, .bool (wwB s b k)]) ∧ OS w1.heap.size w' u (wwL s b k) ∧ Below w1.heap.size w1 w') := fun w1 => (specWw_any s b k w1 hs).mono fun _ _ h => h.to
  generalize wwB s b k = rb at *
  generalize wwL s b k = fm at *
  go_enter Try.func11, Try.ntmps11
  go_wp2_with fail
  refine (HP.out _).mono ?_
  rintro e w3 ⟨vw, rfl, ow, hb⟩
  have hwl : Hid (∀ k, vw.ownBlock = some k → k < w3.heap.size) := fun k hk => (OV.lt ow k hk).2
  obtain ⟨wa, wc, rfl⟩ := ow.read.slice
  go_wp2_with fail
  refine (HI.out _).mono ?_
  rintro e w6 ⟨vg, rfl, og, hb1⟩
  have hgl : Hid (∀ k, vg.ownBlock = some k → w3.heap.size ≤ k) := fun k hk => (OV.lt og k hk).1
  obtain ⟨ga, gc, rfl⟩ := og.read.slice
  replace ow := OS.later ow hb1
  have hz3 := hb.size
  replace hb := hb.trans (hb1.mono hb.size)
  clear hb1
  go_wp2_with fail
  refine (eqStringS_yes _ _ fm _ og.read ow.read (by omega)).mono ?_
  rintro e wa1 ⟨rfl, hb1⟩
  replace ow := OS.later ow hb1
  replace og := OS.later og hb1
  replace hb := hb.trans (hb1.mono hb.size)
  clear hb1
  go_wp2_with fail
  refine (markStringS_any _ fm 1 _ _ og (by omega)).mono ?_
  rintro e wb1 ⟨rfl, og2, hch⟩
  replace ow := os_awayW ow hch fun k hk j hj => by
    have h1 := hwl.out k hk
    have h2 := hgl.out j hj
    omega
  have hb9 : Below w.heap.size w wb1 := hch.below hb (fun k hk => by have := hgl.out k (mem_vb.1 hk); omega) hb.size
  clear hb og hch
  have hb := hb9
  clear hb9
  have hml := mtL_len 1 fm.length
  go_wp2_with fail
  have og3 := og2.read
  rw [← hml] at og3
  refine (heldStringS_yes _ fm.length 1 _ (by rw [← hml]; exact og3) (by omega)).mono ?_
  rintro e wc1 ⟨rfl, hb1⟩
  replace ow := OS.later ow hb1
  replace og3 := og3.later hb1
  replace hb := hb.trans (hb1.mono hb.size)
  clear hb1 og2
  go_wp2_with fail
  refine (HI.out _).mono ?_
  rintro e we1 ⟨vh, rfl, oh, hb1⟩
  obtain ⟨ha, hc, rfl⟩ := oh.read.slice
  replace ow := OS.later ow hb1
  replace og3 := og3.later hb1
  replace hb := hb.trans (hb1.mono hb.size)
  clear hb1
  go_wp2_with fail
  refine (eqStringS_yes _ _ fm _ oh.read ow.read (by omega)).mono ?_
  rintro e wf1 ⟨rfl, hb1⟩
  replace og3 := og3.later hb1
  replace hb := hb.trans (hb1.mono hb.size)
  clear hb1 oh ow
  go_wp2_with fail
  refine (heldStringS_yes _ fm.length 1 _ (by rw [← hml]; exact og3) (by omega)).mono ?_
  rintro e wg1 ⟨rfl, hb1⟩
  replace hb := hb.trans (hb1.mono hb.size)
  go_wp2_with fail
  go_ret
  exact ⟨rfl, hb⟩
end Go.Proofs.Ytgagjmnmfgfpfaa
