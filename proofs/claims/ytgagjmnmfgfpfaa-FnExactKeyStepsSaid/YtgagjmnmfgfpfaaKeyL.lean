/- KeySteps: the law, for all arguments. -/
import Derived.Test.YtgagjmnmfgfpfaaKey
namespace Go.Proofs.Ytgagjmnmfgfpfaa
open Go.RowKit

theorem dgs_get (s : ByteArray) (k : Nat) (h : k < s.size) : (dgs s).getD k 0 = dg (s[k].toNat : Int) := by
  have h1 := bz_get s k h
  have hl : k < (bz s).length := by rw [bz_len]; exact h
  unfold dgs
  simp only [List.getD_eq_getElem?_getD, List.getElem?_map, List.getElem?_eq_getElem hl] at h1 ⊢
  simp at h1 ⊢
  rw [h1]
theorem ten_of {s : ByteArray} (h : digB s 10 20 = true) : s.size ≤ 20 ∧ ∀ k, (hk : k < s.size) → (48 ≤ (s[k].toNat : Int) ∧ (s[k].toNat : Int) ≤ 57) ∧ (dgs s).getD k 0 = (s[k].toNat : Int) - 48 := by
  unfold digB at h
  simp only [Bool.and_eq_true, decide_eq_true_eq] at h
  obtain ⟨⟨_, h1⟩, h2⟩ := h
  refine ⟨by omega, fun k hk => ?_⟩
  have hd : inB (dg (s[k].toNat : Int)) 0 (10 - 1) = true := by
    cases e : inB (dg (s[k].toNat : Int)) 0 (10 - 1) with
    | true => rfl
    | false => rw [wdB_no k hk e] at h2; cases h2
  have hd2 : 0 ≤ dg (s[k].toNat : Int) ∧ dg (s[k].toNat : Int) ≤ 9 := by simpa [inB] using hd
  rw [dgs_get s k hk]
  unfold dg at hd2 ⊢
  split at hd2 <;> (try split at hd2) <;> (try split) <;> omega
theorem ten_B {s : ByteArray} (h : digB s 10 20 = true) : tenB (dgs s) := fun k hk => by
  rw [dgs_len] at hk
  obtain ⟨h1, h2⟩ := (ten_of h).2 k hk
  omega
theorem digB10 (s : ByteArray) : digB s 10 20 = (decide ((s.size : Int) ≤ 20) && wdB s 10) := rfl
set_option maxHeartbeats 1000000 in
theorem l06Digits_any (s : ByteArray) (w : World) (hs : s.size ≤ 1048576) :
    Calls Try.prog 40 #[.string s] w fun e w' => e = .returned (.bool (digB s 10 20)) ∧ w = w' := by
  by_cases h1 : (s.size : Int) ≤ 20
  · by_cases h2 : s = ByteArray.empty
    · subst h2
      go_enter Try.func40, Try.ntmps40
      go_wp2_with fail
      go_ret
      exact ⟨ret_bool (by rw [digB10, wdB_empty]; simp), rfl⟩
    · have h3 : s.toList.isEmpty = false := nonempty_is (by
        rcases Nat.eq_zero_or_pos s.size with h | h
        · exact absurd (ba_ext (by simpa using (show s.data.toList = [] by apply List.eq_nil_of_length_eq_zero; simpa using h))) h2
        · exact h)
      have hq : ∀ w1, Calls Try.prog 58 #[.string s, .int .i64 10] w1 fun e w' => e = .returned (.bool (wdB s 10)) ∧ w1 = w' := fun w1 => by
        have := l01Word_any s 10 w1 hs (by omega)
        rw [decide_eq_true (show s.size ≤ 20 by omega), Bool.true_and] at this; exact this
      go_enter Try.func40, Try.ntmps40
      go_wp2_with (go_at_call 58; refine (hq _).mono ?_; rintro e w' ⟨rfl, rfl⟩)
      go_ret
      exact ⟨ret_bool (by rw [digB10, decide_eq_true h1]; simp), rfl⟩
  · go_enter Try.func40, Try.ntmps40
    go_wp2_with fail
    go_ret
    exact ⟨ret_bool (by rw [digB10, decide_eq_false (by omega)]; simp), rfl⟩
set_option maxHeartbeats 400000 in
theorem DigitsOf_any (s : ByteArray) (b : Int) (w : World) (hs : s.size ≤ 1048576) :
    Calls Try.prog 42 #[.string s, .int .i64 b] w (DigPost s b 20 w) := by
  go_enter Try.func42, Try.ntmps42
  go_wp2_with fail
  refine (digitsOf_any s b 20 _ hs).mono ?_
  rintro e w1 ⟨v, rfl, ho, hb1⟩
  go_wp2_with fail
  go_ret2
  exact ⟨v, rfl, ho, hb1⟩
theorem DigitsOf_yes (s : ByteArray) (b : Int) (w : World) (hs : s.size ≤ 1048576) (h : Hid (digB s b 20 = true)) :
    Calls Try.prog 42 #[.string s, .int .i64 b] w fun e w' => ∃ v, e = .returned (.tuple #[v, .bool true]) ∧ OI w.heap.size w' v (dgs s) ∧ Below w.heap.size w w' := by
  refine (DigitsOf_any s b w hs).mono ?_
  rintro e w' ⟨v, rfl, ho, hb⟩
  rw [h.out] at ho
  exact ⟨v, by rw [h.out], ho, hb⟩
theorem DigitsOf_no (s : ByteArray) (b : Int) (w : World) (hs : s.size ≤ 1048576) (h : Hid (digB s b 20 = false)) :
    Calls Try.prog 42 #[.string s, .int .i64 b] w fun e w' => ∃ v, e = .returned (.tuple #[v, .bool false]) ∧ OI w.heap.size w' v [] ∧ Below w.heap.size w w' := by
  refine (DigitsOf_any s b w hs).mono ?_
  rintro e w' ⟨v, rfl, ho, hb⟩
  rw [h.out] at ho
  exact ⟨v, by rw [h.out], ho, hb⟩

/-- The steps between two texts of digits, and whether there are any. -/
def ksV (a b : ByteArray) : Value := if digB a 10 20 && (digB b 10 20 && decide (a.size = b.size)) then .tuple #[.int .i64 (kst (dgs a) (dgs b) a.size), .bool true] else .tuple #[.int .i64 0, .bool false]
theorem ksV_shape (a b : ByteArray) : ∃ (x : Int) (c : Bool), ksV a b = .tuple #[.int .i64 x, .bool c] := by
  unfold ksV; split <;> exact ⟨_, _, rfl⟩
theorem ksV_no1 {a b : ByteArray} (h : digB a 10 20 = false) : ksV a b = .tuple #[.int .i64 0, .bool false] := by unfold ksV; rw [h]; rfl
theorem ksV_no2 {a b : ByteArray} (h : digB b 10 20 = false) : ksV a b = .tuple #[.int .i64 0, .bool false] := by unfold ksV; rw [h]; simp
theorem ksV_no3 {a b : ByteArray} (h : ¬ a.size = b.size) : ksV a b = .tuple #[.int .i64 0, .bool false] := by unfold ksV; rw [decide_eq_false h]; simp
theorem ksV_yes {a b : ByteArray} (h1 : digB a 10 20 = true) (h2 : digB b 10 20 = true) (h3 : a.size = b.size) : ksV a b = .tuple #[.int .i64 (kst (dgs a) (dgs b) a.size), .bool true] := by
  unfold ksV; rw [h1, h2, decide_eq_true h3]; rfl
set_option maxHeartbeats 1000000 in
theorem implKS_any (a b : ByteArray) (w : World) (ha : a.size ≤ 1048576) (hb : b.size ≤ 1048576) :
    Calls Try.prog 15 #[.string a, .string b] w fun e w' => e = .returned (ksV a b) ∧ Below w.heap.size w w' := by
  cases h1 : digB a 10 20
  · have H1 := Lib.hid h1
    clear h1
    cases h2 : digB b 10 20
    · have H2 := Lib.hid h2
      clear h2
      go_enter Try.func15, Try.ntmps15
      go_wp2_with fail
      refine (DigitsOf_no _ 10 _ ha H1).mono ?_
      rintro e w1 ⟨v1, rfl, o1, hb1⟩
      obtain ⟨p1, c1, rfl⟩ := o1.slice
      go_wp2_with fail
      refine (DigitsOf_no _ 10 _ hb H2).mono ?_
      rintro e w2 ⟨v2, rfl, o2, hb2⟩
      obtain ⟨p2, c2, rfl⟩ := o2.slice
      go_wp2_with fail
      go_ret2
      exact ⟨by rw [ksV_no1 H1.out]; rfl, hb1.trans (hb2.mono hb1.size)⟩
    · have H2 := Lib.hid h2
      clear h2
      go_enter Try.func15, Try.ntmps15
      go_wp2_with fail
      refine (DigitsOf_no _ 10 _ ha H1).mono ?_
      rintro e w1 ⟨v1, rfl, o1, hb1⟩
      obtain ⟨p1, c1, rfl⟩ := o1.slice
      go_wp2_with fail
      refine (DigitsOf_yes _ 10 _ hb H2).mono ?_
      rintro e w2 ⟨v2, rfl, o2, hb2⟩
      obtain ⟨p2, c2, rfl⟩ := o2.slice
      go_wp2_with fail
      go_ret2
      exact ⟨by rw [ksV_no1 H1.out]; rfl, hb1.trans (hb2.mono hb1.size)⟩
  · have H1 := Lib.hid h1
    clear h1
    cases h2 : digB b 10 20
    · have H2 := Lib.hid h2
      clear h2
      go_enter Try.func15, Try.ntmps15
      go_wp2_with fail
      refine (DigitsOf_yes _ 10 _ ha H1).mono ?_
      rintro e w1 ⟨v1, rfl, o1, hb1⟩
      obtain ⟨p1, c1, rfl⟩ := o1.slice
      go_wp2_with fail
      refine (DigitsOf_no _ 10 _ hb H2).mono ?_
      rintro e w2 ⟨v2, rfl, o2, hb2⟩
      obtain ⟨p2, c2, rfl⟩ := o2.slice
      go_wp2_with fail
      go_ret2
      exact ⟨by rw [ksV_no2 H2.out]; rfl, hb1.trans (hb2.mono hb1.size)⟩
    · have H2 := Lib.hid h2
      clear h2
      have hs1 := (ten_of H1.out).1
      have hs2 := (ten_of H2.out).1
      by_cases h3 : a.size = b.size
      · have b3 : (((dgs a).length : Int) != ((dgs b).length : Int)) = false := by rw [dgs_len, dgs_len]; simp [h3]
        have H3 : Hid (ksV a b = .tuple #[.int .i64 (kst (dgs a) (dgs b) (dgs a).length), .bool true]) := by
          have := ksV_yes H1.out H2.out h3
          rw [← dgs_len a] at this; exact this
        have HL : Hid ((dgs a).length = (dgs b).length) := by unfold Hid; rw [dgs_len, dgs_len]; exact h3
        have hl1 : (dgs a).length ≤ 20 := by rw [dgs_len]; exact hs1
        have hl2 : (dgs b).length ≤ 20 := by rw [dgs_len]; exact hs2
        clear h3
        go_enter Try.func15, Try.ntmps15
        go_wp2_with fail
        refine (DigitsOf_yes _ 10 _ ha H1).mono ?_
        rintro e w1 ⟨v1, rfl, o1, hb1⟩
        obtain ⟨p1, c1, rfl⟩ := o1.slice
        go_wp2_with fail
        refine (DigitsOf_yes _ 10 _ hb H2).mono ?_
        rintro e w2 ⟨v2, rfl, o2, hb2⟩
        obtain ⟨p2, c2, rfl⟩ := o2.slice
        go_wp2_with (go_at_call 43; refine (keySteps_any _ _ _ _ _ (o1.later hb2).read o2.read HL.out hl1 (ten_B H1.out) (ten_B H2.out)).mono ?_; rintro e w' ⟨rfl, rfl⟩)
        go_ret2
        exact ⟨by rw [H3.out]; rfl, hb1.trans (hb2.mono hb1.size)⟩
      · have b3 : (((dgs a).length : Int) != ((dgs b).length : Int)) = true := by rw [dgs_len, dgs_len]; simp; omega
        have H3 := Lib.hid h3
        have hl1 : (dgs a).length ≤ 20 := by rw [dgs_len]; exact hs1
        have hl2 : (dgs b).length ≤ 20 := by rw [dgs_len]; exact hs2
        clear h3
        go_enter Try.func15, Try.ntmps15
        go_wp2_with fail
        refine (DigitsOf_yes _ 10 _ ha H1).mono ?_
        rintro e w1 ⟨v1, rfl, o1, hb1⟩
        obtain ⟨p1, c1, rfl⟩ := o1.slice
        go_wp2_with fail
        refine (DigitsOf_yes _ 10 _ hb H2).mono ?_
        rintro e w2 ⟨v2, rfl, o2, hb2⟩
        obtain ⟨p2, c2, rfl⟩ := o2.slice
        go_wp2_with fail
        go_ret2
        exact ⟨by rw [ksV_no3 H3.out]; rfl, hb1.trans (hb2.mono hb1.size)⟩
set_option maxHeartbeats 1000000 in
theorem specKS_any (a b : ByteArray) (w : World) (ha : a.size ≤ 1048576) (hb : b.size ≤ 1048576) :
    Calls Try.prog 14 #[.string a, .string b] w fun e w' => e = .returned (ksV a b) ∧ Below w.heap.size w w' := by
  have hq : ∀ w1, Calls Try.prog 40 #[.string a] w1 fun e w' => e = .returned (.bool (digB a 10 20)) ∧ w1 = w' := fun w1 => l06Digits_any a w1 ha
  have hr : ∀ w1, Calls Try.prog 40 #[.string b] w1 fun e w' => e = .returned (.bool (digB b 10 20)) ∧ w1 = w' := fun w1 => l06Digits_any b w1 hb
  cases h1 : digB a 10 20
  · have H1 := Lib.hid h1
    rw [h1] at hq
    clear h1 hr
    go_enter Try.func14, Try.ntmps14
    go_wp2_with fail
    refine (hq _).mono ?_
    rintro e w1 ⟨rfl, rfl⟩
    go_wp2_with fail
    go_ret2
    exact ⟨by rw [ksV_no1 H1.out]; rfl, Below.refl _ _⟩
  · have H1 := Lib.hid h1
    rw [h1] at hq
    clear h1
    cases h2 : digB b 10 20
    · have H2 := Lib.hid h2
      rw [h2] at hr
      clear h2
      go_enter Try.func14, Try.ntmps14
      go_wp2_with fail
      refine (hq _).mono ?_
      rintro e w1 ⟨rfl, rfl⟩
      go_wp2_with fail
      refine (hr _).mono ?_
      rintro e w1 ⟨rfl, rfl⟩
      go_wp2_with fail
      go_ret2
      exact ⟨by rw [ksV_no2 H2.out]; rfl, Below.refl _ _⟩
    · have H2 := Lib.hid h2
      rw [h2] at hr
      clear h2
      have hs1 := (ten_of H1.out).1
      have hs2 := (ten_of H2.out).1
      by_cases h3 : a.size = b.size
      · have b3 : ((a.size : Int) != (b.size : Int)) = false := by simp [h3]
        have H3 := Lib.hid (ksV_yes H1.out H2.out h3)
        have HC : Hid (∀ wx, Calls Try.prog 41 #[.string a, .string b] wx fun e w' => e = .returned (.int .i64 (kst (dgs a) (dgs b) a.size)) ∧ wx = w') := fun wx =>
          l06Steps_any a b wx h3 hs1 (fun k h => ((ten_of H1.out).2 k h).1) (fun k h => ((ten_of H2.out).2 k h).1) (fun k h => ((ten_of H1.out).2 k h).2) (fun k h => ((ten_of H2.out).2 k h).2)
        clear h3
        go_enter Try.func14, Try.ntmps14
        go_wp2_with fail
        refine (hq _).mono ?_
        rintro e w1 ⟨rfl, rfl⟩
        go_wp2_with fail
        refine (hr _).mono ?_
        rintro e w1 ⟨rfl, rfl⟩
        go_wp2_with (go_at_call 41; refine (HC.out _).mono ?_; rintro e w' ⟨rfl, rfl⟩)
        go_ret2
        exact ⟨by rw [H3.out]; rfl, Below.refl _ _⟩
      · have b3 : ((a.size : Int) != (b.size : Int)) = true := by simp; omega
        have H3 := Lib.hid h3
        clear h3
        go_enter Try.func14, Try.ntmps14
        go_wp2_with fail
        refine (hq _).mono ?_
        rintro e w1 ⟨rfl, rfl⟩
        go_wp2_with fail
        refine (hr _).mono ?_
        rintro e w1 ⟨rfl, rfl⟩
        go_wp2_with fail
        go_ret2
        exact ⟨by rw [ksV_no3 H3.out]; rfl, Below.refl _ _⟩
set_option maxHeartbeats 1000000 in
theorem lawKeySteps_any (a b : ByteArray) (w : World) :
    Calls Try.prog 3 #[.string a, .string b] w fun e w' => e = .returned (.bool true) ∧ Below w.heap.size w w' := by
  by_cases ha : (a.size : Int) ≤ 1048576
  · by_cases hb : (b.size : Int) ≤ 1048576
    · obtain ⟨x, c, hv⟩ := ksV_shape a b
      have hi : ∀ w1, Calls Try.prog 15 #[.string a, .string b] w1 fun e w' => e = .returned (.tuple #[.int .i64 x, .bool c]) ∧ Below w1.heap.size w1 w' := fun w1 => by
        have := implKS_any a b w1 (by omega) (by omega)
        rw [hv] at this; exact this
      have hs : ∀ w1, Calls Try.prog 14 #[.string a, .string b] w1 fun e w' => e = .returned (.tuple #[.int .i64 x, .bool c]) ∧ Below w1.heap.size w1 w' := fun w1 => by
        have := specKS_any a b w1 (by omega) (by omega)
        rw [hv] at this; exact this
      clear hv
      go_enter Try.func3, Try.ntmps3
      go_wp2_with (first
        | (go_at_call 14; refine (hs _).mono ?_; rintro e w1 ⟨rfl, hb1⟩)
        | (go_at_call 15; refine (hi _).mono ?_; rintro e w2 ⟨rfl, hb2⟩))
      go_ret
      exact ⟨rfl, hb1.trans (hb2.mono hb1.size)⟩
    · go_enter Try.func3, Try.ntmps3
      go_wp2_with fail
      go_ret
      exact ⟨rfl, Below.refl _ _⟩
  · go_enter Try.func3, Try.ntmps3
    go_wp2_with fail
    go_ret
    exact ⟨rfl, Below.refl _ _⟩
end Go.Proofs.Ytgagjmnmfgfpfaa
