/- EditDistance and TypingDistance: the program's, the reference's, and the laws, for all arguments. -/
import Derived.Test.YtgagjmnmfgfpfaaL06
import Derived.Test.YtgagjmnmfgfpfaaDig
namespace Go.Proofs.Ytgagjmnmfgfpfaa
open Go.RowKit

set_option maxHeartbeats 1000000 in
theorem distance_any (a b : ByteArray) (sw : Bool) (w : World) (ha : a.size ≤ 100) (hb : b.size ≤ 100) :
    Calls Try.prog 48 #[.string a, .string b, .bool sw] w fun e w' => e = .returned (.int .i64 (cAt sw (bz a) (bz b) 0 0 : Nat)) ∧ Below w.heap.size w w' := by
  go_enter Try.func48, Try.ntmps48
  go_wp2_with fail
  refine (costs_any _ _ _ _ ha hb).mono ?_
  rintro e w1 ⟨cs, rfl, ho, ht, hb1⟩
  obtain ⟨G, hG, hc, hr⟩ := ht 0 (Nat.le_refl _) (by omega)
  have h1 : w1.cell? ⟨w.heap.size, 0, none⟩ = some (.slice (some ⟨G, 0, none⟩) (b.size + 1) (b.size + 1)) := by rw [ho.cell 0 (List.length_pos_iff.2 (fun e => by rw [e] at hc; simp at hc))]; exact hc
  have h2 := hr.cell 0 (by rw [lf_len]; omega)
  rw [lf_get _ _ _ (by omega)] at h2
  have hcd : cI sw a b 0 0 = (cAt sw (bz a) (bz b) 0 0 : Nat) := rfl
  rw [hcd] at h2
  go_wp2_with fail
  go_ret
  exact ⟨rfl, hb1⟩
theorem digB_size {a : ByteArray} {b n : Int} (h : digB a b n = true) : (a.size : Int) ≤ n := by
  unfold digB at h
  simp only [Bool.and_eq_true, decide_eq_true_eq] at h
  exact h.1.2
set_option maxHeartbeats 1000000 in
theorem l06First (a b : ByteArray) (sw : Bool) (w : World) (ha : a.size ≤ 100) (hb : b.size ≤ 100) :
    Calls Try.prog 47 #[.string a, .string b, .bool sw] w fun e w' => ∃ n, e = .returned (.slice (some ⟨w.heap.size, 0, none⟩) n n) ∧ Hid (1 ≤ n) ∧ w'.cell? ⟨w.heap.size, 0, none⟩ = some (.int .i64 (cAt sw (bz a) (bz b) 0 0 : Nat)) ∧ Below w.heap.size w w' := by
  refine (l06Costs_any a b sw w ha hb).mono ?_
  rintro e w' ⟨xs, n, rfl, ho, hn, hc, hbl⟩
  have hl : xs.length = n := by have := OV.len ho; simpa using this.symm
  have h1 : 1 ≤ n := by
    rw [hn]; exact Nat.mul_pos (by omega) (by omega)
  refine ⟨n, rfl, h1, ?_, hbl⟩
  rw [ho.cell 0 (by omega)]
  have := hc 0 0 (Nat.zero_le _) (Nat.zero_le _)
  simp only [Nat.zero_mul, Nat.zero_add] at this
  rw [this]; rfl

/-- The distance of two words, and whether there is one. -/
def edV (sw : Bool) (a b : ByteArray) : Value := if digB a 36 20 && digB b 36 20 then .tuple #[.int .i64 (cAt sw (bz a) (bz b) 0 0 : Nat), .bool true] else .tuple #[.int .i64 0, .bool false]
theorem edV_shape (sw : Bool) (a b : ByteArray) : ∃ (x : Int) (c : Bool), edV sw a b = .tuple #[.int .i64 x, .bool c] := by
  unfold edV; split <;> exact ⟨_, _, rfl⟩
set_option maxHeartbeats 1000000 in
theorem implEditDistance_any (a b : ByteArray) (w : World) (ha : a.size ≤ 1048576) (hb : b.size ≤ 1048576) :
    Calls Try.prog 19 #[.string a, .string b] w fun e w' => e = .returned (edV false a b) ∧ Below w.heap.size w w' := by
  by_cases h1 : digB a 36 20 = true
  · have ha' := digB_size h1
    have H1 := Lib.hid h1
    have hq : ∀ w1, Calls Try.prog 45 #[.string a, .int .i64 20] w1 fun e w' => e = .returned (.bool true) ∧ Below w1.heap.size w1 w' := fun w1 => by
      have := wordOk_any a 20 w1 ha
      rw [H1.out] at this; exact this
    by_cases h2 : digB b 36 20 = true
    · have hb' := digB_size h2
      have H2 := Lib.hid h2
      have hr : ∀ w1, Calls Try.prog 45 #[.string b, .int .i64 20] w1 fun e w' => e = .returned (.bool true) ∧ Below w1.heap.size w1 w' := fun w1 => by
        have := wordOk_any b 20 w1 hb
        rw [H2.out] at this; exact this
      clear h1 h2
      go_enter Try.func19, Try.ntmps19
      go_wp2_with fail
      refine (hq _).mono ?_
      rintro e w1 ⟨rfl, hb1⟩
      go_wp2_with fail
      refine (hr _).mono ?_
      rintro e w2 ⟨rfl, hb2⟩
      go_wp2_with (go_at_call 48; refine (distance_any _ _ _ _ (by omega) (by omega)).mono ?_; rintro e w3 ⟨rfl, hb3⟩)
      go_ret2
      refine ⟨?_, (hb1.trans (hb2.mono hb1.size)).trans (hb3.mono (Nat.le_trans hb1.size hb2.size))⟩
      unfold edV
      rw [H1.out, H2.out]
      rfl
    · simp only [Bool.not_eq_true] at h2
      have H2 := Lib.hid h2
      have hr : ∀ w1, Calls Try.prog 45 #[.string b, .int .i64 20] w1 fun e w' => e = .returned (.bool false) ∧ Below w1.heap.size w1 w' := fun w1 => by
        have := wordOk_any b 20 w1 hb
        rw [H2.out] at this; exact this
      clear h1 h2
      go_enter Try.func19, Try.ntmps19
      go_wp2_with fail
      refine (hq _).mono ?_
      rintro e w1 ⟨rfl, hb1⟩
      go_wp2_with fail
      refine (hr _).mono ?_
      rintro e w2 ⟨rfl, hb2⟩
      go_wp2_with fail
      go_ret2
      refine ⟨?_, hb1.trans (hb2.mono hb1.size)⟩
      unfold edV
      rw [H2.out]
      simp
  · simp only [Bool.not_eq_true] at h1
    have H1 := Lib.hid h1
    have hq : ∀ w1, Calls Try.prog 45 #[.string a, .int .i64 20] w1 fun e w' => e = .returned (.bool false) ∧ Below w1.heap.size w1 w' := fun w1 => by
      have := wordOk_any a 20 w1 ha
      rw [H1.out] at this; exact this
    clear h1
    go_enter Try.func19, Try.ntmps19
    go_wp2_with fail
    refine (hq _).mono ?_
    rintro e w1 ⟨rfl, hb1⟩
    go_wp2_with fail
    go_ret2
    refine ⟨?_, hb1⟩
    unfold edV
    rw [H1.out]
    simp
set_option maxHeartbeats 1000000 in
theorem specEditDistance_any (a b : ByteArray) (w : World) (ha : a.size ≤ 1048576) (hb : b.size ≤ 1048576) :
    Calls Try.prog 18 #[.string a, .string b] w fun e w' => e = .returned (edV false a b) ∧ Below w.heap.size w w' := by
  by_cases h1 : digB a 36 20 = true
  · have ha' := digB_size h1
    have H1 := Lib.hid h1
    have hq : ∀ w1, Calls Try.prog 44 #[.string a, .int .i64 20] w1 fun e w' => e = .returned (.bool true) ∧ w1 = w' := fun w1 => by
      have := l06Word_any a 20 w1 ha (by omega)
      rw [H1.out] at this; exact this
    by_cases h2 : digB b 36 20 = true
    · have hb' := digB_size h2
      have H2 := Lib.hid h2
      have hr : ∀ w1, Calls Try.prog 44 #[.string b, .int .i64 20] w1 fun e w' => e = .returned (.bool true) ∧ w1 = w' := fun w1 => by
        have := l06Word_any b 20 w1 hb (by omega)
        rw [H2.out] at this; exact this
      clear h1 h2
      go_enter Try.func18, Try.ntmps18
      go_wp2_with fail
      refine (hq _).mono ?_
      rintro e w1 ⟨rfl, rfl⟩
      go_wp2_with fail
      refine (hr _).mono ?_
      rintro e w1 ⟨rfl, rfl⟩
      go_wp2_with (go_at_call 47; refine (l06First _ _ _ _ (by omega) (by omega)).mono ?_; rintro e w3 ⟨n3, rfl, HN3, hc3, hb3⟩; have hn3 := HN3.out)
      go_ret2
      refine ⟨?_, hb3⟩
      unfold edV
      rw [H1.out, H2.out]
      rfl
    · simp only [Bool.not_eq_true] at h2
      have H2 := Lib.hid h2
      have hr : ∀ w1, Calls Try.prog 44 #[.string b, .int .i64 20] w1 fun e w' => e = .returned (.bool false) ∧ w1 = w' := fun w1 => by
        have := l06Word_any b 20 w1 hb (by omega)
        rw [H2.out] at this; exact this
      clear h1 h2
      go_enter Try.func18, Try.ntmps18
      go_wp2_with fail
      refine (hq _).mono ?_
      rintro e w1 ⟨rfl, rfl⟩
      go_wp2_with fail
      refine (hr _).mono ?_
      rintro e w1 ⟨rfl, rfl⟩
      go_wp2_with fail
      go_ret2
      refine ⟨?_, Below.refl _ _⟩
      unfold edV
      rw [H2.out]
      simp
  · simp only [Bool.not_eq_true] at h1
    have H1 := Lib.hid h1
    have hq : ∀ w1, Calls Try.prog 44 #[.string a, .int .i64 20] w1 fun e w' => e = .returned (.bool false) ∧ w1 = w' := fun w1 => by
      have := l06Word_any a 20 w1 ha (by omega)
      rw [H1.out] at this; exact this
    clear h1
    go_enter Try.func18, Try.ntmps18
    go_wp2_with fail
    refine (hq _).mono ?_
    rintro e w1 ⟨rfl, rfl⟩
    go_wp2_with fail
    go_ret2
    refine ⟨?_, Below.refl _ _⟩
    unfold edV
    rw [H1.out]
    simp
set_option maxHeartbeats 1000000 in
theorem lawEditDistance_any (a b : ByteArray) (w : World) :
    Calls Try.prog 5 #[.string a, .string b] w fun e w' => e = .returned (.bool true) ∧ Below w.heap.size w w' := by
  by_cases ha : (a.size : Int) ≤ 1048576
  · by_cases hb : (b.size : Int) ≤ 1048576
    · obtain ⟨x, c, hv⟩ := edV_shape false a b
      have hi : ∀ w1, Calls Try.prog 19 #[.string a, .string b] w1 fun e w' => e = .returned (.tuple #[.int .i64 x, .bool c]) ∧ Below w1.heap.size w1 w' := fun w1 => by
        have := implEditDistance_any a b w1 (by omega) (by omega)
        rw [hv] at this; exact this
      have hs : ∀ w1, Calls Try.prog 18 #[.string a, .string b] w1 fun e w' => e = .returned (.tuple #[.int .i64 x, .bool c]) ∧ Below w1.heap.size w1 w' := fun w1 => by
        have := specEditDistance_any a b w1 (by omega) (by omega)
        rw [hv] at this; exact this
      clear hv
      go_enter Try.func5, Try.ntmps5
      go_wp2_with (first
        | (go_at_call 18; refine (hs _).mono ?_; rintro e w1 ⟨rfl, hb1⟩)
        | (go_at_call 19; refine (hi _).mono ?_; rintro e w2 ⟨rfl, hb2⟩))
      go_ret
      exact ⟨rfl, hb1.trans (hb2.mono hb1.size)⟩
    · go_enter Try.func5, Try.ntmps5
      go_wp2_with fail
      go_ret
      exact ⟨rfl, Below.refl _ _⟩
  · go_enter Try.func5, Try.ntmps5
    go_wp2_with fail
    go_ret
    exact ⟨rfl, Below.refl _ _⟩
set_option maxHeartbeats 1000000 in
theorem l06Distance_any (a b : ByteArray) (w : World) (ha : a.size ≤ 100) (hb : b.size ≤ 100) :
    Calls Try.prog 49 #[.string a, .string b] w fun e w' => e = .returned (.int .i64 (cAt true (bz a) (bz b) 0 0 : Nat)) ∧ Below w.heap.size w w' := by
  go_enter Try.func49, Try.ntmps49
  go_wp2_with (go_at_call 47; refine (l06First _ _ _ _ ha hb).mono ?_; rintro e w3 ⟨n3, rfl, HN3, hc3, hb3⟩; have hn3 := HN3.out)
  go_ret
  exact ⟨rfl, hb3⟩
set_option maxHeartbeats 1000000 in
theorem implTypingDistance_any (a b : ByteArray) (w : World) (ha : a.size ≤ 1048576) (hb : b.size ≤ 1048576) :
    Calls Try.prog 21 #[.string a, .string b] w fun e w' => e = .returned (edV true a b) ∧ Below w.heap.size w w' := by
  by_cases h1 : digB a 36 20 = true
  · have ha' := digB_size h1
    have H1 := Lib.hid h1
    have hq : ∀ w1, Calls Try.prog 45 #[.string a, .int .i64 20] w1 fun e w' => e = .returned (.bool true) ∧ Below w1.heap.size w1 w' := fun w1 => by
      have := wordOk_any a 20 w1 ha
      rw [H1.out] at this; exact this
    by_cases h2 : digB b 36 20 = true
    · have hb' := digB_size h2
      have H2 := Lib.hid h2
      have hr : ∀ w1, Calls Try.prog 45 #[.string b, .int .i64 20] w1 fun e w' => e = .returned (.bool true) ∧ Below w1.heap.size w1 w' := fun w1 => by
        have := wordOk_any b 20 w1 hb
        rw [H2.out] at this; exact this
      clear h1 h2
      go_enter Try.func21, Try.ntmps21
      go_wp2_with fail
      refine (hq _).mono ?_
      rintro e w1 ⟨rfl, hb1⟩
      go_wp2_with fail
      refine (hr _).mono ?_
      rintro e w2 ⟨rfl, hb2⟩
      go_wp2_with (go_at_call 48; refine (distance_any _ _ _ _ (by omega) (by omega)).mono ?_; rintro e w3 ⟨rfl, hb3⟩)
      go_ret2
      refine ⟨?_, (hb1.trans (hb2.mono hb1.size)).trans (hb3.mono (Nat.le_trans hb1.size hb2.size))⟩
      unfold edV
      rw [H1.out, H2.out]
      rfl
    · simp only [Bool.not_eq_true] at h2
      have H2 := Lib.hid h2
      have hr : ∀ w1, Calls Try.prog 45 #[.string b, .int .i64 20] w1 fun e w' => e = .returned (.bool false) ∧ Below w1.heap.size w1 w' := fun w1 => by
        have := wordOk_any b 20 w1 hb
        rw [H2.out] at this; exact this
      clear h1 h2
      go_enter Try.func21, Try.ntmps21
      go_wp2_with fail
      refine (hq _).mono ?_
      rintro e w1 ⟨rfl, hb1⟩
      go_wp2_with fail
      refine (hr _).mono ?_
      rintro e w2 ⟨rfl, hb2⟩
      go_wp2_with fail
      go_ret2
      refine ⟨?_, hb1.trans (hb2.mono hb1.size)⟩
      unfold edV
      rw [H2.out]
      simp
  · simp only [Bool.not_eq_true] at h1
    have H1 := Lib.hid h1
    have hq : ∀ w1, Calls Try.prog 45 #[.string a, .int .i64 20] w1 fun e w' => e = .returned (.bool false) ∧ Below w1.heap.size w1 w' := fun w1 => by
      have := wordOk_any a 20 w1 ha
      rw [H1.out] at this; exact this
    clear h1
    go_enter Try.func21, Try.ntmps21
    go_wp2_with fail
    refine (hq _).mono ?_
    rintro e w1 ⟨rfl, hb1⟩
    go_wp2_with fail
    go_ret2
    refine ⟨?_, hb1⟩
    unfold edV
    rw [H1.out]
    simp
set_option maxHeartbeats 1000000 in
theorem specTypingDistance_any (a b : ByteArray) (w : World) (ha : a.size ≤ 1048576) (hb : b.size ≤ 1048576) :
    Calls Try.prog 20 #[.string a, .string b] w fun e w' => e = .returned (edV true a b) ∧ Below w.heap.size w w' := by
  by_cases h1 : digB a 36 20 = true
  · have ha' := digB_size h1
    have H1 := Lib.hid h1
    have hq : ∀ w1, Calls Try.prog 44 #[.string a, .int .i64 20] w1 fun e w' => e = .returned (.bool true) ∧ w1 = w' := fun w1 => by
      have := l06Word_any a 20 w1 ha (by omega)
      rw [H1.out] at this; exact this
    by_cases h2 : digB b 36 20 = true
    · have hb' := digB_size h2
      have H2 := Lib.hid h2
      have hr : ∀ w1, Calls Try.prog 44 #[.string b, .int .i64 20] w1 fun e w' => e = .returned (.bool true) ∧ w1 = w' := fun w1 => by
        have := l06Word_any b 20 w1 hb (by omega)
        rw [H2.out] at this; exact this
      clear h1 h2
      go_enter Try.func20, Try.ntmps20
      go_wp2_with fail
      refine (hq _).mono ?_
      rintro e w1 ⟨rfl, rfl⟩
      go_wp2_with fail
      refine (hr _).mono ?_
      rintro e w1 ⟨rfl, rfl⟩
      go_wp2_with (go_at_call 49; refine (l06Distance_any _ _ _ (by omega) (by omega)).mono ?_; rintro e w3 ⟨rfl, hb3⟩)
      go_ret2
      refine ⟨?_, hb3⟩
      unfold edV
      rw [H1.out, H2.out]
      rfl
    · simp only [Bool.not_eq_true] at h2
      have H2 := Lib.hid h2
      have hr : ∀ w1, Calls Try.prog 44 #[.string b, .int .i64 20] w1 fun e w' => e = .returned (.bool false) ∧ w1 = w' := fun w1 => by
        have := l06Word_any b 20 w1 hb (by omega)
        rw [H2.out] at this; exact this
      clear h1 h2
      go_enter Try.func20, Try.ntmps20
      go_wp2_with fail
      refine (hq _).mono ?_
      rintro e w1 ⟨rfl, rfl⟩
      go_wp2_with fail
      refine (hr _).mono ?_
      rintro e w1 ⟨rfl, rfl⟩
      go_wp2_with fail
      go_ret2
      refine ⟨?_, Below.refl _ _⟩
      unfold edV
      rw [H2.out]
      simp
  · simp only [Bool.not_eq_true] at h1
    have H1 := Lib.hid h1
    have hq : ∀ w1, Calls Try.prog 44 #[.string a, .int .i64 20] w1 fun e w' => e = .returned (.bool false) ∧ w1 = w' := fun w1 => by
      have := l06Word_any a 20 w1 ha (by omega)
      rw [H1.out] at this; exact this
    clear h1
    go_enter Try.func20, Try.ntmps20
    go_wp2_with fail
    refine (hq _).mono ?_
    rintro e w1 ⟨rfl, rfl⟩
    go_wp2_with fail
    go_ret2
    refine ⟨?_, Below.refl _ _⟩
    unfold edV
    rw [H1.out]
    simp
set_option maxHeartbeats 1000000 in
theorem lawTypingDistance_any (a b : ByteArray) (w : World) :
    Calls Try.prog 6 #[.string a, .string b] w fun e w' => e = .returned (.bool true) ∧ Below w.heap.size w w' := by
  by_cases ha : (a.size : Int) ≤ 1048576
  · by_cases hb : (b.size : Int) ≤ 1048576
    · obtain ⟨x, c, hv⟩ := edV_shape true a b
      have hi : ∀ w1, Calls Try.prog 21 #[.string a, .string b] w1 fun e w' => e = .returned (.tuple #[.int .i64 x, .bool c]) ∧ Below w1.heap.size w1 w' := fun w1 => by
        have := implTypingDistance_any a b w1 (by omega) (by omega)
        rw [hv] at this; exact this
      have hs : ∀ w1, Calls Try.prog 20 #[.string a, .string b] w1 fun e w' => e = .returned (.tuple #[.int .i64 x, .bool c]) ∧ Below w1.heap.size w1 w' := fun w1 => by
        have := specTypingDistance_any a b w1 (by omega) (by omega)
        rw [hv] at this; exact this
      clear hv
      go_enter Try.func6, Try.ntmps6
      go_wp2_with (first
        | (go_at_call 20; refine (hs _).mono ?_; rintro e w1 ⟨rfl, hb1⟩)
        | (go_at_call 21; refine (hi _).mono ?_; rintro e w2 ⟨rfl, hb2⟩))
      go_ret
      exact ⟨rfl, hb1.trans (hb2.mono hb1.size)⟩
    · go_enter Try.func6, Try.ntmps6
      go_wp2_with fail
      go_ret
      exact ⟨rfl, Below.refl _ _⟩
  · go_enter Try.func6, Try.ntmps6
    go_wp2_with fail
    go_ret
    exact ⟨rfl, Below.refl _ _⟩
end Go.Proofs.Ytgagjmnmfgfpfaa
