/- WordDistance: the program's, the reference's, and the law, for all arguments. -/
import Derived.Test.YtdlagajnefkklaaLexLaw
import Derived.Test.YtdlagajnefkklaaCosts
import Derived.Test.YtdlagajnefkklaaDist
namespace Go.Proofs.Ytdlagajnefkklaa
open Go.RowKit

set_option maxHeartbeats 1000000 in
theorem distance_any (a b : ByteArray) (sw : Bool) (w : World) (ha : a.size ≤ 100) (hb : b.size ≤ 100) :
    Calls Try.prog 45 #[.string a, .string b, .bool sw] w fun e w' => e = .returned (.int .i64 (cAt sw (bz a) (bz b) 0 0 : Nat)) ∧ Below w.heap.size w w' := by
  go_enter Try.func45, Try.ntmps45
  go_wp2_with fail
  refine (costs_any _ _ _ _ ha hb).mono ?_
  rintro e w1 ⟨cs, rfl, ho, ht, hb1⟩
  obtain ⟨G, hG, hc, hr⟩ := ht 0 (Nat.le_refl _) (by omega)
  have h1 : w1.cell? ⟨w.heap.size, 0, none⟩ = some (.slice (some ⟨G, 0, none⟩) (b.size + 1) (b.size + 1)) := by rw [ho.cell 0 (List.length_pos_iff.2 (fun e => by rw [e] at hc; simp at hc))]; exact hc
  have h2 := hr.cell 0 (by rw [lf_len]; omega)
  rw [lf_get _ _ _ (by omega)] at h2
  have hcd : cI sw a b 0 0 = (cAt sw (bz a) (bz b) 0 0 : Nat) := rfl
  rw [hcd] at h2
  go_wp2_with fail
  go_ret
  exact ⟨rfl, hb1⟩

theorem letB_size {a : ByteArray} {n : Int} (h : letB a n = true) : (a.size : Int) ≤ n := by
  unfold letB at h
  simp only [Bool.and_eq_true, decide_eq_true_eq] at h
  exact h.2
/-- The distance of two heard words, and whether there is one. -/
def wdV (a b : ByteArray) : Value := if letB a 20 && letB b 20 then .tuple #[.int .i64 (cAt false (bz a) (bz b) 0 0 : Nat), .bool true] else .tuple #[.int .i64 0, .bool false]
set_option maxHeartbeats 1000000 in
theorem implWD_any (a b : ByteArray) (w : World) (ha : a.size ≤ 1048576) (hb : b.size ≤ 1048576) :
    Calls Try.prog 21 #[.string a, .string b] w fun e w' => e = .returned (wdV a b) ∧ Below w.heap.size w w' := by
  by_cases h1 : letB a 20 = true
  · have ha' := letB_size h1
    have H1 := Lib.hid h1
    have hq : ∀ w1, Calls Try.prog 41 #[.string a] w1 fun e w' => e = .returned (.bool true) ∧ w1 = w' := fun w1 => by
      have := heardOk_any a w1 ha
      rw [H1.out] at this; exact this
    by_cases h2 : letB b 20 = true
    · have hb' := letB_size h2
      have H2 := Lib.hid h2
      have hr : ∀ w1, Calls Try.prog 41 #[.string b] w1 fun e w' => e = .returned (.bool true) ∧ w1 = w' := fun w1 => by
        have := heardOk_any b w1 hb
        rw [H2.out] at this; exact this
      clear h1 h2
      go_enter Try.func21, Try.ntmps21
      have tok : True := trivial
      go_wp2_with (first
        | (go_at_call 41; have _t := tok; refine (hq _).mono ?_; rintro e w' ⟨rfl, rfl⟩; clear _t tok)
        | (go_at_call 41; refine (hr _).mono ?_; rintro e w' ⟨rfl, rfl⟩)
        | (go_at_call 45; refine (distance_any _ _ _ _ (by omega) (by omega)).mono ?_; rintro e w1 ⟨rfl, hb1⟩))
      go_ret2
      refine ⟨?_, hb1⟩
      unfold wdV
      rw [H1.out, H2.out]
      rfl
    · simp only [Bool.not_eq_true] at h2
      have H2 := Lib.hid h2
      have hr : ∀ w1, Calls Try.prog 41 #[.string b] w1 fun e w' => e = .returned (.bool false) ∧ w1 = w' := fun w1 => by
        have := heardOk_any b w1 hb
        rw [H2.out] at this; exact this
      clear h1 h2
      go_enter Try.func21, Try.ntmps21
      have tok : True := trivial
      go_wp2_with (first
        | (go_at_call 41; have _t := tok; refine (hq _).mono ?_; rintro e w' ⟨rfl, rfl⟩; clear _t tok)
        | (go_at_call 41; refine (hr _).mono ?_; rintro e w' ⟨rfl, rfl⟩))
      go_ret2
      refine ⟨?_, Below.refl _ _⟩
      unfold wdV
      rw [H2.out]
      simp
  · simp only [Bool.not_eq_true] at h1
    have H1 := Lib.hid h1
    have hq : ∀ w1, Calls Try.prog 41 #[.string a] w1 fun e w' => e = .returned (.bool false) ∧ w1 = w' := fun w1 => by
      have := heardOk_any a w1 ha
      rw [H1.out] at this; exact this
    clear h1
    go_enter Try.func21, Try.ntmps21
    go_wp2_with (go_at_call 41; refine (hq _).mono ?_; rintro e w' ⟨rfl, rfl⟩)
    go_ret2
    refine ⟨?_, Below.refl _ _⟩
    unfold wdV
    rw [H1.out]
    simp
set_option maxHeartbeats 1000000 in
theorem specWD_any (a b : ByteArray) (w : World) (ha : a.size ≤ 1048576) (hb : b.size ≤ 1048576) :
    Calls Try.prog 20 #[.string a, .string b] w fun e w' => e = .returned (wdV a b) ∧ Below w.heap.size w w' := by
  by_cases h1 : letB a 20 = true
  · have ha' := letB_size h1
    have H1 := Lib.hid h1
    have hq : ∀ w1, Calls Try.prog 43 #[.string a, .int .i64 20] w1 fun e w' => e = .returned (.bool true) ∧ w1 = w' := fun w1 => by
      have := l07Letters_any a 20 w1 ha
      rw [H1.out] at this; exact this
    by_cases h2 : letB b 20 = true
    · have hb' := letB_size h2
      have H2 := Lib.hid h2
      have hr : ∀ w1, Calls Try.prog 43 #[.string b, .int .i64 20] w1 fun e w' => e = .returned (.bool true) ∧ w1 = w' := fun w1 => by
        have := l07Letters_any b 20 w1 hb
        rw [H2.out] at this; exact this
      clear h1 h2
      go_enter Try.func20, Try.ntmps20
      have tok : True := trivial
      go_wp2_with (first
        | (go_at_call 43; have _t := tok; refine (hq _).mono ?_; rintro e w' ⟨rfl, rfl⟩; clear _t tok)
        | (go_at_call 43; refine (hr _).mono ?_; rintro e w' ⟨rfl, rfl⟩)
        | (go_at_call 44; refine (l07Distance_any _ _ _ (by omega) (by omega)).mono ?_; rintro e w1 ⟨rfl, hb1⟩))
      go_ret2
      refine ⟨?_, hb1⟩
      unfold wdV
      rw [H1.out, H2.out]
      rfl
    · simp only [Bool.not_eq_true] at h2
      have H2 := Lib.hid h2
      have hr : ∀ w1, Calls Try.prog 43 #[.string b, .int .i64 20] w1 fun e w' => e = .returned (.bool false) ∧ w1 = w' := fun w1 => by
        have := l07Letters_any b 20 w1 hb
        rw [H2.out] at this; exact this
      clear h1 h2
      go_enter Try.func20, Try.ntmps20
      have tok : True := trivial
      go_wp2_with (first
        | (go_at_call 43; have _t := tok; refine (hq _).mono ?_; rintro e w' ⟨rfl, rfl⟩; clear _t tok)
        | (go_at_call 43; refine (hr _).mono ?_; rintro e w' ⟨rfl, rfl⟩))
      go_ret2
      refine ⟨?_, Below.refl _ _⟩
      unfold wdV
      rw [H2.out]
      simp
  · simp only [Bool.not_eq_true] at h1
    have H1 := Lib.hid h1
    have hq : ∀ w1, Calls Try.prog 43 #[.string a, .int .i64 20] w1 fun e w' => e = .returned (.bool false) ∧ w1 = w' := fun w1 => by
      have := l07Letters_any a 20 w1 ha
      rw [H1.out] at this; exact this
    clear h1
    go_enter Try.func20, Try.ntmps20
    go_wp2_with (go_at_call 43; refine (hq _).mono ?_; rintro e w' ⟨rfl, rfl⟩)
    go_ret2
    refine ⟨?_, Below.refl _ _⟩
    unfold wdV
    rw [H1.out]
    simp
theorem wdV_shape (a b : ByteArray) : ∃ (x : Int) (c : Bool), wdV a b = .tuple #[.int .i64 x, .bool c] := by
  unfold wdV; split <;> exact ⟨_, _, rfl⟩
set_option maxHeartbeats 1000000 in
theorem lawWD_any (a b : ByteArray) (w : World) :
    Calls Try.prog 5 #[.string a, .string b] w fun e w' => e = .returned (.bool true) ∧ Below w.heap.size w w' := by
  by_cases ha : (a.size : Int) ≤ 1048576
  · by_cases hb : (b.size : Int) ≤ 1048576
    · obtain ⟨x, c, hv⟩ := wdV_shape a b
      have hi : ∀ w1, Calls Try.prog 21 #[.string a, .string b] w1 fun e w' => e = .returned (.tuple #[.int .i64 x, .bool c]) ∧ Below w1.heap.size w1 w' := fun w1 => by
        have := implWD_any a b w1 (by omega) (by omega)
        rw [hv] at this; exact this
      have hs : ∀ w1, Calls Try.prog 20 #[.string a, .string b] w1 fun e w' => e = .returned (.tuple #[.int .i64 x, .bool c]) ∧ Below w1.heap.size w1 w' := fun w1 => by
        have := specWD_any a b w1 (by omega) (by omega)
        rw [hv] at this; exact this
      clear hv
      go_enter Try.func5, Try.ntmps5
      go_wp2_with (first
        | (go_at_call 20; refine (hs _).mono ?_; rintro e w1 ⟨rfl, hb1⟩)
        | (go_at_call 21; refine (hi _).mono ?_; rintro e w2 ⟨rfl, hb2⟩))
      go_ret
      exact ⟨rfl, hb1.trans (hb2.mono hb1.size)⟩
    · go_enter Try.func5, Try.ntmps5
      go_wp2_with fail
      go_ret
      exact ⟨rfl, Below.refl _ _⟩
  · go_enter Try.func5, Try.ntmps5
    go_wp2_with fail
    go_ret
    exact ⟨rfl, Below.refl _ _⟩
end Go.Proofs.Ytdlagajnefkklaa
