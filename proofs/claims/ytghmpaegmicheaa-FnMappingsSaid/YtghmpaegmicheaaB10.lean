/- The laws' readers of drawn bytes: b10Long, b10At, b10Has. -/
import Derived.Test.YtghmpaegmicheaaRead
import Derived.Test.YtghmpaegmicheaaMat
namespace Go.Proofs.Ytghmpaegmicheaa
open Go.RowKit

def longB (n m : Nat) : Bool := decide (1048576 < n) || decide (1048576 < m)
theorem longB_no {n m : Nat} (h : longB n m = false) : n ≤ 1048576 ∧ m ≤ 1048576 := by simpa [longB] using h
set_option maxHeartbeats 400000 in
theorem b10Long_any (a b : Option Addr) (n m c d : Nat) (w : World) :
    Calls Try.prog 22 #[.slice a n c, .slice b m d] w fun e w' => e = .returned (.bool (longB n m)) ∧ w = w' := by
  by_cases h : 1048576 < n
  all_goals
    go_enter Try.func22, Try.ntmps22
    go_wp2
    all_goals (go_ret; exact ⟨ret_bool (by rw [Bool.eq_iff_iff]; simp [longB]; omega), rfl⟩)

set_option maxHeartbeats 400000 in
theorem b10At_any (v : Value) (xs : List Int) (k n : Int) (w : World) (hx : RK .u8 w v xs) (hw : ∀ x ∈ xs, (Lit.int .u8 x).wf = true) (hm : xs.length ≤ 1048576) (hk : 0 ≤ k ∧ k < 1000000) (hn : 1 ≤ n ∧ n < 1000000) :
    Calls Try.prog 28 #[v, .int .i64 k, .int .i64 n] w fun e w' => ∃ r : Nat, e = .returned (.int .i64 r) ∧ r < n ∧ Drw w w' := by
  obtain ⟨k, rfl⟩ := Int.eq_ofNat_of_zero_le hk.1
  obtain ⟨a, c, rfl⟩ := hx.slice
  by_cases h1 : n ≤ 1
  · go_enter Try.func28, Try.ntmps28
    go_wp2
    go_ret
    exact ⟨0, rfl, by omega, Drw.refl _⟩
  · have hn0 : ¬ n = 0 := by omega
    by_cases h2 : k < xs.length
    · obtain ⟨g, off, rfl, _, hc⟩ := hx.at k h2
      have hb : 0 ≤ xs.getD k 0 ∧ xs.getD k 0 ≤ 255 := by
        have := hw (xs.getD k 0) (by simp [h2])
        simp [Lit.wf, IntKind.min, IntKind.max, IntKind.bits, IntKind.signed] at this
        simpa using this
      generalize xs.getD k 0 = z at *
      have hz := Int.emod_nonneg z hn0
      have hz2 := Int.emod_lt_of_pos z (show 0 < n by omega)
      obtain ⟨r, hr⟩ := Int.eq_ofNat_of_zero_le hz
      go_enter Try.func28, Try.ntmps28
      go_wp2
      go_ret
      exact ⟨r, by rw [← hr]; rfl, by omega, by first | exact Drw.refl _ | exact (Drw.refl _).more _⟩
    · have h3 : xs.length ≤ k := by omega
      have hz := Int.emod_nonneg ((k : Int) * 37 + 11) hn0
      have hz2 := Int.emod_lt_of_pos ((k : Int) * 37 + 11) (show 0 < n by omega)
      obtain ⟨r, hr⟩ := Int.eq_ofNat_of_zero_le hz
      go_enter Try.func28, Try.ntmps28
      go_wp2
      go_ret
      exact ⟨r, by rw [← hr]; rfl, by omega, by first | exact Drw.refl _ | exact (Drw.refl _).more _⟩
set_option maxHeartbeats 1000000 in
theorem b10Has_any (v : Value) (xs : List Int) (n : Int) (w : World) (hx : RI w v xs) (hm : xs.length ≤ 1048576) :
    Calls Try.prog 40 #[v, .int .i64 n] w fun e w' => e = .returned (.bool (decide (n ∈ xs))) ∧ Drw w w' := by
  obtain ⟨a, c, rfl⟩ := hx.slice
  go_enter Try.func40, Try.ntmps40
  go_wp2_with fail
  go_loopw [5] (fun iv wr => ∃ k : Nat, k ≤ xs.length ∧ iv = .int .i64 k ∧ Hid (∀ i, i < k → xs.getD i 0 ≠ n) ∧ Drw w wr) (fun iv _ => xs.length - (intOf iv).toNat)
  case atStart => exact ⟨0, Nat.zero_le _, rfl, fun i hi => by omega, Drw.refl _⟩
  case round =>
    obtain ⟨k, hk, rfl, HN, hd⟩ := hrel
    by_cases hlt : k < xs.length
    · obtain ⟨g, off, rfl, hg, hc⟩ := (hx.later hd.below).at k hlt
      by_cases he : xs.getD k 0 = n
      · have HY : Hid (n ∈ xs) := by rw [← he]; simp only [List.getD_eq_getElem?_getD, List.getElem?_eq_getElem hlt]; exact List.getElem_mem _
        rw [he] at hc
        clear he
        go_wp2_with fail
        go_ret
        exact ⟨ret_bool (decide_eq_true HY.out).symm, by first | exact hd | exact hd.more _⟩
      · have HN2 : Hid (∀ i, i < k + 1 → xs.getD i 0 ≠ n) := fun i hi => by
          by_cases e : i = k
          · subst e; exact he
          · exact HN.out i (by omega)
        generalize xs.getD k 0 = z at *
        have b1 : (z == n) = false := by simp [he]
        clear he
        go_wp2_with fail
        go_roundw
        case rel => exact ⟨k + 1, by omega, by go_num, HN2, by first | exact hd | exact hd.more _⟩
        case measure => first | (simp [intOf]; done) | (simp [intOf]; omega)
    · obtain rfl : k = xs.length := by omega
      have HY : Hid (¬ n ∈ xs) := fun h => by
        obtain ⟨i, hi, e⟩ := List.getElem_of_mem h
        exact HN.out i hi (by simpa [hi] using e)
      go_wp2_with fail
      go_ret
      exact ⟨ret_bool (decide_eq_false HY.out).symm, by first | exact hd | exact hd.more _⟩
end Go.Proofs.Ytghmpaegmicheaa
