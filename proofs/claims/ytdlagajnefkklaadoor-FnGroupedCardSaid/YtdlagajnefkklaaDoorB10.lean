/- The laws' readers of drawn bytes: b10Long, b10At, b10Has. -/
import Derived.Test.YtdlagajnefkklaaDoorRead
import Derived.Test.YtdlagajnefkklaaDoorMat
namespace Go.Proofs.YtdlagajnefkklaaDoor
open Go.RowKit

def longB (n m : Nat) : Bool := decide (1048576 < n) || decide (1048576 < m)
theorem longB_no {n m : Nat} (h : longB n m = false) : n ≤ 1048576 ∧ m ≤ 1048576 := by simpa [longB] using h
set_option maxHeartbeats 400000 in
theorem b10Long_any (a b : Option Addr) (n m c d : Nat) (w : World) :
    Calls Tryd.prog 11 #[.slice a n c, .slice b m d] w fun e w' => e = .returned (.bool (longB n m)) ∧ w = w' := by
  by_cases h : 1048576 < n
  all_goals
    go_enter Tryd.func11, Tryd.ntmps11
    go_wp2
    all_goals (go_ret; exact ⟨ret_bool (by rw [Bool.eq_iff_iff]; simp [longB]; omega), rfl⟩)

set_option maxHeartbeats 400000 in
theorem b10At_any (v : Value) (xs : List Int) (k n : Int) (w : World) (hx : RK .u8 w v xs) (hw : ∀ x ∈ xs, (Lit.int .u8 x).wf = true) (hm : xs.length ≤ 1048576) (hk : 0 ≤ k ∧ k < 1000000) (hn : 1 ≤ n ∧ n < 1000000) :
    Calls Tryd.prog 12 #[v, .int .i64 k, .int .i64 n] w fun e w' => ∃ r : Nat, e = .returned (.int .i64 r) ∧ r < n ∧ Drw w w' := by
  obtain ⟨k, rfl⟩ := Int.eq_ofNat_of_zero_le hk.1
  obtain ⟨a, c, rfl⟩ := hx.slice
  by_cases h1 : n ≤ 1
  · go_enter Tryd.func12, Tryd.ntmps12
    go_wp2
    go_ret
    exact ⟨0, rfl, by omega, Drw.refl _⟩
  · have hn0 : ¬ n = 0 := by omega
    by_cases h2 : k < xs.length
    · obtain ⟨g, off, rfl, _, hc⟩ := hx.at k h2
      have hb : 0 ≤ xs.getD k 0 ∧ xs.getD k 0 ≤ 255 := by
        have := hw (xs.getD k 0) (by simp [h2])
        simp [Lit.wf, IntKind.min, IntKind.max, IntKind.bits, IntKind.signed] at this
        simpa using this
      generalize xs.getD k 0 = z at *
      have hz := Int.emod_nonneg z hn0
      have hz2 := Int.emod_lt_of_pos z (show 0 < n by omega)
      obtain ⟨r, hr⟩ := Int.eq_ofNat_of_zero_le hz
      go_enter Tryd.func12, Tryd.ntmps12
      go_wp2
      go_ret
      exact ⟨r, by rw [← hr]; rfl, by omega, by first | exact Drw.refl _ | exact (Drw.refl _).more _⟩
    · have h3 : xs.length ≤ k := by omega
      have hz := Int.emod_nonneg ((k : Int) * 37 + 11) hn0
      have hz2 := Int.emod_lt_of_pos ((k : Int) * 37 + 11) (show 0 < n by omega)
      obtain ⟨r, hr⟩ := Int.eq_ofNat_of_zero_le hz
      go_enter Tryd.func12, Tryd.ntmps12
      go_wp2
      go_ret
      exact ⟨r, by rw [← hr]; rfl, by omega, by first | exact Drw.refl _ | exact (Drw.refl _).more _⟩
end Go.Proofs.YtdlagajnefkklaaDoor
