/- b10At, its number told. -/
import Derived.Test.YtdlagajnefkklaaDoorB10
namespace Go.Proofs.YtdlagajnefkklaaDoor
open Go.RowKit

def atD (xs : List Int) (k : Nat) (n : Int) : Nat := ((if k < xs.length then xs.getD k 0 else (k : Int) * 37 + 11) % n).toNat
theorem atD_lt (xs : List Int) (k : Nat) (n : Int) (h : 1 ≤ n) : (atD xs k n : Int) < n := by
  unfold atD
  have h1 := Int.emod_nonneg (if k < xs.length then xs.getD k 0 else (k : Int) * 37 + 11) (show n ≠ 0 by omega)
  have h2 := Int.emod_lt_of_pos (if k < xs.length then xs.getD k 0 else (k : Int) * 37 + 11) (show 0 < n by omega)
  omega
set_option maxHeartbeats 400000 in
theorem b10AtD_any (v : Value) (xs : List Int) (k : Nat) (n : Int) (w : World) (hx : RK .u8 w v xs) (hw : ∀ x ∈ xs, (Lit.int .u8 x).wf = true) (hm : xs.length ≤ 1048576) (hk : k < 1000000) (hn : 1 ≤ n ∧ n < 1000000) :
    Calls Tryd.prog 12 #[v, .int .i64 k, .int .i64 n] w fun e w' => e = .returned (.int .i64 (atD xs k n : Nat)) ∧ Drw w w' := by
  obtain ⟨a, c, rfl⟩ := hx.slice
  by_cases h1 : n ≤ 1
  · obtain rfl : n = 1 := by omega
    have HD : Hid (atD xs k 1 = 0) := by unfold Hid atD; rw [Int.emod_one]; rfl
    go_enter Tryd.func12, Tryd.ntmps12
    go_wp2
    go_ret
    exact ⟨by rw [HD.out]; rfl, Drw.refl _⟩
  · have hn0 : ¬ n = 0 := by omega
    by_cases h2 : k < xs.length
    · obtain ⟨g, off, rfl, _, hc⟩ := hx.at k h2
      have hb : 0 ≤ xs.getD k 0 ∧ xs.getD k 0 ≤ 255 := by
        have := hw (xs.getD k 0) (by simp [h2])
        simp [Lit.wf, IntKind.min, IntKind.max, IntKind.bits, IntKind.signed] at this
        simpa using this
      have HD : Hid (((atD xs k n : Nat) : Int) = xs.getD k 0 % n) := by
        unfold Hid atD; rw [if_pos h2]; exact Int.toNat_of_nonneg (Int.emod_nonneg _ hn0)
      generalize xs.getD k 0 = z at *
      go_enter Tryd.func12, Tryd.ntmps12
      go_wp2
      go_ret
      exact ⟨by rw [HD.out]; rfl, by first | exact Drw.refl _ | exact (Drw.refl _).more _⟩
    · have h3 : xs.length ≤ k := by omega
      have HD : Hid (((atD xs k n : Nat) : Int) = ((k : Int) * 37 + 11) % n) := by
        unfold Hid atD; rw [if_neg h2]; exact Int.toNat_of_nonneg (Int.emod_nonneg _ hn0)
      go_enter Tryd.func12, Tryd.ntmps12
      go_wp2
      go_ret
      exact ⟨by rw [HD.out]; rfl, by first | exact Drw.refl _ | exact (Drw.refl _).more _⟩
end Go.Proofs.YtdlagajnefkklaaDoor
