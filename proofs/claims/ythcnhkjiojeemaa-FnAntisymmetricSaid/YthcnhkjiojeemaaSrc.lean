/- The source of choices: what next answers and leaves behind (next_far behind the code, next_near within). -/
import Derived.Test.YthcnhkjiojeemaaInts
namespace Go.Proofs.Ythcnhkjiojeemaa
open Go.RowKit

theorem wraps63 (n : Int) (h₀ : 0 ≤ n) (h₁ : n < 2 ^ 63) : IntKind.u64.wrap n = n := by rw [IntKind.wrap_u64]; omega
theorem low8 (m : Int) : 0 ≤ wrap64 (bits .and .u64 (IntKind.u64.wrap m / 1099511627776) 255) ∧ wrap64 (bits .and .u64 (IntKind.u64.wrap m / 1099511627776) 255) ≤ 255 := by
  have hm : 0 ≤ IntKind.u64.wrap m ∧ IntKind.u64.wrap m < 18446744073709551616 := by rw [IntKind.wrap_u64]; omega
  generalize IntKind.u64.wrap m = q at *
  have h := bits_mask .u64 63 (by decide) wraps63 8 (by decide) (q / 1099511627776) (by omega) (by omega)
  have e : ((2 : Int) ^ 8 - 1) = 255 := by decide
  have e2 : ((2 : Int) ^ 8) = 256 := by decide
  rw [e, e2] at h
  rw [h]
  have : wrap64 ((q / 1099511627776) % 256) = (q / 1099511627776) % 256 := by unfold wrap64; omega
  rw [this]; omega
/-- What next answers, and what it leaves behind. -/
def NextPost (n p : Nat) (w : World) (e : Ending) (w' : World) : Prop := ∃ (z q' : Int) (d d' : Nat), e = .returned (.int .i64 z) ∧ (0 ≤ z ∧ z ≤ 255) ∧ w' = (((w.drewN d).setCell ⟨p, 1, none⟩ (.int .i64 ((n : Int) + 1))).setCell ⟨p, 2, none⟩ (.int .u64 q')).drewN d'
set_option maxHeartbeats 1000000 in
theorem next_far (a : Option Addr) (l c : Nat) (n : Nat) (q : Int) (p : Nat) (w : World) (hl : l ≤ 1048576) (hn : l ≤ n ∧ n ≤ 1048576)
    (c0 : w.cell? ⟨p, 0, none⟩ = some (.slice a l c)) (c1 : w.cell? ⟨p, 1, none⟩ = some (.int .i64 n)) (c2 : w.cell? ⟨p, 2, none⟩ = some (.int .u64 q))
    (f1 : w.frozen? ⟨p, 1, none⟩ = false) (f2 : w.frozen? ⟨p, 2, none⟩ = false) :
    Calls Try.prog 57 #[.pointer (some ⟨p, 0, none⟩)] w (NextPost n p w) := by
  have hnl : ¬ (n : Int) < (l : Int) := by omega
  have hnl2 : ¬ (n : Int) + 1 ≤ (l : Int) := by omega
  go_enter Try.func57, Try.ntmps57
  go_wp2_with fail
  go_quiet (fail)
  go_wp2_with fail
  go_quiet (fail)
  go_wp2_with fail
  go_ret
  exact ⟨_, _, _, _, rfl, low8 _, rfl⟩
set_option maxHeartbeats 1000000 in
theorem next_near (g off : Nat) (l c : Nat) (n : Nat) (x q : Int) (p : Nat) (w : World) (hl : l ≤ 1048576) (hn : n < l)
    (c0 : w.cell? ⟨p, 0, none⟩ = some (.slice (some ⟨g, off, none⟩) l c)) (c1 : w.cell? ⟨p, 1, none⟩ = some (.int .i64 n)) (c2 : w.cell? ⟨p, 2, none⟩ = some (.int .u64 q))
    (f1 : w.frozen? ⟨p, 1, none⟩ = false) (f2 : w.frozen? ⟨p, 2, none⟩ = false) (hx : 0 ≤ x ∧ x ≤ 255) (cx : w.cell? ⟨g, off + n, none⟩ = some (.int .u8 x)) :
    Calls Try.prog 57 #[.pointer (some ⟨p, 0, none⟩)] w (NextPost n p w) := by
  have hnl : (n : Int) < (l : Int) := by omega
  have hnl2 : (n : Int) + 1 ≤ (l : Int) := by omega
  have h0 : (0 : Int) ≤ (n : Int) := by omega
  go_enter Try.func57, Try.ntmps57
  go_wp2_with fail
  go_quiet (fail)
  go_wp2_with fail
  go_quiet (fail)
  go_wp2_with fail
  go_quiet (fail)
  go_wp2_with fail
  go_ret
  exact ⟨_, _, _, _, rfl, hx, rfl⟩
end Go.Proofs.Ythcnhkjiojeemaa
