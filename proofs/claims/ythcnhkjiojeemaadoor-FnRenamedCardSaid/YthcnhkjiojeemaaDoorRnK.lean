/- FnRenamed: r8Same and r8Tables of the same. -/
import Derived.Test.YthcnhkjiojeemaaDoorRnJ
namespace Go.Proofs.YthcnhkjiojeemaaDoor
open Go.RowKit

set_option maxHeartbeats 1000000 in
theorem r8SameY_any (u v : Value) (xs : List Int) (w : World) (hx : RI w u xs) (hy : RI w v xs) (hm : xs.length ≤ 1099511627776) :
    Calls Tryd.prog 38 #[u, v] w fun e w' => e = .returned (.bool true) ∧ Drw w w' := by
  obtain ⟨a, c, rfl⟩ := hx.slice
  obtain ⟨b, d, rfl⟩ := hy.slice
  go_enter Tryd.func38, Tryd.ntmps38
  go_wp2_with fail
  go_loopw [5] (fun iv wr => ∃ k : Nat, k ≤ xs.length ∧ iv = .int .i64 k ∧ Drw w wr) (fun iv _ => xs.length - (intOf iv).toNat)
  case atStart => exact ⟨0, Nat.zero_le _, rfl, Drw.refl _⟩
  case round =>
    obtain ⟨k, hk, rfl, hd⟩ := hrel
    by_cases hlt : k < xs.length
    · obtain ⟨g, off, rfl, hg, hc⟩ := (hx.later hd.below).at k hlt
      obtain ⟨g', off', rfl, hg', hc'⟩ := (hy.later hd.below).at k hlt
      generalize xs.getD k 0 = z at *
      go_wp2_with fail
      go_quiet (fail)
      go_wp2_with fail
      go_roundw
      case rel => exact ⟨k + 1, by omega, by go_num, hd.more _⟩
      case measure => first | (simp [intOf]; done) | (simp [intOf]; omega)
    · obtain rfl : k = xs.length := by omega
      go_wp2_with fail
      go_ret
      exact ⟨rfl, hd⟩
set_option maxHeartbeats 1000000 in
theorem r8TablesY_any (u v : Value) (x : List (List Int)) (w : World) (hx : RT w u x) (hy : RT w v x) (hm : x.length ≤ 1099511627776) (hr : ∀ j, j < x.length → (rowAt x j).length ≤ 1099511627776) :
    Calls Tryd.prog 18 #[u, v] w fun e w' => e = .returned (.bool true) ∧ Drw w w' := by
  obtain ⟨a, c, rfl⟩ := hx.slice
  obtain ⟨b, d, rfl⟩ := hy.slice
  have HRL := Lib.hid hr
  clear hr
  go_enter Tryd.func18, Tryd.ntmps18
  go_wp2_with fail
  go_loopw [5] (fun iv wr => ∃ k : Nat, k ≤ x.length ∧ iv = .int .i64 k ∧ Drw w wr) (fun iv _ => x.length - (intOf iv).toNat)
  case atStart => exact ⟨0, Nat.zero_le _, rfl, Drw.refl _⟩
  case round =>
    obtain ⟨k, hk, rfl, hd⟩ := hrel
    by_cases hlt : k < x.length
    · obtain ⟨g, off, ra, rfl, hg, hc, hri⟩ := (hx.later hd.below).at k hlt
      obtain ⟨g', off', rb, rfl, hg', hc', hri'⟩ := (hy.later hd.below).at k hlt
      have HS : Hid (∀ i, Calls Tryd.prog 38 #[ra, rb] (wr.drewN i) fun e w' => e = .returned (.bool true) ∧ Drw (wr.drewN i) w') := fun i =>
        r8SameY_any ra rb _ _ (hri.drewN i) (hri'.drewN i) (HRL.out k hlt)
      obtain ⟨pa, pc, rfl⟩ := hri.slice
      obtain ⟨qa, qc, rfl⟩ := hri'.slice
      clear hri hri'
      go_wp2_with fail
      go_quiet ((go_at_call 38; exact quiet_drw (HS.out _)))
      go_wp2_with fail
      go_roundw
      case rel => exact ⟨k + 1, by omega, by go_num, hd.more _⟩
      case measure => first | (simp [intOf]; done) | (simp [intOf]; omega)
    · obtain rfl : k = x.length := by omega
      go_wp2_with fail
      go_ret
      exact ⟨rfl, hd⟩
end Go.Proofs.YthcnhkjiojeemaaDoor
