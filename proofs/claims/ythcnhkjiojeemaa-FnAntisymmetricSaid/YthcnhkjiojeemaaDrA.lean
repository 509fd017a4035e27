/- Drawn things, for all seats: among, text; texts of numbers; changes of the source alone. -/
import Derived.Test.YthcnhkjiojeemaaFrom
import Derived.Test.YthcnhkjiojeemaaStrB
namespace Go.Proofs.Ythcnhkjiojeemaa
open Go.RowKit

def AmPost (p m n : Nat) (g : Nat) (w : World) (e : Ending) (w' : World) : Prop := ∃ k, k < n ∧ (∃ z, w.cell? ⟨g, k, none⟩ = some (.int .i64 z) ∧ e = .returned (.int .i64 z)) ∧ Src p (m + 1) w' ∧ Chg [p] w w'
theorem among_any (p m g n c : Nat) (w : World) (h : Src p m w) (hm : m ≤ 1048576) (hn : 1 ≤ n ∧ n ≤ 200) (hg : g ≠ p) (hl : ∀ k, k < n → ∃ z, w.cell? ⟨g, k, none⟩ = some (.int .i64 z)) :
    Calls Try.prog 29 #[.pointer (some ⟨p, 0, none⟩), .slice (some ⟨g, 0, none⟩) n c] w (AmPost p m n g w) := by
  go_enter Try.func29, Try.ntmps29
  go_wp2_with fail
  refine (pick_any p m n _ h hm (by omega)).mono ?_
  rintro e w1 ⟨z, rfl, hz, hs, hc⟩
  obtain ⟨k, rfl⟩ := Int.eq_ofNat_of_zero_le hz.1
  have hk : k < n := by omega
  obtain ⟨u, hu⟩ := hl k hk
  have hu1 := (cell_keep (o := k) (hc.block g (World.block_lt_of_cell? w _ hu) (by simpa using hg))).trans hu
  go_wp2_with fail
  go_ret
  exact ⟨k, hk, ⟨u, hu, rfl⟩, hs, hc⟩
theorem OK.chgP {T : TypeId} {k : IntKind} {B p : Nat} {w w' : World} {v : Value} {xs : List Int} (h : OK T k B w v xs) (hc : Chg [p] w w') (hp : p < B) : OK T k B w' v xs :=
  h.chg hc fun b hb hm => by
    have := h.vb b hb
    simp at hm
    omega
theorem chg_below {p : Nat} {w0 w w' : World} {S : Nat} (hc : Chg [p] w0 w) (hS : w0.heap.size ≤ S) (hb : Below S w w') : Chg [p] w0 w' := by
  refine ⟨hb.os.trans hc.os, hb.tape.trans hc.tape, hb.output.trans hc.output, Nat.le_trans hc.size hb.size, fun k hk hn => ?_⟩
  rw [hb.block k (by omega)]
  exact hc.block k hk hn
end Go.Proofs.Ythcnhkjiojeemaa
