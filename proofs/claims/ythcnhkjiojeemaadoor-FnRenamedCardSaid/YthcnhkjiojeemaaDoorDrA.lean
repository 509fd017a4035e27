/- Drawn things, for all seats: among, text; texts of numbers; changes of the source alone. -/
import Derived.Test.YthcnhkjiojeemaaDoorFrom
import Derived.Test.YthcnhkjiojeemaaDoorStrB
namespace Go.Proofs.YthcnhkjiojeemaaDoor
open Go.RowKit

theorem OK.chgP {T : TypeId} {k : IntKind} {B p : Nat} {w w' : World} {v : Value} {xs : List Int} (h : OK T k B w v xs) (hc : Chg [p] w w') (hp : p < B) : OK T k B w' v xs :=
  h.chg hc fun b hb hm => by
    have := h.vb b hb
    simp at hm
    omega
theorem chg_below {p : Nat} {w0 w w' : World} {S : Nat} (hc : Chg [p] w0 w) (hS : w0.heap.size ≤ S) (hb : Below S w w') : Chg [p] w0 w' := by
  refine ⟨hb.os.trans hc.os, hb.tape.trans hc.tape, hb.output.trans hc.output, Nat.le_trans hc.size hb.size, fun k hk hn => ?_⟩
  rw [hb.block k (by omega)]
  exact hc.block k hk hn
end Go.Proofs.YthcnhkjiojeemaaDoor
