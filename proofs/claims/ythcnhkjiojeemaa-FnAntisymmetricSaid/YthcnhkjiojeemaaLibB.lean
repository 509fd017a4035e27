/- Small laws for slices of bytes that the call itself owns: no condition. -/
import Derived.Test.YthcnhkjiojeemaaLib
namespace Go.Proofs.Ythcnhkjiojeemaa
open Go.RowKit
theorem info_u8 : (Try.prog.info? 5).map (fun i => (i.zero, i.size, i.bytes)) = some (some (.int .u8 0), 1, 1) := by kernel_rfl

abbrev OB := OK 5 .u8

theorem wpl_app_u8 {w : World} {ops : Array Oper} {rest : List Oper} {o : Oper} {a : Act} {Q : Exit → Act → World → Prop}
    (hg : o.guard = none) (s x : Operand) (hop : o.op = Op.call { callee := Callee.builtin Builtin.append, args := #[s, x], argTypes := #[22, 22] })
    (B : Nat) (v : Value) (xs : List Int) (hs : a.eval s = v) (hown : OB B w v xs) (ad : Addr) (c : Nat) (u : Int) (hx : a.eval x = .slice (some ad) 1 c)
    (hu : w.cell? ad = some (.int .u8 u)) (hn : xs.length ≤ 1099511627776) (hB : B ≤ w.heap.size)
    (hK : ∀ v' w', OB B w' v' (xs ++ [u]) → w.grownBy w' v.ownBlock → wpList Try.prog ops Q rest (a.put o.dst v') w') :
    wpList Try.prog ops Q (o :: rest) a w :=
  wpl_app Try.underlying22 info_u8 rfl (by omega) hg s x hop B v _ hs hown ad c _ hx hu rfl (by simpa using hn) hB fun v' w' h => hK v' w' (by unfold OB OK; rw [List.map_append]; exact h)

/-- string(v) of a row of bytes that the call owns. -/
theorem OK.str {B : Nat} {w : World} {v : Value} {xs : List Int} (h : OB B w v xs) :
    (convert 22 9 v).run Try.prog w = .ok (.string (strOfNums xs)) w := by
  rcases h.shape with ⟨rfl, rfl⟩ | ⟨g, cap, rfl, _⟩
  · exact run_convert_bytes_nil (P := Try.prog) (w := w) 22 5 Try.underlying22 Try.underlying5 0 0 _ Try.underlying9
  · refine run_convert_bytes_arg (P := Try.prog) (w := w) 22 5 Try.underlying22 Try.underlying5 g 0 _ cap xs rfl ?_ _ Try.underlying9
    intro i hi
    have := h.cell i hi
    simpa using this

end Go.Proofs.Ythcnhkjiojeemaa
