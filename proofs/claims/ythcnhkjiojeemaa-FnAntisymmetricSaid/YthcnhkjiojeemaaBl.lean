/- Lists of yes and no that the call owns. -/
import Derived.Test.YthcnhkjiojeemaaLib
namespace Go.Proofs.Ythcnhkjiojeemaa
open Go.RowKit

theorem info_bool : (Try.prog.info? 4).map (fun i => (i.zero, i.size, i.bytes)) = some (some (.bool false), 1, 1) := by kernel_rfl
def bl (m : Nat) (f : Nat → Bool) : List Value := (List.range m).map fun i => .bool (f i)
theorem bl_len (m : Nat) (f : Nat → Bool) : (bl m f).length = m := by simp [bl]
theorem bl_rep (m : Nat) : List.replicate m (Value.bool false) = bl m (fun _ => false) := by
  unfold bl
  apply List.ext_getElem (by simp)
  intro i h1 h2
  simp
theorem bl_get {m k : Nat} (f : Nat → Bool) (h : k < m) : (bl m f)[k]? = some (.bool (f k)) := by simp [bl, h]
theorem bl_set {m k : Nat} (f : Nat → Bool) (h : k < m) (b : Bool) : (bl m f).set k (.bool b) = bl m (fun i => if i = k then b else f i) := by
  unfold bl
  apply List.ext_getElem (by simp)
  intro i h1 h2
  rw [List.getElem_set]
  simp only [List.getElem_map, List.getElem_range]
  by_cases e : k = i
  · rw [if_pos e, if_pos e.symm]
  · rw [if_neg e, if_neg (Ne.symm e)]
end Go.Proofs.Ythcnhkjiojeemaa
