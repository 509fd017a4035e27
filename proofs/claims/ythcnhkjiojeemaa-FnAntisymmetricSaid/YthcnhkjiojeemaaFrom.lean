/- The source of choices: one, l00From. -/
import Derived.Test.YthcnhkjiojeemaaPick
namespace Go.Proofs.Ythcnhkjiojeemaa
open Go.RowKit

def OnePost (p m : Nat) (w : World) (e : Ending) (w' : World) : Prop := ∃ b : Bool, e = .returned (.bool b) ∧ Src p (m + 1) w' ∧ Chg [p] w w'
theorem one_any (p m : Nat) (n : Int) (w : World) (h : Src p m w) (hm : m ≤ 1048576) (hn : 1 ≤ n ∧ n ≤ 200) :
    Calls Try.prog 28 #[.pointer (some ⟨p, 0, none⟩), .int .i64 n] w (OnePost p m w) := by
  go_enter Try.func28, Try.ntmps28
  go_wp2_with fail
  refine (pick_any p m n _ h hm hn).mono ?_
  rintro e w' ⟨z, rfl, hz, hs, hc⟩
  go_wp2_with fail
  go_ret
  exact ⟨_, rfl, hs, hc⟩

def FromPost (w : World) (e : Ending) (w' : World) : Prop := e = .returned (.pointer (some ⟨w.heap.size, 0, none⟩)) ∧ Src w.heap.size 0 w' ∧ Below w.heap.size w w'
theorem from_any (v : Value) (xs : List Int) (w : World) (hx : RK .u8 w v xs) (hw : ∀ x ∈ xs, (Lit.int .u8 x).wf = true) (hm : xs.length ≤ 1048576) :
    Calls Try.prog 27 #[v] w (FromPost w) := by
  obtain ⟨a, c, rfl⟩ := hx.slice
  go_enter Try.func27, Try.ntmps27
  go_wp2_with fail
  go_ret
  have hb : Below w.heap.size w (w.alloc (.cells #[.slice a xs.length c, .int .i64 0, .int .u64 0] 75)) := (Below.refl _ _).alloc (Nat.le_refl _) _
  refine ⟨rfl, ⟨xs, a, c, 0, 0, hm, Nat.le_refl _, fun j hj => ?_, ?_, ?_, ?_, ?_, ?_, by simp⟩, hb⟩
  · obtain ⟨g, off, rfl, hg, hc⟩ := hx.at j hj
    have hbd : 0 ≤ xs.getD j 0 ∧ xs.getD j 0 ≤ 255 := by
      have := hw (xs.getD j 0) (by simp [hj])
      simp [Lit.wf, IntKind.min, IntKind.max, IntKind.bits, IntKind.signed] at this
      simpa using this
    exact ⟨g, off, rfl, hg, (hb.cell (p := ⟨g, off + j, none⟩) hg).trans hc, hbd⟩
  · exact World.cell?_alloc_at _ _ _ _ rfl
  · exact World.cell?_alloc_at _ _ _ _ rfl
  · exact World.cell?_alloc_at _ _ _ _ rfl
  · simp
  · simp
end Go.Proofs.Ythcnhkjiojeemaa
