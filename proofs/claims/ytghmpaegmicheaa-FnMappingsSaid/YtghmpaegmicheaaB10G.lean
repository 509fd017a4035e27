/- B10Group: a drawn group. -/
import Derived.Test.YtghmpaegmicheaaDrawG
import Derived.Test.YtghmpaegmicheaaB10
namespace Go.Proofs.Ytghmpaegmicheaa
open Go.RowKit
def GrpPost (w : World) (e : Ending) (w' : World) : Prop := ∃ ua x uc, e = .returned (.agg #[.slice ua x.length uc]) ∧ OT w.heap.size w'.heap.size w' (.slice ua x.length uc) x ∧ grpB x = true ∧ Below w.heap.size w w'
set_option maxHeartbeats 1000000 in
theorem b10Group_any (v : Value) (cs : List Int) (w : World) (hx : RK .u8 w v cs) (hw : ∀ x ∈ cs, (Lit.int .u8 x).wf = true) (hm : cs.length ≤ 1048576) :
    Calls Try.prog 23 #[v] w (GrpPost w) := by
  have hb : Below w.heap.size w (w.alloc (.cells #[.slice none 0 0] 29)) := (Below.refl _ _).alloc (Nat.le_refl _) _
  have cr : (w.alloc (.cells #[.slice none 0 0] 29)).cell? ⟨w.heap.size, 0, none⟩ = some (.slice none 0 0) := World.cell?_alloc_at _ _ _ _ rfl
  have fr : (w.alloc (.cells #[.slice none 0 0] 29)).frozen? ⟨w.heap.size, 0, none⟩ = false := by simp [go_sem]
  have hlt : w.heap.size < (w.alloc (.cells #[.slice none 0 0] 29)).heap.size := by simp
  replace hx := hx.later hb
  go_enter Try.func23, Try.ntmps23
  go_wp2_with fail
  generalize w.alloc (.cells #[.slice none 0 0] 29) = w0 at *
  refine (from_any v cs _ hx hw hm).mono ?_
  rintro e w1 ⟨rfl, hs, hb1⟩
  replace cr := (hb1.cell (p := ⟨w.heap.size, 0, none⟩) hlt).trans cr
  replace fr := (hb1.frozen (p := ⟨w.heap.size, 0, none⟩) hlt).trans fr
  have hz1 := hb1.size
  replace hb := hb.trans (hb1.mono (Nat.le_of_lt hlt))
  clear hb1
  go_wp2_with fail
  refine (drawOk_any _ _ hs).mono ?_
  rintro e w2 ⟨u, x, rfl, ho, hg, hc⟩
  obtain ⟨ua, uc, rfl⟩ := ho.slice
  replace cr := (cell_keep (hc.block w.heap.size (by omega) (by simp; omega))).trans cr
  replace fr := (frozen_keep (hc.block w.heap.size (by omega) (by simp; omega))).trans fr
  have hz2 := hc.size
  have hz : w.heap.size < w2.heap.size := by omega
  have HE : Hid (OT w.heap.size (w2.setCell ⟨w.heap.size, 0, none⟩ (.slice ua x.length uc)).heap.size (w2.setCell ⟨w.heap.size, 0, none⟩ (.slice ua x.length uc)) (.slice ua x.length uc) x ∧ Below w.heap.size w (w2.setCell ⟨w.heap.size, 0, none⟩ (.slice ua x.length uc))) := by
    refine ⟨((ho.keep fun k h1 h2 => heap_setCell_other _ _ _ _ (by show k ≠ w.heap.size; omega)).monoB (by omega)).mono (by simp), ?_⟩
    exact (hc.below hb (by simp; omega) (by omega)).setCell (Nat.le_refl _) _
  clear ho hc hs
  go_wp2_with fail
  exact bodyPost_ret (v := .agg #[.slice ua x.length uc]) (by simp [results, Try.results23, go_sem, cr, hz]) rfl ⟨_, _, _, rfl, HE.out.1, hg, HE.out.2⟩
end Go.Proofs.Ytghmpaegmicheaa
