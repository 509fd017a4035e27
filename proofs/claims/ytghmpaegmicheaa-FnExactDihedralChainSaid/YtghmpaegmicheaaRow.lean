/- Rows appended to a table that the call owns; copies of rows and tables; blank tables. -/
import Derived.Test.YtghmpaegmicheaaTb
import Derived.Test.YtghmpaegmicheaaApps
import Derived.Lib.SliceRun
namespace Go.Proofs.Ytghmpaegmicheaa
open Go.RowKit

theorem OT.push {B S : Nat} {w w5 : World} {v v' u : Value} {rs : List Value} {x : List (List Int)} {y : List Int} {T : TypeId} (h1 : OV 26 B w v rs) (h3 : Rows B S w v.ownBlock rs x) (hS : S ≤ w.heap.size) (hB : B ≤ S)
    (hu : OI S w u y) (hv : OV 26 B w5 v' (rs ++ [u])) (hg : (w.alloc (.cells #[u] T)).grownBy w5 v.ownBlock) : OT B w5.heap.size w5 v' (x ++ [y]) ∧ Below B w w5 := by
  have hb1 : Below w.heap.size w (w.alloc (.cells #[u] T)) := (Below.refl _ _).alloc (Nat.le_refl _) _
  have hBl : Below B w w5 := own_below ((Below.refl B w).alloc (by omega) _) (h1.alloc _) hg (by simp; omega)
  exact ⟨OT.app (h1.alloc _) (h3.keep fun k _ h2 _ => hb1.block k (by omega)) (by simp; omega) hB (hu.alloc _) hv hg, hBl⟩
theorem OT.parts {B S : Nat} {w : World} {v : Value} {x : List (List Int)} (h : OT B S w v x) : ∃ rs, OV 26 B w v rs ∧ Rows B S w v.ownBlock rs x ∧ rs.length = x.length := by
  obtain ⟨rs, h1, _, h3⟩ := h
  exact ⟨rs, h1, h3, h3.1⟩
theorem rep_snoc {α : Type} (k : Nat) (a : α) : List.replicate k a ++ [a] = List.replicate (k + 1) a := by rw [List.replicate_succ']
end Go.Proofs.Ytghmpaegmicheaa
