/- A table that is made row by row in a box h: all else lies below h. -/
import Derived.Test.YtghmpaegmicheaaGrpD
namespace Go.Proofs.Ytghmpaegmicheaa
open Go.RowKit

structure MkB (h : Nat) (n : Nat) (f : Nat → Nat → Int) (i S : Nat) (tv : Value) (w0 w : World) : Prop where
  c1 : w.cell? ⟨h, 0, none⟩ = some tv
  f1 : w.frozen? ⟨h, 0, none⟩ = false
  sz : h + 1 ≤ S ∧ S ≤ w.heap.size
  t : OT (h + 1) S w tv ((mkT n f).take i)
  b : Below h w0 w
theorem MkB.below {h n : Nat} {f : Nat → Nat → Int} {i S B : Nat} {tv : Value} {w0 w w' : World} (m : MkB h n f i S tv w0 w) (hS : S ≤ B) (hB : B ≤ w.heap.size) (hb : Below B w w') : MkB h n f i S tv w0 w' := by
  have hs := m.sz
  refine ⟨(hb.cell (p := ⟨h, 0, none⟩) (by show h < _; omega)).trans m.c1,
    (hb.frozen (p := ⟨h, 0, none⟩) (by show h < _; omega)).trans m.f1, ⟨hs.1, Nat.le_trans hs.2 hb.size⟩, m.t.keep fun k h1 h2 => hb.block k (by omega), m.b.trans (hb.mono (by omega))⟩
theorem MkB.later {h n : Nat} {f : Nat → Nat → Int} {i S : Nat} {tv : Value} {w0 w w' : World} (m : MkB h n f i S tv w0 w) (hb : Below w.heap.size w w') : MkB h n f i S tv w0 w' := m.below m.sz.2 (Nat.le_refl _) hb
/-- A row more in the table. -/
theorem MkB.next {h n : Nat} {f : Nat → Nat → Int} {i S : Nat} {tv tv' u : Value} {rs : List Value} {w0 w w5 : World} {T : TypeId} (m : MkB h n f i S tv w0 w) (hi : i < n)
    (h1 : OV 26 (h + 1) w tv rs) (h3 : Rows (h + 1) S w tv.ownBlock rs ((mkT n f).take i)) (hu : OI S w u (rowAt (mkT n f) i))
    (hv : OV 26 (h + 1) w5 tv' (rs ++ [u])) (hg : (w.alloc (.cells #[u] T)).grownBy w5 tv.ownBlock) :
    MkB h n f (i + 1) w5.heap.size tv' w0 (w5.setCell ⟨h, 0, none⟩ tv') := by
  have hs := m.sz
  have hb1 : Below w.heap.size w (w.alloc (.cells #[u] T)) := (Below.refl _ _).alloc (Nat.le_refl _) _
  have hB : Below (h + 1) w w5 := own_below ((Below.refl (h + 1) w).alloc (by omega) _) (h1.alloc _) hg (by simp; omega)
  have hsz := hB.size
  have ht : OT (h + 1) w5.heap.size w5 tv' ((mkT n f).take i ++ [rowAt (mkT n f) i]) :=
    OT.app (h1.alloc _) (h3.keep fun k h1 h2 _ => hb1.block k (by omega)) (by simp; omega) hs.1 (hu.alloc _) hv hg
  have e : (mkT n f).take (i + 1) = (mkT n f).take i ++ [rowAt (mkT n f) i] := take_snocT (by rw [mkT_len]; exact hi)
  have k1 : w5.cell? ⟨h, 0, none⟩ = some tv := (hB.cell (p := ⟨h, 0, none⟩) (by show h < _; omega)).trans m.c1
  have g1 : w5.frozen? ⟨h, 0, none⟩ = false := (hB.frozen (p := ⟨h, 0, none⟩) (by show h < _; omega)).trans m.f1
  refine ⟨?_, ?_, ⟨by omega, by simp⟩, ?_, (m.b.trans (hB.mono (by omega))).setCell (Nat.le_refl _) _⟩
  · exact World.cell?_setCell_same (h := k1) ..
  · rw [World.frozen?_setCell]; exact g1
  · rw [e]
    exact ht.keep fun k h1 h2 => heap_setCell_other _ _ _ _ (by show k ≠ h; omega)
theorem MkB.start (n : Nat) (f : Nat → Nat → Int) (w : World) : MkB w.heap.size n f 0 (w.heap.size + 1) (.slice none 0 0) w (w.alloc (.cells #[.slice none 0 0] 29)) := by
  refine ⟨World.cell?_alloc_at _ _ _ _ rfl, by simp [go_sem], ⟨by omega, by simp⟩, OT.nil _ _ _, (Below.refl _ _).alloc (Nat.le_refl _) _⟩

/-- The state where the ways of l05DrawOk meet: the group's box b3, the result's box r, the source p. -/
structure DrawSt (p r b3 : Nat) (tv : Value) (x : List (List Int)) (w0 w : World) : Prop where
  lt : p < r ∧ r < b3 ∧ b3 < w.heap.size
  src : Src p 3 w
  cr : w.cell? ⟨r, 0, none⟩ = some (.slice none 0 0)
  fr : w.frozen? ⟨r, 0, none⟩ = false
  c3 : w.cell? ⟨b3, 0, none⟩ = some tv
  t : OT (r + 1) w.heap.size w tv x
  g : grpB x = true
  ch : Chg [p] w0 w
theorem RT.chgP {p B S : Nat} {w w' : World} {v : Value} {x : List (List Int)} (h : OT B S w v x) (hc : Chg [p] w w') (hp : p < B) (hS : S ≤ w.heap.size) : OT B S w' v x :=
  h.keep fun k h1 h2 => hc.block k (by omega) (by simp; omega)
end Go.Proofs.Ytghmpaegmicheaa
