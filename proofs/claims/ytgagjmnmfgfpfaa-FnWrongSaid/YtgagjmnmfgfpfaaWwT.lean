/- Two lists of rows that grow side by side; the reference's pairs. -/
import Derived.Test.YtgagjmnmfgfpfaaLoc
import Derived.Test.YtgagjmnmfgfpfaaWwP
import Derived.Test.YtgagjmnmfgfpfaaMat
import Derived.Deep.DeepCutAuto
namespace Go.Proofs.Ytgagjmnmfgfpfaa
open Go.RowKit

theorem OV.apart {T T' : TypeId} {B B' : Nat} {w : World} {v v' : Value} {cs cs' : List Value} (hT : T ≠ T') (h : OV T B w v cs) (h' : OV T' B' w v' cs') : v.ownBlock = none ∨ v.ownBlock ≠ v'.ownBlock := by
  unfold OV at h h'
  rcases h.2 with ⟨rfl, _⟩ | ⟨g, cap, cur, rfl, _, hg, _⟩
  · exact .inl rfl
  · refine .inr fun e => ?_
    rcases h'.2 with ⟨rfl, _⟩ | ⟨g', cap', cur', rfl, _, hg', _⟩
    · simp [Value.ownBlock] at e
    · simp only [Value.ownBlock, Option.some.injEq] at e
      subst e
      rw [hg] at hg'
      simp only [Option.some.injEq, Obj.cells.injEq] at hg'
      exact hT hg'.2.1
/-- Two lists of rows with outer blocks of their own. -/
structure Two (B : Nat) (w : World) (vf vt : Value) (rf rt : List Value) (fs ts : List (List Int)) : Prop where
  f : OV 47 B w vf rf
  t : OV 47 B w vt rt
  ne : ∀ k, vf.ownBlock = some k → vt.ownBlock ≠ some k
  lf : rf.length = fs.length
  lt : rt.length = ts.length
  rowf : ∀ j, j < fs.length → OI B w (rf.getD j nl) (rowAt fs j)
  rowt : ∀ j, j < ts.length → OI B w (rt.getD j nl) (rowAt ts j)
section
variable {B : Nat} {w w' : World} {vf vt : Value} {rf rt : List Value} {fs ts : List (List Int)}
theorem Two.swap (h : Two B w vf vt rf rt fs ts) : Two B w vt vf rt rf ts fs := ⟨h.t, h.f, fun k hk e => h.ne k e hk, h.lt, h.lf, h.rowt, h.rowf⟩
theorem Two.later (h : Two B w vf vt rf rt fs ts) (hb : Below w.heap.size w w') : Two B w' vf vt rf rt fs ts :=
  ⟨h.f.later hb, h.t.later hb, h.ne, h.lf, h.lt, fun j hj => (h.rowf j hj).later hb, fun j hj => (h.rowt j hj).later hb⟩
theorem Two.readF (h : Two B w vf vt rf rt fs ts) : RT w vf fs := ⟨rf, h.f.read, h.lf, fun j hj => (h.rowf j hj).read⟩
theorem row_snoc {l : List Value} {u : Value} {j : Nat} (h : j < l.length) : (l ++ [u]).getD j nl = l.getD j nl := by
  rw [List.getD_eq_getElem?_getD, List.getElem?_append_left h, ← List.getD_eq_getElem?_getD]
theorem rowAt_snoc {x : List (List Int)} {y : List Int} {j : Nat} (h : j < x.length) : rowAt (x ++ [y]) j = rowAt x j := by
  unfold rowAt
  rw [List.getD_eq_getElem?_getD, List.getElem?_append_left h, ← List.getD_eq_getElem?_getD]
theorem rowAt_last {x : List (List Int)} {y : List Int} : rowAt (x ++ [y]) x.length = y := by unfold rowAt; simp
theorem Two.pushF {w5 : World} {u vf' : Value} {y : List Int} (h : Two B w vf vt rf rt fs ts) (hu : OI B w u y)
    (hv : OV 47 B w5 vf' (rf ++ [u])) (hg : w.grownBy w5 vf.ownBlock) (hL : Loc w vf vf') : Two B w5 vf' vt (rf ++ [u]) rt (fs ++ [y]) ts := by
  have hT : (2 : TypeId) ≠ 47 := by decide
  have hr : ∀ {r : Value} {z : List Int}, OI B w r z → OI B w5 r z := fun {r z} hr => OV.kept hr hg (OV.apart hT hr h.f)
  refine ⟨hv, h.t.kept hg ?_, fun k hk e => ?_, by simp [h.lf], h.lt, fun j hj => ?_, fun j hj => hr (h.rowt j hj)⟩
  · cases ho : vt.ownBlock with
    | none => exact .inl rfl
    | some q => exact .inr fun e => h.ne q e.symm ho
  · rcases hL with hL | ⟨g, hL, hlo⟩
    · exact h.ne k (hL ▸ hk) e
    · rw [hL] at hk
      have := (h.t.lt k e).2
      simp only [Option.some.injEq] at hk
      omega
  · by_cases hjx : j < fs.length
    · rw [row_snoc (by rw [h.lf]; exact hjx), rowAt_snoc hjx]
      exact hr (h.rowf j hjx)
    · have : j = fs.length := by simp at hj; omega
      subst this
      rw [rowAt_last]
      have e : (rf ++ [u]).getD fs.length nl = u := by rw [← h.lf]; simp
      rw [e]
      exact hr hu
end
/-- The pairs of two lists. -/
def P2 (fs ts : List (List Int)) (f u : List Int) : Prop := ∃ j, j < fs.length ∧ rowAt fs j = f ∧ rowAt ts j = u
theorem P2.nil {f u : List Int} : ¬ P2 [] [] f u := fun ⟨_, h, _⟩ => by simp at h
theorem P2.snoc {fs ts : List (List Int)} {f0 u0 f u : List Int} (hl : fs.length = ts.length) : P2 (fs ++ [f0]) (ts ++ [u0]) f u ↔ P2 fs ts f u ∨ (f = f0 ∧ u = u0) := by
  constructor
  · rintro ⟨j, h1, h2, h3⟩
    by_cases hj : j < fs.length
    · rw [rowAt_snoc hj] at h2
      rw [rowAt_snoc (by omega)] at h3
      exact .inl ⟨j, hj, h2, h3⟩
    · have : j = fs.length := by simp at h1; omega
      subst this
      rw [rowAt_last] at h2
      rw [hl, rowAt_last] at h3
      exact .inr ⟨h2.symm, h3.symm⟩
  · rintro (⟨j, h1, h2, h3⟩ | ⟨rfl, rfl⟩)
    · exact ⟨j, by simp; omega, by rw [rowAt_snoc h1]; exact h2, by rw [rowAt_snoc (by omega)]; exact h3⟩
    · exact ⟨fs.length, by simp, rowAt_last, by rw [hl]; exact rowAt_last⟩
/-- As far as two loops over b numbers go. -/
def PU (b : Nat) (R : Nat → Nat → List Int → List Int → Prop) (a c : Nat) (f u : List Int) : Prop := ∃ a' c', (a' < a ∨ a' = a ∧ c' < c) ∧ a' < b ∧ c' < b ∧ R a' c' f u
section
variable {b : Nat} {R : Nat → Nat → List Int → List Int → Prop} {a c : Nat} {f u : List Int}
theorem PU.start : ¬ PU b R 0 0 f u := fun ⟨_, _, h, _⟩ => by omega
theorem PU.step (ha : a < b) (hc : c < b) : PU b R a (c + 1) f u ↔ PU b R a c f u ∨ R a c f u := by
  constructor
  · rintro ⟨a', c', h1, h2, h3, h4⟩
    by_cases e : a' = a ∧ c' = c
    · obtain ⟨rfl, rfl⟩ := e; exact .inr h4
    · exact .inl ⟨a', c', by omega, h2, h3, h4⟩
  · rintro (⟨a', c', h1, h2, h3, h4⟩ | h)
    · exact ⟨a', c', by omega, h2, h3, h4⟩
    · exact ⟨a, c, by omega, ha, hc, h⟩
theorem PU.next : PU b R (a + 1) 0 f u ↔ PU b R a b f u := by
  constructor
  · rintro ⟨a', c', h1, h2, h3, h4⟩; exact ⟨a', c', by omega, h2, h3, h4⟩
  · rintro ⟨a', c', h1, h2, h3, h4⟩; exact ⟨a', c', by omega, h2, h3, h4⟩
theorem PU.stop : PU b R b 0 f u ↔ ∃ a' c', a' < b ∧ c' < b ∧ R a' c' f u := by
  constructor
  · rintro ⟨a', c', h1, h2, h3, h4⟩; exact ⟨a', c', h2, h3, h4⟩
  · rintro ⟨a', c', h2, h3, h4⟩; exact ⟨a', c', by omega, h2, h3, h4⟩
end
/-- What the reference's loops make at two numbers (and a third one below m). -/
def RW (k : Int) (m a c : Nat) (f u : List Int) : Prop :=
  (k = 0 ∧ a ≠ c ∧ f = [(a : Int)] ∧ u = [(c : Int)]) ∨
  (k = 1 ∧ a ≠ c ∧ f = [(a : Int), (c : Int)] ∧ u = [(c : Int), (a : Int)]) ∨
  (k = 2 ∧ ∃ e : Nat, e < m ∧ a ≠ e ∧ f = [(a : Int), (c : Int), (e : Int)] ∧ u = [(e : Int), (c : Int), (a : Int)]) ∨
  (k = 3 ∧ a ≠ c ∧ f = [(a : Int), (a : Int)] ∧ u = [(c : Int), (c : Int)]) ∨
  (k = 4 ∧ ∃ e : Nat, e < m ∧ a ≠ e ∧ f = [(a : Int), (c : Int), (a : Int)] ∧ u = [(e : Int), (c : Int), (e : Int)]) ∨
  (k = 5 ∧ ((a = 1 ∧ 2 ≤ c ∧ c ≤ 9 ∧ f = [1, (c : Int)] ∧ u = [(c : Int), 0]) ∨ (c = 0 ∧ 2 ≤ a ∧ a ≤ 9 ∧ f = [(a : Int), 0] ∧ u = [1, (a : Int)])))
theorem RW_Pr {k : Int} {b : Nat} {f u : List Int} (hb : k = 5 → 10 ≤ (b : Int)) (h2 : 2 ≤ b) : (∃ a c, a < b ∧ c < b ∧ RW k b a c f u) ↔ Pr k b f u := by
  have nn : ∀ {z : Int}, Dg b z → ∃ n : Nat, n < b ∧ z = (n : Int) := fun {z} h => ⟨z.toNat, by unfold Dg at h; omega, by unfold Dg at h; omega⟩
  have dd : ∀ {n : Nat}, n < b → Dg b (n : Int) := fun {n} h => by unfold Dg; omega
  constructor
  · rintro ⟨a, c, ha, hc, ⟨rfl, hn, rfl, rfl⟩ | ⟨rfl, hn, rfl, rfl⟩ | ⟨rfl, e, he, hn, rfl, rfl⟩ | ⟨rfl, hn, rfl, rfl⟩ | ⟨rfl, e, he, hn, rfl, rfl⟩ | ⟨rfl, ⟨rfl, h3, h4, rfl, rfl⟩ | ⟨rfl, h3, h4, rfl, rfl⟩⟩⟩
    · exact .inl ⟨rfl, a, c, dd ha, dd hc, by omega, rfl, rfl⟩
    · exact .inr (.inl ⟨rfl, a, c, dd ha, dd hc, by omega, rfl, rfl⟩)
    · exact .inr (.inr (.inl ⟨rfl, a, c, e, dd ha, dd hc, dd he, by omega, rfl, rfl⟩))
    · exact .inr (.inr (.inr (.inl ⟨rfl, a, c, dd ha, dd hc, by omega, rfl, rfl⟩)))
    · exact .inr (.inr (.inr (.inr (.inl ⟨rfl, a, c, e, dd ha, dd hc, dd he, by omega, rfl, rfl⟩))))
    · exact .inr (.inr (.inr (.inr (.inr ⟨rfl, .inl ⟨c, by omega, by omega, rfl, rfl⟩⟩))))
    · exact .inr (.inr (.inr (.inr (.inr ⟨rfl, .inr ⟨a, by omega, by omega, rfl, rfl⟩⟩))))
  · rintro (⟨rfl, a, c, h1, h3, hn, rfl, rfl⟩ | ⟨rfl, a, c, h1, h3, hn, rfl, rfl⟩ | ⟨rfl, a, c, e, h1, h3, h4, hn, rfl, rfl⟩ | ⟨rfl, a, c, h1, h3, hn, rfl, rfl⟩ | ⟨rfl, a, c, e, h1, h3, h4, hn, rfl, rfl⟩ | ⟨rfl, ⟨c, h1, h3, rfl, rfl⟩ | ⟨a, h1, h3, rfl, rfl⟩⟩)
    · obtain ⟨a, ha, rfl⟩ := nn h1; obtain ⟨c, hc, rfl⟩ := nn h3
      exact ⟨a, c, ha, hc, .inl ⟨rfl, by omega, rfl, rfl⟩⟩
    · obtain ⟨a, ha, rfl⟩ := nn h1; obtain ⟨c, hc, rfl⟩ := nn h3
      exact ⟨a, c, ha, hc, .inr (.inl ⟨rfl, by omega, rfl, rfl⟩)⟩
    · obtain ⟨a, ha, rfl⟩ := nn h1; obtain ⟨c, hc, rfl⟩ := nn h3; obtain ⟨e, he, rfl⟩ := nn h4
      exact ⟨a, c, ha, hc, .inr (.inr (.inl ⟨rfl, e, he, by omega, rfl, rfl⟩))⟩
    · obtain ⟨a, ha, rfl⟩ := nn h1; obtain ⟨c, hc, rfl⟩ := nn h3
      exact ⟨a, c, ha, hc, .inr (.inr (.inr (.inl ⟨rfl, by omega, rfl, rfl⟩)))⟩
    · obtain ⟨a, ha, rfl⟩ := nn h1; obtain ⟨c, hc, rfl⟩ := nn h3; obtain ⟨e, he, rfl⟩ := nn h4
      exact ⟨a, c, ha, hc, .inr (.inr (.inr (.inr (.inl ⟨rfl, e, he, by omega, rfl, rfl⟩))))⟩
    · have := hb rfl
      exact ⟨1, c.toNat, by omega, by omega, .inr (.inr (.inr (.inr (.inr ⟨rfl, .inl ⟨rfl, by omega, by omega, by rw [show ((c.toNat : Nat) : Int) = c by omega], by rw [show ((c.toNat : Nat) : Int) = c by omega]⟩⟩))))⟩
    · have := hb rfl
      exact ⟨a.toNat, 0, by omega, by omega, .inr (.inr (.inr (.inr (.inr ⟨rfl, .inr ⟨rfl, by omega, by omega, by rw [show ((a.toNat : Nat) : Int) = a by omega], by rw [show ((a.toNat : Nat) : Int) = a by omega]⟩⟩))))⟩
end Go.Proofs.Ytgagjmnmfgfpfaa
