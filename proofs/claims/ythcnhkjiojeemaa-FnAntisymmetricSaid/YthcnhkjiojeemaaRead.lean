/- What it means that a value reads as a list of integers, of strings, of lists of integers: no condition. -/
import Derived.Test.YthcnhkjiojeemaaLib
namespace Go.Proofs.Ythcnhkjiojeemaa
open Go.RowKit

/-- v is a slice whose elements (of one cell each) read as cs. -/
def RV (w : World) (v : Value) (cs : List Value) : Prop :=
  ∃ a cap, v = .slice a cs.length cap ∧ (cs.length ≤ cap ∧ cap ≤ maxLen) ∧ ∀ j, j < cs.length → ∃ g off, a = some ⟨g, off, none⟩ ∧ w.cell? ⟨g, off + j, none⟩ = cs[j]?
def RK (k : IntKind) (w : World) (v : Value) (xs : List Int) : Prop := RV w v (xs.map (Value.int k))
abbrev RI := RK .i64

section
variable {w : World} {v : Value} {cs : List Value}
theorem RV.slice (h : RV w v cs) : ∃ a cap, v = .slice a cs.length cap := let ⟨a, cap, h, _⟩ := h; ⟨a, cap, h⟩
theorem RV.at {a : Option Addr} {n cap : Nat} (h : RV w (.slice a n cap) cs) (j : Nat) (hj : j < cs.length) : ∃ g off, a = some ⟨g, off, none⟩ ∧ g < w.heap.size ∧ w.cell? ⟨g, off + j, none⟩ = cs[j]? := by
  obtain ⟨a', cap', he, _, hc⟩ := h
  simp only [Value.slice.injEq] at he
  obtain ⟨rfl, rfl, rfl⟩ := he
  obtain ⟨g, off, h1, h2⟩ := hc j hj
  refine ⟨g, off, h1, ?_, h2⟩
  rw [List.getElem?_eq_getElem hj] at h2
  exact World.block_lt_of_cell? w _ h2
theorem RV.len {a : Option Addr} {n cap : Nat} (h : RV w (.slice a n cap) cs) : n = cs.length := by
  obtain ⟨a', cap', he, _⟩ := h
  simp only [Value.slice.injEq] at he; exact he.2.1
theorem RV.cap {a : Option Addr} {n cap : Nat} (h : RV w (.slice a n cap) cs) : cs.length ≤ cap ∧ cap ≤ maxLen := by
  obtain ⟨a', cap', he, hc, _⟩ := h
  simp only [Value.slice.injEq] at he
  obtain ⟨rfl, rfl, rfl⟩ := he
  exact hc
theorem RV.later {w' : World} (h : RV w v cs) (hb : Below w.heap.size w w') : RV w' v cs := by
  obtain ⟨a, cap, rfl, hcap, hc⟩ := h
  refine ⟨a, cap, rfl, hcap, fun j hj => ?_⟩
  obtain ⟨g, off, h1, h2⟩ := hc j hj
  refine ⟨g, off, h1, ?_⟩
  have hlt : g < w.heap.size := by
    rw [List.getElem?_eq_getElem hj] at h2
    exact World.block_lt_of_cell? w _ h2
  rw [hb.cell (p := ⟨g, off + j, none⟩) hlt]; exact h2
theorem OV.read {T : TypeId} {B : Nat} (h : OV T B w v cs) : RV w v cs := by
  have hcap := h.capOk
  obtain ⟨a, cap, rfl⟩ := h.slice
  refine ⟨a, cap, rfl, hcap _ _ _ rfl, fun j hj => ?_⟩
  obtain ⟨g, h1, _, h2⟩ := h.at j hj
  exact ⟨g, 0, h1, by simpa using h2⟩
theorem RV.nil (w : World) (a : Option Addr) (cap : Nat) (h : cap ≤ maxLen) : RV w (.slice a 0 cap) [] := ⟨a, cap, rfl, ⟨Nat.zero_le _, h⟩, fun j hj => by simp at hj⟩
end
section
variable {k : IntKind} {w : World} {v : Value} {xs : List Int}
theorem RK.slice (h : RK k w v xs) : ∃ a cap, v = .slice a xs.length cap := by simpa using RV.slice h
theorem RK.at {a : Option Addr} {n cap : Nat} (h : RK k w (.slice a n cap) xs) (j : Nat) (hj : j < xs.length) : ∃ g off, a = some ⟨g, off, none⟩ ∧ g < w.heap.size ∧ w.cell? ⟨g, off + j, none⟩ = some (.int k (xs.getD j 0)) := by
  obtain ⟨g, off, h1, h2, h3⟩ := RV.at h j (by simpa using hj)
  exact ⟨g, off, h1, h2, by rw [h3]; simp [hj]⟩
theorem RK.cap {a : Option Addr} {n cap : Nat} (h : RK k w (.slice a n cap) xs) : xs.length ≤ cap ∧ cap ≤ maxLen := by simpa using RV.cap h
theorem RK.take {a : Option Addr} {n cap : Nat} (h : RK k w (.slice a n cap) xs) (j : Nat) (hj : j ≤ xs.length) : RK k w (.slice a j cap) (xs.take j) := by
  refine ⟨a, cap, by simp [hj], by have := h.cap; simp; omega, fun i hi => ?_⟩
  have hi' : i < j ∧ i < xs.length := by simp at hi; omega
  obtain ⟨g, off, h1, _, h3⟩ := h.at i (by omega)
  refine ⟨g, off, h1, ?_⟩
  rw [h3]; simp [hi'.1, hi'.2]
theorem RK.len {a : Option Addr} {n cap : Nat} (h : RK k w (.slice a n cap) xs) : n = xs.length := by simpa using RV.len h
theorem RK.later {w' : World} (h : RK k w v xs) (hb : Below w.heap.size w w') : RK k w' v xs := RV.later h hb
theorem OK.read {T : TypeId} {B : Nat} (h : OK T k B w v xs) : RK k w v xs := OV.read h
end
end Go.Proofs.Ythcnhkjiojeemaa
