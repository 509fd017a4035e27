/- The arguments of a law, opened: what came in reads as lists: no condition. -/
import Derived.Test.YthcnhkjiojeemaaMat
import Derived.Test.YthcnhkjiojeemaaRead
import Derived.ProofKit
import Derived.OpenShut
import Derived.Deep.Matrix
import Derived.SliceStrings
import Derived.Lib.SmallJoins
namespace Go.Proofs.Ythcnhkjiojeemaa
open Go.Joins Go.Deep
open Go.ChangeShapes Go.WideShapes Go.ChangeAt Go.RowKit
section
variable {H : Type} {enc : TypeId × Value → H} {P : Program} {w : World} {base : Nat} {held : Bool}
theorem rk_of {k : IntKind} {a : Addr} {len cap : Nat} {zs : List Int} (hl : len ≤ zs.length) (hcap : len ≤ cap ∧ cap ≤ maxLen) (hcell : ∀ i, i < zs.length → w.cell? (a.add i) = some (.int k (zs.getD i 0))) : RK k w (.slice (some a) len cap) (zs.take len) := by
  refine ⟨some a, cap, by simp [hl], by simp; omega, fun j hj => ?_⟩
  simp only [List.length_map, List.length_take] at hj
  obtain ⟨b, off, rfl, hc⟩ := ints_at hcell (by omega)
  refine ⟨b, off, rfl, ?_⟩
  rw [hc j (by omega)]
  have h1 : j < zs.length := by omega
  have h2 : j < len := by omega
  simp [h1, h2]
theorem open_rk {t e : TypeId} {k : IntKind} {v : Value} {d : DataW H} {p : List MemPlace} (ht : P.underlying t = some (.slice e)) (he : P.underlying e = some (.int k)) (hc : P.cellsOf e = 1)
    (hv : ∃ a len cap, v = Value.slice a len cap) (h : DataW.Trod enc P w base (fun _ => true) held t v d p) : ∃ xs : List Int, RK k w v xs ∧ (∀ n ∈ xs, (Lit.int k n).wf = true) ∧ xs.length ≤ maxLen := by
  obtain ⟨a0, len0, cap0, rfl⟩ := hv
  obtain ⟨fuel, hf⟩ := h
  rcases open_ints ht he hc hf with ⟨hcs, _⟩ | ⟨x, l, c, zs, hcs, _, hl, hm, hz, _, hcell, hwz⟩
  · simp [Value.cells] at hcs
    obtain ⟨rfl, rfl, rfl⟩ := hcs
    exact ⟨[], RV.nil _ _ _ (by simp), by simp, by simp⟩
  · simp [Value.cells] at hcs
    obtain ⟨rfl, rfl, rfl⟩ := hcs
    have hz' : zs.length = cap0 := by simpa using hz
    exact ⟨zs.take len0, rk_of (by omega) ⟨hl, hm⟩ hcell, fun n hn => hwz n (List.mem_of_mem_take hn), by rw [List.length_take]; omega⟩
theorem open_rtF {t e q : TypeId} {fuel : Nat} {v : Value} {y : DataW H × List MemPlace} (ht : P.underlying t = some (.slice e)) (he : P.underlying e = some (.slice q)) (hq : P.underlying q = some (.int .i64))
    (ce : P.cellsOf e = 1) (cq : P.cellsOf q = 1) (h : DataW.trod enc P w base (fun _ => true) held fuel t [v] = some y) : ∃ x : List (List Int), RT w v x := by
  rcases open_int_rows ht he hq ce cq h with ⟨hcs, _⟩ | ⟨a, len, cap, A, L, C, Z, hcs, _, hl, hm, _, hr⟩
  · simp at hcs
    subst hcs
    exact ⟨[], [], RV.nil _ _ _ (by simp), rfl, fun j hj => by simp at hj⟩
  · simp at hcs
    subst hcs
    refine ⟨(List.range len).map fun r => (Z r).take (L r), (List.range len).map fun r => .slice (A r) (L r) (C r), ⟨some a, cap, by simp, by simp; omega, fun j hj => ?_⟩, by simp, fun j hj => ?_⟩
    · simp only [List.length_map, List.length_range] at hj
      obtain ⟨b, off, spot⟩ := a
      have h0 := (hr j (by omega)).1
      have hspot : spot = none := by simpa [Addr.add] using World.cell?_spot (hr 0 (by omega)).1
      subst hspot
      refine ⟨b, off, rfl, ?_⟩
      rw [← Go.WideShapes.add_plain, h0]
      simp [hj]
    · simp only [List.length_map, List.length_range] at hj
      obtain ⟨_, h1, h2, h3, _, h5, h6⟩ := hr j (by omega)
      have e1 : ((List.range len).map fun r => Value.slice (A r) (L r) (C r)).getD j nl = .slice (A j) (L j) (C j) := by simp [hj]
      have e2 : rowAt ((List.range len).map fun r => (Z r).take (L r)) j = (Z j).take (L j) := by
        rw [rowAt_lt (by simpa using hj)]; simp
      rw [e1, e2]
      cases hA : A j with
      | none =>
        have hC := h5 hA
        have hL : L j = 0 := by omega
        rw [hL, hC, List.take_zero]
        exact RV.nil _ _ _ (by simp)
      | some a' =>
        exact rk_of (by omega) ⟨h1, h2⟩ fun i hi => (h6 a' hA).2 i (by omega)
theorem open_rt {t e q : TypeId} {v : Value} {d : DataW H} {p : List MemPlace} (ht : P.underlying t = some (.slice e)) (he : P.underlying e = some (.slice q)) (hq : P.underlying q = some (.int .i64))
    (ce : P.cellsOf e = 1) (cq : P.cellsOf q = 1) (hv : ∃ a len cap, v = Value.slice a len cap) (h : DataW.Trod enc P w base (fun _ => true) held t v d p) : ∃ x : List (List Int), RT w v x := by
  obtain ⟨a0, len0, cap0, rfl⟩ := hv
  obtain ⟨fuel, hf⟩ := h
  exact open_rtF ht he hq ce cq hf
theorem array1 {α : Type} {cs : Array α} (h : cs.size = 1) : ∃ c0, cs = #[c0] := by
  obtain ⟨l⟩ := cs
  match l, h with
  | [c0], _ => exact ⟨c0, rfl⟩
theorem open_group {r : Reach} {b0 : Nat} {t e q g : TypeId} {f0 : Field} {v : Value} {d : DataW H} {p : List MemPlace} (hs : P.underlying t = some (.struct #[f0])) (hone : oneCellFields P #[f0] = true) (hC : P.cellsOf t = 1)
    (hg : f0.type = g) (ht : P.underlying g = some (.slice e)) (he : P.underlying e = some (.slice q)) (hq : P.underlying q = some (.int .i64)) (ce : P.cellsOf e = 1) (cq : P.cellsOf q = 1)
    (hv : Value.okWide P w r b0 t v) (h : DataW.Trod enc P w base (fun _ => true) held t v d p) : ∃ (a : Value) (x : List (List Int)), v = .agg #[a] ∧ RT w a x := by
  obtain ⟨cs, rfl, hsz⟩ := okWide_struct hs hv
  obtain ⟨c0, rfl⟩ := array1 (hsz.trans hC)
  obtain ⟨fuel, hf⟩ := h
  obtain ⟨y0, n, _, _, h0⟩ := trod_struct1 hs hf
  obtain ⟨o0, k0⟩ := hone_of hone 0 f0 rfl
  subst hg
  obtain ⟨x, hx⟩ := open_rtF ht he hq ce cq (v := c0) (by simpa [Value.cells, o0, k0] using h0)
  exact ⟨c0, x, rfl, hx⟩
theorem open_str {t : TypeId} {v : Value} {y : DataW H × List MemPlace} {n : Nat} (ht : P.underlying t = some .string) (h : DataW.trod enc P w base (fun _ => true) held n t [v] = some y) : ∃ s : ByteArray, v = .string s ∧ s.size ≤ maxLen := by
  obtain ⟨s, h1, _, h2⟩ := DataW.trod_string ht h
  simp at h1
  exact ⟨s, h1, h2⟩
theorem open_speech {r : Reach} {b0 : Nat} {t : TypeId} {f0 f1 : Field} {v : Value} {d : DataW H} {p : List MemPlace} (hs : P.underlying t = some (.struct #[f0, f1])) (hone : oneCellFields P #[f0, f1] = true) (hC : P.cellsOf t = 2)
    (h0 : P.underlying f0.type = some .string) (h1 : P.underlying f1.type = some .string) (hv : Value.okWide P w r b0 t v) (h : DataW.Trod enc P w base (fun _ => true) held t v d p) :
    ∃ a b : ByteArray, v = .agg #[.string a, .string b] ∧ a.size ≤ maxLen ∧ b.size ≤ maxLen := by
  obtain ⟨v0, v1, y0, y1, n, rfl, _, _, k0, k1⟩ := open_agg2 hs hone hC hv h
  obtain ⟨a, rfl, ha⟩ := open_str h0 k0
  obtain ⟨b, rfl, hb⟩ := open_str h1 k1
  exact ⟨a, b, rfl, ha, hb⟩
end
end Go.Proofs.Ythcnhkjiojeemaa
