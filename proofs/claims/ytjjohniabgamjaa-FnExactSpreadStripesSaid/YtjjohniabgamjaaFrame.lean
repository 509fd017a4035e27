/- The arguments of a law, opened: what came in reads as lists: no condition. -/
import Derived.Test.YtjjohniabgamjaaRead
import Derived.ProofKit
import Derived.OpenShut
import Derived.Deep.Matrix
import Derived.SliceStrings
import Derived.Lib.SmallJoins
namespace Go.Proofs.Ytjjohniabgamjaa
open Go.ChangeShapes Go.WideShapes Go.ChangeAt Go.RowKit
section
variable {H : Type} {enc : TypeId × Value → H} {P : Program} {w : World} {base : Nat} {held : Bool}
theorem rk_of {k : IntKind} {a : Addr} {len cap : Nat} {zs : List Int} (hl : len ≤ zs.length) (hcell : ∀ i, i < zs.length → w.cell? (a.add i) = some (.int k (zs.getD i 0))) : RK k w (.slice (some a) len cap) (zs.take len) := by
  refine ⟨some a, cap, by simp [hl], fun j hj => ?_⟩
  simp only [List.length_map, List.length_take] at hj
  obtain ⟨b, off, rfl, hc⟩ := ints_at hcell (by omega)
  refine ⟨b, off, rfl, ?_⟩
  rw [hc j (by omega)]
  have h1 : j < zs.length := by omega
  have h2 : j < len := by omega
  simp [h1, h2]
theorem open_rk {t e : TypeId} {k : IntKind} {v : Value} {d : DataW H} {p : List MemPlace} (ht : P.underlying t = some (.slice e)) (he : P.underlying e = some (.int k)) (hc : P.cellsOf e = 1)
    (hv : ∃ a len cap, v = Value.slice a len cap) (h : DataW.Trod enc P w base (fun _ => true) held t v d p) : ∃ xs : List Int, RK k w v xs ∧ (∀ n ∈ xs, (Lit.int k n).wf = true) ∧ xs.length ≤ maxLen := by
  obtain ⟨a0, len0, cap0, rfl⟩ := hv
  obtain ⟨fuel, hf⟩ := h
  rcases open_ints ht he hc hf with ⟨hcs, _⟩ | ⟨x, l, c, zs, hcs, _, hl, hm, hz, _, hcell, hwz⟩
  · simp [Value.cells] at hcs
    obtain ⟨rfl, rfl, rfl⟩ := hcs
    exact ⟨[], RV.nil _ _ rfl _ _, by simp, by simp⟩
  · simp [Value.cells] at hcs
    obtain ⟨rfl, rfl, rfl⟩ := hcs
    have hz' : zs.length = cap0 := by simpa using hz
    exact ⟨zs.take len0, rk_of (by omega) hcell, fun n hn => hwz n (List.mem_of_mem_take hn), by rw [List.length_take]; omega⟩
end
end Go.Proofs.Ytjjohniabgamjaa
