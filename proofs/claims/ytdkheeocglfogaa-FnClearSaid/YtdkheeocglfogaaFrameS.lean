/- The arguments of a law, opened: likenesses and barcodes: no condition. -/
import Derived.Test.YtdkheeocglfogaaFrame
import Derived.Test.YtdkheeocglfogaaStrs
namespace Go.Proofs.Ytdkheeocglfogaa
open Go.Joins Go.Deep
open Go.ChangeShapes Go.WideShapes Go.ChangeAt Go.RowKit
section
variable {H : Type} {enc : TypeId × Value → H} {P : Program} {w : World} {base : Nat} {held : Bool}
/-- A slice of texts: what is known of it. -/
def RSM (w : World) (v : Value) (l : List ByteArray) : Prop := RS w v l ∧ l.length ≤ maxLen ∧ ∀ k, k < l.length → (sAt l k).size ≤ maxLen
theorem open_rsF {t e : TypeId} {fuel : Nat} {v : Value} {y : DataW H × List MemPlace} (ht : P.underlying t = some (.slice e)) (he : P.underlying e = some .string) (hc : P.cellsOf e = 1)
    (hf : DataW.trod enc P w base (fun _ => true) held fuel t [v] = some y) : ∃ l : List ByteArray, RSM w v l := by
  rcases open_strings ht he hc hf with ⟨hcs, _⟩ | ⟨x, l, c, zs, hcs, _, hl, hm, hz, _, hcell, hwz⟩
  · simp at hcs
    subst hcs
    exact ⟨[], RV.nil _ _ _ (by simp), by simp, by simp⟩
  · simp at hcs
    subst hcs
    have hz' : zs.length = c := by simpa using hz
    refine ⟨zs.take l, rs_of (by omega) ⟨hl, hm⟩ hcell, by rw [List.length_take]; omega, fun k hk => ?_⟩
    rw [List.length_take] at hk
    refine hwz _ ?_
    have h1 : k < zs.length := by omega
    have h2 : k < l := by omega
    have : sAt (zs.take l) k = zs[k] := by simp [h1, h2]
    rw [this]; simp
theorem open_likeness {r : Reach} {b0 : Nat} {t e : TypeId} {f0 f1 : Field} {v : Value} {d : DataW H} {p : List MemPlace} (hs : P.underlying t = some (.struct #[f0, f1])) (hone : oneCellFields P #[f0, f1] = true) (hC : P.cellsOf t = 2)
    (h0 : P.underlying f0.type = some .string) (h1 : P.underlying f1.type = some (.slice e)) (he : P.underlying e = some .string) (hc : P.cellsOf e = 1) (hv : Value.okWide P w r b0 t v) (h : DataW.Trod enc P w base (fun _ => true) held t v d p) :
    ∃ (s : ByteArray) (a : Value) (l : List ByteArray), v = .agg #[.string s, a] ∧ s.size ≤ maxLen ∧ RSM w a l := by
  obtain ⟨v0, v1, y0, y1, n, rfl, _, _, k0, k1⟩ := open_agg2 hs hone hC hv h
  obtain ⟨s, rfl, hs⟩ := open_str h0 k0
  obtain ⟨l, hl⟩ := open_rsF h1 he hc k1
  exact ⟨s, v1, l, rfl, hs, hl⟩
theorem open_barcode {r : Reach} {b0 : Nat} {t e : TypeId} {f0 f1 f2 f3 : Field} {v : Value} {d : DataW H} {p : List MemPlace} (hs : P.underlying t = some (.struct #[f0, f1, f2, f3])) (hone : oneCellFields P #[f0, f1, f2, f3] = true) (hC : P.cellsOf t = 4)
    (h0 : P.underlying f0.type = some .string) (h1 : P.underlying f1.type = some .string) (h2 : P.underlying f2.type = some (.slice e)) (he : P.underlying e = some .string) (hc : P.cellsOf e = 1) (h3 : P.underlying f3.type = some (.int .i64))
    (hv : Value.okWide P w r b0 t v) (h : DataW.Trod enc P w base (fun _ => true) held t v d p) :
    ∃ (s r : ByteArray) (a : Value) (l : List ByteArray) (g : Int), v = .agg #[.string s, .string r, a, .int .i64 g] ∧ s.size ≤ maxLen ∧ r.size ≤ maxLen ∧ RSM w a l ∧ (Lit.int .i64 g).wf = true := by
  obtain ⟨v0, v1, v2, v3, y0, y1, y2, y3, n, rfl, _, _, k0, k1, k2, k3⟩ := open_agg4 hs hone hC hv h
  obtain ⟨s, rfl, hs⟩ := open_str h0 k0
  obtain ⟨q, rfl, hq⟩ := open_str h1 k1
  obtain ⟨l, hl⟩ := open_rsF h2 he hc k2
  obtain ⟨g, h4, _, h5⟩ := DataW.trod_int h3 k3
  simp at h4
  subst h4
  exact ⟨s, q, v2, l, g, rfl, hs, hq, hl, h5⟩
end
end Go.Proofs.Ytdkheeocglfogaa
