/- Drawn things, for all seats: among, text; texts of numbers; changes of the source alone. -/
import Derived.Test.YtdkheeocglfogaaFrom
import Derived.Test.YtdkheeocglfogaaLibB
import Derived.Test.YtdkheeocglfogaaBytesM
namespace Go.Proofs.Ytdkheeocglfogaa
open Go.RowKit

theorem str_bz {xs : List Int} (h : ∀ z ∈ xs, 0 ≤ z ∧ z ≤ 255) : bz (strOfNums xs) = xs := by
  have e : (strOfNums xs).data.toList = xs.map fun n => UInt8.ofNat n.toNat := by unfold strOfNums; simp
  unfold bz
  rw [e, List.map_map]
  have : ∀ l : List Int, (∀ z ∈ l, 0 ≤ z ∧ z ≤ 255) → l.map ((fun b : UInt8 => (b.toNat : Int)) ∘ fun n => UInt8.ofNat n.toNat) = l := by
    intro l
    induction l with
    | nil => intro _; rfl
    | cons a l ih =>
      intro hl
      rw [List.map_cons, ih fun z hz => hl z (by simp [hz])]
      have := hl a (by simp)
      congr 1
      show ((UInt8.ofNat a.toNat).toNat : Int) = a
      rw [UInt8.toNat_ofNat']
      omega
  exact this xs h
theorem str_size (xs : List Int) : (strOfNums xs).size = xs.length := strOfNums_size xs
theorem OK.chgP {T : TypeId} {k : IntKind} {B p : Nat} {w w' : World} {v : Value} {xs : List Int} (h : OK T k B w v xs) (hc : Chg [p] w w') (hp : p < B) : OK T k B w' v xs :=
  h.chg hc fun b hb hm => by
    have := h.vb b hb
    simp at hm
    omega
theorem chg_below {p : Nat} {w0 w w' : World} {S : Nat} (hc : Chg [p] w0 w) (hS : w0.heap.size ≤ S) (hb : Below S w w') : Chg [p] w0 w' := by
  refine ⟨hb.os.trans hc.os, hb.tape.trans hc.tape, hb.output.trans hc.output, Nat.le_trans hc.size hb.size, fun k hk hn => ?_⟩
  rw [hb.block k (by omega)]
  exact hc.block k hk hn
end Go.Proofs.Ytdkheeocglfogaa
