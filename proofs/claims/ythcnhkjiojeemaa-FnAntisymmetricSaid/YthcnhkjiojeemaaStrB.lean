/- Texts of numbers: plain facts. -/
import Derived.Test.YthcnhkjiojeemaaLibB
import Derived.Test.YthcnhkjiojeemaaBytesM
namespace Go.Proofs.Ythcnhkjiojeemaa
open Go.RowKit

theorem str_bz {xs : List Int} (h : ∀ z ∈ xs, 0 ≤ z ∧ z ≤ 255) : bz (strOfNums xs) = xs := by
  have e : (strOfNums xs).data.toList = xs.map fun n => UInt8.ofNat n.toNat := by unfold strOfNums; simp
  unfold bz
  rw [e, List.map_map]
  have : ∀ l : List Int, (∀ z ∈ l, 0 ≤ z ∧ z ≤ 255) → l.map ((fun b : UInt8 => (b.toNat : Int)) ∘ fun n => UInt8.ofNat n.toNat) = l := by
    intro l
    induction l with
    | nil => intro _; rfl
    | cons a l ih =>
      intro hl
      rw [List.map_cons, ih fun z hz => hl z (by simp [hz])]
      have := hl a (by simp)
      congr 1
      show ((UInt8.ofNat a.toNat).toNat : Int) = a
      rw [UInt8.toNat_ofNat']
      omega
  exact this xs h
theorem str_size (xs : List Int) : (strOfNums xs).size = xs.length := strOfNums_size xs
end Go.Proofs.Ythcnhkjiojeemaa
