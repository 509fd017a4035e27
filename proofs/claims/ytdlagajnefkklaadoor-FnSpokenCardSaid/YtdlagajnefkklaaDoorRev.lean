/- slices.Reverse at texts: what the slice reads as afterwards. -/
import Derived.Test.YtdlagajnefkklaaDoorGwM
import Derived.Test.YtdlagajnefkklaaDoorShRev
import Derived.Laws.IdiomCopy
namespace Go.Proofs.YtdlagajnefkklaaDoor
open Go.RowKit

theorem below_cells {B : Nat} {a : World} (b : Nat) (hb : B ≤ b) : ∀ (vs : List Value) (o : Nat) {w : World}, Below B a w → Below B a (w.setCells b o vs)
  | [], _, _, h => h
  | v :: r, o, _, h => below_cells b hb r (o + 1) (h.setCell (p := ⟨b, o, none⟩) hb v)
theorem revS_any (v : Value) (l : List ByteArray) (B : Nat) (w : World) (ho : OS B w v l) (hl : 1 ≤ l.length) (hm : l.length ≤ 1048576) :
    Calls Tryd.prog 38 #[v] w fun e w' => e = .returned (.tuple #[]) ∧ RS w' v l.reverse ∧ Below B w w' := by
  have hr := ho.read
  have hcap0 := OV.capOk ho
  have hls := ss_length l
  rcases OV.shape ho with ⟨_, e⟩ | ⟨g, cap, rfl, hB, hg⟩
  · have := congrArg List.length e
    rw [hls, List.length_nil] at this
    omega
  rw [hls]
  have hc : ∀ i, i < l.length → w.cell? ⟨g, 0 + i, none⟩ = some (.string (sAt l i)) := fun i hi => by
    have := OV.cell ho i (by rw [hls]; exact hi)
    rw [Nat.zero_add, this]
    simp [ss, hi]
  have hf : ∀ j, j < l.length → w.frozen? ⟨g, 0 + j, none⟩ = false := fun j hj => by rw [Nat.zero_add]; exact OV.frozen ho j
  have hcap := hcap0 _ _ _ rfl
  rw [hls] at hcap
  refine (sh_slices_Reverse_string_cells g 0 l.length cap (sAt l) w (by omega) hc hf).mono ?_
  rintro e w' ⟨rfl, q, rfl⟩
  have hlen : ((Lib.strsOf (sAt l) l.length).reverse.map encStr).length = l.length := by simp [Lib.strsOf]
  refine ⟨rfl, ?_, below_cells g hB _ _ (below_drewN (Below.refl B w) q)⟩
  refine ⟨some ⟨g, 0, none⟩, cap, by simp [ss], by simp [ss]; exact hcap, fun j hj => ⟨g, 0, rfl, ?_⟩⟩
  have hj' : j < l.length := by simpa [ss] using hj
  rw [World.cell?_setCells_in g _ 0 _ (fun i hi => by
    rw [hlen] at hi
    have := hc i hi
    have h2 : (w.drewN q).cell? ⟨g, 0 + i, none⟩ = w.cell? ⟨g, 0 + i, none⟩ := rfl
    rw [h2, this]; rfl) j (by rw [hlen]; exact hj')]
  simp only [ss, List.getElem_map, List.getElem_reverse, Lib.strsOf, List.getElem?_map, List.map_reverse]
  have h3 : l.length - 1 - j < l.length := by omega
  simp [hj', sAt, h3]
end Go.Proofs.YtdlagajnefkklaaDoor
