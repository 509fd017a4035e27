/- Drawn words: l01Symbol, l01From, l06DrawWord, R8Word. -/
import Derived.Test.YtgagjmnmfgfpfaaDrA
import Derived.Test.YtgagjmnmfgfpfaaWof
namespace Go.Proofs.Ytgagjmnmfgfpfaa
open Go.RowKit

def DwPost (p m : Nat) (b : Int) (most : Nat) (w : World) (e : Ending) (w' : World) : Prop := ∃ xs : List Int, e = .returned (.string (wOf xs)) ∧ Hid (∀ z ∈ xs, 0 ≤ z ∧ z < b) ∧ xs.length ≤ most ∧ Src p (m + 1 + most) w' ∧ Chg [p] w w'
set_option maxHeartbeats 1000000 in
theorem drawWord_any (p m : Nat) (b : Int) (most : Nat) (w : World) (h : Src p m w) (hm : m ≤ 1000000) (hb : 2 ≤ b ∧ b ≤ 36) (hmo : most ≤ 100) :
    Calls Try.prog 51 #[.pointer (some ⟨p, 0, none⟩), .int .i64 b, .int .i64 most] w (DwPost p m b most w) := by
  have hpl := h.lt
  go_enter Try.func51, Try.ntmps51
  go_wp2_with fail
  have hb1 : Below w.heap.size w (w.alloc (.cells #[] 2)) := (Below.refl _ _).alloc (Nat.le_refl _) _
  have ho : OI w.heap.size (w.alloc (.cells #[] 2)) (.slice (some ⟨w.heap.size, 0, none⟩) 0 0) [] := OK.made _ _ _ (Nat.le_refl _)
  have hs := h.later hb1
  have hch : Chg [p] w (w.alloc (.cells #[] 2)) := (Below.chg hb1).mono (by simp)
  have hz1 := hb1.size
  clear hb1 h
  generalize w.alloc (.cells #[] 2) = w1 at *
  generalize Value.slice (some ⟨w.heap.size, 0, none⟩) 0 0 = v0 at *
  refine (pick_any p _ _ _ hs (by omega) (by omega)).mono ?_
  rintro e w2 ⟨z, rfl, hz, hs2, hc⟩
  obtain ⟨n, rfl⟩ := Int.eq_ofNat_of_zero_le hz.1
  replace ho := ho.chgP hc hpl
  have hz2 := hc.size
  replace hch := hch.trans hc
  have hn7 : n ≤ most := by omega
  clear hs hc hz
  go_wp2_with fail
  go_loopw [7, 8] (fun ov nv wr => ∃ (k : Nat) (xs : List Int), nv = .int .i64 k ∧ OI w.heap.size wr ov xs ∧ Hid (∀ z ∈ xs, 0 ≤ z ∧ z < b) ∧ xs.length + k ≤ most ∧ Src p (m + 1 + (most - k)) wr ∧ w.heap.size ≤ wr.heap.size ∧ Chg [p] w wr) (fun _ nv _ => (intOf nv).toNat)
  case atStart => exact ⟨n, [], rfl, ho, fun z hz => by simp at hz, by simp; omega, hs2.mono (by omega), by omega, hch⟩
  case round =>
    clear hs2 ho hch
    obtain ⟨k, xs, rfl, ho, HX, hlen, hs, hzr, hch⟩ := hrel
    by_cases hk : 0 < k
    · go_wp2_with fail
      refine (pick_any p _ b _ hs (by omega) (by omega)).mono ?_
      rintro e w3 ⟨z, rfl, hz, hs4, hc⟩
      replace ho := ho.chgP hc hpl
      have hz8 := hc.size
      replace hch := hch.trans hc
      clear hs hc
      have HX2 : Hid (∀ y ∈ xs ++ [z], 0 ≤ y ∧ y < b) := fun y hy => by
        rcases List.mem_append.1 hy with h | h
        · exact HX.out y h
        · have := List.mem_singleton.1 h; omega
      go_wp2_with (at_builtin; refine wpl_app_i64 rfl _ _ rfl w.heap.size _ _ rfl (ho.alloc _) _ _ _ rfl (World.cell?_alloc_at _ _ _ _ rfl) (by omega) (by simp; omega) ?_; intro v' w9 ho5 hgr)
      have hbs : Below w.heap.size w3 w9 := own_below ((Below.refl w.heap.size w3).alloc (by omega) _) (ho.alloc _) hgr (by simp; omega)
      have hs5 : Src p (m + 1 + (most - (k - 1))) w9 := (hs4.below hbs hpl).mono (by omega)
      have hz5 := hbs.size
      go_roundw
      case rel => exact ⟨k - 1, _, by rw [show ((k - 1 : Nat) : Int) = (k : Int) - 1 by omega], ho5, HX2, by simp; omega, hs5, by omega, chg_below hch (Nat.le_refl _) hbs⟩
      case measure => first | (simp [intOf]; done) | (simp [intOf]; omega)
    · go_wp2_with fail
      refine (l01From_any _ xs _ ho.read (fun z hz => by have := HX.out z hz; omega) (by omega)).mono ?_
      rintro e w3 ⟨rfl, hbf⟩
      go_wp2_with fail
      go_ret
      exact ⟨xs, rfl, HX, by omega, (hs.below hbf (by omega)).mono (by omega), chg_below hch hzr hbf⟩
def RwPost (b : Int) (most : Nat) (w : World) (e : Ending) (w' : World) : Prop := ∃ xs : List Int, e = .returned (.string (wOf xs)) ∧ Hid (∀ z ∈ xs, 0 ≤ z ∧ z < b) ∧ xs.length ≤ most ∧ Below w.heap.size w w'
theorem r8Word_any (v : Value) (cs : List Int) (b : Int) (most : Nat) (w : World) (hx : RK .u8 w v cs) (hw : ∀ x ∈ cs, (Lit.int .u8 x).wf = true) (hm : cs.length ≤ 1048576) (hb : 2 ≤ b ∧ b ≤ 36) (hmo : most ≤ 100) :
    Calls Try.prog 23 #[v, .int .i64 b, .int .i64 most] w (RwPost b most w) := by
  go_enter Try.func23, Try.ntmps23
  go_wp2_with fail
  refine (from_any v cs _ hx hw hm).mono ?_
  rintro e w1 ⟨rfl, hs, hb1⟩
  go_wp2_with fail
  refine (drawWord_any _ _ b most _ hs (by omega) hb hmo).mono ?_
  rintro e w2 ⟨xs, rfl, HX, hl, hs2, hc⟩
  go_wp2_with fail
  go_ret
  exact ⟨xs, rfl, HX, hl, hc.below hb1 (by simp) hb1.size⟩
end Go.Proofs.Ytgagjmnmfgfpfaa
