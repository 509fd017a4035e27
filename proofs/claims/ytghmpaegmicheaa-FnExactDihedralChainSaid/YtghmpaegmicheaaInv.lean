/- l01Inverse: the inverse of a permutation; B10Order. -/
import Derived.Test.YtghmpaegmicheaaPrm
namespace Go.Proofs.Ytghmpaegmicheaa
open Go.RowKit

/-- g undoes xs. -/
def Und (xs g : List Int) (k : Nat) : Prop := g.length = xs.length ∧ ∀ j, j < k → g.getD (xs.getD j 0).toNat 0 = (j : Int)
theorem Und.step {xs g : List Int} {k n : Nat} (h : Und xs g k) (hp : xs.Perm (upN n)) (hk : k < n) {z : Nat} (hz : (z : Int) = xs.getD k 0) : Und xs (g.set z (k : Int)) (k + 1) := by
  have hl := perm_len hp
  have hb := perm_bd hp hk
  refine ⟨by simp [h.1], fun j hj => ?_⟩
  by_cases e : j = k
  · subst e
    rw [← hz]
    simp only [Int.toNat_natCast]
    rw [List.getD_eq_getElem?_getD, List.getElem?_set, if_pos rfl, if_pos (by rw [h.1]; omega)]; rfl
  · have hbj := perm_bd hp (show j < n by omega)
    have hne : z ≠ (xs.getD j 0).toNat := fun he => e (perm_inj hp (by omega) hk (by omega))
    rw [List.getD_eq_getElem?_getD, List.getElem?_set, if_neg hne, ← List.getD_eq_getElem?_getD]
    exact h.2 j (by omega)
def InvPost (xs : List Int) (w : World) (e : Ending) (w' : World) : Prop := ∃ v' g, e = .returned v' ∧ OI w.heap.size w' v' g ∧ Und xs g xs.length ∧ Below w.heap.size w w'
set_option maxHeartbeats 1000000 in
theorem l01Inverse_any (v : Value) (xs : List Int) (w : World) (hx : RI w v xs) (hp : xs.Perm (upN xs.length)) (hm : xs.length ≤ 1048576) :
    Calls Try.prog 102 #[v] w (InvPost xs w) := by
  obtain ⟨a, c, rfl⟩ := hx.slice
  have HP := Lib.hid hp
  clear hp
  go_enter Try.func102, Try.ntmps102
  go_wp2_with (at_make; refine wpl_make_i64 rfl _ _ rfl w.heap.size .i64 .i64 _ _ xs.length rfl rfl rfl rfl (by omega) (Nat.le_refl _) ?_; intro w1 hown hgr hlt)
  have hb1 : Below w.heap.size w w1 := (Below.refl _ _).grown hgr (Nat.le_refl _) (by simp)
  clear hgr hlt
  go_loopw [4] (fun iv wr => ∃ (k : Nat) (g : List Int), k ≤ xs.length ∧ iv = .int .i64 k ∧ Hid (Und xs g k) ∧ OI w.heap.size wr (.slice (some ⟨w.heap.size, 0, none⟩) xs.length xs.length) g ∧ Below w.heap.size w wr) (fun iv _ => xs.length - (intOf iv).toNat)
  case atStart => exact ⟨0, List.replicate xs.length 0, Nat.zero_le _, rfl, ⟨by simp, fun j hj => by omega⟩, hown, hb1⟩
  case round =>
    obtain ⟨k, g, hk, rfl, HU, ho, hb⟩ := hrel
    clear hb1 hown
    by_cases hlt : k < xs.length
    · obtain ⟨gg, off, rfl, hg, hc⟩ := (hx.later hb).at k hlt
      have hbd := perm_bd HP.out hlt
      obtain ⟨z, hz⟩ := Int.eq_ofNat_of_zero_le hbd.1
      have HU2 := Lib.hid (HU.out.step HP.out hlt hz.symm)
      rw [hz] at hc hbd
      clear hz
      have hgl : g.length = xs.length := HU.out.1
      have hfz := ho.frozen z
      have hcz := ho.cell z (by omega)
      have HST := Lib.hid (ho.stored z (k : Int)).1
      have HB := Lib.hid (hb.setCell (p := ⟨w.heap.size, z, none⟩) (Nat.le_refl _) (.int .i64 (k : Int)))
      generalize g.getD z 0 = zz at hcz
      clear ho hb HU hgl
      have h1 := hbd.1
      have h2 := hbd.2
      go_wp2_with fail
      go_roundw
      case rel => exact ⟨k + 1, _, by omega, by go_num, HU2, HST.out, HB.out⟩
      case measure => first | (simp [intOf]; done) | (simp [intOf]; omega)
    · obtain rfl : k = xs.length := by omega
      go_wp2_with fail
      go_ret
      exact ⟨_, g, rfl, ho, HU.out, hb⟩

def OrdPost (n : Nat) (w : World) (e : Ending) (w' : World) : Prop := ∃ v' xs, e = .returned v' ∧ OI w.heap.size w' v' xs ∧ xs.Perm (upN n) ∧ Below w.heap.size w w'
theorem b10Order_any (v : Value) (cs : List Int) (n : Nat) (w : World) (hx : RK .u8 w v cs) (hw : ∀ x ∈ cs, (Lit.int .u8 x).wf = true) (hm : cs.length ≤ 1048576) (hn : 1 ≤ n ∧ n ≤ 200) :
    Calls Try.prog 26 #[v, .int .i64 n] w (OrdPost n w) := by
  go_enter Try.func26, Try.ntmps26
  go_wp2_with fail
  refine (from_any v cs _ hx hw hm).mono ?_
  rintro e w1 ⟨rfl, hs, hb⟩
  go_wp2_with fail
  refine (drawOrder_any _ _ n _ hs (by omega) hn).mono ?_
  rintro e w2 ⟨v', xs, rfl, ho, hp, hs2, hc⟩
  go_wp2_with fail
  go_ret
  exact ⟨_, xs, rfl, ho.mono hb.size, hp, hc.below hb (by simp) hb.size⟩
end Go.Proofs.Ytghmpaegmicheaa
