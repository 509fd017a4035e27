/- The laws of IsCommutative and CentreOf: for all arguments. -/
import Derived.Test.YtghmpaegmicheaaGrpZ
namespace Go.Proofs.Ytghmpaegmicheaa
open Go.RowKit


def comB (x : List (List Int)) : Bool := grpB x && decide ((cenL x).length = x.length)
set_option maxHeartbeats 1000000 in
theorem implCom_any (v : Value) (x : List (List Int)) (w : World) (hx : RT w v x) (hm : x.length ≤ 1048576) (hr : Small x) :
    Calls Try.prog 27 #[.agg #[v]] w fun e w' => e = .returned (.bool (comB x)) ∧ Below w.heap.size w w' := by
  have HC : Hid (comB x = (grpB x && decide ((cenL x).length = x.length))) := rfl
  have HE : Hid (grpB x = true → cenS x = cenL x) := fun h => by unfold cenS; rw [if_pos h]
  have hl := cenP_len x x.length
  obtain ⟨a, c, rfl⟩ := hx.slice
  have hb : Below w.heap.size w (w.alloc (.cells #[.slice a x.length c] 29)) := (Below.refl _ _).alloc (Nat.le_refl _) _
  have c0 : (w.alloc (.cells #[.slice a x.length c] 29)).cell? ⟨w.heap.size, 0, none⟩ = some (.slice a x.length c) := World.cell?_alloc_at _ _ _ _ rfl
  have hlt : w.heap.size < (w.alloc (.cells #[.slice a x.length c] 29)).heap.size := by simp
  replace hx := hx.later hb
  go_enter Try.func27, Try.ntmps27
  go_wp2_with fail
  generalize w.alloc (.cells #[.slice a x.length c] 29) = w0 at *
  refine (implCen_any _ x _ hx hm hr).mono ?_
  rintro e w1 ⟨v1, rfl, ho, hb1⟩
  obtain ⟨oa, oc, rfl⟩ := ho.slice
  replace c0 := (hb1.cell (p := ⟨w.heap.size, 0, none⟩) hlt).trans c0
  replace hx := hx.later hb1
  replace hb := hb.trans (hb1.mono (Nat.le_of_lt hlt))
  replace hlt := Nat.lt_of_lt_of_le hlt hb1.size
  clear hb1
  cases hg : grpB x
  · rw [hg] at HC
    clear hg
    go_wp2_with fail
    go_ret
    exact ⟨ret_bool (by rw [HC.out]; rfl), hb⟩
  · rw [hg] at HC
    rw [HE.out hg]
    clear hg
    by_cases h : (cenL x).length = x.length
    · have b1 : (((cenL x).length : Int) == (x.length : Int)) = true := by simp [h]
      rw [decide_eq_true h] at HC
      clear h
      go_wp2_with fail
      go_ret
      exact ⟨ret_bool (by rw [HC.out]; rfl), hb⟩
    · have b1 : (((cenL x).length : Int) == (x.length : Int)) = false := by simp; omega
      rw [decide_eq_false h] at HC
      clear h
      go_wp2_with fail
      go_ret
      exact ⟨ret_bool (by rw [HC.out]; rfl), hb⟩
end Go.Proofs.Ytghmpaegmicheaa
