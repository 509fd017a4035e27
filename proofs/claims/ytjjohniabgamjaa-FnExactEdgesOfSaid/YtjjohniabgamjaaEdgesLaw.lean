/- The program's and the reference's EdgesOf return the same, in new memory: for all arguments. -/
import Derived.Test.YtjjohniabgamjaaWidths2
import Derived.Test.YtjjohniabgamjaaEdges
namespace Go.Proofs.Ytjjohniabgamjaa
open Go.RowKit

def edR (p : ByteArray) : List Int := if pok p then edgeL (pw p) ((pw p).length - 1) else []
theorem edR_len (p : ByteArray) : (edR p).length ≤ 20 := by
  unfold edR
  split
  · rename_i h
    have := pok_size h
    rw [edgeL_len, pw_len]; omega
  · simp
def EdPost (p : ByteArray) (w : World) (e : Ending) (w' : World) : Prop :=
  ∃ v, e = .returned (.tuple #[v, .bool (pok p)]) ∧ OI w.heap.size w' v (edR p) ∧ Below w.heap.size w w'
theorem EdPost.mk {p : ByteArray} {w w' : World} {v : Value} {b : Bool} (hp : pok p = b) (h1 : OI w.heap.size w' v (edR p)) (h3 : Below w.heap.size w w') : EdPost p w (.returned (.tuple #[v, .bool b])) w' := ⟨v, by rw [hp], h1, h3⟩

set_option maxHeartbeats 1000000 in
theorem implEdges_any (p : ByteArray) (w : World) (hp : p.size ≤ 1048576) :
    Calls Try.prog 27 #[.string p] w (EdPost p w) := by
  go_enter Try.func27, Try.ntmps27
  go_wp2_with fail
  refine (widthsOf_any p _ hp).mono ?_
  rintro e w1 ⟨v1, xs, rfl, h1, H1, hb1⟩
  by_cases p1 : pok p = true
  · obtain rfl := H1.out p1
    have hr : Hid (edR p = edgeL (pw p) ((pw p).length - 1)) := by simp [Hid, edR, p1]
    go_wp2_with (go_at_call 51; refine (edges_any _ _ _ h1.read (fun x hx => by have := pw_in p (pok_okB p1) x hx; omega) (by rw [pw_len]; exact hp)).mono ?_; rintro e w2 ⟨v2, rfl, h2, hb2⟩)
    go_ret2
    exact EdPost.mk p1 (by rw [hr.out]; exact h2.mono hb1.size) (later3 hb1 hb2 hb1.size)
  · simp only [Bool.not_eq_true] at p1
    have hr : Hid (edR p = []) := by simp [Hid, edR, p1]
    go_wp2_with fail
    go_ret2
    exact EdPost.mk p1 (by rw [hr.out]; exact OK.nil _ _ _ _) hb1
set_option maxHeartbeats 1000000 in
theorem specEdges_any (p : ByteArray) (w : World) (hp : p.size ≤ 1048576) :
    Calls Try.prog 26 #[.string p] w (EdPost p w) := by
  by_cases p1 : pok p = true
  · have hr : Hid (edR p = edgeL (pw p) ((pw p).length - 1)) := by simp [Hid, edR, p1]
    go_enter Try.func26, Try.ntmps26
    go_wp2_with (first | (go_at_call 40; refine (l08Pattern_any _ _ hp).mono ?_; rintro e w' ⟨rfl, rfl⟩) | (go_at_call 50; refine (l08Elements_any p _ hp (pok_okB p1)).mono ?_; rintro e w1 ⟨v1, rfl, h1, hb1⟩) | (go_at_call 49; refine (l08Edges_any _ _ _ h1.read (fun x hx => by have := pw_in p (pok_okB p1) x hx; omega) (by rw [pw_len]; exact hp)).mono ?_; rintro e w2 ⟨v2, rfl, h2, hb2⟩))
    go_ret2
    exact EdPost.mk p1 (by rw [hr.out]; exact h2.mono hb1.size) (later3 hb1 hb2 hb1.size)
  · simp only [Bool.not_eq_true] at p1
    have hr : Hid (edR p = []) := by simp [Hid, edR, p1]
    go_enter Try.func26, Try.ntmps26
    go_wp2_with (go_at_call 40; refine (l08Pattern_any _ _ hp).mono ?_; rintro e w' ⟨rfl, rfl⟩)
    go_ret2
    exact EdPost.mk p1 (by rw [hr.out]; exact OK.nil _ _ _ _) (Below.refl _ _)

set_option maxHeartbeats 1000000 in
theorem lawEdges_any (p : ByteArray) (w : World) :
    Calls Try.prog 8 #[.string p] w fun e w' => e = .returned (.bool true) ∧ Below w.heap.size w w' := by
  by_cases hp : p.size ≤ 1048576
  · have hlen := edR_len p
    go_enter Try.func8, Try.ntmps8
    go_wp2_with fail
    refine (specEdges_any _ _ hp).mono ?_
    rintro e w1 ⟨v0, rfl, o0, hb⟩
    go_wp2_with fail
    refine (implEdges_any _ _ hp).mono ?_
    rintro e w2 ⟨v1, rfl, o1, hb2⟩
    have o0 := o0.later hb2
    have d0 := o0.vb
    have hs1 := hb.size
    have hd : ∀ k ∈ vb v0, k < w1.heap.size := fun k hk => by
      have := (OK.vb (w := w1) (by assumption : OI _ w1 v0 _) k hk).2; exact this
    have hb := later3 hb hb2 hb.size
    have hs2 := hb2.size
    go_wp2_with fail
    refine (eqInt64S_yes _ _ _ _ o1.read o0.read (by omega)).mono ?_
    rintro e w3 ⟨rfl, hb3⟩
    have o0 := o0.later hb3
    have o1 := o1.later hb3
    have hb := later3 hb hb3 (by omega)
    have hs3 := hb3.size
    go_wp2_with fail
    refine (markInt64S_any _ _ _ _ _ o1 (by omega) (by omega)).mono ?_
    rintro e w4 ⟨rfl, o1, hc⟩
    have o0 := o0.chg hc (fun k hk hk' => by have := hd k hk; have := o1.vb k hk'; omega)
    have hb := hc.below hb (fun k hk => by have := o1.vb k hk; omega) (by omega)
    have hs4 := hc.size
    go_wp2_with fail
    refine (heldInt64S_yes _ _ _ _ o1.read (by omega) (by omega)).mono ?_
    rintro e w' ⟨rfl, rfl⟩
    go_wp2_with fail
    refine (implEdges_any _ _ hp).mono ?_
    rintro e w5 ⟨v2, rfl, o2, hb5⟩
    have o0 := o0.later hb5
    have o1 := o1.later hb5
    have hb := later3 hb hb5 (by omega)
    have hs5 := hb5.size
    go_wp2_with fail
    refine (eqInt64S_yes _ _ _ _ o2.read o0.read (by omega)).mono ?_
    rintro e w6 ⟨rfl, hb6⟩
    have o1 := o1.later hb6
    have hb := later3 hb hb6 (by omega)
    go_wp2_with fail
    refine (heldInt64S_yes _ _ _ _ o1.read (by omega) (by omega)).mono ?_
    rintro e w' ⟨rfl, rfl⟩
    go_wp2_with fail
    go_ret
    exact ⟨rfl, hb⟩
  · go_enter Try.func8, Try.ntmps8
    go_wp2_with fail
    go_ret
    exact ⟨rfl, Below.refl _ _⟩
end Go.Proofs.Ytjjohniabgamjaa
