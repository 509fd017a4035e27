/- The laws' helpers over groups, and the law of ValidGroup. -/
import Derived.Test.YtghmpaegmicheaaGrp3
namespace Go.Proofs.Ytghmpaegmicheaa
open Go.RowKit

/-- A group that the call owns. -/
def OG (B S : Nat) (w : World) (v : Value) (x : List (List Int)) : Prop := ∃ u, v = .agg #[u] ∧ OT B S w u x
set_option maxHeartbeats 400000 in
theorem toGroup_any (v : Value) (x : List (List Int)) (w : World) (hx : RT w v x) (hm : x.length ≤ 1048576) (hr : Small x) :
    Calls Try.prog 13 #[.agg #[v]] w fun e w' => ∃ u, e = .returned (.agg #[u]) ∧ OT w.heap.size w'.heap.size w' u x ∧ Below w.heap.size w w' := by
  obtain ⟨a, c, rfl⟩ := hx.slice
  have hb1 : Below w.heap.size w (((w.alloc (.cells #[.slice a x.length c] 24)).alloc (.cells #[.slice none 0 0] 29)).alloc (.cells #[.slice none 0 0] 29)) :=
    (((Below.refl _ _).alloc (Nat.le_refl _) _).alloc (by simp) _).alloc (by simp; omega) _
  have hx1 := hx.later hb1
  have hs1 : (((w.alloc (.cells #[.slice a x.length c] 24)).alloc (.cells #[.slice none 0 0] 29)).alloc (.cells #[.slice none 0 0] 29)).heap.size = w.heap.size + 3 := by simp
  have HS1 := Lib.hid hs1
  clear hs1
  go_enter Try.func13, Try.ntmps13
  go_wp2_with fail
  refine (toInt64SS_any _ x _ hx1 hm hr.out).mono ?_
  rintro e w1 ⟨u, rfl, ho, hb2⟩
  obtain ⟨ua, uc, rfl⟩ := ho.slice
  have hb3 := hb1.trans (hb2.mono hb1.size)
  have hsz := hb2.size
  rw [HS1.out] at hsz
  have hkeep : Hid (∀ v1 v2, OT w.heap.size ((w1.setCell ⟨w.heap.size + 1 + 1, 0, none⟩ v1).setCell ⟨w.heap.size + 1, 0, none⟩ v2).heap.size ((w1.setCell ⟨w.heap.size + 1 + 1, 0, none⟩ v1).setCell ⟨w.heap.size + 1, 0, none⟩ v2) (.slice ua x.length uc) x ∧ Below w.heap.size w ((w1.setCell ⟨w.heap.size + 1 + 1, 0, none⟩ v1).setCell ⟨w.heap.size + 1, 0, none⟩ v2)) := fun v1 v2 => by
    rw [HS1.out] at ho
    refine ⟨(OT.mono ((ho.keep fun k h1 h2 => ?_).monoB (by omega)) (by simp)), (hb3.setCell (by show w.heap.size ≤ w.heap.size + 1 + 1; omega) _).setCell (by show w.heap.size ≤ w.heap.size + 1; omega) _⟩
    rw [heap_setCell_other _ _ _ _ (by simp; omega), heap_setCell_other _ _ _ _ (by simp; omega)]
  obtain ⟨hc, hf⟩ := bcell hb2
  have hz : w.heap.size + 1 + 1 < w1.heap.size := by omega
  clear ho hx1 hb1 hb2 hb3 hx
  go_wp2_with fail
  exact bodyPost_ret (v := .agg #[.slice ua x.length uc]) (by simp [results, Try.results13, go_sem, hc, hz]) rfl ⟨_, rfl, hkeep.out _ _⟩
set_option maxHeartbeats 400000 in
theorem szGroup_yes (v : Value) (x : List (List Int)) (n : Int) (w : World) (hx : RT w v x) (hn : n ≤ 1048576) (hs : (szT x : Int) ≤ n) :
    Calls Try.prog 11 #[.agg #[v], .int .i64 n] w fun e w' => ∃ r : Int, e = .returned (.int .i64 r) ∧ Hid (r = n - szT x) ∧ 0 ≤ r ∧ r ≤ n ∧ Below w.heap.size w w' := by
  obtain ⟨a, c, rfl⟩ := hx.slice
  have hb1 : Below w.heap.size w (w.alloc (.cells #[.slice a x.length c] 24)) := (Below.refl _ _).alloc (Nat.le_refl _) _
  have hx1 := hx.later hb1
  have HS := Lib.hid hs
  clear hs
  go_enter Try.func11, Try.ntmps11
  go_wp2_with fail
  refine (szInt64SS_yes _ x _ _ hx1 hn HS.out).mono ?_
  rintro e w1 ⟨r, rfl, HR, h1, h2, rfl⟩
  go_wp2_with fail
  go_ret
  exact ⟨_, rfl, HR, h1, h2, hb1⟩
set_option maxHeartbeats 400000 in
theorem szGroup_no (v : Value) (x : List (List Int)) (n : Int) (w : World) (hx : RT w v x) (hn : 0 ≤ n ∧ n ≤ 1048576) (hs : ¬ (szT x : Int) ≤ n) :
    Calls Try.prog 11 #[.agg #[v], .int .i64 n] w fun e w' => e = .returned (.int .i64 (-1)) ∧ Below w.heap.size w w' := by
  obtain ⟨a, c, rfl⟩ := hx.slice
  have hb1 : Below w.heap.size w (w.alloc (.cells #[.slice a x.length c] 24)) := (Below.refl _ _).alloc (Nat.le_refl _) _
  have hx1 := hx.later hb1
  have HS := Lib.hid hs
  clear hs
  go_enter Try.func11, Try.ntmps11
  go_wp2_with fail
  refine (szInt64SS_no _ x _ _ hx1 hn (by have := HS.out; omega)).mono ?_
  rintro e w1 ⟨rfl, rfl⟩
  go_wp2_with fail
  go_ret
  exact ⟨rfl, hb1⟩
set_option maxHeartbeats 400000 in
theorem eqGroup_yes (u v : Value) (x : List (List Int)) (w : World) (hx : RT w u x) (hy : RT w v x) (hm : x.length ≤ 1048576) (hr : Small x) :
    Calls Try.prog 16 #[.agg #[u], .agg #[v]] w fun e w' => e = .returned (.bool true) ∧ Below w.heap.size w w' := by
  obtain ⟨a, c, rfl⟩ := hx.slice
  obtain ⟨b, d, rfl⟩ := hy.slice
  have hb1 : Below w.heap.size w ((w.alloc (.cells #[.slice a x.length c] 29)).alloc (.cells #[.slice b x.length d] 29)) := ((Below.refl _ _).alloc (Nat.le_refl _) _).alloc (by simp) _
  have hx1 := hx.later hb1
  have hy1 := hy.later hb1
  have hr' : Hid (∀ j, j < x.length → (rowAt x j).length ≤ 1099511627776) := fun j hj => by have := hr.out j hj; omega
  go_enter Try.func16, Try.ntmps16
  go_wp2_with fail
  refine (eqInt64SS_q _ _ x _ hx1 hy1 (by omega) hr'.out).mono ?_
  rintro e w1 ⟨rfl, hd⟩
  go_wp2_with fail
  go_ret
  exact ⟨rfl, hb1.trans (hd.below.mono hb1.size)⟩
set_option maxHeartbeats 400000 in
theorem markGroup_any (v : Value) (x : List (List Int)) (k : Int) (w : World) (B S : Nat) (hx : OT B S w v x) (hS : S ≤ w.heap.size) (hk : 0 ≤ k ∧ k + tot x ≤ 1099511627776) (hm : x.length ≤ 1099511627776) :
    Calls Try.prog 17 #[.agg #[v], .int .i64 k] w fun e w' => e = .returned (.int .i64 (k + tot x)) ∧ OT B S w' v (upsT k x) ∧ ChgR B S w w' := by
  obtain ⟨a, c, rfl⟩ := hx.slice
  have hb1 : Below w.heap.size w (w.alloc (.cells #[.slice a x.length c] 29)) := (Below.refl _ _).alloc (Nat.le_refl _) _
  have hx1 := hx.later hb1 hS
  go_enter Try.func17, Try.ntmps17
  go_wp2_with fail
  refine (markInt64SS_any _ x _ _ B S hx1 hk hm).mono ?_
  rintro e w1 ⟨rfl, h1, h2⟩
  go_wp2_with fail
  go_ret
  exact ⟨rfl, h1, (Below.chgR hb1).trans h2⟩
theorem small_of {x : List (List Int)} (h : (szT x : Int) ≤ 1048576) : x.length ≤ 1048576 ∧ Small x := by
  unfold szT at h
  exact ⟨by omega, fun j hj => by have := tot_at x j hj; omega⟩

end Go.Proofs.Ytghmpaegmicheaa
