/- The law of ReadTable, for all arguments. -/
import Derived.Test.YthcnhkjiojeemaaDoorRtS
import Derived.Test.YthcnhkjiojeemaaDoorFrame
namespace Go.Proofs.YthcnhkjiojeemaaDoor
open Go.RowKit

theorem rtX_rows (s : ByteArray) : (rtX s).length ≤ 36 ∧ ∀ i, i < (rtX s).length → (rowAt (rtX s) i).length ≤ 36 := by
  unfold rtX
  cases hq : qgB (rdT s) with
  | false => simp
  | true =>
    obtain ⟨h1, h2, _⟩ := rt_rows hq
    exact ⟨h1, h2⟩
theorem tot_rows (x : List (List Int)) (h : ∀ i, i < x.length → (rowAt x i).length ≤ 36) : tot x ≤ x.length * 36 := by
  have : ∀ l : List Nat, (∀ n ∈ l, n ≤ 36) → l.sum ≤ l.length * 36 := by
    intro l
    induction l with
    | nil => intro _; simp
    | cons a l ih =>
      intro hl
      have h1 := ih fun n hn => hl n (by simp [hn])
      have h2 := hl a (by simp)
      rw [List.sum_cons, List.length_cons]; omega
  have h2 := this (x.map List.length) fun n hn => by
    obtain ⟨r, hr, rfl⟩ := List.mem_map.1 hn
    obtain ⟨j, hj, rfl⟩ := List.mem_iff_getElem.1 hr
    have := h j hj
    rw [rowAt_lt hj] at this; exact this
  rw [List.length_map] at h2
  exact h2
set_option maxHeartbeats 2000000 in
theorem lawRt_any (s : ByteArray) (w : World) (hM : ∃ m, w.cell? ⟨0, 0, none⟩ = some (.int .i64 m)) :
    Calls Tryd.prog 3 #[.string s] w fun e w' => e = .returned (.bool true) ∧ Below w.heap.size w w' := by
  by_cases hs : s.size ≤ 1048576
  case neg =>
    have k : ¬ (s.size : Int) ≤ 1048576 := by omega
    have k2 : (1048576 : Int) < (s.size : Int) := by omega
    go_enter Tryd.func3, Tryd.ntmps3
    go_wp2_with fail
    go_ret
    exact ⟨rfl, Below.refl _ _⟩
  have HM : Hid (∀ wx, Below w.heap.size w wx → ∃ m, wx.cell? ⟨0, 0, none⟩ = some (.int .i64 m)) := fun wx h => by
    obtain ⟨m, hm⟩ := hM
    exact ⟨m, (h.cell (p := ⟨0, 0, none⟩) (World.block_lt_of_cell? w _ hm)).trans hm⟩
  clear hM
  have HI : Hid (∀ w1, Below w.heap.size w w1 → Calls Tryd.prog 6 #[.string s] w1 fun e w' => ∃ u, e = .returned (.tuple #[u, .bool (qgB (rdT s))]) ∧ OT w1.heap.size w'.heap.size w' u (rtX s) ∧ Below w1.heap.size w1 w') := fun w1 h => implRt_any s w1 hs (HM.out w1 h)
  have HP : Hid (∀ w1, Calls Tryd.prog 5 #[.string s] w1 fun e w' => ∃ u, e = .returned (.tuple #[u, .bool (qgB (rdT s))]) ∧ OT w1.heap.size w'.heap.size w' u (rtX s) ∧ Below w1.heap.size w1 w') := fun w1 => specRt_any s w1 hs
  obtain ⟨hx36, hr36⟩ := rtX_rows s
  have htx := tot_rows _ hr36
  have HR := Lib.hid (fun j (hj : j < (rtX s).length) => show (rowAt (rtX s) j).length ≤ 1099511627776 from by have := hr36 j hj; omega)
  generalize qgB (rdT s) = rb at *
  generalize rtX s = x at *
  have htx2 : tot x ≤ 1296 := by omega
  clear htx hr36
  go_enter Tryd.func3, Tryd.ntmps3
  go_wp2_with fail
  refine (HP.out _).mono ?_
  rintro e w3 ⟨vw, rfl, ow, hb⟩
  obtain ⟨wa, wc, rfl⟩ := ow.slice
  go_wp2_with fail
  refine (HI.out _ hb).mono ?_
  rintro e w6 ⟨vg, rfl, og, hb1⟩
  obtain ⟨ga, gc, rfl⟩ := og.slice
  have hs6 := hb1.size
  have ow6 := (ow.later hb1 (Nat.le_refl _))
  have hz3 := hb.size
  replace hb := hb.trans (hb1.mono hb.size)
  clear hb1 ow
  go_wp2_with fail
  refine (eqInt64SS_q _ _ x _ og.read ow6.read (by omega) HR.out).mono ?_
  rintro e wa1 ⟨rfl, hd⟩
  have hb1 := hd.below
  have ow7 := ow6.later hb1 (by omega)
  have og7 := og.later hb1 (Nat.le_refl _)
  have hs7 := hb1.size
  replace hb := hb.trans (hb1.mono hb.size)
  clear hb1 hd ow6 og
  go_wp2_with fail
  refine (markInt64SS_any _ x 1 _ _ _ og7 (by omega) (by omega)).mono ?_
  rintro e wb1 ⟨rfl, og8, hch⟩
  have ow8 := ow7.chgR hch (by omega) (.inr (Nat.le_refl _))
  have hs8 := hch.size
  have hb9 : Below w.heap.size w wb1 := hch.below hb (by omega) hb.size
  clear hb og7 hch ow7
  have hb := hb9
  clear hb9
  generalize htt : tot x = tx at *
  have hnk : ¬ (1 + (tx : Int)) < 0 := by omega
  have HTT := Lib.hid htt
  clear htt
  have HHE := Lib.hid (fun wx (h : RT wx (.slice ga x.length gc) (upsT 1 x)) => show Calls Tryd.prog 9 #[.slice ga x.length gc, .int .i64 1] wx fun e w' => e = .returned (.int .i64 (1 + tx)) ∧ wx = w' from by
    have := heldInt64SS_yes (.slice ga x.length gc) x 1 wx h (by rw [HTT.out]; omega) (by omega)
    rw [HTT.out] at this; exact this)
  go_wp2_with fail
  refine (HHE.out _ og8.read).mono ?_
  rintro e wc1 ⟨rfl, rfl⟩
  go_wp2_with fail
  refine (HI.out _ hb).mono ?_
  rintro e we1 ⟨vh, rfl, oh, hb1⟩
  obtain ⟨ha, hc, rfl⟩ := oh.slice
  have ow9 := ow8.later hb1 (by omega)
  have og9 := og8.later hb1 (by omega)
  replace hb := hb.trans (hb1.mono hb.size)
  clear hb1 ow8 og8
  go_wp2_with fail
  refine (eqInt64SS_q _ _ x _ oh.read ow9.read (by omega) HR.out).mono ?_
  rintro e wf1 ⟨rfl, hd⟩
  have hb1 := hd.below
  have og10 := og9.read.later hb1
  replace hb := hb.trans (hb1.mono hb.size)
  clear hb1 oh ow9 hd og9
  go_wp2_with fail
  refine (HHE.out _ og10).mono ?_
  rintro e wg1 ⟨rfl, rfl⟩
  go_wp2_with fail
  go_ret
  exact ⟨rfl, hb⟩
end Go.Proofs.YthcnhkjiojeemaaDoor
