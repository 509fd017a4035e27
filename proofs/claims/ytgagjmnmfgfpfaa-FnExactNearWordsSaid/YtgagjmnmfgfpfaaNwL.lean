/- The law of NearWords, for all arguments. -/
import Derived.Test.YtgagjmnmfgfpfaaNwS
import Derived.Test.YtgagjmnmfgfpfaaMark
namespace Go.Proofs.Ytgagjmnmfgfpfaa
open Go.RowKit

open Classical in
noncomputable def nwL (s : ByteArray) (b : Int) : List ByteArray := if h : ∃ l, AscS l ∧ (∀ t, t ∈ l ↔ nwB s b = true ∧ NwP s b.toNat t) ∧ l.length ≤ 1000000 then Classical.choose h else []
theorem nwL_len (s : ByteArray) (b : Int) : (nwL s b).length ≤ 1000000 := by
  unfold nwL
  split
  · rename_i h; exact (Classical.choose_spec h).2.2
  · simp
theorem nwL_eq {s : ByteArray} {b : Int} {l : List ByteArray} (h1 : AscS l) (h2 : ∀ t, t ∈ l ↔ nwB s b = true ∧ NwP s b.toNat t) (h3 : l.length ≤ 1000000) : nwL s b = l := by
  have h : ∃ l, AscS l ∧ (∀ t, t ∈ l ↔ nwB s b = true ∧ NwP s b.toNat t) ∧ l.length ≤ 1000000 := ⟨l, h1, h2, h3⟩
  unfold nwL
  rw [dif_pos h]
  have := Classical.choose_spec h
  exact AscS.eq this.1 h1 fun u => by rw [this.2.1 u, h2 u]
theorem NwPost.to {s : ByteArray} {b : Int} {w : World} {e : Ending} {w' : World} (h : NwPost s b w e w') : ∃ u, e = .returned (.tuple #[u, .bool (nwB s b)]) ∧ OS w.heap.size w' u (nwL s b) ∧ Below w.heap.size w w' := by
  obtain ⟨v, l, he, ho, h1, h2, h3, hb⟩ := h
  rw [nwL_eq h1 h2 h3]
  exact ⟨v, he, ho, hb⟩
theorem os_away' {B : Nat} {w w' : World} {u v : Value} {l : List ByteArray} (h : OS B w u l) (hc : Chg (vb v) w w') (hd : ∀ k, u.ownBlock = some k → ∀ j, v.ownBlock = some j → k ≠ j) : OS B w' u l :=
  OS.chg h hc fun k hk hk2 => hd k (mem_vb.1 hk) k (mem_vb.1 hk2) rfl
set_option maxRecDepth 100000 in
set_option maxHeartbeats 4000000 in
theorem lawNw_any (s : ByteArray) (b : Int) (w : World) :
    Calls Try.prog 10 #[.string s, .int .i64 b] w fun e w' => e = .returned (.bool true) ∧ Below w.heap.size w w' := by
  by_cases hs : s.size ≤ 1048576
  case neg =>
    have k : ¬ (s.size : Int) ≤ 1048576 := by omega
    go_enter Try.func10, Try.ntmps10
    go_wp2_with fail
    go_ret
    exact ⟨rfl, Below.refl _ _⟩
  have hfl := nwL_len s b
  have HI : Hid (∀ w1, Calls Try.prog 32 #[.string s, .int .i64 b] w1 fun e w' => ∃ u, e = .returned (.tuple #[u, .bool (nwB s b)]) ∧ OS w1.heap.size w' u (nwL s b) ∧ Below w1.heap.size w1 w') := fun w1 => (implNw_any s b w1 hs).mono fun _ _ h => h.to
  have HP : Hid (∀ w1, Calls Try.prog 31 #[.string s, .int .i64 b] w1 fun e w' => ∃ u, e = .returned (.tuple #[u, .bool (nwB s b)]) ∧ OS w1.heap.size w' u (nwL s b) ∧ Below w1.heap.size w1 w') := fun w1 => (specNw_any s b w1 hs).mono fun _ _ h => h.to
  generalize nwB s b = rb at *
  generalize nwL s b = fm at *
  go_enter Try.func10, Try.ntmps10
  go_wp2_with fail
  refine (HP.out _).mono ?_
  rintro e w3 ⟨vw, rfl, ow, hb⟩
  have hwl : Hid (∀ k, vw.ownBlock = some k → k < w3.heap.size) := fun k hk => (OV.lt ow k hk).2
  obtain ⟨wa, wc, rfl⟩ := ow.read.slice
  go_wp2_with fail
  refine (HI.out _).mono ?_
  rintro e w6 ⟨vg, rfl, og, hb1⟩
  have hgl : Hid (∀ k, vg.ownBlock = some k → w3.heap.size ≤ k) := fun k hk => (OV.lt og k hk).1
  obtain ⟨ga, gc, rfl⟩ := og.read.slice
  replace ow := OS.later ow hb1
  have hz3 := hb.size
  replace hb := hb.trans (hb1.mono hb.size)
  clear hb1
  go_wp2_with fail
  refine (eqStringS_yes _ _ fm _ og.read ow.read (by omega)).mono ?_
  rintro e wa1 ⟨rfl, hb1⟩
  replace ow := OS.later ow hb1
  replace og := OS.later og hb1
  replace hb := hb.trans (hb1.mono hb.size)
  clear hb1
  go_wp2_with fail
  refine (markStringS_any _ fm 1 _ _ og (by omega)).mono ?_
  rintro e wb1 ⟨rfl, og2, hch⟩
  replace ow := os_away' ow hch fun k hk j hj => by
    have h1 := hwl.out k hk
    have h2 := hgl.out j hj
    omega
  have hb9 : Below w.heap.size w wb1 := hch.below hb (fun k hk => by have := hgl.out k (mem_vb.1 hk); omega) hb.size
  clear hb og hch
  have hb := hb9
  clear hb9
  have hml := mtL_len 1 fm.length
  go_wp2_with fail
  have og3 := og2.read
  rw [← hml] at og3
  refine (heldStringS_yes _ fm.length 1 _ (by rw [← hml]; exact og3) (by omega)).mono ?_
  rintro e wc1 ⟨rfl, hb1⟩
  replace ow := OS.later ow hb1
  replace og3 := og3.later hb1
  replace hb := hb.trans (hb1.mono hb.size)
  clear hb1 og2
  go_wp2_with fail
  refine (HI.out _).mono ?_
  rintro e we1 ⟨vh, rfl, oh, hb1⟩
  obtain ⟨ha, hc, rfl⟩ := oh.read.slice
  replace ow := OS.later ow hb1
  replace og3 := og3.later hb1
  replace hb := hb.trans (hb1.mono hb.size)
  clear hb1
  go_wp2_with fail
  refine (eqStringS_yes _ _ fm _ oh.read ow.read (by omega)).mono ?_
  rintro e wf1 ⟨rfl, hb1⟩
  replace og3 := og3.later hb1
  replace hb := hb.trans (hb1.mono hb.size)
  clear hb1 oh ow
  go_wp2_with fail
  refine (heldStringS_yes _ fm.length 1 _ (by rw [← hml]; exact og3) (by omega)).mono ?_
  rintro e wg1 ⟨rfl, hb1⟩
  replace hb := hb.trans (hb1.mono hb.size)
  go_wp2_with fail
  go_ret
  exact ⟨rfl, hb⟩
end Go.Proofs.Ytgagjmnmfgfpfaa
