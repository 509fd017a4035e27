/- CyclicGroup: the program's and the reference's, and the law of functions that make a group of a number. -/
import Derived.Test.YtgedeifajmoljaaCyc
import Derived.Test.YtgedeifajmoljaaGrpL
namespace Go.Proofs.Ytgedeifajmoljaa
open Go.RowKit

/-- A group that is made, or none. -/
def GrPost (x : List (List Int)) (b : Bool) (w : World) (e : Ending) (w' : World) : Prop := ∃ u, e = .returned (.tuple #[.agg #[u], .bool b]) ∧ OT w.heap.size w'.heap.size w' u x ∧ Below w.heap.size w w'
def cycX (n : Int) : List (List Int) := if inB n 1 10 then mkT n.toNat (cycF n.toNat) else []
theorem in_is (n a c : Int) (w : World) (b : Bool) (h : Hid (inB n a c = b)) :
    Calls Try.prog 50 #[.int .i64 n, .int .i64 a, .int .i64 c] w fun e w' => e = .returned (.bool b) ∧ w = w' := by
  have := in_any n a c w
  rw [h.out] at this; exact this
theorem l00In_is (n a c : Int) (w : World) (b : Bool) (h : Hid (inB n a c = b)) :
    Calls Try.prog 48 #[.int .i64 n, .int .i64 a, .int .i64 c] w fun e w' => e = .returned (.bool b) ∧ w = w' := by
  have := l00In_any n a c w
  rw [h.out] at this; exact this
set_option maxHeartbeats 1000000 in
theorem specCyc_any (n : Int) (w : World) :
    Calls Try.prog 15 #[.int .i64 n] w (GrPost (cycX n) (inB n 1 10) w) := by
  cases hi : inB n 1 10
  · have HI := Lib.hid hi
    have HX : Hid (cycX n = []) := by unfold Hid cycX; rw [hi]; rfl
    clear hi
    go_enter Try.func15, Try.ntmps15
    go_wp2_with (go_at_call 48; refine (l00In_is _ _ _ _ false HI).mono ?_; rintro e w' ⟨rfl, rfl⟩)
    exact bodyPost_ret (v := .tuple #[.agg #[.slice none 0 0], .bool false]) (by simp [results, Try.results15, go_sem]) rfl ⟨_, rfl, by rw [HX.out]; exact OT.nil _ _ _, (Below.refl _ _).alloc (Nat.le_refl _) _⟩
  · have HI := Lib.hid hi
    obtain ⟨h1, h2⟩ := inB_iff.1 hi
    obtain ⟨q, rfl⟩ := Int.eq_ofNat_of_zero_le (show 0 ≤ n by omega)
    have HX : Hid (cycX (q : Int) = (mkT q (cycF q))) := by unfold Hid cycX; rw [hi]; rfl
    have hb1 : Below w.heap.size w (w.alloc (.cells #[.slice none 0 0] 24)) := (Below.refl _ _).alloc (Nat.le_refl _) _
    have hs1 : w.heap.size < (w.alloc (.cells #[.slice none 0 0] 24)).heap.size := by simp
    clear hi
    go_enter Try.func15, Try.ntmps15
    go_wp2_with (go_at_call 48; refine (l00In_is _ _ _ _ true HI).mono ?_; rintro e w' ⟨rfl, rfl⟩)
    refine (l05Cyclic_any q _ ⟨by omega, by omega⟩).mono ?_
    rintro e w2 ⟨u, rfl, ho, hb2⟩
    obtain ⟨ua, uc, rfl⟩ := ho.slice
    obtain ⟨hc, hf⟩ := bcell hb2
    have hz : w.heap.size < w2.heap.size := Nat.lt_of_lt_of_le hs1 hb2.size
    have HE : Hid (OT w.heap.size (w2.setCell ⟨w.heap.size, 0, none⟩ (.slice ua ((mkT q (cycF q))).length uc)).heap.size (w2.setCell ⟨w.heap.size, 0, none⟩ (.slice ua ((mkT q (cycF q))).length uc)) (.slice ua ((mkT q (cycF q))).length uc) (cycX (q : Int)) ∧ Below w.heap.size w (w2.setCell ⟨w.heap.size, 0, none⟩ (.slice ua ((mkT q (cycF q))).length uc))) := by
      refine ⟨?_, (hb1.trans (hb2.mono (Nat.le_of_lt hs1))).setCell (Nat.le_refl _) _⟩
      rw [HX.out]
      exact ((ho.keep fun k h1 h2 => heap_setCell_other _ _ _ _ (by show k ≠ w.heap.size; omega)).monoB (by omega)).mono (by simp)
    clear ho hb2
    go_wp2_with fail
    exact bodyPost_ret (v := .tuple #[.agg #[.slice ua ((mkT q (cycF q))).length uc], .bool true]) (by simp [results, Try.results15, go_sem, hc, hz]) rfl ⟨_, rfl, HE.out⟩
set_option maxHeartbeats 400000 in
theorem cyc1_any (n i j p : Nat) (w : World) (hn : 1 ≤ n ∧ n ≤ 10) (hi : i < n) (hj : j < n) (hp : w.cell? ⟨p, 0, none⟩ = some (.int .i64 n)) :
    Calls Try.prog 52 #[.int .i64 i, .int .i64 j, .pointer (some ⟨p, 0, none⟩)] w fun e w' => e = .returned (.int .i64 (cycF n i j)) ∧ w = w' := by
  have HF : Hid ((((i : Int) + (j : Int)) % (n : Int)) = cycF n i j) := by unfold Hid cycF; simp
  have h0 : (0 : Int) < (n : Int) := by omega
  go_enter Try.func52, Try.ntmps52
  go_wp2_with fail
  go_ret
  exact ⟨ret_i64 (by have := HF.out; first | exact this | omega), rfl⟩

set_option maxHeartbeats 1000000 in
theorem implCyc_any (n : Int) (w : World) :
    Calls Try.prog 16 #[.int .i64 n] w (GrPost (cycX n) (inB n 1 10) w) := by
  cases hi : inB n 1 10
  · have HI := Lib.hid hi
    have HX : Hid (cycX n = []) := by unfold Hid cycX; rw [hi]; rfl
    clear hi
    go_enter Try.func16, Try.ntmps16
    go_wp2_with (go_at_call 50; refine (in_is _ _ _ _ false HI).mono ?_; rintro e w' ⟨rfl, rfl⟩)
    exact bodyPost_ret (v := .tuple #[.agg #[.slice none 0 0], .bool false]) (by simp [results, Try.results16, go_sem]) rfl ⟨_, rfl, by rw [HX.out]; exact OT.nil _ _ _, ((Below.refl _ _).alloc (Nat.le_refl _) _).alloc (by simp) _⟩
  · have HI := Lib.hid hi
    obtain ⟨h1, h2⟩ := inB_iff.1 hi
    obtain ⟨q, rfl⟩ := Int.eq_ofNat_of_zero_le (show 0 ≤ n by omega)
    have HX : Hid (cycX (q : Int) = mkT q (cycF q)) := by unfold Hid cycX; rw [hi]; rfl
    have hs1 : w.heap.size + 1 < ((w.alloc (.cells #[.int .i64 q] 2)).alloc (.cells #[.slice none 0 0] 24)).heap.size := by simp
    have hb1 : Below w.heap.size w ((w.alloc (.cells #[.int .i64 q] 2)).alloc (.cells #[.slice none 0 0] 24)) := ((Below.refl _ _).alloc (Nat.le_refl _) _).alloc (by simp) _
    have hcp : ((w.alloc (.cells #[.int .i64 q] 2)).alloc (.cells #[.slice none 0 0] 24)).cell? ⟨w.heap.size, 0, none⟩ = some (.int .i64 q) := by
      rw [World.cell?_alloc_past _ _ _ (by simp), World.cell?_alloc_at _ _ _ _ rfl]; rfl
    have hmf : ∀ (fn : Fn) (first cap : Array Value) (w : World), (Instr.makeFunc fn first cap).run Try.prog w = .ok (.func fn first cap) w := fun _ _ _ _ => rfl
    have HM : Hid (Calls Try.prog 51 #[.int .i64 q, .func (.func 52) #[] #[.pointer (some ⟨w.heap.size, 0, none⟩)]] ((w.alloc (.cells #[.int .i64 q] 2)).alloc (.cells #[.slice none 0 0] 24)) fun e w' => ∃ v', e = .returned v' ∧ OT ((w.alloc (.cells #[.int .i64 q] 2)).alloc (.cells #[.slice none 0 0] 24)).heap.size w'.heap.size w' v' (mkT q (cycF q)) ∧ Below ((w.alloc (.cells #[.int .i64 q] 2)).alloc (.cells #[.slice none 0 0] 24)).heap.size ((w.alloc (.cells #[.int .i64 q] 2)).alloc (.cells #[.slice none 0 0] 24)) w') :=
      madeCyc q (cycF q) w.heap.size _ (by omega) trivial fun w1 i j hi hj hb =>
        (cyc1_any q i j w.heap.size w1 ⟨by omega, by omega⟩ hi hj ((hb.cell (p := ⟨w.heap.size, 0, none⟩) (by show w.heap.size < _; omega)).trans hcp)).mono fun e w' h => ⟨h.1, by rw [h.2]; exact Drw.refl _⟩
    clear hi hcp
    go_enter Try.func16, Try.ntmps16
    go_wp2_with (go_at_call 50; refine (in_is _ _ _ _ true HI).mono ?_; rintro e w' ⟨rfl, rfl⟩)
    refine (HM.out).mono ?_
    rintro e w2 ⟨u, rfl, ho, hb2⟩
    obtain ⟨ua, uc, rfl⟩ := ho.slice
    obtain ⟨hc, hf⟩ := bcell hb2
    have hz : w.heap.size + 1 < w2.heap.size := Nat.lt_of_lt_of_le hs1 hb2.size
    have HE : Hid (OT w.heap.size (w2.setCell ⟨w.heap.size + 1, 0, none⟩ (.slice ua (mkT q (cycF q)).length uc)).heap.size (w2.setCell ⟨w.heap.size + 1, 0, none⟩ (.slice ua (mkT q (cycF q)).length uc)) (.slice ua (mkT q (cycF q)).length uc) (cycX (q : Int)) ∧ Below w.heap.size w (w2.setCell ⟨w.heap.size + 1, 0, none⟩ (.slice ua (mkT q (cycF q)).length uc))) := by
      refine ⟨?_, (hb1.trans (hb2.mono hb1.size)).setCell (by show w.heap.size ≤ w.heap.size + 1; omega) _⟩
      rw [HX.out]
      exact ((ho.keep fun k h1 h2 => heap_setCell_other _ _ _ _ (by show k ≠ w.heap.size + 1; omega)).monoB (by omega)).mono (by simp)
    clear ho hb2
    go_wp2_with fail
    exact bodyPost_ret (v := .tuple #[.agg #[.slice ua (mkT q (cycF q)).length uc], .bool true]) (by simp [results, Try.results16, go_sem, hc, hz]) rfl ⟨_, rfl, HE.out⟩

/-- A group's table is small. -/
theorem mkT_small (n : Nat) (f : Nat → Nat → Int) (h : n ≤ 1000) : (mkT n f).length ≤ 1048576 ∧ Small (mkT n f) ∧ tot (mkT n f) ≤ 1048576 := by
  refine ⟨by rw [mkT_len]; omega, fun j hj => ?_, ?_⟩
  · rw [mkT_len] at hj
    rw [mkT_rowlen _ _ _ hj]; omega
  · have : ∀ k, k ≤ n → tot ((mkT n f).take k) = k * n := by
      intro k
      induction k with
      | zero => intro _; simp [tot]
      | succ k ih =>
        intro hk
        rw [tot_take _ _ (by rw [mkT_len]; omega), ih (by omega), mkT_rowlen _ _ _ (by omega), Nat.succ_mul]
    have h1 := this n (Nat.le_refl _)
    rw [List.take_of_length_le (by rw [mkT_len]; exact Nat.le_refl _)] at h1
    rw [h1]
    exact Nat.le_trans (Nat.mul_le_mul h h) (by omega)
theorem cycX_small (n : Int) : (cycX n).length ≤ 1048576 ∧ Small (cycX n) ∧ tot (cycX n) ≤ 1048576 := by
  unfold cycX
  split
  · rename_i h
    have := inB_iff.1 h
    exact mkT_small _ _ (by omega)
  · exact ⟨by simp, fun j hj => by simp at hj, by simp [tot]⟩
set_option maxHeartbeats 4000000 in
set_option maxRecDepth 100000 in
theorem lawCyclicGroup_any (n : Int) (w : World) :
    Calls Try.prog 3 #[.int .i64 n] w fun e w' => e = .returned (.bool true) ∧ Below w.heap.size w w' := by
  obtain ⟨x, hx⟩ : ∃ x, x = cycX n := ⟨_, rfl⟩
  obtain ⟨rb, hrb⟩ : ∃ b, b = inB n 1 10 := ⟨_, rfl⟩
  have hsm : x.length ≤ 1048576 ∧ Small x ∧ tot x ≤ 1048576 := by rw [hx]; exact cycX_small n
  obtain ⟨hm, hr, ht⟩ := hsm
  have HI : Hid (∀ w1, Calls Try.prog 16 #[.int .i64 n] w1 fun e w' => ∃ u, e = .returned (.tuple #[.agg #[u], .bool rb]) ∧ OT w1.heap.size w'.heap.size w' u x ∧ Below w1.heap.size w1 w') := fun w1 => by
    rw [hx, hrb]; exact implCyc_any n w1
  have HP : Hid (∀ w1, Calls Try.prog 15 #[.int .i64 n] w1 fun e w' => ∃ u, e = .returned (.tuple #[.agg #[u], .bool rb]) ∧ OT w1.heap.size w'.heap.size w' u x ∧ Below w1.heap.size w1 w') := fun w1 => by
    rw [hx, hrb]; exact specCyc_any n w1
  clear hx hrb
  go_enter Try.func3, Try.ntmps3
  go_wp2_with fail
  refine (HP.out _).mono ?_
  rintro e w1 ⟨u1, rfl, ow, hb⟩
  obtain ⟨wa, wc, rfl⟩ := ow.slice
  have hw1 := hb.size
  go_wp2_with fail
  have cw : (w1.alloc (.cells #[.slice wa x.length wc] 24)).cell? ⟨w1.heap.size, 0, none⟩ = some (.slice wa x.length wc) := World.cell?_alloc_at _ _ _ _ rfl
  have hb1 : Below w1.heap.size w1 (w1.alloc (.cells #[.slice wa x.length wc] 24)) := (Below.refl _ _).alloc (Nat.le_refl _) _
  have hlw : w1.heap.size < (w1.alloc (.cells #[.slice wa x.length wc] 24)).heap.size := by simp
  replace ow := ow.later hb1 (Nat.le_refl _)
  replace hb := hb.trans (hb1.mono hw1)
  clear hb1
  generalize w1.alloc (.cells #[.slice wa x.length wc] 24) = w2 at *
  generalize w1.heap.size = PW at *
  refine (HI.out _).mono ?_
  rintro e w3 ⟨u3, rfl, og, hb1⟩
  obtain ⟨ga, gc, rfl⟩ := og.slice
  replace cw := (hb1.cell (p := ⟨PW, 0, none⟩) hlw).trans cw
  replace ow := ow.later hb1 (Nat.le_of_lt hlw)
  have hw3 := hb1.size
  have hlw3 : PW < w3.heap.size := by omega
  replace hb := hb.trans (hb1.mono hb.size)
  clear hb1
  go_wp2_with fail
  have cg : (w3.alloc (.cells #[.slice ga x.length gc] 24)).cell? ⟨w3.heap.size, 0, none⟩ = some (.slice ga x.length gc) := World.cell?_alloc_at _ _ _ _ rfl
  have hb1 : Below w3.heap.size w3 (w3.alloc (.cells #[.slice ga x.length gc] 24)) := (Below.refl _ _).alloc (Nat.le_refl _) _
  have hlg : w3.heap.size < (w3.alloc (.cells #[.slice ga x.length gc] 24)).heap.size := by simp
  replace cw := (hb1.cell (p := ⟨PW, 0, none⟩) (by show PW < _; omega)).trans cw
  replace ow := ow.later hb1 (by omega)
  replace og := og.later hb1 (Nat.le_refl _)
  replace hb := hb.trans (hb1.mono hb.size)
  clear hb1
  generalize w3.alloc (.cells #[.slice ga x.length gc] 24) = w4 at *
  generalize w3.heap.size = PG at *
  refine (eqGroup_yes _ _ x _ og.read ow.read hm hr).mono ?_
  rintro e w5 ⟨rfl, hb1⟩
  replace cw := (hb1.cell (p := ⟨PW, 0, none⟩) (by show PW < _; omega)).trans cw
  replace cg := (hb1.cell (p := ⟨PG, 0, none⟩) hlg).trans cg
  replace ow := ow.later hb1 (by omega)
  replace og := og.later hb1 (by omega)
  have hw5 := hb1.size
  replace hb := hb.trans (hb1.mono hb.size)
  clear hb1
  go_wp2_with fail
  refine (markGroup_any _ x 1 _ _ _ og (by omega) ⟨by omega, by omega⟩ (by omega)).mono ?_
  rintro e w6 ⟨rfl, og, hch⟩
  replace cw := (hch.cell PW 0 (by omega) (.inl (by omega))).trans cw
  replace cg := (hch.cell PG 0 (by omega) (.inr (Nat.le_refl _))).trans cg
  replace ow := ow.chgR hch (by omega) (.inr (by omega))
  have hw6 := hch.size
  replace hb := hch.below hb (by omega) (by omega)
  clear hch
  go_wp2_with fail
  refine (heldGroup_yes _ x 1 _ og.read ⟨by omega, by omega⟩ (by omega)).mono ?_
  rintro e w7 ⟨rfl, hb1⟩
  replace cw := (hb1.cell (p := ⟨PW, 0, none⟩) (by show PW < _; omega)).trans cw
  replace cg := (hb1.cell (p := ⟨PG, 0, none⟩) (by show PG < _; omega)).trans cg
  replace ow := ow.later hb1 (by omega)
  replace og := og.later hb1 (by omega)
  have hw7 := hb1.size
  replace hb := hb.trans (hb1.mono hb.size)
  clear hb1
  go_wp2_with fail
  refine (HI.out _).mono ?_
  rintro e w8 ⟨u8, rfl, oh, hb1⟩
  obtain ⟨ha, hc, rfl⟩ := oh.slice
  replace cw := (hb1.cell (p := ⟨PW, 0, none⟩) (by show PW < _; omega)).trans cw
  replace cg := (hb1.cell (p := ⟨PG, 0, none⟩) (by show PG < _; omega)).trans cg
  replace ow := ow.later hb1 (by omega)
  replace og := og.later hb1 (by omega)
  have hw8 := hb1.size
  have hlw8 : PW < w8.heap.size := by omega
  have hlg8 : PG < w8.heap.size := by omega
  replace hb := hb.trans (hb1.mono hb.size)
  clear hb1
  go_wp2_with fail
  have chh : (w8.alloc (.cells #[.slice ha x.length hc] 24)).cell? ⟨w8.heap.size, 0, none⟩ = some (.slice ha x.length hc) := World.cell?_alloc_at _ _ _ _ rfl
  have hb1 : Below w8.heap.size w8 (w8.alloc (.cells #[.slice ha x.length hc] 24)) := (Below.refl _ _).alloc (Nat.le_refl _) _
  have hlh : w8.heap.size < (w8.alloc (.cells #[.slice ha x.length hc] 24)).heap.size := by simp
  replace cw := (hb1.cell (p := ⟨PW, 0, none⟩) (by show PW < _; omega)).trans cw
  replace cg := (hb1.cell (p := ⟨PG, 0, none⟩) (by show PG < _; omega)).trans cg
  replace ow := ow.later hb1 (by omega)
  replace og := og.later hb1 (by omega)
  replace oh := oh.later hb1 (Nat.le_refl _)
  replace hb := hb.trans (hb1.mono hb.size)
  clear hb1
  generalize w8.alloc (.cells #[.slice ha x.length hc] 24) = w9 at *
  generalize w8.heap.size = PH at *
  refine (eqGroup_yes _ _ x _ oh.read ow.read hm hr).mono ?_
  rintro e w10 ⟨rfl, hb1⟩
  replace cg := (hb1.cell (p := ⟨PG, 0, none⟩) (by show PG < _; omega)).trans cg
  replace og := og.later hb1 (by omega)
  have hw10 := hb1.size
  replace hb := hb.trans (hb1.mono hb.size)
  clear hb1
  go_wp2_with fail
  refine (heldGroup_yes _ x 1 _ og.read ⟨by omega, by omega⟩ (by omega)).mono ?_
  rintro e w11 ⟨rfl, hb1⟩
  replace hb := hb.trans (hb1.mono hb.size)
  go_wp2_with fail
  go_ret
  exact ⟨rfl, hb⟩
end Go.Proofs.Ytgedeifajmoljaa
