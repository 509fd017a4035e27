/- CyclicGroup: the program's and the reference's, and the law of functions that make a group of a number. -/
import Derived.Test.YtghmpaegmicheaaCyc
import Derived.Test.YtghmpaegmicheaaGrpL
namespace Go.Proofs.Ytghmpaegmicheaa
open Go.RowKit

/-- A group that is made, or none. -/
def GrPost (x : List (List Int)) (b : Bool) (w : World) (e : Ending) (w' : World) : Prop := ∃ u, e = .returned (.tuple #[.agg #[u], .bool b]) ∧ OT w.heap.size w'.heap.size w' u x ∧ Below w.heap.size w w'
def cycX (n : Int) : List (List Int) := if inB n 1 10 then mkT n.toNat (cycF n.toNat) else []
theorem in_is (n a c : Int) (w : World) (b : Bool) (h : Hid (inB n a c = b)) :
    Calls Try.prog 64 #[.int .i64 n, .int .i64 a, .int .i64 c] w fun e w' => e = .returned (.bool b) ∧ w = w' := by
  have := in_any n a c w
  rw [h.out] at this; exact this
theorem l00In_is (n a c : Int) (w : World) (b : Bool) (h : Hid (inB n a c = b)) :
    Calls Try.prog 89 #[.int .i64 n, .int .i64 a, .int .i64 c] w fun e w' => e = .returned (.bool b) ∧ w = w' := by
  have := l00In_any n a c w
  rw [h.out] at this; exact this
set_option maxHeartbeats 400000 in
theorem cyc1_any (n i j p : Nat) (w : World) (hn : 1 ≤ n ∧ n ≤ 10) (hi : i < n) (hj : j < n) (hp : w.cell? ⟨p, 0, none⟩ = some (.int .i64 n)) :
    Calls Try.prog 68 #[.int .i64 i, .int .i64 j, .pointer (some ⟨p, 0, none⟩)] w fun e w' => e = .returned (.int .i64 (cycF n i j)) ∧ w = w' := by
  have HF : Hid ((((i : Int) + (j : Int)) % (n : Int)) = cycF n i j) := by unfold Hid cycF; simp
  have h0 : (0 : Int) < (n : Int) := by omega
  go_enter Try.func68, Try.ntmps68
  go_wp2_with fail
  go_ret
  exact ⟨ret_i64 (by have := HF.out; first | exact this | omega), rfl⟩

set_option maxHeartbeats 1000000 in
theorem implCyc_any (n : Int) (w : World) :
    Calls Try.prog 35 #[.int .i64 n] w (GrPost (cycX n) (inB n 1 10) w) := by
  cases hi : inB n 1 10
  · have HI := Lib.hid hi
    have HX : Hid (cycX n = []) := by unfold Hid cycX; rw [hi]; rfl
    clear hi
    go_enter Try.func35, Try.ntmps35
    go_wp2_with (go_at_call 64; refine (in_is _ _ _ _ false HI).mono ?_; rintro e w' ⟨rfl, rfl⟩)
    exact bodyPost_ret (v := .tuple #[.agg #[.slice none 0 0], .bool false]) (by simp [results, Try.results35, go_sem]) rfl ⟨_, rfl, by rw [HX.out]; exact OT.nil _ _ _, ((Below.refl _ _).alloc (Nat.le_refl _) _).alloc (by simp) _⟩
  · have HI := Lib.hid hi
    obtain ⟨h1, h2⟩ := inB_iff.1 hi
    obtain ⟨q, rfl⟩ := Int.eq_ofNat_of_zero_le (show 0 ≤ n by omega)
    have HX : Hid (cycX (q : Int) = mkT q (cycF q)) := by unfold Hid cycX; rw [hi]; rfl
    have hs1 : w.heap.size + 1 < ((w.alloc (.cells #[.int .i64 q] 2)).alloc (.cells #[.slice none 0 0] 29)).heap.size := by simp
    have hb1 : Below w.heap.size w ((w.alloc (.cells #[.int .i64 q] 2)).alloc (.cells #[.slice none 0 0] 29)) := ((Below.refl _ _).alloc (Nat.le_refl _) _).alloc (by simp) _
    have hcp : ((w.alloc (.cells #[.int .i64 q] 2)).alloc (.cells #[.slice none 0 0] 29)).cell? ⟨w.heap.size, 0, none⟩ = some (.int .i64 q) := by
      rw [World.cell?_alloc_past _ _ _ (by simp), World.cell?_alloc_at _ _ _ _ rfl]; rfl
    have hmf : ∀ (fn : Fn) (first cap : Array Value) (w : World), (Instr.makeFunc fn first cap).run Try.prog w = .ok (.func fn first cap) w := fun _ _ _ _ => rfl
    have HM : Hid (Calls Try.prog 67 #[.int .i64 q, .func (.func 68) #[] #[.pointer (some ⟨w.heap.size, 0, none⟩)]] ((w.alloc (.cells #[.int .i64 q] 2)).alloc (.cells #[.slice none 0 0] 29)) fun e w' => ∃ v', e = .returned v' ∧ OT ((w.alloc (.cells #[.int .i64 q] 2)).alloc (.cells #[.slice none 0 0] 29)).heap.size w'.heap.size w' v' (mkT q (cycF q)) ∧ Below ((w.alloc (.cells #[.int .i64 q] 2)).alloc (.cells #[.slice none 0 0] 29)).heap.size ((w.alloc (.cells #[.int .i64 q] 2)).alloc (.cells #[.slice none 0 0] 29)) w') :=
      madeCyc q (cycF q) w.heap.size _ (by omega) trivial fun w1 i j hi hj hb =>
        (cyc1_any q i j w.heap.size w1 ⟨by omega, by omega⟩ hi hj ((hb.cell (p := ⟨w.heap.size, 0, none⟩) (by show w.heap.size < _; omega)).trans hcp)).mono fun e w' h => ⟨h.1, by rw [h.2]; exact Drw.refl _⟩
    clear hi hcp
    go_enter Try.func35, Try.ntmps35
    go_wp2_with (go_at_call 64; refine (in_is _ _ _ _ true HI).mono ?_; rintro e w' ⟨rfl, rfl⟩)
    refine (HM.out).mono ?_
    rintro e w2 ⟨u, rfl, ho, hb2⟩
    obtain ⟨ua, uc, rfl⟩ := ho.slice
    obtain ⟨hc, hf⟩ := bcell hb2
    have hz : w.heap.size + 1 < w2.heap.size := Nat.lt_of_lt_of_le hs1 hb2.size
    have HE : Hid (OT w.heap.size (w2.setCell ⟨w.heap.size + 1, 0, none⟩ (.slice ua (mkT q (cycF q)).length uc)).heap.size (w2.setCell ⟨w.heap.size + 1, 0, none⟩ (.slice ua (mkT q (cycF q)).length uc)) (.slice ua (mkT q (cycF q)).length uc) (cycX (q : Int)) ∧ Below w.heap.size w (w2.setCell ⟨w.heap.size + 1, 0, none⟩ (.slice ua (mkT q (cycF q)).length uc))) := by
      refine ⟨?_, (hb1.trans (hb2.mono hb1.size)).setCell (by show w.heap.size ≤ w.heap.size + 1; omega) _⟩
      rw [HX.out]
      exact ((ho.keep fun k h1 h2 => heap_setCell_other _ _ _ _ (by show k ≠ w.heap.size + 1; omega)).monoB (by omega)).mono (by simp)
    clear ho hb2
    go_wp2_with fail
    exact bodyPost_ret (v := .tuple #[.agg #[.slice ua (mkT q (cycF q)).length uc], .bool true]) (by simp [results, Try.results35, go_sem, hc, hz]) rfl ⟨_, rfl, HE.out⟩

/-- A group's table is small. -/
theorem mkT_small (n : Nat) (f : Nat → Nat → Int) (h : n ≤ 1000) : (mkT n f).length ≤ 1048576 ∧ Small (mkT n f) ∧ tot (mkT n f) ≤ 1048576 := by
  refine ⟨by rw [mkT_len]; omega, fun j hj => ?_, ?_⟩
  · rw [mkT_len] at hj
    rw [mkT_rowlen _ _ _ hj]; omega
  · have : ∀ k, k ≤ n → tot ((mkT n f).take k) = k * n := by
      intro k
      induction k with
      | zero => intro _; simp [tot]
      | succ k ih =>
        intro hk
        rw [tot_take _ _ (by rw [mkT_len]; omega), ih (by omega), mkT_rowlen _ _ _ (by omega), Nat.succ_mul]
    have h1 := this n (Nat.le_refl _)
    rw [List.take_of_length_le (by rw [mkT_len]; exact Nat.le_refl _)] at h1
    rw [h1]
    exact Nat.le_trans (Nat.mul_le_mul h h) (by omega)
theorem cycX_small (n : Int) : (cycX n).length ≤ 1048576 ∧ Small (cycX n) ∧ tot (cycX n) ≤ 1048576 := by
  unfold cycX
  split
  · rename_i h
    have := inB_iff.1 h
    exact mkT_small _ _ (by omega)
  · exact ⟨by simp, fun j hj => by simp at hj, by simp [tot]⟩
end Go.Proofs.Ytghmpaegmicheaa
