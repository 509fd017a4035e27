/- ProductTable: the program's. -/
import Derived.Test.YthcnhkjiojeemaaPrdM
import Derived.Test.YthcnhkjiojeemaaTot
namespace Go.Proofs.Ythcnhkjiojeemaa
open Go.RowKit

set_option maxRecDepth 100000 in
set_option maxHeartbeats 4000000 in
theorem pr1_any (n m : Nat) (s t : Nat → Nat → Int) (p2 p6 p3 C1 C2 : Nat) (i j : Nat) (w : World) {G1 O1 G2 O2 : Nat} {H1 F1 P1 H2 F2 P2 : Nat → Nat} (hn : 1 ≤ n ∧ n ≤ 5) (hm : 1 ≤ m ∧ m ≤ 5) (hs : Qg n s) (ht : Qg m t)
    (h1 : SqAt G1 O1 H1 F1 P1 (mkT n s) w) (h2 : SqAt G2 O2 H2 F2 P2 (mkT m t) w) (c2 : w.cell? ⟨p2, 0, none⟩ = some (.slice (some ⟨G1, O1, none⟩) n C1)) (c6 : w.cell? ⟨p6, 0, none⟩ = some (.int .i64 m)) (c3 : w.cell? ⟨p3, 0, none⟩ = some (.slice (some ⟨G2, O2, none⟩) m C2))
    (hi : i < n * m) (hj : j < n * m) :
    Calls Try.prog 44 #[.int .i64 (i : Nat), .int .i64 (j : Nat), .pointer (some ⟨p2, 0, none⟩), .pointer (some ⟨p6, 0, none⟩), .pointer (some ⟨p3, 0, none⟩)] w fun e w' => e = .returned (.int .i64 (prI m s t i j)) ∧ Drw w w' := by
  have hnm : n * m ≤ 25 := Nat.le_trans (Nat.mul_le_mul hn.2 hm.2) (by decide)
  obtain ⟨i1, i2⟩ := pr_parts hm.1 hi
  obtain ⟨j1, j2⟩ := pr_parts hm.1 hj
  have HP : Hid (prI m s t i j = (nf s (i / m) (j / m) : Int) * m + (nf t (i % m) (j % m) : Int)) := by unfold Hid prI; rw [hs.eq i1 j1, ht.eq i2 j2]
  have r1 := h1.row (i / m) (by rw [mkT_len]; exact i1)
  have r2 := h1.cell (i / m) (j / m) (by rw [mkT_len]; exact i1) (by rw [mkT_len]; exact j1)
  have r3 := h2.row (i % m) (by rw [mkT_len]; exact i2)
  have r4 := h2.cell (i % m) (j % m) (by rw [mkT_len]; exact i2) (by rw [mkT_len]; exact j2)
  rw [mkT_len] at r1 r3
  rw [tb_mk i1 j1, hs.eq i1 j1] at r2
  rw [tb_mk i2 j2, ht.eq i2 j2] at r4
  have q1 := hs.qn.bd _ _ i1 j1
  have q2 := ht.qn.bd _ _ i2 j2
  have d1 : ((i : Int)).tdiv (m : Int) = ((i / m : Nat) : Int) := by rw [Int.tdiv_eq_ediv_of_nonneg (by omega)]; simp
  have d2 : ((j : Int)).tdiv (m : Int) = ((j / m : Nat) : Int) := by rw [Int.tdiv_eq_ediv_of_nonneg (by omega)]; simp
  have d3 : ((i : Int)).tmod (m : Int) = ((i % m : Nat) : Int) := by rw [Int.tmod_eq_emod_of_nonneg (by omega)]; simp
  have d4 : ((j : Int)).tmod (m : Int) = ((j % m : Nat) : Int) := by rw [Int.tmod_eq_emod_of_nonneg (by omega)]; simp
  have hm0 : ¬ m = 0 := by omega
  generalize nf s (i / m) (j / m) = a at *
  generalize nf t (i % m) (j % m) = b at *
  generalize i / m = ia at *
  generalize j / m = ja at *
  generalize i % m = ib at *
  generalize j % m = jb at *
  obtain ⟨q, hq⟩ : ∃ q, q = a * m := ⟨_, rfl⟩
  have hqb : q ≤ 25 := by rw [hq]; exact Nat.le_trans (Nat.mul_le_mul (show a ≤ 5 by omega) hm.2) (by decide)
  have hw1 : IntKind.i64.wrap ((a : Int) * (m : Int)) = (q : Int) := by rw [← Int.natCast_mul, ← hq]; exact IntWalk.i64_in _ (by omega)
  have hw2 : IntKind.i64.wrap ((q : Int) + (b : Int)) = ((q + b : Nat) : Int) := by rw [← Int.natCast_add]; exact IntWalk.i64_in _ (by omega)
  have HP2 : Hid (prI m s t i j = ((q + b : Nat) : Int)) := by unfold Hid; rw [HP.out, Int.natCast_add, hq, Int.natCast_mul]
  obtain ⟨⟨hn1, hn2⟩, hm1, hm2⟩ := And.intro hn hm
  have k1 : (ia : Int) < (n : Int) := by omega
  have k2 : (ja : Int) < (n : Int) := by omega
  have k3 : (ib : Int) < (m : Int) := by omega
  have k4 : (jb : Int) < (m : Int) := by omega
  clear h1 h2 hs ht HP hq
  go_enter Try.func44, Try.ntmps44
  go_wp2_with fail
  go_quiet (fail)
  go_wp2_with fail
  go_ret
  exact ⟨ret_i64 (by rw [HP2.out]; simp), by first | exact Drw.refl _ | exact (Drw.refl _).more _⟩
set_option maxRecDepth 100000 in
set_option maxHeartbeats 4000000 in
theorem implPr_any (n m : Nat) (s t : Nat → Nat → Int) (v1 v2 : Value) (w : World) (hn : 1 ≤ n ∧ n ≤ 5) (hm : 1 ≤ m ∧ m ≤ 5) (hs : Qg n s) (ht : Qg m t) (h1 : RT w v1 (mkT n s)) (h2 : RT w v2 (mkT m t)) :
    Calls Try.prog 17 #[v1, v2] w fun e w' => ∃ v, e = .returned (.tuple #[v, .bool true]) ∧ OT w.heap.size w'.heap.size w' v (mkT (n * m) (prI m s t)) ∧ Below w.heap.size w w' := by
  have hnm : n * m ≤ 25 := Nat.le_trans (Nat.mul_le_mul hn.2 hm.2) (by decide)
  obtain ⟨a1, C1, e1⟩ := h1.slice
  obtain ⟨a2, C2, e2⟩ := h2.slice
  have HL1 : Hid (∀ j, j < (mkT n s).length → (rowAt (mkT n s) j).length ≤ 1048576) := fun j hj => by rw [mkT_len] at hj; rw [mkT_rowlen _ _ _ hj]; omega
  have HL2 : Hid (∀ j, j < (mkT m t).length → (rowAt (mkT m t) j).length ≤ 1048576) := fun j hj => by rw [mkT_len] at hj; rw [mkT_rowlen _ _ _ hj]; omega
  obtain ⟨G1, O1, C1', H1, F1, P1, e1', hsq1⟩ := h1.sqn (by rw [mkT_len]; exact hn.1) (fun i hi => by rw [mkT_len] at *; exact mkT_rowlen _ _ _ hi)
  obtain ⟨G2, O2, C2', H2, F2, P2, e2', hsq2⟩ := h2.sqn (by rw [mkT_len]; exact hm.1) (fun i hi => by rw [mkT_len] at *; exact mkT_rowlen _ _ _ hi)
  rw [mkT_len] at e1' e2'
  subst e1' e2'
  clear e1 e2 a1 C1 a2 C2
  have Q1 : Hid (∀ wx, Below w.heap.size w wx → Calls Try.prog 18 #[.slice (some ⟨G1, O1, none⟩) n C1'] wx fun e w' => e = .returned (.bool true) ∧ Below wx.heap.size wx w') := fun wx hb => by
    have := implQg_any _ (mkT n s) wx (h1.later hb) (by rw [mkT_len]; omega) HL1
    rw [qgB_mk.2 ⟨by omega, hs⟩] at this; exact this
  have Q2 : Hid (∀ wx, Below w.heap.size w wx → Calls Try.prog 18 #[.slice (some ⟨G2, O2, none⟩) m C2'] wx fun e w' => e = .returned (.bool true) ∧ Below wx.heap.size wx w') := fun wx hb => by
    have := implQg_any _ (mkT m t) wx (h2.later hb) (by rw [mkT_len]; omega) HL2
    rw [qgB_mk.2 ⟨by omega, ht⟩] at this; exact this
  have hb0 : Below w.heap.size w ((w.alloc (.cells #[.slice (some ⟨G1, O1, none⟩) n C1'] 24)).alloc (.cells #[.slice (some ⟨G2, O2, none⟩) m C2'] 24)) := ((Below.refl _ _).alloc (Nat.le_refl _) _).alloc (by simp) _
  have c2 : ((w.alloc (.cells #[.slice (some ⟨G1, O1, none⟩) n C1'] 24)).alloc (.cells #[.slice (some ⟨G2, O2, none⟩) m C2'] 24)).cell? ⟨w.heap.size, 0, none⟩ = some (.slice (some ⟨G1, O1, none⟩) n C1') := by simp [go_sem]
  have c3 : ((w.alloc (.cells #[.slice (some ⟨G1, O1, none⟩) n C1'] 24)).alloc (.cells #[.slice (some ⟨G2, O2, none⟩) m C2'] 24)).cell? ⟨w.heap.size + 1, 0, none⟩ = some (.slice (some ⟨G2, O2, none⟩) m C2') := by simp [go_sem]
  have hz0 : ((w.alloc (.cells #[.slice (some ⟨G1, O1, none⟩) n C1'] 24)).alloc (.cells #[.slice (some ⟨G2, O2, none⟩) m C2'] 24)).heap.size = w.heap.size + 2 := by simp
  obtain ⟨q, hq⟩ : ∃ q, q = n * m := ⟨_, rfl⟩
  have hwr : IntKind.i64.wrap ((n : Int) * (m : Int)) = (q : Int) := by rw [← Int.natCast_mul, ← hq]; exact IntWalk.i64_in _ (by omega)
  have hq36 : q ≤ 25 := by omega
  have HQE := Lib.hid hq
  have HF : Hid (∀ wx p2 p6 p3 i j, Below w.heap.size w wx → wx.cell? ⟨p2, 0, none⟩ = some (.slice (some ⟨G1, O1, none⟩) n C1') → wx.cell? ⟨p6, 0, none⟩ = some (.int .i64 m) → wx.cell? ⟨p3, 0, none⟩ = some (.slice (some ⟨G2, O2, none⟩) m C2') → i < q → j < q →
      Calls Try.prog 44 #[.int .i64 (i : Nat), .int .i64 (j : Nat), .pointer (some ⟨p2, 0, none⟩), .pointer (some ⟨p6, 0, none⟩), .pointer (some ⟨p3, 0, none⟩)] wx fun e w' => e = .returned (.int .i64 (prI m s t i j)) ∧ Drw wx w') := fun wx p2 p6 p3 i j hb k2 k6 k3 hi hj =>
    pr1_any n m s t p2 p6 p3 C1' C2' i j wx hn hm hs ht (hsq1.later hb) (hsq2.later hb) k2 k6 k3 (by rw [← hq]; exact hi) (by rw [← hq]; exact hj)
  have hmf : ∀ (fn : Fn) (first cap : Array Value) (w : World), (Instr.makeFunc fn first cap).run Try.prog w = .ok (.func fn first cap) w := fun _ _ _ _ => rfl
  rw [← hq]
  obtain ⟨⟨hn1, hn2⟩, hm1, hm2⟩ := And.intro hn hm
  clear h1 h2 hsq1 hsq2 hs ht hq hnm HL1 HL2
  go_enter Try.func17, Try.ntmps17
  go_wp2_with fail
  generalize ((w.alloc (.cells #[.slice (some ⟨G1, O1, none⟩) n C1'] 24)).alloc (.cells #[.slice (some ⟨G2, O2, none⟩) m C2'] 24)) = w0 at *
  have z2 := World.block_lt_of_cell? _ _ c2
  have z3 := World.block_lt_of_cell? _ _ c3
  refine (Q1.out _ hb0).mono ?_
  rintro e w1 ⟨rfl, hb1⟩
  replace c2 := (hb1.cell (p := ⟨w.heap.size, 0, none⟩) z2).trans c2
  replace c3 := (hb1.cell (p := ⟨w.heap.size + 1, 0, none⟩) z3).trans c3
  have hb2 := hb0.trans (hb1.mono hb0.size)
  clear z2 z3 hb0 hb1 hz0
  have z2 := World.block_lt_of_cell? _ _ c2
  have z3 := World.block_lt_of_cell? _ _ c3
  go_wp2_with fail
  refine (Q2.out _ hb2).mono ?_
  rintro e w2 ⟨rfl, hb1⟩
  replace c2 := (hb1.cell (p := ⟨w.heap.size, 0, none⟩) z2).trans c2
  replace c3 := (hb1.cell (p := ⟨w.heap.size + 1, 0, none⟩) z3).trans c3
  have hb3 := hb2.trans (hb1.mono hb2.size)
  clear z2 z3 hb2 hb1
  have z2 : w.heap.size < w2.heap.size := World.block_lt_of_cell? _ _ c2
  have z3 : w.heap.size + 1 < w2.heap.size := World.block_lt_of_cell? _ _ c3
  have hb4 : Below w.heap.size w (w2.alloc (.cells #[.int .i64 m] 2)) := hb3.alloc hb3.size _
  have k6 : (w2.alloc (.cells #[.int .i64 m] 2)).cell? ⟨w2.heap.size, 0, none⟩ = some (.int .i64 m) := World.cell?_alloc_at _ _ _ _ rfl
  have hb5 : Below w2.heap.size w2 (w2.alloc (.cells #[.int .i64 m] 2)) := (Below.refl _ _).alloc (Nat.le_refl _) _
  have k2 := (hb5.cell (p := ⟨w.heap.size, 0, none⟩) z2).trans c2
  have k3 := (hb5.cell (p := ⟨w.heap.size + 1, 0, none⟩) z3).trans c3
  have hz5 : (w2.alloc (.cells #[.int .i64 m] 2)).heap.size = w2.heap.size + 1 := by simp
  have HMD : Hid (Calls Try.prog 43 #[.int .i64 q, .func (.func 44) #[] #[.pointer (some ⟨w.heap.size, 0, none⟩), .pointer (some ⟨w2.heap.size, 0, none⟩), .pointer (some ⟨w.heap.size + 1, 0, none⟩)]] (w2.alloc (.cells #[.int .i64 m] 2)) fun e w' => ∃ v', e = .returned v' ∧ OT (w2.alloc (.cells #[.int .i64 m] 2)).heap.size w'.heap.size w' v' (mkT q (prI m s t)) ∧ Below (w2.alloc (.cells #[.int .i64 m] 2)).heap.size (w2.alloc (.cells #[.int .i64 m] 2)) w') :=
    madePr q (prI m s t) w.heap.size w2.heap.size (w.heap.size + 1) _ (by omega) trivial (fun wx i j hi hj hb => HF.out wx w.heap.size w2.heap.size (w.heap.size + 1) i j (hb4.trans (hb.mono (by have := hb3.size; omega)))
      ((hb.cell (p := ⟨w.heap.size, 0, none⟩) (by show w.heap.size < _; omega)).trans k2) ((hb.cell (p := ⟨w2.heap.size, 0, none⟩) (by show w2.heap.size < _; omega)).trans k6) ((hb.cell (p := ⟨w.heap.size + 1, 0, none⟩) (by show w.heap.size + 1 < _; omega)).trans k3) hi hj)
  have hw0 := hb3.size
  clear hb5 hb3
  go_wp2_with fail
  refine HMD.out.mono ?_
  rintro e w6 ⟨v6, rfl, ho, hb6⟩
  have ho2 := ho.monoB (show w.heap.size ≤ _ by omega)
  have hb7 := hb4.trans (hb6.mono (by omega))
  go_wp2_with fail
  go_ret2
  exact ⟨v6, rfl, ho2, hb7⟩
end Go.Proofs.Ythcnhkjiojeemaa
