/- FnRenamed: ZeroDiagonal. -/
import Derived.Test.YthcnhkjiojeemaaDoorRnJ
import Derived.Test.YthcnhkjiojeemaaDoorCtn
namespace Go.Proofs.YthcnhkjiojeemaaDoor
open Go.RowKit

theorem sub_lenG {α : Type} [DecidableEq α] : ∀ (A B : List α), A.Nodup → (∀ a ∈ A, a ∈ B) → A.length ≤ B.length
  | [], _, _, _ => Nat.zero_le _
  | a :: A, B, hn, h => by
    rw [List.nodup_cons] at hn
    have ha := h a (List.mem_cons_self ..)
    have hB : 0 < B.length := List.length_pos_of_mem ha
    have := sub_lenG A (B.erase a) hn.2 fun z hz => (List.mem_erase_of_ne (fun e => hn.1 (by rw [← e]; exact hz))).2 (h z (List.mem_cons_of_mem _ hz))
    rw [List.length_erase_of_mem ha] at this
    simp only [List.length_cons]
    omega
/-- Each row of a quasigroup has a 0. -/
theorem row_zero {n : Nat} {t : Nat → Nat → Int} (hn : 1 ≤ n) (q : Qg n t) {y : Nat} (hy : y < n) : ∃ k, k < n ∧ t y k = 0 := by
  by_cases h : ∃ k, k < n ∧ t y k = 0
  · exact h
  · exfalso
    have hnd : ((List.range n).map fun j => t y j).Nodup := by
      rw [List.nodup_iff_pairwise_ne, List.pairwise_map]
      refine List.Pairwise.imp_of_mem ?_ (List.pairwise_lt_range (n := n))
      intro a b ha hb hlt
      exact q.row y a b hy hlt (List.mem_range.1 hb)
    have hz0 : (0 : Int) ∈ upN n := mem_upN.2 (by omega)
    have := sub_lenG _ ((upN n).erase 0) hnd fun a ha => by
      obtain ⟨j, hj, rfl⟩ := List.mem_map.1 ha
      have hj' := List.mem_range.1 hj
      have hb := q.bd y j hy hj'
      exact (List.mem_erase_of_ne (fun e => h ⟨j, hj', e⟩)).2 (mem_upN.2 hb)
    rw [List.length_erase_of_mem hz0, upN_len, List.length_map, List.length_range] at this
    omega
structure Zr (n : Nat) (t : Nat → Nat → Int) (z : Nat → Nat) : Prop where
  lt : ∀ y, y < n → z y < n
  zero : ∀ y, y < n → t y (z y) = 0
theorem zr_of {n : Nat} {t : Nat → Nat → Int} (hn : 1 ≤ n) (q : Qg n t) : ∃ z, Zr n t z := by
  have h : ∀ y : Nat, ∃ k : Nat, y < n → k < n ∧ t y k = 0 := fun y => by
    by_cases hy : y < n
    · obtain ⟨k, h1, h2⟩ := row_zero hn q hy
      exact ⟨k, fun _ => ⟨h1, h2⟩⟩
    · exact ⟨0, fun h => absurd h hy⟩
  obtain ⟨z, hz⟩ := Classical.axiomOfChoice h
  exact ⟨z, fun y hy => (hz y hy).1, fun y hy => (hz y hy).2⟩
theorem Zr.ne {n : Nat} {t : Nat → Nat → Int} {z : Nat → Nat} (Z : Zr n t z) (q : Qg n t) {j k : Nat} (hlt : j < k) (hk : k < n) : z j ≠ z k := fun e => by
  have h1 := Z.zero j (by omega)
  have h2 := Z.zero k hk
  rw [← e] at h2
  exact q.col (z j) j k (Z.lt j (by omega)) hlt hk (h1.trans h2.symm)
theorem Zr.qg {n : Nat} {t : Nat → Nat → Int} {z : Nat → Nat} (Z : Zr n t z) (q : Qg n t) : Qg n (fun x y => t x (z y)) := by
  refine ⟨fun i j hi hj => q.bd i (z j) hi (Z.lt j hj), fun i j k hi hj hk => ?_, fun i j k hi hj hk => q.col (z i) j k (Z.lt i hi) hj hk⟩
  have hne := Z.ne q hj hk
  have l1 := Z.lt j (by omega)
  have l2 := Z.lt k hk
  rcases Nat.lt_or_gt_of_ne hne with h | h
  · exact q.row i _ _ hi h l2
  · exact fun e => q.row i _ _ hi h l1 e.symm
set_option maxHeartbeats 1000000 in
theorem indexP_any (v : Value) (xs : List Int) (p : Nat) (w : World) (hx : RI w v xs) (hm : xs.length ≤ 1099511627776) (hp : p < xs.length) (h0 : xs.getD p 0 = 0) (hu : ∀ i, i < xs.length → xs.getD i 0 = 0 → i = p) :
    Calls Tryd.prog 35 #[v, .int .i64 0] w fun e w' => e = .returned (.int .i64 p) ∧ w = w' := by
  obtain ⟨a, c, rfl⟩ := hx.slice
  have HU := Lib.hid hu
  have H0 := Lib.hid h0
  clear hu h0
  go_enter Tryd.func35, Tryd.ntmps35
  go_wp2_with fail
  go_loop [8] (fun iv => ∃ k : Nat, k ≤ p ∧ iv = .int .i64 k) (fun iv => xs.length - (intOf iv).toNat)
  case atStart => exact ⟨0, Nat.zero_le _, rfl⟩
  case round =>
    obtain ⟨k, hk, rfl⟩ := hrel
    have hlt : k < xs.length := by omega
    obtain ⟨g, off, rfl, hg, hc⟩ := hx.at k hlt
    by_cases he : k = p
    · subst he
      rw [H0.out] at hc
      go_wp2_with fail
      go_ret
      exact ⟨rfl, rfl⟩
    · have hne : ¬ xs.getD k 0 = 0 := fun e => he (HU.out k hlt e)
      have hne1 : ((0 : Int) == xs.getD k 0) = false := by rw [beq_eq_false_iff_ne]; exact fun e => hne e.symm
      have hne2 : (xs.getD k 0 == (0 : Int)) = false := by rw [beq_eq_false_iff_ne]; exact hne
      generalize xs.getD k 0 = x at *
      go_wp2_with fail
      go_round
      case rel => exact ⟨k + 1, by omega, by go_num⟩
      case measure => first | (simp [intOf]; done) | (simp [intOf]; omega)
set_option maxHeartbeats 2000000 in
theorem zd1_any (n : Nat) (hn : 1 ≤ n ∧ n ≤ 36) (t : Nat → Nat → Int) (z : Nat → Nat) (Z : Zr n t z) (q : Qg n t) (p C : Nat) (w : World) {G O : Nat} {H F P : Nat → Nat} (hsq : SqAt G O H F P (mkT n t) w) (ht : RT w (.slice (some ⟨G, O, none⟩) n C) (mkT n t))
    (hp : w.cell? ⟨p, 0, none⟩ = some (.slice (some ⟨G, O, none⟩) n C)) (x y : Nat) (hx : x < n) (hy : y < n) :
    Calls Tryd.prog 34 #[.int .i64 x, .int .i64 y, .pointer (some ⟨p, 0, none⟩)] w fun e w' => e = .returned (.int .i64 (t x (z y))) ∧ Drw w w' := by
  have c1 := hsq.row x (by rw [mkT_len]; exact hx)
  have c2 := hsq.row y (by rw [mkT_len]; exact hy)
  have hzl := Z.lt y hy
  have c3 := hsq.cell x (z y) (by rw [mkT_len]; exact hx) (by rw [mkT_len]; exact hzl)
  rw [mkT_len] at c1 c2
  rw [tb_mk hx hzl] at c3
  obtain ⟨g, off, r, e1, hg, hc, hri⟩ := ht.at y (by rw [mkT_len]; exact hy)
  simp only [Option.some.injEq, Addr.mk.injEq, and_true] at e1
  obtain ⟨rfl, rfl⟩ := e1
  rw [c2] at hc
  simp only [Option.some.injEq] at hc
  subst hc
  have hrl := mkT_rowlen n t y hy
  have hget : ∀ i, i < n → (rowAt (mkT n t) y).getD i 0 = t y i := fun i hi => mkT_get n t y i hy hi
  have HIX : Hid (∀ k, Calls Tryd.prog 35 #[.slice (some ⟨H y, F y, none⟩) n (P y), .int .i64 0] (w.drewN k) fun e w' => e = .returned (.int .i64 (z y : Nat)) ∧ w.drewN k = w') := fun k =>
    indexP_any _ (rowAt (mkT n t) y) (z y) (w.drewN k) (hri.drewN k) (by omega) (by omega) (by rw [hget _ hzl]; exact Z.zero y hy) (fun i hi h => by
      rw [hrl] at hi
      rw [hget _ hi] at h
      have h2 := Z.zero y hy
      rcases Nat.lt_trichotomy i (z y) with hh | hh | hh
      · exact absurd (h.trans h2.symm) (q.row y i (z y) hy hh hzl)
      · exact hh
      · exact absurd (h2.trans h.symm) (q.row y (z y) i hy hh hi))
  have hxi : (x : Int) < (n : Int) := by omega
  have hyi : (y : Int) < (n : Int) := by omega
  have hzi : ((z y : Nat) : Int) < (n : Int) := by omega
  generalize z y = zy at *
  generalize t x zy = val at *
  clear hsq ht hri hget
  go_enter Tryd.func34, Tryd.ntmps34
  go_wp2_with fail
  go_quiet ((go_at_call 35; exact quiet_same (HIX.out _)))
  go_wp2_with fail
  go_ret
  exact ⟨rfl, _, rfl⟩
def ZdPost (n : Nat) (t : Nat → Nat → Int) (w : World) (e : Ending) (w' : World) : Prop := ∃ v z, e = .returned (.tuple #[v, .bool true]) ∧ Zr n t z ∧ RT w' v (mkT n (fun x y => t x (z y))) ∧ Below w.heap.size w w'
set_option maxHeartbeats 2000000 in
theorem implZd_any (n : Nat) (hn : 1 ≤ n ∧ n ≤ 36) (t : Nat → Nat → Int) (v : Value) (w : World) (ht : RT w v (mkT n t)) (q : Qg n t) :
    Calls Tryd.prog 15 #[v] w (ZdPost n t w) := by
  obtain ⟨G, O, C, H, F, P, rfl, hsq⟩ := ht.sqn (by rw [mkT_len]; exact hn.1) (fun i hi => by rw [mkT_len] at hi ⊢; exact mkT_rowlen n t i hi)
  rw [mkT_len] at ht ⊢
  obtain ⟨z, Z⟩ := zr_of hn.1 q
  have hbA : Below w.heap.size w (w.alloc (.cells #[.slice (some ⟨G, O, none⟩) n C] 22)) := (Below.refl _ _).alloc (Nat.le_refl _) _
  have hc : (w.alloc (.cells #[.slice (some ⟨G, O, none⟩) n C] 22)).cell? ⟨w.heap.size, 0, none⟩ = some (.slice (some ⟨G, O, none⟩) n C) := World.cell?_alloc_at _ _ _ _ rfl
  have hzA : w.heap.size < (w.alloc (.cells #[.slice (some ⟨G, O, none⟩) n C] 22)).heap.size := by simp
  replace hsq := hsq.later hbA
  replace ht := ht.later hbA
  generalize hw1 : w.alloc (.cells #[.slice (some ⟨G, O, none⟩) n C] 22) = w1 at *
  have HQG : Hid (Calls Tryd.prog 17 #[.slice (some ⟨G, O, none⟩) n C] w1 fun e w' => e = .returned (.bool true) ∧ Below w1.heap.size w1 w') := by
    have := implQg_any _ (mkT n t) w1 ht (by rw [mkT_len]; omega) (fun j hj => by rw [mkT_len] at hj; rw [mkT_rowlen n t j hj]; omega)
    rw [qgB_mk.2 ⟨hn, q⟩] at this; exact this
  have HM : Hid (∀ w2, Below w1.heap.size w1 w2 → Calls Tryd.prog 33 #[.int .i64 n, .func (.func 34) #[] #[.pointer (some ⟨w.heap.size, 0, none⟩)]] w2 fun e w' => ∃ v', e = .returned v' ∧ OT w2.heap.size w'.heap.size w' v' (mkT n (fun x y => t x (z y))) ∧ Below w2.heap.size w2 w') := fun w2 hb2 =>
    madeZd n _ w.heap.size w2 (by omega) trivial (fun w3 i j hi hj hb3 => by
      have hb13 := hb2.trans (hb3.mono hb2.size)
      exact zd1_any n hn t z Z q w.heap.size C w3 (hsq.later hb13) (ht.later hb13) ((hb13.cell (p := ⟨w.heap.size, 0, none⟩) hzA).trans hc) i j hi hj)
  have HF : Hid (∀ v' w2 w', Below w1.heap.size w1 w2 → OT w2.heap.size w'.heap.size w' v' (mkT n (fun x y => t x (z y))) → Below w2.heap.size w2 w' → ZdPost n t w (.returned (.tuple #[v', .bool true])) w') := fun v' w2 w' h1 h2 h3 =>
    ⟨v', z, rfl, Z, h2.read, (hbA.trans (h1.mono (Nat.le_of_lt hzA))).trans (h3.mono (Nat.le_trans (Nat.le_of_lt hzA) h1.size))⟩
  have hc' := hc
  clear hsq ht Z q hbA
  go_enter Tryd.func15, Tryd.ntmps15
  go_wp2_with fail
  refine HQG.out.mono ?_
  rintro e w2 ⟨rfl, hb2⟩
  have hc2 := (hb2.cell (p := ⟨w.heap.size, 0, none⟩) hzA).trans hc
  go_wp2_with fail
  refine (HM.out w2 hb2).mono ?_
  rintro e w3 ⟨v', rfl, ho, hb3⟩
  have hF := HF.out _ _ _ hb2 ho hb3
  obtain ⟨va, vc, rfl⟩ := ho.slice
  clear ho
  go_wp2_with fail
  go_ret2
  exact hF
end Go.Proofs.YthcnhkjiojeemaaDoor
