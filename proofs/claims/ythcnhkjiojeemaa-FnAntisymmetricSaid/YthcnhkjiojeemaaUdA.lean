/- FnAntisymmetric: undetectedAt. Printed by wip/uda.py out of wip/uda.head. -/
import Derived.Test.YthcnhkjiojeemaaUdT
namespace Go.Proofs.Ythcnhkjiojeemaa
open Go.RowKit

theorem box_lat {w w' : World} {k : Nat} {o : Obj} {B : Nat} (h : w.heap[k]? = some o ∧ B ≤ k) (hb : Below w.heap.size w w') : w'.heap[k]? = some o ∧ B ≤ k :=
  ⟨(hb.block k (Array.getElem?_eq_some_iff.1 h.1).1).trans h.1, h.2⟩
theorem box_cell {w : World} {k : Nat} {v : Value} {Ty : TypeId} {B : Nat} (h : w.heap[k]? = some (.cells #[v] Ty (0, 0)) ∧ B ≤ k) : w.cell? ⟨k, 0, none⟩ = some v ∧ w.frozen? ⟨k, 0, none⟩ = false := by
  constructor
  · unfold World.cell?; simp only [h.1]; rfl
  · unfold World.frozen?; simp only [h.1]; rfl
theorem below_box {w1 w : World} {k : Nat} {o : Obj} (hb : Below w1.heap.size w1 w) (h : w.heap[k]? = some o ∧ w1.heap.size ≤ k) (v : Value) : Below w1.heap.size w1 (w.setCell ⟨k, 0, none⟩ v) := hb.setCell (p := ⟨k, 0, none⟩) h.2 v
theorem box_ne {w : World} {k q : Nat} {v u : Value} (h1 : w.heap[k]? = some (.cells #[v] 29 (0, 0))) (h2 : w.heap[q]? = some (.cells #[u] 97 (0, 0))) : ¬ k = q := fun e => by
  rw [e, h2] at h1
  simp only [Option.some.injEq, Obj.cells.injEq] at h1
  exact absurd h1.2.1 (by decide)
theorem set_ne {w : World} {k j o : Nat} {v u : Value} {x : Value} (hx : w.cell? ⟨k, o, none⟩ = some x) (hj : w.cell? ⟨j, 0, none⟩ = some u) (hk : w.cell? ⟨k, 0, none⟩ ≠ some u) : (w.setCell ⟨j, 0, none⟩ v).cell? ⟨k, o, none⟩ = some x := by
  refine Eq.trans ?_ hx
  exact World.cell?_setCell_other (h := by intro e2; simp only [Addr.mk.injEq, and_true] at e2; obtain ⟨rfl, _⟩ := e2; exact hk hj) ..
/-- The world behind the two boxes. -/
theorem us_end {cp n place kind : Nat} {T : Nat → Nat → Nat} {bs : List Int} {t : Nat → Nat → Int} {kk kc kb kp ko g gc G : Nat} {H : Nat → Nat} {w1 w : World} {B B' : Nat} (h1 : CE cp n T w1) (h2 : w1.cell? ⟨kk, 0, none⟩ = some (.int .i64 kind)) (h3 : w1.cell? ⟨kc, 0, none⟩ = some (.pointer (some ⟨cp, 0, none⟩))) (h4 : w1.cell? ⟨kp, 0, none⟩ = some (.int .i64 place))
    (hb : Below w1.heap.size w1 w) (h9 : w.heap[kb]? = some (.cells #[.slice none 0 0] 29 (0, 0)) ∧ w1.heap.size ≤ kb) (h10 : w.heap[ko]? = some (.cells #[.slice none 0 0] 97 (0, 0)) ∧ w1.heap.size ≤ ko) (hn : 1 ≤ n)
    (ho : OI B w (.slice (some ⟨g, 0, none⟩) n gc) bs) (hl : bs.length = n) (hg : GB B' G n n H t w) :
    US cp n place kind T bs t kk kc kb kp ko g gc G H ((w.setCell ⟨kb, 0, none⟩ (.slice (some ⟨g, 0, none⟩) n gc)).setCell ⟨ko, 0, none⟩ (.slice (some ⟨G, 0, none⟩) n n)) ∧
      Below w1.heap.size w1 ((w.setCell ⟨kb, 0, none⟩ (.slice (some ⟨g, 0, none⟩) n gc)).setCell ⟨ko, 0, none⟩ (.slice (some ⟨G, 0, none⟩) n n)) := by
  have hne : ko ≠ kb := fun e => by
    have := h9.1
    rw [← e, h10.1] at this
    simp only [Option.some.injEq, Obj.cells.injEq] at this
    exact absurd this.2.1 (by decide)
  have c9 := (box_cell h9).1
  have c10 := (box_cell h10).1
  have hbb : Below w1.heap.size w1 ((w.setCell ⟨kb, 0, none⟩ (.slice (some ⟨g, 0, none⟩) n gc)).setCell ⟨ko, 0, none⟩ (.slice (some ⟨G, 0, none⟩) n n)) := (hb.setCell (p := ⟨kb, 0, none⟩) h9.2 _).setCell (p := ⟨ko, 0, none⟩) h10.2 _
  have e10 : (w.setCell ⟨kb, 0, none⟩ (.slice (some ⟨g, 0, none⟩) n gc)).cell? ⟨ko, 0, none⟩ = some (.slice none 0 0) := by
    refine Eq.trans ?_ c10
    exact World.cell?_setCell_other (h := by intro e2; simp only [Addr.mk.injEq, and_true] at e2; exact hne e2.symm) ..
  have key : ∀ k o x, w.cell? ⟨k, o, none⟩ = some x → w.cell? ⟨k, 0, none⟩ ≠ some (.slice none 0 0) → ((w.setCell ⟨kb, 0, none⟩ (.slice (some ⟨g, 0, none⟩) n gc)).setCell ⟨ko, 0, none⟩ (.slice (some ⟨G, 0, none⟩) n n)).cell? ⟨k, o, none⟩ = some x := fun k o x hx hk => by
    have hkb : k ≠ kb := fun e => hk (e ▸ c9)
    have hko : k ≠ ko := fun e => hk (e ▸ c10)
    refine Eq.trans (World.cell?_setCell_other (h := by intro e2; simp only [Addr.mk.injEq, and_true] at e2; exact hko e2.1.symm) ..) (Eq.trans (World.cell?_setCell_other (h := by intro e2; simp only [Addr.mk.injEq, and_true] at e2; exact hkb e2.1.symm) ..) hx)
  refine ⟨⟨h1.later hbb, cell_lat h2 hbb, cell_lat h3 hbb, cell_lat h4 hbb, ?_, World.cell?_setCell_same (h := e10) .., fun s hs => key g s _ (ho.cell s (by omega)) ?_, fun i hi => key G i _ (hg.row i hi) ?_, fun i j hi hj => key (H i) j _ (hg.cell i j hi hj) ?_⟩, hbb⟩
  · refine Eq.trans (World.cell?_setCell_other (h := by intro e2; simp only [Addr.mk.injEq, and_true] at e2; exact hne e2) ..) (World.cell?_setCell_same (h := c9) ..)
  · rw [ho.cell 0 (by omega)]; simp
  · rw [hg.row 0 (by omega)]; simp
  · rw [hg.cell i 0 hi (by omega)]; simp
theorem errLen_any (K L : Nat) (h : K = 0 ∧ L = 1 ∨ K = 1 ∧ L = 2) (w : World) :
    Calls Try.prog 81 #[.int .i64 K] w fun e w' => e = .returned (.int .i64 L) ∧ w = w' := by
  rcases h with ⟨rfl, rfl⟩ | ⟨rfl, rfl⟩
  · go_enter Try.func81, Try.ntmps81
    go_wp2_with fail
    go_ret
    exact ⟨rfl, rfl⟩
  · go_enter Try.func81, Try.ntmps81
    go_wp2_with fail
    go_ret
    exact ⟨rfl, rfl⟩
/-- What undetectedAt says of swaps. -/
def SwQ (n place : Nat) (T : Nat → Nat → Nat) (x : Int) : Prop := (0 ≤ x ∧ x ≤ 3000000) ∧ (NoCl n T → x = 0) ∧ (place = 1 → ¬ NoCl n T → 1 ≤ x)
theorem made3 (w : World) (v5 v6 v7 : Value) (T5 T6 T7 : TypeId) (wA : World) (h : ((w.alloc (.cells #[v5] T5)).alloc (.cells #[v6] T6)).alloc (.cells #[v7] T7) = wA) :
    wA.cell? ⟨w.heap.size, 0, none⟩ = some v5 ∧ wA.cell? ⟨w.heap.size + 1, 0, none⟩ = some v6 ∧ wA.cell? ⟨w.heap.size + 1 + 1, 0, none⟩ = some v7 ∧ Below w.heap.size w wA := by
  generalize hw1 : w.alloc (.cells #[v5] T5) = w1 at *
  have s1 : w1.heap.size = w.heap.size + 1 := by rw [← hw1]; simp
  have a1 : w1.cell? ⟨w.heap.size, 0, none⟩ = some v5 := by rw [← hw1]; exact World.cell?_alloc_at _ _ _ _ rfl
  have g1 : Below w.heap.size w w1 := by rw [← hw1]; exact (Below.refl _ _).alloc (Nat.le_refl _) _
  generalize hw2 : w1.alloc (.cells #[v6] T6) = w2 at *
  have s2 : w2.heap.size = w.heap.size + 1 + 1 := by rw [← hw2]; simp [s1]
  have a2 : w2.cell? ⟨w1.heap.size, 0, none⟩ = some v6 := by rw [← hw2]; exact World.cell?_alloc_at _ _ _ _ rfl
  have g2 : Below w1.heap.size w1 w2 := by rw [← hw2]; exact (Below.refl _ _).alloc (Nat.le_refl _) _
  have a3 : wA.cell? ⟨w2.heap.size, 0, none⟩ = some v7 := by rw [← h]; exact World.cell?_alloc_at _ _ _ _ rfl
  have g3 : Below w2.heap.size w2 wA := by rw [← h]; exact (Below.refl _ _).alloc (Nat.le_refl _) _
  rw [s1] at a2
  rw [s2] at a3
  have g14 : Below w1.heap.size w1 wA := g2.trans (g3.mono g2.size)
  exact ⟨cell_lat a1 g14, cell_lat a2 g3, a3, g1.trans (g14.mono g1.size)⟩
theorem uw_start (W0 : World) : UW W0 0 ((W0.alloc (.cells #[.int .i64 0] 2)).alloc (.cells #[.int .i64 0] 2)) := by
  have h1 := heap_alloc_new W0 (.cells #[.int .i64 0] 2)
  have b1 : Below W0.heap.size W0 (W0.alloc (.cells #[.int .i64 0] 2)) := (Below.refl _ _).alloc (Nat.le_refl _) _
  have s1 : (W0.alloc (.cells #[.int .i64 0] 2)).heap.size = W0.heap.size + 1 := by simp
  generalize W0.alloc (.cells #[.int .i64 0] 2) = w1 at *
  have h2 := heap_alloc_new w1 (.cells #[.int .i64 0] 2)
  have b2 : Below w1.heap.size w1 (w1.alloc (.cells #[.int .i64 0] 2)) := (Below.refl _ _).alloc (Nat.le_refl _) _
  refine ⟨b1.trans (b2.mono b1.size), (b2.block _ (by omega)).trans h1, 0, ?_⟩
  rw [← s1]; exact h2
theorem cbt0 {cp n place r : Nat} {T : Nat → Nat → Nat} {bs : List Int} {t : Nat → Nat → Int} {kk kc kb kp ko g gc G : Nat} {H : Nat → Nat} {W0 : World} (q : QN n T) (hS : US cp n place 0 T bs t kk kc kb kp ko g gc G H W0)
    (hB : BgP n place bs) (hT : BoP n r t) (hr : place + r ≤ 3) (hpl : place + 1 ≤ 4) (hn : n ≤ 5) :
    Cbt W0 n 1 (.pointer (some ⟨kk, 0, none⟩)) (.pointer (some ⟨kc, 0, none⟩)) (.pointer (some ⟨kb, 0, none⟩)) (.pointer (some ⟨kp, 0, none⟩)) (.pointer (some ⟨W0.heap.size + 1, 0, none⟩)) (.pointer (some ⟨ko, 0, none⟩)) (.pointer (some ⟨W0.heap.size, 0, none⟩)) (fun _ => 0) := fun x f fg fc w hU hx hf hl hd => by
  match f, hl with
  | [a], _ =>
    rw [Int.add_zero]
    exact und1_0 q hS hB hT hr hpl hn x a fg fc w hU hx hf (hd a (by simp))
theorem cbt1 {cp n place r : Nat} {T : Nat → Nat → Nat} {bs : List Int} {t : Nat → Nat → Int} {kk kc kb kp ko g gc G : Nat} {H : Nat → Nat} {W0 : World} (q : QN n T) (hS : US cp n place 1 T bs t kk kc kb kp ko g gc G H W0)
    (hB : BgP n place bs) (hT : BoP n r t) (hr : place + r ≤ 3) (hpl : place + 2 ≤ 4) (hn : n ≤ 5) :
    Cbt W0 n 2 (.pointer (some ⟨kk, 0, none⟩)) (.pointer (some ⟨kc, 0, none⟩)) (.pointer (some ⟨kb, 0, none⟩)) (.pointer (some ⟨kp, 0, none⟩)) (.pointer (some ⟨W0.heap.size + 1, 0, none⟩)) (.pointer (some ⟨ko, 0, none⟩)) (.pointer (some ⟨W0.heap.size, 0, none⟩)) (fun f => cvS n T bs t (f.getD 0 0) (f.getD 1 0)) := fun x f fg fc w hU hx hf hl hd => by
  match f, hl with
  | [a, b], _ => exact und1_1 q hS hB hT hr hpl hn x a b fg fc w hU hx hf (hd a (by simp)) (hd b (by simp))
set_option maxRecDepth 100000 in
set_option maxHeartbeats 8000000 in
theorem ua0_any (cp n : Nat) (T : Nat → Nat → Nat) (q : QN n T) (w : World) (h : CE cp n T w) (hn : 1 ≤ n ∧ n ≤ 5) (place : Nat) (hp : place + 1 ≤ 4) :
    Calls Try.prog 69 #[.pointer (some ⟨cp, 0, none⟩), .int .i64 0, .int .i64 place] w fun e w' => ∃ x y, e = .returned (.tuple #[.int .i64 x, .int .i64 y]) ∧ Hid (x = 0) ∧ Below w.heap.size w w' := by
  obtain ⟨n1, n5⟩ := hn
  have HQ := Lib.hid q
  obtain ⟨pl, hpe⟩ : ∃ pl, pl = place + 1 := ⟨_, rfl⟩
  have hpl : IntKind.i64.wrap ((place : Int) + 1) = (pl : Int) := by rw [IntWalk.i64_in _ (by omega)]; omega
  have HPE := Lib.hid hpe
  have HBC : Hid (∀ w1 wx, CE cp n T w1 → Below w1.heap.size w1 wx → Calls Try.prog 82 #[.pointer (some ⟨cp, 0, none⟩), .int .i64 place] wx (BegPost n place wx)) := fun w1 wx hc hb =>
    begins_any cp n T q wx (hc.later hb) ⟨n1, n5⟩ place (by omega)
  have HBT : Hid (∀ w1 wx, CE cp n T w1 → Below w1.heap.size w1 wx → Calls Try.prog 83 #[.pointer (some ⟨cp, 0, none⟩), .int .i64 pl] wx (BotPost n (4 - pl) wx)) := fun w1 wx hc hb =>
    both_any cp n T q wx (hc.later hb) ⟨n1, n5⟩ pl (by omega)
  have HEL := Lib.hid (errLen_any 0 1 (by omega))
  have HM : Hid (∀ wA, ((w.alloc (.cells #[.pointer (some ⟨cp, 0, none⟩)] 68)).alloc (.cells #[.int .i64 0] 2)).alloc (.cells #[.int .i64 place] 3) = wA → CE cp n T wA ∧ wA.cell? ⟨w.heap.size, 0, none⟩ = some (.pointer (some ⟨cp, 0, none⟩)) ∧ wA.cell? ⟨w.heap.size + 1, 0, none⟩ = some (.int .i64 (0 : Nat)) ∧ wA.cell? ⟨w.heap.size + 1 + 1, 0, none⟩ = some (.int .i64 place) ∧ Below w.heap.size w wA) := fun wA hA => by
    obtain ⟨c5, c6, c7, hb⟩ := made3 w _ _ _ _ _ _ wA hA
    exact ⟨h.later hb, c5, c6, c7, hb⟩
  clear h q hpe
  go_enter Try.func69, Try.ntmps69
  go_upto_region 1 with fail
  generalize hw1 : ((w.alloc (.cells #[.pointer (some ⟨cp, 0, none⟩)] 68)).alloc (.cells #[.int .i64 0] 2)).alloc (.cells #[.int .i64 place] 3) = w1 at *
  obtain ⟨hce, hkc, hkk, hkp, hb1⟩ := HM.out w1 rfl
  have HCE := Lib.hid hce
  have HKK := Lib.hid hkk
  have HKC := Lib.hid hkc
  have HKP := Lib.hid hkp
  replace HBC := Lib.hid (fun wx hb => HBC.out w1 wx HCE.out hb)
  replace HBT := Lib.hid (fun wx hb => HBT.out w1 wx HCE.out hb)
  have HSS : Hid (∀ wx, Below w1.heap.size w1 wx → wx.cell? ⟨w.heap.size, 0, none⟩ = some (.pointer (some ⟨cp, 0, none⟩)) ∧ wx.cell? ⟨w.heap.size + 1 + 1, 0, none⟩ = some (.int .i64 place)) := fun wx hb => ⟨cell_lat HKC.out hb, cell_lat HKP.out hb⟩
  clear HM hw1 hce
  go_upto_region 2 with (go_at_call 81; refine (HEL.out _).mono ?_; rintro e w' ⟨rfl, rfl⟩)
  go_cut [9, 10] (fun v9 v10 wx => ∃ kb ko, v9 = .pointer (some ⟨kb, 0, none⟩) ∧ v10 = .pointer (some ⟨ko, 0, none⟩) ∧ ∃ bs t g gc G H, US cp n place 0 T bs t (w.heap.size + 1) w.heap.size kb (w.heap.size + 1 + 1) ko g gc G H wx ∧ BgP n place bs ∧ BoP n (4 - pl) t ∧ Below w1.heap.size w1 wx)
  case first =>
    refine wp_region_held_drew (S := fun w' => w'.cell? ⟨w.heap.size, 0, none⟩ = some (.pointer (some ⟨cp, 0, none⟩)) ∧ w'.cell? ⟨w.heap.size + 1 + 1, 0, none⟩ = some (.int .i64 place)) (by kernel_rfl) ⟨hkc, hkp⟩ (fun hHeld => ?_)
    have hbc : Below w1.heap.size w1 w1.drew := (Below.refl _ _).drew
    clear hkc hkk hkp
    obtain ⟨wd, hwd⟩ : ∃ x, x = w1.drew := ⟨_, rfl⟩
    rw [← hwd] at hbc hHeld ⊢
    clear hwd
    refine wpAnyH_take (i := 0) (oi := ⟨some 15, _, _, _, _, _⟩) (v := ?va0) rfl (by kernel_rfl) (by kernel_rfl) (by kernel_rfl) (fun _ _ _ h => h) (Or.inl ⟨by rfl, ?ya0⟩) (by assumption) ?ra0
    case ya0 => (intro w hSw; (try dsimp only at hSw); go_simp; all_goals (with_reducible rfl))
    try simp only [Act.put, List.setIfInBounds_toArray, List.set_cons_zero, List.set_cons_succ]
    refine wpAnyH_take (i := 1) (oi := ⟨some 16, _, _, _, _, _⟩) (v := ?va1) rfl (by kernel_rfl) (by kernel_rfl) (by kernel_rfl) (fun _ _ _ h => h) (Or.inl ⟨by rfl, ?ya1⟩) (by assumption) ?ra1
    case ya1 => (intro w hSw; (try dsimp only at hSw); go_simp; all_goals (with_reducible rfl))
    try simp only [Act.put, List.setIfInBounds_toArray, List.set_cons_zero, List.set_cons_succ]
    refine wpAnyH_take (i := 3) (oi := ⟨some 18, _, _, _, _, _⟩) (v := ?va3) rfl (by kernel_rfl) (by kernel_rfl) (by kernel_rfl) (fun _ _ _ h => h) (Or.inl ⟨by rfl, ?ya3⟩) (by assumption) ?ra3
    case ya3 => (intro w hSw; (try dsimp only at hSw); go_simp; all_goals (with_reducible rfl))
    try simp only [Act.put, List.setIfInBounds_toArray, List.set_cons_zero, List.set_cons_succ]
    refine wpAnyH_take (i := 4) (oi := ⟨some 19, _, _, _, _, _⟩) (v := ?va4) rfl (by kernel_rfl) (by kernel_rfl) (by kernel_rfl) (fun _ _ _ h => h) (Or.inl ⟨by rfl, ?ya4⟩) (by assumption) ?ra4
    case ya4 => (intro w hSw; (try dsimp only at hSw); go_simp; all_goals (with_reducible rfl))
    try simp only [Act.put, List.setIfInBounds_toArray, List.set_cons_zero, List.set_cons_succ]
    refine wpAnyH_take (i := 5) (oi := ⟨some 20, _, _, _, _, _⟩) (v := ?va5) rfl (by kernel_rfl) (by kernel_rfl) (by kernel_rfl) (fun _ _ _ h => h) (Or.inl ⟨by rfl, ?ya5⟩) (by assumption) ?ra5
    case ya5 => (intro w hSw; (try dsimp only at hSw); go_simp; all_goals (with_reducible rfl))
    try simp only [Act.put, List.setIfInBounds_toArray, List.set_cons_zero, List.set_cons_succ]
    refine wpAnyH_take (i := 6) (oi := ⟨some 21, _, _, _, _, _⟩) (v := ?va6) rfl (by kernel_rfl) (by kernel_rfl) (by kernel_rfl) (fun _ _ _ h => h) (Or.inl ⟨by rfl, ?ya6⟩) (by assumption) ?ra6
    case ya6 => (intro w hSw; (try dsimp only at hSw); go_simp; all_goals (with_reducible rfl))
    try simp only [Act.put, List.setIfInBounds_toArray, List.set_cons_zero, List.set_cons_succ]
    refine wpAnyH_ready (rs := [2, 8, 9]) (by kernel_rfl) (by simp) ?_
    refine AllReadyH.cons rfl (fun K hK => ?ah1) (AllReadyH.cons rfl (fun K hK => ?bh1) (AllReadyH.cons rfl (fun K hK => ?ch1) AllReadyH.nil))
    case ah1 =>
      go_simp
      go_at_call 82
      refine (HBC.out _ hbc).mono ?_
      rintro e we ⟨bv, bs, rfl, ho, hbg, hd⟩
      try replace HO := Lib.hid (OK.later HO.out hd)
      try replace HG := Lib.hid (HG.out.later hd)
      try replace H9 := Lib.hid (box_lat H9.out hd)
      try replace H10 := Lib.hid (box_lat H10.out hd)
      have HO : Hid (OI w1.heap.size we bv bs) := OK.mono ho hbc.size
      have HBG := Lib.hid hbg
      replace hbc := hbc.trans (hd.mono hbc.size)
      clear ho hbg hd
      obtain ⟨wd, rfl⟩ : ∃ x, x = we := ⟨_, rfl⟩
      refine hK.out _ _ (HSS.out _ hbc) (fun hHeld => ?_)
      clear hK K
      try simp only [Act.put, List.setIfInBounds_toArray, List.set_cons_zero, List.set_cons_succ]
      refine wpAnyH_ready (rs := [7, 8, 9]) (by kernel_rfl) (by simp) ?_
      refine AllReadyH.cons rfl (fun K hK => ?ah2) (AllReadyH.cons rfl (fun K hK => ?bh2) (AllReadyH.cons rfl (fun K hK => ?ch2) AllReadyH.nil))
      case ah2 =>
        go_simp
        go_at_call 83
        refine (HBT.out _ hbc).mono ?_
        rintro e we ⟨G, H, t, rfl, hg, hbo, hd⟩
        try replace HO := Lib.hid (OK.later HO.out hd)
        try replace HG := Lib.hid (HG.out.later hd)
        try replace H9 := Lib.hid (box_lat H9.out hd)
        try replace H10 := Lib.hid (box_lat H10.out hd)
        have HG : Hid (GB w1.heap.size G n n H t we) := hg.monoB hbc.size
        have HBO := Lib.hid hbo
        replace hbc := hbc.trans (hd.mono hbc.size)
        clear hg hbo hd
        obtain ⟨wd, rfl⟩ : ∃ x, x = we := ⟨_, rfl⟩
        refine hK.out _ _ (HSS.out _ hbc) (fun hHeld => ?_)
        clear hK K
        try simp only [Act.put, List.setIfInBounds_toArray, List.set_cons_zero, List.set_cons_succ]
        refine wpAnyH_ready (rs := [8, 9]) (by kernel_rfl) (by simp) ?_
        refine AllReadyH.cons rfl (fun K hK => ?ah3) (AllReadyH.cons rfl (fun K hK => ?bh3) AllReadyH.nil)
        case ah3 =>
          go_simp
          have hd : Below wd.heap.size wd (wd.alloc (.cells #[.slice none 0 0] 29)) := (Below.refl _ _).alloc (Nat.le_refl _) _
          try replace HO := Lib.hid (OK.later HO.out hd)
          try replace HG := Lib.hid (HG.out.later hd)
          try replace H9 := Lib.hid (box_lat H9.out hd)
          try replace H10 := Lib.hid (box_lat H10.out hd)
          have H9 : Hid ((wd.alloc (.cells #[.slice none 0 0] 29)).heap[wd.heap.size]? = some (.cells #[.slice none 0 0] 29 (0, 0)) ∧ w1.heap.size ≤ wd.heap.size) := ⟨heap_alloc_new _ _, hbc.size⟩
          replace hbc := hbc.trans (hd.mono hbc.size)
          clear hd
          generalize wd.alloc (.cells #[.slice none 0 0] 29) = wd at *
          refine hK.out _ _ (HSS.out _ hbc) (fun hHeld => ?_)
          clear hK K
          try simp only [Act.put, List.setIfInBounds_toArray, List.set_cons_zero, List.set_cons_succ]
          refine wpAnyH_ready (rs := [9]) (by kernel_rfl) (by simp) ?_
          refine AllReadyH.cons rfl (fun K hK => ?_) AllReadyH.nil
          go_simp
          have hd : Below wd.heap.size wd (wd.alloc (.cells #[.slice none 0 0] 97)) := (Below.refl _ _).alloc (Nat.le_refl _) _
          try replace HO := Lib.hid (OK.later HO.out hd)
          try replace HG := Lib.hid (HG.out.later hd)
          try replace H9 := Lib.hid (box_lat H9.out hd)
          try replace H10 := Lib.hid (box_lat H10.out hd)
          have H10 : Hid ((wd.alloc (.cells #[.slice none 0 0] 97)).heap[wd.heap.size]? = some (.cells #[.slice none 0 0] 97 (0, 0)) ∧ w1.heap.size ≤ wd.heap.size) := ⟨heap_alloc_new _ _, hbc.size⟩
          replace hbc := hbc.trans (hd.mono hbc.size)
          clear hd
          generalize wd.alloc (.cells #[.slice none 0 0] 97) = wd at *
          refine hK.out _ _ (HSS.out _ hbc) (fun hHeld => ?_)
          clear hK K
          try simp only [Act.put, List.setIfInBounds_toArray, List.set_cons_zero, List.set_cons_succ]
          rcases OK.shape HO.out with ⟨_, h0⟩ | ⟨g, gc, rfl, hB, hcap⟩
          · exfalso; have := HBG.out.len; rw [h0] at this; simp at this; omega
          rw [HBG.out.len] at HO ⊢
          obtain ⟨c9, z9⟩ := box_cell H9.out
          obtain ⟨c10, z10⟩ := box_cell H10.out
          have hne1 := box_ne H9.out.1 H10.out.1
          have HEND := Lib.hid (us_end (kk := w.heap.size + 1) (kc := w.heap.size) (kp := w.heap.size + 1 + 1) (place := place) (kind := 0) HCE.out HKK.out HKC.out HKP.out hbc H9.out H10.out n1 HO.out HBG.out.len HG.out)
          have hbc2 := below_box hbc H9.out (.slice (some ⟨g, 0, none⟩) n gc)
          refine wpAnyH_ready (rs := [10]) (by kernel_rfl) (by simp) ?_
          refine AllReadyH.cons rfl (fun K hK => ?_) AllReadyH.nil
          go_simp
          refine hK.out _ _ (HSS.out _ hbc2) (fun hHeld => ?_)
          clear hK K
          try simp only [Act.put, List.setIfInBounds_toArray, List.set_cons_zero, List.set_cons_succ]
          refine wpAnyH_ready (rs := [11]) (by kernel_rfl) (by simp) ?_
          refine AllReadyH.cons rfl (fun K hK => ?_) AllReadyH.nil
          go_simp
          refine hK.out _ _ (HSS.out _ HEND.out.2) (fun hHeld => ?_)
          clear hK K
          try simp only [Act.put, List.setIfInBounds_toArray, List.set_cons_zero, List.set_cons_succ]
          refine wpAnyH_done (by kernel_rfl) ?_ _
          go_wp2_with fail
          go_meet
          exact ⟨_, _, rfl, rfl, bs, t, g, gc, G, H, HEND.out.1, HBG.out, HBO.out, HEND.out.2⟩
        case bh3 =>
          go_simp
          have hd : Below wd.heap.size wd (wd.alloc (.cells #[.slice none 0 0] 97)) := (Below.refl _ _).alloc (Nat.le_refl _) _
          try replace HO := Lib.hid (OK.later HO.out hd)
          try replace HG := Lib.hid (HG.out.later hd)
          try replace H9 := Lib.hid (box_lat H9.out hd)
          try replace H10 := Lib.hid (box_lat H10.out hd)
          have H10 : Hid ((wd.alloc (.cells #[.slice none 0 0] 97)).heap[wd.heap.size]? = some (.cells #[.slice none 0 0] 97 (0, 0)) ∧ w1.heap.size ≤ wd.heap.size) := ⟨heap_alloc_new _ _, hbc.size⟩
          replace hbc := hbc.trans (hd.mono hbc.size)
          clear hd
          generalize wd.alloc (.cells #[.slice none 0 0] 97) = wd at *
          refine hK.out _ _ (HSS.out _ hbc) (fun hHeld => ?_)
          clear hK K
          try simp only [Act.put, List.setIfInBounds_toArray, List.set_cons_zero, List.set_cons_succ]
          refine wpAnyH_ready (rs := [8]) (by kernel_rfl) (by simp) ?_
          refine AllReadyH.cons rfl (fun K hK => ?_) AllReadyH.nil
          go_simp
          have hd : Below wd.heap.size wd (wd.alloc (.cells #[.slice none 0 0] 29)) := (Below.refl _ _).alloc (Nat.le_refl _) _
          try replace HO := Lib.hid (OK.later HO.out hd)
          try replace HG := Lib.hid (HG.out.later hd)
          try replace H9 := Lib.hid (box_lat H9.out hd)
          try replace H10 := Lib.hid (box_lat H10.out hd)
          have H9 : Hid ((wd.alloc (.cells #[.slice none 0 0] 29)).heap[wd.heap.size]? = some (.cells #[.slice none 0 0] 29 (0, 0)) ∧ w1.heap.size ≤ wd.heap.size) := ⟨heap_alloc_new _ _, hbc.size⟩
          replace hbc := hbc.trans (hd.mono hbc.size)
          clear hd
          generalize wd.alloc (.cells #[.slice none 0 0] 29) = wd at *
          refine hK.out _ _ (HSS.out _ hbc) (fun hHeld => ?_)
          clear hK K
          try simp only [Act.put, List.setIfInBounds_toArray, List.set_cons_zero, List.set_cons_succ]
          rcases OK.shape HO.out with ⟨_, h0⟩ | ⟨g, gc, rfl, hB, hcap⟩
          · exfalso; have := HBG.out.len; rw [h0] at this; simp at this; omega
          rw [HBG.out.len] at HO ⊢
          obtain ⟨c9, z9⟩ := box_cell H9.out
          obtain ⟨c10, z10⟩ := box_cell H10.out
          have hne1 := box_ne H9.out.1 H10.out.1
          have HEND := Lib.hid (us_end (kk := w.heap.size + 1) (kc := w.heap.size) (kp := w.heap.size + 1 + 1) (place := place) (kind := 0) HCE.out HKK.out HKC.out HKP.out hbc H9.out H10.out n1 HO.out HBG.out.len HG.out)
          have hbc2 := below_box hbc H9.out (.slice (some ⟨g, 0, none⟩) n gc)
          refine wpAnyH_ready (rs := [10]) (by kernel_rfl) (by simp) ?_
          refine AllReadyH.cons rfl (fun K hK => ?_) AllReadyH.nil
          go_simp
          refine hK.out _ _ (HSS.out _ hbc2) (fun hHeld => ?_)
          clear hK K
          try simp only [Act.put, List.setIfInBounds_toArray, List.set_cons_zero, List.set_cons_succ]
          refine wpAnyH_ready (rs := [11]) (by kernel_rfl) (by simp) ?_
          refine AllReadyH.cons rfl (fun K hK => ?_) AllReadyH.nil
          go_simp
          refine hK.out _ _ (HSS.out _ HEND.out.2) (fun hHeld => ?_)
          clear hK K
          try simp only [Act.put, List.setIfInBounds_toArray, List.set_cons_zero, List.set_cons_succ]
          refine wpAnyH_done (by kernel_rfl) ?_ _
          go_wp2_with fail
          go_meet
          exact ⟨_, _, rfl, rfl, bs, t, g, gc, G, H, HEND.out.1, HBG.out, HBO.out, HEND.out.2⟩
      case bh2 =>
        go_simp
        have hd : Below wd.heap.size wd (wd.alloc (.cells #[.slice none 0 0] 29)) := (Below.refl _ _).alloc (Nat.le_refl _) _
        try replace HO := Lib.hid (OK.later HO.out hd)
        try replace HG := Lib.hid (HG.out.later hd)
        try replace H9 := Lib.hid (box_lat H9.out hd)
        try replace H10 := Lib.hid (box_lat H10.out hd)
        have H9 : Hid ((wd.alloc (.cells #[.slice none 0 0] 29)).heap[wd.heap.size]? = some (.cells #[.slice none 0 0] 29 (0, 0)) ∧ w1.heap.size ≤ wd.heap.size) := ⟨heap_alloc_new _ _, hbc.size⟩
        replace hbc := hbc.trans (hd.mono hbc.size)
        clear hd
        generalize wd.alloc (.cells #[.slice none 0 0] 29) = wd at *
        refine hK.out _ _ (HSS.out _ hbc) (fun hHeld => ?_)
        clear hK K
        try simp only [Act.put, List.setIfInBounds_toArray, List.set_cons_zero, List.set_cons_succ]
        refine wpAnyH_ready (rs := [7, 9]) (by kernel_rfl) (by simp) ?_
        refine AllReadyH.cons rfl (fun K hK => ?ah4) (AllReadyH.cons rfl (fun K hK => ?bh4) AllReadyH.nil)
        case ah4 =>
          go_simp
          go_at_call 83
          refine (HBT.out _ hbc).mono ?_
          rintro e we ⟨G, H, t, rfl, hg, hbo, hd⟩
          try replace HO := Lib.hid (OK.later HO.out hd)
          try replace HG := Lib.hid (HG.out.later hd)
          try replace H9 := Lib.hid (box_lat H9.out hd)
          try replace H10 := Lib.hid (box_lat H10.out hd)
          have HG : Hid (GB w1.heap.size G n n H t we) := hg.monoB hbc.size
          have HBO := Lib.hid hbo
          replace hbc := hbc.trans (hd.mono hbc.size)
          clear hg hbo hd
          obtain ⟨wd, rfl⟩ : ∃ x, x = we := ⟨_, rfl⟩
          refine hK.out _ _ (HSS.out _ hbc) (fun hHeld => ?_)
          clear hK K
          try simp only [Act.put, List.setIfInBounds_toArray, List.set_cons_zero, List.set_cons_succ]
          refine wpAnyH_ready (rs := [9]) (by kernel_rfl) (by simp) ?_
          refine AllReadyH.cons rfl (fun K hK => ?_) AllReadyH.nil
          go_simp
          have hd : Below wd.heap.size wd (wd.alloc (.cells #[.slice none 0 0] 97)) := (Below.refl _ _).alloc (Nat.le_refl _) _
          try replace HO := Lib.hid (OK.later HO.out hd)
          try replace HG := Lib.hid (HG.out.later hd)
          try replace H9 := Lib.hid (box_lat H9.out hd)
          try replace H10 := Lib.hid (box_lat H10.out hd)
          have H10 : Hid ((wd.alloc (.cells #[.slice none 0 0] 97)).heap[wd.heap.size]? = some (.cells #[.slice none 0 0] 97 (0, 0)) ∧ w1.heap.size ≤ wd.heap.size) := ⟨heap_alloc_new _ _, hbc.size⟩
          replace hbc := hbc.trans (hd.mono hbc.size)
          clear hd
          generalize wd.alloc (.cells #[.slice none 0 0] 97) = wd at *
          refine hK.out _ _ (HSS.out _ hbc) (fun hHeld => ?_)
          clear hK K
          try simp only [Act.put, List.setIfInBounds_toArray, List.set_cons_zero, List.set_cons_succ]
          rcases OK.shape HO.out with ⟨_, h0⟩ | ⟨g, gc, rfl, hB, hcap⟩
          · exfalso; have := HBG.out.len; rw [h0] at this; simp at this; omega
          rw [HBG.out.len] at HO ⊢
          obtain ⟨c9, z9⟩ := box_cell H9.out
          obtain ⟨c10, z10⟩ := box_cell H10.out
          have hne1 := box_ne H9.out.1 H10.out.1
          have HEND := Lib.hid (us_end (kk := w.heap.size + 1) (kc := w.heap.size) (kp := w.heap.size + 1 + 1) (place := place) (kind := 0) HCE.out HKK.out HKC.out HKP.out hbc H9.out H10.out n1 HO.out HBG.out.len HG.out)
          have hbc2 := below_box hbc H9.out (.slice (some ⟨g, 0, none⟩) n gc)
          refine wpAnyH_ready (rs := [10]) (by kernel_rfl) (by simp) ?_
          refine AllReadyH.cons rfl (fun K hK => ?_) AllReadyH.nil
          go_simp
          refine hK.out _ _ (HSS.out _ hbc2) (fun hHeld => ?_)
          clear hK K
          try simp only [Act.put, List.setIfInBounds_toArray, List.set_cons_zero, List.set_cons_succ]
          refine wpAnyH_ready (rs := [11]) (by kernel_rfl) (by simp) ?_
          refine AllReadyH.cons rfl (fun K hK => ?_) AllReadyH.nil
          go_simp
          refine hK.out _ _ (HSS.out _ HEND.out.2) (fun hHeld => ?_)
          clear hK K
          try simp only [Act.put, List.setIfInBounds_toArray, List.set_cons_zero, List.set_cons_succ]
          refine wpAnyH_done (by kernel_rfl) ?_ _
          go_wp2_with fail
          go_meet
          exact ⟨_, _, rfl, rfl, bs, t, g, gc, G, H, HEND.out.1, HBG.out, HBO.out, HEND.out.2⟩
        case bh4 =>
          go_simp
          have hd : Below wd.heap.size wd (wd.alloc (.cells #[.slice none 0 0] 97)) := (Below.refl _ _).alloc (Nat.le_refl _) _
          try replace HO := Lib.hid (OK.later HO.out hd)
          try replace HG := Lib.hid (HG.out.later hd)
          try replace H9 := Lib.hid (box_lat H9.out hd)
          try replace H10 := Lib.hid (box_lat H10.out hd)
          have H10 : Hid ((wd.alloc (.cells #[.slice none 0 0] 97)).heap[wd.heap.size]? = some (.cells #[.slice none 0 0] 97 (0, 0)) ∧ w1.heap.size ≤ wd.heap.size) := ⟨heap_alloc_new _ _, hbc.size⟩
          replace hbc := hbc.trans (hd.mono hbc.size)
          clear hd
          generalize wd.alloc (.cells #[.slice none 0 0] 97) = wd at *
          refine hK.out _ _ (HSS.out _ hbc) (fun hHeld => ?_)
          clear hK K
          try simp only [Act.put, List.setIfInBounds_toArray, List.set_cons_zero, List.set_cons_succ]
          refine wpAnyH_ready (rs := [7]) (by kernel_rfl) (by simp) ?_
          refine AllReadyH.cons rfl (fun K hK => ?_) AllReadyH.nil
          go_simp
          go_at_call 83
          refine (HBT.out _ hbc).mono ?_
          rintro e we ⟨G, H, t, rfl, hg, hbo, hd⟩
          try replace HO := Lib.hid (OK.later HO.out hd)
          try replace HG := Lib.hid (HG.out.later hd)
          try replace H9 := Lib.hid (box_lat H9.out hd)
          try replace H10 := Lib.hid (box_lat H10.out hd)
          have HG : Hid (GB w1.heap.size G n n H t we) := hg.monoB hbc.size
          have HBO := Lib.hid hbo
          replace hbc := hbc.trans (hd.mono hbc.size)
          clear hg hbo hd
          obtain ⟨wd, rfl⟩ : ∃ x, x = we := ⟨_, rfl⟩
          refine hK.out _ _ (HSS.out _ hbc) (fun hHeld => ?_)
          clear hK K
          try simp only [Act.put, List.setIfInBounds_toArray, List.set_cons_zero, List.set_cons_succ]
          rcases OK.shape HO.out with ⟨_, h0⟩ | ⟨g, gc, rfl, hB, hcap⟩
          · exfalso; have := HBG.out.len; rw [h0] at this; simp at this; omega
          rw [HBG.out.len] at HO ⊢
          obtain ⟨c9, z9⟩ := box_cell H9.out
          obtain ⟨c10, z10⟩ := box_cell H10.out
          have hne1 := box_ne H9.out.1 H10.out.1
          have HEND := Lib.hid (us_end (kk := w.heap.size + 1) (kc := w.heap.size) (kp := w.heap.size + 1 + 1) (place := place) (kind := 0) HCE.out HKK.out HKC.out HKP.out hbc H9.out H10.out n1 HO.out HBG.out.len HG.out)
          have hbc2 := below_box hbc H9.out (.slice (some ⟨g, 0, none⟩) n gc)
          refine wpAnyH_ready (rs := [10]) (by kernel_rfl) (by simp) ?_
          refine AllReadyH.cons rfl (fun K hK => ?_) AllReadyH.nil
          go_simp
          refine hK.out _ _ (HSS.out _ hbc2) (fun hHeld => ?_)
          clear hK K
          try simp only [Act.put, List.setIfInBounds_toArray, List.set_cons_zero, List.set_cons_succ]
          refine wpAnyH_ready (rs := [11]) (by kernel_rfl) (by simp) ?_
          refine AllReadyH.cons rfl (fun K hK => ?_) AllReadyH.nil
          go_simp
          refine hK.out _ _ (HSS.out _ HEND.out.2) (fun hHeld => ?_)
          clear hK K
          try simp only [Act.put, List.setIfInBounds_toArray, List.set_cons_zero, List.set_cons_succ]
          refine wpAnyH_done (by kernel_rfl) ?_ _
          go_wp2_with fail
          go_meet
          exact ⟨_, _, rfl, rfl, bs, t, g, gc, G, H, HEND.out.1, HBG.out, HBO.out, HEND.out.2⟩
      case ch2 =>
        go_simp
        have hd : Below wd.heap.size wd (wd.alloc (.cells #[.slice none 0 0] 97)) := (Below.refl _ _).alloc (Nat.le_refl _) _
        try replace HO := Lib.hid (OK.later HO.out hd)
        try replace HG := Lib.hid (HG.out.later hd)
        try replace H9 := Lib.hid (box_lat H9.out hd)
        try replace H10 := Lib.hid (box_lat H10.out hd)
        have H10 : Hid ((wd.alloc (.cells #[.slice none 0 0] 97)).heap[wd.heap.size]? = some (.cells #[.slice none 0 0] 97 (0, 0)) ∧ w1.heap.size ≤ wd.heap.size) := ⟨heap_alloc_new _ _, hbc.size⟩
        replace hbc := hbc.trans (hd.mono hbc.size)
        clear hd
        generalize wd.alloc (.cells #[.slice none 0 0] 97) = wd at *
        refine hK.out _ _ (HSS.out _ hbc) (fun hHeld => ?_)
        clear hK K
        try simp only [Act.put, List.setIfInBounds_toArray, List.set_cons_zero, List.set_cons_succ]
        refine wpAnyH_ready (rs := [7, 8]) (by kernel_rfl) (by simp) ?_
        refine AllReadyH.cons rfl (fun K hK => ?ah5) (AllReadyH.cons rfl (fun K hK => ?bh5) AllReadyH.nil)
        case ah5 =>
          go_simp
          go_at_call 83
          refine (HBT.out _ hbc).mono ?_
          rintro e we ⟨G, H, t, rfl, hg, hbo, hd⟩
          try replace HO := Lib.hid (OK.later HO.out hd)
          try replace HG := Lib.hid (HG.out.later hd)
          try replace H9 := Lib.hid (box_lat H9.out hd)
          try replace H10 := Lib.hid (box_lat H10.out hd)
          have HG : Hid (GB w1.heap.size G n n H t we) := hg.monoB hbc.size
          have HBO := Lib.hid hbo
          replace hbc := hbc.trans (hd.mono hbc.size)
          clear hg hbo hd
          obtain ⟨wd, rfl⟩ : ∃ x, x = we := ⟨_, rfl⟩
          refine hK.out _ _ (HSS.out _ hbc) (fun hHeld => ?_)
          clear hK K
          try simp only [Act.put, List.setIfInBounds_toArray, List.set_cons_zero, List.set_cons_succ]
          refine wpAnyH_ready (rs := [8]) (by kernel_rfl) (by simp) ?_
          refine AllReadyH.cons rfl (fun K hK => ?_) AllReadyH.nil
          go_simp
          have hd : Below wd.heap.size wd (wd.alloc (.cells #[.slice none 0 0] 29)) := (Below.refl _ _).alloc (Nat.le_refl _) _
          try replace HO := Lib.hid (OK.later HO.out hd)
          try replace HG := Lib.hid (HG.out.later hd)
          try replace H9 := Lib.hid (box_lat H9.out hd)
          try replace H10 := Lib.hid (box_lat H10.out hd)
          have H9 : Hid ((wd.alloc (.cells #[.slice none 0 0] 29)).heap[wd.heap.size]? = some (.cells #[.slice none 0 0] 29 (0, 0)) ∧ w1.heap.size ≤ wd.heap.size) := ⟨heap_alloc_new _ _, hbc.size⟩
          replace hbc := hbc.trans (hd.mono hbc.size)
          clear hd
          generalize wd.alloc (.cells #[.slice none 0 0] 29) = wd at *
          refine hK.out _ _ (HSS.out _ hbc) (fun hHeld => ?_)
          clear hK K
          try simp only [Act.put, List.setIfInBounds_toArray, List.set_cons_zero, List.set_cons_succ]
          rcases OK.shape HO.out with ⟨_, h0⟩ | ⟨g, gc, rfl, hB, hcap⟩
          · exfalso; have := HBG.out.len; rw [h0] at this; simp at this; omega
          rw [HBG.out.len] at HO ⊢
          obtain ⟨c9, z9⟩ := box_cell H9.out
          obtain ⟨c10, z10⟩ := box_cell H10.out
          have hne1 := box_ne H9.out.1 H10.out.1
          have HEND := Lib.hid (us_end (kk := w.heap.size + 1) (kc := w.heap.size) (kp := w.heap.size + 1 + 1) (place := place) (kind := 0) HCE.out HKK.out HKC.out HKP.out hbc H9.out H10.out n1 HO.out HBG.out.len HG.out)
          have hbc2 := below_box hbc H9.out (.slice (some ⟨g, 0, none⟩) n gc)
          refine wpAnyH_ready (rs := [10]) (by kernel_rfl) (by simp) ?_
          refine AllReadyH.cons rfl (fun K hK => ?_) AllReadyH.nil
          go_simp
          refine hK.out _ _ (HSS.out _ hbc2) (fun hHeld => ?_)
          clear hK K
          try simp only [Act.put, List.setIfInBounds_toArray, List.set_cons_zero, List.set_cons_succ]
          refine wpAnyH_ready (rs := [11]) (by kernel_rfl) (by simp) ?_
          refine AllReadyH.cons rfl (fun K hK => ?_) AllReadyH.nil
          go_simp
          refine hK.out _ _ (HSS.out _ HEND.out.2) (fun hHeld => ?_)
          clear hK K
          try simp only [Act.put, List.setIfInBounds_toArray, List.set_cons_zero, List.set_cons_succ]
          refine wpAnyH_done (by kernel_rfl) ?_ _
          go_wp2_with fail
          go_meet
          exact ⟨_, _, rfl, rfl, bs, t, g, gc, G, H, HEND.out.1, HBG.out, HBO.out, HEND.out.2⟩
        case bh5 =>
          go_simp
          have hd : Below wd.heap.size wd (wd.alloc (.cells #[.slice none 0 0] 29)) := (Below.refl _ _).alloc (Nat.le_refl _) _
          try replace HO := Lib.hid (OK.later HO.out hd)
          try replace HG := Lib.hid (HG.out.later hd)
          try replace H9 := Lib.hid (box_lat H9.out hd)
          try replace H10 := Lib.hid (box_lat H10.out hd)
          have H9 : Hid ((wd.alloc (.cells #[.slice none 0 0] 29)).heap[wd.heap.size]? = some (.cells #[.slice none 0 0] 29 (0, 0)) ∧ w1.heap.size ≤ wd.heap.size) := ⟨heap_alloc_new _ _, hbc.size⟩
          replace hbc := hbc.trans (hd.mono hbc.size)
          clear hd
          generalize wd.alloc (.cells #[.slice none 0 0] 29) = wd at *
          refine hK.out _ _ (HSS.out _ hbc) (fun hHeld => ?_)
          clear hK K
          try simp only [Act.put, List.setIfInBounds_toArray, List.set_cons_zero, List.set_cons_succ]
          refine wpAnyH_ready (rs := [7]) (by kernel_rfl) (by simp) ?_
          refine AllReadyH.cons rfl (fun K hK => ?_) AllReadyH.nil
          go_simp
          go_at_call 83
          refine (HBT.out _ hbc).mono ?_
          rintro e we ⟨G, H, t, rfl, hg, hbo, hd⟩
          try replace HO := Lib.hid (OK.later HO.out hd)
          try replace HG := Lib.hid (HG.out.later hd)
          try replace H9 := Lib.hid (box_lat H9.out hd)
          try replace H10 := Lib.hid (box_lat H10.out hd)
          have HG : Hid (GB w1.heap.size G n n H t we) := hg.monoB hbc.size
          have HBO := Lib.hid hbo
          replace hbc := hbc.trans (hd.mono hbc.size)
          clear hg hbo hd
          obtain ⟨wd, rfl⟩ : ∃ x, x = we := ⟨_, rfl⟩
          refine hK.out _ _ (HSS.out _ hbc) (fun hHeld => ?_)
          clear hK K
          try simp only [Act.put, List.setIfInBounds_toArray, List.set_cons_zero, List.set_cons_succ]
          rcases OK.shape HO.out with ⟨_, h0⟩ | ⟨g, gc, rfl, hB, hcap⟩
          · exfalso; have := HBG.out.len; rw [h0] at this; simp at this; omega
          rw [HBG.out.len] at HO ⊢
          obtain ⟨c9, z9⟩ := box_cell H9.out
          obtain ⟨c10, z10⟩ := box_cell H10.out
          have hne1 := box_ne H9.out.1 H10.out.1
          have HEND := Lib.hid (us_end (kk := w.heap.size + 1) (kc := w.heap.size) (kp := w.heap.size + 1 + 1) (place := place) (kind := 0) HCE.out HKK.out HKC.out HKP.out hbc H9.out H10.out n1 HO.out HBG.out.len HG.out)
          have hbc2 := below_box hbc H9.out (.slice (some ⟨g, 0, none⟩) n gc)
          refine wpAnyH_ready (rs := [10]) (by kernel_rfl) (by simp) ?_
          refine AllReadyH.cons rfl (fun K hK => ?_) AllReadyH.nil
          go_simp
          refine hK.out _ _ (HSS.out _ hbc2) (fun hHeld => ?_)
          clear hK K
          try simp only [Act.put, List.setIfInBounds_toArray, List.set_cons_zero, List.set_cons_succ]
          refine wpAnyH_ready (rs := [11]) (by kernel_rfl) (by simp) ?_
          refine AllReadyH.cons rfl (fun K hK => ?_) AllReadyH.nil
          go_simp
          refine hK.out _ _ (HSS.out _ HEND.out.2) (fun hHeld => ?_)
          clear hK K
          try simp only [Act.put, List.setIfInBounds_toArray, List.set_cons_zero, List.set_cons_succ]
          refine wpAnyH_done (by kernel_rfl) ?_ _
          go_wp2_with fail
          go_meet
          exact ⟨_, _, rfl, rfl, bs, t, g, gc, G, H, HEND.out.1, HBG.out, HBO.out, HEND.out.2⟩
    case bh1 =>
      go_simp
      have hd : Below wd.heap.size wd (wd.alloc (.cells #[.slice none 0 0] 29)) := (Below.refl _ _).alloc (Nat.le_refl _) _
      try replace HO := Lib.hid (OK.later HO.out hd)
      try replace HG := Lib.hid (HG.out.later hd)
      try replace H9 := Lib.hid (box_lat H9.out hd)
      try replace H10 := Lib.hid (box_lat H10.out hd)
      have H9 : Hid ((wd.alloc (.cells #[.slice none 0 0] 29)).heap[wd.heap.size]? = some (.cells #[.slice none 0 0] 29 (0, 0)) ∧ w1.heap.size ≤ wd.heap.size) := ⟨heap_alloc_new _ _, hbc.size⟩
      replace hbc := hbc.trans (hd.mono hbc.size)
      clear hd
      generalize wd.alloc (.cells #[.slice none 0 0] 29) = wd at *
      refine hK.out _ _ (HSS.out _ hbc) (fun hHeld => ?_)
      clear hK K
      try simp only [Act.put, List.setIfInBounds_toArray, List.set_cons_zero, List.set_cons_succ]
      refine wpAnyH_ready (rs := [2, 9]) (by kernel_rfl) (by simp) ?_
      refine AllReadyH.cons rfl (fun K hK => ?ah6) (AllReadyH.cons rfl (fun K hK => ?bh6) AllReadyH.nil)
      case ah6 =>
        go_simp
        go_at_call 82
        refine (HBC.out _ hbc).mono ?_
        rintro e we ⟨bv, bs, rfl, ho, hbg, hd⟩
        try replace HO := Lib.hid (OK.later HO.out hd)
        try replace HG := Lib.hid (HG.out.later hd)
        try replace H9 := Lib.hid (box_lat H9.out hd)
        try replace H10 := Lib.hid (box_lat H10.out hd)
        have HO : Hid (OI w1.heap.size we bv bs) := OK.mono ho hbc.size
        have HBG := Lib.hid hbg
        replace hbc := hbc.trans (hd.mono hbc.size)
        clear ho hbg hd
        obtain ⟨wd, rfl⟩ : ∃ x, x = we := ⟨_, rfl⟩
        refine hK.out _ _ (HSS.out _ hbc) (fun hHeld => ?_)
        clear hK K
        try simp only [Act.put, List.setIfInBounds_toArray, List.set_cons_zero, List.set_cons_succ]
        refine wpAnyH_ready (rs := [7, 9]) (by kernel_rfl) (by simp) ?_
        refine AllReadyH.cons rfl (fun K hK => ?ah7) (AllReadyH.cons rfl (fun K hK => ?bh7) AllReadyH.nil)
        case ah7 =>
          go_simp
          go_at_call 83
          refine (HBT.out _ hbc).mono ?_
          rintro e we ⟨G, H, t, rfl, hg, hbo, hd⟩
          try replace HO := Lib.hid (OK.later HO.out hd)
          try replace HG := Lib.hid (HG.out.later hd)
          try replace H9 := Lib.hid (box_lat H9.out hd)
          try replace H10 := Lib.hid (box_lat H10.out hd)
          have HG : Hid (GB w1.heap.size G n n H t we) := hg.monoB hbc.size
          have HBO := Lib.hid hbo
          replace hbc := hbc.trans (hd.mono hbc.size)
          clear hg hbo hd
          obtain ⟨wd, rfl⟩ : ∃ x, x = we := ⟨_, rfl⟩
          refine hK.out _ _ (HSS.out _ hbc) (fun hHeld => ?_)
          clear hK K
          try simp only [Act.put, List.setIfInBounds_toArray, List.set_cons_zero, List.set_cons_succ]
          refine wpAnyH_ready (rs := [9]) (by kernel_rfl) (by simp) ?_
          refine AllReadyH.cons rfl (fun K hK => ?_) AllReadyH.nil
          go_simp
          have hd : Below wd.heap.size wd (wd.alloc (.cells #[.slice none 0 0] 97)) := (Below.refl _ _).alloc (Nat.le_refl _) _
          try replace HO := Lib.hid (OK.later HO.out hd)
          try replace HG := Lib.hid (HG.out.later hd)
          try replace H9 := Lib.hid (box_lat H9.out hd)
          try replace H10 := Lib.hid (box_lat H10.out hd)
          have H10 : Hid ((wd.alloc (.cells #[.slice none 0 0] 97)).heap[wd.heap.size]? = some (.cells #[.slice none 0 0] 97 (0, 0)) ∧ w1.heap.size ≤ wd.heap.size) := ⟨heap_alloc_new _ _, hbc.size⟩
          replace hbc := hbc.trans (hd.mono hbc.size)
          clear hd
          generalize wd.alloc (.cells #[.slice none 0 0] 97) = wd at *
          refine hK.out _ _ (HSS.out _ hbc) (fun hHeld => ?_)
          clear hK K
          try simp only [Act.put, List.setIfInBounds_toArray, List.set_cons_zero, List.set_cons_succ]
          rcases OK.shape HO.out with ⟨_, h0⟩ | ⟨g, gc, rfl, hB, hcap⟩
          · exfalso; have := HBG.out.len; rw [h0] at this; simp at this; omega
          rw [HBG.out.len] at HO ⊢
          obtain ⟨c9, z9⟩ := box_cell H9.out
          obtain ⟨c10, z10⟩ := box_cell H10.out
          have hne1 := box_ne H9.out.1 H10.out.1
          have HEND := Lib.hid (us_end (kk := w.heap.size + 1) (kc := w.heap.size) (kp := w.heap.size + 1 + 1) (place := place) (kind := 0) HCE.out HKK.out HKC.out HKP.out hbc H9.out H10.out n1 HO.out HBG.out.len HG.out)
          have hbc2 := below_box hbc H9.out (.slice (some ⟨g, 0, none⟩) n gc)
          refine wpAnyH_ready (rs := [10]) (by kernel_rfl) (by simp) ?_
          refine AllReadyH.cons rfl (fun K hK => ?_) AllReadyH.nil
          go_simp
          refine hK.out _ _ (HSS.out _ hbc2) (fun hHeld => ?_)
          clear hK K
          try simp only [Act.put, List.setIfInBounds_toArray, List.set_cons_zero, List.set_cons_succ]
          refine wpAnyH_ready (rs := [11]) (by kernel_rfl) (by simp) ?_
          refine AllReadyH.cons rfl (fun K hK => ?_) AllReadyH.nil
          go_simp
          refine hK.out _ _ (HSS.out _ HEND.out.2) (fun hHeld => ?_)
          clear hK K
          try simp only [Act.put, List.setIfInBounds_toArray, List.set_cons_zero, List.set_cons_succ]
          refine wpAnyH_done (by kernel_rfl) ?_ _
          go_wp2_with fail
          go_meet
          exact ⟨_, _, rfl, rfl, bs, t, g, gc, G, H, HEND.out.1, HBG.out, HBO.out, HEND.out.2⟩
        case bh7 =>
          go_simp
          have hd : Below wd.heap.size wd (wd.alloc (.cells #[.slice none 0 0] 97)) := (Below.refl _ _).alloc (Nat.le_refl _) _
          try replace HO := Lib.hid (OK.later HO.out hd)
          try replace HG := Lib.hid (HG.out.later hd)
          try replace H9 := Lib.hid (box_lat H9.out hd)
          try replace H10 := Lib.hid (box_lat H10.out hd)
          have H10 : Hid ((wd.alloc (.cells #[.slice none 0 0] 97)).heap[wd.heap.size]? = some (.cells #[.slice none 0 0] 97 (0, 0)) ∧ w1.heap.size ≤ wd.heap.size) := ⟨heap_alloc_new _ _, hbc.size⟩
          replace hbc := hbc.trans (hd.mono hbc.size)
          clear hd
          generalize wd.alloc (.cells #[.slice none 0 0] 97) = wd at *
          refine hK.out _ _ (HSS.out _ hbc) (fun hHeld => ?_)
          clear hK K
          try simp only [Act.put, List.setIfInBounds_toArray, List.set_cons_zero, List.set_cons_succ]
          refine wpAnyH_ready (rs := [7]) (by kernel_rfl) (by simp) ?_
          refine AllReadyH.cons rfl (fun K hK => ?_) AllReadyH.nil
          go_simp
          go_at_call 83
          refine (HBT.out _ hbc).mono ?_
          rintro e we ⟨G, H, t, rfl, hg, hbo, hd⟩
          try replace HO := Lib.hid (OK.later HO.out hd)
          try replace HG := Lib.hid (HG.out.later hd)
          try replace H9 := Lib.hid (box_lat H9.out hd)
          try replace H10 := Lib.hid (box_lat H10.out hd)
          have HG : Hid (GB w1.heap.size G n n H t we) := hg.monoB hbc.size
          have HBO := Lib.hid hbo
          replace hbc := hbc.trans (hd.mono hbc.size)
          clear hg hbo hd
          obtain ⟨wd, rfl⟩ : ∃ x, x = we := ⟨_, rfl⟩
          refine hK.out _ _ (HSS.out _ hbc) (fun hHeld => ?_)
          clear hK K
          try simp only [Act.put, List.setIfInBounds_toArray, List.set_cons_zero, List.set_cons_succ]
          rcases OK.shape HO.out with ⟨_, h0⟩ | ⟨g, gc, rfl, hB, hcap⟩
          · exfalso; have := HBG.out.len; rw [h0] at this; simp at this; omega
          rw [HBG.out.len] at HO ⊢
          obtain ⟨c9, z9⟩ := box_cell H9.out
          obtain ⟨c10, z10⟩ := box_cell H10.out
          have hne1 := box_ne H9.out.1 H10.out.1
          have HEND := Lib.hid (us_end (kk := w.heap.size + 1) (kc := w.heap.size) (kp := w.heap.size + 1 + 1) (place := place) (kind := 0) HCE.out HKK.out HKC.out HKP.out hbc H9.out H10.out n1 HO.out HBG.out.len HG.out)
          have hbc2 := below_box hbc H9.out (.slice (some ⟨g, 0, none⟩) n gc)
          refine wpAnyH_ready (rs := [10]) (by kernel_rfl) (by simp) ?_
          refine AllReadyH.cons rfl (fun K hK => ?_) AllReadyH.nil
          go_simp
          refine hK.out _ _ (HSS.out _ hbc2) (fun hHeld => ?_)
          clear hK K
          try simp only [Act.put, List.setIfInBounds_toArray, List.set_cons_zero, List.set_cons_succ]
          refine wpAnyH_ready (rs := [11]) (by kernel_rfl) (by simp) ?_
          refine AllReadyH.cons rfl (fun K hK => ?_) AllReadyH.nil
          go_simp
          refine hK.out _ _ (HSS.out _ HEND.out.2) (fun hHeld => ?_)
          clear hK K
          try simp only [Act.put, List.setIfInBounds_toArray, List.set_cons_zero, List.set_cons_succ]
          refine wpAnyH_done (by kernel_rfl) ?_ _
          go_wp2_with fail
          go_meet
          exact ⟨_, _, rfl, rfl, bs, t, g, gc, G, H, HEND.out.1, HBG.out, HBO.out, HEND.out.2⟩
      case bh6 =>
        go_simp
        have hd : Below wd.heap.size wd (wd.alloc (.cells #[.slice none 0 0] 97)) := (Below.refl _ _).alloc (Nat.le_refl _) _
        try replace HO := Lib.hid (OK.later HO.out hd)
        try replace HG := Lib.hid (HG.out.later hd)
        try replace H9 := Lib.hid (box_lat H9.out hd)
        try replace H10 := Lib.hid (box_lat H10.out hd)
        have H10 : Hid ((wd.alloc (.cells #[.slice none 0 0] 97)).heap[wd.heap.size]? = some (.cells #[.slice none 0 0] 97 (0, 0)) ∧ w1.heap.size ≤ wd.heap.size) := ⟨heap_alloc_new _ _, hbc.size⟩
        replace hbc := hbc.trans (hd.mono hbc.size)
        clear hd
        generalize wd.alloc (.cells #[.slice none 0 0] 97) = wd at *
        refine hK.out _ _ (HSS.out _ hbc) (fun hHeld => ?_)
        clear hK K
        try simp only [Act.put, List.setIfInBounds_toArray, List.set_cons_zero, List.set_cons_succ]
        refine wpAnyH_ready (rs := [2]) (by kernel_rfl) (by simp) ?_
        refine AllReadyH.cons rfl (fun K hK => ?_) AllReadyH.nil
        go_simp
        go_at_call 82
        refine (HBC.out _ hbc).mono ?_
        rintro e we ⟨bv, bs, rfl, ho, hbg, hd⟩
        try replace HO := Lib.hid (OK.later HO.out hd)
        try replace HG := Lib.hid (HG.out.later hd)
        try replace H9 := Lib.hid (box_lat H9.out hd)
        try replace H10 := Lib.hid (box_lat H10.out hd)
        have HO : Hid (OI w1.heap.size we bv bs) := OK.mono ho hbc.size
        have HBG := Lib.hid hbg
        replace hbc := hbc.trans (hd.mono hbc.size)
        clear ho hbg hd
        obtain ⟨wd, rfl⟩ : ∃ x, x = we := ⟨_, rfl⟩
        refine hK.out _ _ (HSS.out _ hbc) (fun hHeld => ?_)
        clear hK K
        try simp only [Act.put, List.setIfInBounds_toArray, List.set_cons_zero, List.set_cons_succ]
        refine wpAnyH_ready (rs := [7]) (by kernel_rfl) (by simp) ?_
        refine AllReadyH.cons rfl (fun K hK => ?_) AllReadyH.nil
        go_simp
        go_at_call 83
        refine (HBT.out _ hbc).mono ?_
        rintro e we ⟨G, H, t, rfl, hg, hbo, hd⟩
        try replace HO := Lib.hid (OK.later HO.out hd)
        try replace HG := Lib.hid (HG.out.later hd)
        try replace H9 := Lib.hid (box_lat H9.out hd)
        try replace H10 := Lib.hid (box_lat H10.out hd)
        have HG : Hid (GB w1.heap.size G n n H t we) := hg.monoB hbc.size
        have HBO := Lib.hid hbo
        replace hbc := hbc.trans (hd.mono hbc.size)
        clear hg hbo hd
        obtain ⟨wd, rfl⟩ : ∃ x, x = we := ⟨_, rfl⟩
        refine hK.out _ _ (HSS.out _ hbc) (fun hHeld => ?_)
        clear hK K
        try simp only [Act.put, List.setIfInBounds_toArray, List.set_cons_zero, List.set_cons_succ]
        rcases OK.shape HO.out with ⟨_, h0⟩ | ⟨g, gc, rfl, hB, hcap⟩
        · exfalso; have := HBG.out.len; rw [h0] at this; simp at this; omega
        rw [HBG.out.len] at HO ⊢
        obtain ⟨c9, z9⟩ := box_cell H9.out
        obtain ⟨c10, z10⟩ := box_cell H10.out
        have hne1 := box_ne H9.out.1 H10.out.1
        have HEND := Lib.hid (us_end (kk := w.heap.size + 1) (kc := w.heap.size) (kp := w.heap.size + 1 + 1) (place := place) (kind := 0) HCE.out HKK.out HKC.out HKP.out hbc H9.out H10.out n1 HO.out HBG.out.len HG.out)
        have hbc2 := below_box hbc H9.out (.slice (some ⟨g, 0, none⟩) n gc)
        refine wpAnyH_ready (rs := [10]) (by kernel_rfl) (by simp) ?_
        refine AllReadyH.cons rfl (fun K hK => ?_) AllReadyH.nil
        go_simp
        refine hK.out _ _ (HSS.out _ hbc2) (fun hHeld => ?_)
        clear hK K
        try simp only [Act.put, List.setIfInBounds_toArray, List.set_cons_zero, List.set_cons_succ]
        refine wpAnyH_ready (rs := [11]) (by kernel_rfl) (by simp) ?_
        refine AllReadyH.cons rfl (fun K hK => ?_) AllReadyH.nil
        go_simp
        refine hK.out _ _ (HSS.out _ HEND.out.2) (fun hHeld => ?_)
        clear hK K
        try simp only [Act.put, List.setIfInBounds_toArray, List.set_cons_zero, List.set_cons_succ]
        refine wpAnyH_done (by kernel_rfl) ?_ _
        go_wp2_with fail
        go_meet
        exact ⟨_, _, rfl, rfl, bs, t, g, gc, G, H, HEND.out.1, HBG.out, HBO.out, HEND.out.2⟩
    case ch1 =>
      go_simp
      have hd : Below wd.heap.size wd (wd.alloc (.cells #[.slice none 0 0] 97)) := (Below.refl _ _).alloc (Nat.le_refl _) _
      try replace HO := Lib.hid (OK.later HO.out hd)
      try replace HG := Lib.hid (HG.out.later hd)
      try replace H9 := Lib.hid (box_lat H9.out hd)
      try replace H10 := Lib.hid (box_lat H10.out hd)
      have H10 : Hid ((wd.alloc (.cells #[.slice none 0 0] 97)).heap[wd.heap.size]? = some (.cells #[.slice none 0 0] 97 (0, 0)) ∧ w1.heap.size ≤ wd.heap.size) := ⟨heap_alloc_new _ _, hbc.size⟩
      replace hbc := hbc.trans (hd.mono hbc.size)
      clear hd
      generalize wd.alloc (.cells #[.slice none 0 0] 97) = wd at *
      refine hK.out _ _ (HSS.out _ hbc) (fun hHeld => ?_)
      clear hK K
      try simp only [Act.put, List.setIfInBounds_toArray, List.set_cons_zero, List.set_cons_succ]
      refine wpAnyH_ready (rs := [2, 8]) (by kernel_rfl) (by simp) ?_
      refine AllReadyH.cons rfl (fun K hK => ?ah8) (AllReadyH.cons rfl (fun K hK => ?bh8) AllReadyH.nil)
      case ah8 =>
        go_simp
        go_at_call 82
        refine (HBC.out _ hbc).mono ?_
        rintro e we ⟨bv, bs, rfl, ho, hbg, hd⟩
        try replace HO := Lib.hid (OK.later HO.out hd)
        try replace HG := Lib.hid (HG.out.later hd)
        try replace H9 := Lib.hid (box_lat H9.out hd)
        try replace H10 := Lib.hid (box_lat H10.out hd)
        have HO : Hid (OI w1.heap.size we bv bs) := OK.mono ho hbc.size
        have HBG := Lib.hid hbg
        replace hbc := hbc.trans (hd.mono hbc.size)
        clear ho hbg hd
        obtain ⟨wd, rfl⟩ : ∃ x, x = we := ⟨_, rfl⟩
        refine hK.out _ _ (HSS.out _ hbc) (fun hHeld => ?_)
        clear hK K
        try simp only [Act.put, List.setIfInBounds_toArray, List.set_cons_zero, List.set_cons_succ]
        refine wpAnyH_ready (rs := [7, 8]) (by kernel_rfl) (by simp) ?_
        refine AllReadyH.cons rfl (fun K hK => ?ah9) (AllReadyH.cons rfl (fun K hK => ?bh9) AllReadyH.nil)
        case ah9 =>
          go_simp
          go_at_call 83
          refine (HBT.out _ hbc).mono ?_
          rintro e we ⟨G, H, t, rfl, hg, hbo, hd⟩
          try replace HO := Lib.hid (OK.later HO.out hd)
          try replace HG := Lib.hid (HG.out.later hd)
          try replace H9 := Lib.hid (box_lat H9.out hd)
          try replace H10 := Lib.hid (box_lat H10.out hd)
          have HG : Hid (GB w1.heap.size G n n H t we) := hg.monoB hbc.size
          have HBO := Lib.hid hbo
          replace hbc := hbc.trans (hd.mono hbc.size)
          clear hg hbo hd
          obtain ⟨wd, rfl⟩ : ∃ x, x = we := ⟨_, rfl⟩
          refine hK.out _ _ (HSS.out _ hbc) (fun hHeld => ?_)
          clear hK K
          try simp only [Act.put, List.setIfInBounds_toArray, List.set_cons_zero, List.set_cons_succ]
          refine wpAnyH_ready (rs := [8]) (by kernel_rfl) (by simp) ?_
          refine AllReadyH.cons rfl (fun K hK => ?_) AllReadyH.nil
          go_simp
          have hd : Below wd.heap.size wd (wd.alloc (.cells #[.slice none 0 0] 29)) := (Below.refl _ _).alloc (Nat.le_refl _) _
          try replace HO := Lib.hid (OK.later HO.out hd)
          try replace HG := Lib.hid (HG.out.later hd)
          try replace H9 := Lib.hid (box_lat H9.out hd)
          try replace H10 := Lib.hid (box_lat H10.out hd)
          have H9 : Hid ((wd.alloc (.cells #[.slice none 0 0] 29)).heap[wd.heap.size]? = some (.cells #[.slice none 0 0] 29 (0, 0)) ∧ w1.heap.size ≤ wd.heap.size) := ⟨heap_alloc_new _ _, hbc.size⟩
          replace hbc := hbc.trans (hd.mono hbc.size)
          clear hd
          generalize wd.alloc (.cells #[.slice none 0 0] 29) = wd at *
          refine hK.out _ _ (HSS.out _ hbc) (fun hHeld => ?_)
          clear hK K
          try simp only [Act.put, List.setIfInBounds_toArray, List.set_cons_zero, List.set_cons_succ]
          rcases OK.shape HO.out with ⟨_, h0⟩ | ⟨g, gc, rfl, hB, hcap⟩
          · exfalso; have := HBG.out.len; rw [h0] at this; simp at this; omega
          rw [HBG.out.len] at HO ⊢
          obtain ⟨c9, z9⟩ := box_cell H9.out
          obtain ⟨c10, z10⟩ := box_cell H10.out
          have hne1 := box_ne H9.out.1 H10.out.1
          have HEND := Lib.hid (us_end (kk := w.heap.size + 1) (kc := w.heap.size) (kp := w.heap.size + 1 + 1) (place := place) (kind := 0) HCE.out HKK.out HKC.out HKP.out hbc H9.out H10.out n1 HO.out HBG.out.len HG.out)
          have hbc2 := below_box hbc H9.out (.slice (some ⟨g, 0, none⟩) n gc)
          refine wpAnyH_ready (rs := [10]) (by kernel_rfl) (by simp) ?_
          refine AllReadyH.cons rfl (fun K hK => ?_) AllReadyH.nil
          go_simp
          refine hK.out _ _ (HSS.out _ hbc2) (fun hHeld => ?_)
          clear hK K
          try simp only [Act.put, List.setIfInBounds_toArray, List.set_cons_zero, List.set_cons_succ]
          refine wpAnyH_ready (rs := [11]) (by kernel_rfl) (by simp) ?_
          refine AllReadyH.cons rfl (fun K hK => ?_) AllReadyH.nil
          go_simp
          refine hK.out _ _ (HSS.out _ HEND.out.2) (fun hHeld => ?_)
          clear hK K
          try simp only [Act.put, List.setIfInBounds_toArray, List.set_cons_zero, List.set_cons_succ]
          refine wpAnyH_done (by kernel_rfl) ?_ _
          go_wp2_with fail
          go_meet
          exact ⟨_, _, rfl, rfl, bs, t, g, gc, G, H, HEND.out.1, HBG.out, HBO.out, HEND.out.2⟩
        case bh9 =>
          go_simp
          have hd : Below wd.heap.size wd (wd.alloc (.cells #[.slice none 0 0] 29)) := (Below.refl _ _).alloc (Nat.le_refl _) _
          try replace HO := Lib.hid (OK.later HO.out hd)
          try replace HG := Lib.hid (HG.out.later hd)
          try replace H9 := Lib.hid (box_lat H9.out hd)
          try replace H10 := Lib.hid (box_lat H10.out hd)
          have H9 : Hid ((wd.alloc (.cells #[.slice none 0 0] 29)).heap[wd.heap.size]? = some (.cells #[.slice none 0 0] 29 (0, 0)) ∧ w1.heap.size ≤ wd.heap.size) := ⟨heap_alloc_new _ _, hbc.size⟩
          replace hbc := hbc.trans (hd.mono hbc.size)
          clear hd
          generalize wd.alloc (.cells #[.slice none 0 0] 29) = wd at *
          refine hK.out _ _ (HSS.out _ hbc) (fun hHeld => ?_)
          clear hK K
          try simp only [Act.put, List.setIfInBounds_toArray, List.set_cons_zero, List.set_cons_succ]
          refine wpAnyH_ready (rs := [7]) (by kernel_rfl) (by simp) ?_
          refine AllReadyH.cons rfl (fun K hK => ?_) AllReadyH.nil
          go_simp
          go_at_call 83
          refine (HBT.out _ hbc).mono ?_
          rintro e we ⟨G, H, t, rfl, hg, hbo, hd⟩
          try replace HO := Lib.hid (OK.later HO.out hd)
          try replace HG := Lib.hid (HG.out.later hd)
          try replace H9 := Lib.hid (box_lat H9.out hd)
          try replace H10 := Lib.hid (box_lat H10.out hd)
          have HG : Hid (GB w1.heap.size G n n H t we) := hg.monoB hbc.size
          have HBO := Lib.hid hbo
          replace hbc := hbc.trans (hd.mono hbc.size)
          clear hg hbo hd
          obtain ⟨wd, rfl⟩ : ∃ x, x = we := ⟨_, rfl⟩
          refine hK.out _ _ (HSS.out _ hbc) (fun hHeld => ?_)
          clear hK K
          try simp only [Act.put, List.setIfInBounds_toArray, List.set_cons_zero, List.set_cons_succ]
          rcases OK.shape HO.out with ⟨_, h0⟩ | ⟨g, gc, rfl, hB, hcap⟩
          · exfalso; have := HBG.out.len; rw [h0] at this; simp at this; omega
          rw [HBG.out.len] at HO ⊢
          obtain ⟨c9, z9⟩ := box_cell H9.out
          obtain ⟨c10, z10⟩ := box_cell H10.out
          have hne1 := box_ne H9.out.1 H10.out.1
          have HEND := Lib.hid (us_end (kk := w.heap.size + 1) (kc := w.heap.size) (kp := w.heap.size + 1 + 1) (place := place) (kind := 0) HCE.out HKK.out HKC.out HKP.out hbc H9.out H10.out n1 HO.out HBG.out.len HG.out)
          have hbc2 := below_box hbc H9.out (.slice (some ⟨g, 0, none⟩) n gc)
          refine wpAnyH_ready (rs := [10]) (by kernel_rfl) (by simp) ?_
          refine AllReadyH.cons rfl (fun K hK => ?_) AllReadyH.nil
          go_simp
          refine hK.out _ _ (HSS.out _ hbc2) (fun hHeld => ?_)
          clear hK K
          try simp only [Act.put, List.setIfInBounds_toArray, List.set_cons_zero, List.set_cons_succ]
          refine wpAnyH_ready (rs := [11]) (by kernel_rfl) (by simp) ?_
          refine AllReadyH.cons rfl (fun K hK => ?_) AllReadyH.nil
          go_simp
          refine hK.out _ _ (HSS.out _ HEND.out.2) (fun hHeld => ?_)
          clear hK K
          try simp only [Act.put, List.setIfInBounds_toArray, List.set_cons_zero, List.set_cons_succ]
          refine wpAnyH_done (by kernel_rfl) ?_ _
          go_wp2_with fail
          go_meet
          exact ⟨_, _, rfl, rfl, bs, t, g, gc, G, H, HEND.out.1, HBG.out, HBO.out, HEND.out.2⟩
      case bh8 =>
        go_simp
        have hd : Below wd.heap.size wd (wd.alloc (.cells #[.slice none 0 0] 29)) := (Below.refl _ _).alloc (Nat.le_refl _) _
        try replace HO := Lib.hid (OK.later HO.out hd)
        try replace HG := Lib.hid (HG.out.later hd)
        try replace H9 := Lib.hid (box_lat H9.out hd)
        try replace H10 := Lib.hid (box_lat H10.out hd)
        have H9 : Hid ((wd.alloc (.cells #[.slice none 0 0] 29)).heap[wd.heap.size]? = some (.cells #[.slice none 0 0] 29 (0, 0)) ∧ w1.heap.size ≤ wd.heap.size) := ⟨heap_alloc_new _ _, hbc.size⟩
        replace hbc := hbc.trans (hd.mono hbc.size)
        clear hd
        generalize wd.alloc (.cells #[.slice none 0 0] 29) = wd at *
        refine hK.out _ _ (HSS.out _ hbc) (fun hHeld => ?_)
        clear hK K
        try simp only [Act.put, List.setIfInBounds_toArray, List.set_cons_zero, List.set_cons_succ]
        refine wpAnyH_ready (rs := [2]) (by kernel_rfl) (by simp) ?_
        refine AllReadyH.cons rfl (fun K hK => ?_) AllReadyH.nil
        go_simp
        go_at_call 82
        refine (HBC.out _ hbc).mono ?_
        rintro e we ⟨bv, bs, rfl, ho, hbg, hd⟩
        try replace HO := Lib.hid (OK.later HO.out hd)
        try replace HG := Lib.hid (HG.out.later hd)
        try replace H9 := Lib.hid (box_lat H9.out hd)
        try replace H10 := Lib.hid (box_lat H10.out hd)
        have HO : Hid (OI w1.heap.size we bv bs) := OK.mono ho hbc.size
        have HBG := Lib.hid hbg
        replace hbc := hbc.trans (hd.mono hbc.size)
        clear ho hbg hd
        obtain ⟨wd, rfl⟩ : ∃ x, x = we := ⟨_, rfl⟩
        refine hK.out _ _ (HSS.out _ hbc) (fun hHeld => ?_)
        clear hK K
        try simp only [Act.put, List.setIfInBounds_toArray, List.set_cons_zero, List.set_cons_succ]
        refine wpAnyH_ready (rs := [7]) (by kernel_rfl) (by simp) ?_
        refine AllReadyH.cons rfl (fun K hK => ?_) AllReadyH.nil
        go_simp
        go_at_call 83
        refine (HBT.out _ hbc).mono ?_
        rintro e we ⟨G, H, t, rfl, hg, hbo, hd⟩
        try replace HO := Lib.hid (OK.later HO.out hd)
        try replace HG := Lib.hid (HG.out.later hd)
        try replace H9 := Lib.hid (box_lat H9.out hd)
        try replace H10 := Lib.hid (box_lat H10.out hd)
        have HG : Hid (GB w1.heap.size G n n H t we) := hg.monoB hbc.size
        have HBO := Lib.hid hbo
        replace hbc := hbc.trans (hd.mono hbc.size)
        clear hg hbo hd
        obtain ⟨wd, rfl⟩ : ∃ x, x = we := ⟨_, rfl⟩
        refine hK.out _ _ (HSS.out _ hbc) (fun hHeld => ?_)
        clear hK K
        try simp only [Act.put, List.setIfInBounds_toArray, List.set_cons_zero, List.set_cons_succ]
        rcases OK.shape HO.out with ⟨_, h0⟩ | ⟨g, gc, rfl, hB, hcap⟩
        · exfalso; have := HBG.out.len; rw [h0] at this; simp at this; omega
        rw [HBG.out.len] at HO ⊢
        obtain ⟨c9, z9⟩ := box_cell H9.out
        obtain ⟨c10, z10⟩ := box_cell H10.out
        have hne1 := box_ne H9.out.1 H10.out.1
        have HEND := Lib.hid (us_end (kk := w.heap.size + 1) (kc := w.heap.size) (kp := w.heap.size + 1 + 1) (place := place) (kind := 0) HCE.out HKK.out HKC.out HKP.out hbc H9.out H10.out n1 HO.out HBG.out.len HG.out)
        have hbc2 := below_box hbc H9.out (.slice (some ⟨g, 0, none⟩) n gc)
        refine wpAnyH_ready (rs := [10]) (by kernel_rfl) (by simp) ?_
        refine AllReadyH.cons rfl (fun K hK => ?_) AllReadyH.nil
        go_simp
        refine hK.out _ _ (HSS.out _ hbc2) (fun hHeld => ?_)
        clear hK K
        try simp only [Act.put, List.setIfInBounds_toArray, List.set_cons_zero, List.set_cons_succ]
        refine wpAnyH_ready (rs := [11]) (by kernel_rfl) (by simp) ?_
        refine AllReadyH.cons rfl (fun K hK => ?_) AllReadyH.nil
        go_simp
        refine hK.out _ _ (HSS.out _ HEND.out.2) (fun hHeld => ?_)
        clear hK K
        try simp only [Act.put, List.setIfInBounds_toArray, List.set_cons_zero, List.set_cons_succ]
        refine wpAnyH_done (by kernel_rfl) ?_ _
        go_wp2_with fail
        go_meet
        exact ⟨_, _, rfl, rfl, bs, t, g, gc, G, H, HEND.out.1, HBG.out, HBO.out, HEND.out.2⟩
  case rest =>
    obtain ⟨kb, ko, rfl, rfl, bs, t, g, gc, G, H, hS, hB, hT, hb2⟩ := hcut
    obtain ⟨W0, rfl⟩ : ∃ x, x = wc := ⟨_, rfl⟩
    have HS := Lib.hid hS
    have HB := Lib.hid hB
    have HT := Lib.hid hT
    have HB2 := Lib.hid (hb1.trans (hb2.mono hb1.size))
    clear hkc hkk hkp hS hB hT hb1 hb2 HBC HBT HSS HCE HKK HKC HKP HEL
    go_upto_region 4 with fail
    have HU := Lib.hid (uw_start W0)
    generalize (W0.alloc (.cells #[.int .i64 0] 2)).alloc (.cells #[.int .i64 0] 2) = w3 at *
    have hS3 := HS.out.later HU.out.hb
    have e1 := hS3.c
    have e2 := hS3.ce.fields.1
    have HTU : Hid (Calls Try.prog 84 #[.int .i64 n, .int .i64 1, .func (.func 85) #[] #[.pointer (some ⟨w.heap.size + 1, 0, none⟩), .pointer (some ⟨w.heap.size, 0, none⟩), .pointer (some ⟨kb, 0, none⟩), .pointer (some ⟨w.heap.size + 1 + 1, 0, none⟩), .pointer (some ⟨W0.heap.size + 1, 0, none⟩), .pointer (some ⟨ko, 0, none⟩), .pointer (some ⟨W0.heap.size, 0, none⟩)]] w3
        fun e w' => e = .returned (.tuple #[]) ∧ ∃ x, UW W0 x w' ∧ Hid (x = 0)) := by
      have hpe := HPE.out
      refine (tup1_any W0 n _ _ _ _ _ _ _ (fun _ => 0) w3 (cbt0 HQ.out HS.out HB.out HT.out (by omega) hp n5) HU.out ⟨n1, n5⟩ (fun i _ => by rw [vS_zero fun _ _ => rfl]; omega)).mono ?_
      (rintro e w' ⟨rfl, h1, _⟩; exact ⟨rfl, _, h1, vS_zero fun _ _ => rfl⟩)
    clear hS3
    go_wp2_with fail
    refine HTU.out.mono ?_
    rintro e w4 ⟨rfl, x, hW, HQX⟩
    have HBF : Hid (∀ k, Below w.heap.size w (w4.drewN k)) := fun k => below_drewN (HB2.out.trans (hW.hb.mono HB2.out.size)) k
    have d1 := hW.cb
    obtain ⟨y, d2, _⟩ := hW.ca
    clear e1 e2 HTU hW
    go_wp2_with fail
    go_quiet (fail)
    go_wp2_with fail
    go_ret2
    exact ⟨x, y, rfl, HQX, HBF.out _⟩
set_option maxRecDepth 100000 in
set_option maxHeartbeats 8000000 in
theorem ua1_any (cp n : Nat) (T : Nat → Nat → Nat) (q : QN n T) (w : World) (h : CE cp n T w) (hn : 1 ≤ n ∧ n ≤ 5) (place : Nat) (hp : place + 2 ≤ 4) :
    Calls Try.prog 69 #[.pointer (some ⟨cp, 0, none⟩), .int .i64 1, .int .i64 place] w fun e w' => ∃ x y, e = .returned (.tuple #[.int .i64 x, .int .i64 y]) ∧ Hid (SwQ n place T x) ∧ Below w.heap.size w w' := by
  obtain ⟨n1, n5⟩ := hn
  have HQ := Lib.hid q
  obtain ⟨pl, hpe⟩ : ∃ pl, pl = place + 2 := ⟨_, rfl⟩
  have hpl : IntKind.i64.wrap ((place : Int) + 2) = (pl : Int) := by rw [IntWalk.i64_in _ (by omega)]; omega
  have HPE := Lib.hid hpe
  have HBC : Hid (∀ w1 wx, CE cp n T w1 → Below w1.heap.size w1 wx → Calls Try.prog 82 #[.pointer (some ⟨cp, 0, none⟩), .int .i64 place] wx (BegPost n place wx)) := fun w1 wx hc hb =>
    begins_any cp n T q wx (hc.later hb) ⟨n1, n5⟩ place (by omega)
  have HBT : Hid (∀ w1 wx, CE cp n T w1 → Below w1.heap.size w1 wx → Calls Try.prog 83 #[.pointer (some ⟨cp, 0, none⟩), .int .i64 pl] wx (BotPost n (4 - pl) wx)) := fun w1 wx hc hb =>
    both_any cp n T q wx (hc.later hb) ⟨n1, n5⟩ pl (by omega)
  have HEL := Lib.hid (errLen_any 1 2 (by omega))
  have HM : Hid (∀ wA, ((w.alloc (.cells #[.pointer (some ⟨cp, 0, none⟩)] 68)).alloc (.cells #[.int .i64 1] 2)).alloc (.cells #[.int .i64 place] 3) = wA → CE cp n T wA ∧ wA.cell? ⟨w.heap.size, 0, none⟩ = some (.pointer (some ⟨cp, 0, none⟩)) ∧ wA.cell? ⟨w.heap.size + 1, 0, none⟩ = some (.int .i64 (1 : Nat)) ∧ wA.cell? ⟨w.heap.size + 1 + 1, 0, none⟩ = some (.int .i64 place) ∧ Below w.heap.size w wA) := fun wA hA => by
    obtain ⟨c5, c6, c7, hb⟩ := made3 w _ _ _ _ _ _ wA hA
    exact ⟨h.later hb, c5, c6, c7, hb⟩
  clear h q hpe
  go_enter Try.func69, Try.ntmps69
  go_upto_region 1 with fail
  generalize hw1 : ((w.alloc (.cells #[.pointer (some ⟨cp, 0, none⟩)] 68)).alloc (.cells #[.int .i64 1] 2)).alloc (.cells #[.int .i64 place] 3) = w1 at *
  obtain ⟨hce, hkc, hkk, hkp, hb1⟩ := HM.out w1 rfl
  have HCE := Lib.hid hce
  have HKK := Lib.hid hkk
  have HKC := Lib.hid hkc
  have HKP := Lib.hid hkp
  replace HBC := Lib.hid (fun wx hb => HBC.out w1 wx HCE.out hb)
  replace HBT := Lib.hid (fun wx hb => HBT.out w1 wx HCE.out hb)
  have HSS : Hid (∀ wx, Below w1.heap.size w1 wx → wx.cell? ⟨w.heap.size, 0, none⟩ = some (.pointer (some ⟨cp, 0, none⟩)) ∧ wx.cell? ⟨w.heap.size + 1 + 1, 0, none⟩ = some (.int .i64 place)) := fun wx hb => ⟨cell_lat HKC.out hb, cell_lat HKP.out hb⟩
  clear HM hw1 hce
  go_upto_region 2 with (go_at_call 81; refine (HEL.out _).mono ?_; rintro e w' ⟨rfl, rfl⟩)
  go_cut [9, 10] (fun v9 v10 wx => ∃ kb ko, v9 = .pointer (some ⟨kb, 0, none⟩) ∧ v10 = .pointer (some ⟨ko, 0, none⟩) ∧ ∃ bs t g gc G H, US cp n place 1 T bs t (w.heap.size + 1) w.heap.size kb (w.heap.size + 1 + 1) ko g gc G H wx ∧ BgP n place bs ∧ BoP n (4 - pl) t ∧ Below w1.heap.size w1 wx)
  case first =>
    refine wp_region_held_drew (S := fun w' => w'.cell? ⟨w.heap.size, 0, none⟩ = some (.pointer (some ⟨cp, 0, none⟩)) ∧ w'.cell? ⟨w.heap.size + 1 + 1, 0, none⟩ = some (.int .i64 place)) (by kernel_rfl) ⟨hkc, hkp⟩ (fun hHeld => ?_)
    have hbc : Below w1.heap.size w1 w1.drew := (Below.refl _ _).drew
    clear hkc hkk hkp
    obtain ⟨wd, hwd⟩ : ∃ x, x = w1.drew := ⟨_, rfl⟩
    rw [← hwd] at hbc hHeld ⊢
    clear hwd
    refine wpAnyH_take (i := 0) (oi := ⟨some 15, _, _, _, _, _⟩) (v := ?va0) rfl (by kernel_rfl) (by kernel_rfl) (by kernel_rfl) (fun _ _ _ h => h) (Or.inl ⟨by rfl, ?ya0⟩) (by assumption) ?ra0
    case ya0 => (intro w hSw; (try dsimp only at hSw); go_simp; all_goals (with_reducible rfl))
    try simp only [Act.put, List.setIfInBounds_toArray, List.set_cons_zero, List.set_cons_succ]
    refine wpAnyH_take (i := 1) (oi := ⟨some 16, _, _, _, _, _⟩) (v := ?va1) rfl (by kernel_rfl) (by kernel_rfl) (by kernel_rfl) (fun _ _ _ h => h) (Or.inl ⟨by rfl, ?ya1⟩) (by assumption) ?ra1
    case ya1 => (intro w hSw; (try dsimp only at hSw); go_simp; all_goals (with_reducible rfl))
    try simp only [Act.put, List.setIfInBounds_toArray, List.set_cons_zero, List.set_cons_succ]
    refine wpAnyH_take (i := 3) (oi := ⟨some 18, _, _, _, _, _⟩) (v := ?va3) rfl (by kernel_rfl) (by kernel_rfl) (by kernel_rfl) (fun _ _ _ h => h) (Or.inl ⟨by rfl, ?ya3⟩) (by assumption) ?ra3
    case ya3 => (intro w hSw; (try dsimp only at hSw); go_simp; all_goals (with_reducible rfl))
    try simp only [Act.put, List.setIfInBounds_toArray, List.set_cons_zero, List.set_cons_succ]
    refine wpAnyH_take (i := 4) (oi := ⟨some 19, _, _, _, _, _⟩) (v := ?va4) rfl (by kernel_rfl) (by kernel_rfl) (by kernel_rfl) (fun _ _ _ h => h) (Or.inl ⟨by rfl, ?ya4⟩) (by assumption) ?ra4
    case ya4 => (intro w hSw; (try dsimp only at hSw); go_simp; all_goals (with_reducible rfl))
    try simp only [Act.put, List.setIfInBounds_toArray, List.set_cons_zero, List.set_cons_succ]
    refine wpAnyH_take (i := 5) (oi := ⟨some 20, _, _, _, _, _⟩) (v := ?va5) rfl (by kernel_rfl) (by kernel_rfl) (by kernel_rfl) (fun _ _ _ h => h) (Or.inl ⟨by rfl, ?ya5⟩) (by assumption) ?ra5
    case ya5 => (intro w hSw; (try dsimp only at hSw); go_simp; all_goals (with_reducible rfl))
    try simp only [Act.put, List.setIfInBounds_toArray, List.set_cons_zero, List.set_cons_succ]
    refine wpAnyH_take (i := 6) (oi := ⟨some 21, _, _, _, _, _⟩) (v := ?va6) rfl (by kernel_rfl) (by kernel_rfl) (by kernel_rfl) (fun _ _ _ h => h) (Or.inl ⟨by rfl, ?ya6⟩) (by assumption) ?ra6
    case ya6 => (intro w hSw; (try dsimp only at hSw); go_simp; all_goals (with_reducible rfl))
    try simp only [Act.put, List.setIfInBounds_toArray, List.set_cons_zero, List.set_cons_succ]
    refine wpAnyH_ready (rs := [2, 8, 9]) (by kernel_rfl) (by simp) ?_
    refine AllReadyH.cons rfl (fun K hK => ?ah1) (AllReadyH.cons rfl (fun K hK => ?bh1) (AllReadyH.cons rfl (fun K hK => ?ch1) AllReadyH.nil))
    case ah1 =>
      go_simp
      go_at_call 82
      refine (HBC.out _ hbc).mono ?_
      rintro e we ⟨bv, bs, rfl, ho, hbg, hd⟩
      try replace HO := Lib.hid (OK.later HO.out hd)
      try replace HG := Lib.hid (HG.out.later hd)
      try replace H9 := Lib.hid (box_lat H9.out hd)
      try replace H10 := Lib.hid (box_lat H10.out hd)
      have HO : Hid (OI w1.heap.size we bv bs) := OK.mono ho hbc.size
      have HBG := Lib.hid hbg
      replace hbc := hbc.trans (hd.mono hbc.size)
      clear ho hbg hd
      obtain ⟨wd, rfl⟩ : ∃ x, x = we := ⟨_, rfl⟩
      refine hK.out _ _ (HSS.out _ hbc) (fun hHeld => ?_)
      clear hK K
      try simp only [Act.put, List.setIfInBounds_toArray, List.set_cons_zero, List.set_cons_succ]
      refine wpAnyH_ready (rs := [7, 8, 9]) (by kernel_rfl) (by simp) ?_
      refine AllReadyH.cons rfl (fun K hK => ?ah2) (AllReadyH.cons rfl (fun K hK => ?bh2) (AllReadyH.cons rfl (fun K hK => ?ch2) AllReadyH.nil))
      case ah2 =>
        go_simp
        go_at_call 83
        refine (HBT.out _ hbc).mono ?_
        rintro e we ⟨G, H, t, rfl, hg, hbo, hd⟩
        try replace HO := Lib.hid (OK.later HO.out hd)
        try replace HG := Lib.hid (HG.out.later hd)
        try replace H9 := Lib.hid (box_lat H9.out hd)
        try replace H10 := Lib.hid (box_lat H10.out hd)
        have HG : Hid (GB w1.heap.size G n n H t we) := hg.monoB hbc.size
        have HBO := Lib.hid hbo
        replace hbc := hbc.trans (hd.mono hbc.size)
        clear hg hbo hd
        obtain ⟨wd, rfl⟩ : ∃ x, x = we := ⟨_, rfl⟩
        refine hK.out _ _ (HSS.out _ hbc) (fun hHeld => ?_)
        clear hK K
        try simp only [Act.put, List.setIfInBounds_toArray, List.set_cons_zero, List.set_cons_succ]
        refine wpAnyH_ready (rs := [8, 9]) (by kernel_rfl) (by simp) ?_
        refine AllReadyH.cons rfl (fun K hK => ?ah3) (AllReadyH.cons rfl (fun K hK => ?bh3) AllReadyH.nil)
        case ah3 =>
          go_simp
          have hd : Below wd.heap.size wd (wd.alloc (.cells #[.slice none 0 0] 29)) := (Below.refl _ _).alloc (Nat.le_refl _) _
          try replace HO := Lib.hid (OK.later HO.out hd)
          try replace HG := Lib.hid (HG.out.later hd)
          try replace H9 := Lib.hid (box_lat H9.out hd)
          try replace H10 := Lib.hid (box_lat H10.out hd)
          have H9 : Hid ((wd.alloc (.cells #[.slice none 0 0] 29)).heap[wd.heap.size]? = some (.cells #[.slice none 0 0] 29 (0, 0)) ∧ w1.heap.size ≤ wd.heap.size) := ⟨heap_alloc_new _ _, hbc.size⟩
          replace hbc := hbc.trans (hd.mono hbc.size)
          clear hd
          generalize wd.alloc (.cells #[.slice none 0 0] 29) = wd at *
          refine hK.out _ _ (HSS.out _ hbc) (fun hHeld => ?_)
          clear hK K
          try simp only [Act.put, List.setIfInBounds_toArray, List.set_cons_zero, List.set_cons_succ]
          refine wpAnyH_ready (rs := [9]) (by kernel_rfl) (by simp) ?_
          refine AllReadyH.cons rfl (fun K hK => ?_) AllReadyH.nil
          go_simp
          have hd : Below wd.heap.size wd (wd.alloc (.cells #[.slice none 0 0] 97)) := (Below.refl _ _).alloc (Nat.le_refl _) _
          try replace HO := Lib.hid (OK.later HO.out hd)
          try replace HG := Lib.hid (HG.out.later hd)
          try replace H9 := Lib.hid (box_lat H9.out hd)
          try replace H10 := Lib.hid (box_lat H10.out hd)
          have H10 : Hid ((wd.alloc (.cells #[.slice none 0 0] 97)).heap[wd.heap.size]? = some (.cells #[.slice none 0 0] 97 (0, 0)) ∧ w1.heap.size ≤ wd.heap.size) := ⟨heap_alloc_new _ _, hbc.size⟩
          replace hbc := hbc.trans (hd.mono hbc.size)
          clear hd
          generalize wd.alloc (.cells #[.slice none 0 0] 97) = wd at *
          refine hK.out _ _ (HSS.out _ hbc) (fun hHeld => ?_)
          clear hK K
          try simp only [Act.put, List.setIfInBounds_toArray, List.set_cons_zero, List.set_cons_succ]
          rcases OK.shape HO.out with ⟨_, h0⟩ | ⟨g, gc, rfl, hB, hcap⟩
          · exfalso; have := HBG.out.len; rw [h0] at this; simp at this; omega
          rw [HBG.out.len] at HO ⊢
          obtain ⟨c9, z9⟩ := box_cell H9.out
          obtain ⟨c10, z10⟩ := box_cell H10.out
          have hne1 := box_ne H9.out.1 H10.out.1
          have HEND := Lib.hid (us_end (kk := w.heap.size + 1) (kc := w.heap.size) (kp := w.heap.size + 1 + 1) (place := place) (kind := 1) HCE.out HKK.out HKC.out HKP.out hbc H9.out H10.out n1 HO.out HBG.out.len HG.out)
          have hbc2 := below_box hbc H9.out (.slice (some ⟨g, 0, none⟩) n gc)
          refine wpAnyH_ready (rs := [10]) (by kernel_rfl) (by simp) ?_
          refine AllReadyH.cons rfl (fun K hK => ?_) AllReadyH.nil
          go_simp
          refine hK.out _ _ (HSS.out _ hbc2) (fun hHeld => ?_)
          clear hK K
          try simp only [Act.put, List.setIfInBounds_toArray, List.set_cons_zero, List.set_cons_succ]
          refine wpAnyH_ready (rs := [11]) (by kernel_rfl) (by simp) ?_
          refine AllReadyH.cons rfl (fun K hK => ?_) AllReadyH.nil
          go_simp
          refine hK.out _ _ (HSS.out _ HEND.out.2) (fun hHeld => ?_)
          clear hK K
          try simp only [Act.put, List.setIfInBounds_toArray, List.set_cons_zero, List.set_cons_succ]
          refine wpAnyH_done (by kernel_rfl) ?_ _
          go_wp2_with fail
          go_meet
          exact ⟨_, _, rfl, rfl, bs, t, g, gc, G, H, HEND.out.1, HBG.out, HBO.out, HEND.out.2⟩
        case bh3 =>
          go_simp
          have hd : Below wd.heap.size wd (wd.alloc (.cells #[.slice none 0 0] 97)) := (Below.refl _ _).alloc (Nat.le_refl _) _
          try replace HO := Lib.hid (OK.later HO.out hd)
          try replace HG := Lib.hid (HG.out.later hd)
          try replace H9 := Lib.hid (box_lat H9.out hd)
          try replace H10 := Lib.hid (box_lat H10.out hd)
          have H10 : Hid ((wd.alloc (.cells #[.slice none 0 0] 97)).heap[wd.heap.size]? = some (.cells #[.slice none 0 0] 97 (0, 0)) ∧ w1.heap.size ≤ wd.heap.size) := ⟨heap_alloc_new _ _, hbc.size⟩
          replace hbc := hbc.trans (hd.mono hbc.size)
          clear hd
          generalize wd.alloc (.cells #[.slice none 0 0] 97) = wd at *
          refine hK.out _ _ (HSS.out _ hbc) (fun hHeld => ?_)
          clear hK K
          try simp only [Act.put, List.setIfInBounds_toArray, List.set_cons_zero, List.set_cons_succ]
          refine wpAnyH_ready (rs := [8]) (by kernel_rfl) (by simp) ?_
          refine AllReadyH.cons rfl (fun K hK => ?_) AllReadyH.nil
          go_simp
          have hd : Below wd.heap.size wd (wd.alloc (.cells #[.slice none 0 0] 29)) := (Below.refl _ _).alloc (Nat.le_refl _) _
          try replace HO := Lib.hid (OK.later HO.out hd)
          try replace HG := Lib.hid (HG.out.later hd)
          try replace H9 := Lib.hid (box_lat H9.out hd)
          try replace H10 := Lib.hid (box_lat H10.out hd)
          have H9 : Hid ((wd.alloc (.cells #[.slice none 0 0] 29)).heap[wd.heap.size]? = some (.cells #[.slice none 0 0] 29 (0, 0)) ∧ w1.heap.size ≤ wd.heap.size) := ⟨heap_alloc_new _ _, hbc.size⟩
          replace hbc := hbc.trans (hd.mono hbc.size)
          clear hd
          generalize wd.alloc (.cells #[.slice none 0 0] 29) = wd at *
          refine hK.out _ _ (HSS.out _ hbc) (fun hHeld => ?_)
          clear hK K
          try simp only [Act.put, List.setIfInBounds_toArray, List.set_cons_zero, List.set_cons_succ]
          rcases OK.shape HO.out with ⟨_, h0⟩ | ⟨g, gc, rfl, hB, hcap⟩
          · exfalso; have := HBG.out.len; rw [h0] at this; simp at this; omega
          rw [HBG.out.len] at HO ⊢
          obtain ⟨c9, z9⟩ := box_cell H9.out
          obtain ⟨c10, z10⟩ := box_cell H10.out
          have hne1 := box_ne H9.out.1 H10.out.1
          have HEND := Lib.hid (us_end (kk := w.heap.size + 1) (kc := w.heap.size) (kp := w.heap.size + 1 + 1) (place := place) (kind := 1) HCE.out HKK.out HKC.out HKP.out hbc H9.out H10.out n1 HO.out HBG.out.len HG.out)
          have hbc2 := below_box hbc H9.out (.slice (some ⟨g, 0, none⟩) n gc)
          refine wpAnyH_ready (rs := [10]) (by kernel_rfl) (by simp) ?_
          refine AllReadyH.cons rfl (fun K hK => ?_) AllReadyH.nil
          go_simp
          refine hK.out _ _ (HSS.out _ hbc2) (fun hHeld => ?_)
          clear hK K
          try simp only [Act.put, List.setIfInBounds_toArray, List.set_cons_zero, List.set_cons_succ]
          refine wpAnyH_ready (rs := [11]) (by kernel_rfl) (by simp) ?_
          refine AllReadyH.cons rfl (fun K hK => ?_) AllReadyH.nil
          go_simp
          refine hK.out _ _ (HSS.out _ HEND.out.2) (fun hHeld => ?_)
          clear hK K
          try simp only [Act.put, List.setIfInBounds_toArray, List.set_cons_zero, List.set_cons_succ]
          refine wpAnyH_done (by kernel_rfl) ?_ _
          go_wp2_with fail
          go_meet
          exact ⟨_, _, rfl, rfl, bs, t, g, gc, G, H, HEND.out.1, HBG.out, HBO.out, HEND.out.2⟩
      case bh2 =>
        go_simp
        have hd : Below wd.heap.size wd (wd.alloc (.cells #[.slice none 0 0] 29)) := (Below.refl _ _).alloc (Nat.le_refl _) _
        try replace HO := Lib.hid (OK.later HO.out hd)
        try replace HG := Lib.hid (HG.out.later hd)
        try replace H9 := Lib.hid (box_lat H9.out hd)
        try replace H10 := Lib.hid (box_lat H10.out hd)
        have H9 : Hid ((wd.alloc (.cells #[.slice none 0 0] 29)).heap[wd.heap.size]? = some (.cells #[.slice none 0 0] 29 (0, 0)) ∧ w1.heap.size ≤ wd.heap.size) := ⟨heap_alloc_new _ _, hbc.size⟩
        replace hbc := hbc.trans (hd.mono hbc.size)
        clear hd
        generalize wd.alloc (.cells #[.slice none 0 0] 29) = wd at *
        refine hK.out _ _ (HSS.out _ hbc) (fun hHeld => ?_)
        clear hK K
        try simp only [Act.put, List.setIfInBounds_toArray, List.set_cons_zero, List.set_cons_succ]
        refine wpAnyH_ready (rs := [7, 9]) (by kernel_rfl) (by simp) ?_
        refine AllReadyH.cons rfl (fun K hK => ?ah4) (AllReadyH.cons rfl (fun K hK => ?bh4) AllReadyH.nil)
        case ah4 =>
          go_simp
          go_at_call 83
          refine (HBT.out _ hbc).mono ?_
          rintro e we ⟨G, H, t, rfl, hg, hbo, hd⟩
          try replace HO := Lib.hid (OK.later HO.out hd)
          try replace HG := Lib.hid (HG.out.later hd)
          try replace H9 := Lib.hid (box_lat H9.out hd)
          try replace H10 := Lib.hid (box_lat H10.out hd)
          have HG : Hid (GB w1.heap.size G n n H t we) := hg.monoB hbc.size
          have HBO := Lib.hid hbo
          replace hbc := hbc.trans (hd.mono hbc.size)
          clear hg hbo hd
          obtain ⟨wd, rfl⟩ : ∃ x, x = we := ⟨_, rfl⟩
          refine hK.out _ _ (HSS.out _ hbc) (fun hHeld => ?_)
          clear hK K
          try simp only [Act.put, List.setIfInBounds_toArray, List.set_cons_zero, List.set_cons_succ]
          refine wpAnyH_ready (rs := [9]) (by kernel_rfl) (by simp) ?_
          refine AllReadyH.cons rfl (fun K hK => ?_) AllReadyH.nil
          go_simp
          have hd : Below wd.heap.size wd (wd.alloc (.cells #[.slice none 0 0] 97)) := (Below.refl _ _).alloc (Nat.le_refl _) _
          try replace HO := Lib.hid (OK.later HO.out hd)
          try replace HG := Lib.hid (HG.out.later hd)
          try replace H9 := Lib.hid (box_lat H9.out hd)
          try replace H10 := Lib.hid (box_lat H10.out hd)
          have H10 : Hid ((wd.alloc (.cells #[.slice none 0 0] 97)).heap[wd.heap.size]? = some (.cells #[.slice none 0 0] 97 (0, 0)) ∧ w1.heap.size ≤ wd.heap.size) := ⟨heap_alloc_new _ _, hbc.size⟩
          replace hbc := hbc.trans (hd.mono hbc.size)
          clear hd
          generalize wd.alloc (.cells #[.slice none 0 0] 97) = wd at *
          refine hK.out _ _ (HSS.out _ hbc) (fun hHeld => ?_)
          clear hK K
          try simp only [Act.put, List.setIfInBounds_toArray, List.set_cons_zero, List.set_cons_succ]
          rcases OK.shape HO.out with ⟨_, h0⟩ | ⟨g, gc, rfl, hB, hcap⟩
          · exfalso; have := HBG.out.len; rw [h0] at this; simp at this; omega
          rw [HBG.out.len] at HO ⊢
          obtain ⟨c9, z9⟩ := box_cell H9.out
          obtain ⟨c10, z10⟩ := box_cell H10.out
          have hne1 := box_ne H9.out.1 H10.out.1
          have HEND := Lib.hid (us_end (kk := w.heap.size + 1) (kc := w.heap.size) (kp := w.heap.size + 1 + 1) (place := place) (kind := 1) HCE.out HKK.out HKC.out HKP.out hbc H9.out H10.out n1 HO.out HBG.out.len HG.out)
          have hbc2 := below_box hbc H9.out (.slice (some ⟨g, 0, none⟩) n gc)
          refine wpAnyH_ready (rs := [10]) (by kernel_rfl) (by simp) ?_
          refine AllReadyH.cons rfl (fun K hK => ?_) AllReadyH.nil
          go_simp
          refine hK.out _ _ (HSS.out _ hbc2) (fun hHeld => ?_)
          clear hK K
          try simp only [Act.put, List.setIfInBounds_toArray, List.set_cons_zero, List.set_cons_succ]
          refine wpAnyH_ready (rs := [11]) (by kernel_rfl) (by simp) ?_
          refine AllReadyH.cons rfl (fun K hK => ?_) AllReadyH.nil
          go_simp
          refine hK.out _ _ (HSS.out _ HEND.out.2) (fun hHeld => ?_)
          clear hK K
          try simp only [Act.put, List.setIfInBounds_toArray, List.set_cons_zero, List.set_cons_succ]
          refine wpAnyH_done (by kernel_rfl) ?_ _
          go_wp2_with fail
          go_meet
          exact ⟨_, _, rfl, rfl, bs, t, g, gc, G, H, HEND.out.1, HBG.out, HBO.out, HEND.out.2⟩
        case bh4 =>
          go_simp
          have hd : Below wd.heap.size wd (wd.alloc (.cells #[.slice none 0 0] 97)) := (Below.refl _ _).alloc (Nat.le_refl _) _
          try replace HO := Lib.hid (OK.later HO.out hd)
          try replace HG := Lib.hid (HG.out.later hd)
          try replace H9 := Lib.hid (box_lat H9.out hd)
          try replace H10 := Lib.hid (box_lat H10.out hd)
          have H10 : Hid ((wd.alloc (.cells #[.slice none 0 0] 97)).heap[wd.heap.size]? = some (.cells #[.slice none 0 0] 97 (0, 0)) ∧ w1.heap.size ≤ wd.heap.size) := ⟨heap_alloc_new _ _, hbc.size⟩
          replace hbc := hbc.trans (hd.mono hbc.size)
          clear hd
          generalize wd.alloc (.cells #[.slice none 0 0] 97) = wd at *
          refine hK.out _ _ (HSS.out _ hbc) (fun hHeld => ?_)
          clear hK K
          try simp only [Act.put, List.setIfInBounds_toArray, List.set_cons_zero, List.set_cons_succ]
          refine wpAnyH_ready (rs := [7]) (by kernel_rfl) (by simp) ?_
          refine AllReadyH.cons rfl (fun K hK => ?_) AllReadyH.nil
          go_simp
          go_at_call 83
          refine (HBT.out _ hbc).mono ?_
          rintro e we ⟨G, H, t, rfl, hg, hbo, hd⟩
          try replace HO := Lib.hid (OK.later HO.out hd)
          try replace HG := Lib.hid (HG.out.later hd)
          try replace H9 := Lib.hid (box_lat H9.out hd)
          try replace H10 := Lib.hid (box_lat H10.out hd)
          have HG : Hid (GB w1.heap.size G n n H t we) := hg.monoB hbc.size
          have HBO := Lib.hid hbo
          replace hbc := hbc.trans (hd.mono hbc.size)
          clear hg hbo hd
          obtain ⟨wd, rfl⟩ : ∃ x, x = we := ⟨_, rfl⟩
          refine hK.out _ _ (HSS.out _ hbc) (fun hHeld => ?_)
          clear hK K
          try simp only [Act.put, List.setIfInBounds_toArray, List.set_cons_zero, List.set_cons_succ]
          rcases OK.shape HO.out with ⟨_, h0⟩ | ⟨g, gc, rfl, hB, hcap⟩
          · exfalso; have := HBG.out.len; rw [h0] at this; simp at this; omega
          rw [HBG.out.len] at HO ⊢
          obtain ⟨c9, z9⟩ := box_cell H9.out
          obtain ⟨c10, z10⟩ := box_cell H10.out
          have hne1 := box_ne H9.out.1 H10.out.1
          have HEND := Lib.hid (us_end (kk := w.heap.size + 1) (kc := w.heap.size) (kp := w.heap.size + 1 + 1) (place := place) (kind := 1) HCE.out HKK.out HKC.out HKP.out hbc H9.out H10.out n1 HO.out HBG.out.len HG.out)
          have hbc2 := below_box hbc H9.out (.slice (some ⟨g, 0, none⟩) n gc)
          refine wpAnyH_ready (rs := [10]) (by kernel_rfl) (by simp) ?_
          refine AllReadyH.cons rfl (fun K hK => ?_) AllReadyH.nil
          go_simp
          refine hK.out _ _ (HSS.out _ hbc2) (fun hHeld => ?_)
          clear hK K
          try simp only [Act.put, List.setIfInBounds_toArray, List.set_cons_zero, List.set_cons_succ]
          refine wpAnyH_ready (rs := [11]) (by kernel_rfl) (by simp) ?_
          refine AllReadyH.cons rfl (fun K hK => ?_) AllReadyH.nil
          go_simp
          refine hK.out _ _ (HSS.out _ HEND.out.2) (fun hHeld => ?_)
          clear hK K
          try simp only [Act.put, List.setIfInBounds_toArray, List.set_cons_zero, List.set_cons_succ]
          refine wpAnyH_done (by kernel_rfl) ?_ _
          go_wp2_with fail
          go_meet
          exact ⟨_, _, rfl, rfl, bs, t, g, gc, G, H, HEND.out.1, HBG.out, HBO.out, HEND.out.2⟩
      case ch2 =>
        go_simp
        have hd : Below wd.heap.size wd (wd.alloc (.cells #[.slice none 0 0] 97)) := (Below.refl _ _).alloc (Nat.le_refl _) _
        try replace HO := Lib.hid (OK.later HO.out hd)
        try replace HG := Lib.hid (HG.out.later hd)
        try replace H9 := Lib.hid (box_lat H9.out hd)
        try replace H10 := Lib.hid (box_lat H10.out hd)
        have H10 : Hid ((wd.alloc (.cells #[.slice none 0 0] 97)).heap[wd.heap.size]? = some (.cells #[.slice none 0 0] 97 (0, 0)) ∧ w1.heap.size ≤ wd.heap.size) := ⟨heap_alloc_new _ _, hbc.size⟩
        replace hbc := hbc.trans (hd.mono hbc.size)
        clear hd
        generalize wd.alloc (.cells #[.slice none 0 0] 97) = wd at *
        refine hK.out _ _ (HSS.out _ hbc) (fun hHeld => ?_)
        clear hK K
        try simp only [Act.put, List.setIfInBounds_toArray, List.set_cons_zero, List.set_cons_succ]
        refine wpAnyH_ready (rs := [7, 8]) (by kernel_rfl) (by simp) ?_
        refine AllReadyH.cons rfl (fun K hK => ?ah5) (AllReadyH.cons rfl (fun K hK => ?bh5) AllReadyH.nil)
        case ah5 =>
          go_simp
          go_at_call 83
          refine (HBT.out _ hbc).mono ?_
          rintro e we ⟨G, H, t, rfl, hg, hbo, hd⟩
          try replace HO := Lib.hid (OK.later HO.out hd)
          try replace HG := Lib.hid (HG.out.later hd)
          try replace H9 := Lib.hid (box_lat H9.out hd)
          try replace H10 := Lib.hid (box_lat H10.out hd)
          have HG : Hid (GB w1.heap.size G n n H t we) := hg.monoB hbc.size
          have HBO := Lib.hid hbo
          replace hbc := hbc.trans (hd.mono hbc.size)
          clear hg hbo hd
          obtain ⟨wd, rfl⟩ : ∃ x, x = we := ⟨_, rfl⟩
          refine hK.out _ _ (HSS.out _ hbc) (fun hHeld => ?_)
          clear hK K
          try simp only [Act.put, List.setIfInBounds_toArray, List.set_cons_zero, List.set_cons_succ]
          refine wpAnyH_ready (rs := [8]) (by kernel_rfl) (by simp) ?_
          refine AllReadyH.cons rfl (fun K hK => ?_) AllReadyH.nil
          go_simp
          have hd : Below wd.heap.size wd (wd.alloc (.cells #[.slice none 0 0] 29)) := (Below.refl _ _).alloc (Nat.le_refl _) _
          try replace HO := Lib.hid (OK.later HO.out hd)
          try replace HG := Lib.hid (HG.out.later hd)
          try replace H9 := Lib.hid (box_lat H9.out hd)
          try replace H10 := Lib.hid (box_lat H10.out hd)
          have H9 : Hid ((wd.alloc (.cells #[.slice none 0 0] 29)).heap[wd.heap.size]? = some (.cells #[.slice none 0 0] 29 (0, 0)) ∧ w1.heap.size ≤ wd.heap.size) := ⟨heap_alloc_new _ _, hbc.size⟩
          replace hbc := hbc.trans (hd.mono hbc.size)
          clear hd
          generalize wd.alloc (.cells #[.slice none 0 0] 29) = wd at *
          refine hK.out _ _ (HSS.out _ hbc) (fun hHeld => ?_)
          clear hK K
          try simp only [Act.put, List.setIfInBounds_toArray, List.set_cons_zero, List.set_cons_succ]
          rcases OK.shape HO.out with ⟨_, h0⟩ | ⟨g, gc, rfl, hB, hcap⟩
          · exfalso; have := HBG.out.len; rw [h0] at this; simp at this; omega
          rw [HBG.out.len] at HO ⊢
          obtain ⟨c9, z9⟩ := box_cell H9.out
          obtain ⟨c10, z10⟩ := box_cell H10.out
          have hne1 := box_ne H9.out.1 H10.out.1
          have HEND := Lib.hid (us_end (kk := w.heap.size + 1) (kc := w.heap.size) (kp := w.heap.size + 1 + 1) (place := place) (kind := 1) HCE.out HKK.out HKC.out HKP.out hbc H9.out H10.out n1 HO.out HBG.out.len HG.out)
          have hbc2 := below_box hbc H9.out (.slice (some ⟨g, 0, none⟩) n gc)
          refine wpAnyH_ready (rs := [10]) (by kernel_rfl) (by simp) ?_
          refine AllReadyH.cons rfl (fun K hK => ?_) AllReadyH.nil
          go_simp
          refine hK.out _ _ (HSS.out _ hbc2) (fun hHeld => ?_)
          clear hK K
          try simp only [Act.put, List.setIfInBounds_toArray, List.set_cons_zero, List.set_cons_succ]
          refine wpAnyH_ready (rs := [11]) (by kernel_rfl) (by simp) ?_
          refine AllReadyH.cons rfl (fun K hK => ?_) AllReadyH.nil
          go_simp
          refine hK.out _ _ (HSS.out _ HEND.out.2) (fun hHeld => ?_)
          clear hK K
          try simp only [Act.put, List.setIfInBounds_toArray, List.set_cons_zero, List.set_cons_succ]
          refine wpAnyH_done (by kernel_rfl) ?_ _
          go_wp2_with fail
          go_meet
          exact ⟨_, _, rfl, rfl, bs, t, g, gc, G, H, HEND.out.1, HBG.out, HBO.out, HEND.out.2⟩
        case bh5 =>
          go_simp
          have hd : Below wd.heap.size wd (wd.alloc (.cells #[.slice none 0 0] 29)) := (Below.refl _ _).alloc (Nat.le_refl _) _
          try replace HO := Lib.hid (OK.later HO.out hd)
          try replace HG := Lib.hid (HG.out.later hd)
          try replace H9 := Lib.hid (box_lat H9.out hd)
          try replace H10 := Lib.hid (box_lat H10.out hd)
          have H9 : Hid ((wd.alloc (.cells #[.slice none 0 0] 29)).heap[wd.heap.size]? = some (.cells #[.slice none 0 0] 29 (0, 0)) ∧ w1.heap.size ≤ wd.heap.size) := ⟨heap_alloc_new _ _, hbc.size⟩
          replace hbc := hbc.trans (hd.mono hbc.size)
          clear hd
          generalize wd.alloc (.cells #[.slice none 0 0] 29) = wd at *
          refine hK.out _ _ (HSS.out _ hbc) (fun hHeld => ?_)
          clear hK K
          try simp only [Act.put, List.setIfInBounds_toArray, List.set_cons_zero, List.set_cons_succ]
          refine wpAnyH_ready (rs := [7]) (by kernel_rfl) (by simp) ?_
          refine AllReadyH.cons rfl (fun K hK => ?_) AllReadyH.nil
          go_simp
          go_at_call 83
          refine (HBT.out _ hbc).mono ?_
          rintro e we ⟨G, H, t, rfl, hg, hbo, hd⟩
          try replace HO := Lib.hid (OK.later HO.out hd)
          try replace HG := Lib.hid (HG.out.later hd)
          try replace H9 := Lib.hid (box_lat H9.out hd)
          try replace H10 := Lib.hid (box_lat H10.out hd)
          have HG : Hid (GB w1.heap.size G n n H t we) := hg.monoB hbc.size
          have HBO := Lib.hid hbo
          replace hbc := hbc.trans (hd.mono hbc.size)
          clear hg hbo hd
          obtain ⟨wd, rfl⟩ : ∃ x, x = we := ⟨_, rfl⟩
          refine hK.out _ _ (HSS.out _ hbc) (fun hHeld => ?_)
          clear hK K
          try simp only [Act.put, List.setIfInBounds_toArray, List.set_cons_zero, List.set_cons_succ]
          rcases OK.shape HO.out with ⟨_, h0⟩ | ⟨g, gc, rfl, hB, hcap⟩
          · exfalso; have := HBG.out.len; rw [h0] at this; simp at this; omega
          rw [HBG.out.len] at HO ⊢
          obtain ⟨c9, z9⟩ := box_cell H9.out
          obtain ⟨c10, z10⟩ := box_cell H10.out
          have hne1 := box_ne H9.out.1 H10.out.1
          have HEND := Lib.hid (us_end (kk := w.heap.size + 1) (kc := w.heap.size) (kp := w.heap.size + 1 + 1) (place := place) (kind := 1) HCE.out HKK.out HKC.out HKP.out hbc H9.out H10.out n1 HO.out HBG.out.len HG.out)
          have hbc2 := below_box hbc H9.out (.slice (some ⟨g, 0, none⟩) n gc)
          refine wpAnyH_ready (rs := [10]) (by kernel_rfl) (by simp) ?_
          refine AllReadyH.cons rfl (fun K hK => ?_) AllReadyH.nil
          go_simp
          refine hK.out _ _ (HSS.out _ hbc2) (fun hHeld => ?_)
          clear hK K
          try simp only [Act.put, List.setIfInBounds_toArray, List.set_cons_zero, List.set_cons_succ]
          refine wpAnyH_ready (rs := [11]) (by kernel_rfl) (by simp) ?_
          refine AllReadyH.cons rfl (fun K hK => ?_) AllReadyH.nil
          go_simp
          refine hK.out _ _ (HSS.out _ HEND.out.2) (fun hHeld => ?_)
          clear hK K
          try simp only [Act.put, List.setIfInBounds_toArray, List.set_cons_zero, List.set_cons_succ]
          refine wpAnyH_done (by kernel_rfl) ?_ _
          go_wp2_with fail
          go_meet
          exact ⟨_, _, rfl, rfl, bs, t, g, gc, G, H, HEND.out.1, HBG.out, HBO.out, HEND.out.2⟩
    case bh1 =>
      go_simp
      have hd : Below wd.heap.size wd (wd.alloc (.cells #[.slice none 0 0] 29)) := (Below.refl _ _).alloc (Nat.le_refl _) _
      try replace HO := Lib.hid (OK.later HO.out hd)
      try replace HG := Lib.hid (HG.out.later hd)
      try replace H9 := Lib.hid (box_lat H9.out hd)
      try replace H10 := Lib.hid (box_lat H10.out hd)
      have H9 : Hid ((wd.alloc (.cells #[.slice none 0 0] 29)).heap[wd.heap.size]? = some (.cells #[.slice none 0 0] 29 (0, 0)) ∧ w1.heap.size ≤ wd.heap.size) := ⟨heap_alloc_new _ _, hbc.size⟩
      replace hbc := hbc.trans (hd.mono hbc.size)
      clear hd
      generalize wd.alloc (.cells #[.slice none 0 0] 29) = wd at *
      refine hK.out _ _ (HSS.out _ hbc) (fun hHeld => ?_)
      clear hK K
      try simp only [Act.put, List.setIfInBounds_toArray, List.set_cons_zero, List.set_cons_succ]
      refine wpAnyH_ready (rs := [2, 9]) (by kernel_rfl) (by simp) ?_
      refine AllReadyH.cons rfl (fun K hK => ?ah6) (AllReadyH.cons rfl (fun K hK => ?bh6) AllReadyH.nil)
      case ah6 =>
        go_simp
        go_at_call 82
        refine (HBC.out _ hbc).mono ?_
        rintro e we ⟨bv, bs, rfl, ho, hbg, hd⟩
        try replace HO := Lib.hid (OK.later HO.out hd)
        try replace HG := Lib.hid (HG.out.later hd)
        try replace H9 := Lib.hid (box_lat H9.out hd)
        try replace H10 := Lib.hid (box_lat H10.out hd)
        have HO : Hid (OI w1.heap.size we bv bs) := OK.mono ho hbc.size
        have HBG := Lib.hid hbg
        replace hbc := hbc.trans (hd.mono hbc.size)
        clear ho hbg hd
        obtain ⟨wd, rfl⟩ : ∃ x, x = we := ⟨_, rfl⟩
        refine hK.out _ _ (HSS.out _ hbc) (fun hHeld => ?_)
        clear hK K
        try simp only [Act.put, List.setIfInBounds_toArray, List.set_cons_zero, List.set_cons_succ]
        refine wpAnyH_ready (rs := [7, 9]) (by kernel_rfl) (by simp) ?_
        refine AllReadyH.cons rfl (fun K hK => ?ah7) (AllReadyH.cons rfl (fun K hK => ?bh7) AllReadyH.nil)
        case ah7 =>
          go_simp
          go_at_call 83
          refine (HBT.out _ hbc).mono ?_
          rintro e we ⟨G, H, t, rfl, hg, hbo, hd⟩
          try replace HO := Lib.hid (OK.later HO.out hd)
          try replace HG := Lib.hid (HG.out.later hd)
          try replace H9 := Lib.hid (box_lat H9.out hd)
          try replace H10 := Lib.hid (box_lat H10.out hd)
          have HG : Hid (GB w1.heap.size G n n H t we) := hg.monoB hbc.size
          have HBO := Lib.hid hbo
          replace hbc := hbc.trans (hd.mono hbc.size)
          clear hg hbo hd
          obtain ⟨wd, rfl⟩ : ∃ x, x = we := ⟨_, rfl⟩
          refine hK.out _ _ (HSS.out _ hbc) (fun hHeld => ?_)
          clear hK K
          try simp only [Act.put, List.setIfInBounds_toArray, List.set_cons_zero, List.set_cons_succ]
          refine wpAnyH_ready (rs := [9]) (by kernel_rfl) (by simp) ?_
          refine AllReadyH.cons rfl (fun K hK => ?_) AllReadyH.nil
          go_simp
          have hd : Below wd.heap.size wd (wd.alloc (.cells #[.slice none 0 0] 97)) := (Below.refl _ _).alloc (Nat.le_refl _) _
          try replace HO := Lib.hid (OK.later HO.out hd)
          try replace HG := Lib.hid (HG.out.later hd)
          try replace H9 := Lib.hid (box_lat H9.out hd)
          try replace H10 := Lib.hid (box_lat H10.out hd)
          have H10 : Hid ((wd.alloc (.cells #[.slice none 0 0] 97)).heap[wd.heap.size]? = some (.cells #[.slice none 0 0] 97 (0, 0)) ∧ w1.heap.size ≤ wd.heap.size) := ⟨heap_alloc_new _ _, hbc.size⟩
          replace hbc := hbc.trans (hd.mono hbc.size)
          clear hd
          generalize wd.alloc (.cells #[.slice none 0 0] 97) = wd at *
          refine hK.out _ _ (HSS.out _ hbc) (fun hHeld => ?_)
          clear hK K
          try simp only [Act.put, List.setIfInBounds_toArray, List.set_cons_zero, List.set_cons_succ]
          rcases OK.shape HO.out with ⟨_, h0⟩ | ⟨g, gc, rfl, hB, hcap⟩
          · exfalso; have := HBG.out.len; rw [h0] at this; simp at this; omega
          rw [HBG.out.len] at HO ⊢
          obtain ⟨c9, z9⟩ := box_cell H9.out
          obtain ⟨c10, z10⟩ := box_cell H10.out
          have hne1 := box_ne H9.out.1 H10.out.1
          have HEND := Lib.hid (us_end (kk := w.heap.size + 1) (kc := w.heap.size) (kp := w.heap.size + 1 + 1) (place := place) (kind := 1) HCE.out HKK.out HKC.out HKP.out hbc H9.out H10.out n1 HO.out HBG.out.len HG.out)
          have hbc2 := below_box hbc H9.out (.slice (some ⟨g, 0, none⟩) n gc)
          refine wpAnyH_ready (rs := [10]) (by kernel_rfl) (by simp) ?_
          refine AllReadyH.cons rfl (fun K hK => ?_) AllReadyH.nil
          go_simp
          refine hK.out _ _ (HSS.out _ hbc2) (fun hHeld => ?_)
          clear hK K
          try simp only [Act.put, List.setIfInBounds_toArray, List.set_cons_zero, List.set_cons_succ]
          refine wpAnyH_ready (rs := [11]) (by kernel_rfl) (by simp) ?_
          refine AllReadyH.cons rfl (fun K hK => ?_) AllReadyH.nil
          go_simp
          refine hK.out _ _ (HSS.out _ HEND.out.2) (fun hHeld => ?_)
          clear hK K
          try simp only [Act.put, List.setIfInBounds_toArray, List.set_cons_zero, List.set_cons_succ]
          refine wpAnyH_done (by kernel_rfl) ?_ _
          go_wp2_with fail
          go_meet
          exact ⟨_, _, rfl, rfl, bs, t, g, gc, G, H, HEND.out.1, HBG.out, HBO.out, HEND.out.2⟩
        case bh7 =>
          go_simp
          have hd : Below wd.heap.size wd (wd.alloc (.cells #[.slice none 0 0] 97)) := (Below.refl _ _).alloc (Nat.le_refl _) _
          try replace HO := Lib.hid (OK.later HO.out hd)
          try replace HG := Lib.hid (HG.out.later hd)
          try replace H9 := Lib.hid (box_lat H9.out hd)
          try replace H10 := Lib.hid (box_lat H10.out hd)
          have H10 : Hid ((wd.alloc (.cells #[.slice none 0 0] 97)).heap[wd.heap.size]? = some (.cells #[.slice none 0 0] 97 (0, 0)) ∧ w1.heap.size ≤ wd.heap.size) := ⟨heap_alloc_new _ _, hbc.size⟩
          replace hbc := hbc.trans (hd.mono hbc.size)
          clear hd
          generalize wd.alloc (.cells #[.slice none 0 0] 97) = wd at *
          refine hK.out _ _ (HSS.out _ hbc) (fun hHeld => ?_)
          clear hK K
          try simp only [Act.put, List.setIfInBounds_toArray, List.set_cons_zero, List.set_cons_succ]
          refine wpAnyH_ready (rs := [7]) (by kernel_rfl) (by simp) ?_
          refine AllReadyH.cons rfl (fun K hK => ?_) AllReadyH.nil
          go_simp
          go_at_call 83
          refine (HBT.out _ hbc).mono ?_
          rintro e we ⟨G, H, t, rfl, hg, hbo, hd⟩
          try replace HO := Lib.hid (OK.later HO.out hd)
          try replace HG := Lib.hid (HG.out.later hd)
          try replace H9 := Lib.hid (box_lat H9.out hd)
          try replace H10 := Lib.hid (box_lat H10.out hd)
          have HG : Hid (GB w1.heap.size G n n H t we) := hg.monoB hbc.size
          have HBO := Lib.hid hbo
          replace hbc := hbc.trans (hd.mono hbc.size)
          clear hg hbo hd
          obtain ⟨wd, rfl⟩ : ∃ x, x = we := ⟨_, rfl⟩
          refine hK.out _ _ (HSS.out _ hbc) (fun hHeld => ?_)
          clear hK K
          try simp only [Act.put, List.setIfInBounds_toArray, List.set_cons_zero, List.set_cons_succ]
          rcases OK.shape HO.out with ⟨_, h0⟩ | ⟨g, gc, rfl, hB, hcap⟩
          · exfalso; have := HBG.out.len; rw [h0] at this; simp at this; omega
          rw [HBG.out.len] at HO ⊢
          obtain ⟨c9, z9⟩ := box_cell H9.out
          obtain ⟨c10, z10⟩ := box_cell H10.out
          have hne1 := box_ne H9.out.1 H10.out.1
          have HEND := Lib.hid (us_end (kk := w.heap.size + 1) (kc := w.heap.size) (kp := w.heap.size + 1 + 1) (place := place) (kind := 1) HCE.out HKK.out HKC.out HKP.out hbc H9.out H10.out n1 HO.out HBG.out.len HG.out)
          have hbc2 := below_box hbc H9.out (.slice (some ⟨g, 0, none⟩) n gc)
          refine wpAnyH_ready (rs := [10]) (by kernel_rfl) (by simp) ?_
          refine AllReadyH.cons rfl (fun K hK => ?_) AllReadyH.nil
          go_simp
          refine hK.out _ _ (HSS.out _ hbc2) (fun hHeld => ?_)
          clear hK K
          try simp only [Act.put, List.setIfInBounds_toArray, List.set_cons_zero, List.set_cons_succ]
          refine wpAnyH_ready (rs := [11]) (by kernel_rfl) (by simp) ?_
          refine AllReadyH.cons rfl (fun K hK => ?_) AllReadyH.nil
          go_simp
          refine hK.out _ _ (HSS.out _ HEND.out.2) (fun hHeld => ?_)
          clear hK K
          try simp only [Act.put, List.setIfInBounds_toArray, List.set_cons_zero, List.set_cons_succ]
          refine wpAnyH_done (by kernel_rfl) ?_ _
          go_wp2_with fail
          go_meet
          exact ⟨_, _, rfl, rfl, bs, t, g, gc, G, H, HEND.out.1, HBG.out, HBO.out, HEND.out.2⟩
      case bh6 =>
        go_simp
        have hd : Below wd.heap.size wd (wd.alloc (.cells #[.slice none 0 0] 97)) := (Below.refl _ _).alloc (Nat.le_refl _) _
        try replace HO := Lib.hid (OK.later HO.out hd)
        try replace HG := Lib.hid (HG.out.later hd)
        try replace H9 := Lib.hid (box_lat H9.out hd)
        try replace H10 := Lib.hid (box_lat H10.out hd)
        have H10 : Hid ((wd.alloc (.cells #[.slice none 0 0] 97)).heap[wd.heap.size]? = some (.cells #[.slice none 0 0] 97 (0, 0)) ∧ w1.heap.size ≤ wd.heap.size) := ⟨heap_alloc_new _ _, hbc.size⟩
        replace hbc := hbc.trans (hd.mono hbc.size)
        clear hd
        generalize wd.alloc (.cells #[.slice none 0 0] 97) = wd at *
        refine hK.out _ _ (HSS.out _ hbc) (fun hHeld => ?_)
        clear hK K
        try simp only [Act.put, List.setIfInBounds_toArray, List.set_cons_zero, List.set_cons_succ]
        refine wpAnyH_ready (rs := [2]) (by kernel_rfl) (by simp) ?_
        refine AllReadyH.cons rfl (fun K hK => ?_) AllReadyH.nil
        go_simp
        go_at_call 82
        refine (HBC.out _ hbc).mono ?_
        rintro e we ⟨bv, bs, rfl, ho, hbg, hd⟩
        try replace HO := Lib.hid (OK.later HO.out hd)
        try replace HG := Lib.hid (HG.out.later hd)
        try replace H9 := Lib.hid (box_lat H9.out hd)
        try replace H10 := Lib.hid (box_lat H10.out hd)
        have HO : Hid (OI w1.heap.size we bv bs) := OK.mono ho hbc.size
        have HBG := Lib.hid hbg
        replace hbc := hbc.trans (hd.mono hbc.size)
        clear ho hbg hd
        obtain ⟨wd, rfl⟩ : ∃ x, x = we := ⟨_, rfl⟩
        refine hK.out _ _ (HSS.out _ hbc) (fun hHeld => ?_)
        clear hK K
        try simp only [Act.put, List.setIfInBounds_toArray, List.set_cons_zero, List.set_cons_succ]
        refine wpAnyH_ready (rs := [7]) (by kernel_rfl) (by simp) ?_
        refine AllReadyH.cons rfl (fun K hK => ?_) AllReadyH.nil
        go_simp
        go_at_call 83
        refine (HBT.out _ hbc).mono ?_
        rintro e we ⟨G, H, t, rfl, hg, hbo, hd⟩
        try replace HO := Lib.hid (OK.later HO.out hd)
        try replace HG := Lib.hid (HG.out.later hd)
        try replace H9 := Lib.hid (box_lat H9.out hd)
        try replace H10 := Lib.hid (box_lat H10.out hd)
        have HG : Hid (GB w1.heap.size G n n H t we) := hg.monoB hbc.size
        have HBO := Lib.hid hbo
        replace hbc := hbc.trans (hd.mono hbc.size)
        clear hg hbo hd
        obtain ⟨wd, rfl⟩ : ∃ x, x = we := ⟨_, rfl⟩
        refine hK.out _ _ (HSS.out _ hbc) (fun hHeld => ?_)
        clear hK K
        try simp only [Act.put, List.setIfInBounds_toArray, List.set_cons_zero, List.set_cons_succ]
        rcases OK.shape HO.out with ⟨_, h0⟩ | ⟨g, gc, rfl, hB, hcap⟩
        · exfalso; have := HBG.out.len; rw [h0] at this; simp at this; omega
        rw [HBG.out.len] at HO ⊢
        obtain ⟨c9, z9⟩ := box_cell H9.out
        obtain ⟨c10, z10⟩ := box_cell H10.out
        have hne1 := box_ne H9.out.1 H10.out.1
        have HEND := Lib.hid (us_end (kk := w.heap.size + 1) (kc := w.heap.size) (kp := w.heap.size + 1 + 1) (place := place) (kind := 1) HCE.out HKK.out HKC.out HKP.out hbc H9.out H10.out n1 HO.out HBG.out.len HG.out)
        have hbc2 := below_box hbc H9.out (.slice (some ⟨g, 0, none⟩) n gc)
        refine wpAnyH_ready (rs := [10]) (by kernel_rfl) (by simp) ?_
        refine AllReadyH.cons rfl (fun K hK => ?_) AllReadyH.nil
        go_simp
        refine hK.out _ _ (HSS.out _ hbc2) (fun hHeld => ?_)
        clear hK K
        try simp only [Act.put, List.setIfInBounds_toArray, List.set_cons_zero, List.set_cons_succ]
        refine wpAnyH_ready (rs := [11]) (by kernel_rfl) (by simp) ?_
        refine AllReadyH.cons rfl (fun K hK => ?_) AllReadyH.nil
        go_simp
        refine hK.out _ _ (HSS.out _ HEND.out.2) (fun hHeld => ?_)
        clear hK K
        try simp only [Act.put, List.setIfInBounds_toArray, List.set_cons_zero, List.set_cons_succ]
        refine wpAnyH_done (by kernel_rfl) ?_ _
        go_wp2_with fail
        go_meet
        exact ⟨_, _, rfl, rfl, bs, t, g, gc, G, H, HEND.out.1, HBG.out, HBO.out, HEND.out.2⟩
    case ch1 =>
      go_simp
      have hd : Below wd.heap.size wd (wd.alloc (.cells #[.slice none 0 0] 97)) := (Below.refl _ _).alloc (Nat.le_refl _) _
      try replace HO := Lib.hid (OK.later HO.out hd)
      try replace HG := Lib.hid (HG.out.later hd)
      try replace H9 := Lib.hid (box_lat H9.out hd)
      try replace H10 := Lib.hid (box_lat H10.out hd)
      have H10 : Hid ((wd.alloc (.cells #[.slice none 0 0] 97)).heap[wd.heap.size]? = some (.cells #[.slice none 0 0] 97 (0, 0)) ∧ w1.heap.size ≤ wd.heap.size) := ⟨heap_alloc_new _ _, hbc.size⟩
      replace hbc := hbc.trans (hd.mono hbc.size)
      clear hd
      generalize wd.alloc (.cells #[.slice none 0 0] 97) = wd at *
      refine hK.out _ _ (HSS.out _ hbc) (fun hHeld => ?_)
      clear hK K
      try simp only [Act.put, List.setIfInBounds_toArray, List.set_cons_zero, List.set_cons_succ]
      refine wpAnyH_ready (rs := [2, 8]) (by kernel_rfl) (by simp) ?_
      refine AllReadyH.cons rfl (fun K hK => ?ah8) (AllReadyH.cons rfl (fun K hK => ?bh8) AllReadyH.nil)
      case ah8 =>
        go_simp
        go_at_call 82
        refine (HBC.out _ hbc).mono ?_
        rintro e we ⟨bv, bs, rfl, ho, hbg, hd⟩
        try replace HO := Lib.hid (OK.later HO.out hd)
        try replace HG := Lib.hid (HG.out.later hd)
        try replace H9 := Lib.hid (box_lat H9.out hd)
        try replace H10 := Lib.hid (box_lat H10.out hd)
        have HO : Hid (OI w1.heap.size we bv bs) := OK.mono ho hbc.size
        have HBG := Lib.hid hbg
        replace hbc := hbc.trans (hd.mono hbc.size)
        clear ho hbg hd
        obtain ⟨wd, rfl⟩ : ∃ x, x = we := ⟨_, rfl⟩
        refine hK.out _ _ (HSS.out _ hbc) (fun hHeld => ?_)
        clear hK K
        try simp only [Act.put, List.setIfInBounds_toArray, List.set_cons_zero, List.set_cons_succ]
        refine wpAnyH_ready (rs := [7, 8]) (by kernel_rfl) (by simp) ?_
        refine AllReadyH.cons rfl (fun K hK => ?ah9) (AllReadyH.cons rfl (fun K hK => ?bh9) AllReadyH.nil)
        case ah9 =>
          go_simp
          go_at_call 83
          refine (HBT.out _ hbc).mono ?_
          rintro e we ⟨G, H, t, rfl, hg, hbo, hd⟩
          try replace HO := Lib.hid (OK.later HO.out hd)
          try replace HG := Lib.hid (HG.out.later hd)
          try replace H9 := Lib.hid (box_lat H9.out hd)
          try replace H10 := Lib.hid (box_lat H10.out hd)
          have HG : Hid (GB w1.heap.size G n n H t we) := hg.monoB hbc.size
          have HBO := Lib.hid hbo
          replace hbc := hbc.trans (hd.mono hbc.size)
          clear hg hbo hd
          obtain ⟨wd, rfl⟩ : ∃ x, x = we := ⟨_, rfl⟩
          refine hK.out _ _ (HSS.out _ hbc) (fun hHeld => ?_)
          clear hK K
          try simp only [Act.put, List.setIfInBounds_toArray, List.set_cons_zero, List.set_cons_succ]
          refine wpAnyH_ready (rs := [8]) (by kernel_rfl) (by simp) ?_
          refine AllReadyH.cons rfl (fun K hK => ?_) AllReadyH.nil
          go_simp
          have hd : Below wd.heap.size wd (wd.alloc (.cells #[.slice none 0 0] 29)) := (Below.refl _ _).alloc (Nat.le_refl _) _
          try replace HO := Lib.hid (OK.later HO.out hd)
          try replace HG := Lib.hid (HG.out.later hd)
          try replace H9 := Lib.hid (box_lat H9.out hd)
          try replace H10 := Lib.hid (box_lat H10.out hd)
          have H9 : Hid ((wd.alloc (.cells #[.slice none 0 0] 29)).heap[wd.heap.size]? = some (.cells #[.slice none 0 0] 29 (0, 0)) ∧ w1.heap.size ≤ wd.heap.size) := ⟨heap_alloc_new _ _, hbc.size⟩
          replace hbc := hbc.trans (hd.mono hbc.size)
          clear hd
          generalize wd.alloc (.cells #[.slice none 0 0] 29) = wd at *
          refine hK.out _ _ (HSS.out _ hbc) (fun hHeld => ?_)
          clear hK K
          try simp only [Act.put, List.setIfInBounds_toArray, List.set_cons_zero, List.set_cons_succ]
          rcases OK.shape HO.out with ⟨_, h0⟩ | ⟨g, gc, rfl, hB, hcap⟩
          · exfalso; have := HBG.out.len; rw [h0] at this; simp at this; omega
          rw [HBG.out.len] at HO ⊢
          obtain ⟨c9, z9⟩ := box_cell H9.out
          obtain ⟨c10, z10⟩ := box_cell H10.out
          have hne1 := box_ne H9.out.1 H10.out.1
          have HEND := Lib.hid (us_end (kk := w.heap.size + 1) (kc := w.heap.size) (kp := w.heap.size + 1 + 1) (place := place) (kind := 1) HCE.out HKK.out HKC.out HKP.out hbc H9.out H10.out n1 HO.out HBG.out.len HG.out)
          have hbc2 := below_box hbc H9.out (.slice (some ⟨g, 0, none⟩) n gc)
          refine wpAnyH_ready (rs := [10]) (by kernel_rfl) (by simp) ?_
          refine AllReadyH.cons rfl (fun K hK => ?_) AllReadyH.nil
          go_simp
          refine hK.out _ _ (HSS.out _ hbc2) (fun hHeld => ?_)
          clear hK K
          try simp only [Act.put, List.setIfInBounds_toArray, List.set_cons_zero, List.set_cons_succ]
          refine wpAnyH_ready (rs := [11]) (by kernel_rfl) (by simp) ?_
          refine AllReadyH.cons rfl (fun K hK => ?_) AllReadyH.nil
          go_simp
          refine hK.out _ _ (HSS.out _ HEND.out.2) (fun hHeld => ?_)
          clear hK K
          try simp only [Act.put, List.setIfInBounds_toArray, List.set_cons_zero, List.set_cons_succ]
          refine wpAnyH_done (by kernel_rfl) ?_ _
          go_wp2_with fail
          go_meet
          exact ⟨_, _, rfl, rfl, bs, t, g, gc, G, H, HEND.out.1, HBG.out, HBO.out, HEND.out.2⟩
        case bh9 =>
          go_simp
          have hd : Below wd.heap.size wd (wd.alloc (.cells #[.slice none 0 0] 29)) := (Below.refl _ _).alloc (Nat.le_refl _) _
          try replace HO := Lib.hid (OK.later HO.out hd)
          try replace HG := Lib.hid (HG.out.later hd)
          try replace H9 := Lib.hid (box_lat H9.out hd)
          try replace H10 := Lib.hid (box_lat H10.out hd)
          have H9 : Hid ((wd.alloc (.cells #[.slice none 0 0] 29)).heap[wd.heap.size]? = some (.cells #[.slice none 0 0] 29 (0, 0)) ∧ w1.heap.size ≤ wd.heap.size) := ⟨heap_alloc_new _ _, hbc.size⟩
          replace hbc := hbc.trans (hd.mono hbc.size)
          clear hd
          generalize wd.alloc (.cells #[.slice none 0 0] 29) = wd at *
          refine hK.out _ _ (HSS.out _ hbc) (fun hHeld => ?_)
          clear hK K
          try simp only [Act.put, List.setIfInBounds_toArray, List.set_cons_zero, List.set_cons_succ]
          refine wpAnyH_ready (rs := [7]) (by kernel_rfl) (by simp) ?_
          refine AllReadyH.cons rfl (fun K hK => ?_) AllReadyH.nil
          go_simp
          go_at_call 83
          refine (HBT.out _ hbc).mono ?_
          rintro e we ⟨G, H, t, rfl, hg, hbo, hd⟩
          try replace HO := Lib.hid (OK.later HO.out hd)
          try replace HG := Lib.hid (HG.out.later hd)
          try replace H9 := Lib.hid (box_lat H9.out hd)
          try replace H10 := Lib.hid (box_lat H10.out hd)
          have HG : Hid (GB w1.heap.size G n n H t we) := hg.monoB hbc.size
          have HBO := Lib.hid hbo
          replace hbc := hbc.trans (hd.mono hbc.size)
          clear hg hbo hd
          obtain ⟨wd, rfl⟩ : ∃ x, x = we := ⟨_, rfl⟩
          refine hK.out _ _ (HSS.out _ hbc) (fun hHeld => ?_)
          clear hK K
          try simp only [Act.put, List.setIfInBounds_toArray, List.set_cons_zero, List.set_cons_succ]
          rcases OK.shape HO.out with ⟨_, h0⟩ | ⟨g, gc, rfl, hB, hcap⟩
          · exfalso; have := HBG.out.len; rw [h0] at this; simp at this; omega
          rw [HBG.out.len] at HO ⊢
          obtain ⟨c9, z9⟩ := box_cell H9.out
          obtain ⟨c10, z10⟩ := box_cell H10.out
          have hne1 := box_ne H9.out.1 H10.out.1
          have HEND := Lib.hid (us_end (kk := w.heap.size + 1) (kc := w.heap.size) (kp := w.heap.size + 1 + 1) (place := place) (kind := 1) HCE.out HKK.out HKC.out HKP.out hbc H9.out H10.out n1 HO.out HBG.out.len HG.out)
          have hbc2 := below_box hbc H9.out (.slice (some ⟨g, 0, none⟩) n gc)
          refine wpAnyH_ready (rs := [10]) (by kernel_rfl) (by simp) ?_
          refine AllReadyH.cons rfl (fun K hK => ?_) AllReadyH.nil
          go_simp
          refine hK.out _ _ (HSS.out _ hbc2) (fun hHeld => ?_)
          clear hK K
          try simp only [Act.put, List.setIfInBounds_toArray, List.set_cons_zero, List.set_cons_succ]
          refine wpAnyH_ready (rs := [11]) (by kernel_rfl) (by simp) ?_
          refine AllReadyH.cons rfl (fun K hK => ?_) AllReadyH.nil
          go_simp
          refine hK.out _ _ (HSS.out _ HEND.out.2) (fun hHeld => ?_)
          clear hK K
          try simp only [Act.put, List.setIfInBounds_toArray, List.set_cons_zero, List.set_cons_succ]
          refine wpAnyH_done (by kernel_rfl) ?_ _
          go_wp2_with fail
          go_meet
          exact ⟨_, _, rfl, rfl, bs, t, g, gc, G, H, HEND.out.1, HBG.out, HBO.out, HEND.out.2⟩
      case bh8 =>
        go_simp
        have hd : Below wd.heap.size wd (wd.alloc (.cells #[.slice none 0 0] 29)) := (Below.refl _ _).alloc (Nat.le_refl _) _
        try replace HO := Lib.hid (OK.later HO.out hd)
        try replace HG := Lib.hid (HG.out.later hd)
        try replace H9 := Lib.hid (box_lat H9.out hd)
        try replace H10 := Lib.hid (box_lat H10.out hd)
        have H9 : Hid ((wd.alloc (.cells #[.slice none 0 0] 29)).heap[wd.heap.size]? = some (.cells #[.slice none 0 0] 29 (0, 0)) ∧ w1.heap.size ≤ wd.heap.size) := ⟨heap_alloc_new _ _, hbc.size⟩
        replace hbc := hbc.trans (hd.mono hbc.size)
        clear hd
        generalize wd.alloc (.cells #[.slice none 0 0] 29) = wd at *
        refine hK.out _ _ (HSS.out _ hbc) (fun hHeld => ?_)
        clear hK K
        try simp only [Act.put, List.setIfInBounds_toArray, List.set_cons_zero, List.set_cons_succ]
        refine wpAnyH_ready (rs := [2]) (by kernel_rfl) (by simp) ?_
        refine AllReadyH.cons rfl (fun K hK => ?_) AllReadyH.nil
        go_simp
        go_at_call 82
        refine (HBC.out _ hbc).mono ?_
        rintro e we ⟨bv, bs, rfl, ho, hbg, hd⟩
        try replace HO := Lib.hid (OK.later HO.out hd)
        try replace HG := Lib.hid (HG.out.later hd)
        try replace H9 := Lib.hid (box_lat H9.out hd)
        try replace H10 := Lib.hid (box_lat H10.out hd)
        have HO : Hid (OI w1.heap.size we bv bs) := OK.mono ho hbc.size
        have HBG := Lib.hid hbg
        replace hbc := hbc.trans (hd.mono hbc.size)
        clear ho hbg hd
        obtain ⟨wd, rfl⟩ : ∃ x, x = we := ⟨_, rfl⟩
        refine hK.out _ _ (HSS.out _ hbc) (fun hHeld => ?_)
        clear hK K
        try simp only [Act.put, List.setIfInBounds_toArray, List.set_cons_zero, List.set_cons_succ]
        refine wpAnyH_ready (rs := [7]) (by kernel_rfl) (by simp) ?_
        refine AllReadyH.cons rfl (fun K hK => ?_) AllReadyH.nil
        go_simp
        go_at_call 83
        refine (HBT.out _ hbc).mono ?_
        rintro e we ⟨G, H, t, rfl, hg, hbo, hd⟩
        try replace HO := Lib.hid (OK.later HO.out hd)
        try replace HG := Lib.hid (HG.out.later hd)
        try replace H9 := Lib.hid (box_lat H9.out hd)
        try replace H10 := Lib.hid (box_lat H10.out hd)
        have HG : Hid (GB w1.heap.size G n n H t we) := hg.monoB hbc.size
        have HBO := Lib.hid hbo
        replace hbc := hbc.trans (hd.mono hbc.size)
        clear hg hbo hd
        obtain ⟨wd, rfl⟩ : ∃ x, x = we := ⟨_, rfl⟩
        refine hK.out _ _ (HSS.out _ hbc) (fun hHeld => ?_)
        clear hK K
        try simp only [Act.put, List.setIfInBounds_toArray, List.set_cons_zero, List.set_cons_succ]
        rcases OK.shape HO.out with ⟨_, h0⟩ | ⟨g, gc, rfl, hB, hcap⟩
        · exfalso; have := HBG.out.len; rw [h0] at this; simp at this; omega
        rw [HBG.out.len] at HO ⊢
        obtain ⟨c9, z9⟩ := box_cell H9.out
        obtain ⟨c10, z10⟩ := box_cell H10.out
        have hne1 := box_ne H9.out.1 H10.out.1
        have HEND := Lib.hid (us_end (kk := w.heap.size + 1) (kc := w.heap.size) (kp := w.heap.size + 1 + 1) (place := place) (kind := 1) HCE.out HKK.out HKC.out HKP.out hbc H9.out H10.out n1 HO.out HBG.out.len HG.out)
        have hbc2 := below_box hbc H9.out (.slice (some ⟨g, 0, none⟩) n gc)
        refine wpAnyH_ready (rs := [10]) (by kernel_rfl) (by simp) ?_
        refine AllReadyH.cons rfl (fun K hK => ?_) AllReadyH.nil
        go_simp
        refine hK.out _ _ (HSS.out _ hbc2) (fun hHeld => ?_)
        clear hK K
        try simp only [Act.put, List.setIfInBounds_toArray, List.set_cons_zero, List.set_cons_succ]
        refine wpAnyH_ready (rs := [11]) (by kernel_rfl) (by simp) ?_
        refine AllReadyH.cons rfl (fun K hK => ?_) AllReadyH.nil
        go_simp
        refine hK.out _ _ (HSS.out _ HEND.out.2) (fun hHeld => ?_)
        clear hK K
        try simp only [Act.put, List.setIfInBounds_toArray, List.set_cons_zero, List.set_cons_succ]
        refine wpAnyH_done (by kernel_rfl) ?_ _
        go_wp2_with fail
        go_meet
        exact ⟨_, _, rfl, rfl, bs, t, g, gc, G, H, HEND.out.1, HBG.out, HBO.out, HEND.out.2⟩
  case rest =>
    obtain ⟨kb, ko, rfl, rfl, bs, t, g, gc, G, H, hS, hB, hT, hb2⟩ := hcut
    obtain ⟨W0, rfl⟩ : ∃ x, x = wc := ⟨_, rfl⟩
    have HS := Lib.hid hS
    have HB := Lib.hid hB
    have HT := Lib.hid hT
    have HB2 := Lib.hid (hb1.trans (hb2.mono hb1.size))
    clear hkc hkk hkp hS hB hT hb1 hb2 HBC HBT HSS HCE HKK HKC HKP HEL
    go_upto_region 4 with fail
    have HU := Lib.hid (uw_start W0)
    generalize (W0.alloc (.cells #[.int .i64 0] 2)).alloc (.cells #[.int .i64 0] 2) = w3 at *
    have hS3 := HS.out.later HU.out.hb
    have e1 := hS3.c
    have e2 := hS3.ce.fields.1
    have HTU : Hid (Calls Try.prog 84 #[.int .i64 n, .int .i64 2, .func (.func 85) #[] #[.pointer (some ⟨w.heap.size + 1, 0, none⟩), .pointer (some ⟨w.heap.size, 0, none⟩), .pointer (some ⟨kb, 0, none⟩), .pointer (some ⟨w.heap.size + 1 + 1, 0, none⟩), .pointer (some ⟨W0.heap.size + 1, 0, none⟩), .pointer (some ⟨ko, 0, none⟩), .pointer (some ⟨W0.heap.size, 0, none⟩)]] w3
        fun e w' => e = .returned (.tuple #[]) ∧ ∃ x, UW W0 x w' ∧ Hid (SwQ n place T x)) := by
      have hpe := HPE.out
      refine (tup2_any W0 n _ _ _ _ _ _ _ (fun f => cvS n T bs t (f.getD 0 0) (f.getD 1 0)) w3 (cbt1 HQ.out HS.out HB.out HT.out (by omega) hp n5) HU.out ⟨n1, n5⟩ (fun i hi => by have := cvT_bd HQ.out HB.out HT.out (by omega) n5 hi; exact ⟨this.1, Int.le_trans this.2 (by decide)⟩)).mono ?_
      (rintro e w' ⟨rfl, h1, _⟩; exact ⟨rfl, _, h1, cvT_bd HQ.out HB.out HT.out (by omega) n5 (Nat.le_refl _), fun hN => cvT_zero HQ.out HT.out hN, fun h1 hN => cvT_pos HQ.out HB.out HT.out (by omega) (by omega) (by omega) n5 hN⟩)
    clear hS3
    go_wp2_with fail
    refine HTU.out.mono ?_
    rintro e w4 ⟨rfl, x, hW, HQX⟩
    have HBF : Hid (∀ k, Below w.heap.size w (w4.drewN k)) := fun k => below_drewN (HB2.out.trans (hW.hb.mono HB2.out.size)) k
    have d1 := hW.cb
    obtain ⟨y, d2, _⟩ := hW.ca
    clear e1 e2 HTU hW
    go_wp2_with fail
    go_quiet (fail)
    go_wp2_with fail
    go_ret2
    exact ⟨x, y, rfl, HQX, HBF.out _⟩
end Go.Proofs.Ythcnhkjiojeemaa
