/- Even chains: the program's. -/
import Derived.Test.YthcnhkjiojeemaaChE
import Derived.Test.YthcnhkjiojeemaaSkF
import Derived.Test.YthcnhkjiojeemaaChL
namespace Go.Proofs.Ythcnhkjiojeemaa
open Go.RowKit

/-- make([]int64, n) as one step of a region that draws its order. -/
theorem step_make_i64 {w : World} {ops : Array Oper} {o : Oper} {a : Act} {K : Act → World → Prop} {Q : Exit → Act → World → Prop} {E : Prop}
    (hg : o.guard = none) (l c : Operand) (hop : o.op = Op.makeSlice 29 l c) (B : Nat) (kl kc : IntKind) (L C : Int) (n : Nat)
    (hl : a.eval l = .int kl L) (hc : a.eval c = .int kc C) (hL : L = (n : Int)) (hC : C = (n : Int)) (hn : n ≤ 1099511627776) (hB : B ≤ w.heap.size)
    (hK : ∀ w', OI B w' (.slice (some ⟨w.heap.size, 0, none⟩) n n) (List.replicate n 0) → w.grownBy w' none → w.heap.size < w'.heap.size → K (a.put o.dst (.slice (some ⟨w.heap.size, 0, none⟩) n n)) w') :
    if Region.wanted o (yielded ops a.tmps) = true then Oper.wp Try.prog o a w K Q else E := by
  rw [if_pos (by simp [Region.wanted, hg])]
  obtain ⟨i, hi, hz0, hz1', hz2⟩ := info_parts info_i64
  obtain ⟨w', hrun, r1, r2⟩ := run_make_full (P := Try.prog) w B 29 2 i _ 1 Try.underlying29 hi hz0 hz1' kl kc n (by rw [hz2]; omega) (by unfold maxLen; omega) hB
  have hown : OI B w' (.slice (some ⟨w.heap.size, 0, none⟩) n n) (List.replicate n 0) := by
    have hown' : OV 2 B w' (.slice (some ⟨w.heap.size, 0, none⟩) n n) (List.replicate n (.int .i64 0)) := by
      unfold OV
      rw [List.length_replicate]
      have e : (madeCells (Value.int .i64 0).cells (n * 1)).toList = List.replicate n (.int .i64 0) := by
        rw [Nat.mul_one]; exact toList_madeCells_one _ _
      rw [← e]; exact r1
    unfold OI OK
    rw [List.map_replicate]; exact hown'
  subst hL
  subst hC
  unfold Oper.wp
  simp [execOp, hop, hl, hc, hrun, Result.andThen]
  exact hK _ hown r2 (hown.lt w.heap.size rfl).2
abbrev zch : Obj := .cells #[.int .i64 0, .int .i64 0, .int .i64 0, .int .i64 0, .slice none 0 0, .slice none 0 0] 35
/-- A blank chain lies in the box p. -/
structure AF (p : Nat) (w : World) : Prop where
  ch : ChAt p 0 0 0 0 (.slice none 0 0) (.slice none 0 0) w
  fz : ∀ o, w.frozen? ⟨p, o, none⟩ = false
theorem AF.later {p : Nat} {w w' : World} (h : AF p w) (hb : Below w.heap.size w w') : AF p w' :=
  ⟨h.ch.later hb, fun o => (hb.frozen (p := ⟨p, o, none⟩) h.ch.lt).trans (h.fz o)⟩
theorem AF.fresh (w : World) : AF w.heap.size (w.alloc zch) :=
  ⟨⟨by simp, World.cell?_alloc_at _ _ _ _ rfl, World.cell?_alloc_at _ _ _ _ rfl, World.cell?_alloc_at _ _ _ _ rfl, World.cell?_alloc_at _ _ _ _ rfl, World.cell?_alloc_at _ _ _ _ rfl, World.cell?_alloc_at _ _ _ _ rfl⟩, fun o => by simp [go_sem]⟩
/-- What the twelve ways share: the chain lies in its box, its table and its places are the call's own. -/
structure EvG (r : Nat) (P tb X : Nat) (n p : Nat) (x : List (List Int)) (w0 w : World) : Prop where
  rX : r < X
  ch : ChAt X n n 0 0 (.slice (some ⟨tb, 0, none⟩) 1 1) (.slice (some ⟨P, 0, none⟩) p p) w
  o : O3 (some P) (r + 1) w.heap.size w (.slice (some ⟨tb, 0, none⟩) 1 1) [x]
  pl : OI (r + 1) w (.slice (some ⟨P, 0, none⟩) p p) (List.replicate p 0)
  cr : AF r w
  b : Below r w0 w
theorem EvG.later {r P tb X n p : Nat} {x : List (List Int)} {w0 w w' : World} (h : EvG r P tb X n p x w0 w) (hr : r ≤ w.heap.size) (hb : Below w.heap.size w w') : EvG r P tb X n p x w0 w' :=
  ⟨h.rX, h.ch.later hb, (h.o.later hb (Nat.le_refl _)).mono hb.size, h.pl.later hb, h.cr.later hb, h.b.trans (hb.mono hr)⟩
theorem evLeaf {r P tb X n p lo hi : Nat} {x : List (List Int)} {tv : Value} {w0 w : World} (hA : AF X w) (hR : AF r w) (hM : OI P w (.slice (some ⟨P, 0, none⟩) p p) (List.replicate p 0)) (hC : OT lo hi w tv x)
    (hO : OV 24 tb w (.slice (some ⟨tb, 0, none⟩) 1 1) [tv]) (hb : Below r w0 w) (h1 : r < X ∧ r < P ∧ r < tb ∧ r < lo) (h2 : lo ≤ hi ∧ hi ≤ w.heap.size) (h3 : (X < lo ∨ hi ≤ X) ∧ (P < lo ∨ hi ≤ P) ∧ (tb < lo ∨ hi ≤ tb)) (h4 : X ≠ P ∧ X ≠ tb) :
    EvG r P tb X n p x w0 ((((((w.setCell ⟨X, 0, none⟩ (.int .i64 n)).setCell ⟨X, 1, none⟩ (.int .i64 n)).setCell ⟨X, 2, none⟩ (.int .i64 0)).setCell ⟨X, 3, none⟩ (.int .i64 0)).setCell ⟨X, 4, none⟩ (.slice (some ⟨tb, 0, none⟩) 1 1)).setCell ⟨X, 5, none⟩ (.slice (some ⟨P, 0, none⟩) p p)) := by
  obtain ⟨s1, s2⟩ := set6 (r := X) (w := w) (.int .i64 n) (.int .i64 n) (.int .i64 0) (.int .i64 0) (.slice (some ⟨tb, 0, none⟩) 1 1) (.slice (some ⟨P, 0, none⟩) p p)
  have hb2 := s2 w0 r (Nat.le_of_lt h1.1) hb
  have hch : ChAt X n n 0 0 (.slice (some ⟨tb, 0, none⟩) 1 1) (.slice (some ⟨P, 0, none⟩) p p) ((((((w.setCell ⟨X, 0, none⟩ (.int .i64 n)).setCell ⟨X, 1, none⟩ (.int .i64 n)).setCell ⟨X, 2, none⟩ (.int .i64 0)).setCell ⟨X, 3, none⟩ (.int .i64 0)).setCell ⟨X, 4, none⟩ (.slice (some ⟨tb, 0, none⟩) 1 1)).setCell ⟨X, 5, none⟩ (.slice (some ⟨P, 0, none⟩) p p)) := by
    have c0 := hA.ch.c0
    have c1 := hA.ch.c1
    have c2 := hA.ch.c2
    have c3 := hA.ch.c3
    have c4 := hA.ch.c4
    have c5 := hA.ch.c5
    have hl := hA.ch.lt
    refine ⟨by simp; exact hl, ?_, ?_, ?_, ?_, ?_, ?_⟩ <;> simp [go_sem, c0, c1, c2, c3, c4, c5]
  have hz : ((((((w.setCell ⟨X, 0, none⟩ (.int .i64 n)).setCell ⟨X, 1, none⟩ (.int .i64 n)).setCell ⟨X, 2, none⟩ (.int .i64 0)).setCell ⟨X, 3, none⟩ (.int .i64 0)).setCell ⟨X, 4, none⟩ (.slice (some ⟨tb, 0, none⟩) 1 1)).setCell ⟨X, 5, none⟩ (.slice (some ⟨P, 0, none⟩) p p)).heap.size = w.heap.size := by simp
  generalize (((((w.setCell ⟨X, 0, none⟩ (.int .i64 n)).setCell ⟨X, 1, none⟩ (.int .i64 n)).setCell ⟨X, 2, none⟩ (.int .i64 0)).setCell ⟨X, 3, none⟩ (.int .i64 0)).setCell ⟨X, 4, none⟩ (.slice (some ⟨tb, 0, none⟩) 1 1)).setCell ⟨X, 5, none⟩ (.slice (some ⟨P, 0, none⟩) p p) = w' at *
  have ho : OV 24 (r + 1) w' (.slice (some ⟨tb, 0, none⟩) 1 1) [tv] := (OV.heap hO fun k hk => s1 k (by simp [Value.ownBlock] at hk; omega)).mono (by omega)
  refine ⟨h1.1, hch, ⟨[tv], fun _ => lo, fun _ => hi, ho, fun k hk => (ho.lt k hk).2, rfl, fun j hj => ?_⟩, (OV.heap hM fun k hk => s1 k (by simp [Value.ownBlock] at hk; omega)).mono (by omega), ⟨hR.ch.heap (s1 r (by omega)) (by omega), fun o => (frozenH (s1 r (by omega)) o).trans (hR.fz o)⟩, hb2⟩
  obtain rfl : j = 0 := by simp at hj; omega
  refine ⟨hC.keep fun k k1 k2 => s1 k (by omega), h1.2.2.2, (by show hi ≤ _; omega), fun k hk => ?_, fun i hi => by omega⟩
  show k < lo ∨ hi ≤ k
  rcases hk with hk | hk
  · simp [Value.ownBlock] at hk; omega
  · simp at hk; omega

theorem goodEven {x : List (List Int)} {p : Nat} (hq : qgB x = true) (h2 : 2 ≤ x.length) (hp : 1 ≤ p ∧ p ≤ 20) : GoodC x.length x.length 0 0 [x] (List.replicate p 0) := by
  obtain ⟨⟨h1, h36⟩, hl, hQ⟩ := qgB_iff.1 hq
  refine ⟨⟨h2, h36⟩, ⟨h1, h36⟩, by omega, by omega, by simp, by simpa using hp, fun t ht => ?_, fun i hi => ?_⟩
  · obtain rfl : t = 0 := by simp at ht; omega
    refine ⟨rfl, fun i hi => ⟨hl i hi, fun d hd => ?_⟩⟩
    have := hQ.bd i d hi hd
    exact inB_yes (n := tb x i d) (by omega)
  · rw [List.length_replicate] at hi
    rw [List.getD_eq_getElem?_getD, List.getElem?_replicate, if_pos hi]
    exact inB_yes (by simp)
/-- The end: the chain lies in the result's box. -/
theorem evRes {r P tb X n p : Nat} {x : List (List Int)} {w0 w : World} (h : EvG r P tb X n p x w0 w) (a0 a1 a2 a3 a4 a5 : Value) (hr : r = w0.heap.size) :
    ChP n n 0 0 [x] (List.replicate p 0) true w0 (.returned (.tuple #[.agg #[.int .i64 n, .int .i64 n, .int .i64 0, .int .i64 0, .slice (some ⟨tb, 0, none⟩) 1 1, .slice (some ⟨P, 0, none⟩) p p], .bool true]))
      ((((((w.setCell ⟨r, 0, none⟩ a0).setCell ⟨r, 1, none⟩ a1).setCell ⟨r, 2, none⟩ a2).setCell ⟨r, 3, none⟩ a3).setCell ⟨r, 4, none⟩ a4).setCell ⟨r, 5, none⟩ a5) := by
  subst hr
  obtain ⟨s1, s2⟩ := set6 (r := w0.heap.size) (w := w) a0 a1 a2 a3 a4 a5
  have hz : ((((((w.setCell ⟨w0.heap.size, 0, none⟩ a0).setCell ⟨w0.heap.size, 1, none⟩ a1).setCell ⟨w0.heap.size, 2, none⟩ a2).setCell ⟨w0.heap.size, 3, none⟩ a3).setCell ⟨w0.heap.size, 4, none⟩ a4).setCell ⟨w0.heap.size, 5, none⟩ a5).heap.size = w.heap.size := by simp
  refine ⟨_, _, rfl, ?_, (OV.heap h.pl fun k hk => s1 k (by have := h.pl.lt k hk; omega)).mono (by omega), s2 _ _ (Nat.le_refl _) h.b⟩
  rw [hz]
  exact (h.o.keep fun k k1 _ => s1 k (by omega)).monoB (by omega)
theorem evNil {w0 w : World} (hb : Below w0.heap.size w0 w) : ChP 0 0 0 0 [] [] false w0 (.returned (.tuple #[.agg #[.int .i64 0, .int .i64 0, .int .i64 0, .int .i64 0, .slice none 0 0, .slice none 0 0], .bool false])) w :=
  ⟨_, _, rfl, O3.nil _ _ _ _, OK.nil _ _ _ _, hb⟩

set_option maxHeartbeats 40000000 in
set_option maxRecDepth 100000 in
theorem implEven_any (v : Value) (x : List (List Int)) (p : Nat) (w : World) (hx : RT w v x) (hm : 2 ≤ x.length ∧ x.length ≤ 36) (hr : Small x) (hq : qgB x = true) (hp : 1 ≤ p ∧ p ≤ 20) :
    Calls Try.prog 41 #[v, .int .i64 p, .int .i64 0, .int .i64 0] w (fun e w' => if powB x.length p then ChP x.length x.length 0 0 [x] (List.replicate p 0) true w e w' else ChP 0 0 0 0 [] [] false w e w') := by
  obtain ⟨a, c, rfl⟩ := hx.slice
  have HI : Hid (inB (p : Int) 1 20 = true) := inB_yes (by omega)
  have hx0 : ¬ x = [] := by intro e; rw [e] at hm; simp at hm
  have hxl : 0 < x.length := by omega
  have hrl : (rowAt x 0).length = x.length := (qgB_iff.1 hq).2.1 0 (by omega)
  have HQ := Lib.hid hq
  obtain ⟨pb, hpb⟩ : ∃ pb, pb = powB x.length p := ⟨_, rfl⟩
  rw [← hpb]
  have HPB := Lib.hid hpb
  clear hpb
  obtain ⟨g, off, r0, rfl, hg, hc, hri⟩ := hx.at 0 (by omega)
  obtain ⟨ra, rc, rfl⟩ := hri.slice
  rw [hrl] at hc
  replace hc : w.cell? ⟨g, off, none⟩ = some (.slice ra x.length rc) := hc
  have HCT : Hid (∀ wx, Below w.heap.size w wx → Calls Try.prog 36 #[.slice (some ⟨g, off, none⟩) x.length c] wx fun e w' => ∃ v', e = .returned v' ∧ OT wx.heap.size w'.heap.size w' v' x ∧ Below wx.heap.size wx w') := fun wx h => cloneTable_any _ x wx (hx.later h) (by omega) hr
  clear hrl hri hq hx
  have HB : Below w.heap.size w (w.alloc zch).drew := ((Below.refl _ _).alloc (Nat.le_refl _) _).drew
  have fR : AF w.heap.size (w.alloc zch).drew := (AF.fresh w).later (Below.refl _ _).drew
  have sR : w.heap.size < (w.alloc zch).drew.heap.size := by simp
  go_enter Try.func41, Try.ntmps41
  go_wp2_with (go_at_call 32; refine (cin_is _ _ _ _ true HI).mono ?_; rintro e w' ⟨rfl, rfl⟩)
  refine wp_region_held_drew (S := fun w' => w'.cell? ⟨g, off, none⟩ = some (.slice ra x.length rc)) (by kernel_rfl) ((HB.cell (p := ⟨g, off, none⟩) hg).trans hc) (fun hHeld => ?_)
  generalize (w.alloc zch).drew = w1 at *
  refine wpAnyH_take (i := 0) (oi := ⟨some 20, _, _, _, _, _⟩) (v := ?va0) rfl (by kernel_rfl) (by kernel_rfl) (by kernel_rfl) (fun _ _ _ h => h) (Or.inl ⟨by rfl, ?ya0⟩) hHeld ?ra0
  case ya0 => (intro w hSw; (try dsimp only at hSw); go_simp; all_goals (with_reducible rfl))
  try simp only [Act.put, List.setIfInBounds_toArray, List.set_cons_zero, List.set_cons_succ]
  refine wpAnyH_take (i := 1) (oi := ⟨some 21, _, _, _, _, _⟩) (v := ?va1) rfl (by kernel_rfl) (by kernel_rfl) (by kernel_rfl) (fun _ _ _ h => h) (Or.inl ⟨by rfl, ?ya1⟩) hHeld ?ra1
  case ya1 => (intro w hSw; (try dsimp only at hSw); go_simp; all_goals (with_reducible rfl))
  try simp only [Act.put, List.setIfInBounds_toArray, List.set_cons_zero, List.set_cons_succ]
  refine wpAnyH_take (i := 2) (oi := ⟨some 22, _, _, _, _, _⟩) (v := ?va2) rfl (by kernel_rfl) (by kernel_rfl) (by kernel_rfl) (fun _ _ _ h => h) (Or.inl ⟨by rfl, ?ya2⟩) hHeld ?ra2
  case ya2 => (intro w hSw; (try dsimp only at hSw); go_simp; all_goals (with_reducible rfl))
  try simp only [Act.put, List.setIfInBounds_toArray, List.set_cons_zero, List.set_cons_succ]
  refine wpAnyH_take (i := 3) (oi := ⟨some 23, _, _, _, _, _⟩) (v := ?va3) rfl (by kernel_rfl) (by kernel_rfl) (by kernel_rfl) (fun _ _ _ h => h) (Or.inl ⟨by rfl, ?ya3⟩) hHeld ?ra3
  case ya3 => (intro w hSw; (try dsimp only at hSw); go_simp; all_goals (with_reducible rfl))
  try simp only [Act.put, List.setIfInBounds_toArray, List.set_cons_zero, List.set_cons_succ]
  refine wpAnyH_take (i := 4) (oi := ⟨some 24, _, _, _, _, _⟩) (v := ?va4) rfl (by kernel_rfl) (by kernel_rfl) (by kernel_rfl) (fun _ _ _ h => h) (Or.inl ⟨by rfl, ?ya4⟩) hHeld ?ra4
  case ya4 => (intro w hSw; (try dsimp only at hSw); go_simp; all_goals (with_reducible rfl))
  try simp only [Act.put, List.setIfInBounds_toArray, List.set_cons_zero, List.set_cons_succ]
  refine wpAnyH_take (i := 5) (oi := ⟨some 25, _, _, _, _, _⟩) (v := ?va5) rfl (by kernel_rfl) (by kernel_rfl) (by kernel_rfl) (fun _ _ _ h => h) (Or.inl ⟨by rfl, ?ya5⟩) hHeld ?ra5
  case ya5 => (intro w hSw; (try dsimp only at hSw); go_simp; all_goals (with_reducible rfl))
  try simp only [Act.put, List.setIfInBounds_toArray, List.set_cons_zero, List.set_cons_succ]
  refine wpAnyH_take (i := 6) (oi := ⟨some 26, _, _, _, _, _⟩) (v := ?va6) rfl (by kernel_rfl) (by kernel_rfl) (by kernel_rfl) (fun _ _ _ h => h) (Or.inl ⟨by rfl, ?ya6⟩) hHeld ?ra6
  case ya6 => (intro w hSw; (try dsimp only at hSw); go_simp; all_goals (with_reducible rfl))
  try simp only [Act.put, List.setIfInBounds_toArray, List.set_cons_zero, List.set_cons_succ]
  refine wpAnyH_take (i := 7) (oi := ⟨some 27, _, _, _, _, _⟩) (v := ?va7) rfl (by kernel_rfl) (by kernel_rfl) (by kernel_rfl) (fun _ _ _ h => h) (Or.inl ⟨by rfl, ?ya7⟩) hHeld ?ra7
  case ya7 => (intro w hSw; (try dsimp only at hSw); go_simp; all_goals (with_reducible rfl))
  try simp only [Act.put, List.setIfInBounds_toArray, List.set_cons_zero, List.set_cons_succ]
  refine wpAnyH_take (i := 8) (oi := ⟨some 28, _, _, _, _, _⟩) (v := ?va8) rfl (by kernel_rfl) (by kernel_rfl) (by kernel_rfl) (fun _ _ _ h => h) (Or.inl ⟨by rfl, ?ya8⟩) hHeld ?ra8
  case ya8 => (intro w hSw; (try dsimp only at hSw); go_simp; all_goals (with_reducible rfl))
  try simp only [Act.put, List.setIfInBounds_toArray, List.set_cons_zero, List.set_cons_succ]
  refine wpAnyH_take (i := 11) (oi := ⟨some 31, _, _, _, _, _⟩) (v := ?va11) rfl (by kernel_rfl) (by kernel_rfl) (by kernel_rfl) (fun _ _ _ h => h) (Or.inl ⟨by rfl, ?ya11⟩) hHeld ?ra11
  case ya11 => (intro w hSw; (try dsimp only at hSw); go_simp; all_goals (with_reducible rfl))
  try simp only [Act.put, List.setIfInBounds_toArray, List.set_cons_zero, List.set_cons_succ]
  clear hHeld
  refine wpAnyH_ready (rs := [9, 12, 14]) (by kernel_rfl) (by simp) ?_
  refine AllReadyH.cons rfl (fun K hK => ?gC1) (AllReadyH.cons rfl (fun K hK => ?gM1) (AllReadyH.cons rfl (fun K hK => ?gA1) AllReadyH.nil))
  case gC1 =>
    go_simp
    go_at_call 36
    refine (HCT.out _ HB).mono ?_
    rintro e w2 ⟨tv, rfl, fC, hbw2⟩
    obtain ⟨ta, tc, rfl⟩ := fC.slice
    have sC := hbw2.size
    try replace fA := fA.later hbw2
    replace fR := fR.later hbw2
    try replace fM := OV.later fM hbw2
    try replace fC := fC.later hbw2 (by omega)
    try replace fB := OV.later fB hbw2
    replace HB := HB.trans (hbw2.mono (by omega))
    obtain ⟨hi, sC2⟩ : ∃ hi, hi = w2.heap.size := ⟨_, rfl⟩
    rw [← sC2] at fC
    have sC3 : hi ≤ w2.heap.size := by omega
    have sC4 : w1.heap.size ≤ hi := by omega
    clear sC2
    generalize w1.heap.size = lo at *
    refine hK.out _ _ ((HB.cell (p := ⟨g, off, none⟩) hg).trans hc) (fun hHeld => ?_)
    clear hK K hHeld
    try simp only [Act.put, List.setIfInBounds_toArray, List.set_cons_zero, List.set_cons_succ]
    refine wpAnyH_ready (rs := [10, 12, 14]) (by kernel_rfl) (by simp) ?_
    refine AllReadyH.cons rfl (fun K hK => ?gB2) (AllReadyH.cons rfl (fun K hK => ?gM2) (AllReadyH.cons rfl (fun K hK => ?gA2) AllReadyH.nil))
    case gB2 =>
      go_simp
      have hbw3 : Below w2.heap.size w2 (w2.alloc (.cells #[.slice ta x.length tc] 24)) := (Below.refl _ _).alloc (Nat.le_refl _) _
      have fB : OV 24 w2.heap.size (w2.alloc (.cells #[.slice ta x.length tc] 24)) (.slice (some ⟨w2.heap.size, 0, none⟩) 1 1) [.slice ta x.length tc] := OV.lit _ _ _ (Nat.le_refl _) (by simp [maxLen])
      have sB : w2.heap.size < (w2.alloc (.cells #[.slice ta x.length tc] 24)).heap.size := by simp
      generalize w2.alloc (.cells #[.slice ta x.length tc] 24) = w3 at *
      try replace fA := fA.later hbw3
      replace fR := fR.later hbw3
      try replace fM := OV.later fM hbw3
      try replace fC := fC.later hbw3 (by omega)
      try replace fB := OV.later fB hbw3
      replace HB := HB.trans (hbw3.mono (by omega))
      generalize w2.heap.size = tb at *
      refine hK.out _ _ ((HB.cell (p := ⟨g, off, none⟩) hg).trans hc) (fun hHeld => ?_)
      clear hK K hHeld
      try simp only [Act.put, List.setIfInBounds_toArray, List.set_cons_zero, List.set_cons_succ]
      refine wpAnyH_ready (rs := [12, 14]) (by kernel_rfl) (by simp) ?_
      refine AllReadyH.cons rfl (fun K hK => ?gM3) (AllReadyH.cons rfl (fun K hK => ?gA3) AllReadyH.nil)
      case gM3 =>
        refine step_make_i64 (by rfl) _ _ (by rfl) w3.heap.size .i64 .i64 _ _ p (by rfl) (by rfl) (by rfl) (by rfl) (by omega) (Nat.le_refl _) ?_
        intro w4 fM hgr sM
        have hbw4 : Below w3.heap.size w3 w4 := (Below.refl _ _).grown hgr (Nat.le_refl _) (by simp)
        clear hgr
        try replace fA := fA.later hbw4
        replace fR := fR.later hbw4
        try replace fM := OV.later fM hbw4
        try replace fC := fC.later hbw4 (by omega)
        try replace fB := OV.later fB hbw4
        replace HB := HB.trans (hbw4.mono (by omega))
        generalize w3.heap.size = P at *
        refine hK.out _ _ ((HB.cell (p := ⟨g, off, none⟩) hg).trans hc) (fun hHeld => ?_)
        clear hK K hHeld
        try simp only [Act.put, List.setIfInBounds_toArray, List.set_cons_zero, List.set_cons_succ]
        have hHeld := (HB.cell (p := ⟨g, off, none⟩) hg).trans hc
        refine wpAnyH_take (i := 13) (oi := ⟨some 33, _, _, _, _, _⟩) (v := ?vt413) rfl (by kernel_rfl) (by kernel_rfl) (by kernel_rfl) (fun _ _ _ h => h) (Or.inl ⟨by rfl, ?yt413⟩) hHeld ?rt413
        case yt413 => (intro w hSw; (try dsimp only at hSw); go_simp; all_goals (with_reducible rfl))
        try simp only [Act.put, List.setIfInBounds_toArray, List.set_cons_zero, List.set_cons_succ]
        clear hHeld
        refine wpAnyH_ready (rs := [14]) (by kernel_rfl) (by simp) ?_
        refine AllReadyH.cons rfl (fun K hK => ?gA5) AllReadyH.nil
        case gA5 =>
          go_simp
          have hbw5 : Below w4.heap.size w4 (w4.alloc zch) := (Below.refl _ _).alloc (Nat.le_refl _) _
          have fA := AF.fresh w4
          have sA : w4.heap.size < (w4.alloc zch).heap.size := by simp
          generalize w4.alloc zch = w5 at *
          try replace fA := fA.later hbw5
          replace fR := fR.later hbw5
          try replace fM := OV.later fM hbw5
          try replace fC := fC.later hbw5 (by omega)
          try replace fB := OV.later fB hbw5
          replace HB := HB.trans (hbw5.mono (by omega))
          generalize w4.heap.size = X at *
          refine hK.out _ _ ((HB.cell (p := ⟨g, off, none⟩) hg).trans hc) (fun hHeld => ?_)
          clear hK K hHeld
          try simp only [Act.put, List.setIfInBounds_toArray, List.set_cons_zero, List.set_cons_succ]
          have c0 := fA.ch.c0
          have c1 := fA.ch.c1
          have c2 := fA.ch.c2
          have c3 := fA.ch.c3
          have c4 := fA.ch.c4
          have c5 := fA.ch.c5
          have g0 := fA.fz 0
          have g1 := fA.fz 1
          have g2 := fA.fz 2
          have g3 := fA.fz 3
          have g4 := fA.fz 4
          have g5 := fA.fz 5
          refine wpAnyH_ready (rs := [15]) (by kernel_rfl) (by simp) ?_
          refine AllReadyH.cons rfl (fun K hK => ?_) AllReadyH.nil
          go_simp
          have HG := Lib.hid (evLeaf (n := x.length) fA fR fM fC fB HB (by omega) (by omega) (by omega) (by omega))
          clear c0 c1 c2 c3 c4 c5 g0 g1 g2 g3 g4 g5 fA fR fM fC fB HB
          generalize (((((w5.setCell ⟨X, 0, none⟩ (.int .i64 x.length)).setCell ⟨X, 1, none⟩ (.int .i64 x.length)).setCell ⟨X, 2, none⟩ (.int .i64 0)).setCell ⟨X, 3, none⟩ (.int .i64 0)).setCell ⟨X, 4, none⟩ (.slice (some ⟨tb, 0, none⟩) 1 1)).setCell ⟨X, 5, none⟩ (.slice (some ⟨P, 0, none⟩) p p) = wz at *
          refine hK.out _ _ ((HG.out.b.cell (p := ⟨g, off, none⟩) hg).trans hc) (fun hHeld => ?_)
          clear hK K hHeld
          try simp only [Act.put, List.setIfInBounds_toArray, List.set_cons_zero, List.set_cons_succ]
          refine wpAnyH_done (by kernel_rfl) ?_ _
          have HVC := Lib.hid (validC_good x.length x.length 0 0 (.slice (some ⟨tb, 0, none⟩) 1 1) (.slice (some ⟨P, 0, none⟩) p p) [x] (List.replicate p 0) wz HG.out.o.read HG.out.pl.read (goodEven HQ.out hm.1 hp))
          rw [List.length_replicate, ← HPB.out] at HVC
          have c0 := HG.out.ch.c0
          have c1 := HG.out.ch.c1
          have c2 := HG.out.ch.c2
          have c3 := HG.out.ch.c3
          have c4 := HG.out.ch.c4
          have c5 := HG.out.ch.c5
          go_wp2_with fail
          refine HVC.out.mono ?_
          rintro e w9 ⟨rfl, hb9⟩
          have HG9 := Lib.hid (HG.out.later HG.out.b.size hb9)
          have hrX : ¬ X = w.heap.size := by have := HG.out.rX; omega
          clear c0 c1 c2 c3 c4 c5 HG HVC hb9
          have k0 := HG9.out.cr.ch.c0
          have k1 := HG9.out.cr.ch.c1
          have k2 := HG9.out.cr.ch.c2
          have k3 := HG9.out.cr.ch.c3
          have k4 := HG9.out.cr.ch.c4
          have k5 := HG9.out.cr.ch.c5
          have g0 := HG9.out.cr.fz 0
          have g1 := HG9.out.cr.fz 1
          have g2 := HG9.out.cr.fz 2
          have g3 := HG9.out.cr.fz 3
          have g4 := HG9.out.cr.fz 4
          have g5 := HG9.out.cr.fz 5
          cases pb
          · have HE := Lib.hid (fun a0 a1 a2 a3 a4 a5 => evNil ((set6 (r := w.heap.size) (w := w9) a0 a1 a2 a3 a4 a5).2 _ _ (Nat.le_refl _) HG9.out.b))
            go_wp2_with fail
            exact bodyPost_ret (v := .tuple #[.agg #[.int .i64 0, .int .i64 0, .int .i64 0, .int .i64 0, .slice none 0 0, .slice none 0 0], .bool false]) (by simp [results, Try.results41, go_sem, k0, k1, k2, k3, k4, k5]) rfl (HE.out _ _ _ _ _ _)
          · have HE := Lib.hid (fun a0 a1 a2 a3 a4 a5 => evRes HG9.out a0 a1 a2 a3 a4 a5 rfl)
            have c0 := HG9.out.ch.c0
            have c1 := HG9.out.ch.c1
            have c2 := HG9.out.ch.c2
            have c3 := HG9.out.ch.c3
            have c4 := HG9.out.ch.c4
            have c5 := HG9.out.ch.c5
            go_wp2_with fail
            exact bodyPost_ret (v := .tuple #[.agg #[.int .i64 x.length, .int .i64 x.length, .int .i64 0, .int .i64 0, .slice (some ⟨tb, 0, none⟩) 1 1, .slice (some ⟨P, 0, none⟩) p p], .bool true]) (by simp [results, Try.results41, go_sem, k0, k1, k2, k3, k4, k5]) rfl (HE.out _ _ _ _ _ _)
      case gA3 =>
        go_simp
        have hbw4 : Below w3.heap.size w3 (w3.alloc zch) := (Below.refl _ _).alloc (Nat.le_refl _) _
        have fA := AF.fresh w3
        have sA : w3.heap.size < (w3.alloc zch).heap.size := by simp
        generalize w3.alloc zch = w4 at *
        try replace fA := fA.later hbw4
        replace fR := fR.later hbw4
        try replace fM := OV.later fM hbw4
        try replace fC := fC.later hbw4 (by omega)
        try replace fB := OV.later fB hbw4
        replace HB := HB.trans (hbw4.mono (by omega))
        generalize w3.heap.size = X at *
        refine hK.out _ _ ((HB.cell (p := ⟨g, off, none⟩) hg).trans hc) (fun hHeld => ?_)
        clear hK K hHeld
        try simp only [Act.put, List.setIfInBounds_toArray, List.set_cons_zero, List.set_cons_succ]
        refine wpAnyH_ready (rs := [12]) (by kernel_rfl) (by simp) ?_
        refine AllReadyH.cons rfl (fun K hK => ?gM7) AllReadyH.nil
        case gM7 =>
          refine step_make_i64 (by rfl) _ _ (by rfl) w4.heap.size .i64 .i64 _ _ p (by rfl) (by rfl) (by rfl) (by rfl) (by omega) (Nat.le_refl _) ?_
          intro w5 fM hgr sM
          have hbw5 : Below w4.heap.size w4 w5 := (Below.refl _ _).grown hgr (Nat.le_refl _) (by simp)
          clear hgr
          try replace fA := fA.later hbw5
          replace fR := fR.later hbw5
          try replace fM := OV.later fM hbw5
          try replace fC := fC.later hbw5 (by omega)
          try replace fB := OV.later fB hbw5
          replace HB := HB.trans (hbw5.mono (by omega))
          generalize w4.heap.size = P at *
          refine hK.out _ _ ((HB.cell (p := ⟨g, off, none⟩) hg).trans hc) (fun hHeld => ?_)
          clear hK K hHeld
          try simp only [Act.put, List.setIfInBounds_toArray, List.set_cons_zero, List.set_cons_succ]
          have hHeld := (HB.cell (p := ⟨g, off, none⟩) hg).trans hc
          refine wpAnyH_take (i := 13) (oi := ⟨some 33, _, _, _, _, _⟩) (v := ?vt813) rfl (by kernel_rfl) (by kernel_rfl) (by kernel_rfl) (fun _ _ _ h => h) (Or.inl ⟨by rfl, ?yt813⟩) hHeld ?rt813
          case yt813 => (intro w hSw; (try dsimp only at hSw); go_simp; all_goals (with_reducible rfl))
          try simp only [Act.put, List.setIfInBounds_toArray, List.set_cons_zero, List.set_cons_succ]
          clear hHeld
          have c0 := fA.ch.c0
          have c1 := fA.ch.c1
          have c2 := fA.ch.c2
          have c3 := fA.ch.c3
          have c4 := fA.ch.c4
          have c5 := fA.ch.c5
          have g0 := fA.fz 0
          have g1 := fA.fz 1
          have g2 := fA.fz 2
          have g3 := fA.fz 3
          have g4 := fA.fz 4
          have g5 := fA.fz 5
          refine wpAnyH_ready (rs := [15]) (by kernel_rfl) (by simp) ?_
          refine AllReadyH.cons rfl (fun K hK => ?_) AllReadyH.nil
          go_simp
          have HG := Lib.hid (evLeaf (n := x.length) fA fR fM fC fB HB (by omega) (by omega) (by omega) (by omega))
          clear c0 c1 c2 c3 c4 c5 g0 g1 g2 g3 g4 g5 fA fR fM fC fB HB
          generalize (((((w5.setCell ⟨X, 0, none⟩ (.int .i64 x.length)).setCell ⟨X, 1, none⟩ (.int .i64 x.length)).setCell ⟨X, 2, none⟩ (.int .i64 0)).setCell ⟨X, 3, none⟩ (.int .i64 0)).setCell ⟨X, 4, none⟩ (.slice (some ⟨tb, 0, none⟩) 1 1)).setCell ⟨X, 5, none⟩ (.slice (some ⟨P, 0, none⟩) p p) = wz at *
          refine hK.out _ _ ((HG.out.b.cell (p := ⟨g, off, none⟩) hg).trans hc) (fun hHeld => ?_)
          clear hK K hHeld
          try simp only [Act.put, List.setIfInBounds_toArray, List.set_cons_zero, List.set_cons_succ]
          refine wpAnyH_done (by kernel_rfl) ?_ _
          have HVC := Lib.hid (validC_good x.length x.length 0 0 (.slice (some ⟨tb, 0, none⟩) 1 1) (.slice (some ⟨P, 0, none⟩) p p) [x] (List.replicate p 0) wz HG.out.o.read HG.out.pl.read (goodEven HQ.out hm.1 hp))
          rw [List.length_replicate, ← HPB.out] at HVC
          have c0 := HG.out.ch.c0
          have c1 := HG.out.ch.c1
          have c2 := HG.out.ch.c2
          have c3 := HG.out.ch.c3
          have c4 := HG.out.ch.c4
          have c5 := HG.out.ch.c5
          go_wp2_with fail
          refine HVC.out.mono ?_
          rintro e w9 ⟨rfl, hb9⟩
          have HG9 := Lib.hid (HG.out.later HG.out.b.size hb9)
          have hrX : ¬ X = w.heap.size := by have := HG.out.rX; omega
          clear c0 c1 c2 c3 c4 c5 HG HVC hb9
          have k0 := HG9.out.cr.ch.c0
          have k1 := HG9.out.cr.ch.c1
          have k2 := HG9.out.cr.ch.c2
          have k3 := HG9.out.cr.ch.c3
          have k4 := HG9.out.cr.ch.c4
          have k5 := HG9.out.cr.ch.c5
          have g0 := HG9.out.cr.fz 0
          have g1 := HG9.out.cr.fz 1
          have g2 := HG9.out.cr.fz 2
          have g3 := HG9.out.cr.fz 3
          have g4 := HG9.out.cr.fz 4
          have g5 := HG9.out.cr.fz 5
          cases pb
          · have HE := Lib.hid (fun a0 a1 a2 a3 a4 a5 => evNil ((set6 (r := w.heap.size) (w := w9) a0 a1 a2 a3 a4 a5).2 _ _ (Nat.le_refl _) HG9.out.b))
            go_wp2_with fail
            exact bodyPost_ret (v := .tuple #[.agg #[.int .i64 0, .int .i64 0, .int .i64 0, .int .i64 0, .slice none 0 0, .slice none 0 0], .bool false]) (by simp [results, Try.results41, go_sem, k0, k1, k2, k3, k4, k5]) rfl (HE.out _ _ _ _ _ _)
          · have HE := Lib.hid (fun a0 a1 a2 a3 a4 a5 => evRes HG9.out a0 a1 a2 a3 a4 a5 rfl)
            have c0 := HG9.out.ch.c0
            have c1 := HG9.out.ch.c1
            have c2 := HG9.out.ch.c2
            have c3 := HG9.out.ch.c3
            have c4 := HG9.out.ch.c4
            have c5 := HG9.out.ch.c5
            go_wp2_with fail
            exact bodyPost_ret (v := .tuple #[.agg #[.int .i64 x.length, .int .i64 x.length, .int .i64 0, .int .i64 0, .slice (some ⟨tb, 0, none⟩) 1 1, .slice (some ⟨P, 0, none⟩) p p], .bool true]) (by simp [results, Try.results41, go_sem, k0, k1, k2, k3, k4, k5]) rfl (HE.out _ _ _ _ _ _)
    case gM2 =>
      refine step_make_i64 (by rfl) _ _ (by rfl) w2.heap.size .i64 .i64 _ _ p (by rfl) (by rfl) (by rfl) (by rfl) (by omega) (Nat.le_refl _) ?_
      intro w3 fM hgr sM
      have hbw3 : Below w2.heap.size w2 w3 := (Below.refl _ _).grown hgr (Nat.le_refl _) (by simp)
      clear hgr
      try replace fA := fA.later hbw3
      replace fR := fR.later hbw3
      try replace fM := OV.later fM hbw3
      try replace fC := fC.later hbw3 (by omega)
      try replace fB := OV.later fB hbw3
      replace HB := HB.trans (hbw3.mono (by omega))
      generalize w2.heap.size = P at *
      refine hK.out _ _ ((HB.cell (p := ⟨g, off, none⟩) hg).trans hc) (fun hHeld => ?_)
      clear hK K hHeld
      try simp only [Act.put, List.setIfInBounds_toArray, List.set_cons_zero, List.set_cons_succ]
      refine wpAnyH_ready (rs := [10, 14]) (by kernel_rfl) (by simp) ?_
      refine AllReadyH.cons rfl (fun K hK => ?gB10) (AllReadyH.cons rfl (fun K hK => ?gA10) AllReadyH.nil)
      case gB10 =>
        go_simp
        have hbw4 : Below w3.heap.size w3 (w3.alloc (.cells #[.slice ta x.length tc] 24)) := (Below.refl _ _).alloc (Nat.le_refl _) _
        have fB : OV 24 w3.heap.size (w3.alloc (.cells #[.slice ta x.length tc] 24)) (.slice (some ⟨w3.heap.size, 0, none⟩) 1 1) [.slice ta x.length tc] := OV.lit _ _ _ (Nat.le_refl _) (by simp [maxLen])
        have sB : w3.heap.size < (w3.alloc (.cells #[.slice ta x.length tc] 24)).heap.size := by simp
        generalize w3.alloc (.cells #[.slice ta x.length tc] 24) = w4 at *
        try replace fA := fA.later hbw4
        replace fR := fR.later hbw4
        try replace fM := OV.later fM hbw4
        try replace fC := fC.later hbw4 (by omega)
        try replace fB := OV.later fB hbw4
        replace HB := HB.trans (hbw4.mono (by omega))
        generalize w3.heap.size = tb at *
        refine hK.out _ _ ((HB.cell (p := ⟨g, off, none⟩) hg).trans hc) (fun hHeld => ?_)
        clear hK K hHeld
        try simp only [Act.put, List.setIfInBounds_toArray, List.set_cons_zero, List.set_cons_succ]
        have hHeld := (HB.cell (p := ⟨g, off, none⟩) hg).trans hc
        refine wpAnyH_take (i := 13) (oi := ⟨some 33, _, _, _, _, _⟩) (v := ?vt1113) rfl (by kernel_rfl) (by kernel_rfl) (by kernel_rfl) (fun _ _ _ h => h) (Or.inl ⟨by rfl, ?yt1113⟩) hHeld ?rt1113
        case yt1113 => (intro w hSw; (try dsimp only at hSw); go_simp; all_goals (with_reducible rfl))
        try simp only [Act.put, List.setIfInBounds_toArray, List.set_cons_zero, List.set_cons_succ]
        clear hHeld
        refine wpAnyH_ready (rs := [14]) (by kernel_rfl) (by simp) ?_
        refine AllReadyH.cons rfl (fun K hK => ?gA12) AllReadyH.nil
        case gA12 =>
          go_simp
          have hbw5 : Below w4.heap.size w4 (w4.alloc zch) := (Below.refl _ _).alloc (Nat.le_refl _) _
          have fA := AF.fresh w4
          have sA : w4.heap.size < (w4.alloc zch).heap.size := by simp
          generalize w4.alloc zch = w5 at *
          try replace fA := fA.later hbw5
          replace fR := fR.later hbw5
          try replace fM := OV.later fM hbw5
          try replace fC := fC.later hbw5 (by omega)
          try replace fB := OV.later fB hbw5
          replace HB := HB.trans (hbw5.mono (by omega))
          generalize w4.heap.size = X at *
          refine hK.out _ _ ((HB.cell (p := ⟨g, off, none⟩) hg).trans hc) (fun hHeld => ?_)
          clear hK K hHeld
          try simp only [Act.put, List.setIfInBounds_toArray, List.set_cons_zero, List.set_cons_succ]
          have c0 := fA.ch.c0
          have c1 := fA.ch.c1
          have c2 := fA.ch.c2
          have c3 := fA.ch.c3
          have c4 := fA.ch.c4
          have c5 := fA.ch.c5
          have g0 := fA.fz 0
          have g1 := fA.fz 1
          have g2 := fA.fz 2
          have g3 := fA.fz 3
          have g4 := fA.fz 4
          have g5 := fA.fz 5
          refine wpAnyH_ready (rs := [15]) (by kernel_rfl) (by simp) ?_
          refine AllReadyH.cons rfl (fun K hK => ?_) AllReadyH.nil
          go_simp
          have HG := Lib.hid (evLeaf (n := x.length) fA fR fM fC fB HB (by omega) (by omega) (by omega) (by omega))
          clear c0 c1 c2 c3 c4 c5 g0 g1 g2 g3 g4 g5 fA fR fM fC fB HB
          generalize (((((w5.setCell ⟨X, 0, none⟩ (.int .i64 x.length)).setCell ⟨X, 1, none⟩ (.int .i64 x.length)).setCell ⟨X, 2, none⟩ (.int .i64 0)).setCell ⟨X, 3, none⟩ (.int .i64 0)).setCell ⟨X, 4, none⟩ (.slice (some ⟨tb, 0, none⟩) 1 1)).setCell ⟨X, 5, none⟩ (.slice (some ⟨P, 0, none⟩) p p) = wz at *
          refine hK.out _ _ ((HG.out.b.cell (p := ⟨g, off, none⟩) hg).trans hc) (fun hHeld => ?_)
          clear hK K hHeld
          try simp only [Act.put, List.setIfInBounds_toArray, List.set_cons_zero, List.set_cons_succ]
          refine wpAnyH_done (by kernel_rfl) ?_ _
          have HVC := Lib.hid (validC_good x.length x.length 0 0 (.slice (some ⟨tb, 0, none⟩) 1 1) (.slice (some ⟨P, 0, none⟩) p p) [x] (List.replicate p 0) wz HG.out.o.read HG.out.pl.read (goodEven HQ.out hm.1 hp))
          rw [List.length_replicate, ← HPB.out] at HVC
          have c0 := HG.out.ch.c0
          have c1 := HG.out.ch.c1
          have c2 := HG.out.ch.c2
          have c3 := HG.out.ch.c3
          have c4 := HG.out.ch.c4
          have c5 := HG.out.ch.c5
          go_wp2_with fail
          refine HVC.out.mono ?_
          rintro e w9 ⟨rfl, hb9⟩
          have HG9 := Lib.hid (HG.out.later HG.out.b.size hb9)
          have hrX : ¬ X = w.heap.size := by have := HG.out.rX; omega
          clear c0 c1 c2 c3 c4 c5 HG HVC hb9
          have k0 := HG9.out.cr.ch.c0
          have k1 := HG9.out.cr.ch.c1
          have k2 := HG9.out.cr.ch.c2
          have k3 := HG9.out.cr.ch.c3
          have k4 := HG9.out.cr.ch.c4
          have k5 := HG9.out.cr.ch.c5
          have g0 := HG9.out.cr.fz 0
          have g1 := HG9.out.cr.fz 1
          have g2 := HG9.out.cr.fz 2
          have g3 := HG9.out.cr.fz 3
          have g4 := HG9.out.cr.fz 4
          have g5 := HG9.out.cr.fz 5
          cases pb
          · have HE := Lib.hid (fun a0 a1 a2 a3 a4 a5 => evNil ((set6 (r := w.heap.size) (w := w9) a0 a1 a2 a3 a4 a5).2 _ _ (Nat.le_refl _) HG9.out.b))
            go_wp2_with fail
            exact bodyPost_ret (v := .tuple #[.agg #[.int .i64 0, .int .i64 0, .int .i64 0, .int .i64 0, .slice none 0 0, .slice none 0 0], .bool false]) (by simp [results, Try.results41, go_sem, k0, k1, k2, k3, k4, k5]) rfl (HE.out _ _ _ _ _ _)
          · have HE := Lib.hid (fun a0 a1 a2 a3 a4 a5 => evRes HG9.out a0 a1 a2 a3 a4 a5 rfl)
            have c0 := HG9.out.ch.c0
            have c1 := HG9.out.ch.c1
            have c2 := HG9.out.ch.c2
            have c3 := HG9.out.ch.c3
            have c4 := HG9.out.ch.c4
            have c5 := HG9.out.ch.c5
            go_wp2_with fail
            exact bodyPost_ret (v := .tuple #[.agg #[.int .i64 x.length, .int .i64 x.length, .int .i64 0, .int .i64 0, .slice (some ⟨tb, 0, none⟩) 1 1, .slice (some ⟨P, 0, none⟩) p p], .bool true]) (by simp [results, Try.results41, go_sem, k0, k1, k2, k3, k4, k5]) rfl (HE.out _ _ _ _ _ _)
      case gA10 =>
        go_simp
        have hbw4 : Below w3.heap.size w3 (w3.alloc zch) := (Below.refl _ _).alloc (Nat.le_refl _) _
        have fA := AF.fresh w3
        have sA : w3.heap.size < (w3.alloc zch).heap.size := by simp
        generalize w3.alloc zch = w4 at *
        try replace fA := fA.later hbw4
        replace fR := fR.later hbw4
        try replace fM := OV.later fM hbw4
        try replace fC := fC.later hbw4 (by omega)
        try replace fB := OV.later fB hbw4
        replace HB := HB.trans (hbw4.mono (by omega))
        generalize w3.heap.size = X at *
        refine hK.out _ _ ((HB.cell (p := ⟨g, off, none⟩) hg).trans hc) (fun hHeld => ?_)
        clear hK K hHeld
        try simp only [Act.put, List.setIfInBounds_toArray, List.set_cons_zero, List.set_cons_succ]
        refine wpAnyH_ready (rs := [10]) (by kernel_rfl) (by simp) ?_
        refine AllReadyH.cons rfl (fun K hK => ?gB14) AllReadyH.nil
        case gB14 =>
          go_simp
          have hbw5 : Below w4.heap.size w4 (w4.alloc (.cells #[.slice ta x.length tc] 24)) := (Below.refl _ _).alloc (Nat.le_refl _) _
          have fB : OV 24 w4.heap.size (w4.alloc (.cells #[.slice ta x.length tc] 24)) (.slice (some ⟨w4.heap.size, 0, none⟩) 1 1) [.slice ta x.length tc] := OV.lit _ _ _ (Nat.le_refl _) (by simp [maxLen])
          have sB : w4.heap.size < (w4.alloc (.cells #[.slice ta x.length tc] 24)).heap.size := by simp
          generalize w4.alloc (.cells #[.slice ta x.length tc] 24) = w5 at *
          try replace fA := fA.later hbw5
          replace fR := fR.later hbw5
          try replace fM := OV.later fM hbw5
          try replace fC := fC.later hbw5 (by omega)
          try replace fB := OV.later fB hbw5
          replace HB := HB.trans (hbw5.mono (by omega))
          generalize w4.heap.size = tb at *
          refine hK.out _ _ ((HB.cell (p := ⟨g, off, none⟩) hg).trans hc) (fun hHeld => ?_)
          clear hK K hHeld
          try simp only [Act.put, List.setIfInBounds_toArray, List.set_cons_zero, List.set_cons_succ]
          have hHeld := (HB.cell (p := ⟨g, off, none⟩) hg).trans hc
          refine wpAnyH_take (i := 13) (oi := ⟨some 33, _, _, _, _, _⟩) (v := ?vt1513) rfl (by kernel_rfl) (by kernel_rfl) (by kernel_rfl) (fun _ _ _ h => h) (Or.inl ⟨by rfl, ?yt1513⟩) hHeld ?rt1513
          case yt1513 => (intro w hSw; (try dsimp only at hSw); go_simp; all_goals (with_reducible rfl))
          try simp only [Act.put, List.setIfInBounds_toArray, List.set_cons_zero, List.set_cons_succ]
          clear hHeld
          have c0 := fA.ch.c0
          have c1 := fA.ch.c1
          have c2 := fA.ch.c2
          have c3 := fA.ch.c3
          have c4 := fA.ch.c4
          have c5 := fA.ch.c5
          have g0 := fA.fz 0
          have g1 := fA.fz 1
          have g2 := fA.fz 2
          have g3 := fA.fz 3
          have g4 := fA.fz 4
          have g5 := fA.fz 5
          refine wpAnyH_ready (rs := [15]) (by kernel_rfl) (by simp) ?_
          refine AllReadyH.cons rfl (fun K hK => ?_) AllReadyH.nil
          go_simp
          have HG := Lib.hid (evLeaf (n := x.length) fA fR fM fC fB HB (by omega) (by omega) (by omega) (by omega))
          clear c0 c1 c2 c3 c4 c5 g0 g1 g2 g3 g4 g5 fA fR fM fC fB HB
          generalize (((((w5.setCell ⟨X, 0, none⟩ (.int .i64 x.length)).setCell ⟨X, 1, none⟩ (.int .i64 x.length)).setCell ⟨X, 2, none⟩ (.int .i64 0)).setCell ⟨X, 3, none⟩ (.int .i64 0)).setCell ⟨X, 4, none⟩ (.slice (some ⟨tb, 0, none⟩) 1 1)).setCell ⟨X, 5, none⟩ (.slice (some ⟨P, 0, none⟩) p p) = wz at *
          refine hK.out _ _ ((HG.out.b.cell (p := ⟨g, off, none⟩) hg).trans hc) (fun hHeld => ?_)
          clear hK K hHeld
          try simp only [Act.put, List.setIfInBounds_toArray, List.set_cons_zero, List.set_cons_succ]
          refine wpAnyH_done (by kernel_rfl) ?_ _
          have HVC := Lib.hid (validC_good x.length x.length 0 0 (.slice (some ⟨tb, 0, none⟩) 1 1) (.slice (some ⟨P, 0, none⟩) p p) [x] (List.replicate p 0) wz HG.out.o.read HG.out.pl.read (goodEven HQ.out hm.1 hp))
          rw [List.length_replicate, ← HPB.out] at HVC
          have c0 := HG.out.ch.c0
          have c1 := HG.out.ch.c1
          have c2 := HG.out.ch.c2
          have c3 := HG.out.ch.c3
          have c4 := HG.out.ch.c4
          have c5 := HG.out.ch.c5
          go_wp2_with fail
          refine HVC.out.mono ?_
          rintro e w9 ⟨rfl, hb9⟩
          have HG9 := Lib.hid (HG.out.later HG.out.b.size hb9)
          have hrX : ¬ X = w.heap.size := by have := HG.out.rX; omega
          clear c0 c1 c2 c3 c4 c5 HG HVC hb9
          have k0 := HG9.out.cr.ch.c0
          have k1 := HG9.out.cr.ch.c1
          have k2 := HG9.out.cr.ch.c2
          have k3 := HG9.out.cr.ch.c3
          have k4 := HG9.out.cr.ch.c4
          have k5 := HG9.out.cr.ch.c5
          have g0 := HG9.out.cr.fz 0
          have g1 := HG9.out.cr.fz 1
          have g2 := HG9.out.cr.fz 2
          have g3 := HG9.out.cr.fz 3
          have g4 := HG9.out.cr.fz 4
          have g5 := HG9.out.cr.fz 5
          cases pb
          · have HE := Lib.hid (fun a0 a1 a2 a3 a4 a5 => evNil ((set6 (r := w.heap.size) (w := w9) a0 a1 a2 a3 a4 a5).2 _ _ (Nat.le_refl _) HG9.out.b))
            go_wp2_with fail
            exact bodyPost_ret (v := .tuple #[.agg #[.int .i64 0, .int .i64 0, .int .i64 0, .int .i64 0, .slice none 0 0, .slice none 0 0], .bool false]) (by simp [results, Try.results41, go_sem, k0, k1, k2, k3, k4, k5]) rfl (HE.out _ _ _ _ _ _)
          · have HE := Lib.hid (fun a0 a1 a2 a3 a4 a5 => evRes HG9.out a0 a1 a2 a3 a4 a5 rfl)
            have c0 := HG9.out.ch.c0
            have c1 := HG9.out.ch.c1
            have c2 := HG9.out.ch.c2
            have c3 := HG9.out.ch.c3
            have c4 := HG9.out.ch.c4
            have c5 := HG9.out.ch.c5
            go_wp2_with fail
            exact bodyPost_ret (v := .tuple #[.agg #[.int .i64 x.length, .int .i64 x.length, .int .i64 0, .int .i64 0, .slice (some ⟨tb, 0, none⟩) 1 1, .slice (some ⟨P, 0, none⟩) p p], .bool true]) (by simp [results, Try.results41, go_sem, k0, k1, k2, k3, k4, k5]) rfl (HE.out _ _ _ _ _ _)
    case gA2 =>
      go_simp
      have hbw3 : Below w2.heap.size w2 (w2.alloc zch) := (Below.refl _ _).alloc (Nat.le_refl _) _
      have fA := AF.fresh w2
      have sA : w2.heap.size < (w2.alloc zch).heap.size := by simp
      generalize w2.alloc zch = w3 at *
      try replace fA := fA.later hbw3
      replace fR := fR.later hbw3
      try replace fM := OV.later fM hbw3
      try replace fC := fC.later hbw3 (by omega)
      try replace fB := OV.later fB hbw3
      replace HB := HB.trans (hbw3.mono (by omega))
      generalize w2.heap.size = X at *
      refine hK.out _ _ ((HB.cell (p := ⟨g, off, none⟩) hg).trans hc) (fun hHeld => ?_)
      clear hK K hHeld
      try simp only [Act.put, List.setIfInBounds_toArray, List.set_cons_zero, List.set_cons_succ]
      refine wpAnyH_ready (rs := [10, 12]) (by kernel_rfl) (by simp) ?_
      refine AllReadyH.cons rfl (fun K hK => ?gB17) (AllReadyH.cons rfl (fun K hK => ?gM17) AllReadyH.nil)
      case gB17 =>
        go_simp
        have hbw4 : Below w3.heap.size w3 (w3.alloc (.cells #[.slice ta x.length tc] 24)) := (Below.refl _ _).alloc (Nat.le_refl _) _
        have fB : OV 24 w3.heap.size (w3.alloc (.cells #[.slice ta x.length tc] 24)) (.slice (some ⟨w3.heap.size, 0, none⟩) 1 1) [.slice ta x.length tc] := OV.lit _ _ _ (Nat.le_refl _) (by simp [maxLen])
        have sB : w3.heap.size < (w3.alloc (.cells #[.slice ta x.length tc] 24)).heap.size := by simp
        generalize w3.alloc (.cells #[.slice ta x.length tc] 24) = w4 at *
        try replace fA := fA.later hbw4
        replace fR := fR.later hbw4
        try replace fM := OV.later fM hbw4
        try replace fC := fC.later hbw4 (by omega)
        try replace fB := OV.later fB hbw4
        replace HB := HB.trans (hbw4.mono (by omega))
        generalize w3.heap.size = tb at *
        refine hK.out _ _ ((HB.cell (p := ⟨g, off, none⟩) hg).trans hc) (fun hHeld => ?_)
        clear hK K hHeld
        try simp only [Act.put, List.setIfInBounds_toArray, List.set_cons_zero, List.set_cons_succ]
        refine wpAnyH_ready (rs := [12]) (by kernel_rfl) (by simp) ?_
        refine AllReadyH.cons rfl (fun K hK => ?gM18) AllReadyH.nil
        case gM18 =>
          refine step_make_i64 (by rfl) _ _ (by rfl) w4.heap.size .i64 .i64 _ _ p (by rfl) (by rfl) (by rfl) (by rfl) (by omega) (Nat.le_refl _) ?_
          intro w5 fM hgr sM
          have hbw5 : Below w4.heap.size w4 w5 := (Below.refl _ _).grown hgr (Nat.le_refl _) (by simp)
          clear hgr
          try replace fA := fA.later hbw5
          replace fR := fR.later hbw5
          try replace fM := OV.later fM hbw5
          try replace fC := fC.later hbw5 (by omega)
          try replace fB := OV.later fB hbw5
          replace HB := HB.trans (hbw5.mono (by omega))
          generalize w4.heap.size = P at *
          refine hK.out _ _ ((HB.cell (p := ⟨g, off, none⟩) hg).trans hc) (fun hHeld => ?_)
          clear hK K hHeld
          try simp only [Act.put, List.setIfInBounds_toArray, List.set_cons_zero, List.set_cons_succ]
          have hHeld := (HB.cell (p := ⟨g, off, none⟩) hg).trans hc
          refine wpAnyH_take (i := 13) (oi := ⟨some 33, _, _, _, _, _⟩) (v := ?vt1913) rfl (by kernel_rfl) (by kernel_rfl) (by kernel_rfl) (fun _ _ _ h => h) (Or.inl ⟨by rfl, ?yt1913⟩) hHeld ?rt1913
          case yt1913 => (intro w hSw; (try dsimp only at hSw); go_simp; all_goals (with_reducible rfl))
          try simp only [Act.put, List.setIfInBounds_toArray, List.set_cons_zero, List.set_cons_succ]
          clear hHeld
          have c0 := fA.ch.c0
          have c1 := fA.ch.c1
          have c2 := fA.ch.c2
          have c3 := fA.ch.c3
          have c4 := fA.ch.c4
          have c5 := fA.ch.c5
          have g0 := fA.fz 0
          have g1 := fA.fz 1
          have g2 := fA.fz 2
          have g3 := fA.fz 3
          have g4 := fA.fz 4
          have g5 := fA.fz 5
          refine wpAnyH_ready (rs := [15]) (by kernel_rfl) (by simp) ?_
          refine AllReadyH.cons rfl (fun K hK => ?_) AllReadyH.nil
          go_simp
          have HG := Lib.hid (evLeaf (n := x.length) fA fR fM fC fB HB (by omega) (by omega) (by omega) (by omega))
          clear c0 c1 c2 c3 c4 c5 g0 g1 g2 g3 g4 g5 fA fR fM fC fB HB
          generalize (((((w5.setCell ⟨X, 0, none⟩ (.int .i64 x.length)).setCell ⟨X, 1, none⟩ (.int .i64 x.length)).setCell ⟨X, 2, none⟩ (.int .i64 0)).setCell ⟨X, 3, none⟩ (.int .i64 0)).setCell ⟨X, 4, none⟩ (.slice (some ⟨tb, 0, none⟩) 1 1)).setCell ⟨X, 5, none⟩ (.slice (some ⟨P, 0, none⟩) p p) = wz at *
          refine hK.out _ _ ((HG.out.b.cell (p := ⟨g, off, none⟩) hg).trans hc) (fun hHeld => ?_)
          clear hK K hHeld
          try simp only [Act.put, List.setIfInBounds_toArray, List.set_cons_zero, List.set_cons_succ]
          refine wpAnyH_done (by kernel_rfl) ?_ _
          have HVC := Lib.hid (validC_good x.length x.length 0 0 (.slice (some ⟨tb, 0, none⟩) 1 1) (.slice (some ⟨P, 0, none⟩) p p) [x] (List.replicate p 0) wz HG.out.o.read HG.out.pl.read (goodEven HQ.out hm.1 hp))
          rw [List.length_replicate, ← HPB.out] at HVC
          have c0 := HG.out.ch.c0
          have c1 := HG.out.ch.c1
          have c2 := HG.out.ch.c2
          have c3 := HG.out.ch.c3
          have c4 := HG.out.ch.c4
          have c5 := HG.out.ch.c5
          go_wp2_with fail
          refine HVC.out.mono ?_
          rintro e w9 ⟨rfl, hb9⟩
          have HG9 := Lib.hid (HG.out.later HG.out.b.size hb9)
          have hrX : ¬ X = w.heap.size := by have := HG.out.rX; omega
          clear c0 c1 c2 c3 c4 c5 HG HVC hb9
          have k0 := HG9.out.cr.ch.c0
          have k1 := HG9.out.cr.ch.c1
          have k2 := HG9.out.cr.ch.c2
          have k3 := HG9.out.cr.ch.c3
          have k4 := HG9.out.cr.ch.c4
          have k5 := HG9.out.cr.ch.c5
          have g0 := HG9.out.cr.fz 0
          have g1 := HG9.out.cr.fz 1
          have g2 := HG9.out.cr.fz 2
          have g3 := HG9.out.cr.fz 3
          have g4 := HG9.out.cr.fz 4
          have g5 := HG9.out.cr.fz 5
          cases pb
          · have HE := Lib.hid (fun a0 a1 a2 a3 a4 a5 => evNil ((set6 (r := w.heap.size) (w := w9) a0 a1 a2 a3 a4 a5).2 _ _ (Nat.le_refl _) HG9.out.b))
            go_wp2_with fail
            exact bodyPost_ret (v := .tuple #[.agg #[.int .i64 0, .int .i64 0, .int .i64 0, .int .i64 0, .slice none 0 0, .slice none 0 0], .bool false]) (by simp [results, Try.results41, go_sem, k0, k1, k2, k3, k4, k5]) rfl (HE.out _ _ _ _ _ _)
          · have HE := Lib.hid (fun a0 a1 a2 a3 a4 a5 => evRes HG9.out a0 a1 a2 a3 a4 a5 rfl)
            have c0 := HG9.out.ch.c0
            have c1 := HG9.out.ch.c1
            have c2 := HG9.out.ch.c2
            have c3 := HG9.out.ch.c3
            have c4 := HG9.out.ch.c4
            have c5 := HG9.out.ch.c5
            go_wp2_with fail
            exact bodyPost_ret (v := .tuple #[.agg #[.int .i64 x.length, .int .i64 x.length, .int .i64 0, .int .i64 0, .slice (some ⟨tb, 0, none⟩) 1 1, .slice (some ⟨P, 0, none⟩) p p], .bool true]) (by simp [results, Try.results41, go_sem, k0, k1, k2, k3, k4, k5]) rfl (HE.out _ _ _ _ _ _)
      case gM17 =>
        refine step_make_i64 (by rfl) _ _ (by rfl) w3.heap.size .i64 .i64 _ _ p (by rfl) (by rfl) (by rfl) (by rfl) (by omega) (Nat.le_refl _) ?_
        intro w4 fM hgr sM
        have hbw4 : Below w3.heap.size w3 w4 := (Below.refl _ _).grown hgr (Nat.le_refl _) (by simp)
        clear hgr
        try replace fA := fA.later hbw4
        replace fR := fR.later hbw4
        try replace fM := OV.later fM hbw4
        try replace fC := fC.later hbw4 (by omega)
        try replace fB := OV.later fB hbw4
        replace HB := HB.trans (hbw4.mono (by omega))
        generalize w3.heap.size = P at *
        refine hK.out _ _ ((HB.cell (p := ⟨g, off, none⟩) hg).trans hc) (fun hHeld => ?_)
        clear hK K hHeld
        try simp only [Act.put, List.setIfInBounds_toArray, List.set_cons_zero, List.set_cons_succ]
        refine wpAnyH_ready (rs := [10]) (by kernel_rfl) (by simp) ?_
        refine AllReadyH.cons rfl (fun K hK => ?gB21) AllReadyH.nil
        case gB21 =>
          go_simp
          have hbw5 : Below w4.heap.size w4 (w4.alloc (.cells #[.slice ta x.length tc] 24)) := (Below.refl _ _).alloc (Nat.le_refl _) _
          have fB : OV 24 w4.heap.size (w4.alloc (.cells #[.slice ta x.length tc] 24)) (.slice (some ⟨w4.heap.size, 0, none⟩) 1 1) [.slice ta x.length tc] := OV.lit _ _ _ (Nat.le_refl _) (by simp [maxLen])
          have sB : w4.heap.size < (w4.alloc (.cells #[.slice ta x.length tc] 24)).heap.size := by simp
          generalize w4.alloc (.cells #[.slice ta x.length tc] 24) = w5 at *
          try replace fA := fA.later hbw5
          replace fR := fR.later hbw5
          try replace fM := OV.later fM hbw5
          try replace fC := fC.later hbw5 (by omega)
          try replace fB := OV.later fB hbw5
          replace HB := HB.trans (hbw5.mono (by omega))
          generalize w4.heap.size = tb at *
          refine hK.out _ _ ((HB.cell (p := ⟨g, off, none⟩) hg).trans hc) (fun hHeld => ?_)
          clear hK K hHeld
          try simp only [Act.put, List.setIfInBounds_toArray, List.set_cons_zero, List.set_cons_succ]
          have hHeld := (HB.cell (p := ⟨g, off, none⟩) hg).trans hc
          refine wpAnyH_take (i := 13) (oi := ⟨some 33, _, _, _, _, _⟩) (v := ?vt2213) rfl (by kernel_rfl) (by kernel_rfl) (by kernel_rfl) (fun _ _ _ h => h) (Or.inl ⟨by rfl, ?yt2213⟩) hHeld ?rt2213
          case yt2213 => (intro w hSw; (try dsimp only at hSw); go_simp; all_goals (with_reducible rfl))
          try simp only [Act.put, List.setIfInBounds_toArray, List.set_cons_zero, List.set_cons_succ]
          clear hHeld
          have c0 := fA.ch.c0
          have c1 := fA.ch.c1
          have c2 := fA.ch.c2
          have c3 := fA.ch.c3
          have c4 := fA.ch.c4
          have c5 := fA.ch.c5
          have g0 := fA.fz 0
          have g1 := fA.fz 1
          have g2 := fA.fz 2
          have g3 := fA.fz 3
          have g4 := fA.fz 4
          have g5 := fA.fz 5
          refine wpAnyH_ready (rs := [15]) (by kernel_rfl) (by simp) ?_
          refine AllReadyH.cons rfl (fun K hK => ?_) AllReadyH.nil
          go_simp
          have HG := Lib.hid (evLeaf (n := x.length) fA fR fM fC fB HB (by omega) (by omega) (by omega) (by omega))
          clear c0 c1 c2 c3 c4 c5 g0 g1 g2 g3 g4 g5 fA fR fM fC fB HB
          generalize (((((w5.setCell ⟨X, 0, none⟩ (.int .i64 x.length)).setCell ⟨X, 1, none⟩ (.int .i64 x.length)).setCell ⟨X, 2, none⟩ (.int .i64 0)).setCell ⟨X, 3, none⟩ (.int .i64 0)).setCell ⟨X, 4, none⟩ (.slice (some ⟨tb, 0, none⟩) 1 1)).setCell ⟨X, 5, none⟩ (.slice (some ⟨P, 0, none⟩) p p) = wz at *
          refine hK.out _ _ ((HG.out.b.cell (p := ⟨g, off, none⟩) hg).trans hc) (fun hHeld => ?_)
          clear hK K hHeld
          try simp only [Act.put, List.setIfInBounds_toArray, List.set_cons_zero, List.set_cons_succ]
          refine wpAnyH_done (by kernel_rfl) ?_ _
          have HVC := Lib.hid (validC_good x.length x.length 0 0 (.slice (some ⟨tb, 0, none⟩) 1 1) (.slice (some ⟨P, 0, none⟩) p p) [x] (List.replicate p 0) wz HG.out.o.read HG.out.pl.read (goodEven HQ.out hm.1 hp))
          rw [List.length_replicate, ← HPB.out] at HVC
          have c0 := HG.out.ch.c0
          have c1 := HG.out.ch.c1
          have c2 := HG.out.ch.c2
          have c3 := HG.out.ch.c3
          have c4 := HG.out.ch.c4
          have c5 := HG.out.ch.c5
          go_wp2_with fail
          refine HVC.out.mono ?_
          rintro e w9 ⟨rfl, hb9⟩
          have HG9 := Lib.hid (HG.out.later HG.out.b.size hb9)
          have hrX : ¬ X = w.heap.size := by have := HG.out.rX; omega
          clear c0 c1 c2 c3 c4 c5 HG HVC hb9
          have k0 := HG9.out.cr.ch.c0
          have k1 := HG9.out.cr.ch.c1
          have k2 := HG9.out.cr.ch.c2
          have k3 := HG9.out.cr.ch.c3
          have k4 := HG9.out.cr.ch.c4
          have k5 := HG9.out.cr.ch.c5
          have g0 := HG9.out.cr.fz 0
          have g1 := HG9.out.cr.fz 1
          have g2 := HG9.out.cr.fz 2
          have g3 := HG9.out.cr.fz 3
          have g4 := HG9.out.cr.fz 4
          have g5 := HG9.out.cr.fz 5
          cases pb
          · have HE := Lib.hid (fun a0 a1 a2 a3 a4 a5 => evNil ((set6 (r := w.heap.size) (w := w9) a0 a1 a2 a3 a4 a5).2 _ _ (Nat.le_refl _) HG9.out.b))
            go_wp2_with fail
            exact bodyPost_ret (v := .tuple #[.agg #[.int .i64 0, .int .i64 0, .int .i64 0, .int .i64 0, .slice none 0 0, .slice none 0 0], .bool false]) (by simp [results, Try.results41, go_sem, k0, k1, k2, k3, k4, k5]) rfl (HE.out _ _ _ _ _ _)
          · have HE := Lib.hid (fun a0 a1 a2 a3 a4 a5 => evRes HG9.out a0 a1 a2 a3 a4 a5 rfl)
            have c0 := HG9.out.ch.c0
            have c1 := HG9.out.ch.c1
            have c2 := HG9.out.ch.c2
            have c3 := HG9.out.ch.c3
            have c4 := HG9.out.ch.c4
            have c5 := HG9.out.ch.c5
            go_wp2_with fail
            exact bodyPost_ret (v := .tuple #[.agg #[.int .i64 x.length, .int .i64 x.length, .int .i64 0, .int .i64 0, .slice (some ⟨tb, 0, none⟩) 1 1, .slice (some ⟨P, 0, none⟩) p p], .bool true]) (by simp [results, Try.results41, go_sem, k0, k1, k2, k3, k4, k5]) rfl (HE.out _ _ _ _ _ _)
  case gM1 =>
    refine step_make_i64 (by rfl) _ _ (by rfl) w1.heap.size .i64 .i64 _ _ p (by rfl) (by rfl) (by rfl) (by rfl) (by omega) (Nat.le_refl _) ?_
    intro w2 fM hgr sM
    have hbw2 : Below w1.heap.size w1 w2 := (Below.refl _ _).grown hgr (Nat.le_refl _) (by simp)
    clear hgr
    try replace fA := fA.later hbw2
    replace fR := fR.later hbw2
    try replace fM := OV.later fM hbw2
    try replace fC := fC.later hbw2 (by omega)
    try replace fB := OV.later fB hbw2
    replace HB := HB.trans (hbw2.mono (by omega))
    generalize w1.heap.size = P at *
    refine hK.out _ _ ((HB.cell (p := ⟨g, off, none⟩) hg).trans hc) (fun hHeld => ?_)
    clear hK K hHeld
    try simp only [Act.put, List.setIfInBounds_toArray, List.set_cons_zero, List.set_cons_succ]
    refine wpAnyH_ready (rs := [9, 14]) (by kernel_rfl) (by simp) ?_
    refine AllReadyH.cons rfl (fun K hK => ?gC24) (AllReadyH.cons rfl (fun K hK => ?gA24) AllReadyH.nil)
    case gC24 =>
      go_simp
      go_at_call 36
      refine (HCT.out _ HB).mono ?_
      rintro e w3 ⟨tv, rfl, fC, hbw3⟩
      obtain ⟨ta, tc, rfl⟩ := fC.slice
      have sC := hbw3.size
      try replace fA := fA.later hbw3
      replace fR := fR.later hbw3
      try replace fM := OV.later fM hbw3
      try replace fC := fC.later hbw3 (by omega)
      try replace fB := OV.later fB hbw3
      replace HB := HB.trans (hbw3.mono (by omega))
      obtain ⟨hi, sC2⟩ : ∃ hi, hi = w3.heap.size := ⟨_, rfl⟩
      rw [← sC2] at fC
      have sC3 : hi ≤ w3.heap.size := by omega
      have sC4 : w2.heap.size ≤ hi := by omega
      clear sC2
      generalize w2.heap.size = lo at *
      refine hK.out _ _ ((HB.cell (p := ⟨g, off, none⟩) hg).trans hc) (fun hHeld => ?_)
      clear hK K hHeld
      try simp only [Act.put, List.setIfInBounds_toArray, List.set_cons_zero, List.set_cons_succ]
      refine wpAnyH_ready (rs := [10, 14]) (by kernel_rfl) (by simp) ?_
      refine AllReadyH.cons rfl (fun K hK => ?gB25) (AllReadyH.cons rfl (fun K hK => ?gA25) AllReadyH.nil)
      case gB25 =>
        go_simp
        have hbw4 : Below w3.heap.size w3 (w3.alloc (.cells #[.slice ta x.length tc] 24)) := (Below.refl _ _).alloc (Nat.le_refl _) _
        have fB : OV 24 w3.heap.size (w3.alloc (.cells #[.slice ta x.length tc] 24)) (.slice (some ⟨w3.heap.size, 0, none⟩) 1 1) [.slice ta x.length tc] := OV.lit _ _ _ (Nat.le_refl _) (by simp [maxLen])
        have sB : w3.heap.size < (w3.alloc (.cells #[.slice ta x.length tc] 24)).heap.size := by simp
        generalize w3.alloc (.cells #[.slice ta x.length tc] 24) = w4 at *
        try replace fA := fA.later hbw4
        replace fR := fR.later hbw4
        try replace fM := OV.later fM hbw4
        try replace fC := fC.later hbw4 (by omega)
        try replace fB := OV.later fB hbw4
        replace HB := HB.trans (hbw4.mono (by omega))
        generalize w3.heap.size = tb at *
        refine hK.out _ _ ((HB.cell (p := ⟨g, off, none⟩) hg).trans hc) (fun hHeld => ?_)
        clear hK K hHeld
        try simp only [Act.put, List.setIfInBounds_toArray, List.set_cons_zero, List.set_cons_succ]
        have hHeld := (HB.cell (p := ⟨g, off, none⟩) hg).trans hc
        refine wpAnyH_take (i := 13) (oi := ⟨some 33, _, _, _, _, _⟩) (v := ?vt2613) rfl (by kernel_rfl) (by kernel_rfl) (by kernel_rfl) (fun _ _ _ h => h) (Or.inl ⟨by rfl, ?yt2613⟩) hHeld ?rt2613
        case yt2613 => (intro w hSw; (try dsimp only at hSw); go_simp; all_goals (with_reducible rfl))
        try simp only [Act.put, List.setIfInBounds_toArray, List.set_cons_zero, List.set_cons_succ]
        clear hHeld
        refine wpAnyH_ready (rs := [14]) (by kernel_rfl) (by simp) ?_
        refine AllReadyH.cons rfl (fun K hK => ?gA27) AllReadyH.nil
        case gA27 =>
          go_simp
          have hbw5 : Below w4.heap.size w4 (w4.alloc zch) := (Below.refl _ _).alloc (Nat.le_refl _) _
          have fA := AF.fresh w4
          have sA : w4.heap.size < (w4.alloc zch).heap.size := by simp
          generalize w4.alloc zch = w5 at *
          try replace fA := fA.later hbw5
          replace fR := fR.later hbw5
          try replace fM := OV.later fM hbw5
          try replace fC := fC.later hbw5 (by omega)
          try replace fB := OV.later fB hbw5
          replace HB := HB.trans (hbw5.mono (by omega))
          generalize w4.heap.size = X at *
          refine hK.out _ _ ((HB.cell (p := ⟨g, off, none⟩) hg).trans hc) (fun hHeld => ?_)
          clear hK K hHeld
          try simp only [Act.put, List.setIfInBounds_toArray, List.set_cons_zero, List.set_cons_succ]
          have c0 := fA.ch.c0
          have c1 := fA.ch.c1
          have c2 := fA.ch.c2
          have c3 := fA.ch.c3
          have c4 := fA.ch.c4
          have c5 := fA.ch.c5
          have g0 := fA.fz 0
          have g1 := fA.fz 1
          have g2 := fA.fz 2
          have g3 := fA.fz 3
          have g4 := fA.fz 4
          have g5 := fA.fz 5
          refine wpAnyH_ready (rs := [15]) (by kernel_rfl) (by simp) ?_
          refine AllReadyH.cons rfl (fun K hK => ?_) AllReadyH.nil
          go_simp
          have HG := Lib.hid (evLeaf (n := x.length) fA fR fM fC fB HB (by omega) (by omega) (by omega) (by omega))
          clear c0 c1 c2 c3 c4 c5 g0 g1 g2 g3 g4 g5 fA fR fM fC fB HB
          generalize (((((w5.setCell ⟨X, 0, none⟩ (.int .i64 x.length)).setCell ⟨X, 1, none⟩ (.int .i64 x.length)).setCell ⟨X, 2, none⟩ (.int .i64 0)).setCell ⟨X, 3, none⟩ (.int .i64 0)).setCell ⟨X, 4, none⟩ (.slice (some ⟨tb, 0, none⟩) 1 1)).setCell ⟨X, 5, none⟩ (.slice (some ⟨P, 0, none⟩) p p) = wz at *
          refine hK.out _ _ ((HG.out.b.cell (p := ⟨g, off, none⟩) hg).trans hc) (fun hHeld => ?_)
          clear hK K hHeld
          try simp only [Act.put, List.setIfInBounds_toArray, List.set_cons_zero, List.set_cons_succ]
          refine wpAnyH_done (by kernel_rfl) ?_ _
          have HVC := Lib.hid (validC_good x.length x.length 0 0 (.slice (some ⟨tb, 0, none⟩) 1 1) (.slice (some ⟨P, 0, none⟩) p p) [x] (List.replicate p 0) wz HG.out.o.read HG.out.pl.read (goodEven HQ.out hm.1 hp))
          rw [List.length_replicate, ← HPB.out] at HVC
          have c0 := HG.out.ch.c0
          have c1 := HG.out.ch.c1
          have c2 := HG.out.ch.c2
          have c3 := HG.out.ch.c3
          have c4 := HG.out.ch.c4
          have c5 := HG.out.ch.c5
          go_wp2_with fail
          refine HVC.out.mono ?_
          rintro e w9 ⟨rfl, hb9⟩
          have HG9 := Lib.hid (HG.out.later HG.out.b.size hb9)
          have hrX : ¬ X = w.heap.size := by have := HG.out.rX; omega
          clear c0 c1 c2 c3 c4 c5 HG HVC hb9
          have k0 := HG9.out.cr.ch.c0
          have k1 := HG9.out.cr.ch.c1
          have k2 := HG9.out.cr.ch.c2
          have k3 := HG9.out.cr.ch.c3
          have k4 := HG9.out.cr.ch.c4
          have k5 := HG9.out.cr.ch.c5
          have g0 := HG9.out.cr.fz 0
          have g1 := HG9.out.cr.fz 1
          have g2 := HG9.out.cr.fz 2
          have g3 := HG9.out.cr.fz 3
          have g4 := HG9.out.cr.fz 4
          have g5 := HG9.out.cr.fz 5
          cases pb
          · have HE := Lib.hid (fun a0 a1 a2 a3 a4 a5 => evNil ((set6 (r := w.heap.size) (w := w9) a0 a1 a2 a3 a4 a5).2 _ _ (Nat.le_refl _) HG9.out.b))
            go_wp2_with fail
            exact bodyPost_ret (v := .tuple #[.agg #[.int .i64 0, .int .i64 0, .int .i64 0, .int .i64 0, .slice none 0 0, .slice none 0 0], .bool false]) (by simp [results, Try.results41, go_sem, k0, k1, k2, k3, k4, k5]) rfl (HE.out _ _ _ _ _ _)
          · have HE := Lib.hid (fun a0 a1 a2 a3 a4 a5 => evRes HG9.out a0 a1 a2 a3 a4 a5 rfl)
            have c0 := HG9.out.ch.c0
            have c1 := HG9.out.ch.c1
            have c2 := HG9.out.ch.c2
            have c3 := HG9.out.ch.c3
            have c4 := HG9.out.ch.c4
            have c5 := HG9.out.ch.c5
            go_wp2_with fail
            exact bodyPost_ret (v := .tuple #[.agg #[.int .i64 x.length, .int .i64 x.length, .int .i64 0, .int .i64 0, .slice (some ⟨tb, 0, none⟩) 1 1, .slice (some ⟨P, 0, none⟩) p p], .bool true]) (by simp [results, Try.results41, go_sem, k0, k1, k2, k3, k4, k5]) rfl (HE.out _ _ _ _ _ _)
      case gA25 =>
        go_simp
        have hbw4 : Below w3.heap.size w3 (w3.alloc zch) := (Below.refl _ _).alloc (Nat.le_refl _) _
        have fA := AF.fresh w3
        have sA : w3.heap.size < (w3.alloc zch).heap.size := by simp
        generalize w3.alloc zch = w4 at *
        try replace fA := fA.later hbw4
        replace fR := fR.later hbw4
        try replace fM := OV.later fM hbw4
        try replace fC := fC.later hbw4 (by omega)
        try replace fB := OV.later fB hbw4
        replace HB := HB.trans (hbw4.mono (by omega))
        generalize w3.heap.size = X at *
        refine hK.out _ _ ((HB.cell (p := ⟨g, off, none⟩) hg).trans hc) (fun hHeld => ?_)
        clear hK K hHeld
        try simp only [Act.put, List.setIfInBounds_toArray, List.set_cons_zero, List.set_cons_succ]
        refine wpAnyH_ready (rs := [10]) (by kernel_rfl) (by simp) ?_
        refine AllReadyH.cons rfl (fun K hK => ?gB29) AllReadyH.nil
        case gB29 =>
          go_simp
          have hbw5 : Below w4.heap.size w4 (w4.alloc (.cells #[.slice ta x.length tc] 24)) := (Below.refl _ _).alloc (Nat.le_refl _) _
          have fB : OV 24 w4.heap.size (w4.alloc (.cells #[.slice ta x.length tc] 24)) (.slice (some ⟨w4.heap.size, 0, none⟩) 1 1) [.slice ta x.length tc] := OV.lit _ _ _ (Nat.le_refl _) (by simp [maxLen])
          have sB : w4.heap.size < (w4.alloc (.cells #[.slice ta x.length tc] 24)).heap.size := by simp
          generalize w4.alloc (.cells #[.slice ta x.length tc] 24) = w5 at *
          try replace fA := fA.later hbw5
          replace fR := fR.later hbw5
          try replace fM := OV.later fM hbw5
          try replace fC := fC.later hbw5 (by omega)
          try replace fB := OV.later fB hbw5
          replace HB := HB.trans (hbw5.mono (by omega))
          generalize w4.heap.size = tb at *
          refine hK.out _ _ ((HB.cell (p := ⟨g, off, none⟩) hg).trans hc) (fun hHeld => ?_)
          clear hK K hHeld
          try simp only [Act.put, List.setIfInBounds_toArray, List.set_cons_zero, List.set_cons_succ]
          have hHeld := (HB.cell (p := ⟨g, off, none⟩) hg).trans hc
          refine wpAnyH_take (i := 13) (oi := ⟨some 33, _, _, _, _, _⟩) (v := ?vt3013) rfl (by kernel_rfl) (by kernel_rfl) (by kernel_rfl) (fun _ _ _ h => h) (Or.inl ⟨by rfl, ?yt3013⟩) hHeld ?rt3013
          case yt3013 => (intro w hSw; (try dsimp only at hSw); go_simp; all_goals (with_reducible rfl))
          try simp only [Act.put, List.setIfInBounds_toArray, List.set_cons_zero, List.set_cons_succ]
          clear hHeld
          have c0 := fA.ch.c0
          have c1 := fA.ch.c1
          have c2 := fA.ch.c2
          have c3 := fA.ch.c3
          have c4 := fA.ch.c4
          have c5 := fA.ch.c5
          have g0 := fA.fz 0
          have g1 := fA.fz 1
          have g2 := fA.fz 2
          have g3 := fA.fz 3
          have g4 := fA.fz 4
          have g5 := fA.fz 5
          refine wpAnyH_ready (rs := [15]) (by kernel_rfl) (by simp) ?_
          refine AllReadyH.cons rfl (fun K hK => ?_) AllReadyH.nil
          go_simp
          have HG := Lib.hid (evLeaf (n := x.length) fA fR fM fC fB HB (by omega) (by omega) (by omega) (by omega))
          clear c0 c1 c2 c3 c4 c5 g0 g1 g2 g3 g4 g5 fA fR fM fC fB HB
          generalize (((((w5.setCell ⟨X, 0, none⟩ (.int .i64 x.length)).setCell ⟨X, 1, none⟩ (.int .i64 x.length)).setCell ⟨X, 2, none⟩ (.int .i64 0)).setCell ⟨X, 3, none⟩ (.int .i64 0)).setCell ⟨X, 4, none⟩ (.slice (some ⟨tb, 0, none⟩) 1 1)).setCell ⟨X, 5, none⟩ (.slice (some ⟨P, 0, none⟩) p p) = wz at *
          refine hK.out _ _ ((HG.out.b.cell (p := ⟨g, off, none⟩) hg).trans hc) (fun hHeld => ?_)
          clear hK K hHeld
          try simp only [Act.put, List.setIfInBounds_toArray, List.set_cons_zero, List.set_cons_succ]
          refine wpAnyH_done (by kernel_rfl) ?_ _
          have HVC := Lib.hid (validC_good x.length x.length 0 0 (.slice (some ⟨tb, 0, none⟩) 1 1) (.slice (some ⟨P, 0, none⟩) p p) [x] (List.replicate p 0) wz HG.out.o.read HG.out.pl.read (goodEven HQ.out hm.1 hp))
          rw [List.length_replicate, ← HPB.out] at HVC
          have c0 := HG.out.ch.c0
          have c1 := HG.out.ch.c1
          have c2 := HG.out.ch.c2
          have c3 := HG.out.ch.c3
          have c4 := HG.out.ch.c4
          have c5 := HG.out.ch.c5
          go_wp2_with fail
          refine HVC.out.mono ?_
          rintro e w9 ⟨rfl, hb9⟩
          have HG9 := Lib.hid (HG.out.later HG.out.b.size hb9)
          have hrX : ¬ X = w.heap.size := by have := HG.out.rX; omega
          clear c0 c1 c2 c3 c4 c5 HG HVC hb9
          have k0 := HG9.out.cr.ch.c0
          have k1 := HG9.out.cr.ch.c1
          have k2 := HG9.out.cr.ch.c2
          have k3 := HG9.out.cr.ch.c3
          have k4 := HG9.out.cr.ch.c4
          have k5 := HG9.out.cr.ch.c5
          have g0 := HG9.out.cr.fz 0
          have g1 := HG9.out.cr.fz 1
          have g2 := HG9.out.cr.fz 2
          have g3 := HG9.out.cr.fz 3
          have g4 := HG9.out.cr.fz 4
          have g5 := HG9.out.cr.fz 5
          cases pb
          · have HE := Lib.hid (fun a0 a1 a2 a3 a4 a5 => evNil ((set6 (r := w.heap.size) (w := w9) a0 a1 a2 a3 a4 a5).2 _ _ (Nat.le_refl _) HG9.out.b))
            go_wp2_with fail
            exact bodyPost_ret (v := .tuple #[.agg #[.int .i64 0, .int .i64 0, .int .i64 0, .int .i64 0, .slice none 0 0, .slice none 0 0], .bool false]) (by simp [results, Try.results41, go_sem, k0, k1, k2, k3, k4, k5]) rfl (HE.out _ _ _ _ _ _)
          · have HE := Lib.hid (fun a0 a1 a2 a3 a4 a5 => evRes HG9.out a0 a1 a2 a3 a4 a5 rfl)
            have c0 := HG9.out.ch.c0
            have c1 := HG9.out.ch.c1
            have c2 := HG9.out.ch.c2
            have c3 := HG9.out.ch.c3
            have c4 := HG9.out.ch.c4
            have c5 := HG9.out.ch.c5
            go_wp2_with fail
            exact bodyPost_ret (v := .tuple #[.agg #[.int .i64 x.length, .int .i64 x.length, .int .i64 0, .int .i64 0, .slice (some ⟨tb, 0, none⟩) 1 1, .slice (some ⟨P, 0, none⟩) p p], .bool true]) (by simp [results, Try.results41, go_sem, k0, k1, k2, k3, k4, k5]) rfl (HE.out _ _ _ _ _ _)
    case gA24 =>
      go_simp
      have hbw3 : Below w2.heap.size w2 (w2.alloc zch) := (Below.refl _ _).alloc (Nat.le_refl _) _
      have fA := AF.fresh w2
      have sA : w2.heap.size < (w2.alloc zch).heap.size := by simp
      generalize w2.alloc zch = w3 at *
      try replace fA := fA.later hbw3
      replace fR := fR.later hbw3
      try replace fM := OV.later fM hbw3
      try replace fC := fC.later hbw3 (by omega)
      try replace fB := OV.later fB hbw3
      replace HB := HB.trans (hbw3.mono (by omega))
      generalize w2.heap.size = X at *
      refine hK.out _ _ ((HB.cell (p := ⟨g, off, none⟩) hg).trans hc) (fun hHeld => ?_)
      clear hK K hHeld
      try simp only [Act.put, List.setIfInBounds_toArray, List.set_cons_zero, List.set_cons_succ]
      refine wpAnyH_ready (rs := [9]) (by kernel_rfl) (by simp) ?_
      refine AllReadyH.cons rfl (fun K hK => ?gC32) AllReadyH.nil
      case gC32 =>
        go_simp
        go_at_call 36
        refine (HCT.out _ HB).mono ?_
        rintro e w4 ⟨tv, rfl, fC, hbw4⟩
        obtain ⟨ta, tc, rfl⟩ := fC.slice
        have sC := hbw4.size
        try replace fA := fA.later hbw4
        replace fR := fR.later hbw4
        try replace fM := OV.later fM hbw4
        try replace fC := fC.later hbw4 (by omega)
        try replace fB := OV.later fB hbw4
        replace HB := HB.trans (hbw4.mono (by omega))
        obtain ⟨hi, sC2⟩ : ∃ hi, hi = w4.heap.size := ⟨_, rfl⟩
        rw [← sC2] at fC
        have sC3 : hi ≤ w4.heap.size := by omega
        have sC4 : w3.heap.size ≤ hi := by omega
        clear sC2
        generalize w3.heap.size = lo at *
        refine hK.out _ _ ((HB.cell (p := ⟨g, off, none⟩) hg).trans hc) (fun hHeld => ?_)
        clear hK K hHeld
        try simp only [Act.put, List.setIfInBounds_toArray, List.set_cons_zero, List.set_cons_succ]
        refine wpAnyH_ready (rs := [10]) (by kernel_rfl) (by simp) ?_
        refine AllReadyH.cons rfl (fun K hK => ?gB33) AllReadyH.nil
        case gB33 =>
          go_simp
          have hbw5 : Below w4.heap.size w4 (w4.alloc (.cells #[.slice ta x.length tc] 24)) := (Below.refl _ _).alloc (Nat.le_refl _) _
          have fB : OV 24 w4.heap.size (w4.alloc (.cells #[.slice ta x.length tc] 24)) (.slice (some ⟨w4.heap.size, 0, none⟩) 1 1) [.slice ta x.length tc] := OV.lit _ _ _ (Nat.le_refl _) (by simp [maxLen])
          have sB : w4.heap.size < (w4.alloc (.cells #[.slice ta x.length tc] 24)).heap.size := by simp
          generalize w4.alloc (.cells #[.slice ta x.length tc] 24) = w5 at *
          try replace fA := fA.later hbw5
          replace fR := fR.later hbw5
          try replace fM := OV.later fM hbw5
          try replace fC := fC.later hbw5 (by omega)
          try replace fB := OV.later fB hbw5
          replace HB := HB.trans (hbw5.mono (by omega))
          generalize w4.heap.size = tb at *
          refine hK.out _ _ ((HB.cell (p := ⟨g, off, none⟩) hg).trans hc) (fun hHeld => ?_)
          clear hK K hHeld
          try simp only [Act.put, List.setIfInBounds_toArray, List.set_cons_zero, List.set_cons_succ]
          have hHeld := (HB.cell (p := ⟨g, off, none⟩) hg).trans hc
          refine wpAnyH_take (i := 13) (oi := ⟨some 33, _, _, _, _, _⟩) (v := ?vt3413) rfl (by kernel_rfl) (by kernel_rfl) (by kernel_rfl) (fun _ _ _ h => h) (Or.inl ⟨by rfl, ?yt3413⟩) hHeld ?rt3413
          case yt3413 => (intro w hSw; (try dsimp only at hSw); go_simp; all_goals (with_reducible rfl))
          try simp only [Act.put, List.setIfInBounds_toArray, List.set_cons_zero, List.set_cons_succ]
          clear hHeld
          have c0 := fA.ch.c0
          have c1 := fA.ch.c1
          have c2 := fA.ch.c2
          have c3 := fA.ch.c3
          have c4 := fA.ch.c4
          have c5 := fA.ch.c5
          have g0 := fA.fz 0
          have g1 := fA.fz 1
          have g2 := fA.fz 2
          have g3 := fA.fz 3
          have g4 := fA.fz 4
          have g5 := fA.fz 5
          refine wpAnyH_ready (rs := [15]) (by kernel_rfl) (by simp) ?_
          refine AllReadyH.cons rfl (fun K hK => ?_) AllReadyH.nil
          go_simp
          have HG := Lib.hid (evLeaf (n := x.length) fA fR fM fC fB HB (by omega) (by omega) (by omega) (by omega))
          clear c0 c1 c2 c3 c4 c5 g0 g1 g2 g3 g4 g5 fA fR fM fC fB HB
          generalize (((((w5.setCell ⟨X, 0, none⟩ (.int .i64 x.length)).setCell ⟨X, 1, none⟩ (.int .i64 x.length)).setCell ⟨X, 2, none⟩ (.int .i64 0)).setCell ⟨X, 3, none⟩ (.int .i64 0)).setCell ⟨X, 4, none⟩ (.slice (some ⟨tb, 0, none⟩) 1 1)).setCell ⟨X, 5, none⟩ (.slice (some ⟨P, 0, none⟩) p p) = wz at *
          refine hK.out _ _ ((HG.out.b.cell (p := ⟨g, off, none⟩) hg).trans hc) (fun hHeld => ?_)
          clear hK K hHeld
          try simp only [Act.put, List.setIfInBounds_toArray, List.set_cons_zero, List.set_cons_succ]
          refine wpAnyH_done (by kernel_rfl) ?_ _
          have HVC := Lib.hid (validC_good x.length x.length 0 0 (.slice (some ⟨tb, 0, none⟩) 1 1) (.slice (some ⟨P, 0, none⟩) p p) [x] (List.replicate p 0) wz HG.out.o.read HG.out.pl.read (goodEven HQ.out hm.1 hp))
          rw [List.length_replicate, ← HPB.out] at HVC
          have c0 := HG.out.ch.c0
          have c1 := HG.out.ch.c1
          have c2 := HG.out.ch.c2
          have c3 := HG.out.ch.c3
          have c4 := HG.out.ch.c4
          have c5 := HG.out.ch.c5
          go_wp2_with fail
          refine HVC.out.mono ?_
          rintro e w9 ⟨rfl, hb9⟩
          have HG9 := Lib.hid (HG.out.later HG.out.b.size hb9)
          have hrX : ¬ X = w.heap.size := by have := HG.out.rX; omega
          clear c0 c1 c2 c3 c4 c5 HG HVC hb9
          have k0 := HG9.out.cr.ch.c0
          have k1 := HG9.out.cr.ch.c1
          have k2 := HG9.out.cr.ch.c2
          have k3 := HG9.out.cr.ch.c3
          have k4 := HG9.out.cr.ch.c4
          have k5 := HG9.out.cr.ch.c5
          have g0 := HG9.out.cr.fz 0
          have g1 := HG9.out.cr.fz 1
          have g2 := HG9.out.cr.fz 2
          have g3 := HG9.out.cr.fz 3
          have g4 := HG9.out.cr.fz 4
          have g5 := HG9.out.cr.fz 5
          cases pb
          · have HE := Lib.hid (fun a0 a1 a2 a3 a4 a5 => evNil ((set6 (r := w.heap.size) (w := w9) a0 a1 a2 a3 a4 a5).2 _ _ (Nat.le_refl _) HG9.out.b))
            go_wp2_with fail
            exact bodyPost_ret (v := .tuple #[.agg #[.int .i64 0, .int .i64 0, .int .i64 0, .int .i64 0, .slice none 0 0, .slice none 0 0], .bool false]) (by simp [results, Try.results41, go_sem, k0, k1, k2, k3, k4, k5]) rfl (HE.out _ _ _ _ _ _)
          · have HE := Lib.hid (fun a0 a1 a2 a3 a4 a5 => evRes HG9.out a0 a1 a2 a3 a4 a5 rfl)
            have c0 := HG9.out.ch.c0
            have c1 := HG9.out.ch.c1
            have c2 := HG9.out.ch.c2
            have c3 := HG9.out.ch.c3
            have c4 := HG9.out.ch.c4
            have c5 := HG9.out.ch.c5
            go_wp2_with fail
            exact bodyPost_ret (v := .tuple #[.agg #[.int .i64 x.length, .int .i64 x.length, .int .i64 0, .int .i64 0, .slice (some ⟨tb, 0, none⟩) 1 1, .slice (some ⟨P, 0, none⟩) p p], .bool true]) (by simp [results, Try.results41, go_sem, k0, k1, k2, k3, k4, k5]) rfl (HE.out _ _ _ _ _ _)
  case gA1 =>
    go_simp
    have hbw2 : Below w1.heap.size w1 (w1.alloc zch) := (Below.refl _ _).alloc (Nat.le_refl _) _
    have fA := AF.fresh w1
    have sA : w1.heap.size < (w1.alloc zch).heap.size := by simp
    generalize w1.alloc zch = w2 at *
    try replace fA := fA.later hbw2
    replace fR := fR.later hbw2
    try replace fM := OV.later fM hbw2
    try replace fC := fC.later hbw2 (by omega)
    try replace fB := OV.later fB hbw2
    replace HB := HB.trans (hbw2.mono (by omega))
    generalize w1.heap.size = X at *
    refine hK.out _ _ ((HB.cell (p := ⟨g, off, none⟩) hg).trans hc) (fun hHeld => ?_)
    clear hK K hHeld
    try simp only [Act.put, List.setIfInBounds_toArray, List.set_cons_zero, List.set_cons_succ]
    refine wpAnyH_ready (rs := [9, 12]) (by kernel_rfl) (by simp) ?_
    refine AllReadyH.cons rfl (fun K hK => ?gC36) (AllReadyH.cons rfl (fun K hK => ?gM36) AllReadyH.nil)
    case gC36 =>
      go_simp
      go_at_call 36
      refine (HCT.out _ HB).mono ?_
      rintro e w3 ⟨tv, rfl, fC, hbw3⟩
      obtain ⟨ta, tc, rfl⟩ := fC.slice
      have sC := hbw3.size
      try replace fA := fA.later hbw3
      replace fR := fR.later hbw3
      try replace fM := OV.later fM hbw3
      try replace fC := fC.later hbw3 (by omega)
      try replace fB := OV.later fB hbw3
      replace HB := HB.trans (hbw3.mono (by omega))
      obtain ⟨hi, sC2⟩ : ∃ hi, hi = w3.heap.size := ⟨_, rfl⟩
      rw [← sC2] at fC
      have sC3 : hi ≤ w3.heap.size := by omega
      have sC4 : w2.heap.size ≤ hi := by omega
      clear sC2
      generalize w2.heap.size = lo at *
      refine hK.out _ _ ((HB.cell (p := ⟨g, off, none⟩) hg).trans hc) (fun hHeld => ?_)
      clear hK K hHeld
      try simp only [Act.put, List.setIfInBounds_toArray, List.set_cons_zero, List.set_cons_succ]
      refine wpAnyH_ready (rs := [10, 12]) (by kernel_rfl) (by simp) ?_
      refine AllReadyH.cons rfl (fun K hK => ?gB37) (AllReadyH.cons rfl (fun K hK => ?gM37) AllReadyH.nil)
      case gB37 =>
        go_simp
        have hbw4 : Below w3.heap.size w3 (w3.alloc (.cells #[.slice ta x.length tc] 24)) := (Below.refl _ _).alloc (Nat.le_refl _) _
        have fB : OV 24 w3.heap.size (w3.alloc (.cells #[.slice ta x.length tc] 24)) (.slice (some ⟨w3.heap.size, 0, none⟩) 1 1) [.slice ta x.length tc] := OV.lit _ _ _ (Nat.le_refl _) (by simp [maxLen])
        have sB : w3.heap.size < (w3.alloc (.cells #[.slice ta x.length tc] 24)).heap.size := by simp
        generalize w3.alloc (.cells #[.slice ta x.length tc] 24) = w4 at *
        try replace fA := fA.later hbw4
        replace fR := fR.later hbw4
        try replace fM := OV.later fM hbw4
        try replace fC := fC.later hbw4 (by omega)
        try replace fB := OV.later fB hbw4
        replace HB := HB.trans (hbw4.mono (by omega))
        generalize w3.heap.size = tb at *
        refine hK.out _ _ ((HB.cell (p := ⟨g, off, none⟩) hg).trans hc) (fun hHeld => ?_)
        clear hK K hHeld
        try simp only [Act.put, List.setIfInBounds_toArray, List.set_cons_zero, List.set_cons_succ]
        refine wpAnyH_ready (rs := [12]) (by kernel_rfl) (by simp) ?_
        refine AllReadyH.cons rfl (fun K hK => ?gM38) AllReadyH.nil
        case gM38 =>
          refine step_make_i64 (by rfl) _ _ (by rfl) w4.heap.size .i64 .i64 _ _ p (by rfl) (by rfl) (by rfl) (by rfl) (by omega) (Nat.le_refl _) ?_
          intro w5 fM hgr sM
          have hbw5 : Below w4.heap.size w4 w5 := (Below.refl _ _).grown hgr (Nat.le_refl _) (by simp)
          clear hgr
          try replace fA := fA.later hbw5
          replace fR := fR.later hbw5
          try replace fM := OV.later fM hbw5
          try replace fC := fC.later hbw5 (by omega)
          try replace fB := OV.later fB hbw5
          replace HB := HB.trans (hbw5.mono (by omega))
          generalize w4.heap.size = P at *
          refine hK.out _ _ ((HB.cell (p := ⟨g, off, none⟩) hg).trans hc) (fun hHeld => ?_)
          clear hK K hHeld
          try simp only [Act.put, List.setIfInBounds_toArray, List.set_cons_zero, List.set_cons_succ]
          have hHeld := (HB.cell (p := ⟨g, off, none⟩) hg).trans hc
          refine wpAnyH_take (i := 13) (oi := ⟨some 33, _, _, _, _, _⟩) (v := ?vt3913) rfl (by kernel_rfl) (by kernel_rfl) (by kernel_rfl) (fun _ _ _ h => h) (Or.inl ⟨by rfl, ?yt3913⟩) hHeld ?rt3913
          case yt3913 => (intro w hSw; (try dsimp only at hSw); go_simp; all_goals (with_reducible rfl))
          try simp only [Act.put, List.setIfInBounds_toArray, List.set_cons_zero, List.set_cons_succ]
          clear hHeld
          have c0 := fA.ch.c0
          have c1 := fA.ch.c1
          have c2 := fA.ch.c2
          have c3 := fA.ch.c3
          have c4 := fA.ch.c4
          have c5 := fA.ch.c5
          have g0 := fA.fz 0
          have g1 := fA.fz 1
          have g2 := fA.fz 2
          have g3 := fA.fz 3
          have g4 := fA.fz 4
          have g5 := fA.fz 5
          refine wpAnyH_ready (rs := [15]) (by kernel_rfl) (by simp) ?_
          refine AllReadyH.cons rfl (fun K hK => ?_) AllReadyH.nil
          go_simp
          have HG := Lib.hid (evLeaf (n := x.length) fA fR fM fC fB HB (by omega) (by omega) (by omega) (by omega))
          clear c0 c1 c2 c3 c4 c5 g0 g1 g2 g3 g4 g5 fA fR fM fC fB HB
          generalize (((((w5.setCell ⟨X, 0, none⟩ (.int .i64 x.length)).setCell ⟨X, 1, none⟩ (.int .i64 x.length)).setCell ⟨X, 2, none⟩ (.int .i64 0)).setCell ⟨X, 3, none⟩ (.int .i64 0)).setCell ⟨X, 4, none⟩ (.slice (some ⟨tb, 0, none⟩) 1 1)).setCell ⟨X, 5, none⟩ (.slice (some ⟨P, 0, none⟩) p p) = wz at *
          refine hK.out _ _ ((HG.out.b.cell (p := ⟨g, off, none⟩) hg).trans hc) (fun hHeld => ?_)
          clear hK K hHeld
          try simp only [Act.put, List.setIfInBounds_toArray, List.set_cons_zero, List.set_cons_succ]
          refine wpAnyH_done (by kernel_rfl) ?_ _
          have HVC := Lib.hid (validC_good x.length x.length 0 0 (.slice (some ⟨tb, 0, none⟩) 1 1) (.slice (some ⟨P, 0, none⟩) p p) [x] (List.replicate p 0) wz HG.out.o.read HG.out.pl.read (goodEven HQ.out hm.1 hp))
          rw [List.length_replicate, ← HPB.out] at HVC
          have c0 := HG.out.ch.c0
          have c1 := HG.out.ch.c1
          have c2 := HG.out.ch.c2
          have c3 := HG.out.ch.c3
          have c4 := HG.out.ch.c4
          have c5 := HG.out.ch.c5
          go_wp2_with fail
          refine HVC.out.mono ?_
          rintro e w9 ⟨rfl, hb9⟩
          have HG9 := Lib.hid (HG.out.later HG.out.b.size hb9)
          have hrX : ¬ X = w.heap.size := by have := HG.out.rX; omega
          clear c0 c1 c2 c3 c4 c5 HG HVC hb9
          have k0 := HG9.out.cr.ch.c0
          have k1 := HG9.out.cr.ch.c1
          have k2 := HG9.out.cr.ch.c2
          have k3 := HG9.out.cr.ch.c3
          have k4 := HG9.out.cr.ch.c4
          have k5 := HG9.out.cr.ch.c5
          have g0 := HG9.out.cr.fz 0
          have g1 := HG9.out.cr.fz 1
          have g2 := HG9.out.cr.fz 2
          have g3 := HG9.out.cr.fz 3
          have g4 := HG9.out.cr.fz 4
          have g5 := HG9.out.cr.fz 5
          cases pb
          · have HE := Lib.hid (fun a0 a1 a2 a3 a4 a5 => evNil ((set6 (r := w.heap.size) (w := w9) a0 a1 a2 a3 a4 a5).2 _ _ (Nat.le_refl _) HG9.out.b))
            go_wp2_with fail
            exact bodyPost_ret (v := .tuple #[.agg #[.int .i64 0, .int .i64 0, .int .i64 0, .int .i64 0, .slice none 0 0, .slice none 0 0], .bool false]) (by simp [results, Try.results41, go_sem, k0, k1, k2, k3, k4, k5]) rfl (HE.out _ _ _ _ _ _)
          · have HE := Lib.hid (fun a0 a1 a2 a3 a4 a5 => evRes HG9.out a0 a1 a2 a3 a4 a5 rfl)
            have c0 := HG9.out.ch.c0
            have c1 := HG9.out.ch.c1
            have c2 := HG9.out.ch.c2
            have c3 := HG9.out.ch.c3
            have c4 := HG9.out.ch.c4
            have c5 := HG9.out.ch.c5
            go_wp2_with fail
            exact bodyPost_ret (v := .tuple #[.agg #[.int .i64 x.length, .int .i64 x.length, .int .i64 0, .int .i64 0, .slice (some ⟨tb, 0, none⟩) 1 1, .slice (some ⟨P, 0, none⟩) p p], .bool true]) (by simp [results, Try.results41, go_sem, k0, k1, k2, k3, k4, k5]) rfl (HE.out _ _ _ _ _ _)
      case gM37 =>
        refine step_make_i64 (by rfl) _ _ (by rfl) w3.heap.size .i64 .i64 _ _ p (by rfl) (by rfl) (by rfl) (by rfl) (by omega) (Nat.le_refl _) ?_
        intro w4 fM hgr sM
        have hbw4 : Below w3.heap.size w3 w4 := (Below.refl _ _).grown hgr (Nat.le_refl _) (by simp)
        clear hgr
        try replace fA := fA.later hbw4
        replace fR := fR.later hbw4
        try replace fM := OV.later fM hbw4
        try replace fC := fC.later hbw4 (by omega)
        try replace fB := OV.later fB hbw4
        replace HB := HB.trans (hbw4.mono (by omega))
        generalize w3.heap.size = P at *
        refine hK.out _ _ ((HB.cell (p := ⟨g, off, none⟩) hg).trans hc) (fun hHeld => ?_)
        clear hK K hHeld
        try simp only [Act.put, List.setIfInBounds_toArray, List.set_cons_zero, List.set_cons_succ]
        refine wpAnyH_ready (rs := [10]) (by kernel_rfl) (by simp) ?_
        refine AllReadyH.cons rfl (fun K hK => ?gB41) AllReadyH.nil
        case gB41 =>
          go_simp
          have hbw5 : Below w4.heap.size w4 (w4.alloc (.cells #[.slice ta x.length tc] 24)) := (Below.refl _ _).alloc (Nat.le_refl _) _
          have fB : OV 24 w4.heap.size (w4.alloc (.cells #[.slice ta x.length tc] 24)) (.slice (some ⟨w4.heap.size, 0, none⟩) 1 1) [.slice ta x.length tc] := OV.lit _ _ _ (Nat.le_refl _) (by simp [maxLen])
          have sB : w4.heap.size < (w4.alloc (.cells #[.slice ta x.length tc] 24)).heap.size := by simp
          generalize w4.alloc (.cells #[.slice ta x.length tc] 24) = w5 at *
          try replace fA := fA.later hbw5
          replace fR := fR.later hbw5
          try replace fM := OV.later fM hbw5
          try replace fC := fC.later hbw5 (by omega)
          try replace fB := OV.later fB hbw5
          replace HB := HB.trans (hbw5.mono (by omega))
          generalize w4.heap.size = tb at *
          refine hK.out _ _ ((HB.cell (p := ⟨g, off, none⟩) hg).trans hc) (fun hHeld => ?_)
          clear hK K hHeld
          try simp only [Act.put, List.setIfInBounds_toArray, List.set_cons_zero, List.set_cons_succ]
          have hHeld := (HB.cell (p := ⟨g, off, none⟩) hg).trans hc
          refine wpAnyH_take (i := 13) (oi := ⟨some 33, _, _, _, _, _⟩) (v := ?vt4213) rfl (by kernel_rfl) (by kernel_rfl) (by kernel_rfl) (fun _ _ _ h => h) (Or.inl ⟨by rfl, ?yt4213⟩) hHeld ?rt4213
          case yt4213 => (intro w hSw; (try dsimp only at hSw); go_simp; all_goals (with_reducible rfl))
          try simp only [Act.put, List.setIfInBounds_toArray, List.set_cons_zero, List.set_cons_succ]
          clear hHeld
          have c0 := fA.ch.c0
          have c1 := fA.ch.c1
          have c2 := fA.ch.c2
          have c3 := fA.ch.c3
          have c4 := fA.ch.c4
          have c5 := fA.ch.c5
          have g0 := fA.fz 0
          have g1 := fA.fz 1
          have g2 := fA.fz 2
          have g3 := fA.fz 3
          have g4 := fA.fz 4
          have g5 := fA.fz 5
          refine wpAnyH_ready (rs := [15]) (by kernel_rfl) (by simp) ?_
          refine AllReadyH.cons rfl (fun K hK => ?_) AllReadyH.nil
          go_simp
          have HG := Lib.hid (evLeaf (n := x.length) fA fR fM fC fB HB (by omega) (by omega) (by omega) (by omega))
          clear c0 c1 c2 c3 c4 c5 g0 g1 g2 g3 g4 g5 fA fR fM fC fB HB
          generalize (((((w5.setCell ⟨X, 0, none⟩ (.int .i64 x.length)).setCell ⟨X, 1, none⟩ (.int .i64 x.length)).setCell ⟨X, 2, none⟩ (.int .i64 0)).setCell ⟨X, 3, none⟩ (.int .i64 0)).setCell ⟨X, 4, none⟩ (.slice (some ⟨tb, 0, none⟩) 1 1)).setCell ⟨X, 5, none⟩ (.slice (some ⟨P, 0, none⟩) p p) = wz at *
          refine hK.out _ _ ((HG.out.b.cell (p := ⟨g, off, none⟩) hg).trans hc) (fun hHeld => ?_)
          clear hK K hHeld
          try simp only [Act.put, List.setIfInBounds_toArray, List.set_cons_zero, List.set_cons_succ]
          refine wpAnyH_done (by kernel_rfl) ?_ _
          have HVC := Lib.hid (validC_good x.length x.length 0 0 (.slice (some ⟨tb, 0, none⟩) 1 1) (.slice (some ⟨P, 0, none⟩) p p) [x] (List.replicate p 0) wz HG.out.o.read HG.out.pl.read (goodEven HQ.out hm.1 hp))
          rw [List.length_replicate, ← HPB.out] at HVC
          have c0 := HG.out.ch.c0
          have c1 := HG.out.ch.c1
          have c2 := HG.out.ch.c2
          have c3 := HG.out.ch.c3
          have c4 := HG.out.ch.c4
          have c5 := HG.out.ch.c5
          go_wp2_with fail
          refine HVC.out.mono ?_
          rintro e w9 ⟨rfl, hb9⟩
          have HG9 := Lib.hid (HG.out.later HG.out.b.size hb9)
          have hrX : ¬ X = w.heap.size := by have := HG.out.rX; omega
          clear c0 c1 c2 c3 c4 c5 HG HVC hb9
          have k0 := HG9.out.cr.ch.c0
          have k1 := HG9.out.cr.ch.c1
          have k2 := HG9.out.cr.ch.c2
          have k3 := HG9.out.cr.ch.c3
          have k4 := HG9.out.cr.ch.c4
          have k5 := HG9.out.cr.ch.c5
          have g0 := HG9.out.cr.fz 0
          have g1 := HG9.out.cr.fz 1
          have g2 := HG9.out.cr.fz 2
          have g3 := HG9.out.cr.fz 3
          have g4 := HG9.out.cr.fz 4
          have g5 := HG9.out.cr.fz 5
          cases pb
          · have HE := Lib.hid (fun a0 a1 a2 a3 a4 a5 => evNil ((set6 (r := w.heap.size) (w := w9) a0 a1 a2 a3 a4 a5).2 _ _ (Nat.le_refl _) HG9.out.b))
            go_wp2_with fail
            exact bodyPost_ret (v := .tuple #[.agg #[.int .i64 0, .int .i64 0, .int .i64 0, .int .i64 0, .slice none 0 0, .slice none 0 0], .bool false]) (by simp [results, Try.results41, go_sem, k0, k1, k2, k3, k4, k5]) rfl (HE.out _ _ _ _ _ _)
          · have HE := Lib.hid (fun a0 a1 a2 a3 a4 a5 => evRes HG9.out a0 a1 a2 a3 a4 a5 rfl)
            have c0 := HG9.out.ch.c0
            have c1 := HG9.out.ch.c1
            have c2 := HG9.out.ch.c2
            have c3 := HG9.out.ch.c3
            have c4 := HG9.out.ch.c4
            have c5 := HG9.out.ch.c5
            go_wp2_with fail
            exact bodyPost_ret (v := .tuple #[.agg #[.int .i64 x.length, .int .i64 x.length, .int .i64 0, .int .i64 0, .slice (some ⟨tb, 0, none⟩) 1 1, .slice (some ⟨P, 0, none⟩) p p], .bool true]) (by simp [results, Try.results41, go_sem, k0, k1, k2, k3, k4, k5]) rfl (HE.out _ _ _ _ _ _)
    case gM36 =>
      refine step_make_i64 (by rfl) _ _ (by rfl) w2.heap.size .i64 .i64 _ _ p (by rfl) (by rfl) (by rfl) (by rfl) (by omega) (Nat.le_refl _) ?_
      intro w3 fM hgr sM
      have hbw3 : Below w2.heap.size w2 w3 := (Below.refl _ _).grown hgr (Nat.le_refl _) (by simp)
      clear hgr
      try replace fA := fA.later hbw3
      replace fR := fR.later hbw3
      try replace fM := OV.later fM hbw3
      try replace fC := fC.later hbw3 (by omega)
      try replace fB := OV.later fB hbw3
      replace HB := HB.trans (hbw3.mono (by omega))
      generalize w2.heap.size = P at *
      refine hK.out _ _ ((HB.cell (p := ⟨g, off, none⟩) hg).trans hc) (fun hHeld => ?_)
      clear hK K hHeld
      try simp only [Act.put, List.setIfInBounds_toArray, List.set_cons_zero, List.set_cons_succ]
      refine wpAnyH_ready (rs := [9]) (by kernel_rfl) (by simp) ?_
      refine AllReadyH.cons rfl (fun K hK => ?gC44) AllReadyH.nil
      case gC44 =>
        go_simp
        go_at_call 36
        refine (HCT.out _ HB).mono ?_
        rintro e w4 ⟨tv, rfl, fC, hbw4⟩
        obtain ⟨ta, tc, rfl⟩ := fC.slice
        have sC := hbw4.size
        try replace fA := fA.later hbw4
        replace fR := fR.later hbw4
        try replace fM := OV.later fM hbw4
        try replace fC := fC.later hbw4 (by omega)
        try replace fB := OV.later fB hbw4
        replace HB := HB.trans (hbw4.mono (by omega))
        obtain ⟨hi, sC2⟩ : ∃ hi, hi = w4.heap.size := ⟨_, rfl⟩
        rw [← sC2] at fC
        have sC3 : hi ≤ w4.heap.size := by omega
        have sC4 : w3.heap.size ≤ hi := by omega
        clear sC2
        generalize w3.heap.size = lo at *
        refine hK.out _ _ ((HB.cell (p := ⟨g, off, none⟩) hg).trans hc) (fun hHeld => ?_)
        clear hK K hHeld
        try simp only [Act.put, List.setIfInBounds_toArray, List.set_cons_zero, List.set_cons_succ]
        refine wpAnyH_ready (rs := [10]) (by kernel_rfl) (by simp) ?_
        refine AllReadyH.cons rfl (fun K hK => ?gB45) AllReadyH.nil
        case gB45 =>
          go_simp
          have hbw5 : Below w4.heap.size w4 (w4.alloc (.cells #[.slice ta x.length tc] 24)) := (Below.refl _ _).alloc (Nat.le_refl _) _
          have fB : OV 24 w4.heap.size (w4.alloc (.cells #[.slice ta x.length tc] 24)) (.slice (some ⟨w4.heap.size, 0, none⟩) 1 1) [.slice ta x.length tc] := OV.lit _ _ _ (Nat.le_refl _) (by simp [maxLen])
          have sB : w4.heap.size < (w4.alloc (.cells #[.slice ta x.length tc] 24)).heap.size := by simp
          generalize w4.alloc (.cells #[.slice ta x.length tc] 24) = w5 at *
          try replace fA := fA.later hbw5
          replace fR := fR.later hbw5
          try replace fM := OV.later fM hbw5
          try replace fC := fC.later hbw5 (by omega)
          try replace fB := OV.later fB hbw5
          replace HB := HB.trans (hbw5.mono (by omega))
          generalize w4.heap.size = tb at *
          refine hK.out _ _ ((HB.cell (p := ⟨g, off, none⟩) hg).trans hc) (fun hHeld => ?_)
          clear hK K hHeld
          try simp only [Act.put, List.setIfInBounds_toArray, List.set_cons_zero, List.set_cons_succ]
          have hHeld := (HB.cell (p := ⟨g, off, none⟩) hg).trans hc
          refine wpAnyH_take (i := 13) (oi := ⟨some 33, _, _, _, _, _⟩) (v := ?vt4613) rfl (by kernel_rfl) (by kernel_rfl) (by kernel_rfl) (fun _ _ _ h => h) (Or.inl ⟨by rfl, ?yt4613⟩) hHeld ?rt4613
          case yt4613 => (intro w hSw; (try dsimp only at hSw); go_simp; all_goals (with_reducible rfl))
          try simp only [Act.put, List.setIfInBounds_toArray, List.set_cons_zero, List.set_cons_succ]
          clear hHeld
          have c0 := fA.ch.c0
          have c1 := fA.ch.c1
          have c2 := fA.ch.c2
          have c3 := fA.ch.c3
          have c4 := fA.ch.c4
          have c5 := fA.ch.c5
          have g0 := fA.fz 0
          have g1 := fA.fz 1
          have g2 := fA.fz 2
          have g3 := fA.fz 3
          have g4 := fA.fz 4
          have g5 := fA.fz 5
          refine wpAnyH_ready (rs := [15]) (by kernel_rfl) (by simp) ?_
          refine AllReadyH.cons rfl (fun K hK => ?_) AllReadyH.nil
          go_simp
          have HG := Lib.hid (evLeaf (n := x.length) fA fR fM fC fB HB (by omega) (by omega) (by omega) (by omega))
          clear c0 c1 c2 c3 c4 c5 g0 g1 g2 g3 g4 g5 fA fR fM fC fB HB
          generalize (((((w5.setCell ⟨X, 0, none⟩ (.int .i64 x.length)).setCell ⟨X, 1, none⟩ (.int .i64 x.length)).setCell ⟨X, 2, none⟩ (.int .i64 0)).setCell ⟨X, 3, none⟩ (.int .i64 0)).setCell ⟨X, 4, none⟩ (.slice (some ⟨tb, 0, none⟩) 1 1)).setCell ⟨X, 5, none⟩ (.slice (some ⟨P, 0, none⟩) p p) = wz at *
          refine hK.out _ _ ((HG.out.b.cell (p := ⟨g, off, none⟩) hg).trans hc) (fun hHeld => ?_)
          clear hK K hHeld
          try simp only [Act.put, List.setIfInBounds_toArray, List.set_cons_zero, List.set_cons_succ]
          refine wpAnyH_done (by kernel_rfl) ?_ _
          have HVC := Lib.hid (validC_good x.length x.length 0 0 (.slice (some ⟨tb, 0, none⟩) 1 1) (.slice (some ⟨P, 0, none⟩) p p) [x] (List.replicate p 0) wz HG.out.o.read HG.out.pl.read (goodEven HQ.out hm.1 hp))
          rw [List.length_replicate, ← HPB.out] at HVC
          have c0 := HG.out.ch.c0
          have c1 := HG.out.ch.c1
          have c2 := HG.out.ch.c2
          have c3 := HG.out.ch.c3
          have c4 := HG.out.ch.c4
          have c5 := HG.out.ch.c5
          go_wp2_with fail
          refine HVC.out.mono ?_
          rintro e w9 ⟨rfl, hb9⟩
          have HG9 := Lib.hid (HG.out.later HG.out.b.size hb9)
          have hrX : ¬ X = w.heap.size := by have := HG.out.rX; omega
          clear c0 c1 c2 c3 c4 c5 HG HVC hb9
          have k0 := HG9.out.cr.ch.c0
          have k1 := HG9.out.cr.ch.c1
          have k2 := HG9.out.cr.ch.c2
          have k3 := HG9.out.cr.ch.c3
          have k4 := HG9.out.cr.ch.c4
          have k5 := HG9.out.cr.ch.c5
          have g0 := HG9.out.cr.fz 0
          have g1 := HG9.out.cr.fz 1
          have g2 := HG9.out.cr.fz 2
          have g3 := HG9.out.cr.fz 3
          have g4 := HG9.out.cr.fz 4
          have g5 := HG9.out.cr.fz 5
          cases pb
          · have HE := Lib.hid (fun a0 a1 a2 a3 a4 a5 => evNil ((set6 (r := w.heap.size) (w := w9) a0 a1 a2 a3 a4 a5).2 _ _ (Nat.le_refl _) HG9.out.b))
            go_wp2_with fail
            exact bodyPost_ret (v := .tuple #[.agg #[.int .i64 0, .int .i64 0, .int .i64 0, .int .i64 0, .slice none 0 0, .slice none 0 0], .bool false]) (by simp [results, Try.results41, go_sem, k0, k1, k2, k3, k4, k5]) rfl (HE.out _ _ _ _ _ _)
          · have HE := Lib.hid (fun a0 a1 a2 a3 a4 a5 => evRes HG9.out a0 a1 a2 a3 a4 a5 rfl)
            have c0 := HG9.out.ch.c0
            have c1 := HG9.out.ch.c1
            have c2 := HG9.out.ch.c2
            have c3 := HG9.out.ch.c3
            have c4 := HG9.out.ch.c4
            have c5 := HG9.out.ch.c5
            go_wp2_with fail
            exact bodyPost_ret (v := .tuple #[.agg #[.int .i64 x.length, .int .i64 x.length, .int .i64 0, .int .i64 0, .slice (some ⟨tb, 0, none⟩) 1 1, .slice (some ⟨P, 0, none⟩) p p], .bool true]) (by simp [results, Try.results41, go_sem, k0, k1, k2, k3, k4, k5]) rfl (HE.out _ _ _ _ _ _)
end Go.Proofs.Ythcnhkjiojeemaa
