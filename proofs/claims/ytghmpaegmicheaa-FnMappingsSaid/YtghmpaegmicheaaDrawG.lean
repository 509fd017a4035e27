/- l05DrawOk, B10Group: the drawn group is a group. -/
import Derived.Test.YtghmpaegmicheaaMkB
import Derived.Test.YtghmpaegmicheaaProdS
import Derived.Deep.DeepCutAuto
import Derived.Deep.CutBlock
namespace Go.Proofs.Ytghmpaegmicheaa
open Go.RowKit

theorem chg_heap {p b : Nat} {w w' : World} (hc : Chg [p] w w') (h : b < w.heap.size) (hb : p < b) : w'.heap[b]? = w.heap[b]? := hc.block b h (by simp; omega)
theorem DrawSt.set {p r b3 B m : Nat} {tv old : Value} {x : List (List Int)} {w0 w : World} (lt : p < r ∧ r < b3) (b3B : b3 < B) (hl : b3 < w.heap.size) (src : Src p m w) (hm : m ≤ 3) (cr : w.cell? ⟨r, 0, none⟩ = some (.slice none 0 0)) (fr : w.frozen? ⟨r, 0, none⟩ = false)
    (c3 : w.cell? ⟨b3, 0, none⟩ = some old) (o : OT B w.heap.size w tv x) (g : grpB x = true) (ch : Chg [p] w0 w) (hr : w0.heap.size ≤ b3) : DrawSt p r b3 tv x w0 (w.setCell ⟨b3, 0, none⟩ tv) := by
  have hh : ∀ k, k ≠ b3 → (w.setCell ⟨b3, 0, none⟩ tv).heap[k]? = w.heap[k]? := fun k hk => heap_setCell_other _ _ _ _ hk
  refine ⟨⟨lt.1, lt.2, by simpa using hl⟩, (src.mono hm).keep (fun k hk => hh k (by omega)) (by simp), (cell_keep (hh r (by omega))).trans cr, (frozen_keep (hh r (by omega))).trans fr, World.cell?_setCell_same (h := c3) .., ?_, g, ?_⟩
  · have h1 : OT (r + 1) w.heap.size (w.setCell ⟨b3, 0, none⟩ tv) tv x := (o.keep fun k h1 h2 => hh k (by omega)).monoB (by omega)
    exact h1.mono (by simp)
  · exact ⟨ch.os, ch.tape, ch.output, by have := ch.size; simpa using this, fun k hk hn => (hh k (by omega)).trans (ch.block k hk hn)⟩
theorem Und.bd {xs g : List Int} {n : Nat} (hu : Und xs g xs.length) (hp : xs.Perm (upN n)) {i : Nat} (hi : i < n) : ∃ z : Nat, g.getD i 0 = (z : Int) ∧ z < n := by
  obtain ⟨k, hk, e⟩ := perm_sur hp (z := (i : Int)) (by omega)
  have := hu.2 k (by rw [perm_len hp]; exact hk)
  rw [e] at this
  exact ⟨k, by simpa using this, hk⟩
set_option maxHeartbeats 2000000 in
set_option maxRecDepth 100000 in
theorem drawOk_any (p : Nat) (w : World) (h : Src p 0 w) :
    Calls Try.prog 58 #[.pointer (some ⟨p, 0, none⟩)] w fun e w' => ∃ u x, e = .returned (.agg #[u]) ∧ OT w.heap.size w'.heap.size w' u x ∧ grpB x = true ∧ Chg [p] w w' := by
  have hp := h.lt
  have hb : Below w.heap.size w (w.alloc (.cells #[.slice none 0 0] 29)) := (Below.refl _ _).alloc (Nat.le_refl _) _
  have cr : (w.alloc (.cells #[.slice none 0 0] 29)).cell? ⟨w.heap.size, 0, none⟩ = some (.slice none 0 0) := World.cell?_alloc_at _ _ _ _ rfl
  have fr : (w.alloc (.cells #[.slice none 0 0] 29)).frozen? ⟨w.heap.size, 0, none⟩ = false := by simp [go_sem]
  have hlt : w.heap.size < (w.alloc (.cells #[.slice none 0 0] 29)).heap.size := by simp
  have hch : Chg [p] w (w.alloc (.cells #[.slice none 0 0] 29)) := (Below.chg hb).mono (by simp)
  replace h := h.later hb
  clear hb
  go_enter Try.func58, Try.ntmps58
  go_wp2_with fail
  generalize w.alloc (.cells #[.slice none 0 0] 29) = w1 at *
  obtain ⟨r, hr⟩ : ∃ r, r = w.heap.size := ⟨_, rfl⟩
  rw [← hr] at cr fr hlt
  have hpr : p < r := by omega
  refine (pick_any p _ 10 _ h (by omega) (by omega)).mono ?_
  rintro e w2 ⟨z, rfl, hz, h2, hc⟩
  obtain ⟨k, rfl⟩ := Int.eq_ofNat_of_zero_le hz.1
  replace cr := (cell_keep (chg_heap hc hlt hpr)).trans cr
  replace fr := (frozen_keep (chg_heap hc hlt hpr)).trans fr
  replace hch := hch.trans hc
  replace hlt := Nat.lt_of_lt_of_le hlt hc.size
  clear hc h
  go_wp2_with fail
  have HC := l05Cyclic_any (1 + k) w2 (by omega)
  rw [show ((1 + k : Nat) : Int) = 1 + (k : Int) by omega] at HC
  refine HC.mono ?_
  rintro e w3 ⟨u, rfl, o, hb1⟩
  have HG := Lib.hid (cyc_grp (n := 1 + k) (by omega))
  obtain ⟨x, hx⟩ : ∃ x, x = mkT (1 + k) (cycF (1 + k)) := ⟨_, rfl⟩
  rw [← hx] at o HG
  clear hx HC
  have s2 := h2.later hb1
  obtain ⟨ua, uc, rfl⟩ := o.slice
  have hz2 := hlt
  replace cr := (hb1.cell (p := ⟨r, 0, none⟩) hlt).trans cr
  replace fr := (hb1.frozen (p := ⟨r, 0, none⟩) hlt).trans fr
  replace hch := hch.trans ((Below.chg hb1).mono (by simp))
  replace hlt := Nat.lt_of_lt_of_le hlt hb1.size
  clear hb1 h2
  go_wp2_with fail
  have c3 : (w3.alloc (.cells #[.slice ua x.length uc] 29)).cell? ⟨w3.heap.size, 0, none⟩ = some (.slice ua x.length uc) := World.cell?_alloc_at _ _ _ _ rfl
  have f3 : (w3.alloc (.cells #[.slice ua x.length uc] 29)).frozen? ⟨w3.heap.size, 0, none⟩ = false := by simp [go_sem]
  have hb1 : Below w3.heap.size w3 (w3.alloc (.cells #[.slice ua x.length uc] 29)) := (Below.refl _ _).alloc (Nat.le_refl _) _
  have hl3 : w3.heap.size < (w3.alloc (.cells #[.slice ua x.length uc] 29)).heap.size := by simp
  have t3 := (o.later hb1 (Nat.le_refl _)).monoB (show r + 1 ≤ w2.heap.size by omega)
  replace s2 := s2.later hb1
  have hr3 : r < w3.heap.size := hlt
  replace cr := (hb1.cell (p := ⟨r, 0, none⟩) hlt).trans cr
  replace fr := (hb1.frozen (p := ⟨r, 0, none⟩) hlt).trans fr
  replace hch := hch.trans ((Below.chg hb1).mono (by simp))
  replace hlt := Nat.lt_of_lt_of_le hlt hb1.size
  clear hb1 o
  generalize w3.alloc (.cells #[.slice ua x.length uc] 29) = w4 at *
  refine (pick_any p _ 4 _ s2 (by omega) (by omega)).mono ?_
  rintro e w5 ⟨z, rfl, hz4, s5, hc⟩
  obtain ⟨q, rfl⟩ := Int.eq_ofNat_of_zero_le hz4.1
  replace c3 := (cell_keep (chg_heap hc hl3 (by omega))).trans c3
  replace f3 := (frozen_keep (chg_heap hc hl3 (by omega))).trans f3
  have t5 := RT.chgP t3 hc (by omega) (Nat.le_of_lt hl3)
  replace hl3 := Nat.lt_of_lt_of_le hl3 hc.size
  replace cr := (cell_keep (chg_heap hc hlt hpr)).trans cr
  replace fr := (frozen_keep (chg_heap hc hlt hpr)).trans fr
  replace hch := hch.trans hc
  replace hlt := Nat.lt_of_lt_of_le hlt hc.size
  clear hc s2 t3
  go_upto_block 0 with fail
  go_cut [] (fun wx => ∃ ua x uc, DrawSt p r w3.heap.size (.slice ua x.length uc) x w wx)
  case first =>
    obtain rfl | rfl | rfl | rfl : q = 0 ∨ q = 1 ∨ q = 2 ∨ q = 3 := by omega
    · clear t5 HG
      go_wp2_with fail
      refine (pick_any p _ 5 _ s5 (by omega) (by omega)).mono ?_
      rintro e w6 ⟨z, rfl, hz5, s6, hc⟩
      obtain ⟨y, rfl⟩ := Int.eq_ofNat_of_zero_le hz5.1
      replace c3 := (cell_keep (chg_heap hc hl3 (by omega))).trans c3
      replace f3 := (frozen_keep (chg_heap hc hl3 (by omega))).trans f3
      replace hl3 := Nat.lt_of_lt_of_le hl3 hc.size
      replace cr := (cell_keep (chg_heap hc hlt hpr)).trans cr
      replace fr := (frozen_keep (chg_heap hc hlt hpr)).trans fr
      replace hch := hch.trans hc
      replace hlt := Nat.lt_of_lt_of_le hlt hc.size
      clear hc s5
      go_wp2_with fail
      have HC := l05Dihedral_any (1 + y) w6 (by omega)
      rw [show ((1 + y : Nat) : Int) = 1 + (y : Int) by omega] at HC
      refine HC.mono ?_
      rintro e w7 ⟨u, rfl, o, hb1⟩
      clear HC
      have HG := Lib.hid (dih_grp (n := 1 + y) (by omega))
      generalize mkT (2 * (1 + y)) (dihF (1 + y)) = x1 at *
      obtain ⟨va, vc, rfl⟩ := o.slice
      have HD := Lib.hid (fun c3' h1 h2 h3 h4 h5 => DrawSt.set (p := p) (r := r) (b3 := w3.heap.size) (m := 3) (w0 := w) (w := w7) (old := .slice ua x.length uc) ⟨hpr, hr3⟩ hl3 c3' (s6.later hb1) (Nat.le_refl _) h1 h2 h3 o HG.out h4 h5)
      replace c3 := (hb1.cell (p := ⟨w3.heap.size, 0, none⟩) hl3).trans c3
      replace f3 := (hb1.frozen (p := ⟨w3.heap.size, 0, none⟩) hl3).trans f3
      replace hl3 := Nat.lt_of_lt_of_le hl3 hb1.size
      replace cr := (hb1.cell (p := ⟨r, 0, none⟩) hlt).trans cr
      replace fr := (hb1.frozen (p := ⟨r, 0, none⟩) hlt).trans fr
      replace hch := hch.trans ((Below.chg hb1).mono (by simp))
      replace hlt := Nat.lt_of_lt_of_le hlt hb1.size
      clear hb1 o s6
      go_wp2_with fail
      go_meet
      exact ⟨va, x1, vc, HD.out hl3 cr fr c3 hch (by omega)⟩
    · clear t5 HG
      go_wp2_with fail
      have HC := l05Cyclic_any 2 w5 (by omega)
      refine HC.mono ?_
      rintro e w6 ⟨u, rfl, oA, hb1⟩
      clear HC
      have mA := mkT_small 2 (cycF 2) (by omega)
      obtain ⟨A, hA⟩ : ∃ A, A = mkT 2 (cycF 2) := ⟨_, rfl⟩
      rw [← hA] at oA mA
      have HA := Lib.hid hA
      clear hA
      obtain ⟨aa, ac, rfl⟩ := oA.slice
      replace s5 := s5.later hb1
      have hzA := hb1.size
      have hp5 : p < w5.heap.size := by omega
      replace c3 := (hb1.cell (p := ⟨w3.heap.size, 0, none⟩) hl3).trans c3
      replace f3 := (hb1.frozen (p := ⟨w3.heap.size, 0, none⟩) hl3).trans f3
      replace hl3 := Nat.lt_of_lt_of_le hl3 hb1.size
      replace cr := (hb1.cell (p := ⟨r, 0, none⟩) hlt).trans cr
      replace fr := (hb1.frozen (p := ⟨r, 0, none⟩) hlt).trans fr
      replace hch := hch.trans ((Below.chg hb1).mono (by simp))
      replace hlt := Nat.lt_of_lt_of_le hlt hb1.size
      clear hb1
      go_wp2_with fail
      have hb1 : Below w6.heap.size w6 (w6.alloc (.cells #[.slice aa A.length ac] 29)) := (Below.refl _ _).alloc (Nat.le_refl _) _
      have cA : (w6.alloc (.cells #[.slice aa A.length ac] 29)).cell? ⟨w6.heap.size, 0, none⟩ = some (.slice aa A.length ac) := World.cell?_alloc_at _ _ _ _ rfl
      have lA : w6.heap.size < (w6.alloc (.cells #[.slice aa A.length ac] 29)).heap.size := by simp
      replace s5 := s5.later hb1
      replace oA := oA.later hb1 (Nat.le_refl _)
      replace c3 := (hb1.cell (p := ⟨w3.heap.size, 0, none⟩) hl3).trans c3
      replace f3 := (hb1.frozen (p := ⟨w3.heap.size, 0, none⟩) hl3).trans f3
      replace hl3 := Nat.lt_of_lt_of_le hl3 hb1.size
      replace cr := (hb1.cell (p := ⟨r, 0, none⟩) hlt).trans cr
      replace fr := (hb1.frozen (p := ⟨r, 0, none⟩) hlt).trans fr
      replace hch := hch.trans ((Below.chg hb1).mono (by simp))
      replace hlt := Nat.lt_of_lt_of_le hlt hb1.size
      clear hb1
      generalize w6.alloc (.cells #[.slice aa A.length ac] 29) = w7 at *
      refine (pick_any p _ 5 _ s5 (by omega) (by omega)).mono ?_
      rintro e w8 ⟨z, rfl, hz5, s8, hc⟩
      obtain ⟨y, rfl⟩ := Int.eq_ofNat_of_zero_le hz5.1
      replace cA := (cell_keep (chg_heap hc lA (by omega))).trans cA
      replace oA := RT.chgP oA hc hp5 (by omega)
      replace lA := Nat.lt_of_lt_of_le lA hc.size
      replace c3 := (cell_keep (chg_heap hc hl3 (by omega))).trans c3
      replace f3 := (frozen_keep (chg_heap hc hl3 (by omega))).trans f3
      replace hl3 := Nat.lt_of_lt_of_le hl3 hc.size
      replace cr := (cell_keep (chg_heap hc hlt hpr)).trans cr
      replace fr := (frozen_keep (chg_heap hc hlt hpr)).trans fr
      replace hch := hch.trans hc
      replace hlt := Nat.lt_of_lt_of_le hlt hc.size
      clear hc s5
      go_wp2_with fail
      have HC := l05Cyclic_any (1 + y) w8 (by omega)
      rw [show ((1 + y : Nat) : Int) = 1 + (y : Int) by omega] at HC
      refine HC.mono ?_
      rintro e w9 ⟨u, rfl, oB, hb1⟩
      clear HC
      have mB := mkT_small (1 + y) (cycF (1 + y)) (by omega)
      have HG := Lib.hid (pr_grp (n := 1 + y) (by omega))
      rw [← HA.out] at HG
      generalize mkT (1 + y) (cycF (1 + y)) = B at *
      obtain ⟨ba, bc, rfl⟩ := oB.slice
      replace s8 := s8.later hb1
      replace cA := (hb1.cell (p := ⟨w6.heap.size, 0, none⟩) lA).trans cA
      replace oA := oA.later hb1 (by omega)
      replace lA := Nat.lt_of_lt_of_le lA hb1.size
      replace c3 := (hb1.cell (p := ⟨w3.heap.size, 0, none⟩) hl3).trans c3
      replace f3 := (hb1.frozen (p := ⟨w3.heap.size, 0, none⟩) hl3).trans f3
      replace hl3 := Nat.lt_of_lt_of_le hl3 hb1.size
      replace cr := (hb1.cell (p := ⟨r, 0, none⟩) hlt).trans cr
      replace fr := (hb1.frozen (p := ⟨r, 0, none⟩) hlt).trans fr
      replace hch := hch.trans ((Below.chg hb1).mono (by simp))
      replace hlt := Nat.lt_of_lt_of_le hlt hb1.size
      clear hb1
      go_wp2_with fail
      have hb1 : Below w9.heap.size w9 (w9.alloc (.cells #[.slice ba B.length bc] 29)) := (Below.refl _ _).alloc (Nat.le_refl _) _
      have oB1 := oB.later hb1 (Nat.le_refl _)
      replace s8 := s8.later hb1
      replace oA := oA.later hb1 (by omega)
      replace c3 := (hb1.cell (p := ⟨w3.heap.size, 0, none⟩) hl3).trans c3
      replace f3 := (hb1.frozen (p := ⟨w3.heap.size, 0, none⟩) hl3).trans f3
      replace hl3 := Nat.lt_of_lt_of_le hl3 hb1.size
      replace cr := (hb1.cell (p := ⟨r, 0, none⟩) hlt).trans cr
      replace fr := (hb1.frozen (p := ⟨r, 0, none⟩) hlt).trans fr
      replace hch := hch.trans ((Below.chg hb1).mono (by simp))
      replace hlt := Nat.lt_of_lt_of_le hlt hb1.size
      clear hb1 oB
      generalize w9.alloc (.cells #[.slice ba B.length bc] 29) = w10 at *
      refine (specProd_any _ _ A B _ oA.read mA.1 mA.2.1 oB1.read mB.1 mB.2.1).mono ?_
      rintro e w11 ⟨u, rfl, o, hb1⟩
      generalize prX A B = x1 at *
      generalize prB A B = b1 at *
      obtain ⟨va, vc, rfl⟩ := o.slice
      have HD := Lib.hid (fun c3' h1 h2 h3 h4 h5 => DrawSt.set (p := p) (r := r) (b3 := w3.heap.size) (m := 3) (w0 := w) (w := w11) (old := .slice ua x.length uc) ⟨hpr, hr3⟩ hl3 c3' (s8.later hb1) (Nat.le_refl _) h1 h2 h3 o HG.out h4 h5)
      replace c3 := (hb1.cell (p := ⟨w3.heap.size, 0, none⟩) hl3).trans c3
      replace f3 := (hb1.frozen (p := ⟨w3.heap.size, 0, none⟩) hl3).trans f3
      replace hl3 := Nat.lt_of_lt_of_le hl3 hb1.size
      replace cr := (hb1.cell (p := ⟨r, 0, none⟩) hlt).trans cr
      replace fr := (hb1.frozen (p := ⟨r, 0, none⟩) hlt).trans fr
      replace hch := hch.trans ((Below.chg hb1).mono (by simp))
      replace hlt := Nat.lt_of_lt_of_le hlt hb1.size
      clear hb1 o s8 oA oB1 cA
      go_wp2_with fail
      go_meet
      exact ⟨va, x1, vc, HD.out hl3 cr fr c3 hch (by omega)⟩
    · clear t5 HG
      go_wp2_with fail
      refine (l05Cyclic_any 2 w5 (by omega)).mono ?_
      rintro e w6 ⟨u, rfl, oA, hb1⟩
      have mA := mkT_small 2 (cycF 2) (by omega)
      obtain ⟨A, hA⟩ : ∃ A, A = mkT 2 (cycF 2) := ⟨_, rfl⟩
      rw [← hA] at oA mA
      have HA := Lib.hid hA
      clear hA
      obtain ⟨aa, ac, rfl⟩ := oA.slice
      replace s5 := s5.later hb1
      have hzA := hb1.size
      replace c3 := (hb1.cell (p := ⟨w3.heap.size, 0, none⟩) hl3).trans c3
      replace f3 := (hb1.frozen (p := ⟨w3.heap.size, 0, none⟩) hl3).trans f3
      replace hl3 := Nat.lt_of_lt_of_le hl3 hb1.size
      replace cr := (hb1.cell (p := ⟨r, 0, none⟩) hlt).trans cr
      replace fr := (hb1.frozen (p := ⟨r, 0, none⟩) hlt).trans fr
      replace hch := hch.trans ((Below.chg hb1).mono (by simp))
      replace hlt := Nat.lt_of_lt_of_le hlt hb1.size
      clear hb1
      go_wp2_with fail
      have hb1 : Below w6.heap.size w6 (w6.alloc (.cells #[.slice aa A.length ac] 29)) := (Below.refl _ _).alloc (Nat.le_refl _) _
      have cA : (w6.alloc (.cells #[.slice aa A.length ac] 29)).cell? ⟨w6.heap.size, 0, none⟩ = some (.slice aa A.length ac) := World.cell?_alloc_at _ _ _ _ rfl
      have lA : w6.heap.size < (w6.alloc (.cells #[.slice aa A.length ac] 29)).heap.size := by simp
      replace s5 := s5.later hb1
      replace oA := oA.later hb1 (Nat.le_refl _)
      replace c3 := (hb1.cell (p := ⟨w3.heap.size, 0, none⟩) hl3).trans c3
      replace f3 := (hb1.frozen (p := ⟨w3.heap.size, 0, none⟩) hl3).trans f3
      replace hl3 := Nat.lt_of_lt_of_le hl3 hb1.size
      replace cr := (hb1.cell (p := ⟨r, 0, none⟩) hlt).trans cr
      replace fr := (hb1.frozen (p := ⟨r, 0, none⟩) hlt).trans fr
      replace hch := hch.trans ((Below.chg hb1).mono (by simp))
      replace hlt := Nat.lt_of_lt_of_le hlt hb1.size
      clear hb1
      generalize w6.alloc (.cells #[.slice aa A.length ac] 29) = w7 at *
      refine (l05Cyclic_any 2 w7 (by omega)).mono ?_
      rintro e w9 ⟨u, rfl, oB, hb1⟩
      rw [← HA.out] at oB
      obtain ⟨ba, bc, rfl⟩ := oB.slice
      replace s5 := s5.later hb1
      replace cA := (hb1.cell (p := ⟨w6.heap.size, 0, none⟩) lA).trans cA
      replace oA := oA.later hb1 (by omega)
      replace lA := Nat.lt_of_lt_of_le lA hb1.size
      replace c3 := (hb1.cell (p := ⟨w3.heap.size, 0, none⟩) hl3).trans c3
      replace f3 := (hb1.frozen (p := ⟨w3.heap.size, 0, none⟩) hl3).trans f3
      replace hl3 := Nat.lt_of_lt_of_le hl3 hb1.size
      replace cr := (hb1.cell (p := ⟨r, 0, none⟩) hlt).trans cr
      replace fr := (hb1.frozen (p := ⟨r, 0, none⟩) hlt).trans fr
      replace hch := hch.trans ((Below.chg hb1).mono (by simp))
      replace hlt := Nat.lt_of_lt_of_le hlt hb1.size
      clear hb1
      go_wp2_with fail
      have hb1 : Below w9.heap.size w9 (w9.alloc (.cells #[.slice ba A.length bc] 29)) := (Below.refl _ _).alloc (Nat.le_refl _) _
      have oB1 := oB.later hb1 (Nat.le_refl _)
      replace s5 := s5.later hb1
      replace oA := oA.later hb1 (by omega)
      replace cA := (hb1.cell (p := ⟨w6.heap.size, 0, none⟩) lA).trans cA
      replace lA := Nat.lt_of_lt_of_le lA hb1.size
      replace c3 := (hb1.cell (p := ⟨w3.heap.size, 0, none⟩) hl3).trans c3
      replace f3 := (hb1.frozen (p := ⟨w3.heap.size, 0, none⟩) hl3).trans f3
      replace hl3 := Nat.lt_of_lt_of_le hl3 hb1.size
      replace cr := (hb1.cell (p := ⟨r, 0, none⟩) hlt).trans cr
      replace fr := (hb1.frozen (p := ⟨r, 0, none⟩) hlt).trans fr
      replace hch := hch.trans ((Below.chg hb1).mono (by simp))
      replace hlt := Nat.lt_of_lt_of_le hlt hb1.size
      clear hb1 oB
      generalize w9.alloc (.cells #[.slice ba A.length bc] 29) = w10 at *
      refine (specProd_any _ _ A A _ oA.read mA.1 mA.2.1 oB1.read mA.1 mA.2.1).mono ?_
      rintro e w11 ⟨u, rfl, o, hb1⟩
      have mC : (prX A A).length ≤ 1048576 ∧ Small (prX A A) := by
        rw [HA.out]; unfold prX; split
        · exact ⟨(mkT_small _ _ (by rw [mkT_len]; omega)).1, (mkT_small _ _ (by rw [mkT_len]; omega)).2.1⟩
        · exact ⟨by simp, fun r hr => by simp at hr⟩
      have HG := pr_grp2
      rw [← HA.out] at HG
      replace HG := Lib.hid HG
      generalize prX A A = C1 at *
      generalize prB A A = b1 at *
      obtain ⟨ca, cc, rfl⟩ := o.slice
      replace s5 := s5.later hb1
      replace cA := (hb1.cell (p := ⟨w6.heap.size, 0, none⟩) lA).trans cA
      replace oA := oA.later hb1 (by omega)
      replace lA := Nat.lt_of_lt_of_le lA hb1.size
      replace c3 := (hb1.cell (p := ⟨w3.heap.size, 0, none⟩) hl3).trans c3
      replace f3 := (hb1.frozen (p := ⟨w3.heap.size, 0, none⟩) hl3).trans f3
      replace hl3 := Nat.lt_of_lt_of_le hl3 hb1.size
      replace cr := (hb1.cell (p := ⟨r, 0, none⟩) hlt).trans cr
      replace fr := (hb1.frozen (p := ⟨r, 0, none⟩) hlt).trans fr
      replace hch := hch.trans ((Below.chg hb1).mono (by simp))
      replace hlt := Nat.lt_of_lt_of_le hlt hb1.size
      clear hb1 oB1
      go_wp2_with fail
      have hb1 : Below w11.heap.size w11 (w11.alloc (.cells #[.slice ca C1.length cc] 29)) := (Below.refl _ _).alloc (Nat.le_refl _) _
      have o1 := o.later hb1 (Nat.le_refl _)
      replace s5 := s5.later hb1
      replace oA := oA.later hb1 (by omega)
      replace cA := (hb1.cell (p := ⟨w6.heap.size, 0, none⟩) lA).trans cA
      replace c3 := (hb1.cell (p := ⟨w3.heap.size, 0, none⟩) hl3).trans c3
      replace f3 := (hb1.frozen (p := ⟨w3.heap.size, 0, none⟩) hl3).trans f3
      replace hl3 := Nat.lt_of_lt_of_le hl3 hb1.size
      replace cr := (hb1.cell (p := ⟨r, 0, none⟩) hlt).trans cr
      replace fr := (hb1.frozen (p := ⟨r, 0, none⟩) hlt).trans fr
      replace hch := hch.trans ((Below.chg hb1).mono (by simp))
      replace hlt := Nat.lt_of_lt_of_le hlt hb1.size
      clear hb1 o
      generalize w11.alloc (.cells #[.slice ca C1.length cc] 29) = w12 at *
      refine (specProd_any _ _ C1 A _ o1.read mC.1 mC.2 oA.read mA.1 mA.2.1).mono ?_
      rintro e w13 ⟨u, rfl, o, hb1⟩
      generalize prX C1 A = x1 at *
      generalize prB C1 A = b2 at *
      obtain ⟨va, vc, rfl⟩ := o.slice
      have HD := Lib.hid (fun c3' h1 h2 h3 h4 h5 => DrawSt.set (p := p) (r := r) (b3 := w3.heap.size) (m := 3) (w0 := w) (w := w13) (old := .slice ua x.length uc) ⟨hpr, hr3⟩ hl3 c3' ((s5.later hb1).mono (by omega)) (Nat.le_refl _) h1 h2 h3 o HG.out h4 h5)
      replace c3 := (hb1.cell (p := ⟨w3.heap.size, 0, none⟩) hl3).trans c3
      replace f3 := (hb1.frozen (p := ⟨w3.heap.size, 0, none⟩) hl3).trans f3
      replace hl3 := Nat.lt_of_lt_of_le hl3 hb1.size
      replace cr := (hb1.cell (p := ⟨r, 0, none⟩) hlt).trans cr
      replace fr := (hb1.frozen (p := ⟨r, 0, none⟩) hlt).trans fr
      replace hch := hch.trans ((Below.chg hb1).mono (by simp))
      replace hlt := Nat.lt_of_lt_of_le hlt hb1.size
      clear hb1 o s5 oA o1 cA
      go_wp2_with fail
      go_meet
      exact ⟨va, x1, vc, HD.out hl3 cr fr c3 hch (by omega)⟩
    · go_wp2_with fail
      go_meet
      exact ⟨ua, x, uc, ⟨hpr, hr3, hl3⟩, s5.mono (by omega), cr, fr, c3, t5.mono (Nat.le_of_lt hl3), HG.out, hch⟩
  case rest =>
    clear cr fr c3 f3 hch hlt hl3 hr3 s5 t5 HG
    obtain ⟨ua, x, uc, D⟩ := hcut
    have c30 := D.c3
    have cr0 := D.cr
    go_wp2_with fail
    clear c30 cr0
    refine (one_any p 3 2 _ D.src (by omega) (by omega)).mono ?_
    rintro e w20 ⟨b, rfl, s20, hc⟩
    have ⟨l1, l2, l3⟩ := D.lt
    have c3 := (cell_keep (chg_heap hc l3 (by omega))).trans D.c3
    have cr := (cell_keep (chg_heap hc (show r < wc.heap.size by omega) (by omega))).trans D.cr
    have fr := (frozen_keep (chg_heap hc (show r < wc.heap.size by omega) (by omega))).trans D.fr
    have t := RT.chgP D.t hc (by omega) (Nat.le_refl _)
    have HG := Lib.hid D.g
    have hch := D.ch.trans hc
    have hz := hc.size
    clear D hc
    subst hr
    cases b
    · have GP := (sqB_iff.1 (Gp.of HG.out).sq).1
      go_wp2_with fail
      refine (drawOrder_any p 4 x.length _ s20 (by omega) (by omega)).mono ?_
      rintro e w21 ⟨vf, f, rfl, oF, hpf, s21, hc⟩
      replace c3 := (cell_keep (chg_heap hc (by omega) (by omega))).trans c3
      replace cr := (cell_keep (chg_heap hc (show w.heap.size < w20.heap.size by omega) (by omega))).trans cr
      replace fr := (frozen_keep (chg_heap hc (show w.heap.size < w20.heap.size by omega) (by omega))).trans fr
      replace t := RT.chgP t hc (by omega) hz
      replace hch := hch.trans hc
      have hz2 := hc.size
      have hfl := Lib.hid (perm_len hpf)
      have HF := Lib.hid hpf
      clear hc s20 s21 hpf
      obtain ⟨fa, fc, rfl⟩ := oF.slice
      go_wp2_with fail
      refine (l01Inverse_any _ f _ oF.read (by rw [hfl.out]; exact HF.out) (by have := hfl.out; omega)).mono ?_
      rintro e w22 ⟨vg, g, rfl, oG, hu, hb1⟩
      replace c3 := (hb1.cell (p := ⟨w3.heap.size, 0, none⟩) (by show w3.heap.size < _; omega)).trans c3
      replace cr := (hb1.cell (p := ⟨w.heap.size, 0, none⟩) (by show w.heap.size < _; omega)).trans cr
      replace fr := (hb1.frozen (p := ⟨w.heap.size, 0, none⟩) (by show w.heap.size < _; omega)).trans fr
      replace t := t.later hb1 (by omega)
      replace oF := oF.later hb1
      replace hch := hch.trans ((Below.chg hb1).mono (by simp))
      have hz3 := hb1.size
      have hgl : Hid (g.length = x.length) := hu.1.trans hfl.out
      have HGR := Lib.hid (reT_grp HG.out HF.out hu)
      have HBD : Hid (∀ i, i < x.length → ∃ z : Nat, g.getD i 0 = (z : Int) ∧ z < x.length) := fun i hi => hu.bd HF.out hi
      have hn10 : Hid (x.length ≤ 10) := (Gp.of HG.out).n.2
      clear hb1 hu
      obtain ⟨ga, gc, rfl⟩ := oG.slice
      have hsq : sqB x = true := (Gp.of HG.out).sq
      obtain ⟨G, O, C, H, F, P, hv, hsqa⟩ := t.read.sq hsq
      simp only [Value.slice.injEq, true_and] at hv
      obtain ⟨rfl, rfl⟩ := hv
      have HR : Hid (∀ wr, Below w22.heap.size w22 wr → wr.cell? ⟨w3.heap.size, 0, none⟩ = some (.slice (some ⟨G, O, none⟩) x.length uc) ∧ SqAt G O H F P x wr ∧ RI wr (.slice fa f.length fc) f ∧ RI wr (.slice ga g.length gc) g) := fun wr h =>
        ⟨(h.cell (p := ⟨w3.heap.size, 0, none⟩) (by show w3.heap.size < _; omega)).trans c3, hsqa.later h, oF.read.later h, oG.read.later h⟩
      have M0 := MkB.start x.length (reF x f g) w22
      have hrz : w.heap.size < w22.heap.size := by omega
      clear t oF oG hsqa
      go_wp2_with fail
      generalize w22.alloc (.cells #[.slice none 0 0] 29) = w23 at *
      go_loopw [14] (fun iv wr => ∃ (i S : Nat) (tv : Value), i ≤ x.length ∧ iv = .int .i64 i ∧ MkB w22.heap.size x.length (reF x f g) i S tv w22 wr) (fun iv _ => x.length - (intOf iv).toNat)
      case atStart => exact ⟨0, _, _, Nat.zero_le _, rfl, M0⟩
      case round =>
        obtain ⟨i, S, tv, hi, rfl, M⟩ := hrel
        clear M0
        by_cases hil : i < x.length
        · go_wp2_with fail
          have hb1 : Below wr.heap.size wr (wr.alloc (.cells #[] 2)) := (Below.refl _ _).alloc (Nat.le_refl _) _
          have ho0 : OI wr.heap.size (wr.alloc (.cells #[] 2)) (.slice (some ⟨wr.heap.size, 0, none⟩) 0 0) ((rowAt (mkT x.length (reF x f g)) i).take 0) := OK.made _ _ _ (Nat.le_refl _)
          have hR : S ≤ wr.heap.size := M.sz.2
          have M1 := M.later hb1
          have hR2 : wr.heap.size ≤ (wr.alloc (.cells #[] 2)).heap.size := by simp
          generalize wr.alloc (.cells #[] 2) = wa at *
          generalize Value.slice (some ⟨wr.heap.size, 0, none⟩) 0 0 = v0 at *
          generalize wr.heap.size = R at *
          clear M hb1
          go_loopw [15, 16] (fun rv jv wr => ∃ j : Nat, j ≤ x.length ∧ jv = .int .i64 j ∧ R ≤ wr.heap.size ∧ OI R wr rv ((rowAt (mkT x.length (reF x f g)) i).take j) ∧ MkB w22.heap.size x.length (reF x f g) i S tv w22 wr) (fun _ jv _ => x.length - (intOf jv).toNat)
          case atStart => exact ⟨0, Nat.zero_le _, rfl, hR2, ho0, M1⟩
          case round =>
            obtain ⟨j, hj, rfl, hRz, ho, M⟩ := hrel
            clear ho0 M1 hR2
            by_cases hjl : j < x.length
            · have HT := Lib.hid (take_row (f := reF x f g) hil hjl)
              have hl : ((rowAt (mkT x.length (reF x f g)) i).take j).length ≤ 1099511627776 := by have := List.length_take_le j (rowAt (mkT x.length (reF x f g)) i); have := hn10.out; omega
              obtain ⟨ia, hia, hia2⟩ := HBD.out i hil
              obtain ⟨ja, hja, hja2⟩ := HBD.out j hjl
              obtain ⟨ta, hta⟩ := Int.eq_ofNat_of_zero_le (tb_bd hsq ia ja hia2 hja2).1
              have hta2 : ta < x.length := by have := (tb_bd hsq ia ja hia2 hja2).2; omega
              have HF : Hid (f.getD ta 0 = reF x f g i j) := by unfold Hid reF; rw [hia, hja]; simp [hta]
              have HS : Hid (∀ w', Below R wr w' → ∃ ub uo fb fo, ga = some ⟨ub, uo, none⟩ ∧ fa = some ⟨fb, fo, none⟩ ∧ w'.cell? ⟨ub, uo + i, none⟩ = some (.int .i64 ia) ∧ w'.cell? ⟨ub, uo + j, none⟩ = some (.int .i64 ja) ∧ w'.cell? ⟨w3.heap.size, 0, none⟩ = some (.slice (some ⟨G, O, none⟩) x.length uc) ∧ w'.cell? ⟨G, O + ia, none⟩ = some (.slice (some ⟨H ia, F ia, none⟩) x.length (P ia)) ∧ w'.cell? ⟨H ia, F ia + ja, none⟩ = some (.int .i64 ta) ∧ w'.cell? ⟨fb, fo + ta, none⟩ = some (.int .i64 (f.getD ta 0))) := fun w' hB => by
                obtain ⟨c0, q, qf, qg⟩ := HR.out w' (M.b.trans (hB.mono (by have := M.sz; omega)))
                have hfl1 := hfl.out
                have hgl1 := hgl.out
                obtain ⟨ub, uo, e1, _, h1⟩ := qg.at i (by omega)
                obtain ⟨ub2, uo2, e2, _, h2⟩ := qg.at j (by omega)
                obtain ⟨fb, fo, e3, _, h3⟩ := qf.at ta (by omega)
                rw [e1] at e2
                simp only [Option.some.injEq, Addr.mk.injEq, and_true] at e2
                obtain ⟨rfl, rfl⟩ := e2
                have h4 := q.cell ia ja hia2 hja2
                rw [hia] at h1
                rw [hja] at h2
                rw [hta] at h4
                exact ⟨ub, uo, fb, fo, e1, e3, h1, h2, c0, q.row ia hia2, h4, h3⟩
              obtain ⟨ub, uo, fb, fo, rfl, rfl, s1, s2, s3, s4, s5, s6⟩ := HS.out wr (Below.refl _ _)
              have HS2 : Hid (∀ w', Below R wr w' → w'.cell? ⟨ub, uo + i, none⟩ = some (.int .i64 ia) ∧ w'.cell? ⟨ub, uo + j, none⟩ = some (.int .i64 ja) ∧ w'.cell? ⟨w3.heap.size, 0, none⟩ = some (.slice (some ⟨G, O, none⟩) x.length uc) ∧ w'.cell? ⟨G, O + ia, none⟩ = some (.slice (some ⟨H ia, F ia, none⟩) x.length (P ia)) ∧ w'.cell? ⟨H ia, F ia + ja, none⟩ = some (.int .i64 ta) ∧ w'.cell? ⟨fb, fo + ta, none⟩ = some (.int .i64 (f.getD ta 0))) := fun w' hB => by
                obtain ⟨_, _, _, _, e1, e2, h⟩ := HS.out w' hB
                simp only [Option.some.injEq, Addr.mk.injEq, and_true] at e1 e2
                obtain ⟨rfl, rfl⟩ := e1
                obtain ⟨rfl, rfl⟩ := e2
                exact h
              clear HS
              generalize f.getD ta 0 = z at *
              generalize reF x f g i j = zz at *
              clear hia hja hta
              have i1 : (i : Int) < (g.length : Int) := by have := hgl.out; omega
              have i2 : (j : Int) < (g.length : Int) := by have := hgl.out; omega
              have i3 : (ta : Int) < (f.length : Int) := by have := hfl.out; omega
              have i4 : (ia : Int) < (x.length : Int) := by omega
              have i5 : (ja : Int) < (x.length : Int) := by omega
              go_wp2_with fail
              go_region_held3 (fun w' => w'.cell? ⟨ub, uo + i, none⟩ = some (.int .i64 ia) ∧ w'.cell? ⟨ub, uo + j, none⟩ = some (.int .i64 ja) ∧ w'.cell? ⟨w3.heap.size, 0, none⟩ = some (.slice (some ⟨G, O, none⟩) x.length uc) ∧ w'.cell? ⟨G, O + ia, none⟩ = some (.slice (some ⟨H ia, F ia, none⟩) x.length (P ia)) ∧ w'.cell? ⟨H ia, F ia + ja, none⟩ = some (.int .i64 ta) ∧ w'.cell? ⟨fb, fo + ta, none⟩ = some (.int .i64 z)) (first | go_keep | exact ⟨s1, s2, s3, s4, s5, s6⟩)
                ((refine step_app_i64 (by rfl) _ _ (by rfl) R _ _ (by rfl) ((ho.alloc _).drew) ⟨wr.heap.size, 0, none⟩ 1 z (by rfl) (World.cell?_alloc_at _ _ _ _ rfl) hl (by simp; omega) ?_; intro v' w5 ho5 hgr; have hbn : Below R wr w5 := own_below (((Below.refl R wr).alloc hRz _).drew) ((ho.alloc _).drew) hgr (by simp; omega); obtain ⟨s1, s2, s3, s4, s5, s6⟩ := HS2.out w5 hbn))
              go_wp2_with fail
              rw [HF.out] at ho5
              go_roundw
              case rel => exact ⟨j + 1, by omega, by go_num, Nat.le_trans hRz hbn.size, by rw [HT.out]; exact ho5, M.below hR hRz hbn⟩
              case measure => first | (simp [intOf]; done) | (simp [intOf]; omega)
            · obtain rfl : j = x.length := by omega
              have hrl0 : (rowAt (mkT x.length (reF x f g)) i).length = x.length := mkT_rowlen _ _ _ hil
              rw [List.take_of_length_le (Nat.le_of_eq hrl0)] at ho
              obtain ⟨ra, rc, hre⟩ := ho.slice
              rw [hrl0] at hre
              subst hre
              obtain ⟨rs, h1, h2, h3⟩ := M.t
              have hc1 := M.c1
              have hf1 := M.f1
              have hsz := M.sz
              have hrl : rs.length ≤ 1099511627776 := by
                have := h3.1
                rw [List.length_take, mkT_len] at this
                omega
              obtain ⟨ta, tc, rfl⟩ := h1.slice
              have HNX : Hid (∀ tv' w5, OV 26 (w22.heap.size + 1) w5 tv' (rs ++ [.slice ra x.length rc]) → (wr.alloc (.cells #[.slice ra x.length rc] 26)).grownBy w5 (Value.slice ta rs.length tc).ownBlock →
                  w5.cell? ⟨w22.heap.size, 0, none⟩ = some (.slice ta rs.length tc) ∧ w5.frozen? ⟨w22.heap.size, 0, none⟩ = false ∧ MkB w22.heap.size x.length (reF x f g) (i + 1) w5.heap.size tv' w22 (w5.setCell ⟨w22.heap.size, 0, none⟩ tv')) := fun tv' w5 hv hg => by
                have hB : Below (w22.heap.size + 1) wr w5 := own_below ((Below.refl (w22.heap.size + 1) wr).alloc (by omega) _) (h1.alloc _) hg (by simp; omega)
                exact ⟨(hB.cell (p := ⟨w22.heap.size, 0, none⟩) (by show w22.heap.size < _; omega)).trans hc1, (hB.frozen (p := ⟨w22.heap.size, 0, none⟩) (by show w22.heap.size < _; omega)).trans hf1,
                  M.next hil h1 h3 (ho.mono hR) hv hg⟩
              clear M h2 h3 hrl0
              go_wp2_with (at_builtin; refine wpl_app Try.underlying22 info_row rfl (by omega) rfl _ _ rfl (w22.heap.size + 1) _ rs rfl (h1.alloc _) _ _ _ rfl (World.cell?_alloc_at _ _ _ _ rfl) rfl hrl (by simp; omega) ?_; intro tv' w5 hv hg; obtain ⟨hc5, hf5, M5⟩ := HNX.out tv' w5 hv hg; obtain ⟨tb, td, hte⟩ := hv.slice; simp only [List.length_append, List.length_cons, List.length_nil, Nat.zero_add] at hte; subst hte)
              go_roundw
              case rel => exact ⟨i + 1, _, _, by omega, by go_num, M5⟩
              case measure => first | (simp [intOf]; done) | (simp [intOf]; omega)
        · obtain rfl : i = x.length := by omega
          have ht := M.t
          rw [List.take_of_length_le (by rw [mkT_len]; exact Nat.le_refl _)] at ht
          obtain ⟨ta, tc, hte⟩ := ht.slice
          rw [mkT_len] at hte
          subst hte
          have hc0 := (M.b.cell (p := ⟨w.heap.size, 0, none⟩) hrz).trans cr
          have hf0 := (M.b.frozen (p := ⟨w.heap.size, 0, none⟩) hrz).trans fr
          have hc1 := M.c1
          have hf1 := M.f1
          have hsz := M.sz
          have hbz := M.b.size
          have hzz : w.heap.size < wr.heap.size := by omega
          have hchr := hch.trans ((Below.chg M.b).mono (by simp))
          have HE : Hid (OT w.heap.size (wr.setCell ⟨w.heap.size, 0, none⟩ (.slice ta x.length tc)).heap.size (wr.setCell ⟨w.heap.size, 0, none⟩ (.slice ta x.length tc)) (.slice ta x.length tc) (mkT x.length (reF x f g)) ∧ grpB (mkT x.length (reF x f g)) = true ∧ Chg [p] w (wr.setCell ⟨w.heap.size, 0, none⟩ (.slice ta x.length tc))) := by
            refine ⟨((ht.keep fun k h1 h2 => heap_setCell_other _ _ _ _ (by show k ≠ w.heap.size; omega)).monoB (by omega)).mono (by simp; omega), HGR.out, hchr.os, hchr.tape, hchr.output, by have := hchr.size; simpa using this, fun k hk hn => ?_⟩
            rw [heap_setCell_other _ _ _ _ (by show k ≠ w.heap.size; omega)]
            exact hchr.block k hk hn
          clear ht M hchr hch
          go_wp2_with fail
          exact bodyPost_ret (v := .agg #[.slice ta x.length tc]) (by simp [results, Try.results58, go_sem, hc0, hzz]) rfl ⟨_, _, rfl, HE.out⟩
    · have hzr : w.heap.size < w20.heap.size := by omega
      have HE : Hid (OT w.heap.size (w20.setCell ⟨w.heap.size, 0, none⟩ (.slice ua x.length uc)).heap.size (w20.setCell ⟨w.heap.size, 0, none⟩ (.slice ua x.length uc)) (.slice ua x.length uc) x ∧ grpB x = true ∧ Chg [p] w (w20.setCell ⟨w.heap.size, 0, none⟩ (.slice ua x.length uc))) := by
        refine ⟨((t.keep fun k h1 h2 => heap_setCell_other _ _ _ _ (by show k ≠ w.heap.size; omega)).monoB (by omega)).mono (by simp; omega), HG.out, hch.os, hch.tape, hch.output, by have := hch.size; simpa using this, fun k hk hn => ?_⟩
        rw [heap_setCell_other _ _ _ _ (by show k ≠ w.heap.size; omega)]
        exact hch.block k hk hn
      clear t hch HG
      go_wp2_with fail
      exact bodyPost_ret (v := .agg #[.slice ua x.length uc]) (by simp [results, Try.results58, go_sem, cr, hzr]) rfl ⟨_, x, rfl, HE.out⟩
end Go.Proofs.Ytghmpaegmicheaa
