/- FnRenamed: r8Inverse, r8Same, r8Tables, R8Table, R8Order; renamed and named back. -/
import Derived.Test.YthcnhkjiojeemaaDoorRnI
import Derived.Test.YthcnhkjiojeemaaDoorDrS3
import Derived.Test.YthcnhkjiojeemaaDoorDrawQ
namespace Go.Proofs.YthcnhkjiojeemaaDoor
open Go.RowKit

theorem getD_mapR (n : Nat) (f : Nat → Int) (i : Nat) (h : i < n) : ((List.range n).map f).getD i 0 = f i := by simp [h]
/-- The order that undoes another. -/
structure Inv (n : Nat) (xs ys : List Int) : Prop where
  perm : ys.Perm (upN n)
  inv : ∀ i, i < n → ys.getD (xs.getD i 0).toNat 0 = (i : Int)
/-- A list that undoes a permutation is one. -/
theorem inv_perm {xs ys : List Int} {n : Nat} (h : xs.Perm (upN n)) (hl : ys.length = n) (hi : ∀ i, i < n → ys.getD (xs.getD i 0).toNat 0 = (i : Int)) : ys.Perm (upN n) := by
  have hb : ∀ k, k < n → ∃ i, i < n ∧ ys.getD k 0 = (i : Int) ∧ xs.getD i 0 = (k : Int) := fun k hk => by
    obtain ⟨i, h1, h2⟩ := perm_sur h (z := k) (by omega)
    have := hi i h1
    rw [h2] at this
    exact ⟨i, h1, by simpa using this, h2⟩
  have hnd : ys.Nodup := by
    rw [List.nodup_iff_pairwise_ne, List.pairwise_iff_getElem]
    intro a b ha hb' hlt e
    obtain ⟨i, hi1, e1, f1⟩ := hb a (by omega)
    obtain ⟨j, hj1, e2, f2⟩ := hb b (by omega)
    rw [getD_eq ha] at e1
    rw [getD_eq hb'] at e2
    have : i = j := by omega
    subst this
    omega
  have hsub : ∀ z ∈ ys, z ∈ upN n := fun z hz => by
    obtain ⟨k, hk, rfl⟩ := List.mem_iff_getElem.1 hz
    obtain ⟨i, hi1, e1, _⟩ := hb k (by omega)
    rw [getD_eq hk] at e1
    rw [e1]
    exact mem_upN.2 (by omega)
  have hsup : ∀ z ∈ upN n, z ∈ ys := fun z hz => by
    have hz' := mem_upN.1 hz
    obtain ⟨i, rfl⟩ := Int.eq_ofNat_of_zero_le hz'.1
    have hin : i < n := by omega
    have hx := perm_bd h hin
    rw [← hi i hin]
    have hk : (xs.getD i 0).toNat < ys.length := by omega
    rw [getD_eq hk]
    exact List.getElem_mem hk
  rw [List.perm_iff_count]
  intro a
  rw [List.Nodup.count hnd, List.Nodup.count (upN_nodup n)]
  by_cases ha : a ∈ ys
  · rw [if_pos ha, if_pos (hsub a ha)]
  · rw [if_neg ha, if_neg (fun h => ha (hsup a h))]
set_option maxHeartbeats 2000000 in
theorem r8Inverse_any (n : Nat) (hn : n ≤ 36) (v : Value) (xs : List Int) (w : World) (hx : RI w v xs) (hp : xs.Perm (upN n)) :
    Calls Tryd.prog 14 #[v] w fun e w' => ∃ v' ys, e = .returned v' ∧ OI w.heap.size w' v' ys ∧ Inv n xs ys ∧ Below w.heap.size w w' := by
  obtain ⟨a, c, rfl⟩ := hx.slice
  have hl := perm_len hp
  have HX : Hid (∀ wx i, Below w.heap.size w wx → i < n → ∃ g o z, a = some ⟨g, o, none⟩ ∧ xs.getD i 0 = ((z : Nat) : Int) ∧ z < n ∧ wx.cell? ⟨g, o + i, none⟩ = some (.int .i64 (z : Nat))) := fun wx i hb hi => by
    obtain ⟨g, o, e, _, h⟩ := (hx.later hb).at i (by omega)
    have := perm_bd hp hi
    obtain ⟨z, hz⟩ := Int.eq_ofNat_of_zero_le this.1
    exact ⟨g, o, z, e, hz, by omega, by rw [h, hz]⟩
  have HP := Lib.hid hp
  rw [hl]
  clear hx hp hl
  go_enter Tryd.func14, Tryd.ntmps14
  go_wp2_with (at_make; refine wpl_make_i64 rfl _ _ rfl w.heap.size .i64 .i64 _ _ n rfl rfl rfl rfl (by omega) (Nat.le_refl _) ?_; intro w1 hown hgr hlt)
  have hb1 : Below w.heap.size w w1 := (Below.refl _ _).grown hgr (Nat.le_refl _) (by simp)
  clear hgr hlt
  go_loopw [4] (fun iv wr => ∃ (i : Nat) (L : List Int), i ≤ n ∧ iv = .int .i64 i ∧ Hid (L.length = n) ∧ OI w.heap.size wr (.slice (some ⟨w.heap.size, 0, none⟩) n n) L ∧ Hid (∀ b, b < i → L.getD (xs.getD b 0).toNat 0 = (b : Int)) ∧ Below w.heap.size w wr) (fun iv _ => n - (intOf iv).toNat)
  case atStart => exact ⟨0, List.replicate n 0, Nat.zero_le _, rfl, Lib.hid (by simp), by simpa using hown, Lib.hid (fun b hb => by omega), hb1⟩
  case round =>
    obtain ⟨i, L, hi, rfl, HL, ho, HI, hb⟩ := hrel
    clear hb1 hown
    by_cases hin : i < n
    · have hini : (i : Int) < (n : Int) := by omega
      obtain ⟨g, o, z, e1, hz, hzn, c1⟩ := HX.out _ i hb hin
      have hzL : z < L.length := by rw [HL.out]; exact hzn
      have hzi : (z : Int) < (n : Int) := by omega
      have c2 := ho.cell z hzL
      have f2 := ho.frozen z
      have hst := Lib.hid (ho.stored z (i : Int)).1
      have hb' : Below w.heap.size w (wr.setCell ⟨w.heap.size, z, none⟩ (.int .i64 i)) := hb.setCell (p := ⟨w.heap.size, z, none⟩) (Nat.le_refl _) _
      have HL2 : Hid ((L.set z (i : Int)).length = n) := by unfold Hid; rw [List.length_set]; exact HL.out
      have HI2 : Hid (∀ b, b < i + 1 → (L.set z (i : Int)).getD (xs.getD b 0).toNat 0 = (b : Int)) := fun b hb => by
        by_cases e : b = i
        · subst e
          rw [hz]
          simp [hzL]
        · have h1 := HI.out b (by omega)
          have hb1 := perm_bd HP.out (i := b) (by omega)
          have hne : z ≠ (xs.getD b 0).toNat := fun e2 => e (perm_inj HP.out (by omega) hin (by omega))
          rw [List.getD_eq_getElem?_getD, List.getElem?_set, if_neg hne, ← List.getD_eq_getElem?_getD]
          exact h1
      subst e1
      clear hz ho
      go_wp2_with fail
      go_roundw
      case rel => exact ⟨i + 1, _, by omega, by go_num, HL2, hst.out, HI2, hb'⟩
      case measure => first | (simp [intOf]; done) | (simp [intOf]; omega)
    · obtain rfl : i = n := by omega
      have HF : Hid (Inv i xs L) := ⟨inv_perm HP.out HL.out HI.out, HI.out⟩
      go_wp2_with fail
      go_ret
      exact ⟨_, L, rfl, ho, HF.out, hb⟩
theorem ren_back {n : Nat} {t u v : Nat → Nat → Int} {rs cs vs ri ci vi : List Int} (hr : rs.Perm (upN n)) (hc : cs.Perm (upN n)) (hv : vs.Perm (upN n)) (ir : Inv n rs ri) (ic : Inv n cs ci) (iv : Inv n vs vi) (q : Qg n t) (h1 : Ren n t u rs cs vs) (h2 : Ren n u v ri ci vi) (i j : Nat) (hi : i < n) (hj : j < n) : v i j = t i j := by
  have br := perm_bd hr hi
  have bc := perm_bd hc hj
  have e1 := ir.inv i hi
  have e2 := ic.inv j hj
  have e3 := h2 (rs.getD i 0).toNat (cs.getD j 0).toNat (by omega) (by omega)
  rw [e1, e2] at e3
  have e4 := h1 i j hi hj
  rw [e4] at e3
  have bt := q.bd i j hi hj
  have e5 := iv.inv (t i j).toNat (by omega)
  rw [e5] at e3
  simp only [Int.toNat_natCast] at e3
  omega
theorem mkT_congr {n : Nat} {t v : Nat → Nat → Int} (h : ∀ i j, i < n → j < n → v i j = t i j) : mkT n v = mkT n t := mkT_ext h
def RoPost (n : Nat) (w : World) (e : Ending) (w' : World) : Prop := ∃ v xs, e = .returned v ∧ OI w.heap.size w' v xs ∧ xs.Perm (upN n) ∧ Below w.heap.size w w'
set_option maxHeartbeats 1000000 in
theorem r8Order_any (v : Value) (cs : List Int) (n : Nat) (w : World) (hx : RK .u8 w v cs) (hw : ∀ x ∈ cs, (Lit.int .u8 x).wf = true) (hm : cs.length ≤ 1048576) (hn : 1 ≤ n ∧ n ≤ 36) :
    Calls Tryd.prog 12 #[v, .int .i64 n] w (RoPost n w) := by
  go_enter Tryd.func12, Tryd.ntmps12
  go_wp2_with fail
  refine (from_any v cs w hx hw hm).mono ?_
  rintro e w1 ⟨rfl, hs, hb⟩
  go_wp2_with fail
  refine (drawOrderQ_any _ 0 n w1 hs (by omega) (by omega)).mono ?_
  rintro e w2 ⟨ov, xs, rfl, ho, hp, hs2, hc⟩
  have hl := hs.lt
  have hb2 : Below w.heap.size w w2 := hb.trans ⟨hc.os, hc.tape, hc.output, hc.size, fun k hk => hc.block k (by have := hb.size; omega) (by simp; omega)⟩
  have ho2 := OK.mono ho hb.size
  obtain ⟨oa, oc, rfl⟩ := ho.slice
  go_wp2_with fail
  go_ret
  exact ⟨_, xs, rfl, ho2, hp, hb2⟩
def RtbPost (w : World) (e : Ending) (w' : World) : Prop := ∃ n v t, e = .returned v ∧ (1 ≤ n ∧ n ≤ 7) ∧ RT w' v (mkT n t) ∧ Qg n t ∧ Below w.heap.size w w'
set_option maxHeartbeats 1000000 in
theorem r8Table_any (v : Value) (cs : List Int) (w : World) (hx : RK .u8 w v cs) (hw : ∀ x ∈ cs, (Lit.int .u8 x).wf = true) (hm : cs.length ≤ 1048576) :
    Calls Tryd.prog 11 #[v] w (RtbPost w) := by
  go_enter Tryd.func11, Tryd.ntmps11
  go_wp2_with fail
  refine (from_any v cs w hx hw hm).mono ?_
  rintro e w1 ⟨rfl, hs, hb⟩
  go_wp2_with fail
  refine (pick_any _ 0 7 w1 hs (by omega) (by omega)).mono ?_
  rintro e w2 ⟨z, rfl, hz, hs2, hc⟩
  obtain ⟨n, hn⟩ : ∃ n : Nat, (n : Int) = 1 + z := ⟨(1 + z).toNat, by omega⟩
  have hn7 : 1 ≤ n ∧ n ≤ 7 := by omega
  have hw1 : IntKind.i64.wrap (1 + z) = (n : Int) := by rw [← hn]; exact IntWalk.i64_in _ (by omega)
  have hl := hs.lt
  have hb2 : Below w.heap.size w w2 := hb.trans ⟨hc.os, hc.tape, hc.output, hc.size, fun k hk => hc.block k (by have := hb.size; omega) (by simp; omega)⟩
  clear hn hz
  go_wp2_with fail
  refine (drawSized_any _ _ n w2 hs2 (by omega) (by omega)).mono ?_
  rintro e w3 ⟨tv, t, rfl, ht, hq, hs3, hc3⟩
  have hb3 : Below w.heap.size w w3 := hb2.trans ⟨hc3.os, hc3.tape, hc3.output, hc3.size, fun k hk => hc3.block k (by have := hb2.size; omega) (by simp; omega)⟩
  obtain ⟨ta, tc, rfl⟩ := ht.slice
  go_wp2_with fail
  go_ret
  exact ⟨n, _, t, rfl, hn7, ht, hq, hb3⟩
end Go.Proofs.YthcnhkjiojeemaaDoor
