/- DihedralChain: its maps, on both sides. -/
import Derived.Test.YtghmpaegmicheaaGc3
import Derived.Test.YtghmpaegmicheaaDih
import Derived.Test.YtghmpaegmicheaaGrpD
import Derived.RegionTactic
import Derived.ChangeAlike
import Derived.BigRegion
namespace Go.Proofs.Ytghmpaegmicheaa
open Go.RowKit

def cmpL (f g : List Int) : List Int := g.map fun k => f.getD k.toNat 0
theorem cmpL_len (f g : List Int) : (cmpL f g).length = g.length := by simp [cmpL]
theorem cmpL_take {f g : List Int} {k : Nat} (h : k < g.length) : (cmpL f g).take (k + 1) = (cmpL f g).take k ++ [f.getD (g.getD k 0).toNat 0] := by
  unfold cmpL
  rw [← List.map_take, ← List.map_take, take_snocI g k h, List.map_append]; rfl
def dF : List Int := [1, 5, 7, 6, 2, 8, 3, 0, 9, 4]
def mp : Nat → List Int
  | 0 => idx 10
  | k + 1 => cmpL (mp k) dF
theorem mp_len : ∀ k, (mp k).length = 10
  | 0 => rfl
  | k + 1 => by rw [mp, cmpL_len]; rfl
def mps (p : Nat) : List (List Int) := ((List.range p).map mp).reverse
theorem dF_bd : ∀ i, i < 10 → 0 ≤ dF.getD i 0 ∧ dF.getD i 0 < 10 := by decide
theorem mp_ok15 : ∀ k : Fin 15, mOk 10 (mp k.val) = true := by decide +kernel
set_option maxHeartbeats 1000000 in
theorem sameOrder_any (n : Nat) (w : World) (hn : n ≤ 1000) :
    Calls Try.prog 92 #[.int .i64 n] w fun e w' => ∃ v', e = .returned v' ∧ OI w.heap.size w' v' (idx n) ∧ Below w.heap.size w w' := by
  go_enter Try.func92, Try.ntmps92
  go_wp2_with fail
  have hb : Below w.heap.size w (w.alloc (.cells #[] 2)) := (Below.refl _ _).alloc (Nat.le_refl _) _
  have ho : OI w.heap.size (w.alloc (.cells #[] 2)) (.slice (some ⟨w.heap.size, 0, none⟩) 0 0) (idx 0) := OK.made _ _ _ (Nat.le_refl _)
  generalize w.alloc (.cells #[] 2) = w1 at *
  generalize Value.slice (some ⟨w.heap.size, 0, none⟩) 0 0 = v0 at *
  go_loopw [3, 7] (fun ov iv wr => ∃ k : Nat, k ≤ n ∧ iv = .int .i64 k ∧ OI w.heap.size wr ov (idx k) ∧ Below w.heap.size w wr) (fun _ iv _ => n - (intOf iv).toNat)
  case atStart => exact ⟨0, Nat.zero_le _, rfl, ho, hb⟩
  case round =>
    clear ho hb
    obtain ⟨k, hk, rfl, ho, hb⟩ := hrel
    have hz := hb.size
    by_cases hlt : k < n
    · have hl : (idx k).length ≤ 1099511627776 := by rw [idx_len]; omega
      go_wp2_with (at_builtin; refine wpl_app_i64 rfl _ _ rfl w.heap.size _ _ rfl (ho.alloc _) _ _ _ rfl (World.cell?_alloc_at _ _ _ _ rfl) hl (by simp; omega) ?_; intro v' w2 ho2 hgr)
      have hb2 := own_below (hb.alloc hz _) (ho.alloc _) hgr (by simp; omega)
      rw [← idx_succ] at ho2
      go_roundw
      case rel => exact ⟨k + 1, by omega, by go_num, ho2, hb2⟩
      case measure => first | (simp [intOf]; done) | (simp [intOf]; omega)
    · obtain rfl : k = n := by omega
      go_wp2_with fail
      go_ret
      exact ⟨_, rfl, ho, hb⟩
set_option maxHeartbeats 2000000 in
theorem compose_any (fv gv : Value) (f g : List Int) (w : World) (hf : RI w fv f) (hg : RI w gv g) (hb0 : ∀ i, i < g.length → 0 ≤ g.getD i 0 ∧ g.getD i 0 < f.length) (hm : g.length ≤ 1000) :
    Calls Try.prog 93 #[fv, gv] w fun e w' => ∃ v', e = .returned v' ∧ OI w.heap.size w' v' (cmpL f g) ∧ Below w.heap.size w w' := by
  obtain ⟨fa, fc, rfl⟩ := hf.slice
  obtain ⟨ga, gc, rfl⟩ := hg.slice
  have HB := Lib.hid hb0
  clear hb0
  go_enter Try.func93, Try.ntmps93
  go_wp2_with fail
  have hb : Below w.heap.size w (w.alloc (.cells #[] 2)) := (Below.refl _ _).alloc (Nat.le_refl _) _
  have ho : OI w.heap.size (w.alloc (.cells #[] 2)) (.slice (some ⟨w.heap.size, 0, none⟩) 0 0) ((cmpL f g).take 0) := OK.made _ _ _ (Nat.le_refl _)
  generalize w.alloc (.cells #[] 2) = w1 at *
  generalize Value.slice (some ⟨w.heap.size, 0, none⟩) 0 0 = v0 at *
  go_loopw [5, 11] (fun ov iv wr => ∃ k : Nat, k ≤ g.length ∧ iv = .int .i64 k ∧ OI w.heap.size wr ov ((cmpL f g).take k) ∧ Below w.heap.size w wr) (fun _ iv _ => g.length - (intOf iv).toNat)
  case atStart => exact ⟨0, Nat.zero_le _, rfl, ho, hb⟩
  case round =>
    clear ho hb
    obtain ⟨k, hk, rfl, ho, hb⟩ := hrel
    have hz := hb.size
    by_cases hlt : k < g.length
    · obtain ⟨h1, h2⟩ := HB.out k hlt
      obtain ⟨gg, go, rfl, hgl, hgc⟩ := (hg.later hb).at k hlt
      obtain ⟨q, hq⟩ := Int.eq_ofNat_of_zero_le h1
      rw [hq] at h2 hgc
      have hql : q < f.length := by omega
      obtain ⟨fg, fo, rfl, hfl, hfc⟩ := (hf.later hb).at q hql
      have HT : Hid ((cmpL f g).take (k + 1) = (cmpL f g).take k ++ [f.getD q 0]) := by
        have := cmpL_take (f := f) hlt
        rw [hq, Int.toNat_natCast] at this; exact this
      have hl : ((cmpL f g).take k).length ≤ 1099511627776 := by rw [List.length_take, cmpL_len]; omega
      have k1 : (q : Int) < (f.length : Int) := h2
      have k0 : (0 : Int) ≤ (q : Int) := by omega
      clear hq h1
      generalize f.getD q 0 = z at *
      go_wp2_with (at_builtin; refine wpl_app_i64 rfl _ _ rfl w.heap.size _ _ rfl (ho.alloc _) _ _ _ rfl (World.cell?_alloc_at _ _ _ _ rfl) hl (by simp; omega) ?_; intro v' w2 ho2 hgr)
      have hb2 := own_below (hb.alloc hz _) (ho.alloc _) hgr (by simp; omega)
      rw [← HT.out] at ho2
      go_roundw
      case rel => exact ⟨k + 1, by omega, by go_num, ho2, hb2⟩
      case measure => first | (simp [intOf]; done) | (simp [intOf]; omega)
    · obtain rfl : k = g.length := by omega
      rw [List.take_of_length_le (by rw [cmpL_len]; omega)] at ho
      go_wp2_with fail
      go_ret
      exact ⟨_, rfl, ho, hb⟩
set_option maxHeartbeats 2000000 in
theorem l01Compose_any (fv gv : Value) (f g : List Int) (w : World) (hf : RI w fv f) (hg : RI w gv g) (hb0 : ∀ i, i < g.length → 0 ≤ g.getD i 0 ∧ g.getD i 0 < f.length) (hm : g.length ≤ 1000) :
    Calls Try.prog 121 #[fv, gv] w fun e w' => ∃ v', e = .returned v' ∧ OI w.heap.size w' v' (cmpL f g) ∧ Below w.heap.size w w' := by
  obtain ⟨fa, fc, rfl⟩ := hf.slice
  obtain ⟨ga, gc, rfl⟩ := hg.slice
  have HB := Lib.hid hb0
  clear hb0
  go_enter Try.func121, Try.ntmps121
  go_wp2_with fail
  have hb : Below w.heap.size w (w.alloc (.cells #[] 2)) := (Below.refl _ _).alloc (Nat.le_refl _) _
  have ho : OI w.heap.size (w.alloc (.cells #[] 2)) (.slice (some ⟨w.heap.size, 0, none⟩) 0 0) ((cmpL f g).take 0) := OK.made _ _ _ (Nat.le_refl _)
  generalize w.alloc (.cells #[] 2) = w1 at *
  generalize Value.slice (some ⟨w.heap.size, 0, none⟩) 0 0 = v0 at *
  go_loopw [5, 6] (fun ov iv wr => ∃ k : Nat, k ≤ g.length ∧ iv = .int .i64 k ∧ OI w.heap.size wr ov ((cmpL f g).take k) ∧ Below w.heap.size w wr) (fun _ iv _ => g.length - (intOf iv).toNat)
  case atStart => exact ⟨0, Nat.zero_le _, rfl, ho, hb⟩
  case round =>
    clear ho hb
    obtain ⟨k, hk, rfl, ho, hb⟩ := hrel
    have hz := hb.size
    by_cases hlt : k < g.length
    · obtain ⟨h1, h2⟩ := HB.out k hlt
      obtain ⟨gg, go, rfl, hgl, hgc⟩ := (hg.later hb).at k hlt
      obtain ⟨q, hq⟩ := Int.eq_ofNat_of_zero_le h1
      rw [hq] at h2 hgc
      have hql : q < f.length := by omega
      obtain ⟨fg, fo, rfl, hfl, hfc⟩ := (hf.later hb).at q hql
      have HT : Hid ((cmpL f g).take (k + 1) = (cmpL f g).take k ++ [f.getD q 0]) := by
        have := cmpL_take (f := f) hlt
        rw [hq, Int.toNat_natCast] at this; exact this
      have hl : ((cmpL f g).take k).length ≤ 1099511627776 := by rw [List.length_take, cmpL_len]; omega
      have k1 : (q : Int) < (f.length : Int) := h2
      have k0 : (0 : Int) ≤ (q : Int) := by omega
      clear hq h1
      generalize f.getD q 0 = z at *
      go_wp2_with (at_builtin; refine wpl_app_i64 rfl _ _ rfl w.heap.size _ _ rfl (ho.alloc _) _ _ _ rfl (World.cell?_alloc_at _ _ _ _ rfl) hl (by simp; omega) ?_; intro v' w2 ho2 hgr)
      have hb2 := own_below (hb.alloc hz _) (ho.alloc _) hgr (by simp; omega)
      rw [← HT.out] at ho2
      go_roundw
      case rel => exact ⟨k + 1, by omega, by go_num, ho2, hb2⟩
      case measure => first | (simp [intOf]; done) | (simp [intOf]; omega)
    · obtain rfl : k = g.length := by omega
      rw [List.take_of_length_le (by rw [cmpL_len]; omega)] at ho
      go_wp2_with fail
      go_ret
      exact ⟨_, rfl, ho, hb⟩
/-- A row of values of which the first i and the last i are exchanged. -/
def rv (rs : List Value) (i : Nat) : List Value := (List.range rs.length).map fun k => if k < i ∨ rs.length - 1 - k < i then rs.getD (rs.length - 1 - k) nl else rs.getD k nl
theorem rv_len (rs : List Value) (i : Nat) : (rv rs i).length = rs.length := by simp [rv]
theorem rv_get {rs : List Value} {i k : Nat} (h : k < rs.length) : (rv rs i)[k]? = some (if k < i ∨ rs.length - 1 - k < i then rs.getD (rs.length - 1 - k) nl else rs.getD k nl) := by
  simp [rv, h]
theorem rv_zero (rs : List Value) : rv rs 0 = rs := by
  apply List.ext_getElem?
  intro k
  by_cases h : k < rs.length
  · rw [rv_get h]; simp [h]
  · rw [List.getElem?_eq_none (by rw [rv_len]; omega), List.getElem?_eq_none (by omega)]
theorem rv_end {rs : List Value} {i : Nat} (h : rs.length ≤ 2 * i + 1) : rv rs i = rs.reverse := by
  apply List.ext_getElem?
  intro k
  by_cases hk : k < rs.length
  · rw [rv_get hk, List.getElem?_reverse hk]
    by_cases hc : k < i ∨ rs.length - 1 - k < i
    · rw [if_pos hc]; simp [show rs.length - 1 - k < rs.length by omega]
    · rw [if_neg hc]
      have e : rs.length - 1 - k = k := by omega
      rw [e]; simp [hk]
  · rw [List.getElem?_eq_none (by rw [rv_len]; omega), List.getElem?_eq_none (by rw [List.length_reverse]; omega)]
theorem rv_step {rs : List Value} {i : Nat} (h : 2 * i + 1 < rs.length) : ((rv rs i).set i (rs.getD (rs.length - 1 - i) nl)).set (rs.length - 1 - i) (rs.getD i nl) = rv rs (i + 1) := by
  apply List.ext_getElem?
  intro k
  by_cases hk : k < rs.length
  · rw [rv_get hk, List.getElem?_set, List.getElem?_set]
    simp only [List.length_set, rv_len]
    by_cases h1 : rs.length - 1 - i = k
    · rw [if_pos h1, if_pos (by omega), if_pos (by omega), show rs.length - 1 - k = i by omega]
    · rw [if_neg h1]
      by_cases h2 : i = k
      · subst h2; rw [if_pos rfl, if_pos hk, if_pos (by omega)]
      · rw [if_neg h2, rv_get hk]
        congr 1
        by_cases hc : k < i ∨ rs.length - 1 - k < i
        · rw [if_pos hc, if_pos (by omega)]
        · rw [if_neg hc, if_neg (by omega)]
  · rw [List.getElem?_eq_none (by rw [List.length_set, List.length_set, rv_len]; omega), List.getElem?_eq_none (by rw [rv_len]; omega)]
set_option maxRecDepth 100000 in
set_option maxHeartbeats 4000000 in
theorem revR_any (v : Value) (rs : List Value) (B : Nat) (w : World) (ho : OV 26 B w v rs) (hm : rs.length ≤ 1000) (hsl : ∀ k, k < rs.length → ∃ a n c, rs.getD k nl = .slice a n c) :
    Calls Try.prog 94 #[v] w fun e w' => e = .returned (.tuple #[]) ∧ OV 26 B w' v rs.reverse ∧ Chg (vb v) w w' := by
  have ho0 := ho
  rw [← rv_zero rs] at ho0
  obtain ⟨a, c, rfl⟩ := ho.slice
  clear ho
  go_enter Try.func94, Try.ntmps94
  go_wp2_with fail
  go_loopw [2, 3] (fun iv jv wr => ∃ i : Nat, iv = .int .i64 i ∧ jv = .int .i64 ((rs.length : Int) - 1 - i) ∧ 2 * i ≤ rs.length + 1 ∧ OV 26 B wr (.slice a rs.length c) (rv rs i) ∧ Chg (vb (.slice a rs.length c)) w wr) (fun iv _ _ => rs.length - (intOf iv).toNat)
  case atStart => exact ⟨0, rfl, by simp, by omega, ho0, Chg.refl _ _⟩
  case round =>
    clear ho0
    obtain ⟨i, rfl, rfl, hi, ho, hch⟩ := hrel
    by_cases hlt : 2 * i + 1 < rs.length
    · obtain ⟨g, rfl, hBg, hc1⟩ := ho.at i (by rw [rv_len]; omega)
      have hc2 := ho.cell (rs.length - 1 - i) (by rw [rv_len]; omega)
      rw [rv_get (by omega), if_neg (by omega)] at hc1
      rw [rv_get (by omega), if_neg (by omega)] at hc2
      obtain ⟨j, hj⟩ : ∃ j, j = rs.length - 1 - i := ⟨_, rfl⟩
      have hji : (rs.length : Int) - 1 - (i : Int) = (j : Int) := by omega
      rw [← hj] at hc2
      rw [hji]
      have f1 := ho.frozen i
      have f2 := ho.frozen j
      have hst := ho.stored i (rs.getD j nl)
      have hst2 := OV.stored hst.1 j (rs.getD i nl)
      have e := rv_step hlt
      rw [← hj] at e
      rw [e] at hst2
      have HO3 : Hid (OV 26 B ((wr.setCell ⟨g, i, none⟩ (rs.getD j nl)).setCell ⟨g, j, none⟩ (rs.getD i nl)).drew (.slice (some ⟨g, 0, none⟩) rs.length c) (rv rs (i + 1))) := OV.drew hst2.1
      have HC3 : Hid (Chg (vb (.slice (some ⟨g, 0, none⟩) rs.length c)) w ((wr.setCell ⟨g, i, none⟩ (rs.getD j nl)).setCell ⟨g, j, none⟩ (rs.getD i nl)).drew) := by
        have k1 := hch.trans ((chg_grown hst.2).mono fun q hq => by rw [mem_vb]; simp only [List.mem_singleton] at hq; subst hq; rfl)
        have k2 := k1.trans ((chg_grown hst2.2).mono fun q hq => by rw [mem_vb]; simp only [List.mem_singleton] at hq; subst hq; rfl)
        exact k2.trans ((Go.Proofs.Ytghmpaegmicheaa.Below.chg ((Below.refl _ _).drew)).mono (by simp))
      have hlt2 : (i : Int) < (j : Int) := by omega
      have hl1 : (i : Int) < (rs.length : Int) := by omega
      have hl2 : (j : Int) < (rs.length : Int) := by omega
      have hne : ¬ i = j := by omega
      have hne2 : ¬ j = i := by omega
      have HJ := Lib.hid hj
      clear ho hst hst2 hch e hj hji
      obtain ⟨x1, y1, z1, e1⟩ := hsl i (by omega)
      obtain ⟨x2, y2, z2, e2⟩ := hsl j (by omega)
      clear hsl
      generalize rs.getD i nl = u1 at *
      generalize rs.getD j nl = u2 at *
      subst e1
      subst e2
      go_wp2_with fail
      go_region
      go_wp2_with fail
      go_roundw
      case rel => exact ⟨i + 1, by go_num, by have := HJ.out; go_num, by omega, HO3.out, HC3.out⟩
      case measure => first | (simp [intOf]; done) | (simp [intOf]; omega)
    · have hl : ¬ (i : Int) < (rs.length : Int) - 1 - (i : Int) := by omega
      rw [rv_end (by omega)] at ho
      go_wp2_with fail
      first | go_end0 | go_ret
      exact ⟨rfl, ho, hch⟩
end Go.Proofs.Ytghmpaegmicheaa
