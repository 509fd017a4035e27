/- LeastComplete and LeastAntisymmetric: the reference's walk forwards and back. -/
import Derived.Test.YtghmpaegmicheaaLstW
namespace Go.Proofs.Ytghmpaegmicheaa
open Go.RowKit

theorem snoc_of {o : List Int} (h : 0 < o.length) : ∃ pre y, o = pre ++ [y] := by
  rcases List.eq_nil_or_concat o with rfl | ⟨pre, y, rfl⟩
  · simp at h
  · exact ⟨pre, y, by simp⟩
theorem OK.setLast {T : TypeId} {k : IntKind} {B : Nat} {w : World} {g n c : Nat} {xs : List Int} {z : Int} (h : OK T k B w (.slice (some ⟨g, 0, none⟩) n c) (xs ++ [z])) (u : Int) :
    OK T k B (w.setCell ⟨g, xs.length, none⟩ (.int k u)) (.slice (some ⟨g, 0, none⟩) n c) (xs ++ [u]) ∧ w.grownBy (w.setCell ⟨g, xs.length, none⟩ (.int k u)) (some g) := by
  have := h.stored xs.length u
  rw [show (xs ++ [z]).set xs.length u = xs ++ [u] by simp] at this
  exact this
/-- What holds at the head of the walk. -/
structure LW (cm : Bool) (x : List (List Int)) (w0 wr : World) (v : Value) (o : List Int) : Prop where
  own : OI w0.heap.size wr v o
  below : Below w0.heap.size w0 wr
  len : o.length ≤ x.length
  els : Elems x.length o.dropLast
  last : ∀ (pre : List Int) (y : Int), o = pre ++ [y] → -1 ≤ y ∧ y < x.length
  cont : Go.Proofs.Ytghmpaegmicheaa.cont x.length (okL cm x) o = lstO cm x
section
variable {cm : Bool} {x : List (List Int)} {w0 wr : World} {v : Value} {pre : List Int} {y : Int}
theorem LW.y_of (h : LW cm x w0 wr v (pre ++ [y])) : ∃ k : Nat, y = (k : Int) - 1 ∧ k ≤ x.length := by
  obtain ⟨h1, h2⟩ := h.last pre y rfl
  exact ⟨(y + 1).toNat, by omega, by omega⟩
theorem LW.elpre (h : LW cm x w0 wr v (pre ++ [y])) : Elems x.length pre := by
  have := h.els
  simpa using this
theorem LW.shape (h : LW cm x w0 wr v (pre ++ [y])) : ∃ gb cb, v = .slice (some ⟨gb, 0, none⟩) (pre.length + 1) cb ∧ w0.heap.size ≤ gb ∧ (pre.length : Int) + 1 ≤ cb ∧ wr.cell? ⟨gb, pre.length, none⟩ = some (.int .i64 y) ∧ wr.frozen? ⟨gb, pre.length, none⟩ = false := by
  have h1 := h.own
  rcases h1.shape with ⟨_, e⟩ | ⟨gb, cb, rfl, hB, _⟩
  · simp at e
  · have h2 := (h1.capOk _ _ _ rfl).1
    simp at h2
    refine ⟨gb, cb, by simp, hB, by omega, ?_, h1.frozen _⟩
    have := h1.cell pre.length (by simp)
    simpa using this
theorem LW.set {gb cb : Nat} (h : LW cm x w0 wr (.slice (some ⟨gb, 0, none⟩) (pre.length + 1) cb) (pre ++ [y])) (hB : w0.heap.size ≤ gb) (k : Int) : OI w0.heap.size (wr.setCell ⟨gb, pre.length, none⟩ (.int .i64 k)) (.slice (some ⟨gb, 0, none⟩) (pre.length + 1) cb) (pre ++ [k]) ∧ Below w0.heap.size w0 (wr.setCell ⟨gb, pre.length, none⟩ (.int .i64 k)) :=
  ⟨(h.own.setLast k).1, h.below.setCell (p := ⟨gb, pre.length, none⟩) hB _⟩
end
set_option maxRecDepth 100000 in
set_option maxHeartbeats 2000000 in
theorem l05LeastT_any (x : List (List Int)) (g : Nat) (w : World) {G O C : Nat} {H F P : Nat → Nat} (hs : Hid (sqB x = true)) (hx : SqAt G O H F P x w) (hg : w.cell? ⟨g, 0, none⟩ = some (.slice (some ⟨G, O, none⟩) x.length C)) :
    Calls Try.prog 53 #[.pointer (some ⟨g, 0, none⟩), .bool true] w fun e w' => ∃ v', e = .returned (.tuple #[v', .bool (lstO true x).isSome]) ∧ OI w.heap.size w' v' ((lstO true x).getD []) ∧ Below w.heap.size w w' := by
  have hgl : g < w.heap.size := World.block_lt_of_cell? w _ hg
  have hn := (sqB_iff.1 hs.out).1
  have HX := Lib.hid hx
  have HC : Hid (∀ wr, Below w.heap.size w wr → wr.cell? ⟨g, 0, none⟩ = some (.slice (some ⟨G, O, none⟩) x.length C)) := fun wr h => by rw [h.cell (p := ⟨g, 0, none⟩) hgl]; exact hg
  have H0 : Hid (LW true x w (w.alloc (.cells #[.int .i64 (-1)] 2)) (.slice (some ⟨w.heap.size, 0, none⟩) 1 1) [-1]) := by
    have h1 : Below w.heap.size w (w.alloc (.cells #[.int .i64 (-1)] 2)) := (Below.refl _ _).alloc (Nat.le_refl _) _
    refine ⟨OV.lit 2 w [.int .i64 (-1)] (Nat.le_refl _) (by unfold maxLen; simp), h1, by simp; omega, fun i hi => by simp at hi, fun pre y e => ?_, cont_start hn.1⟩
    have := congrArg List.getLast? e
    simp at this
    omega
  clear hx
  go_enter Try.func53, Try.ntmps53
  go_wp2_with fail
  go_loopg [7] (wgt x.length 0 [-1]) (fun m v wr => ∃ o, Hid (m = wgt x.length 0 o) ∧ Hid (LW true x w wr v o))
  case atStart => exact ⟨_, rfl, H0⟩
  case round =>
    obtain ⟨o, HM, HL⟩ := hrel
    by_cases ho : o.length = 0
    · have e : o = [] := List.length_eq_zero_iff.1 ho
      subst e
      have HR : Hid (lstO true x = none) := HL.out.cont.symm
      have hown := HL.out.own
      obtain ⟨a, c, rfl⟩ := hown.slice
      clear hown ho
      go_wp2_with fail
      go_ret2
      rw [HR.out]
      exact ⟨_, rfl, OK.nil _ _ _ _, HL.out.below⟩
    · obtain ⟨pre, y, rfl⟩ := snoc_of (show 0 < o.length by omega)
      clear ho
      obtain ⟨k, rfl, hk⟩ := HL.out.y_of
      obtain ⟨gb, cb, rfl, hB, hcb, hc, hf⟩ := HL.out.shape
      obtain ⟨hs1, hs2⟩ := HL.out.set hB (k : Int)
      have HS1 := Lib.hid hs1
      have HS2 := Lib.hid hs2
      have HE := Lib.hid HL.out.elpre
      have hg1 := HC.out _ hs2
      have hcc : (wr.setCell ⟨gb, pre.length, none⟩ (.int .i64 k)).cell? ⟨gb, pre.length, none⟩ = some (.int .i64 k) := World.cell?_setCell_same _ _ _ hc
      have hlen : pre.length + 1 ≤ x.length := by have := HL.out.len; simpa using this
      have HCT := Lib.hid HL.out.cont
      clear hs1 hs2 hg
      have hg0 := HC.out wr HL.out.below
      by_cases hkn : k = x.length
      · have b1 : ((k : Int) == (x.length : Int)) = true := by simp [hkn]
        have HK : Hid (wgt x.length 0 pre < gk) := by have := HM.out; unfold Hid; rw [this]; exact wgt_pop _ _ _
        have HN : Hid (LW true x w (wr.setCell ⟨gb, pre.length, none⟩ (.int .i64 k)) (.slice (some ⟨gb, 0, none⟩) pre.length cb) pre) := by
          refine ⟨HS1.out.dropLast, HS2.out, by omega, fun i hi => ?_, fun p z e => ?_, (cont_pop (by omega)).symm.trans HCT.out⟩
          · have := HE.out.take (pre.length - 1)
            rw [← List.dropLast_eq_take] at this
            exact this i hi
          · subst e
            have := HE.out p.length (by simp)
            simp at this
            omega
        clear hkn
        go_wp2_with fail
        go_roundg (wgt x.length 0 pre)
        case measure => exact HK.out
        case rel => exact ⟨pre, rfl, HN⟩
      · have hkl : k < x.length := by omega
        have b1 : ((k : Int) == (x.length : Int)) = false := by simp; omega
        have HE2 := Lib.hid (elems_snoc HE.out hkl)
        have hl2 : (pre ++ [(k : Int)]).length = pre.length + 1 := by simp
        have HL2 := Lib.hid hl2
        have HF : Hid (∀ b, okL true x (pre ++ [(k : Int)]) = b → Calls Try.prog 96 #[.pointer (some ⟨g, 0, none⟩), .slice (some ⟨gb, 0, none⟩) (pre.length + 1) cb, .bool true] (wr.setCell ⟨gb, pre.length, none⟩ (.int .i64 k)) fun e w' => e = .returned (.bool b) ∧ Drw (wr.setCell ⟨gb, pre.length, none⟩ (.int .i64 k)) w') := fun b hb => by
          have := fitsT_any x (pre ++ [(k : Int)]) _ pre.length g _ hs hl2 (by omega) HE2.out (HX.out.later HS2.out) HS1.out.read hg1
          have e : okL true x (pre ++ [(k : Int)]) = fitL true x (pre ++ [(k : Int)]) pre.length := by unfold okL; rw [hl2]; rfl
          rw [← e, hb] at this; exact this
        have HY : Hid ((k : Int) - 1 + 1 = (k : Int)) := by unfold Hid; omega
        clear hkn hl2
        cases hok : okL true x (pre ++ [(k : Int)])
        · have HF2 := Lib.hid (HF.out false hok)
          have HCN : Hid (cont x.length (okL true x) (pre ++ [(k : Int)]) = lstO true x) := (cont_step k HY.out hkl (cand_no hok)).symm.trans HCT.out
          have HK : Hid (wgt x.length 0 (pre ++ [(k : Int)]) < gk) := by have := HM.out; unfold Hid; rw [this]; exact wgt_step _ _ _ _ HY.out hkl
          clear hok HF
          go_wp2_with (go_at_call 96; refine HF2.out.mono ?_; rintro e w4 ⟨rfl, hd⟩)
          have HN : Hid (LW true x w w4 (.slice (some ⟨gb, 0, none⟩) (pre.length + 1) cb) (pre ++ [(k : Int)])) := by
            refine ⟨HS1.out.later hd.below, HS2.out.trans (hd.below.mono HS2.out.size), by rw [HL2.out]; exact hlen, by simpa using HE.out, fun p z e => ?_, HCN.out⟩
            have := (List.append_inj' e rfl).2
            simp at this
            omega
          go_roundg (wgt x.length 0 (pre ++ [(k : Int)]))
          case measure => exact HK.out
          case rel => exact ⟨_, rfl, HN⟩
        · have HF2 := Lib.hid (HF.out true hok)
          have HOK := Lib.hid hok
          clear hok HF
          by_cases hfin : pre.length + 1 = x.length
          · have b2 : ((pre.length : Int) + 1 == (x.length : Int)) = true := by simp; omega
            have HR : Hid (lstO true x = some (pre ++ [(k : Int)])) := HCT.out.symm.trans (cont_done k HY.out hkl HOK.out hfin)
            clear hfin
            go_wp2_with (go_at_call 96; refine HF2.out.mono ?_; rintro e w4 ⟨rfl, hd⟩)
            go_ret2
            rw [HR.out]
            exact ⟨_, rfl, HS1.out.later hd.below, HS2.out.trans (hd.below.mono HS2.out.size)⟩
          · have b2 : ((pre.length : Int) + 1 == (x.length : Int)) = false := by simp; omega
            have hfl : pre.length + 1 < x.length := by omega
            have HCN : Hid (cont x.length (okL true x) ((pre ++ [(k : Int)]) ++ [-1]) = lstO true x) := (cont_push k HY.out hkl HOK.out hfl).symm.trans HCT.out
            have HK : Hid (wgt x.length 0 ((pre ++ [(k : Int)]) ++ [-1]) < gk) := by have := HM.out; unfold Hid; rw [this]; exact wgt_push _ _ _ _ HY.out hkl hn.2 hfl
            have hpl : (pre ++ [(k : Int)]).length ≤ 1099511627776 := by rw [HL2.out]; omega
            clear hfin
            go_wp2_with (first
              | (go_at_call 96; refine HF2.out.mono ?_; rintro e w4 ⟨rfl, hd⟩; have ho4 := HS1.out.later hd.below; have hb4 := HS2.out.trans (hd.below.mono HS2.out.size))
              | (at_builtin; refine wpl_app_i64 rfl _ _ rfl w.heap.size _ _ rfl (ho4.alloc _) _ _ _ rfl (World.cell?_alloc_at _ _ _ _ rfl) hpl (by have := hb4.size; simp; omega) ?_; intro v5 w5 ho5 hgr))
            have HN : Hid (LW true x w w5 v5 ((pre ++ [(k : Int)]) ++ [-1])) := by
              refine ⟨ho5, (hb4.alloc hb4.size _).grown hgr (by have := hb4.size; simp; omega) (fun j hj => (ho4.lt j hj).1), by rw [List.length_append, HL2.out]; simp; omega, by simpa using HE2.out, fun p z e => ?_, HCN.out⟩
              have := (List.append_inj' e rfl).2
              simp at this
              omega
            go_roundg (wgt x.length 0 ((pre ++ [(k : Int)]) ++ [-1]))
            case measure => exact HK.out
            case rel => exact ⟨_, rfl, HN⟩
set_option maxRecDepth 100000 in
set_option maxHeartbeats 2000000 in
theorem l05LeastF_any (x : List (List Int)) (g : Nat) (w : World) {G O C : Nat} {H F P : Nat → Nat} (hs : Hid (sqB x = true)) (hx : SqAt G O H F P x w) (hg : w.cell? ⟨g, 0, none⟩ = some (.slice (some ⟨G, O, none⟩) x.length C)) :
    Calls Try.prog 53 #[.pointer (some ⟨g, 0, none⟩), .bool false] w fun e w' => ∃ v', e = .returned (.tuple #[v', .bool (lstO false x).isSome]) ∧ OI w.heap.size w' v' ((lstO false x).getD []) ∧ Below w.heap.size w w' := by
  have hgl : g < w.heap.size := World.block_lt_of_cell? w _ hg
  have hn := (sqB_iff.1 hs.out).1
  have HX := Lib.hid hx
  have HC : Hid (∀ wr, Below w.heap.size w wr → wr.cell? ⟨g, 0, none⟩ = some (.slice (some ⟨G, O, none⟩) x.length C)) := fun wr h => by rw [h.cell (p := ⟨g, 0, none⟩) hgl]; exact hg
  have H0 : Hid (LW false x w (w.alloc (.cells #[.int .i64 (-1)] 2)) (.slice (some ⟨w.heap.size, 0, none⟩) 1 1) [-1]) := by
    have h1 : Below w.heap.size w (w.alloc (.cells #[.int .i64 (-1)] 2)) := (Below.refl _ _).alloc (Nat.le_refl _) _
    refine ⟨OV.lit 2 w [.int .i64 (-1)] (Nat.le_refl _) (by unfold maxLen; simp), h1, by simp; omega, fun i hi => by simp at hi, fun pre y e => ?_, cont_start hn.1⟩
    have := congrArg List.getLast? e
    simp at this
    omega
  clear hx
  go_enter Try.func53, Try.ntmps53
  go_wp2_with fail
  go_loopg [7] (wgt x.length 0 [-1]) (fun m v wr => ∃ o, Hid (m = wgt x.length 0 o) ∧ Hid (LW false x w wr v o))
  case atStart => exact ⟨_, rfl, H0⟩
  case round =>
    obtain ⟨o, HM, HL⟩ := hrel
    by_cases ho : o.length = 0
    · have e : o = [] := List.length_eq_zero_iff.1 ho
      subst e
      have HR : Hid (lstO false x = none) := HL.out.cont.symm
      have hown := HL.out.own
      obtain ⟨a, c, rfl⟩ := hown.slice
      clear hown ho
      go_wp2_with fail
      go_ret2
      rw [HR.out]
      exact ⟨_, rfl, OK.nil _ _ _ _, HL.out.below⟩
    · obtain ⟨pre, y, rfl⟩ := snoc_of (show 0 < o.length by omega)
      clear ho
      obtain ⟨k, rfl, hk⟩ := HL.out.y_of
      obtain ⟨gb, cb, rfl, hB, hcb, hc, hf⟩ := HL.out.shape
      obtain ⟨hs1, hs2⟩ := HL.out.set hB (k : Int)
      have HS1 := Lib.hid hs1
      have HS2 := Lib.hid hs2
      have HE := Lib.hid HL.out.elpre
      have hg1 := HC.out _ hs2
      have hcc : (wr.setCell ⟨gb, pre.length, none⟩ (.int .i64 k)).cell? ⟨gb, pre.length, none⟩ = some (.int .i64 k) := World.cell?_setCell_same _ _ _ hc
      have hlen : pre.length + 1 ≤ x.length := by have := HL.out.len; simpa using this
      have HCT := Lib.hid HL.out.cont
      clear hs1 hs2 hg
      have hg0 := HC.out wr HL.out.below
      by_cases hkn : k = x.length
      · have b1 : ((k : Int) == (x.length : Int)) = true := by simp [hkn]
        have HK : Hid (wgt x.length 0 pre < gk) := by have := HM.out; unfold Hid; rw [this]; exact wgt_pop _ _ _
        have HN : Hid (LW false x w (wr.setCell ⟨gb, pre.length, none⟩ (.int .i64 k)) (.slice (some ⟨gb, 0, none⟩) pre.length cb) pre) := by
          refine ⟨HS1.out.dropLast, HS2.out, by omega, fun i hi => ?_, fun p z e => ?_, (cont_pop (by omega)).symm.trans HCT.out⟩
          · have := HE.out.take (pre.length - 1)
            rw [← List.dropLast_eq_take] at this
            exact this i hi
          · subst e
            have := HE.out p.length (by simp)
            simp at this
            omega
        clear hkn
        go_wp2_with fail
        go_roundg (wgt x.length 0 pre)
        case measure => exact HK.out
        case rel => exact ⟨pre, rfl, HN⟩
      · have hkl : k < x.length := by omega
        have b1 : ((k : Int) == (x.length : Int)) = false := by simp; omega
        have HE2 := Lib.hid (elems_snoc HE.out hkl)
        have hl2 : (pre ++ [(k : Int)]).length = pre.length + 1 := by simp
        have HL2 := Lib.hid hl2
        have HF : Hid (∀ b, okL false x (pre ++ [(k : Int)]) = b → Calls Try.prog 96 #[.pointer (some ⟨g, 0, none⟩), .slice (some ⟨gb, 0, none⟩) (pre.length + 1) cb, .bool false] (wr.setCell ⟨gb, pre.length, none⟩ (.int .i64 k)) fun e w' => e = .returned (.bool b) ∧ Drw (wr.setCell ⟨gb, pre.length, none⟩ (.int .i64 k)) w') := fun b hb => by
          have := fitsF_any x (pre ++ [(k : Int)]) _ pre.length g _ hs hl2 (by omega) HE2.out (HX.out.later HS2.out) HS1.out.read hg1
          have e : okL false x (pre ++ [(k : Int)]) = fitL false x (pre ++ [(k : Int)]) pre.length := by unfold okL; rw [hl2]; rfl
          rw [← e, hb] at this; exact this
        have HY : Hid ((k : Int) - 1 + 1 = (k : Int)) := by unfold Hid; omega
        clear hkn hl2
        cases hok : okL false x (pre ++ [(k : Int)])
        · have HF2 := Lib.hid (HF.out false hok)
          have HCN : Hid (cont x.length (okL false x) (pre ++ [(k : Int)]) = lstO false x) := (cont_step k HY.out hkl (cand_no hok)).symm.trans HCT.out
          have HK : Hid (wgt x.length 0 (pre ++ [(k : Int)]) < gk) := by have := HM.out; unfold Hid; rw [this]; exact wgt_step _ _ _ _ HY.out hkl
          clear hok HF
          go_wp2_with (go_at_call 96; refine HF2.out.mono ?_; rintro e w4 ⟨rfl, hd⟩)
          have HN : Hid (LW false x w w4 (.slice (some ⟨gb, 0, none⟩) (pre.length + 1) cb) (pre ++ [(k : Int)])) := by
            refine ⟨HS1.out.later hd.below, HS2.out.trans (hd.below.mono HS2.out.size), by rw [HL2.out]; exact hlen, by simpa using HE.out, fun p z e => ?_, HCN.out⟩
            have := (List.append_inj' e rfl).2
            simp at this
            omega
          go_roundg (wgt x.length 0 (pre ++ [(k : Int)]))
          case measure => exact HK.out
          case rel => exact ⟨_, rfl, HN⟩
        · have HF2 := Lib.hid (HF.out true hok)
          have HOK := Lib.hid hok
          clear hok HF
          by_cases hfin : pre.length + 1 = x.length
          · have b2 : ((pre.length : Int) + 1 == (x.length : Int)) = true := by simp; omega
            have HR : Hid (lstO false x = some (pre ++ [(k : Int)])) := HCT.out.symm.trans (cont_done k HY.out hkl HOK.out hfin)
            clear hfin
            go_wp2_with (go_at_call 96; refine HF2.out.mono ?_; rintro e w4 ⟨rfl, hd⟩)
            go_ret2
            rw [HR.out]
            exact ⟨_, rfl, HS1.out.later hd.below, HS2.out.trans (hd.below.mono HS2.out.size)⟩
          · have b2 : ((pre.length : Int) + 1 == (x.length : Int)) = false := by simp; omega
            have hfl : pre.length + 1 < x.length := by omega
            have HCN : Hid (cont x.length (okL false x) ((pre ++ [(k : Int)]) ++ [-1]) = lstO false x) := (cont_push k HY.out hkl HOK.out hfl).symm.trans HCT.out
            have HK : Hid (wgt x.length 0 ((pre ++ [(k : Int)]) ++ [-1]) < gk) := by have := HM.out; unfold Hid; rw [this]; exact wgt_push _ _ _ _ HY.out hkl hn.2 hfl
            have hpl : (pre ++ [(k : Int)]).length ≤ 1099511627776 := by rw [HL2.out]; omega
            clear hfin
            go_wp2_with (first
              | (go_at_call 96; refine HF2.out.mono ?_; rintro e w4 ⟨rfl, hd⟩; have ho4 := HS1.out.later hd.below; have hb4 := HS2.out.trans (hd.below.mono HS2.out.size))
              | (at_builtin; refine wpl_app_i64 rfl _ _ rfl w.heap.size _ _ rfl (ho4.alloc _) _ _ _ rfl (World.cell?_alloc_at _ _ _ _ rfl) hpl (by have := hb4.size; simp; omega) ?_; intro v5 w5 ho5 hgr))
            have HN : Hid (LW false x w w5 v5 ((pre ++ [(k : Int)]) ++ [-1])) := by
              refine ⟨ho5, (hb4.alloc hb4.size _).grown hgr (by have := hb4.size; simp; omega) (fun j hj => (ho4.lt j hj).1), by rw [List.length_append, HL2.out]; simp; omega, by simpa using HE2.out, fun p z e => ?_, HCN.out⟩
              have := (List.append_inj' e rfl).2
              simp at this
              omega
            go_roundg (wgt x.length 0 ((pre ++ [(k : Int)]) ++ [-1]))
            case measure => exact HK.out
            case rel => exact ⟨_, rfl, HN⟩
set_option maxHeartbeats 1000000 in
theorem specLC_any (v : Value) (x : List (List Int)) (w : World) (hx : RT w v x) (hm : x.length ≤ 1048576) (hr : Small x) :
    Calls Try.prog 20 #[.agg #[v]] w fun e w' => ∃ v', e = .returned (.tuple #[v', .bool (lstB true x)]) ∧ OI w.heap.size w' v' (lstL true x) ∧ Below w.heap.size w w' := by
  obtain ⟨a, c, rfl⟩ := hx.slice
  have hb : Below w.heap.size w (w.alloc (.cells #[.slice a x.length c] 29)) := (Below.refl _ _).alloc (Nat.le_refl _) _
  have c0 : (w.alloc (.cells #[.slice a x.length c] 29)).cell? ⟨w.heap.size, 0, none⟩ = some (.slice a x.length c) := World.cell?_alloc_at _ _ _ _ rfl
  have hlt : w.heap.size < (w.alloc (.cells #[.slice a x.length c] 29)).heap.size := by simp
  replace hx := hx.later hb
  by_cases hG : grpB x = true
  · have h1 : Hid (lstB true x = (lstO true x).isSome) := by unfold Hid lstB; rw [hG]; rfl
    have h2 : Hid (lstL true x = (lstO true x).getD []) := by unfold Hid lstL; rw [if_pos hG]
    have hs : Hid (sqB x = true) := (Gp.of hG).sq
    obtain ⟨b, hb1⟩ : ∃ b, b = (lstO true x).isSome := ⟨_, rfl⟩
    have HB := Lib.hid hb1
    clear hb1
    have HIS : Hid (∀ w0 q, w0.cell? ⟨q, 0, none⟩ = some (.slice a x.length c) → RT w0 (.slice a x.length c) x → Calls Try.prog 52 #[.pointer (some ⟨q, 0, none⟩)] w0 fun e w' => e = .returned (.bool true) ∧ Drw w0 w') := fun w0 q h3 h4 => by
      have := l05Is_any _ x q w0 h3 h4 hm hr
      rw [hG] at this; exact this
    clear hG
    go_enter Try.func20, Try.ntmps20
    go_wp2_with fail
    generalize w.alloc (.cells #[.slice a x.length c] 29) = w0 at *
    refine (HIS.out _ _ c0 hx).mono ?_
    rintro e w1 ⟨rfl, hd⟩
    have hx1 := hx.later hd.below
    have c1 := (hd.below.cell (p := ⟨w.heap.size, 0, none⟩) hlt).trans c0
    have hb2 := hb.trans (hd.below.mono hb.size)
    clear hx c0 hb hlt hd
    obtain ⟨G, O, C, H, F, P, hv, hat⟩ := hx1.sq hs.out
    simp only [Value.slice.injEq, true_and] at hv
    obtain ⟨rfl, rfl⟩ := hv
    have HL := Lib.hid (l05LeastT_any x w.heap.size w1 hs hat c1)
    rw [← HB.out] at HL
    clear hat hx1 c1
    go_wp2_with fail
    refine HL.out.mono ?_
    rintro e w2 ⟨v2, rfl, ho, hb3⟩
    obtain ⟨va, vc, rfl⟩ := ho.slice
    go_wp2_with fail
    go_ret2
    rw [h1.out, h2.out, ← HB.out]
    exact ⟨_, rfl, ho.mono hb2.size, hb2.trans (hb3.mono hb2.size)⟩
  · simp only [Bool.not_eq_true] at hG
    have h1 : Hid (lstB true x = false) := by unfold Hid lstB; rw [hG]; rfl
    have h2 : Hid (lstL true x = []) := by unfold Hid lstL; rw [hG]; rfl
    have HIS : Hid (∀ w0 q, w0.cell? ⟨q, 0, none⟩ = some (.slice a x.length c) → RT w0 (.slice a x.length c) x → Calls Try.prog 52 #[.pointer (some ⟨q, 0, none⟩)] w0 fun e w' => e = .returned (.bool false) ∧ Drw w0 w') := fun w0 q h3 h4 => by
      have := l05Is_any _ x q w0 h3 h4 hm hr
      rw [hG] at this; exact this
    clear hG
    go_enter Try.func20, Try.ntmps20
    go_wp2_with fail
    generalize w.alloc (.cells #[.slice a x.length c] 29) = w0 at *
    refine (HIS.out _ _ c0 hx).mono ?_
    rintro e w1 ⟨rfl, hd⟩
    go_wp2_with fail
    go_ret2
    rw [h1.out, h2.out]
    exact ⟨_, rfl, OK.nil _ _ _ _, hb.trans (hd.below.mono hb.size)⟩
set_option maxHeartbeats 1000000 in
theorem specLA_any (v : Value) (x : List (List Int)) (w : World) (hx : RT w v x) (hm : x.length ≤ 1048576) (hr : Small x) :
    Calls Try.prog 12 #[.agg #[v]] w fun e w' => ∃ v', e = .returned (.tuple #[v', .bool (lstB false x)]) ∧ OI w.heap.size w' v' (lstL false x) ∧ Below w.heap.size w w' := by
  obtain ⟨a, c, rfl⟩ := hx.slice
  have hb : Below w.heap.size w (w.alloc (.cells #[.slice a x.length c] 29)) := (Below.refl _ _).alloc (Nat.le_refl _) _
  have c0 : (w.alloc (.cells #[.slice a x.length c] 29)).cell? ⟨w.heap.size, 0, none⟩ = some (.slice a x.length c) := World.cell?_alloc_at _ _ _ _ rfl
  have hlt : w.heap.size < (w.alloc (.cells #[.slice a x.length c] 29)).heap.size := by simp
  replace hx := hx.later hb
  by_cases hG : grpB x = true
  · have h1 : Hid (lstB false x = (lstO false x).isSome) := by unfold Hid lstB; rw [hG]; rfl
    have h2 : Hid (lstL false x = (lstO false x).getD []) := by unfold Hid lstL; rw [if_pos hG]
    have hs : Hid (sqB x = true) := (Gp.of hG).sq
    obtain ⟨b, hb1⟩ : ∃ b, b = (lstO false x).isSome := ⟨_, rfl⟩
    have HB := Lib.hid hb1
    clear hb1
    have HIS : Hid (∀ w0 q, w0.cell? ⟨q, 0, none⟩ = some (.slice a x.length c) → RT w0 (.slice a x.length c) x → Calls Try.prog 52 #[.pointer (some ⟨q, 0, none⟩)] w0 fun e w' => e = .returned (.bool true) ∧ Drw w0 w') := fun w0 q h3 h4 => by
      have := l05Is_any _ x q w0 h3 h4 hm hr
      rw [hG] at this; exact this
    clear hG
    go_enter Try.func12, Try.ntmps12
    go_wp2_with fail
    generalize w.alloc (.cells #[.slice a x.length c] 29) = w0 at *
    refine (HIS.out _ _ c0 hx).mono ?_
    rintro e w1 ⟨rfl, hd⟩
    have hx1 := hx.later hd.below
    have c1 := (hd.below.cell (p := ⟨w.heap.size, 0, none⟩) hlt).trans c0
    have hb2 := hb.trans (hd.below.mono hb.size)
    clear hx c0 hb hlt hd
    obtain ⟨G, O, C, H, F, P, hv, hat⟩ := hx1.sq hs.out
    simp only [Value.slice.injEq, true_and] at hv
    obtain ⟨rfl, rfl⟩ := hv
    have HL := Lib.hid (l05LeastF_any x w.heap.size w1 hs hat c1)
    rw [← HB.out] at HL
    clear hat hx1 c1
    go_wp2_with fail
    refine HL.out.mono ?_
    rintro e w2 ⟨v2, rfl, ho, hb3⟩
    obtain ⟨va, vc, rfl⟩ := ho.slice
    go_wp2_with fail
    go_ret2
    rw [h1.out, h2.out, ← HB.out]
    exact ⟨_, rfl, ho.mono hb2.size, hb2.trans (hb3.mono hb2.size)⟩
  · simp only [Bool.not_eq_true] at hG
    have h1 : Hid (lstB false x = false) := by unfold Hid lstB; rw [hG]; rfl
    have h2 : Hid (lstL false x = []) := by unfold Hid lstL; rw [hG]; rfl
    have HIS : Hid (∀ w0 q, w0.cell? ⟨q, 0, none⟩ = some (.slice a x.length c) → RT w0 (.slice a x.length c) x → Calls Try.prog 52 #[.pointer (some ⟨q, 0, none⟩)] w0 fun e w' => e = .returned (.bool false) ∧ Drw w0 w') := fun w0 q h3 h4 => by
      have := l05Is_any _ x q w0 h3 h4 hm hr
      rw [hG] at this; exact this
    clear hG
    go_enter Try.func12, Try.ntmps12
    go_wp2_with fail
    generalize w.alloc (.cells #[.slice a x.length c] 29) = w0 at *
    refine (HIS.out _ _ c0 hx).mono ?_
    rintro e w1 ⟨rfl, hd⟩
    go_wp2_with fail
    go_ret2
    rw [h1.out, h2.out]
    exact ⟨_, rfl, OK.nil _ _ _ _, hb.trans (hd.below.mono hb.size)⟩
end Go.Proofs.Ytghmpaegmicheaa
