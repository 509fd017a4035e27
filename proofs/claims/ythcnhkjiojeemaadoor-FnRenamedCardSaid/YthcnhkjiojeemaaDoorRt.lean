/- ReadTable: the program's and the reference's. -/
import Derived.Test.YthcnhkjiojeemaaDoorRtP
import Derived.Test.YthcnhkjiojeemaaDoorQg
import Derived.Test.YthcnhkjiojeemaaDoorQgS
import Derived.Test.YthcnhkjiojeemaaDoorRow
namespace Go.Proofs.YthcnhkjiojeemaaDoor
open Go.RowKit

theorem OV.apart {T T' : TypeId} {B B' : Nat} {w : World} {v v' : Value} {cs cs' : List Value} (hT : T ≠ T') (h : OV T B w v cs) (h' : OV T' B' w v' cs') : v.ownBlock = none ∨ v.ownBlock ≠ v'.ownBlock := by
  unfold OV at h h'
  rcases h.2 with ⟨rfl, _⟩ | ⟨g, cap, cur, rfl, _, hg, _⟩
  · exact .inl rfl
  · refine .inr fun e => ?_
    rcases h'.2 with ⟨rfl, _⟩ | ⟨g', cap', cur', rfl, _, hg', _⟩
    · simp [Value.ownBlock] at e
    · simp only [Value.ownBlock, Option.some.injEq] at e
      subst e
      rw [hg] at hg'
      simp only [Option.some.injEq, Obj.cells.injEq] at hg'
      exact hT hg'.2.1
theorem OS.keptPush {B B' : Nat} {w4 w5 : World} {p v : Value} {l : List ByteArray} {rs : List Value} {o : Obj} (h : OS B w4 p l) (h1 : OV 31 B' w4 v rs) (hg : (w4.alloc o).grownBy w5 v.ownBlock) : OS B w5 p l :=
  OV.kept (OV.alloc h o) hg (OV.apart (T := 9) (T' := 31) (by decide) (OV.alloc h o) (OV.alloc h1 o))
def rtX (s : ByteArray) : List (List Int) := if qgB (rdT s) then rdT s else []
def RtPost (s : ByteArray) (w : World) (e : Ending) (w' : World) : Prop := ∃ v, e = .returned (.tuple #[v, .bool (qgB (rdT s))]) ∧ OT w.heap.size w'.heap.size w' v (rtX s) ∧ Below w.heap.size w w'
theorem RtPost.no {s : ByteArray} {w w' : World} (h : qgB (rdT s) = false) (hb : Below w.heap.size w w') : RtPost s w (.returned (.tuple #[.slice none 0 0, .bool false])) w' :=
  ⟨_, by rw [h], by unfold rtX; rw [h]; exact OT.nil _ _ _, hb⟩
theorem RtPost.yes {s : ByteArray} {w w' : World} {v : Value} (h : qgB (rdT s) = true) (ho : OT w.heap.size w'.heap.size w' v (rdT s)) (hb : Below w.heap.size w w') : RtPost s w (.returned (.tuple #[v, .bool true])) w' :=
  ⟨v, by rw [h], by unfold rtX; rw [h]; exact ho, hb⟩
theorem cutS_sz {s : ByteArray} {j : Nat} (hj : j < (cutS s).length) : (sAt (cutS s) j).size ≤ s.size := by
  have h := cutS_sum s
  have : ∀ l : List ByteArray, ∀ j, j < l.length → (sAt l j).size ≤ (l.map ByteArray.size).sum := by
    intro l
    induction l with
    | nil => intro j hj; simp at hj
    | cons x l ih =>
      intro j hj
      cases j with
      | zero => simp [sAt]
      | succ j =>
        have := ih j (by simpa using hj)
        have e : sAt (x :: l) (j + 1) = sAt l j := by unfold sAt; simp
        rw [e, List.map_cons, List.sum_cons]; omega
  have h1 := this _ j hj
  have h2 : 1 ≤ (cutS s).length := by omega
  omega
theorem rdT_small (s : ByteArray) (hs : s.size ≤ 1048576) (o : List ByteArray) (h : ∀ t ∈ o, t.size ≤ 1048576) : Small (o.map dgs) := fun j hj => by
  rw [List.length_map] at hj
  have e : rowAt (o.map dgs) j = dgs o[j] := by unfold rowAt; simp [hj]
  rw [e, dgs_len]
  exact h _ (List.getElem_mem hj)
set_option maxRecDepth 100000 in
set_option maxHeartbeats 4000000 in
theorem implRt_any (s : ByteArray) (w : World) (hs : s.size ≤ 1048576) (hM : ∃ m, w.cell? ⟨0, 0, none⟩ = some (.int .i64 m)) :
    Calls Tryd.prog 6 #[.string s] w (RtPost s w) := by
  obtain ⟨m, hM⟩ := hM
  have hb0 : Below w.heap.size w (w.alloc (.cells #[] 31)) := (Below.refl _ _).alloc (Nat.le_refl _) _
  have hM1 := (hb0.cell (p := ⟨0, 0, none⟩) (World.block_lt_of_cell? w _ hM)).trans hM
  have HSP := Lib.hid (splitQ_any s m _ hs hM1)
  have ho0 : OT w.heap.size (w.alloc (.cells #[] 31)).heap.size (w.alloc (.cells #[] 31)) (.slice (some ⟨w.heap.size, 0, none⟩) 0 0) (([] : List ByteArray).map dgs) :=
    ⟨[], OV.made _ _ (Nat.le_refl _), fun k hk => by simp [Value.ownBlock] at hk; simp; omega, Rows.nil _ _ _ _⟩
  have HBAD : Hid (∀ j, j < (cutS s).length → digB (sAt (cutS s) j) 36 36 = false → qgB (rdT s) = false) := fun j hj h => rt_bad hj h
  have HMANY : Hid (36 < (cutS s).length → qgB (rdT s) = false) := rt_many
  have HSZ : Hid (∀ j, j < (cutS s).length → (sAt (cutS s) j).size ≤ 1048576) := fun j hj => by have := cutS_sz hj; omega
  have HRD : Hid ((cutS s).map dgs = rdT s) := rfl
  have hl1 : (cutS s).length ≤ 1048577 := by have := cutS_sum s; omega
  obtain ⟨ps, hps⟩ : ∃ ps, ps = cutS s := ⟨_, rfl⟩
  rw [← hps] at HSP HBAD HMANY HSZ HRD hl1
  clear hps hM hM1
  go_enter Tryd.func6, Tryd.ntmps6
  go_wp2_with fail
  refine HSP.out.mono ?_
  rintro e w1 ⟨v1, rfl, hr, hb1⟩
  replace ho0 := (ho0.later hb1 (Nat.le_refl _)).mono hb1.size
  replace hb0 := hb0.trans (hb1.mono hb0.size)
  obtain ⟨pa, pc, rfl⟩ := hr.read.slice
  replace hr := hr.mono (show w.heap.size ≤ _ by simp)
  clear hb1 HSP
  go_wp2_with fail
  generalize Value.slice (some ⟨w.heap.size, 0, none⟩) 0 0 = v0 at *
  go_loopw [4, 13] (fun ov iv wr => ∃ i : Nat, i ≤ ps.length ∧ i ≤ 36 ∧ iv = .int .i64 i ∧ Hid (OT w.heap.size wr.heap.size wr ov ((ps.take i).map dgs)) ∧ OS w.heap.size wr (.slice pa ps.length pc) ps ∧ Below w.heap.size w wr) (fun _ iv _ => ps.length - (intOf iv).toNat)
  case atStart => exact ⟨0, Nat.zero_le _, by omega, rfl, Lib.hid (by simpa using ho0), hr, hb0⟩
  case round =>
    clear ho0 hr hb0
    obtain ⟨i, hi, hi36, rfl, HO, hr, hb⟩ := hrel
    have hsl : ((ps.take i).map dgs).length = i := by rw [List.length_map, List.length_take]; omega
    by_cases hlt : i < ps.length
    · obtain ⟨g, off, rfl, hg, hc⟩ := hr.read.at i hlt
      have HD := Lib.hid (digitsOf_any (sAt ps i) 36 36 wr (HSZ.out i hlt))
      have HBD := Lib.hid (HBAD.out i hlt)
      have HT : Hid ((ps.take (i + 1)).map dgs = (ps.take i).map dgs ++ [dgs (sAt ps i)]) := by
        unfold Hid
        rw [List.take_succ_eq_append_getElem hlt, List.map_append]
        unfold sAt; simp [hlt]
      have hz := hb.size
      generalize sAt ps i = t at *
      obtain ⟨rs, h1, h3, h4⟩ := HO.out.parts
      have hrl : rs.length = i := by rw [h4]; exact hsl
      obtain ⟨oa, oc, hov⟩ := h1.slice
      rw [hrl] at hov
      subst hov
      have HRL := Lib.hid hrl
      have H1 := Lib.hid h1
      have H3 := Lib.hid h3
      clear h1 h3 h4 hsl hrl
      go_wp2_with fail
      refine HD.out.mono ?_
      rintro e w4 ⟨dv, rfl, hod, hb4⟩
      cases hdg : digB t 36 36 with
      | false =>
        have HR := Lib.hid (RtPost.no (w := w) (HBD.out hdg) (hb.trans (hb4.mono hz)))
        obtain ⟨da, dc, rfl⟩ := hod.slice
        clear hod hdg HD HBD
        go_wp2_with fail
        all_goals go_ret2
        all_goals exact HR.out
      | true =>
        rw [hdg, if_pos rfl] at hod
        obtain ⟨da, dc, rfl⟩ := hod.slice
        by_cases h36 : i = 36
        · have HR := Lib.hid (RtPost.no (w := w) (HMANY.out (by omega)) (hb.trans (hb4.mono hz)))
          have e1 : ((i : Int) == 36) = true := by simp [h36]
          clear hod hdg HD HBD h36
          go_wp2_with fail
          go_ret2
          exact HR.out
        · have e1 : ((i : Int) == 36) = false := by simp; omega
          have h1' := H1.out.later hb4
          have hrl2 : rs.length ≤ 1099511627776 := by rw [HRL.out]; omega
          have HD4 := Lib.hid hod
          have hz4 := hb4.size
          clear hod hdg HD HBD
          go_wp2_with (at_builtin; refine wpl_app Tryd.underlying22 info_row rfl (by omega) rfl _ _ rfl w.heap.size _ _ rfl (h1'.alloc _) _ _ _ rfl (World.cell?_alloc_at _ _ _ _ rfl) rfl hrl2 (by simp; omega) ?_; intro v' w5 hv hgr)
          have hp := OT.push (S := wr.heap.size) h1' (H3.out.keep fun k _ h2 _ => hb4.block k h2) hz4 hz HD4.out hv hgr
          have HO5 : Hid (OT w.heap.size w5.heap.size w5 v' ((ps.take (i + 1)).map dgs)) := by unfold Hid; rw [HT.out]; exact hp.1
          have hr5 := OS.keptPush (OS.later hr hb4) h1' hgr
          have hb5 : Below w.heap.size w w5 := (hb.trans (hb4.mono hz)).trans hp.2
          go_roundw
          case rel => exact ⟨i + 1, by omega, by omega, by go_num, HO5, hr5, hb5⟩
          case measure => first | (simp [intOf]; done) | (simp [intOf]; omega)
    · obtain rfl : i = ps.length := by omega
      rw [List.take_length, HRD.out] at HO
      have HSM : Hid (Small (rdT s)) := by
        unfold Hid
        rw [← HRD.out]
        refine rdT_small s hs ps fun t ht => ?_
        obtain ⟨j, hj, rfl⟩ := List.mem_iff_getElem.1 ht
        have := HSZ.out j hj
        unfold sAt at this
        simpa [hj] using this
      have HQ := Lib.hid (implQg_any _ (rdT s) wr HO.out.read (by rw [← HRD.out, List.length_map]; omega) HSM.out)
      have HRO := HO.out
      obtain ⟨oa, oc, hov⟩ := HRO.slice
      subst hov
      cases hq : qgB (rdT s) with
      | false =>
        rw [hq] at HQ
        go_wp2_with (go_at_call 17; refine HQ.out.mono ?_; rintro e w4 ⟨rfl, hb4⟩)
        go_ret2
        exact RtPost.no hq (hb.trans (hb4.mono hb.size))
      | true =>
        rw [hq] at HQ
        go_wp2_with (go_at_call 17; refine HQ.out.mono ?_; rintro e w4 ⟨rfl, hb4⟩)
        go_ret2
        exact RtPost.yes hq ((HRO.later hb4 (Nat.le_refl _)).mono hb4.size) (hb.trans (hb4.mono hb.size))
end Go.Proofs.YthcnhkjiojeemaaDoor
