/- ReadTable: the reference's. -/
import Derived.Test.YthcnhkjiojeemaaDoorRt
import Derived.Deep.DeepCutAuto
namespace Go.Proofs.YthcnhkjiojeemaaDoor
open Go.RowKit

set_option maxHeartbeats 2000000 in
theorem l04Text_any (v : Value) (x : List (List Int)) (w : World) (hx : RT w v x) (hn : x.length ≤ 36) (hr : ∀ i, i < x.length → (rowAt x i).length ≤ 36) (hd : ∀ i, i < x.length → ∀ z ∈ rowAt x i, 0 ≤ z ∧ z ≤ 35) :
    Calls Tryd.prog 21 #[v] w fun e w' => e = .returned (.string (txT x x.length)) ∧ Below w.heap.size w w' := by
  obtain ⟨a, c, rfl⟩ := hx.slice
  have HR := Lib.hid hr
  have HD := Lib.hid hd
  have HT0 : Hid (txT x 0 = ⟨#[]⟩) := txT_zero x
  have HTL : Hid (∀ k, k ≤ x.length → (txT x k).size ≤ k * 37) := fun k hk => txT_len x hk hr
  have HT1 : Hid (0 < x.length → txT x 0 ++ wOf (rowAt x 0) = txT x 1) := txT_one
  have HTS : Hid (∀ k, k < x.length → 0 < k → txT x k ++ ⟨#[47]⟩ ++ wOf (rowAt x k) = txT x (k + 1)) := fun k h1 h2 => txT_succ h1 h2
  clear hr hd
  go_enter Tryd.func21, Tryd.ntmps21
  go_wp2_with fail
  go_loopw [3, 4] (fun tv kv wr => ∃ (k : Nat) (t : ByteArray), k ≤ x.length ∧ kv = .int .i64 k ∧ tv = .string t ∧ Hid (t = txT x k) ∧ Below w.heap.size w wr) (fun _ kv _ => x.length - (intOf kv).toNat)
  case atStart => exact ⟨0, ⟨#[]⟩, Nat.zero_le _, rfl, rfl, HT0.out.symm, Below.refl _ _⟩
  case round =>
    obtain ⟨k, t, hk, rfl, rfl, HT, hb⟩ := hrel
    have htl : t.size ≤ 1332 := by rw [HT.out]; have := HTL.out k hk; omega
    by_cases hlt : k < x.length
    · obtain ⟨g, off, r, rfl, hg, hc, hri⟩ := (hx.later hb).at k hlt
      have hrl := HR.out k hlt
      have HF := Lib.hid (l01From_any r (rowAt x k) wr hri (HD.out k hlt) (by omega))
      have hws : (wOf (rowAt x k)).size ≤ 36 := by rw [wOf_size]; exact hrl
      obtain ⟨ra, rc, rfl⟩ := hri.slice
      have z1 : (⟨#[47]⟩ : ByteArray).size = 1 := rfl
      by_cases h0 : k = 0
      · have g0 : ¬ 0 < k := by omega
        have g1 : ¬ (0 : Int) < (k : Int) := by omega
        have HN : Hid (t ++ wOf (rowAt x k) = txT x (k + 1)) := by unfold Hid; rw [HT.out, h0]; exact HT1.out (by omega)
        obtain ⟨y, hy⟩ : ∃ y, y = wOf (rowAt x k) := ⟨_, rfl⟩
        rw [← hy] at HN HF hws
        have q1 : ¬ 9223372036854775807 < t.size + y.size := by omega
        clear h0 hri hy
        go_wp2_with (go_at_call 40; refine HF.out.mono ?_; rintro e w4 ⟨rfl, hb4⟩)
        have hb5 := hb.trans (hb4.mono hb.size)
        go_roundw
        case rel => exact ⟨k + 1, _, by omega, by go_num, rfl, HN, hb5⟩
        case measure => first | (simp [intOf]; done) | (simp [intOf]; omega)
      · have g0 : 0 < k := by omega
        have g1 : (0 : Int) < (k : Int) := by omega
        have HN : Hid (t ++ ⟨#[47]⟩ ++ wOf (rowAt x k) = txT x (k + 1)) := by unfold Hid; rw [HT.out]; exact HTS.out k hlt g0
        obtain ⟨y, hy⟩ : ∃ y, y = wOf (rowAt x k) := ⟨_, rfl⟩
        rw [← hy] at HN HF hws
        have q2 : ¬ 9223372036854775807 < t.size + 1 := by omega
        have q1 : ¬ 9223372036854775807 < t.size + 1 + y.size := by omega
        clear h0 hri hy
        go_wp2_with (go_at_call 40; refine HF.out.mono ?_; rintro e w4 ⟨rfl, hb4⟩)
        have hb5 := hb.trans (hb4.mono hb.size)
        go_roundw
        case rel => exact ⟨k + 1, _, by omega, by go_num, rfl, HN, hb5⟩
        case measure => first | (simp [intOf]; done) | (simp [intOf]; omega)
    · obtain rfl : k = x.length := by omega
      go_wp2_with fail
      go_ret
      exact ⟨by rw [HT.out]; rfl, hb⟩
theorem rt_rows {s : ByteArray} (h : qgB (rdT s) = true) : (rdT s).length ≤ 36 ∧ (∀ i, i < (rdT s).length → (rowAt (rdT s) i).length ≤ 36) ∧ ∀ i, i < (rdT s).length → ∀ z ∈ rowAt (rdT s) i, 0 ≤ z ∧ z ≤ 35 := by
  obtain ⟨⟨h1, h2⟩, h3, q⟩ := qgB_iff.1 h
  refine ⟨h2, fun i hi => by rw [h3 i hi]; exact h2, fun i hi z hz => ?_⟩
  obtain ⟨k, hk, rfl⟩ := List.mem_iff_getElem.1 hz
  have hl := h3 i hi
  have := q.bd i k hi (by omega)
  unfold tb at this
  rw [getD_eq hk] at this
  omega
set_option maxRecDepth 100000 in
set_option maxHeartbeats 8000000 in
theorem specRt_go (s : ByteArray) (w : World) (hs : s.size ≤ 1332) :
    Calls Tryd.prog 5 #[.string s] w (RtPost s w) := by
  have hb0 : Below w.heap.size w (w.alloc (.cells #[] 31)) := (Below.refl _ _).alloc (Nat.le_refl _) _
  have ho0 : OT w.heap.size (w.alloc (.cells #[] 31)).heap.size (w.alloc (.cells #[] 31)) (.slice (some ⟨w.heap.size, 0, none⟩) 0 0) (([] : List ByteArray).map dgs) :=
    ⟨[], OV.made _ _ (Nat.le_refl _), fun k hk => by simp [Value.ownBlock] at hk; simp; omega, Rows.nil _ _ _ _⟩
  go_enter Tryd.func5, Tryd.ntmps5
  go_wp2_with fail
  generalize w.alloc (.cells #[] 31) = w1 at *
  generalize Value.slice (some ⟨w.heap.size, 0, none⟩) 0 0 = v0 at *
  go_loopw [4, 5, 6] (fun ov fv iv wr => ∃ (i f : Nat) (o : List ByteArray), i ≤ s.size + 1 ∧ f ≤ i ∧ iv = .int .i64 i ∧ fv = .int .i64 f ∧ Hid (OT w.heap.size wr.heap.size wr ov (o.map dgs)) ∧ Hid (i ≤ s.size → CutI s o f i) ∧ Hid (i = s.size + 1 → o = cutS s) ∧ o.length ≤ i ∧ Below w.heap.size w wr) (fun _ _ iv _ => s.size + 1 - (intOf iv).toNat)
  case atStart => exact ⟨0, 0, [], by omega, Nat.le_refl _, rfl, rfl, ho0, fun _ => CutI.start s, fun h => by omega, by simp, hb0⟩
  case round =>
    clear ho0 hb0
    obtain ⟨i, f, o, hi, hfi, rfl, rfl, HO, HC1, HC2, hol, hb⟩ := hrel
    by_cases hlt : i ≤ s.size
    · have hltI : (i : Int) ≤ (s.size : Int) := by omega
      by_cases he : i = s.size
      · have e1 : ((i : Int) == (s.size : Int)) = true := by simp [he]
        have HN1 : Hid (i + 1 ≤ s.size → CutI s (o ++ [s.extract f i]) (i + 1) (i + 1)) := fun h => by omega
        have HN2 : Hid (i + 1 = s.size + 1 → o ++ [s.extract f i] = cutS s) := fun _ => by
          have := HC1.out hlt
          rw [he] at this ⊢
          exact this.end
        clear he
        have hsz0 := hb.size
        have HOT := HO
        have WB := Lib.hid hb
        clear hb HO
        generalize wr = wo at *
        go_upto_region 10 with fail
        have hroO : OI wo.heap.size (wo.alloc (.cells #[] 2)) (.slice (some ⟨wo.heap.size, 0, none⟩) 0 0) (dgs (s.extract f f)) := by rw [dgs_none]; exact OK.made _ _ _ (Nat.le_refl _)
        have hrbO : Below wo.heap.size wo (wo.alloc (.cells #[] 2)) := (Below.refl _ _).alloc (Nat.le_refl _) _
        generalize wo.alloc (.cells #[] 2) = wa at *
        generalize Value.slice (some ⟨wo.heap.size, 0, none⟩) 0 0 = va at *
        go_wp2_with fail
        go_loopw [7, 8] (fun rv kv wr => ∃ k : Nat, f ≤ k ∧ k ≤ i ∧ kv = .int .i64 k ∧ OI wo.heap.size wr rv (dgs (s.extract f k)) ∧ Below wo.heap.size wo wr) (fun _ kv _ => i - (intOf kv).toNat)
        case atStart => exact ⟨f, Nat.le_refl _, hfi, rfl, hroO, hrbO⟩
        case round =>
          clear hroO hrbO
          obtain ⟨k, hfk, hki, rfl, hro, hrb⟩ := hrel
          have hz := hrb.size
          by_cases hlk : k < i
          · have hks : k < s.size := by omega
            have hksI : (k : Int) < (s.size : Int) := by omega
            have hcc : 0 ≤ (s[k].toNat : Int) ∧ (s[k].toNat : Int) ≤ 255 := by have := s[k].toNat_lt; omega
            have HC : Hid (∀ wx, Calls Tryd.prog 19 #[.int .u8 (s[k].toNat : Int)] wx fun e w' => e = .returned (.int .i64 (dg (s[k].toNat : Int))) ∧ wx = w') := fun wx => l01Digit_any _ wx hcc
            have HT : Hid (dgs (s.extract f (k + 1)) = dgs (s.extract f k) ++ [dg (s[k].toNat : Int)]) := dgs_snoc s hfk hks
            have hll : (dgs (s.extract f k)).length ≤ 1099511627776 := by
              rw [dgs_len, ByteArray.size_extract]; omega
            generalize dg (s[k].toNat : Int) = d at *
            go_wp2_with (first | (go_at_call 19; refine (HC.out _).mono ?_; rintro e w' ⟨rfl, rfl⟩) | (at_builtin; refine wpl_app_i64 rfl _ _ rfl wo.heap.size _ _ rfl (hro.alloc _) _ _ _ rfl (World.cell?_alloc_at _ _ _ _ rfl) hll (by simp; omega) ?_; intro v' w5 ho5 hgr))
            have hb5 : Below wo.heap.size wo w5 := own_below (hrb.alloc hz _) (hro.alloc _) hgr (by simp; omega)
            go_roundw
            case rel => exact ⟨k + 1, by omega, by omega, by go_num, by rw [HT.out]; exact ho5, hb5⟩
            case measure => first | (simp [intOf]; done) | (simp [intOf]; omega)
          · obtain rfl : k = i := by omega
            obtain ⟨ra, rc, hrv⟩ := hro.slice
            obtain ⟨L, hL⟩ : ∃ L, L = (dgs (s.extract f k)).length := ⟨_, rfl⟩
            rw [← hL] at hrv
            subst hrv
            obtain ⟨rs, h1, h3, h4⟩ := HOT.out.parts
            obtain ⟨oa, oc, hov⟩ := h1.slice
            obtain ⟨M, hM⟩ : ∃ M, M = rs.length := ⟨_, rfl⟩
            rw [← hM] at hov
            subst hov
            have hrl2 : rs.length ≤ 1099511627776 := by rw [h4, List.length_map]; omega
            have h1' := h1.later hrb
            have H3 := Lib.hid (h3.keep (w' := wr) fun k _ h2 _ => hrb.block k h2)
            have HRO := Lib.hid hro
            clear hL hM h1 h3 h4 hro
            go_wp2_with (at_builtin; refine wpl_app Tryd.underlying22 info_row rfl (by omega) rfl _ _ rfl w.heap.size _ _ rfl (h1'.alloc _) _ _ _ rfl (World.cell?_alloc_at _ _ _ _ rfl) rfl hrl2 (by simp; omega) ?_; intro v' w5 hv hgr)
            have hp := OT.push (S := wo.heap.size) h1' H3.out hz hsz0 HRO.out hv hgr
            have HO5 : Hid (OT w.heap.size w5.heap.size w5 v' ((o ++ [s.extract f k]).map dgs)) := by unfold Hid; rw [List.map_append]; exact hp.1
            have hb5 : Below w.heap.size w w5 := (WB.out.trans (hrb.mono hsz0)).trans hp.2
            go_roundw
            case rel => exact ⟨k + 1, k + 1, o ++ [s.extract f k], by omega, Nat.le_refl _, by go_num, by go_num, HO5, HN1, HN2, by rw [List.length_append]; simp; omega, hb5⟩
            case measure => first | (simp [intOf]; done) | (simp [intOf]; omega)
      · have hil : i < s.size := by omega
        have hilI : (i : Int) < (s.size : Int) := by omega
        have e1 : ((i : Int) == (s.size : Int)) = false := by simp; omega
        obtain ⟨x, hxe⟩ : ∃ x, s[i] = x := ⟨_, rfl⟩
        by_cases h47 : x = 47
        · have e2 : ((x.toNat : Int) == 47) = true := by rw [h47]; rfl
          have HN1 : Hid (i + 1 ≤ s.size → CutI s (o ++ [s.extract f i]) (i + 1) (i + 1)) := fun _ => (HC1.out hlt).cut hil (hxe.trans h47)
          have HN2 : Hid (i + 1 = s.size + 1 → o ++ [s.extract f i] = cutS s) := fun h => by omega
          clear he h47
          have hsz0 := hb.size
          have HOT := HO
          have WB := Lib.hid hb
          clear hb HO
          generalize wr = wo at *
          go_upto_region 10 with fail
          have hroO : OI wo.heap.size (wo.alloc (.cells #[] 2)) (.slice (some ⟨wo.heap.size, 0, none⟩) 0 0) (dgs (s.extract f f)) := by rw [dgs_none]; exact OK.made _ _ _ (Nat.le_refl _)
          have hrbO : Below wo.heap.size wo (wo.alloc (.cells #[] 2)) := (Below.refl _ _).alloc (Nat.le_refl _) _
          generalize wo.alloc (.cells #[] 2) = wa at *
          generalize Value.slice (some ⟨wo.heap.size, 0, none⟩) 0 0 = va at *
          go_wp2_with fail
          go_loopw [7, 8] (fun rv kv wr => ∃ k : Nat, f ≤ k ∧ k ≤ i ∧ kv = .int .i64 k ∧ OI wo.heap.size wr rv (dgs (s.extract f k)) ∧ Below wo.heap.size wo wr) (fun _ kv _ => i - (intOf kv).toNat)
          case atStart => exact ⟨f, Nat.le_refl _, hfi, rfl, hroO, hrbO⟩
          case round =>
            clear hroO hrbO
            obtain ⟨k, hfk, hki, rfl, hro, hrb⟩ := hrel
            have hz := hrb.size
            by_cases hlk : k < i
            · have hks : k < s.size := by omega
              have hksI : (k : Int) < (s.size : Int) := by omega
              have hcc : 0 ≤ (s[k].toNat : Int) ∧ (s[k].toNat : Int) ≤ 255 := by have := s[k].toNat_lt; omega
              have HC : Hid (∀ wx, Calls Tryd.prog 19 #[.int .u8 (s[k].toNat : Int)] wx fun e w' => e = .returned (.int .i64 (dg (s[k].toNat : Int))) ∧ wx = w') := fun wx => l01Digit_any _ wx hcc
              have HT : Hid (dgs (s.extract f (k + 1)) = dgs (s.extract f k) ++ [dg (s[k].toNat : Int)]) := dgs_snoc s hfk hks
              have hll : (dgs (s.extract f k)).length ≤ 1099511627776 := by
                rw [dgs_len, ByteArray.size_extract]; omega
              generalize dg (s[k].toNat : Int) = d at *
              go_wp2_with (first | (go_at_call 19; refine (HC.out _).mono ?_; rintro e w' ⟨rfl, rfl⟩) | (at_builtin; refine wpl_app_i64 rfl _ _ rfl wo.heap.size _ _ rfl (hro.alloc _) _ _ _ rfl (World.cell?_alloc_at _ _ _ _ rfl) hll (by simp; omega) ?_; intro v' w5 ho5 hgr))
              have hb5 : Below wo.heap.size wo w5 := own_below (hrb.alloc hz _) (hro.alloc _) hgr (by simp; omega)
              go_roundw
              case rel => exact ⟨k + 1, by omega, by omega, by go_num, by rw [HT.out]; exact ho5, hb5⟩
              case measure => first | (simp [intOf]; done) | (simp [intOf]; omega)
            · obtain rfl : k = i := by omega
              obtain ⟨ra, rc, hrv⟩ := hro.slice
              obtain ⟨L, hL⟩ : ∃ L, L = (dgs (s.extract f k)).length := ⟨_, rfl⟩
              rw [← hL] at hrv
              subst hrv
              obtain ⟨rs, h1, h3, h4⟩ := HOT.out.parts
              obtain ⟨oa, oc, hov⟩ := h1.slice
              obtain ⟨M, hM⟩ : ∃ M, M = rs.length := ⟨_, rfl⟩
              rw [← hM] at hov
              subst hov
              have hrl2 : rs.length ≤ 1099511627776 := by rw [h4, List.length_map]; omega
              have h1' := h1.later hrb
              have H3 := Lib.hid (h3.keep (w' := wr) fun k _ h2 _ => hrb.block k h2)
              have HRO := Lib.hid hro
              clear hL hM h1 h3 h4 hro
              go_wp2_with (at_builtin; refine wpl_app Tryd.underlying22 info_row rfl (by omega) rfl _ _ rfl w.heap.size _ _ rfl (h1'.alloc _) _ _ _ rfl (World.cell?_alloc_at _ _ _ _ rfl) rfl hrl2 (by simp; omega) ?_; intro v' w5 hv hgr)
              have hp := OT.push (S := wo.heap.size) h1' H3.out hz hsz0 HRO.out hv hgr
              have HO5 : Hid (OT w.heap.size w5.heap.size w5 v' ((o ++ [s.extract f k]).map dgs)) := by unfold Hid; rw [List.map_append]; exact hp.1
              have hb5 : Below w.heap.size w w5 := (WB.out.trans (hrb.mono hsz0)).trans hp.2
              go_roundw
              case rel => exact ⟨k + 1, k + 1, o ++ [s.extract f k], by omega, Nat.le_refl _, by go_num, by go_num, HO5, HN1, HN2, by rw [List.length_append]; simp; omega, hb5⟩
              case measure => first | (simp [intOf]; done) | (simp [intOf]; omega)
        · have e2 : ((x.toNat : Int) == 47) = false := by
            have : ¬ (x.toNat : Int) = 47 := fun e => h47 (UInt8.toNat_inj.1 (by show x.toNat = 47; omega))
            simpa using this
          have HN1 : Hid (i + 1 ≤ s.size → CutI s o f (i + 1)) := fun _ => (HC1.out hlt).step hfi hil (by rw [hxe]; exact h47)
          have HN2 : Hid (i + 1 = s.size + 1 → o = cutS s) := fun h => by omega
          clear he h47
          go_wp2_with fail
          go_roundw
          case rel => exact ⟨i + 1, f, o, by omega, by omega, by go_num, rfl, HO, HN1, HN2, by omega, hb⟩
          case measure => first | (simp [intOf]; done) | (simp [intOf]; omega)
    · have hltI : ¬ (i : Int) ≤ (s.size : Int) := by omega
      obtain rfl : o = cutS s := HC2.out (by omega)
      have HRD : Hid (((cutS s).map dgs) = rdT s) := rfl
      rw [HRD.out] at HO
      have HRO := HO.out
      have hlen : (rdT s).length ≤ 1333 := by rw [rdT_len]; omega
      have HSM : Hid (Small (rdT s)) := by
        unfold Hid
        rw [← HRD.out]
        refine rdT_small s (by omega) (cutS s) fun t ht => ?_
        obtain ⟨j, hj, rfl⟩ := List.mem_iff_getElem.1 ht
        have := cutS_sz hj
        unfold sAt at this
        have e : (cutS s).getD j ByteArray.empty = (cutS s)[j] := by simp [hj]
        rw [e] at this
        omega
      have HQ := Lib.hid (l04Is_any _ (rdT s) wr HRO.read (by omega) HSM.out)
      obtain ⟨oa, oc, hov⟩ := HRO.slice
      subst hov
      cases hq : qgB (rdT s) with
      | false =>
        rw [hq] at HQ
        go_wp2_with (go_at_call 20; refine HQ.out.mono ?_; rintro e w4 ⟨rfl, hb4⟩)
        go_ret2
        exact RtPost.no hq (hb.trans (hb4.mono hb.size))
      | true =>
        rw [hq] at HQ
        obtain ⟨r1, r2, r3⟩ := rt_rows hq
        have HTX : Hid (∀ wx, RT wx (.slice oa (rdT s).length oc) (rdT s) → Calls Tryd.prog 21 #[.slice oa (rdT s).length oc] wx fun e w' => e = .returned (.string s) ∧ Below wx.heap.size wx w') := fun wx h => by
          have := l04Text_any _ (rdT s) wx h r1 r2 r3
          rw [rt_text hq] at this; exact this
        have hss := str_eq s
        have HHQ := Lib.hid hq
        have HRR := Lib.hid HRO
        clear r1 r2 r3 hq HRO HO
        go_wp2_with (first
          | (go_at_call 20; refine HQ.out.mono ?_; rintro e w4 ⟨rfl, hb4⟩)
          | (go_at_call 21; refine (HTX.out _ (HRR.out.later hb4 (Nat.le_refl _)).read).mono ?_; rintro e w5 ⟨rfl, hb5⟩))
        have hb6 := hb4.trans (hb5.mono hb4.size)
        go_ret2
        exact RtPost.yes HHQ.out ((HRR.out.later hb6 (Nat.le_refl _)).mono hb6.size) (hb.trans (hb6.mono hb.size))
theorem specRt_any (s : ByteArray) (w : World) (hs : s.size ≤ 1048576) :
    Calls Tryd.prog 5 #[.string s] w (RtPost s w) := by
  by_cases h : s.size ≤ 1332
  · exact specRt_go s w h
  · have HR := Lib.hid (RtPost.no (w := w) (w' := w) (rt_big (show 1332 < s.size by omega)) (Below.refl _ _))
    have h1 : (1332 : Int) < (s.size : Int) := by omega
    clear h
    go_enter Tryd.func5, Tryd.ntmps5
    go_wp2_with fail
    go_ret2
    exact HR.out
end Go.Proofs.YthcnhkjiojeemaaDoor
