/- GroupWord: the two sides. -/
import Derived.Test.YtdlagajnefkklaaDoorGw
namespace Go.Proofs.YtdlagajnefkklaaDoor
open Go.RowKit

def SzIs (xs : List Int) (b : Bool) (sm : Int) (w : World) (e : Ending) (w' : World) : Prop := ∃ r : Int, e = .returned (.tuple #[.int .i64 r, .bool b]) ∧ Hid (b = true → r = sm) ∧ w = w'
theorem gwB_sz {s : ByteArray} {xs : List Int} (h : szsB xs = false) : gwB s xs = false := by unfold gwB; rw [h]; rfl
theorem gwB_dig {s : ByteArray} {xs : List Int} (h : digB s 36 20 = false) : gwB s xs = false := by unfold gwB; rw [h]; simp
theorem gwB_sum {s : ByteArray} {xs : List Int} (h : xs.sum ≠ (s.size : Int)) : gwB s xs = false := by unfold gwB; rw [decide_eq_false h]; simp
theorem gwB_yes {s : ByteArray} {xs : List Int} (h1 : szsB xs = true) (h2 : digB s 36 20 = true) (h3 : xs.sum = (s.size : Int)) : gwB s xs = true := by unfold gwB; rw [h1, h2, decide_eq_true h3]; rfl
theorem gwS_no {s : ByteArray} {xs : List Int} (h : gwB s xs = false) : gwS s xs = ByteArray.empty := by unfold gwS; rw [h]; rfl
theorem gwS_yes {s : ByteArray} {xs : List Int} (h : gwB s xs = true) : gwS s xs = gwT s xs xs.length := by unfold gwS; rw [h]; rfl
theorem gw_ret {s t : ByteArray} {xs : List Int} {b : Bool} (h1 : gwS s xs = t) (h2 : gwB s xs = b) : Ending.returned (.tuple #[.string t, .bool b]) = .returned (.tuple #[.string (gwS s xs), .bool (gwB s xs)]) := by rw [h1, h2]
theorem digB_size {s : ByteArray} {m : Int} (h : digB s 36 m = true) : (s.size : Int) ≤ m := by
  rw [digB36, Bool.and_eq_true] at h; simpa using h.1
theorem oN_fit {s : ByteArray} {xs : List Int} (h1 : szsB xs = true) (h3 : xs.sum = (s.size : Int)) : oN xs xs.length = s.size := by
  have := oN_all (xs := xs) fun i hi => by have := (szsB_iff.1 h1).2 i hi; omega
  omega

theorem joinGw (s : ByteArray) (xs : List Int) (bk o c : Nat) (w : World) (h1 : szsB xs = true) (h2 : oN xs xs.length = s.size) (h : RS w (.slice (some ⟨bk, o, none⟩) xs.length c) (pts s xs xs.length)) :
    Calls Tryd.prog 29 #[.slice (some ⟨bk, o, none⟩) xs.length c, .string ⟨#[45]⟩] w fun e w' => e = .returned (.string (gwT s xs xs.length)) ∧ Below w.heap.size w w' := by
  have hn := (szsB_iff.1 h1).1
  have hs : (gwT s xs xs.length).size ≤ 1000 := by
    have h3 := gwT_size s xs xs.length (by omega)
    have h4 := oN_le (xs := xs) (fun i hi => ((szsB_iff.1 h1).2 i hi).2) xs.length (Nat.le_refl _)
    omega
  have hj : (Lib.join ((pts s xs xs.length).map (·.data.toList)) [45]).length = (gwT s xs xs.length).size := by rw [← gwT_join]; simp
  obtain ⟨g, off, e1, e2, _⟩ := h.at 0 (by rw [pts_len]; omega)
  have hcap := h.cap
  rw [pts_len] at hcap
  have := sh_strings_Join bk o c (pts s xs xs.length) ⟨#[45]⟩ w (fun j x hx => by
    have hj : j < (pts s xs xs.length).length := by
      rcases Nat.lt_or_ge j (pts s xs xs.length).length with h | h
      · exact h
      · rw [List.getElem?_eq_none h] at hx; simp at hx
    obtain ⟨g', off', e3, _, e4⟩ := h.at j hj
    simp only [Option.some.injEq, Addr.mk.injEq, and_true] at e3
    obtain ⟨rfl, rfl⟩ := e3
    rw [e4]
    rw [List.getElem?_eq_getElem hj] at hx
    simp only [Option.some.injEq] at hx
    simp [sAt, hj, hx]) (by
    simp only [Option.some.injEq, Addr.mk.injEq, and_true] at e1
    omega) (by rw [pts_len]; omega) (by rw [pts_len]; omega) (by
    show (Lib.join _ [45]).length ≤ _
    rw [hj]; omega)
  rw [pts_len] at this
  refine this.mono fun e w' ⟨he, hb⟩ => ⟨?_, hb⟩
  rw [he]
  show Ending.returned (.string ⟨(Lib.join _ [45]).toArray⟩) = _
  rw [join_gwT]
set_option maxHeartbeats 1000000 in
theorem implGw_any (s : ByteArray) (v : Value) (xs : List Int) (w : World) (hs : s.size ≤ 1048576) (hx : RI w v xs) (hm : xs.length ≤ 1048576) :
    Calls Tryd.prog 14 #[.string s, v] w fun e w' => e = .returned (.tuple #[.string (gwS s xs), .bool (gwB s xs)]) ∧ Below w.heap.size w w' := by
  have HW : Hid (∀ b, digB s 36 20 = b → Calls Tryd.prog 28 #[.string s, .int .i64 20] w fun e w' => e = .returned (.bool b) ∧ Below w.heap.size w w') := fun b hb => by
    have := wordOk_any s 20 w hs
    rw [hb] at this; exact this
  have HZ : Hid (∀ b, szsB xs = b → Calls Tryd.prog 27 #[v] w (SzIs xs b xs.sum w)) := fun b hb => (sizesOk_any v xs w hx hm).mono fun e w' ⟨r, h1, h2, h3⟩ => ⟨r, by rw [h1, hb], fun h => h2.out (hb.trans h), h3⟩
  obtain ⟨a, c, rfl⟩ := hx.slice
  generalize hsm : xs.sum = sm at HZ
  have HSM := Lib.hid hsm
  clear hsm
  cases h1 : szsB xs
  · have HC := Lib.hid (HZ.out _ h1)
    have HB := Lib.hid (gwB_sz (s := s) h1)
    clear h1
    go_enter Tryd.func14, Tryd.ntmps14
    go_wp2_with fail
    refine HC.out.mono ?_
    rintro e w1 ⟨r, rfl, _, rfl⟩
    go_wp2_with fail
    go_ret2
    exact ⟨gw_ret (gwS_no HB.out) HB.out, Below.refl _ _⟩
  · have HC := Lib.hid (HZ.out _ h1)
    have H1 := Lib.hid h1
    clear h1
    cases h2 : digB s 36 20
    · have HD := Lib.hid (HW.out _ h2)
      have HB := Lib.hid (gwB_dig (xs := xs) h2)
      clear h2
      go_enter Tryd.func14, Tryd.ntmps14
      go_wp2_with fail
      refine HC.out.mono ?_
      rintro e w1 ⟨r, rfl, _, rfl⟩
      go_wp2_with fail
      refine HD.out.mono ?_
      rintro e w2 ⟨rfl, hb⟩
      go_wp2_with fail
      go_ret2
      exact ⟨gw_ret (gwS_no HB.out) HB.out, hb⟩
    · have HD := Lib.hid (HW.out _ h2)
      have H2 := Lib.hid h2
      have hsz := digB_size h2
      clear h2
      by_cases h3 : sm = (s.size : Int)
      · have HF := Lib.hid (oN_fit (s := s) H1.out (HSM.out.trans h3))
        have HB := Lib.hid (gwB_yes H1.out H2.out (HSM.out.trans h3))
        have hn := (szsB_iff.1 H1.out).1
        have HE := Lib.hid (szsB_iff.1 H1.out).2
        subst h3
        go_enter Tryd.func14, Tryd.ntmps14
        go_wp2_with fail
        refine HC.out.mono ?_
        rintro e w1 ⟨r, rfl, hr, rfl⟩
        obtain rfl := hr.out rfl
        go_wp2_with fail
        refine HD.out.mono ?_
        rintro e w2 ⟨rfl, hb⟩
        have hx2 := hx.later hb
        go_wp2_with fail
        have H0 : Hid (OS w2.heap.size (w2.alloc (.cells #[] 9)) (.slice (some ⟨w2.heap.size, 0, none⟩) 0 0) (pts s xs 0)) := OV.made 9 w2 (Nat.le_refl _)
        have HB2 := Lib.hid hb
        have hl0 : (xs.length : Int) ≤ 10 := by omega
        clear hx hb HW HC HD
        go_loopw [0, 8, 32] (fun sv ov iv wr => ∃ k : Nat, k ≤ xs.length ∧ iv = .int .i64 k ∧ sv = .string (rst s xs k) ∧ OS w2.heap.size wr ov (pts s xs k) ∧ Below w2.heap.size w2 wr) (fun _ _ iv _ => xs.length - (intOf iv).toNat)
        case atStart => exact ⟨0, Nat.zero_le _, rfl, rfl, H0.out, (Below.refl _ _).alloc (Nat.le_refl _) _⟩
        case round =>
          obtain ⟨k, hk, rfl, rfl, ho, hb⟩ := hrel
          by_cases hlt : k < xs.length
          · obtain ⟨g, off, rfl, hg, hc⟩ := (hx2.later hb).at k hlt
            have hz := HE.out k hlt
            have hq : xs.getD k 0 = (qN xs k : Int) := by unfold qN; omega
            rw [hq] at hc
            have ho1 : oN xs (k + 1) ≤ s.size := by have := oN_mono xs (show k + 1 ≤ xs.length by omega); have := HF.out; omega
            have hq2 : qN xs k ≤ (rst s xs k).size := by rw [rst_size]; rw [oN_succ] at ho1; omega
            have hr2 : (rst s xs k).size ≤ 1048576 := by rw [rst_size]; omega
            have HP : Hid ((rst s xs k).extract 0 (qN xs k) = pt s xs k) := pc_pt s xs k
            have HR : Hid ((rst s xs k).extract (qN xs k) (rst s xs k).size = rst s xs (k + 1)) := rfl
            have HPS := Lib.hid (pts_succ s xs k)
            have hpl : (ss (pts s xs k)).length ≤ 1099511627776 := by rw [ss_length, pts_len]; omega
            obtain ⟨oa, oc, rfl⟩ := ho.read.slice
            rw [pts_len] at ho
            simp only [pts_len]
            clear hz hq ho1
            generalize rst s xs k = u at *
            generalize qN xs k = q at *
            go_wp2_with (at_builtin; refine wpl_app Tryd.underlying43 info_str rfl (by omega) rfl _ _ rfl w2.heap.size _ _ rfl (OV.alloc ho _) _ _ _ rfl (World.cell?_alloc_at _ _ _ _ rfl) rfl hpl (by have := hb.size; simp; omega) ?_; intro v' w3 ho3 hgr)
            have ho4 : OS w2.heap.size w3 v' (pts s xs (k + 1)) := by
              unfold OS
              rw [HPS.out, ← HP.out]
              simpa [ss] using ho3
            have hb4 : Below w2.heap.size w2 w3 := (hb.alloc hb.size _).grown hgr (by have := hb.size; simp; omega) fun j hj => (OV.lt ho j hj).1
            go_roundw
            case rel => exact ⟨k + 1, by omega, by go_num, by rw [HR.out], ho4, hb4⟩
            case measure => first | (simp [intOf]; done) | (simp [intOf]; omega)
          · obtain rfl : k = xs.length := by omega
            have HJ : Hid (∀ bk o c wx, RS wx (.slice (some ⟨bk, o, none⟩) xs.length c) (pts s xs xs.length) → Calls Tryd.prog 29 #[.slice (some ⟨bk, o, none⟩) xs.length c, .string ⟨#[45]⟩] wx fun e w' => e = .returned (.string (gwT s xs xs.length)) ∧ Below wx.heap.size wx w') := fun bk o c wx h => joinGw s xs bk o c wx H1.out HF.out h
            have hrs := ho.read
            obtain ⟨oa, oc, rfl⟩ := hrs.slice
            rw [pts_len] at hrs
            simp only [pts_len]
            obtain ⟨bk, o, rfl, _⟩ := hrs.at 0 (by rw [pts_len]; omega)
            have HRS := Lib.hid hrs
            clear hrs
            go_wp2_with (go_at_call 29; refine (HJ.out _ _ _ _ HRS.out).mono ?_; rintro e w4 ⟨rfl, hb4⟩)
            go_ret2
            exact ⟨gw_ret (gwS_yes HB.out) HB.out, HB2.out.trans ((hb.trans (hb4.mono hb.size)).mono HB2.out.size)⟩
      · have HB := Lib.hid (gwB_sum (s := s) (xs := xs) (fun e => h3 (HSM.out.symm.trans e)))
        have b1 : (sm != (s.size : Int)) = true := by simp [h3]
        have b2 : (sm == (s.size : Int)) = false := by simp [h3]
        clear h3
        go_enter Tryd.func14, Tryd.ntmps14
        go_wp2_with fail
        refine HC.out.mono ?_
        rintro e w1 ⟨r, rfl, hr, rfl⟩
        obtain rfl := hr.out rfl
        go_wp2_with fail
        refine HD.out.mono ?_
        rintro e w2 ⟨rfl, hb⟩
        go_wp2_with fail
        go_ret2
        exact ⟨gw_ret (gwS_no HB.out) HB.out, hb⟩
theorem str_cons (a b : ByteArray) (c : ByteArray) (h : a ++ b = c) : Value.string (a ++ b) = .string c := by rw [h]
theorem gwT_zero (s : ByteArray) (xs : List Int) : gwT s xs (0 + 1) = ByteArray.empty ++ pt s xs 0 := rfl
theorem gwT_more (s : ByteArray) (xs : List Int) (k : Nat) (h : 0 < k) : gwT s xs (k + 1) = (gwT s xs k ++ dash) ++ pt s xs k := by
  show (if k = 0 then gwT s xs k else gwT s xs k ++ dash) ++ pt s xs k = _
  rw [if_neg (by omega)]
end Go.Proofs.YtdlagajnefkklaaDoor
