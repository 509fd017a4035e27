/- IsComplete and IsAntisymmetric: the program's and the reference's. -/
import Derived.Test.YtghmpaegmicheaaFit
namespace Go.Proofs.Ytghmpaegmicheaa
open Go.RowKit

theorem implVG_isD (v : Value) (x : List (List Int)) (w : World) (b : Bool) (h : Hid (grpB x = b)) (hx : RT w v x) (hm : x.length ≤ 1048576) (hr : Small x) :
    Calls Try.prog 33 #[.agg #[v]] w fun e w' => e = .returned (.bool b) ∧ Below w.heap.size w w' := implVG_is v x w b h hx hm hr
theorem isOrd_is (v : Value) (xs : List Int) (w : World) (b : Bool) (h : Hid ((ordAt xs.length xs && inB xs.length 1 36) = b)) (hx : RI w v xs) (hm : xs.length ≤ 1048576) :
    Calls Try.prog 83 #[v] w fun e w' => e = .returned (.bool b) ∧ Below w.heap.size w w' := by
  have := isOrd_any v xs w hx hm
  rw [h.out] at this; exact this
theorem l01Order_is (v : Value) (xs : List Int) (n : Int) (w : World) (b : Bool) (h : Hid ((ordAt n xs && decide ((xs.length : Int) = n)) = b)) (hx : RI w v xs) (hm : xs.length ≤ 1048576) (hn : 0 ≤ n ∧ n ≤ 1048576) :
    Calls Try.prog 80 #[v, .int .i64 n] w fun e w' => e = .returned (.bool b) ∧ Drw w w' := by
  have := l01Order_any v xs n w hx hm hn
  rw [h.out] at this; exact this
theorem aoB_grp {cm : Bool} {x : List (List Int)} {o : List Int} (h : grpB x = false) : aoB cm x o = false := by unfold aoB; rw [h]; rfl
theorem aoB_len {cm : Bool} {x : List (List Int)} {o : List Int} (h : o.length ≠ x.length) : aoB cm x o = false := by unfold aoB; rw [decide_eq_false h]; simp
theorem aoB_ord {cm : Bool} {x : List (List Int)} {o : List Int} (h : ordAt x.length o = false) : aoB cm x o = false := by unfold aoB; rw [h]; simp
theorem aoB_all {cm : Bool} {x : List (List Int)} {o : List Int} (h1 : grpB x = true) (h2 : o.length = x.length) (h3 : ordAt x.length o = true) : aoB cm x o = allN o.length (fitK cm x o) := by unfold aoB; rw [h1, decide_eq_true h2, h3]; rfl
theorem take_len {o : List Int} {k : Nat} (h : k < o.length) : (o.take (k + 1)).length = k + 1 := by rw [List.length_take]; omega

set_option maxRecDepth 100000 in
set_option maxHeartbeats 1000000 in
theorem isoT_any (v ov : Value) (x : List (List Int)) (o : List Int) (g : Nat) (w : World) (hg : w.cell? ⟨g, 0, none⟩ = some v) (hx : RT w v x) (hm : x.length ≤ 1048576) (hr : Small x) (hov : RI w ov o) (hmo : o.length ≤ 1048576) :
    Calls Try.prog 59 #[.pointer (some ⟨g, 0, none⟩), ov, .func (.func 56) #[.pointer (some ⟨g, 0, none⟩)] #[]] w fun e w' => e = .returned (.bool (aoB true x o)) ∧ Below w.heap.size w w' := by
  have hgl : g < w.heap.size := World.block_lt_of_cell? w _ hg
  obtain ⟨oa, oc, rfl⟩ := hov.slice
  have hocap := hov.cap
  by_cases hG : grpB x = true
  · have HB := Lib.hid hG
    have hs : Hid (sqB x = true) := (Gp.of hG).sq
    have hn := (sqB_iff.1 hs.out).1
    obtain ⟨G, O, C, H, F, P, rfl, hat⟩ := hx.sq hs.out
    have HSQ := Lib.hid hat
    clear hat hG
    by_cases hlen : o.length = x.length
    · have HL := Lib.hid hlen
      by_cases hord : ordAt o.length o = true
      · have hio : Hid ((ordAt o.length o && inB o.length 1 36) = true) := by unfold Hid; rw [hord, inB_yes (by omega)]; rfl
        have hE : Hid (Elems x.length o) := by rw [← hlen]; exact ordAt_elems hord
        have HAO : Hid (aoB true x o = allN o.length (fitK true x o)) := aoB_all HB.out hlen (by rw [← hlen]; exact hord)
        have b1 : ((o.length : Int) != x.length) = false := by simp [hlen]
        clear hlen hord
        go_enter Try.func59, Try.ntmps59
        go_wp2_with fail
        refine (implVG_is _ x _ true HB hx hm hr).mono ?_
        rintro e w1 ⟨rfl, hb1⟩
        have hg1 := (hb1.cell (p := ⟨g, 0, none⟩) hgl).trans hg
        have hov1 := hov.later hb1
        clear hg
        go_wp2_with fail
        refine (isOrd_is _ o _ true hio hov1 hmo).mono ?_
        rintro e w2 ⟨rfl, hb2⟩
        have hgl1 : g < w1.heap.size := Nat.lt_of_lt_of_le hgl hb1.size
        have hg2 := (hb2.cell (p := ⟨g, 0, none⟩) hgl1).trans hg1
        have HG2 := Lib.hid hg2
        have HOV := Lib.hid (hov1.later hb2)
        have HX := Lib.hid ((HSQ.out.later hb1).later hb2)
        have hb := hb1.trans (hb2.mono hb1.size)
        have hgl2 : g < w2.heap.size := Nat.lt_of_lt_of_le hgl1 hb2.size
        clear hb1 hb2 hg1 hov1 hx hov hg2
        unfold maxLen at hocap
        go_wp2_with fail
        go_loopw [30] (fun iv wr => ∃ k : Nat, k ≤ o.length ∧ iv = .int .i64 k ∧ Hid (∀ i, i < k → fitK true x o i = true) ∧ Drw w2 wr) (fun iv _ => o.length - (intOf iv).toNat)
        case atStart => exact ⟨0, Nat.zero_le _, rfl, (fun i hi => by omega), Drw.refl _⟩
        case round =>
          obtain ⟨k, hk, rfl, HK, hd⟩ := hrel
          by_cases hlt : k < o.length
          · have hovr := HOV.out.later hd.below
            have hgr := (hd.below.cell (p := ⟨g, 0, none⟩) hgl2).trans HG2.out
            have hck : (k : Int) + 1 ≤ oc := by omega
            have HC : Hid (Calls Try.prog 56 #[.pointer (some ⟨g, 0, none⟩), .slice oa (k + 1) oc] wr fun e w' => e = .returned (.bool (fitK true x o k)) ∧ Drw wr w') := by
              have := complete_any x (o.take (k + 1)) _ k g wr hs (take_len hlt) (by have := HL.out; omega) (hE.out.take _) (HX.out.later hd.below) (hovr.take (k + 1) (by omega)) hgr
              rw [fitK_take] at this
              exact this
            have HN : Hid (fitK true x o k = true → ∀ i, i < k + 1 → fitK true x o i = true) := fun hf i hi => by
              by_cases h : i = k
              · subst h; exact hf
              · exact HK.out i (by omega)
            have HF : Hid (fitK true x o k = false → aoB true x o = false) := fun h => HAO.out.trans (allN_no k hlt h)
            clear hgr hovr
            generalize hz : fitK true x o k = z at *
            clear hz
            cases z
            · go_wp2_with (go_at_call 56; refine HC.out.mono ?_; rintro e w3 ⟨rfl, hd3⟩)
              go_ret
              exact ⟨ret_bool (HF.out trivial).symm, hb.trans ((hd.trans hd3).below.mono hb.size)⟩
            · go_wp2_with (go_at_call 56; refine HC.out.mono ?_; rintro e w3 ⟨rfl, hd3⟩)
              go_roundw
              case rel => exact ⟨k + 1, by omega, by go_num, HN.out trivial, hd.trans hd3⟩
              case measure => first | (simp [intOf]; done) | (simp [intOf]; omega)
          · have HV : Hid (aoB true x o = true) := HAO.out.trans (allN_yes fun i hi => HK.out i (by omega))
            go_wp2_with fail
            go_ret
            exact ⟨ret_bool HV.out.symm, hb.trans (hd.below.mono hb.size)⟩
      · simp only [Bool.not_eq_true] at hord
        have hio : Hid ((ordAt o.length o && inB o.length 1 36) = false) := by unfold Hid; rw [hord]; rfl
        have HV : Hid (aoB true x o = false) := aoB_ord (by rw [← hlen]; exact hord)
        have b1 : ((o.length : Int) != x.length) = false := by simp [hlen]
        clear hlen hord
        go_enter Try.func59, Try.ntmps59
        go_wp2_with fail
        refine (implVG_is _ x _ true HB hx hm hr).mono ?_
        rintro e w1 ⟨rfl, hb1⟩
        have hg1 := (hb1.cell (p := ⟨g, 0, none⟩) hgl).trans hg
        have hov1 := hov.later hb1
        clear hg
        go_wp2_with fail
        refine (isOrd_is _ o _ false hio hov1 hmo).mono ?_
        rintro e w2 ⟨rfl, hb2⟩
        have hb := hb1.trans (hb2.mono hb1.size)
        go_wp2_with fail
        go_ret
        exact ⟨ret_bool HV.out.symm, hb⟩
    · have HV : Hid (aoB true x o = false) := aoB_len hlen
      have b1 : ((o.length : Int) != x.length) = true := by simp; omega
      clear hlen
      go_enter Try.func59, Try.ntmps59
      go_wp2_with fail
      refine (implVG_is _ x _ true HB hx hm hr).mono ?_
      rintro e w1 ⟨rfl, hb1⟩
      have hg1 := (hb1.cell (p := ⟨g, 0, none⟩) hgl).trans hg
      clear hg
      go_wp2_with fail
      go_ret
      exact ⟨ret_bool HV.out.symm, hb1⟩
  · simp only [Bool.not_eq_true] at hG
    have HB := Lib.hid hG
    have HV : Hid (aoB true x o = false) := aoB_grp hG
    obtain ⟨a, c, rfl⟩ := hx.slice
    clear hG
    go_enter Try.func59, Try.ntmps59
    go_wp2_with fail
    refine (implVG_is _ x _ false HB hx hm hr).mono ?_
    rintro e w1 ⟨rfl, hb1⟩
    go_wp2_with fail
    go_ret
    exact ⟨ret_bool HV.out.symm, hb1⟩
set_option maxHeartbeats 1000000 in
theorem implCmp_any (v ov : Value) (x : List (List Int)) (o : List Int) (w : World) (hx : RT w v x) (hm : x.length ≤ 1048576) (hr : Small x) (hov : RI w ov o) (hmo : o.length ≤ 1048576) :
    Calls Try.prog 24 #[.agg #[v], ov] w fun e w' => e = .returned (.bool (aoB true x o)) ∧ Below w.heap.size w w' := by
  obtain ⟨a, c, rfl⟩ := hx.slice
  have hb : Below w.heap.size w (w.alloc (.cells #[.slice a x.length c] 29)) := (Below.refl _ _).alloc (Nat.le_refl _) _
  have c0 : (w.alloc (.cells #[.slice a x.length c] 29)).cell? ⟨w.heap.size, 0, none⟩ = some (.slice a x.length c) := World.cell?_alloc_at _ _ _ _ rfl
  replace hx := hx.later hb
  replace hov := hov.later hb
  have hmf : ∀ (fn : Fn) (first cap : Array Value) (w : World), (Instr.makeFunc fn first cap).run Try.prog w = .ok (.func fn first cap) w := fun _ _ _ _ => rfl
  go_enter Try.func24, Try.ntmps24
  go_wp2_with fail
  generalize w.alloc (.cells #[.slice a x.length c] 29) = w0 at *
  refine (isoT_any _ _ x o _ _ c0 hx hm hr hov hmo).mono ?_
  rintro e w1 ⟨rfl, hb1⟩
  go_wp2_with fail
  go_ret
  exact ⟨rfl, hb.trans (hb1.mono hb.size)⟩
set_option maxRecDepth 100000 in
set_option maxHeartbeats 1000000 in
theorem isoF_any (v ov : Value) (x : List (List Int)) (o : List Int) (g : Nat) (w : World) (hg : w.cell? ⟨g, 0, none⟩ = some v) (hx : RT w v x) (hm : x.length ≤ 1048576) (hr : Small x) (hov : RI w ov o) (hmo : o.length ≤ 1048576) :
    Calls Try.prog 59 #[.pointer (some ⟨g, 0, none⟩), ov, .func (.func 55) #[.pointer (some ⟨g, 0, none⟩)] #[]] w fun e w' => e = .returned (.bool (aoB false x o)) ∧ Below w.heap.size w w' := by
  have hgl : g < w.heap.size := World.block_lt_of_cell? w _ hg
  obtain ⟨oa, oc, rfl⟩ := hov.slice
  have hocap := hov.cap
  by_cases hG : grpB x = true
  · have HB := Lib.hid hG
    have hs : Hid (sqB x = true) := (Gp.of hG).sq
    have hn := (sqB_iff.1 hs.out).1
    obtain ⟨G, O, C, H, F, P, rfl, hat⟩ := hx.sq hs.out
    have HSQ := Lib.hid hat
    clear hat hG
    by_cases hlen : o.length = x.length
    · have HL := Lib.hid hlen
      by_cases hord : ordAt o.length o = true
      · have hio : Hid ((ordAt o.length o && inB o.length 1 36) = true) := by unfold Hid; rw [hord, inB_yes (by omega)]; rfl
        have hE : Hid (Elems x.length o) := by rw [← hlen]; exact ordAt_elems hord
        have HAO : Hid (aoB false x o = allN o.length (fitK false x o)) := aoB_all HB.out hlen (by rw [← hlen]; exact hord)
        have b1 : ((o.length : Int) != x.length) = false := by simp [hlen]
        clear hlen hord
        go_enter Try.func59, Try.ntmps59
        go_wp2_with fail
        refine (implVG_is _ x _ true HB hx hm hr).mono ?_
        rintro e w1 ⟨rfl, hb1⟩
        have hg1 := (hb1.cell (p := ⟨g, 0, none⟩) hgl).trans hg
        have hov1 := hov.later hb1
        clear hg
        go_wp2_with fail
        refine (isOrd_is _ o _ true hio hov1 hmo).mono ?_
        rintro e w2 ⟨rfl, hb2⟩
        have hgl1 : g < w1.heap.size := Nat.lt_of_lt_of_le hgl hb1.size
        have hg2 := (hb2.cell (p := ⟨g, 0, none⟩) hgl1).trans hg1
        have HG2 := Lib.hid hg2
        have HOV := Lib.hid (hov1.later hb2)
        have HX := Lib.hid ((HSQ.out.later hb1).later hb2)
        have hb := hb1.trans (hb2.mono hb1.size)
        have hgl2 : g < w2.heap.size := Nat.lt_of_lt_of_le hgl1 hb2.size
        clear hb1 hb2 hg1 hov1 hx hov hg2
        unfold maxLen at hocap
        go_wp2_with fail
        go_loopw [30] (fun iv wr => ∃ k : Nat, k ≤ o.length ∧ iv = .int .i64 k ∧ Hid (∀ i, i < k → fitK false x o i = true) ∧ Drw w2 wr) (fun iv _ => o.length - (intOf iv).toNat)
        case atStart => exact ⟨0, Nat.zero_le _, rfl, (fun i hi => by omega), Drw.refl _⟩
        case round =>
          obtain ⟨k, hk, rfl, HK, hd⟩ := hrel
          by_cases hlt : k < o.length
          · have hovr := HOV.out.later hd.below
            have hgr := (hd.below.cell (p := ⟨g, 0, none⟩) hgl2).trans HG2.out
            have hck : (k : Int) + 1 ≤ oc := by omega
            have HC : Hid (Calls Try.prog 55 #[.pointer (some ⟨g, 0, none⟩), .slice oa (k + 1) oc] wr fun e w' => e = .returned (.bool (fitK false x o k)) ∧ Drw wr w') := by
              have := antisymmetric_any x (o.take (k + 1)) _ k g wr hs (take_len hlt) (by have := HL.out; omega) (hE.out.take _) (HX.out.later hd.below) (hovr.take (k + 1) (by omega)) hgr
              rw [fitK_take] at this
              exact this
            have HN : Hid (fitK false x o k = true → ∀ i, i < k + 1 → fitK false x o i = true) := fun hf i hi => by
              by_cases h : i = k
              · subst h; exact hf
              · exact HK.out i (by omega)
            have HF : Hid (fitK false x o k = false → aoB false x o = false) := fun h => HAO.out.trans (allN_no k hlt h)
            clear hgr hovr
            generalize hz : fitK false x o k = z at *
            clear hz
            cases z
            · go_wp2_with (go_at_call 55; refine HC.out.mono ?_; rintro e w3 ⟨rfl, hd3⟩)
              go_ret
              exact ⟨ret_bool (HF.out trivial).symm, hb.trans ((hd.trans hd3).below.mono hb.size)⟩
            · go_wp2_with (go_at_call 55; refine HC.out.mono ?_; rintro e w3 ⟨rfl, hd3⟩)
              go_roundw
              case rel => exact ⟨k + 1, by omega, by go_num, HN.out trivial, hd.trans hd3⟩
              case measure => first | (simp [intOf]; done) | (simp [intOf]; omega)
          · have HV : Hid (aoB false x o = true) := HAO.out.trans (allN_yes fun i hi => HK.out i (by omega))
            go_wp2_with fail
            go_ret
            exact ⟨ret_bool HV.out.symm, hb.trans (hd.below.mono hb.size)⟩
      · simp only [Bool.not_eq_true] at hord
        have hio : Hid ((ordAt o.length o && inB o.length 1 36) = false) := by unfold Hid; rw [hord]; rfl
        have HV : Hid (aoB false x o = false) := aoB_ord (by rw [← hlen]; exact hord)
        have b1 : ((o.length : Int) != x.length) = false := by simp [hlen]
        clear hlen hord
        go_enter Try.func59, Try.ntmps59
        go_wp2_with fail
        refine (implVG_is _ x _ true HB hx hm hr).mono ?_
        rintro e w1 ⟨rfl, hb1⟩
        have hg1 := (hb1.cell (p := ⟨g, 0, none⟩) hgl).trans hg
        have hov1 := hov.later hb1
        clear hg
        go_wp2_with fail
        refine (isOrd_is _ o _ false hio hov1 hmo).mono ?_
        rintro e w2 ⟨rfl, hb2⟩
        have hb := hb1.trans (hb2.mono hb1.size)
        go_wp2_with fail
        go_ret
        exact ⟨ret_bool HV.out.symm, hb⟩
    · have HV : Hid (aoB false x o = false) := aoB_len hlen
      have b1 : ((o.length : Int) != x.length) = true := by simp; omega
      clear hlen
      go_enter Try.func59, Try.ntmps59
      go_wp2_with fail
      refine (implVG_is _ x _ true HB hx hm hr).mono ?_
      rintro e w1 ⟨rfl, hb1⟩
      have hg1 := (hb1.cell (p := ⟨g, 0, none⟩) hgl).trans hg
      clear hg
      go_wp2_with fail
      go_ret
      exact ⟨ret_bool HV.out.symm, hb1⟩
  · simp only [Bool.not_eq_true] at hG
    have HB := Lib.hid hG
    have HV : Hid (aoB false x o = false) := aoB_grp hG
    obtain ⟨a, c, rfl⟩ := hx.slice
    clear hG
    go_enter Try.func59, Try.ntmps59
    go_wp2_with fail
    refine (implVG_is _ x _ false HB hx hm hr).mono ?_
    rintro e w1 ⟨rfl, hb1⟩
    go_wp2_with fail
    go_ret
    exact ⟨ret_bool HV.out.symm, hb1⟩
set_option maxHeartbeats 1000000 in
theorem implAnt_any (v ov : Value) (x : List (List Int)) (o : List Int) (w : World) (hx : RT w v x) (hm : x.length ≤ 1048576) (hr : Small x) (hov : RI w ov o) (hmo : o.length ≤ 1048576) :
    Calls Try.prog 25 #[.agg #[v], ov] w fun e w' => e = .returned (.bool (aoB false x o)) ∧ Below w.heap.size w w' := by
  obtain ⟨a, c, rfl⟩ := hx.slice
  have hb : Below w.heap.size w (w.alloc (.cells #[.slice a x.length c] 29)) := (Below.refl _ _).alloc (Nat.le_refl _) _
  have c0 : (w.alloc (.cells #[.slice a x.length c] 29)).cell? ⟨w.heap.size, 0, none⟩ = some (.slice a x.length c) := World.cell?_alloc_at _ _ _ _ rfl
  replace hx := hx.later hb
  replace hov := hov.later hb
  have hmf : ∀ (fn : Fn) (first cap : Array Value) (w : World), (Instr.makeFunc fn first cap).run Try.prog w = .ok (.func fn first cap) w := fun _ _ _ _ => rfl
  go_enter Try.func25, Try.ntmps25
  go_wp2_with fail
  generalize w.alloc (.cells #[.slice a x.length c] 29) = w0 at *
  refine (isoF_any _ _ x o _ _ c0 hx hm hr hov hmo).mono ?_
  rintro e w1 ⟨rfl, hb1⟩
  go_wp2_with fail
  go_ret
  exact ⟨rfl, hb.trans (hb1.mono hb.size)⟩
end Go.Proofs.Ytghmpaegmicheaa
