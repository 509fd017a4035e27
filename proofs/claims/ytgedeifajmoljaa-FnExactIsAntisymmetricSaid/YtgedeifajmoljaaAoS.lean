/- IsComplete and IsAntisymmetric of the reference. -/
import Derived.Test.YtgedeifajmoljaaAo
namespace Go.Proofs.Ytgedeifajmoljaa
open Go.RowKit

/-- What l05Maps answers. -/
def mpB (x : List (List Int)) (o : List Int) : Bool := grpB x && (ordAt x.length o && decide ((o.length : Int) = x.length))
set_option maxHeartbeats 1000000 in
theorem l05Maps_any (v ov : Value) (x : List (List Int)) (o : List Int) (g : Nat) (w : World) (hg : w.cell? ⟨g, 0, none⟩ = some v) (hx : RT w v x) (hm : x.length ≤ 1048576) (hr : Small x) (hov : RI w ov o) (hmo : o.length ≤ 1048576) :
    Calls Try.prog 72 #[.pointer (some ⟨g, 0, none⟩), ov] w fun e w' => e = .returned (.bool (mpB x o)) ∧ Drw w w' := by
  have hgl : g < w.heap.size := World.block_lt_of_cell? w _ hg
  obtain ⟨a, c, rfl⟩ := hx.slice
  cases hG : grpB x
  · have HB := Lib.hid hG
    have HV : Hid (mpB x o = false) := by unfold Hid mpB; rw [hG]; rfl
    clear hG
    go_enter Try.func72, Try.ntmps72
    go_wp2_with fail
    refine (l05Is_q _ x _ _ false HB hg hx hm hr).mono ?_
    rintro e w1 ⟨rfl, hd1⟩
    go_wp2_with fail
    go_ret
    exact ⟨ret_bool HV.out.symm, hd1⟩
  · have HB := Lib.hid hG
    have hV : mpB x o = (ordAt x.length o && decide ((o.length : Int) = x.length)) := by unfold mpB; rw [hG]; rfl
    have HV := Lib.hid hV
    clear hV hG
    go_enter Try.func72, Try.ntmps72
    go_wp2_with fail
    refine (l05Is_q _ x _ _ true HB hg hx hm hr).mono ?_
    rintro e w1 ⟨rfl, hd1⟩
    have hg1 := (hd1.below.cell (p := ⟨g, 0, none⟩) hgl).trans hg
    have hov1 := hov.later hd1.below
    clear hg
    go_wp2_with fail
    refine (l01Order_is _ o _ _ _ (show Hid (_ = mpB x o) from HV.out.symm) hov1 hmo (by omega)).mono ?_
    rintro e w2 ⟨rfl, hd2⟩
    go_wp2_with fail
    go_ret
    exact ⟨rfl, hd1.trans hd2⟩
theorem l05Maps_is (v ov : Value) (x : List (List Int)) (o : List Int) (g : Nat) (w : World) (b : Bool) (h : Hid (mpB x o = b)) (hg : w.cell? ⟨g, 0, none⟩ = some v) (hx : RT w v x) (hm : x.length ≤ 1048576) (hr : Small x) (hov : RI w ov o) (hmo : o.length ≤ 1048576) :
    Calls Try.prog 72 #[.pointer (some ⟨g, 0, none⟩), ov] w fun e w' => e = .returned (.bool b) ∧ Drw w w' := by
  have := l05Maps_any v ov x o g w hg hx hm hr hov hmo
  rw [h.out] at this; exact this
theorem aoB_mp {cm : Bool} {x : List (List Int)} {o : List Int} (h : mpB x o = false) : aoB cm x o = false := by
  unfold mpB at h
  unfold aoB
  have e : (decide (o.length = x.length) && ordAt x.length o) = (ordAt x.length o && decide ((o.length : Int) = x.length)) := by
    rw [Bool.and_comm, show decide ((o.length : Int) = x.length) = decide (o.length = x.length) from decide_eq_decide.2 (by omega)]
  rw [e, h]; rfl
theorem mp_of {x : List (List Int)} {o : List Int} (h : mpB x o = true) : grpB x = true ∧ ordAt x.length o = true ∧ o.length = x.length := by
  unfold mpB at h
  simp only [Bool.and_eq_true, decide_eq_true_eq] at h
  exact ⟨h.1, h.2.1, by omega⟩

set_option maxRecDepth 100000 in
set_option maxHeartbeats 1000000 in
theorem allT_any (x : List (List Int)) (o : List Int) (ov : Value) (g : Nat) (w : World) {G O C : Nat} {H F P : Nat → Nat} (hs : Hid (sqB x = true)) (hL : o.length = x.length) (hord : ordAt x.length o = true) (hx : SqAt G O H F P x w) (hov : RI w ov o) (hg : w.cell? ⟨g, 0, none⟩ = some (.slice (some ⟨G, O, none⟩) x.length C)) :
    Calls Try.prog 73 #[.pointer (some ⟨g, 0, none⟩), ov, .bool true] w fun e w' => e = .returned (.bool (allN o.length (fitK true x o))) ∧ Drw w w' := by
  have hgl : g < w.heap.size := World.block_lt_of_cell? w _ hg
  have hn := (sqB_iff.1 hs.out).1
  obtain ⟨oa, oc, rfl⟩ := hov.slice
  have hocap := hov.cap
  unfold maxLen at hocap
  have HX := Lib.hid hx
  have HOV := Lib.hid hov
  have HG := Lib.hid hg
  have HL := Lib.hid hL
  have HE : Hid (Elems x.length o) := ordAt_elems hord
  have HO := Lib.hid hord
  clear hx hov hg hL hord
  go_enter Try.func73, Try.ntmps73
  go_wp2_with fail
  go_loopw [7] (fun iv wr => ∃ k : Nat, k ≤ o.length ∧ iv = .int .i64 ((k : Int) + 1) ∧ Hid (∀ i, i < k → fitK true x o i = true) ∧ Drw w wr) (fun iv _ => o.length + 1 - (intOf iv).toNat)
  case atStart => exact ⟨0, Nat.zero_le _, rfl, (fun i hi => by omega), Drw.refl _⟩
  case round =>
    obtain ⟨k, hk, rfl, HK, hd⟩ := hrel
    have hkb : (k : Int) ≤ 10 := by have := HL.out; omega
    by_cases hlt : k < o.length
    · have hovr := HOV.out.later hd.below
      have hgr := (hd.below.cell (p := ⟨g, 0, none⟩) hgl).trans HG.out
      have hck : (k : Int) + 1 ≤ oc := by omega
      have hkl : (k : Int) + 1 ≤ o.length := by omega
      have HC : Hid (Calls Try.prog 88 #[.pointer (some ⟨g, 0, none⟩), .slice oa (k + 1) oc, .bool true] wr fun e w' => e = .returned (.bool (fitK true x o k)) ∧ Drw wr w') := by
        have := fitsT_any x (o.take (k + 1)) _ k g wr hs (take_len hlt) (by have := HL.out; omega) (HE.out.take _) (HX.out.later hd.below) (hovr.take (k + 1) (by omega)) hgr
        rw [fitL_take, fitL_ord HO.out hlt] at this
        exact this
      have HN : Hid (fitK true x o k = true → ∀ i, i < k + 1 → fitK true x o i = true) := fun hf i hi => by
        by_cases h : i = k
        · subst h; exact hf
        · exact HK.out i (by omega)
      have HF : Hid (fitK true x o k = false → allN o.length (fitK true x o) = false) := fun h => allN_no k hlt h
      clear hgr hovr
      generalize hz : fitK true x o k = z at *
      clear hz
      cases z
      · go_wp2_with (go_at_call 88; refine HC.out.mono ?_; rintro e w3 ⟨rfl, hd3⟩)
        go_ret
        exact ⟨ret_bool (HF.out trivial).symm, hd.trans hd3⟩
      · go_wp2_with (go_at_call 88; refine HC.out.mono ?_; rintro e w3 ⟨rfl, hd3⟩)
        go_roundw
        case rel => exact ⟨k + 1, by omega, by go_num, HN.out trivial, hd.trans hd3⟩
        case measure => first | (simp [intOf]; done) | (simp [intOf]; omega)
    · have hkl : ¬ (k : Int) + 1 ≤ o.length := by omega
      have HV : Hid (allN o.length (fitK true x o) = true) := allN_yes fun i hi => HK.out i (by omega)
      go_wp2_with fail
      go_ret
      exact ⟨ret_bool HV.out.symm, hd⟩
set_option maxHeartbeats 1000000 in
theorem specCom_any (v ov : Value) (x : List (List Int)) (o : List Int) (w : World) (hx : RT w v x) (hm : x.length ≤ 1048576) (hr : Small x) (hov : RI w ov o) (hmo : o.length ≤ 1048576) :
    Calls Try.prog 46 #[.agg #[v], ov] w fun e w' => e = .returned (.bool (aoB true x o)) ∧ Below w.heap.size w w' := by
  cases hM : mpB x o
  · have HM := Lib.hid hM
    have HV : Hid (aoB true x o = false) := aoB_mp hM
    clear hM
    obtain ⟨a, c, rfl⟩ := hx.slice
    have hb : Below w.heap.size w (w.alloc (.cells #[.slice a x.length c] 24)) := (Below.refl _ _).alloc (Nat.le_refl _) _
    have c0 : (w.alloc (.cells #[.slice a x.length c] 24)).cell? ⟨w.heap.size, 0, none⟩ = some (.slice a x.length c) := World.cell?_alloc_at _ _ _ _ rfl
    replace hx := hx.later hb
    replace hov := hov.later hb
    go_enter Try.func46, Try.ntmps46
    go_wp2_with fail
    generalize w.alloc (.cells #[.slice a x.length c] 24) = w0 at *
    refine (l05Maps_is _ _ x o _ _ false HM c0 hx hm hr hov hmo).mono ?_
    rintro e w1 ⟨rfl, hd1⟩
    go_wp2_with fail
    go_ret
    exact ⟨ret_bool HV.out.symm, hb.trans (hd1.below.mono hb.size)⟩
  · have HM := Lib.hid hM
    obtain ⟨hG, hO, hL⟩ := mp_of hM
    have hs : Hid (sqB x = true) := (Gp.of hG).sq
    have HV : Hid (aoB true x o = allN o.length (fitK true x o)) := aoB_all hG hL hO
    obtain ⟨G, O, C, H, F, P, rfl, hat⟩ := hx.sq hs.out
    have hb : Below w.heap.size w (w.alloc (.cells #[.slice (some ⟨G, O, none⟩) x.length C] 24)) := (Below.refl _ _).alloc (Nat.le_refl _) _
    have c0 : (w.alloc (.cells #[.slice (some ⟨G, O, none⟩) x.length C] 24)).cell? ⟨w.heap.size, 0, none⟩ = some (.slice (some ⟨G, O, none⟩) x.length C) := World.cell?_alloc_at _ _ _ _ rfl
    have hlt : w.heap.size < (w.alloc (.cells #[.slice (some ⟨G, O, none⟩) x.length C] 24)).heap.size := by simp
    replace hx := hx.later hb
    replace hov := hov.later hb
    have HSQ := Lib.hid (hat.later hb)
    have HO := Lib.hid hO
    have HL := Lib.hid hL
    clear hat hM hG hO hL
    go_enter Try.func46, Try.ntmps46
    go_wp2_with fail
    generalize w.alloc (.cells #[.slice (some ⟨G, O, none⟩) x.length C] 24) = w0 at *
    refine (l05Maps_is _ _ x o _ _ true HM c0 hx hm hr hov hmo).mono ?_
    rintro e w1 ⟨rfl, hd1⟩
    have c1 := (hd1.below.cell (p := ⟨w.heap.size, 0, none⟩) hlt).trans c0
    have hov1 := hov.later hd1.below
    clear c0
    go_wp2_with fail
    refine (allT_any x o _ _ _ hs HL.out HO.out (HSQ.out.later hd1.below) hov1 c1).mono ?_
    rintro e w2 ⟨rfl, hd2⟩
    go_wp2_with fail
    go_ret
    exact ⟨ret_bool HV.out.symm, hb.trans ((hd1.trans hd2).below.mono hb.size)⟩
set_option maxRecDepth 100000 in
set_option maxHeartbeats 1000000 in
theorem allF_any (x : List (List Int)) (o : List Int) (ov : Value) (g : Nat) (w : World) {G O C : Nat} {H F P : Nat → Nat} (hs : Hid (sqB x = true)) (hL : o.length = x.length) (hord : ordAt x.length o = true) (hx : SqAt G O H F P x w) (hov : RI w ov o) (hg : w.cell? ⟨g, 0, none⟩ = some (.slice (some ⟨G, O, none⟩) x.length C)) :
    Calls Try.prog 73 #[.pointer (some ⟨g, 0, none⟩), ov, .bool false] w fun e w' => e = .returned (.bool (allN o.length (fitK false x o))) ∧ Drw w w' := by
  have hgl : g < w.heap.size := World.block_lt_of_cell? w _ hg
  have hn := (sqB_iff.1 hs.out).1
  obtain ⟨oa, oc, rfl⟩ := hov.slice
  have hocap := hov.cap
  unfold maxLen at hocap
  have HX := Lib.hid hx
  have HOV := Lib.hid hov
  have HG := Lib.hid hg
  have HL := Lib.hid hL
  have HE : Hid (Elems x.length o) := ordAt_elems hord
  have HO := Lib.hid hord
  clear hx hov hg hL hord
  go_enter Try.func73, Try.ntmps73
  go_wp2_with fail
  go_loopw [7] (fun iv wr => ∃ k : Nat, k ≤ o.length ∧ iv = .int .i64 ((k : Int) + 1) ∧ Hid (∀ i, i < k → fitK false x o i = true) ∧ Drw w wr) (fun iv _ => o.length + 1 - (intOf iv).toNat)
  case atStart => exact ⟨0, Nat.zero_le _, rfl, (fun i hi => by omega), Drw.refl _⟩
  case round =>
    obtain ⟨k, hk, rfl, HK, hd⟩ := hrel
    have hkb : (k : Int) ≤ 10 := by have := HL.out; omega
    by_cases hlt : k < o.length
    · have hovr := HOV.out.later hd.below
      have hgr := (hd.below.cell (p := ⟨g, 0, none⟩) hgl).trans HG.out
      have hck : (k : Int) + 1 ≤ oc := by omega
      have hkl : (k : Int) + 1 ≤ o.length := by omega
      have HC : Hid (Calls Try.prog 88 #[.pointer (some ⟨g, 0, none⟩), .slice oa (k + 1) oc, .bool false] wr fun e w' => e = .returned (.bool (fitK false x o k)) ∧ Drw wr w') := by
        have := fitsF_any x (o.take (k + 1)) _ k g wr hs (take_len hlt) (by have := HL.out; omega) (HE.out.take _) (HX.out.later hd.below) (hovr.take (k + 1) (by omega)) hgr
        rw [fitL_take, fitL_ord HO.out hlt] at this
        exact this
      have HN : Hid (fitK false x o k = true → ∀ i, i < k + 1 → fitK false x o i = true) := fun hf i hi => by
        by_cases h : i = k
        · subst h; exact hf
        · exact HK.out i (by omega)
      have HF : Hid (fitK false x o k = false → allN o.length (fitK false x o) = false) := fun h => allN_no k hlt h
      clear hgr hovr
      generalize hz : fitK false x o k = z at *
      clear hz
      cases z
      · go_wp2_with (go_at_call 88; refine HC.out.mono ?_; rintro e w3 ⟨rfl, hd3⟩)
        go_ret
        exact ⟨ret_bool (HF.out trivial).symm, hd.trans hd3⟩
      · go_wp2_with (go_at_call 88; refine HC.out.mono ?_; rintro e w3 ⟨rfl, hd3⟩)
        go_roundw
        case rel => exact ⟨k + 1, by omega, by go_num, HN.out trivial, hd.trans hd3⟩
        case measure => first | (simp [intOf]; done) | (simp [intOf]; omega)
    · have hkl : ¬ (k : Int) + 1 ≤ o.length := by omega
      have HV : Hid (allN o.length (fitK false x o) = true) := allN_yes fun i hi => HK.out i (by omega)
      go_wp2_with fail
      go_ret
      exact ⟨ret_bool HV.out.symm, hd⟩
set_option maxHeartbeats 1000000 in
theorem specAnt_any (v ov : Value) (x : List (List Int)) (o : List Int) (w : World) (hx : RT w v x) (hm : x.length ≤ 1048576) (hr : Small x) (hov : RI w ov o) (hmo : o.length ≤ 1048576) :
    Calls Try.prog 43 #[.agg #[v], ov] w fun e w' => e = .returned (.bool (aoB false x o)) ∧ Below w.heap.size w w' := by
  cases hM : mpB x o
  · have HM := Lib.hid hM
    have HV : Hid (aoB false x o = false) := aoB_mp hM
    clear hM
    obtain ⟨a, c, rfl⟩ := hx.slice
    have hb : Below w.heap.size w (w.alloc (.cells #[.slice a x.length c] 24)) := (Below.refl _ _).alloc (Nat.le_refl _) _
    have c0 : (w.alloc (.cells #[.slice a x.length c] 24)).cell? ⟨w.heap.size, 0, none⟩ = some (.slice a x.length c) := World.cell?_alloc_at _ _ _ _ rfl
    replace hx := hx.later hb
    replace hov := hov.later hb
    go_enter Try.func43, Try.ntmps43
    go_wp2_with fail
    generalize w.alloc (.cells #[.slice a x.length c] 24) = w0 at *
    refine (l05Maps_is _ _ x o _ _ false HM c0 hx hm hr hov hmo).mono ?_
    rintro e w1 ⟨rfl, hd1⟩
    go_wp2_with fail
    go_ret
    exact ⟨ret_bool HV.out.symm, hb.trans (hd1.below.mono hb.size)⟩
  · have HM := Lib.hid hM
    obtain ⟨hG, hO, hL⟩ := mp_of hM
    have hs : Hid (sqB x = true) := (Gp.of hG).sq
    have HV : Hid (aoB false x o = allN o.length (fitK false x o)) := aoB_all hG hL hO
    obtain ⟨G, O, C, H, F, P, rfl, hat⟩ := hx.sq hs.out
    have hb : Below w.heap.size w (w.alloc (.cells #[.slice (some ⟨G, O, none⟩) x.length C] 24)) := (Below.refl _ _).alloc (Nat.le_refl _) _
    have c0 : (w.alloc (.cells #[.slice (some ⟨G, O, none⟩) x.length C] 24)).cell? ⟨w.heap.size, 0, none⟩ = some (.slice (some ⟨G, O, none⟩) x.length C) := World.cell?_alloc_at _ _ _ _ rfl
    have hlt : w.heap.size < (w.alloc (.cells #[.slice (some ⟨G, O, none⟩) x.length C] 24)).heap.size := by simp
    replace hx := hx.later hb
    replace hov := hov.later hb
    have HSQ := Lib.hid (hat.later hb)
    have HO := Lib.hid hO
    have HL := Lib.hid hL
    clear hat hM hG hO hL
    go_enter Try.func43, Try.ntmps43
    go_wp2_with fail
    generalize w.alloc (.cells #[.slice (some ⟨G, O, none⟩) x.length C] 24) = w0 at *
    refine (l05Maps_is _ _ x o _ _ true HM c0 hx hm hr hov hmo).mono ?_
    rintro e w1 ⟨rfl, hd1⟩
    have c1 := (hd1.below.cell (p := ⟨w.heap.size, 0, none⟩) hlt).trans c0
    have hov1 := hov.later hd1.below
    clear c0
    go_wp2_with fail
    refine (allF_any x o _ _ _ hs HL.out HO.out (HSQ.out.later hd1.below) hov1 c1).mono ?_
    rintro e w2 ⟨rfl, hd2⟩
    go_wp2_with fail
    go_ret
    exact ⟨ret_bool HV.out.symm, hb.trans ((hd1.trans hd2).below.mono hb.size)⟩
end Go.Proofs.Ytgedeifajmoljaa
