/- FoldWord: the two sides. -/
import Derived.Test.YtdkheeocglfogaaFoldP
import Derived.Test.YtdkheeocglfogaaFamL
namespace Go.Proofs.Ytdkheeocglfogaa
open Go.RowKit

set_option maxHeartbeats 1000000 in
theorem fold1_any (f t : ByteArray) (i P Q : Nat) (w : World) (hi : i < t.size) (ht : t.size ≤ 20) (hf : f.size ≤ 1048576) (c0 : w.cell? ⟨P, 0, none⟩ = some (.string t)) (c1 : w.cell? ⟨Q, 0, none⟩ = some (.int .i64 i)) :
    Calls Try.prog 54 #[.string f, .pointer (some ⟨P, 0, none⟩), .pointer (some ⟨Q, 0, none⟩)] w fun e w' => e = .returned (.bool (decide ((bz t).getD i 0 ∈ bz f))) ∧ Below w.heap.size w w' := by
  have hg := bz_get t i hi
  have HI := Lib.hid (indexByte_any f (t[i].toNat : Int) w (by rw [← hg]; exact bz_in t _ (getD_mem (by rw [bz_len]; exact hi))))
  have HZ : Hid (decide (0 ≤ ix (bz f) (t[i].toNat : Int)) = decide ((bz t).getD i 0 ∈ bz f)) := by
    unfold Hid; rw [ix_mem, hg]
  generalize ix (bz f) (t[i].toNat : Int) = z at *
  have f1 : (i : Int) < (t.size : Int) := by omega
  clear hg
  go_enter Try.func54, Try.ntmps54
  go_wp2_with (go_at_call 45; refine HI.out.mono ?_; rintro e w' ⟨rfl, rfl⟩)
  go_ret
  exact ⟨ret_bool HZ.out, Below.refl _ _⟩
/-- What IndexFunc answers: the place of the family that has the byte, or -1. -/
def IfP (F : List ByteArray) (c : Int) (z : Int) : Prop := (∃ q : Nat, z = (q : Int) ∧ q < F.length ∧ c ∈ bz (sAt F q)) ∨ (z = -1 ∧ ∀ q, q < F.length → c ∉ bz (sAt F q))
set_option maxHeartbeats 1000000 in
theorem indexF_any (v : Value) (F : List ByteArray) (t : ByteArray) (i P Q : Nat) (w : World) (hx : RS w v F) (hm : F.length ≤ 1048576) (hz : Hid (∀ k, k < F.length → (sAt F k).size ≤ 1048576)) (hi : i < t.size) (ht : t.size ≤ 20) (c0 : w.cell? ⟨P, 0, none⟩ = some (.string t)) (c1 : w.cell? ⟨Q, 0, none⟩ = some (.int .i64 i)) :
    Calls Try.prog 53 #[v, .func (.func 54) #[] #[.pointer (some ⟨P, 0, none⟩), .pointer (some ⟨Q, 0, none⟩)]] w fun e w' => ∃ r : Int, e = .returned (.int .i64 r) ∧ Hid (IfP F ((bz t).getD i 0) r) ∧ Below w.heap.size w w' := by
  obtain ⟨a, c, rfl⟩ := hx.slice
  have HC : Hid (∀ wr, Below w.heap.size w wr → wr.cell? ⟨P, 0, none⟩ = some (.string t) ∧ wr.cell? ⟨Q, 0, none⟩ = some (.int .i64 i)) := fun wr h =>
    ⟨(h.cell (p := ⟨P, 0, none⟩) (World.block_lt_of_cell? w _ c0)).trans c0, (h.cell (p := ⟨Q, 0, none⟩) (World.block_lt_of_cell? w _ c1)).trans c1⟩
  clear c0 c1
  go_enter Try.func53, Try.ntmps53
  go_wp2_with fail
  go_loopw [8] (fun iv wr => ∃ k : Nat, k ≤ F.length ∧ iv = .int .i64 k ∧ Hid (∀ q, q < k → (bz t).getD i 0 ∉ bz (sAt F q)) ∧ Below w.heap.size w wr) (fun iv _ => F.length - (intOf iv).toNat)
  case atStart => exact ⟨0, Nat.zero_le _, rfl, (fun i hi => by omega), Below.refl _ _⟩
  case round =>
    obtain ⟨k, hk, rfl, HK, hb⟩ := hrel
    have hsz := hb.size
    by_cases hlt : k < F.length
    · obtain ⟨g, off, rfl, hg, hc⟩ := (hx.later hb).at k hlt
      have h0 : (0 : Int) ≤ (k : Int) := by omega
      obtain ⟨d0, d1⟩ := HC.out _ hb
      have HF := Lib.hid (fold1_any (sAt F k) t i P Q wr hi ht (hz.out k hlt) d0 d1)
      by_cases hin : (bz t).getD i 0 ∈ bz (sAt F k)
      · rw [decide_eq_true hin] at HF
        have HR : Hid (IfP F ((bz t).getD i 0) (k : Int)) := .inl ⟨k, rfl, hlt, hin⟩
        clear hin d0 d1
        generalize sAt F k = s at *
        go_wp2_with fail
        refine HF.out.mono ?_
        rintro e w1 ⟨rfl, hb1⟩
        go_wp2_with fail
        go_ret
        exact ⟨_, rfl, HR, hb.trans (hb1.mono hsz)⟩
      · rw [decide_eq_false hin] at HF
        have HN : Hid (∀ q, q < k + 1 → (bz t).getD i 0 ∉ bz (sAt F q)) := fun q hq => by
          by_cases h : q = k
          · subst h; exact hin
          · exact HK.out q (by omega)
        clear hin d0 d1
        generalize sAt F k = s at *
        go_wp2_with fail
        refine HF.out.mono ?_
        rintro e w1 ⟨rfl, hb1⟩
        go_wp2_with fail
        go_roundw
        case rel => exact ⟨k + 1, by omega, by go_num, HN, hb.trans (hb1.mono hsz)⟩
        case measure => first | (simp [intOf]; done) | (simp [intOf]; omega)
    · obtain rfl : k = F.length := by omega
      go_wp2_with fail
      go_ret
      exact ⟨_, rfl, .inr ⟨rfl, HK.out⟩, hb⟩
def FwPost (s : ByteArray) (l : List ByteArray) (t : ByteArray) (w : World) (e : Ending) (w' : World) : Prop := e = .returned (fwV s l (fmL s l) t (vlB s l)) ∧ Below w.heap.size w w'
theorem fwV_no {s : ByteArray} {l F : List ByteArray} {t : ByteArray} : fwV s l F t false = .tuple #[.string ByteArray.empty, .bool false] := by unfold fwV; rfl
theorem fwV_long {s : ByteArray} {l F : List ByteArray} {t : ByteArray} {b : Bool} (h : ¬ t.size ≤ 20) : fwV s l F t b = .tuple #[.string ByteArray.empty, .bool false] := by unfold fwV; rw [decide_eq_false h]; simp
theorem fwV_miss {s : ByteArray} {l F : List ByteArray} {t : ByteArray} {b : Bool} (h : foB F t = false) : fwV s l F t b = .tuple #[.string ByteArray.empty, .bool false] := by unfold fwV; rw [h]; simp
theorem fwV_yes {s : ByteArray} {l F : List ByteArray} {t : ByteArray} (h1 : t.size ≤ 20) (h : foB F t = true) : fwV s l F t true = .tuple #[.string (strOfNums (foX F t)), .bool true] := by unfold fwV; rw [h, decide_eq_true h1]; rfl
theorem fmL_fa {s : ByteArray} {l : List ByteArray} (h : vlB s l = true) : FA s (fmL s l) := by
  obtain ⟨hs1, hd, _, _⟩ := vl_facts h
  unfold fmL; rw [if_pos h]
  exact FA.of (lk_symm s l) hs1.2 hd
theorem fmL_eq {s : ByteArray} {l : List ByteArray} (h : vlB s l = true) : fams s (lk s l) s.size = fmL s l := by unfold fmL; rw [if_pos h]
set_option maxRecDepth 100000 in
set_option maxHeartbeats 4000000 in
theorem implFw_any (s : ByteArray) (v : Value) (l : List ByteArray) (t : ByteArray) (w : World) (hx : RS w v l) (hs : s.size ≤ 1048576) (hm : l.length ≤ 1048576) (ht : t.size ≤ 1048576) :
    Calls Try.prog 22 #[.agg #[.string s, v], .string t] w (FwPost s l t w) := by
  obtain ⟨a, c, rfl⟩ := hx.slice
  have hb : Below w.heap.size w ((w.alloc (.cells #[.string s, .slice a l.length c] 27)).alloc (.cells #[.string t] 9)) := ((Below.refl _ _).alloc (Nat.le_refl _) _).alloc (by simp) _
  have hbx : LX w.heap.size s (.slice a l.length c) ((w.alloc (.cells #[.string s, .slice a l.length c] 27)).alloc (.cells #[.string t] 9)) := by
    have h0 : LX w.heap.size s (.slice a l.length c) (w.alloc (.cells #[.string s, .slice a l.length c] 27)) := ⟨World.cell?_alloc_at _ _ _ _ rfl, World.cell?_alloc_at _ _ _ _ rfl⟩
    exact h0.later ((Below.refl _ _).alloc (Nat.le_refl _) _)
  have hP : ((w.alloc (.cells #[.string s, .slice a l.length c] 27)).alloc (.cells #[.string t] 9)).cell? ⟨w.heap.size + 1, 0, none⟩ = some (.string t) := World.cell?_alloc_at _ _ _ _ (by simp)
  have hx1 := hx.later hb
  have HV : Hid (∀ b, vlB s l = b → ∀ wx, RS wx (.slice a l.length c) l → Calls Try.prog 13 #[.agg #[.string s, .slice a l.length c]] wx fun e w' => e = .returned (.bool b) ∧ Below wx.heap.size wx w') := fun b e wx h => by
    rw [← e]; exact implVL_any s _ l wx h hs hm
  have c0 := hbx.c0
  have c1 := hbx.c1
  cases hv : vlB s l
  · have HVV := Lib.hid hv
    have HC := Lib.hid (HV.out _ hv)
    clear hv HV hP
    go_enter Try.func22, Try.ntmps22
    go_wp2_with fail
    generalize (w.alloc (.cells #[.string s, .slice a l.length c] 27)).alloc (.cells #[.string t] 9) = w0 at *
    refine (HC.out _ hx1).mono ?_
    rintro e w1 ⟨rfl, hb1⟩
    go_wp2_with fail
    go_ret2
    exact ⟨by rw [HVV.out, fwV_no]; rfl, hb.trans (hb1.mono hb.size)⟩
  · have HVV := Lib.hid hv
    obtain ⟨hs1, _, _, _⟩ := vl_facts hv
    have HFA := Lib.hid (fmL_fa hv)
    have HFE := Lib.hid (fmL_eq hv)
    have HC := Lib.hid (HV.out _ hv)
    clear hv HV
    by_cases ht20 : (t.size : Int) ≤ 20
    case neg =>
      have HL : Hid (¬ t.size ≤ 20) := by unfold Hid; omega
      have hPl : w.heap.size + 1 < ((w.alloc (.cells #[.string s, .slice a l.length c] 27)).alloc (.cells #[.string t] 9)).heap.size := by simp
      go_enter Try.func22, Try.ntmps22
      go_wp2_with fail
      generalize (w.alloc (.cells #[.string s, .slice a l.length c] 27)).alloc (.cells #[.string t] 9) = w0 at *
      refine (HC.out _ hx1).mono ?_
      rintro e w1 ⟨rfl, hb1⟩
      replace hP := (hb1.cell (p := ⟨w.heap.size + 1, 0, none⟩) hPl).trans hP
      go_wp2_with fail
      go_ret2
      exact ⟨by rw [fwV_long HL.out]; rfl, hb.trans (hb1.mono hb.size)⟩
    have HL : Hid (t.size ≤ 20) := by unfold Hid; omega
    have hPl : w.heap.size + 1 < ((w.alloc (.cells #[.string s, .slice a l.length c] 27)).alloc (.cells #[.string t] 9)).heap.size := by simp
    go_enter Try.func22, Try.ntmps22
    go_wp2_with fail
    generalize (w.alloc (.cells #[.string s, .slice a l.length c] 27)).alloc (.cells #[.string t] 9) = w0 at *
    refine (HC.out _ hx1).mono ?_
    rintro e w1 ⟨rfl, hb1⟩
    replace hP := (hb1.cell (p := ⟨w.heap.size + 1, 0, none⟩) hPl).trans hP
    replace hPl := Nat.lt_of_lt_of_le hPl hb1.size
    replace hbx := hbx.later hb1
    replace hx1 := hx1.later hb1
    replace hb := hb.trans (hb1.mono hb.size)
    clear c0 c1 HC hb1
    go_wp2_with fail
    refine (families_any _ s _ l _ hbx hx1 hm hs1.2).mono ?_
    rintro e w2 ⟨vf, rfl, of, hb1⟩
    rw [HFE.out] at of
    replace hP := (hb1.cell (p := ⟨w.heap.size + 1, 0, none⟩) hPl).trans hP
    replace hPl := Nat.lt_of_lt_of_le hPl hb1.size
    replace hb := hb.trans (hb1.mono hb.size)
    have hrf := of.read
    obtain ⟨fa, fc, rfl⟩ := hrf.slice
    obtain ⟨F, hF⟩ : ∃ F, F = fmL s l := ⟨_, rfl⟩
    rw [← hF] at hrf HFA ⊢
    have HFL : Hid (fmL s l = F) := hF.symm
    clear hF
    have HB0 := Lib.hid hb
    have hz2 := hb.size
    have HALL : Hid (∀ wr, Below w2.heap.size w2 wr → RS wr (.slice fa F.length fc) F ∧ wr.cell? ⟨w.heap.size + 1, 0, none⟩ = some (.string t)) := fun wr h => ⟨hrf.later h, (h.cell (p := ⟨w.heap.size + 1, 0, none⟩) hPl).trans hP⟩
    have hF18 := HFA.out.len
    have HFZ : Hid (∀ k, k < F.length → (sAt F k).size ≤ 1048576) := fun k hk => by have := (HFA.out.sz k hk).2; omega
    clear hb1 hbx hx1 of hrf hb
    have hb1 : Below w2.heap.size w2 (w2.alloc (.cells #[] 5)) := (Below.refl _ _).alloc (Nat.le_refl _) _
    have ho : OB w2.heap.size (w2.alloc (.cells #[] 5)) (.slice (some ⟨w2.heap.size, 0, none⟩) 0 0) ((foX F t).take 0) := OK.made _ _ _ (Nat.le_refl _)
    have hP1 := (HALL.out _ hb1).2
    clear hP
    go_wp2_with fail
    clear hP1
    generalize w2.alloc (.cells #[] 5) = w3 at *
    generalize Value.slice (some ⟨w2.heap.size, 0, none⟩) 0 0 = v0 at *
    go_loopw [7, 22] (fun ov iv wr => ∃ k : Nat, k ≤ t.size ∧ iv = .int .i64 k ∧ OB w2.heap.size wr ov ((foX F t).take k) ∧ Hid (∀ j, j < k → fdB F ((bz t).getD j 0) = true) ∧ Below w2.heap.size w2 wr) (fun _ iv _ => t.size - (intOf iv).toNat)
    case atStart => exact ⟨0, Nat.zero_le _, rfl, ho, fun j hj => by omega, hb1⟩
    case round =>
      clear ho hb1
      obtain ⟨k, hk, rfl, ho, HK, hb⟩ := hrel
      have hsz := hb.size
      by_cases hkl : k < t.size
      · have hb1 : Below wr.heap.size wr (wr.alloc (.cells #[.int .i64 k] 3)) := (Below.refl _ _).alloc (Nat.le_refl _) _
        have hb2 := hb.trans (hb1.mono hsz)
        obtain ⟨hrf, hP⟩ := HALL.out _ hb2
        have hQ : (wr.alloc (.cells #[.int .i64 k] 3)).cell? ⟨wr.heap.size, 0, none⟩ = some (.int .i64 k) := World.cell?_alloc_at _ _ _ _ rfl
        have ho1 := OK.later ho hb1
        have hmf : ∀ (fn : Fn) (first cap : Array Value) (w : World), (Instr.makeFunc fn first cap).run Try.prog w = .ok (.func fn first cap) w := fun _ _ _ _ => rfl
        have HIF := Lib.hid (indexF_any _ F t k _ _ _ hrf (by omega) HFZ hkl (by omega) hP hQ)
        go_wp2_with fail
        clear hmf hP hQ hrf ho
        generalize wr.alloc (.cells #[.int .i64 k] 3) = wa at *
        refine HIF.out.mono ?_
        rintro e wb ⟨r, rfl, HR, hb3⟩
        replace ho1 := OK.later ho1 hb3
        have hb4 := hb2.trans (hb3.mono hb2.size)
        have hz4 := hb4.size
        clear hb hb1 hb2 hb3 HIF
        rcases HR.out with ⟨q, rfl, hq, hcq⟩ | ⟨rfl, hno⟩
        · obtain ⟨hst, hfd⟩ := stead_of HFA.out hq hcq
          have HX := Lib.hid (foX_succ (F := F) hkl)
          rw [hst] at HX
          have HK2 : Hid (∀ j, j < k + 1 → fdB F ((bz t).getD j 0) = true) := fun j hj => by
            by_cases h : j = k
            · subst h; exact hfd
            · exact HK.out j (by omega)
          obtain ⟨g, off, rfl, hg, hcf⟩ := (HALL.out _ hb4).1.at q hq
          have hsz1 := HFA.out.sz q hq
          rw [bz_get (sAt F q) 0 (by omega)] at HX
          have f1 : (q : Int) < (F.length : Int) := by omega
          have hll : ((foX F t).take k).length ≤ 1099511627776 := by rw [List.length_take, foX_len]; omega
          clear HR hcq hst hfd
          have key : ∃ (fq : ByteArray) (h : 0 < fq.size), wb.cell? ⟨g, off + q, none⟩ = some (.string fq) ∧ fq.size ≤ 18 ∧ Hid ((foX F t).take (k + 1) = (foX F t).take k ++ [(fq[0].toNat : Int)]) := ⟨sAt F q, by omega, hcf, hsz1.2, HX⟩
          clear hcf HX hsz1
          obtain ⟨fq, f3, hcf, hsz1, HX⟩ := key
          have f2 : (0 : Int) < (fq.size : Int) := by omega
          go_wp2_with (at_builtin; refine wpl_app_u8 rfl _ _ rfl w2.heap.size _ _ rfl (ho1.alloc _) _ _ _ rfl (World.cell?_alloc_at _ _ _ _ rfl) hll (by simp; omega) ?_; intro v' w5 ho5 hgr)
          have hb5 : Below w2.heap.size w2 w5 := own_below (hb4.alloc hz4 _) (ho1.alloc _) hgr (by simp; omega)
          go_roundw
          case rel => exact ⟨k + 1, by omega, by go_num, by rw [HX.out]; exact ho5, HK2, hb5⟩
          case measure => first | (simp [intOf]; done) | (simp [intOf]; omega)
        · have HNO : Hid (foB F t = false) := foB_no k hkl (fdB_none hno)
          clear hno HR
          go_wp2_with fail
          go_ret2
          exact ⟨by rw [HFL.out, fwV_miss HNO.out]; rfl, HB0.out.trans (hb4.mono hz2)⟩
      · obtain rfl : k = t.size := by omega
        rw [List.take_of_length_le (by rw [foX_len]; exact Nat.le_refl _)] at ho
        have HYE : Hid (foB F t = true) := foB_yes HK.out
        have hst := ho.str
        go_wp2_with fail
        go_ret2
        exact ⟨by rw [HVV.out, HFL.out, fwV_yes HL.out HYE.out]; rfl, HB0.out.trans (hb.mono hz2)⟩
/-- What the loop over the families knows: the last place below j that has c, or -1. -/
def LsP (F : List ByteArray) (c : Int) (j : Nat) (z : Int) : Prop := (∃ q : Nat, z = (q : Int) ∧ q < j ∧ c ∈ bz (sAt F q)) ∨ (z = -1 ∧ ∀ q, q < j → c ∉ bz (sAt F q))
theorem LsP.yes {F : List ByteArray} {c : Int} {j : Nat} (h : c ∈ bz (sAt F j)) : LsP F c (j + 1) (j : Int) := .inl ⟨j, rfl, by omega, h⟩
theorem LsP.no {F : List ByteArray} {c : Int} {j : Nat} {z : Int} (hz : LsP F c j z) (h : c ∉ bz (sAt F j)) : LsP F c (j + 1) z := by
  rcases hz with ⟨q, h1, h2, h3⟩ | ⟨h1, h2⟩
  · exact .inl ⟨q, h1, by omega, h3⟩
  · refine .inr ⟨h1, fun q hq => ?_⟩
    by_cases e : q = j
    · subst e; exact h
    · exact h2 q (by omega)
set_option maxRecDepth 100000 in
set_option maxHeartbeats 4000000 in
theorem specFw_any (s : ByteArray) (v : Value) (l : List ByteArray) (t : ByteArray) (w : World) (hx : RS w v l) (hs : s.size ≤ 1048576) (hm : l.length ≤ 1048576) (ht : t.size ≤ 1048576) :
    Calls Try.prog 21 #[.agg #[.string s, v], .string t] w (FwPost s l t w) := by
  obtain ⟨a, c, rfl⟩ := hx.slice
  have hb : Below w.heap.size w (w.alloc (.cells #[.string s, .slice a l.length c] 27)) := (Below.refl _ _).alloc (Nat.le_refl _) _
  have hbx : LX w.heap.size s (.slice a l.length c) (w.alloc (.cells #[.string s, .slice a l.length c] 27)) := ⟨World.cell?_alloc_at _ _ _ _ rfl, World.cell?_alloc_at _ _ _ _ rfl⟩
  have hx1 := hx.later hb
  have HC := Lib.hid (l07Is_any s _ l _ _ hbx hx1 hs hm)
  cases hv : vlB s l
  · have HVV := Lib.hid hv
    rw [hv] at HC
    clear hv
    go_enter Try.func21, Try.ntmps21
    go_wp2_with fail
    refine (HC.out).mono ?_
    rintro e w1 ⟨rfl, hd⟩
    have hb1 := hd.below
    go_wp2_with fail
    go_ret2
    exact ⟨by rw [HVV.out, fwV_no]; rfl, hb.trans (hb1.mono hb.size)⟩
  · have HVV := Lib.hid hv
    obtain ⟨hs1, hd, h2, _⟩ := vl_facts hv
    have HD := Lib.hid hd
    have H2 := Lib.hid h2
    have HFA := Lib.hid (fmL_fa hv)
    have HFE := Lib.hid (fmL_eq hv)
    rw [hv] at HC
    clear hv hd h2
    by_cases ht20 : (t.size : Int) ≤ 20
    case neg =>
      have HL : Hid (¬ t.size ≤ 20) := by unfold Hid; omega
      go_enter Try.func21, Try.ntmps21
      go_wp2_with fail
      refine (HC.out).mono ?_
      rintro e w1 ⟨rfl, hd⟩
      have hb1 := hd.below
      go_wp2_with fail
      go_ret2
      exact ⟨by rw [fwV_long HL.out]; rfl, hb.trans (hb1.mono hb.size)⟩
    have HL : Hid (t.size ≤ 20) := by unfold Hid; omega
    go_enter Try.func21, Try.ntmps21
    go_wp2_with fail
    refine (HC.out).mono ?_
    rintro e w1 ⟨rfl, hd⟩
    have hb1 := hd.below
    replace hbx := hbx.later hb1
    replace hx1 := hx1.later hb1
    replace hb := hb.trans (hb1.mono hb.size)
    clear hd HC hb1
    go_wp2_with fail
    refine (l07Families_any _ s _ l _ hbx hx1 hm hs1.2 HD H2).mono ?_
    rintro e w2 ⟨vf, rfl, of, hb1⟩
    rw [HFE.out] at of
    replace hb := hb.trans (hb1.mono hb.size)
    have hrf := of.read
    obtain ⟨fa, fc, rfl⟩ := hrf.slice
    obtain ⟨F, hF⟩ : ∃ F, F = fmL s l := ⟨_, rfl⟩
    rw [← hF] at hrf HFA ⊢
    have HFL : Hid (fmL s l = F) := hF.symm
    have HB0 := Lib.hid hb
    have hz2 := hb.size
    have HALL : Hid (∀ wr, Below w2.heap.size w2 wr → RS wr (.slice fa F.length fc) F) := fun wr h => hrf.later h
    have hF18 := HFA.out.len
    clear hb1 hbx hx1 of hrf hb hF
    go_wp2_with fail
    have hb := Below.refl w2.heap.size w2
    go_loopw [7, 8] (fun ov iv wr => ∃ (k : Nat) (o : ByteArray), k ≤ t.size ∧ iv = .int .i64 k ∧ ov = .string o ∧ Hid (bz o = (foX F t).take k) ∧ o.size ≤ k ∧ Hid (∀ j, j < k → fdB F ((bz t).getD j 0) = true) ∧ Below w2.heap.size w2 wr) (fun _ iv _ => t.size - (intOf iv).toNat)
    case atStart => exact ⟨0, ByteArray.empty, Nat.zero_le _, rfl, rfl, rfl, Nat.le_refl _, fun j hj => by omega, hb⟩
    case round =>
      clear hb
      obtain ⟨k, o, hk, rfl, rfl, HO, hok, HK, hb⟩ := hrel
      have hsz := hb.size
      by_cases hkl : k < t.size
      · obtain ⟨cc, hcc⟩ : ∃ cc, cc = (bz t).getD k 0 := ⟨_, rfl⟩
        have HCC : Hid ((t[k].toNat : Int) = cc) := by unfold Hid; rw [hcc, bz_get t k hkl]
        have HCE : Hid ((bz t).getD k 0 = cc) := hcc.symm
        have f1 : (k : Int) < (t.size : Int) := by omega
        clear hcc
        go_wp2_with fail
        go_loopw [9, 10] (fun zv jv wr => ∃ (j : Nat) (z : Int), j ≤ F.length ∧ jv = .int .i64 j ∧ zv = .int .i64 z ∧ -1 ≤ z ∧ z < j ∧ Hid (LsP F cc j z) ∧ Below w2.heap.size w2 wr) (fun _ jv _ => F.length - (intOf jv).toNat)
        case atStart => exact ⟨0, -1, Nat.zero_le _, rfl, rfl, by omega, by omega, .inr ⟨rfl, fun q hq => by omega⟩, hb⟩
        case round =>
          clear hb hsz
          obtain ⟨j, z, hj, rfl, rfl, hz1, hz2', HZ, hb⟩ := hrel
          by_cases hjl : j < F.length
          · obtain ⟨g, off, rfl, hg, hcf⟩ := (HALL.out _ hb).at j hjl
            have hsz1 := HFA.out.sz j hjl
            have HI : Hid (∀ n, Calls Try.prog 51 #[.string (sAt F j), .int .u8 (t[k].toNat : Int)] (wr.drewN n) fun e w' => e = .returned (.int .i64 (ix (bz (sAt F j)) cc)) ∧ wr.drewN n = w') := fun n => by
              rw [HCC.out]; exact l07Index_any _ _ _ (by omega)
            have HM := Lib.hid (ix_mem (bz (sAt F j)) cc)
            by_cases hin : cc ∈ bz (sAt F j)
            · have HN := Lib.hid (LsP.yes hin)
              rw [decide_eq_true hin] at HM
              have hz0 : 0 ≤ ix (bz (sAt F j)) cc := of_decide_eq_true HM.out
              clear hin HM
              generalize ix (bz (sAt F j)) cc = zz at *
              generalize sAt F j = fq at *
              go_wp2_with fail
              go_quiet ((go_at_call 51; exact quiet_same (HI.out _)))
              go_wp2_with fail
              go_roundw
              case rel => exact ⟨j + 1, (j : Int), by omega, by go_num, rfl, by omega, by omega, HN, below_drewN hb _⟩
              case measure => first | (simp [intOf]; done) | (simp [intOf]; omega)
            · have HN := Lib.hid (HZ.out.no hin)
              rw [decide_eq_false hin] at HM
              have hz0 : ¬ 0 ≤ ix (bz (sAt F j)) cc := of_decide_eq_false HM.out
              clear hin HM
              generalize ix (bz (sAt F j)) cc = zz at *
              generalize sAt F j = fq at *
              go_wp2_with fail
              go_quiet ((go_at_call 51; exact quiet_same (HI.out _)))
              go_wp2_with fail
              go_roundw
              case rel => exact ⟨j + 1, z, by omega, by go_num, rfl, by omega, by omega, HN, below_drewN hb _⟩
              case measure => first | (simp [intOf]; done) | (simp [intOf]; omega)
          · obtain rfl : j = F.length := by omega
            rcases HZ.out with ⟨q, rfl, hq, hcq⟩ | ⟨rfl, hno⟩
            · obtain ⟨hst, hfd⟩ := stead_of HFA.out hq hcq
              have HX := Lib.hid (foX_succ (F := F) hkl)
              rw [HCE.out, hst] at HX
              have HK2 : Hid (∀ j, j < k + 1 → fdB F ((bz t).getD j 0) = true) := fun j hj => by
                by_cases h : j = k
                · subst h; rw [HCE.out]; exact hfd
                · exact HK.out j (by omega)
              obtain ⟨g, off, rfl, hg, hcf⟩ := (HALL.out _ hb).at q hq
              have hsz1 := HFA.out.sz q hq
              have f2 : (q : Int) < (F.length : Int) := by omega
              have HE1 : Hid (bz ((sAt F q).extract 0 1) = [(bz (sAt F q)).getD 0 0]) := by
                unfold Hid
                rw [bz_extract, List.drop_zero]
                have hl : 0 < (bz (sAt F q)).length := by rw [bz_len]; omega
                rw [List.take_succ_eq_append_getElem hl, getD_eq hl]; rfl
              have HO2 : Hid (bz (o ++ (sAt F q).extract 0 1) = (foX F t).take (k + 1)) := by unfold Hid; rw [bz_append, HO.out, HE1.out, HX.out]
              have ho2 : (o ++ (sAt F q).extract 0 1).size ≤ k + 1 := by rw [← bz_len, HO2.out, List.length_take]; omega
              have hx1 : ((sAt F q).extract 0 1).size = 1 := by rw [← bz_len, HE1.out]; rfl
              clear HZ hcq hst hfd HX HE1
              generalize sAt F q = fq at *
              have f3 : (1 : Int) ≤ (fq.size : Int) := by omega
              go_wp2_with fail
              go_roundw
              case rel => exact ⟨k + 1, _, by omega, by go_num, rfl, HO2, ho2, HK2, hb⟩
              case measure => first | (simp [intOf]; done) | (simp [intOf]; omega)
            · have HNO : Hid (foB F t = false) := foB_no k hkl (by rw [HCE.out]; exact fdB_none hno)
              clear hno HZ
              go_wp2_with fail
              go_ret2
              exact ⟨by rw [HFL.out, fwV_miss HNO.out]; rfl, HB0.out.trans (hb.mono hz2)⟩
      · obtain rfl : k = t.size := by omega
        have HYE : Hid (foB F t = true) := foB_yes HK.out
        have HOE : Hid (o = strOfNums (foX F t)) := by
          unfold Hid
          apply bz_inj
          have h0 := HO.out
          rw [List.take_of_length_le (by rw [foX_len]; exact Nat.le_refl _)] at h0
          rw [str_bz (fun z hz => by rw [← h0] at hz; exact bz_in o z hz), h0]
        go_wp2_with fail
        go_ret2
        exact ⟨by rw [HVV.out, HFL.out, fwV_yes HL.out HYE.out, ← HOE.out]; rfl, HB0.out.trans (hb.mono hz2)⟩
end Go.Proofs.Ytdkheeocglfogaa
