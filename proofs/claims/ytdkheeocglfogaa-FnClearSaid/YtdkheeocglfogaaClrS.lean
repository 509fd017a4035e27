/- IsClear: the reference's side. -/
import Derived.Test.YtdkheeocglfogaaClr
namespace Go.Proofs.Ytdkheeocglfogaa
open Go.RowKit

theorem bz_bAt (t : ByteArray) (i : Nat) (h : i < t.size) : (bz t).getD i 0 = ((bAt t i).toNat : Int) := by rw [bz_get t i h, bAt_get t i h]
def ClrAt (s : ByteArray) (l : List ByteArray) (t : ByteArray) (i : Nat) : Prop := inS s ((bAt t i).toNat : Int) = true ∧ ∀ j, j < i → bAt t i ≠ bAt t j ∧ alkB l (bAt t i) (bAt t j) = false
theorem clr_iff {s : ByteArray} {l : List ByteArray} {t : ByteArray} : (diffB (inS s) (bz t) && alN t.size (rowC l t)) = true ↔ ∀ i, i < t.size → ClrAt s l t i := by
  rw [Bool.and_eq_true, diffB_iff, alN_iff, bz_len]
  constructor
  · rintro ⟨⟨h1, h2⟩, h3⟩ i hi
    refine ⟨by rw [← bz_bAt t i hi]; exact h1 i hi, fun j hj => ⟨fun e => h2 i hi ?_, ?_⟩⟩
    · rw [bz_bAt t i hi, e, ← bz_bAt t j (by omega), getD_eq (by rw [bz_len]; omega)]
      exact List.mem_iff_getElem.2 ⟨j, by rw [List.length_take, bz_len]; omega, by simp⟩
    · have := alN_iff.1 (h3 i hi) j hj
      simpa using this
  · intro h
    refine ⟨⟨fun i hi => by rw [bz_bAt t i hi]; exact (h i hi).1, fun i hi hm => ?_⟩, fun i hi => alN_iff.2 fun j hj => by rw [((h i hi).2 j hj).2]; rfl⟩
    obtain ⟨j, hj, e⟩ := List.getElem_of_mem hm
    rw [List.length_take, bz_len] at hj
    rw [List.getElem_take] at e
    have e2 : (bz t).getD j 0 = (bz t).getD i 0 := by rw [getD_eq (by rw [bz_len]; omega)]; exact e
    rw [bz_bAt t i hi, bz_bAt t j (by omega)] at e2
    exact ((h i hi).2 j (by omega)).1 (UInt8.toNat_inj.1 (by omega)).symm
def clB (s : ByteArray) (l : List ByteArray) (t : ByteArray) : Bool := diffB (inS s) (bz t) && alN t.size (rowC l t)
theorem clB_no {s : ByteArray} {l : List ByteArray} {t : ByteArray} (i : Nat) (hi : i < t.size) (h : ¬ ClrAt s l t i) : clB s l t = false := by
  cases e : clB s l t with
  | false => rfl
  | true => exact absurd (clr_iff.1 e i hi) h
set_option maxRecDepth 100000 in
set_option maxHeartbeats 4000000 in
theorem l07Clear_any (X : Nat) (s : ByteArray) (v : Value) (l : List ByteArray) (t : ByteArray) (w : World) (hX : LX X s v w) (hx : RS w v l) (hs : s.size ≤ 1048576) (hm : l.length ≤ 1048576) (ht : t.size ≤ 1048576) (h2 : ∀ i, i < l.length → (sAt l i).size = 2) :
    Calls Try.prog 43 #[.pointer (some ⟨X, 0, none⟩), .string t] w fun e w' => e = .returned (.bool (clB s l t)) ∧ Drd w w' := by
  obtain ⟨a, c, rfl⟩ := hx.slice
  have H2 := Lib.hid h2
  have HX := Lib.hid hX
  have HRS := Lib.hid hx
  clear h2 hX hx
  go_enter Try.func43, Try.ntmps43
  go_wp2_with fail
  go_loopw [5] (fun iv wr => ∃ k : Nat, k ≤ t.size ∧ iv = .int .i64 k ∧ Hid (∀ i, i < k → ClrAt s l t i) ∧ Drd w wr) (fun iv _ => t.size - (intOf iv).toNat)
  case atStart => exact ⟨0, Nat.zero_le _, rfl, fun i hi => by omega, Drd.refl _⟩
  case round =>
    obtain ⟨k, hk, rfl, HK, hd⟩ := hrel
    by_cases hlt : k < t.size
    · have f0 : (0 : Int) ≤ (k : Int) := by omega
      have f1 : (k : Int) < (t.size : Int) := by omega
      have c0 := (HX.out.later hd.below).c0
      obtain ⟨d, hdd⟩ : ∃ d, d = ix (bz s) (t[k].toNat : Int) := ⟨_, rfl⟩
      have HIX : Hid (∀ n, Calls Try.prog 51 #[.string s, .int .u8 (t[k].toNat : Int)] (wr.drewN n) fun e w' => e = .returned (.int .i64 d) ∧ wr.drewN n = w') := fun n => l07Index_b s t[k] d hdd.symm _ hs
      have HIN : Hid (decide (0 ≤ d) = inS s ((bAt t k).toNat : Int)) := by unfold Hid; rw [hdd, bAt_get t k hlt]; exact ix_mem _ _
      have HKY : Hid (ClrAt s l t k → ∀ i, i < k + 1 → ClrAt s l t i) := fun h i hi => by
        by_cases e : i = k
        · subst e; exact h
        · exact HK.out i (by omega)
      have HKN : Hid (¬ ClrAt s l t k → clB s l t = false) := clB_no k hlt
      clear HK hdd
      by_cases hin : 0 ≤ d
      · have HIY : Hid (inS s ((bAt t k).toNat : Int) = true) := by have := HIN.out; rw [decide_eq_true hin] at this; exact this.symm
        have g1 : ¬ d < 0 := by omega
        have hdn : decide (d < 0) = false := by simp; omega
        go_wp2_with fail
        go_quiet ((go_at_call 51; exact quiet_same (HIX.out _)))
        have hd1 := hd.more nq
        clear hd c0
        go_wp2_with fail
        go_loopw [6] (fun jv wr => ∃ j : Nat, j ≤ k ∧ jv = .int .i64 j ∧ Hid (∀ i, i < j → bAt t k ≠ bAt t i ∧ alkB l (bAt t k) (bAt t i) = false) ∧ Drd w wr) (fun jv _ => k - (intOf jv).toNat)
        case atStart => exact ⟨0, Nat.zero_le _, rfl, (fun i hi => by omega), hd1⟩
        case round =>
          obtain ⟨j, hj, rfl, HJ, hd⟩ := hrel
          by_cases hlj : j < k
          · have hjt : j < t.size := by omega
            have f2 : (0 : Int) ≤ (j : Int) := by omega
            have f3 : (j : Int) < (t.size : Int) := by omega
            have HN : Hid (¬ (bAt t k ≠ bAt t j ∧ alkB l (bAt t k) (bAt t j) = false) → clB s l t = false) := fun h => HKN.out fun hc => h (hc.2 j hlj)
            have HY : Hid (bAt t k ≠ bAt t j ∧ alkB l (bAt t k) (bAt t j) = false → ∀ i, i < j + 1 → bAt t k ≠ bAt t i ∧ alkB l (bAt t k) (bAt t i) = false) := fun h i hi => by
              by_cases e : i = j
              · subst e; exact h
              · exact HJ.out i (by omega)
            clear HJ
            have HAL : Hid (∀ b, alkB l (bAt t k) (bAt t j) = b → ∀ n, Calls Try.prog 41 #[.pointer (some ⟨X, 0, none⟩), .int .u8 (t[k].toNat : Int), .int .u8 (t[j].toNat : Int)] (wr.drewN n) fun e w' => e = .returned (.bool b) ∧ wr.drewN n = w') := fun b e n => by
              have hb3 := (hd.more n).below
              have := l07Alike_any X s _ l t[k] t[j] _ (HX.out.later hb3) (HRS.out.later hb3) hm H2.out
              rw [← bAt_get t k hlt, ← bAt_get t j hjt] at this
              rw [e] at this
              rw [bAt_get t k hlt, bAt_get t j hjt] at this
              exact this
            by_cases heq : bAt t k = bAt t j
            · have b1 := u8t (show t[k] = t[j] by rw [← bAt_get t k hlt, ← bAt_get t j hjt]; exact heq)
              have HR := Lib.hid (HN.out fun h => h.1 heq)
              clear heq HN HY HAL
              go_wp2_with fail
              go_quiet (fail)
              go_wp2_with fail
              go_ret
              exact ⟨ret_bool HR.out.symm, hd.more _⟩
            · have b1 := u8f (show ¬ t[k] = t[j] by rw [← bAt_get t k hlt, ← bAt_get t j hjt]; exact heq)
              cases hal : alkB l (bAt t k) (bAt t j)
              · have HA := Lib.hid (HAL.out _ hal)
                have HY2 := Lib.hid (HY.out ⟨heq, hal⟩)
                clear heq hal HN HY HAL
                go_wp2_with fail
                go_quiet ((go_at_call 41; exact quiet_same (HA.out _)))
                go_wp2_with fail
                go_roundw
                case rel => exact ⟨j + 1, by omega, by go_num, HY2, hd.more _⟩
                case measure => first | (simp [intOf]; done) | (simp [intOf]; omega)
              · have HA := Lib.hid (HAL.out _ hal)
                have HR := Lib.hid (HN.out fun h => by rw [hal] at h; cases h.2)
                clear heq hal HN HY HAL
                go_wp2_with fail
                go_quiet ((go_at_call 41; exact quiet_same (HA.out _)))
                go_wp2_with fail
                go_ret
                exact ⟨ret_bool HR.out.symm, hd.more _⟩
          · have HY2 := Lib.hid (HKY.out ⟨HIY.out, fun i hi => HJ.out i (by omega)⟩)
            go_wp2_with fail
            go_roundw
            case rel => exact ⟨k + 1, by omega, by go_num, HY2, hd⟩
            case measure => first | (simp [intOf]; done) | (simp [intOf]; omega)
      · have HIY : Hid (¬ ClrAt s l t k) := fun h => by have := HIN.out; rw [decide_eq_false hin, h.1] at this; cases this
        have HR := Lib.hid (HKN.out HIY.out)
        have g1 : d < 0 := by omega
        go_wp2_with fail
        go_quiet ((go_at_call 51; exact quiet_same (HIX.out _)))
        go_wp2_with fail
        go_ret
        exact ⟨ret_bool HR.out.symm, hd.more _⟩
    · have HR : Hid (clB s l t = true) := clr_iff.2 fun i hi => HK.out i (by omega)
      go_wp2_with fail
      go_ret
      exact ⟨ret_bool HR.out.symm, hd⟩
set_option maxHeartbeats 1000000 in
theorem specIC_any (s : ByteArray) (v : Value) (l : List ByteArray) (t : ByteArray) (w : World) (hx : RS w v l) (hs : s.size ≤ 1048576) (hm : l.length ≤ 1048576) (ht : t.size ≤ 1048576) :
    Calls Try.prog 17 #[.agg #[.string s, v], .string t] w fun e w' => e = .returned (.bool (icB s l t)) ∧ Below w.heap.size w w' := by
  obtain ⟨a, c, rfl⟩ := hx.slice
  have hb : Below w.heap.size w (w.alloc (.cells #[.string s, .slice a l.length c] 27)) := (Below.refl _ _).alloc (Nat.le_refl _) _
  have hX : LX w.heap.size s (.slice a l.length c) (w.alloc (.cells #[.string s, .slice a l.length c] 27)) := ⟨World.cell?_alloc_at _ _ _ _ rfl, World.cell?_alloc_at _ _ _ _ rfl⟩
  have hx0 := hx.later hb
  have HV : Hid (∀ b, vlB s l = b → ∀ w0 X, LX X s (.slice a l.length c) w0 → RS w0 (.slice a l.length c) l → Calls Try.prog 33 #[.pointer (some ⟨X, 0, none⟩)] w0 fun e w' => e = .returned (.bool b) ∧ Drd w0 w') := fun b e w0 X h1 h2 => by
    have := l07Is_any s _ l X w0 h1 h2 hs hm
    rw [e] at this; exact this
  clear hx
  cases h1 : vlB s l
  · have HC := Lib.hid (HV.out _ h1)
    have HR : Hid (icB s l t = false) := icB_v h1
    clear h1 HV
    go_enter Try.func17, Try.ntmps17
    go_wp2_with fail
    generalize w.alloc (.cells #[.string s, .slice a l.length c] 27) = w0 at *
    refine (HC.out _ _ hX hx0).mono ?_
    rintro e w1 ⟨rfl, hd⟩
    go_wp2_with fail
    go_ret
    exact ⟨ret_bool HR.out.symm, hb.trans (hd.below.mono hb.size)⟩
  · have HC := Lib.hid (HV.out _ h1)
    have H2 := Lib.hid (vlB_two h1)
    have HR : Hid (icB s l t = clB s l t) := by unfold Hid icB clB; rw [h1]; rfl
    have HCL : Hid (∀ wx, LX w.heap.size s (.slice a l.length c) wx → RS wx (.slice a l.length c) l → Calls Try.prog 43 #[.pointer (some ⟨w.heap.size, 0, none⟩), .string t] wx fun e w' => e = .returned (.bool (icB s l t)) ∧ Drd wx w') := fun wx h3 h4 => by
      rw [HR.out]; exact l07Clear_any _ s _ l t wx h3 h4 hs hm ht H2.out
    clear h1 HV
    generalize icB s l t = rb at *
    clear HR
    go_enter Try.func17, Try.ntmps17
    go_wp2_with fail
    generalize w.alloc (.cells #[.string s, .slice a l.length c] 27) = w0 at *
    refine (HC.out _ _ hX hx0).mono ?_
    rintro e w1 ⟨rfl, hd⟩
    have hb1 := hb.trans (hd.below.mono hb.size)
    go_wp2_with fail
    refine (HCL.out _ (hX.later hd.below) (hx0.later hd.below)).mono ?_
    rintro e w2 ⟨rfl, hd2⟩
    go_wp2_with fail
    go_ret
    exact ⟨rfl, hb1.trans (hd2.below.mono hb1.size)⟩
end Go.Proofs.Ytdkheeocglfogaa
