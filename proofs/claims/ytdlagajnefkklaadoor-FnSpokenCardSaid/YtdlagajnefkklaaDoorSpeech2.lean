/- The reference's ValidSpeech, and the law: for all arguments. -/
import Derived.Test.YtdlagajnefkklaaDoorSpeech
namespace Go.Proofs.YtdlagajnefkklaaDoor
open Go.RowKit

theorem isL_all_append {a b : ByteArray} : (bz a ++ bz b).all isL = ((bz a).all isL && (bz b).all isL) := by simp [List.all_append]
theorem vsB_eq (a b : ByteArray) : vsB a b = (((decide (1 ≤ a.size) && decide (1 ≤ b.size)) && (letB a 20 && letB b 6)) && diffB (fun _ => true) (bz a ++ bz b)) := by
  rw [Bool.eq_iff_iff]
  unfold vsB letB inB
  have e1 : diffB isL (bz a ++ bz b) = true ↔ ((bz a ++ bz b).all isL = true ∧ diffB (fun _ => true) (bz a ++ bz b) = true) := by
    rw [diffB_iff, diffB_iff, List.all_eq_true]
    constructor
    · rintro ⟨h1, h2⟩
      refine ⟨?_, fun _ _ => rfl, h2⟩
      intro x hx
      obtain ⟨k, hk, rfl⟩ := List.getElem_of_mem hx
      have := h1 k hk
      rw [getD_eq hk] at this
      exact this
    · rintro ⟨h1, _, h2⟩
      exact ⟨fun k hk => h1 _ (getD_mem hk), h2⟩
  simp only [Bool.and_eq_true, e1, isL_all_append, decide_eq_true_eq]
  constructor
  · rintro ⟨⟨⟨h1, h2⟩, h3, h4⟩, ⟨h5, h6⟩, h7⟩
    exact ⟨⟨⟨by omega, by omega⟩, ⟨h5, by omega⟩, h6, by omega⟩, h7⟩
  · rintro ⟨⟨⟨h1, h2⟩, ⟨h3, h4⟩, h5, h6⟩, h7⟩
    exact ⟨⟨⟨by omega, by omega⟩, by omega, by omega⟩, ⟨h3, h5⟩, h7⟩

set_option maxHeartbeats 1000000 in
theorem l07Speech_any (a b : ByteArray) (g : Nat) (w : World) (hs : a.size + b.size ≤ 1048576) (h0 : w.cell? ⟨g, 0, none⟩ = some (.string a)) (h1 : w.cell? ⟨g, 1, none⟩ = some (.string b)) :
    Calls Tryd.prog 30 #[.pointer (some ⟨g, 0, none⟩)] w fun e w' => e = .returned (.bool (vsB a b)) ∧ Below w.heap.size w w' := by
  have hsz : (a ++ b).size = a.size + b.size := ByteArray.size_append
  have hab : (a ++ b).size ≤ 1048576 := by omega
  have HV := Lib.hid (vsB_eq a b)
  clear hsz
  by_cases ha : 1 ≤ (a.size : Int)
  · by_cases hb : 1 ≤ (b.size : Int)
    · by_cases l1 : letB a 20 = true
      · by_cases l2 : letB b 6 = true
        · have HD : Hid (vsB a b = diffB (fun _ => true) (bz (a ++ b))) := by
            unfold Hid
            rw [HV.out, l1, l2, bz_append]
            simp; omega
          go_enter Tryd.func30, Tryd.ntmps30
          go_wp2_with fail
          go_quiet (fail)
          go_wp2_with (go_at_call 48; refine (l07Letters_any _ _ _ (by omega)).mono ?_; rintro e w' ⟨rfl, rfl⟩)
          go_loopw [4] (fun iv wr => ∃ k : Nat, k ≤ (a ++ b).size ∧ iv = .int .i64 k ∧ Hid (∀ i, i < k → (true && !decide ((bz (a ++ b)).getD i 0 ∈ (bz (a ++ b)).take i)) = true) ∧ Below w.heap.size w wr) (fun iv _ => (a ++ b).size - (intOf iv).toNat)
          case atStart => exact ⟨0, Nat.zero_le _, rfl, fun i hi => by omega, below_drewN (Below.refl _ _) _⟩
          case round =>
            obtain ⟨k, hk, rfl, HK, hb⟩ := hrel
            clear h0 h1
            generalize a ++ b = s at *
            by_cases hlt : k < s.size
            · have hg := bz_get s k hlt
              have hes : (s.extract 0 k).size ≤ 1048576 := by
                have h := congrArg List.length (bz_extract s 0 k)
                rw [bz_len] at h
                rw [h]; simp [bz_len]; omega
              have HX : Hid (∀ wx, Calls Tryd.prog 32 #[.string (s.extract 0 k), .int .u8 (s[k].toNat : Int)] wx fun e w' => e = .returned (.int .i64 (ix ((bz s).take k) ((bz s).getD k 0))) ∧ wx = w') := fun wx => by
                have := l07Index_any (s.extract 0 k) (s[k].toNat : Int) wx hes
                rw [bz_extract, List.drop_zero, ← hg] at this
                rw [← hg]; exact this
              have HM := Lib.hid (ix_mem ((bz s).take k) ((bz s).getD k 0))
              have hl : (bz s).length = s.size := bz_len s
              have HN := Lib.hid hl
              clear hl hg hes
              by_cases h2 : 0 ≤ ix ((bz s).take k) ((bz s).getD k 0)
              · have HR : Hid (vsB a b = false) := by
                  have hm := HM.out
                  rw [decide_eq_true h2] at hm
                  have := diffB_no (P := fun _ => true) k (by rw [HN.out]; exact hlt) (by rw [← hm]; rfl)
                  exact HD.out.trans this
                generalize ix ((bz s).take k) ((bz s).getD k 0) = z at *
                go_wp2_with fail
                go_quiet ((go_at_call 32; exact quiet_same (HX.out _)))
                go_wp2_with fail
                go_ret
                exact ⟨ret_bool HR.out.symm, below_drewN hb _⟩
              · have HK2 : Hid (∀ i, i < k + 1 → (true && !decide ((bz s).getD i 0 ∈ (bz s).take i)) = true) := fun i hi => by
                  by_cases e : i = k
                  · subst e
                    have hm := HM.out
                    rw [decide_eq_false h2] at hm
                    rw [← hm]; rfl
                  · exact HK.out i (by omega)
                generalize ix ((bz s).take k) ((bz s).getD k 0) = z at *
                go_wp2_with fail
                go_quiet ((go_at_call 32; exact quiet_same (HX.out _)))
                go_wp2_with fail
                go_roundw
                case rel => exact ⟨k + 1, by omega, by go_num, HK2, below_drewN hb _⟩
                case measure => first | (simp [intOf]; done) | (simp [intOf]; omega)
            · have HR : Hid (vsB a b = true) := HD.out.trans (diffB_yes fun i hi => HK.out i (by have := bz_len s; omega))
              go_wp2_with fail
              go_ret
              exact ⟨ret_bool HR.out.symm, hb⟩
        · simp only [Bool.not_eq_true] at l2
          have HR : Hid (vsB a b = false) := by unfold Hid; rw [HV.out, l2]; simp
          go_enter Tryd.func30, Tryd.ntmps30
          go_wp2_with fail
          go_quiet (fail)
          go_wp2_with (go_at_call 48; refine (l07Letters_any _ _ _ (by omega)).mono ?_; rintro e w' ⟨rfl, rfl⟩)
          go_ret
          exact ⟨ret_bool HR.out.symm, below_drewN (Below.refl _ _) _⟩
      · simp only [Bool.not_eq_true] at l1
        have HR : Hid (vsB a b = false) := by unfold Hid; rw [HV.out, l1]; simp
        go_enter Tryd.func30, Tryd.ntmps30
        go_wp2_with fail
        go_quiet (fail)
        go_wp2_with (go_at_call 48; refine (l07Letters_any _ _ _ (by omega)).mono ?_; rintro e w' ⟨rfl, rfl⟩)
        go_ret
        exact ⟨ret_bool HR.out.symm, below_drewN (Below.refl _ _) _⟩
    · have HR : Hid (vsB a b = false) := by
        have : decide (1 ≤ b.size) = false := decide_eq_false (by omega)
        unfold Hid; rw [HV.out, this]; simp
      go_enter Tryd.func30, Tryd.ntmps30
      go_wp2_with fail
      go_quiet (fail)
      go_wp2_with fail
      go_ret
      exact ⟨ret_bool HR.out.symm, below_drewN (Below.refl _ _) _⟩
  · have HR : Hid (vsB a b = false) := by
      have : decide (1 ≤ a.size) = false := decide_eq_false (by omega)
      unfold Hid; rw [HV.out, this]; simp
    go_enter Tryd.func30, Tryd.ntmps30
    go_wp2_with fail
    go_quiet (fail)
    go_wp2_with fail
    go_ret
    exact ⟨ret_bool HR.out.symm, below_drewN (Below.refl _ _) _⟩

set_option maxHeartbeats 400000 in
theorem szSpeech_yes (a b : ByteArray) (w : World) (hs : a.size + b.size ≤ 1048576) :
    Calls Tryd.prog 15 #[.agg #[.string a, .string b], .int .i64 1048576] w fun e w' => e = .returned (.int .i64 (1048576 - a.size - b.size)) ∧ Below w.heap.size w w' := by
  go_enter Tryd.func15, Tryd.ntmps15
  go_wp2_with fail
  go_ret
  exact ⟨rfl, (Below.refl _ _).alloc (Nat.le_refl _) _⟩
set_option maxHeartbeats 400000 in
theorem szSpeech_no (a b : ByteArray) (w : World) (ha : a.size ≤ maxLen) (hb : b.size ≤ maxLen) (hs : ¬ a.size + b.size ≤ 1048576) :
    Calls Tryd.prog 15 #[.agg #[.string a, .string b], .int .i64 1048576] w fun e w' => e = .returned (.int .i64 (-1)) ∧ Below w.heap.size w w' := by
  unfold maxLen at ha hb
  by_cases h : (a.size : Int) ≤ 1048576
  · go_enter Tryd.func15, Tryd.ntmps15
    go_wp2_with fail
    go_ret
    exact ⟨rfl, (Below.refl _ _).alloc (Nat.le_refl _) _⟩
  · go_enter Tryd.func15, Tryd.ntmps15
    go_wp2_with fail
    go_ret
    exact ⟨rfl, (Below.refl _ _).alloc (Nat.le_refl _) _⟩
set_option maxHeartbeats 400000 in
theorem toSpeech_any (a b : ByteArray) (w : World) :
    Calls Tryd.prog 17 #[.agg #[.string a, .string b]] w fun e w' => e = .returned (.agg #[.string a, .string b]) ∧ Below w.heap.size w w' := by
  go_enter Tryd.func17, Tryd.ntmps17
  go_wp2_with fail
  exact bodyPost_ret (v := .agg #[.string a, .string b]) (by simp [results, Tryd.results17, go_sem]) rfl ⟨rfl, (((Below.refl _ _).alloc (Nat.le_refl _) _).alloc (by simp) _).alloc (by simp; try omega) _⟩
end Go.Proofs.YtdlagajnefkklaaDoor
