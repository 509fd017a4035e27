/- Lexicons: the program's and the reference's IsLexicon return the same: for all arguments. -/
import Derived.Test.YtdlagajnefkklaaSpeech
import Derived.Test.YtdlagajnefkklaaStrs
namespace Go.Proofs.Ytdlagajnefkklaa
open Go.RowKit

set_option maxHeartbeats 1000000 in
theorem heardOk_any (s : ByteArray) (w : World) (hs : s.size ≤ 1048576) :
    Calls Try.prog 41 #[.string s] w fun e w' => e = .returned (.bool (letB s 20)) ∧ w = w' := by
  go_enter Try.func41, Try.ntmps41
  go_wp2_with fail
  go_loop [6] (fun iv => ∃ k : Nat, k ≤ s.size ∧ iv = .int .i64 k ∧ Hid (∀ i, i < k → isL ((bz s).getD i 0) = true)) (fun iv => s.size - (intOf iv).toNat)
  case atStart => exact ⟨0, Nat.zero_le _, rfl, fun i hi => by omega⟩
  case round =>
    obtain ⟨k, hk, rfl, HK⟩ := hrel
    by_cases hlt : k < s.size
    · have hg := bz_get s k hlt
      by_cases h1 : isL ((bz s).getD k 0) = true
      · have HK2 : Hid (∀ i, i < k + 1 → isL ((bz s).getD i 0) = true) := fun i hi => by
          by_cases e : i = k
          · subst e; exact h1
          · exact HK.out i (by omega)
        have HL : Hid (∀ wx, Calls Try.prog 39 #[.int .u8 (s[k].toNat : Int)] wx fun e w' => e = .returned (.bool true) ∧ wx = w') := fun wx => by
          rw [← hg]; exact isLetter_is _ _ h1 wx
        clear h1 hg
        go_wp2_with (go_at_call 39; refine (HL.out _).mono ?_; rintro e w' ⟨rfl, rfl⟩)
        go_round
        case rel => exact ⟨k + 1, by omega, by go_num, HK2⟩
        case measure => first | (simp [intOf]; done) | (simp [intOf]; omega)
      · simp only [Bool.not_eq_true] at h1
        have HR : Hid (letB s 20 = false) := by
          have := all_no (P := isL) k (by rw [bz_len]; exact hlt) h1
          simp [Hid, letB, this]
        have HL : Hid (∀ wx, Calls Try.prog 39 #[.int .u8 (s[k].toNat : Int)] wx fun e w' => e = .returned (.bool false) ∧ wx = w') := fun wx => by
          rw [← hg]; exact isLetter_is _ _ h1 wx
        clear h1 hg
        go_wp2_with (go_at_call 39; refine (HL.out _).mono ?_; rintro e w' ⟨rfl, rfl⟩)
        go_ret
        exact ⟨ret_bool HR.out.symm, rfl⟩
    · have HR : Hid ((bz s).all isL = true) := all_yes fun i hi => HK.out i (by rw [bz_len] at hi; omega)
      go_wp2_with fail
      go_ret
      exact ⟨ret_bool (by rw [letB, HR.out]; rfl), rfl⟩

def lexAt (l : List ByteArray) (i : Nat) : Bool := (decide (1 ≤ (sAt l i).size) && letB (sAt l i) 20) && !hasS (l.take i) (sAt l i)
def lexB (l : List ByteArray) : Bool := (List.range l.length).all (lexAt l) && inB l.length 2 16
theorem lexB_no {l : List ByteArray} (k : Nat) (hk : k < l.length) (h : lexAt l k = false) : lexB l = false := by
  unfold lexB
  have : (List.range l.length).all (lexAt l) = false := by
    rw [← Bool.not_eq_true, List.all_eq_true]
    intro hh
    have := hh k (List.mem_range.2 hk)
    rw [h] at this; cases this
  rw [this]; rfl
theorem lexB_all {l : List ByteArray} (h : ∀ k, k < l.length → lexAt l k = true) : lexB l = inB l.length 2 16 := by
  unfold lexB
  have : (List.range l.length).all (lexAt l) = true := by
    rw [List.all_eq_true]; intro k hk; exact h k (List.mem_range.1 hk)
  rw [this]; rfl
theorem nonempty_of {s : ByteArray} (h : 1 ≤ s.size) : s.toList.isEmpty = false := by
  rw [ByteArray.toList_eq]
  rw [← Bool.not_eq_true, List.isEmpty_iff]
  intro e
  have : s.data.toList.length = s.size := by simp
  rw [e] at this
  simp at this
  omega
theorem empty_of {s : ByteArray} (h : ¬ 1 ≤ s.size) : s = ByteArray.empty := by
  apply ba_ext
  have : s.data.toList.length = s.size := by simp
  exact List.eq_nil_of_length_eq_zero (by omega)

set_option maxHeartbeats 2000000 in
theorem implLex_any (v : Value) (l : List ByteArray) (w : World) (hx : RS w v l) (hm : l.length ≤ 1048576) (hz : ∀ k, k < l.length → (sAt l k).size ≤ 1048576) :
    Calls Try.prog 18 #[v] w fun e w' => e = .returned (.bool (lexB l)) ∧ w = w' := by
  obtain ⟨a, c, rfl⟩ := hx.slice
  have hcap := hx.cap
  have HZ := Lib.hid hz
  clear hz
  go_enter Try.func18, Try.ntmps18
  go_wp2_with fail
  go_loop [7] (fun iv => ∃ k : Nat, k ≤ l.length ∧ iv = .int .i64 k ∧ Hid (∀ i, i < k → lexAt l i = true)) (fun iv => l.length - (intOf iv).toNat)
  case atStart => exact ⟨0, Nat.zero_le _, rfl, fun i hi => by omega⟩
  case round =>
    obtain ⟨k, hk, rfl, HK⟩ := hrel
    by_cases hlt : k < l.length
    · obtain ⟨g, off, rfl, hg, hc⟩ := hx.at k hlt
      have hzk := HZ.out k hlt
      have ht := hx.take (c' := c) k hk (by omega)
      have HLX : Hid (lexAt l k = ((decide (1 ≤ (sAt l k).size) && letB (sAt l k) 20) && !hasS (l.take k) (sAt l k))) := rfl
      have hl2 : (l.take k).length ≤ 1099511627776 := by rw [List.length_take]; omega
      have HNO : Hid (lexAt l k = false → lexB l = false) := lexB_no k hlt
      have HYES : Hid (lexAt l k = true → ∀ i, i < k + 1 → lexAt l i = true) := fun h i hi => by
        by_cases e : i = k
        · subst e; exact h
        · exact HK.out i (by omega)
      unfold maxLen at hcap
      generalize sAt l k = s at *
      by_cases h1 : 1 ≤ s.size
      · have hne := nonempty_of h1
        by_cases h2 : letB s 20 = true
        · by_cases h3 : hasS (l.take k) s = true
          · have HR : Hid (lexB l = false) := HNO.out (by rw [HLX.out, h3]; simp)
            go_wp2_with (first | (go_at_call 41; refine (heardOk_any _ _ hzk).mono ?_; rintro e w' ⟨rfl, rfl⟩) | (go_at_call 42; refine (containsStr_any _ _ _ _ ht hl2).mono ?_; rintro e w' ⟨rfl, rfl⟩))
            go_ret
            exact ⟨ret_bool HR.out.symm, rfl⟩
          · simp only [Bool.not_eq_true] at h3
            have HR : Hid (∀ i, i < k + 1 → lexAt l i = true) := HYES.out (by rw [HLX.out, h2, h3]; simp; omega)
            go_wp2_with (first | (go_at_call 41; refine (heardOk_any _ _ hzk).mono ?_; rintro e w' ⟨rfl, rfl⟩) | (go_at_call 42; refine (containsStr_any _ _ _ _ ht hl2).mono ?_; rintro e w' ⟨rfl, rfl⟩))
            go_round
            case rel => exact ⟨k + 1, by omega, by go_num, HR⟩
            case measure => first | (simp [intOf]; done) | (simp [intOf]; omega)
        · simp only [Bool.not_eq_true] at h2
          have HR : Hid (lexB l = false) := HNO.out (by rw [HLX.out, h2]; simp)
          go_wp2_with (go_at_call 41; refine (heardOk_any _ _ hzk).mono ?_; rintro e w' ⟨rfl, rfl⟩)
          go_ret
          exact ⟨ret_bool HR.out.symm, rfl⟩
      · have HR : Hid (lexB l = false) := HNO.out (by rw [HLX.out, decide_eq_false h1]; rfl)
        obtain rfl := empty_of h1
        go_wp2_with fail
        go_ret
        exact ⟨ret_bool HR.out.symm, rfl⟩
    · have HR : Hid (lexB l = inB l.length 2 16) := lexB_all fun i hi => HK.out i (by omega)
      go_wp2_with (go_at_call 37; refine (in_any _ _ _ _).mono ?_; rintro e w' ⟨rfl, rfl⟩)
      go_ret
      exact ⟨ret_bool HR.out.symm, rfl⟩

set_option maxHeartbeats 2000000 in
theorem l07Lexicon_any (v : Value) (l : List ByteArray) (w : World) (hx : RS w v l) (hm : l.length ≤ 1048576) (hz : ∀ k, k < l.length → (sAt l k).size ≤ 1048576) :
    Calls Try.prog 40 #[v] w fun e w' => e = .returned (.bool (lexB l)) ∧ Below w.heap.size w w' := by
  obtain ⟨a, c, rfl⟩ := hx.slice
  have HZ := Lib.hid hz
  clear hz
  go_enter Try.func40, Try.ntmps40
  go_wp2_with fail
  go_loopw [3] (fun iv wr => ∃ k : Nat, k ≤ l.length ∧ iv = .int .i64 k ∧ Hid (∀ i, i < k → lexAt l i = true) ∧ Below w.heap.size w wr) (fun iv _ => l.length - (intOf iv).toNat)
  case atStart => exact ⟨0, Nat.zero_le _, rfl, fun i hi => by omega, Below.refl _ _⟩
  case round =>
    obtain ⟨k, hk, rfl, HK, hb⟩ := hrel
    by_cases hlt : k < l.length
    · obtain ⟨g, off, rfl, hg, hc⟩ := (hx.later hb).at k hlt
      have hzk := HZ.out k hlt
      have HLX : Hid (lexAt l k = ((decide (1 ≤ (sAt l k).size) && letB (sAt l k) 20) && !hasS (l.take k) (sAt l k))) := rfl
      have HNO : Hid (lexAt l k = false → lexB l = false) := lexB_no k hlt
      have HYES : Hid (lexAt l k = true → ∀ i, i < k + 1 → lexAt l i = true) := fun h i hi => by
        by_cases e : i = k
        · subst e; exact h
        · exact HK.out i (by omega)
      have HS : Hid (sAt l k = sAt l k) := rfl
      generalize hs : sAt l k = s at *
      have HSK := Lib.hid hs
      clear hs HS
      by_cases h1 : 1 ≤ (s.size : Int)
      · by_cases h2 : letB s 20 = true
        · have hlr := hg
          go_wp2_with (go_at_call 43; refine (l07Letters_any _ _ _ hzk).mono ?_; rintro e w' ⟨rfl, rfl⟩)
          clear hc hlr
          go_loopw [4] (fun jv wr => ∃ j : Nat, j ≤ k ∧ jv = .int .i64 j ∧ Hid (∀ i, i < j → s ≠ sAt l i) ∧ Below w.heap.size w wr) (fun jv _ => k - (intOf jv).toNat)
          case atStart => exact ⟨0, Nat.zero_le _, rfl, fun i hi => by omega, hb⟩
          case round =>
            obtain ⟨j, hj, rfl, HJ, hb⟩ := hrel
            by_cases hjk : j < k
            · obtain ⟨g1, off1, he1, hg1, hc1⟩ := (hx.later hb).at j (by omega)
              obtain ⟨g2, off2, he2, hg2, hc2⟩ := (hx.later hb).at k hlt
              rw [HSK.out] at hc2
              simp only [Option.some.injEq, Addr.mk.injEq, and_true] at he1 he2
              obtain ⟨rfl, rfl⟩ := he1
              obtain ⟨rfl, rfl⟩ := he2
              have hjl : j < l.length := by omega
              by_cases heq : s = sAt l j
              · have HR : Hid (lexB l = false) := HNO.out (by
                  have : hasS (l.take k) s = true := hasS_iff.2 (by
                    rw [heq]
                    have h5 : sAt l j = (l.take k)[j]'(by rw [List.length_take]; omega) := by simp [hjl]
                    rw [h5]; exact List.getElem_mem _)
                  rw [HLX.out, this]; simp)
                rw [← heq] at hc1
                clear heq
                go_wp2_with fail
                go_quiet (fail)
                go_wp2_with fail
                go_ret
                exact ⟨ret_bool HR.out.symm, below_drewN hb _⟩
              · have HJ2 : Hid (∀ i, i < j + 1 → s ≠ sAt l i) := fun i hi => by
                  by_cases e : i = j
                  · subst e; exact heq
                  · exact HJ.out i (by omega)
                have hne : ((sAt l j).toList == s.toList) = false := str_ne (Ne.symm heq)
                clear heq
                generalize sAt l j = t at *
                go_wp2_with fail
                go_quiet (fail)
                go_wp2_with fail
                go_roundw
                case rel => exact ⟨j + 1, by omega, by go_num, HJ2, below_drewN hb _⟩
                case measure => first | (simp [intOf]; done) | (simp [intOf]; omega)
            · have HR : Hid (∀ i, i < k + 1 → lexAt l i = true) := HYES.out (by
                have : hasS (l.take k) s = false := hasS_no (fun hmem => by
                  obtain ⟨i, hi, he⟩ := List.getElem_of_mem hmem
                  rw [List.length_take] at hi
                  exact HJ.out i (by omega) (by rw [← he]; simp [show i < l.length by omega]))
                rw [HLX.out, h2, this]; simp; omega)
              go_wp2_with fail
              go_roundw
              case rel => exact ⟨k + 1, by omega, by go_num, HR, hb⟩
              case measure => first | (simp [intOf]; done) | (simp [intOf]; omega)
        · simp only [Bool.not_eq_true] at h2
          have HR : Hid (lexB l = false) := HNO.out (by rw [HLX.out, h2]; simp)
          go_wp2_with (go_at_call 43; refine (l07Letters_any _ _ _ hzk).mono ?_; rintro e w' ⟨rfl, rfl⟩)
          go_ret
          exact ⟨ret_bool HR.out.symm, hb⟩
      · have HR : Hid (lexB l = false) := HNO.out (by rw [HLX.out, decide_eq_false (by omega)]; rfl)
        go_wp2_with fail
        go_ret
        exact ⟨ret_bool HR.out.symm, hb⟩
    · have HR : Hid (lexB l = inB l.length 2 16) := lexB_all fun i hi => HK.out i (by omega)
      by_cases h2 : 2 ≤ (l.length : Int)
      · go_wp2_with fail
        go_ret
        exact ⟨ret_bool (by rw [HR.out, Bool.eq_iff_iff]; simp [inB]; try omega), hb⟩
      · go_wp2_with fail
        go_ret
        exact ⟨ret_bool (by rw [HR.out, Bool.eq_iff_iff]; simp [inB]; try omega), hb⟩
end Go.Proofs.Ytdlagajnefkklaa
