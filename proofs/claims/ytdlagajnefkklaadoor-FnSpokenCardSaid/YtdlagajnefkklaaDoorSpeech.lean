/- The letters of a speech: the program's and the reference's ValidSpeech return the same: for all arguments. -/
import Derived.Test.YtdlagajnefkklaaDoorIdx
import Derived.Test.YtdlagajnefkklaaDoorIn
namespace Go.Proofs.YtdlagajnefkklaaDoor
open Go.RowKit

def isL (x : Int) : Bool := decide (97 ≤ x) && decide (x ≤ 122)
set_option maxHeartbeats 400000 in
theorem isLetter_any (x : Int) (w : World) :
    Calls Tryd.prog 40 #[.int .u8 x] w fun e w' => e = .returned (.bool (isL x)) ∧ w = w' := by
  by_cases h : 97 ≤ x
  all_goals
    go_enter Tryd.func40, Tryd.ntmps40
    go_wp2
    all_goals (go_ret; exact ⟨ret_bool (by rw [Bool.eq_iff_iff]; simp [isL]; try omega), rfl⟩)
theorem isLetter_is (x : Int) (b : Bool) (hb : isL x = b) (w : World) :
    Calls Tryd.prog 40 #[.int .u8 x] w fun e w' => e = .returned (.bool b) ∧ w = w' := hb ▸ isLetter_any x w

set_option maxHeartbeats 1000000 in
theorem different_letters (s : ByteArray) (w : World) (hs : s.size ≤ 1048576) :
    Calls Tryd.prog 39 #[.string s, .func (.func 40) #[] #[]] w fun e w' => e = .returned (.bool (diffB isL (bz s))) ∧ Below w.heap.size w w' := by
  go_enter Tryd.func39, Tryd.ntmps39
  go_wp2_with fail
  go_loopw [8] (fun iv wr => ∃ k : Nat, k ≤ s.size ∧ iv = .int .i64 k ∧ Hid (∀ i, i < k → (isL ((bz s).getD i 0) && !decide ((bz s).getD i 0 ∈ (bz s).take i)) = true) ∧ Below w.heap.size w wr) (fun iv _ => s.size - (intOf iv).toNat)
  case atStart => exact ⟨0, Nat.zero_le _, rfl, fun i hi => by omega, Below.refl _ _⟩
  case round =>
    obtain ⟨k, hk, rfl, HK, hb⟩ := hrel
    by_cases hlt : k < s.size
    · have hg := bz_get s k hlt
      have hb255 := bz_in s ((bz s).getD k 0) (by have := bz_len s; simp [show k < (bz s).length by omega])
      have HX : Hid (∀ wx, Calls Tryd.prog 35 #[.string (s.extract 0 k), .int .u8 (s[k].toNat : Int)] wx fun e w' => e = .returned (.int .i64 (ix ((bz s).take k) ((bz s).getD k 0))) ∧ wx = w') := fun wx => by
        have := indexByte_any (s.extract 0 k) (s[k].toNat : Int) wx (by rw [← hg]; exact hb255)
        rw [bz_extract, List.drop_zero, ← hg] at this
        rw [← hg]; exact this
      have HL : Hid (∀ (b : Bool), isL ((bz s).getD k 0) = b → ∀ wx, Calls Tryd.prog 40 #[.int .u8 (s[k].toNat : Int)] wx fun e w' => e = .returned (.bool b) ∧ wx = w') := fun b h wx => by
        rw [← hg]; exact isLetter_is _ b h wx
      have HM := Lib.hid (ix_mem ((bz s).take k) ((bz s).getD k 0))
      have hl : (bz s).length = s.size := bz_len s
      have HN := Lib.hid hl
      clear hl hg hb255
      by_cases h1 : isL ((bz s).getD k 0) = true
      · have H1 := Lib.hid h1
        clear h1
        by_cases h2 : 0 ≤ ix ((bz s).take k) ((bz s).getD k 0)
        · have HR : Hid (diffB isL (bz s) = false) := by
            have hm := HM.out
            rw [decide_eq_true h2] at hm
            exact diffB_no k (by rw [HN.out]; exact hlt) (by rw [← hm]; simp)
          generalize ix ((bz s).take k) ((bz s).getD k 0) = z at *
          go_wp2_with fail
          go_quiet (first | (go_at_call 40; exact quiet_same (HL.out _ H1.out _)) | (go_at_call 35; exact quiet_same (HX.out _)))
          go_wp2_with fail
          go_ret
          exact ⟨ret_bool HR.out.symm, below_drewN hb _⟩
        · have HK2 : Hid (∀ i, i < k + 1 → (isL ((bz s).getD i 0) && !decide ((bz s).getD i 0 ∈ (bz s).take i)) = true) := fun i hi => by
            by_cases e : i = k
            · subst e
              have hm := HM.out
              rw [decide_eq_false h2] at hm
              rw [← hm, H1.out]; rfl
            · exact HK.out i (by omega)
          generalize ix ((bz s).take k) ((bz s).getD k 0) = z at *
          go_wp2_with fail
          go_quiet (first | (go_at_call 40; exact quiet_same (HL.out _ H1.out _)) | (go_at_call 35; exact quiet_same (HX.out _)))
          go_wp2_with fail
          go_roundw
          case rel => exact ⟨k + 1, by omega, by go_num, HK2, below_drewN hb _⟩
          case measure => first | (simp [intOf]; done) | (simp [intOf]; omega)
      · simp only [Bool.not_eq_true] at h1
        have H1 := Lib.hid h1
        have HR : Hid (diffB isL (bz s) = false) := diffB_no k (by rw [HN.out]; exact hlt) (by rw [h1]; rfl)
        clear h1
        go_wp2_with fail
        go_quiet (first | (go_at_call 40; exact quiet_same (HL.out _ H1.out _)) | (go_at_call 35; exact quiet_same (HX.out _)))
        go_wp2_with fail
        go_ret
        exact ⟨ret_bool HR.out.symm, below_drewN hb _⟩
    · have HR : Hid (diffB isL (bz s) = true) := diffB_yes fun i hi => HK.out i (by have := bz_len s; omega)
      go_wp2_with fail
      go_ret
      exact ⟨ret_bool HR.out.symm, hb⟩

def vsB (a b : ByteArray) : Bool := (inB a.size 1 20 && inB b.size 1 6) && diffB isL (bz a ++ bz b)
set_option maxHeartbeats 1000000 in
theorem implSpeech_any (a b : ByteArray) (w : World) (hs : a.size + b.size ≤ 1048576) :
    Calls Tryd.prog 20 #[.agg #[.string a, .string b]] w fun e w' => e = .returned (.bool (vsB a b)) ∧ Below w.heap.size w w' := by
  have hsz : (a ++ b).size = a.size + b.size := ByteArray.size_append
  by_cases h1 : inB a.size 1 20 = true
  · by_cases h2 : inB b.size 1 6 = true
    · have HR : Hid (diffB isL (bz (a ++ b)) = vsB a b) := by simp [Hid, vsB, h1, h2, bz_append]
      have hab : (a ++ b).size ≤ 1048576 := by omega
      clear hsz
      go_enter Tryd.func20, Tryd.ntmps20
      go_wp2_with (first | (go_at_call 37; refine (in_any _ _ _ _).mono ?_; rintro e w' ⟨rfl, rfl⟩) | (go_at_call 39; refine (different_letters _ _ hab).mono ?_; rintro e w1 ⟨rfl, hb1⟩))
      go_ret
      exact ⟨ret_bool HR.out, ((Below.refl _ _).alloc (Nat.le_refl _) _).trans (hb1.mono (by simp))⟩
    · simp only [Bool.not_eq_true] at h2
      have HR : Hid (vsB a b = false) := by simp [Hid, vsB, h2]
      clear hsz
      go_enter Tryd.func20, Tryd.ntmps20
      go_wp2_with (go_at_call 37; refine (in_any _ _ _ _).mono ?_; rintro e w' ⟨rfl, rfl⟩)
      go_ret
      exact ⟨ret_bool HR.out.symm, (Below.refl _ _).alloc (Nat.le_refl _) _⟩
  · simp only [Bool.not_eq_true] at h1
    have HR : Hid (vsB a b = false) := by simp [Hid, vsB, h1]
    clear hsz
    go_enter Tryd.func20, Tryd.ntmps20
    go_wp2_with (go_at_call 37; refine (in_any _ _ _ _).mono ?_; rintro e w' ⟨rfl, rfl⟩)
    go_ret
    exact ⟨ret_bool HR.out.symm, (Below.refl _ _).alloc (Nat.le_refl _) _⟩

/-- The places before k have no byte c. -/
theorem ix_none {xs : List Int} {c : Int} (h : ∀ i, i < xs.length → xs.getD i 0 ≠ c) : ix xs c = -1 := by
  induction xs with
  | nil => rfl
  | cons x xs ih =>
    have h0 := h 0 (by simp)
    simp at h0
    rw [ix, if_neg h0, ih fun i hi => by simpa using h (i + 1) (by simpa using hi)]
    rfl
theorem ix_some {xs : List Int} {c : Int} : ∀ (k : Nat), k < xs.length → xs.getD k 0 = c → (∀ i, i < k → xs.getD i 0 ≠ c) → ix xs c = k := by
  induction xs with
  | nil => intro k hk; simp at hk
  | cons x xs ih =>
    intro k hk he hn
    cases k with
    | zero => simp at he; rw [ix, if_pos he]; rfl
    | succ k =>
      have h0 := hn 0 (by omega)
      simp at h0
      rw [ix, if_neg h0, ih k (by simpa using hk) (by simpa using he) fun i hi => by simpa using hn (i + 1) (by omega)]
      rw [if_neg (by omega)]; omega
set_option maxHeartbeats 1000000 in
theorem l07Index_any (s : ByteArray) (c : Int) (w : World) (hs : s.size ≤ 1048576) :
    Calls Tryd.prog 32 #[.string s, .int .u8 c] w fun e w' => e = .returned (.int .i64 (ix (bz s) c)) ∧ w = w' := by
  go_enter Tryd.func32, Tryd.ntmps32
  go_wp2_with fail
  go_loop [5] (fun iv => ∃ k : Nat, k ≤ s.size ∧ iv = .int .i64 k ∧ Hid (∀ i, i < k → (bz s).getD i 0 ≠ c)) (fun iv => s.size - (intOf iv).toNat)
  case atStart => exact ⟨0, Nat.zero_le _, rfl, fun i hi => by omega⟩
  case round =>
    obtain ⟨k, hk, rfl, HK⟩ := hrel
    by_cases hlt : k < s.size
    · have HG := Lib.hid (bz_get s k hlt)
      by_cases he : (s[k].toNat : Int) = c
      · have HR : Hid (ix (bz s) c = k) := ix_some k (by rw [bz_len]; exact hlt) (by rw [HG.out]; exact he) HK.out
        have h1 : ((s[k].toNat : Int) == c) = true := by simp [he]
        clear he
        go_wp2_with fail
        go_ret
        exact ⟨ret_i64 HR.out.symm, rfl⟩
      · have HK2 : Hid (∀ i, i < k + 1 → (bz s).getD i 0 ≠ c) := fun i hi => by
          by_cases e : i = k
          · subst e; rw [HG.out]; exact he
          · exact HK.out i (by omega)
        have h1 : ((s[k].toNat : Int) == c) = false := by simp [he]
        clear he
        go_wp2_with fail
        go_round
        case rel => exact ⟨k + 1, by omega, by go_num, HK2⟩
        case measure => first | (simp [intOf]; done) | (simp [intOf]; omega)
    · have HR : Hid (ix (bz s) c = -1) := ix_none fun i hi => HK.out i (by rw [bz_len] at hi; omega)
      go_wp2_with fail
      go_ret
      exact ⟨ret_i64 HR.out.symm, rfl⟩
/-- All bytes are small letters, and there are at most n of them. -/
def letB (s : ByteArray) (n : Int) : Bool := (bz s).all isL && decide ((s.size : Int) ≤ n)
theorem all_no {P : Int → Bool} {xs : List Int} (k : Nat) (hk : k < xs.length) (h : P (xs.getD k 0) = false) : xs.all P = false := by
  rw [← Bool.not_eq_true, List.all_eq_true]
  intro hh
  have := hh (xs.getD k 0) (by simp [hk])
  rw [h] at this
  cases this
theorem all_yes {P : Int → Bool} {xs : List Int} (h : ∀ k, k < xs.length → P (xs.getD k 0) = true) : xs.all P = true := by
  rw [List.all_eq_true]
  intro x hx
  obtain ⟨k, hk, rfl⟩ := List.getElem_of_mem hx
  have := h k hk
  simpa [hk] using this
set_option maxHeartbeats 1000000 in
theorem l07Letters_any (s : ByteArray) (n : Int) (w : World) (hs : s.size ≤ 1048576) :
    Calls Tryd.prog 48 #[.string s, .int .i64 n] w fun e w' => e = .returned (.bool (letB s n)) ∧ w = w' := by
  go_enter Tryd.func48, Tryd.ntmps48
  go_wp2_with fail
  go_loop [5] (fun iv => ∃ k : Nat, k ≤ s.size ∧ iv = .int .i64 k ∧ Hid (∀ i, i < k → isL ((bz s).getD i 0) = true)) (fun iv => s.size - (intOf iv).toNat)
  case atStart => exact ⟨0, Nat.zero_le _, rfl, fun i hi => by omega⟩
  case round =>
    obtain ⟨k, hk, rfl, HK⟩ := hrel
    by_cases hlt : k < s.size
    · have HG := Lib.hid (bz_get s k hlt)
      by_cases h1 : 97 ≤ (s[k].toNat : Int)
      · by_cases h2 : (s[k].toNat : Int) ≤ 122
        · have HK2 : Hid (∀ i, i < k + 1 → isL ((bz s).getD i 0) = true) := fun i hi => by
            by_cases e : i = k
            · subst e; rw [HG.out]; simp [isL]; omega
            · exact HK.out i (by omega)
          go_wp2_with fail
          go_round
          case rel => exact ⟨k + 1, by omega, by go_num, HK2⟩
          case measure => first | (simp [intOf]; done) | (simp [intOf]; omega)
        · have HR : Hid (letB s n = false) := by
            have := all_no (P := isL) k (by rw [bz_len]; exact hlt) (by rw [HG.out]; simp [isL]; omega)
            simp [Hid, letB, this]
          go_wp2_with fail
          go_ret
          exact ⟨ret_bool HR.out.symm, rfl⟩
      · have HR : Hid (letB s n = false) := by
          have := all_no (P := isL) k (by rw [bz_len]; exact hlt) (by rw [HG.out]; simp [isL]; omega)
          simp [Hid, letB, this]
        go_wp2_with fail
        go_ret
        exact ⟨ret_bool HR.out.symm, rfl⟩
    · have HR : Hid ((bz s).all isL = true) := all_yes fun i hi => HK.out i (by rw [bz_len] at hi; omega)
      go_wp2_with fail
      go_ret
      exact ⟨ret_bool (by rw [letB, HR.out]; rfl), rfl⟩
end Go.Proofs.YtdlagajnefkklaaDoor
