/- Symbols: the program's isSymbol and the reference's l01Digit; the place of a byte: the reference's l07Index. -/
import Derived.Test.YtdkheeocglfogaaInts
import Derived.Test.YtdkheeocglfogaaIn
import Derived.Test.YtdkheeocglfogaaIdx
import Derived.Test.YtdkheeocglfogaaStrs
namespace Go.Proofs.Ytdkheeocglfogaa
open Go.RowKit

/-- The digit of a symbol, or -1. -/
def dg (c : Int) : Int := if 48 ≤ c ∧ c ≤ 57 then c - 48 else if 65 ≤ c ∧ c ≤ 90 then c - 55 else -1
theorem dg_in (c : Int) : -1 ≤ dg c ∧ dg c ≤ 35 := by unfold dg; split <;> (try split) <;> omega
theorem ix_dg : ∀ c : Fin 256, ix (bz ⟨#[48, 49, 50, 51, 52, 53, 54, 55, 56, 57, 65, 66, 67, 68, 69, 70, 71, 72, 73, 74, 75, 76, 77, 78, 79, 80, 81, 82, 83, 84, 85, 86, 87, 88, 89, 90]⟩) ((c.val : Nat) : Int) = dg ((c.val : Nat) : Int) := by decide +kernel
theorem symIx (c : Int) (w : World) (hc : 0 ≤ c ∧ c ≤ 255) :
    Calls Try.prog 45 #[.string ⟨#[48, 49, 50, 51, 52, 53, 54, 55, 56, 57, 65, 66, 67, 68, 69, 70, 71, 72, 73, 74, 75, 76, 77, 78, 79, 80, 81, 82, 83, 84, 85, 86, 87, 88, 89, 90]⟩, .int .u8 c] w fun e w' => e = .returned (.int .i64 (dg c)) ∧ w = w' := by
  have h := indexByte_any ⟨#[48, 49, 50, 51, 52, 53, 54, 55, 56, 57, 65, 66, 67, 68, 69, 70, 71, 72, 73, 74, 75, 76, 77, 78, 79, 80, 81, 82, 83, 84, 85, 86, 87, 88, 89, 90]⟩ c w hc
  have e := ix_dg ⟨c.toNat, by omega⟩
  simp only [Int.toNat_of_nonneg hc.1] at e
  rw [e] at h
  exact h
set_option maxHeartbeats 400000 in
theorem l01Digit_any (c : Int) (w : World) (hc : 0 ≤ c ∧ c ≤ 255) :
    Calls Try.prog 59 #[.int .u8 c] w fun e w' => e = .returned (.int .i64 (dg c)) ∧ w = w' := by
  by_cases h1 : 48 ≤ c
  · by_cases h2 : c ≤ 57
    · have hd : Hid (c - 48 = dg c) := by unfold Hid dg; rw [if_pos ⟨h1, h2⟩]
      have f1 : IntKind.u8.wrap (c - 48) = c - 48 := IntWalk.u8_in _ (by omega)
      have f2 : IntKind.i64.wrap (c - 48) = c - 48 := IntWalk.i64_in _ (by omega)
      go_enter Try.func59, Try.ntmps59
      go_wp2_with fail
      go_ret
      exact ⟨ret_i64 hd.out, rfl⟩
    · by_cases h3 : 65 ≤ c
      · by_cases h4 : c ≤ 90
        · have hd : Hid (c - 65 + 10 = dg c) := by unfold Hid dg; rw [if_neg (by omega), if_pos ⟨h3, h4⟩]; omega
          have f1 : IntKind.u8.wrap (c - 65) = c - 65 := IntWalk.u8_in _ (by omega)
          have f2 : IntKind.i64.wrap (c - 65) = c - 65 := IntWalk.i64_in _ (by omega)
          have f3 : IntKind.i64.wrap (c - 65 + 10) = c - 65 + 10 := IntWalk.i64_in _ (by omega)
          go_enter Try.func59, Try.ntmps59
          go_wp2_with fail
          go_ret
          exact ⟨ret_i64 hd.out, rfl⟩
        · have hd : Hid (-1 = dg c) := by unfold Hid dg; rw [if_neg (by omega), if_neg (by omega)]
          go_enter Try.func59, Try.ntmps59
          go_wp2_with fail
          go_ret
          exact ⟨ret_i64 hd.out, rfl⟩
      · have hd : Hid (-1 = dg c) := by unfold Hid dg; rw [if_neg (by omega), if_neg (by omega)]
        go_enter Try.func59, Try.ntmps59
        go_wp2_with fail
        go_ret
        exact ⟨ret_i64 hd.out, rfl⟩
  · have hd : Hid (-1 = dg c) := by unfold Hid dg; rw [if_neg (by omega), if_neg (by omega)]
    have h5 : ¬ 65 ≤ c := by omega
    go_enter Try.func59, Try.ntmps59
    go_wp2_with fail
    go_ret
    exact ⟨ret_i64 hd.out, rfl⟩
/-- The places before k have no byte c. -/
theorem ix_none {xs : List Int} {c : Int} (h : ∀ i, i < xs.length → xs.getD i 0 ≠ c) : ix xs c = -1 := by
  induction xs with
  | nil => rfl
  | cons x xs ih =>
    have h0 := h 0 (by simp)
    simp at h0
    rw [ix, if_neg h0, ih fun i hi => by simpa using h (i + 1) (by simpa using hi)]
    rfl
theorem ix_some {xs : List Int} {c : Int} : ∀ (k : Nat), k < xs.length → xs.getD k 0 = c → (∀ i, i < k → xs.getD i 0 ≠ c) → ix xs c = k := by
  induction xs with
  | nil => intro k hk; simp at hk
  | cons x xs ih =>
    intro k hk he hn
    cases k with
    | zero => simp at he; rw [ix, if_pos he]; rfl
    | succ k =>
      have h0 := hn 0 (by omega)
      simp at h0
      rw [ix, if_neg h0, ih k (by simpa using hk) (by simpa using he) fun i hi => by simpa using hn (i + 1) (by omega)]
      rw [if_neg (by omega)]; omega
set_option maxHeartbeats 1000000 in
theorem l07Index_any (s : ByteArray) (c : Int) (w : World) (hs : s.size ≤ 1048576) :
    Calls Try.prog 51 #[.string s, .int .u8 c] w fun e w' => e = .returned (.int .i64 (ix (bz s) c)) ∧ w = w' := by
  go_enter Try.func51, Try.ntmps51
  go_wp2_with fail
  go_loop [5] (fun iv => ∃ k : Nat, k ≤ s.size ∧ iv = .int .i64 k ∧ Hid (∀ i, i < k → (bz s).getD i 0 ≠ c)) (fun iv => s.size - (intOf iv).toNat)
  case atStart => exact ⟨0, Nat.zero_le _, rfl, fun i hi => by omega⟩
  case round =>
    obtain ⟨k, hk, rfl, HK⟩ := hrel
    by_cases hlt : k < s.size
    · have HG := Lib.hid (bz_get s k hlt)
      by_cases he : (s[k].toNat : Int) = c
      · have HR : Hid (ix (bz s) c = k) := ix_some k (by rw [bz_len]; exact hlt) (by rw [HG.out]; exact he) HK.out
        have h1 : ((s[k].toNat : Int) == c) = true := by simp [he]
        clear he
        go_wp2_with fail
        go_ret
        exact ⟨ret_i64 HR.out.symm, rfl⟩
      · have HK2 : Hid (∀ i, i < k + 1 → (bz s).getD i 0 ≠ c) := fun i hi => by
          by_cases e : i = k
          · subst e; rw [HG.out]; exact he
          · exact HK.out i (by omega)
        have h1 : ((s[k].toNat : Int) == c) = false := by simp [he]
        clear he
        go_wp2_with fail
        go_round
        case rel => exact ⟨k + 1, by omega, by go_num, HK2⟩
        case measure => first | (simp [intOf]; done) | (simp [intOf]; omega)
    · have HR : Hid (ix (bz s) c = -1) := ix_none fun i hi => HK.out i (by rw [bz_len] at hi; omega)
      go_wp2_with fail
      go_ret
      exact ⟨ret_i64 HR.out.symm, rfl⟩
theorem all_no {P : Int → Bool} {xs : List Int} (k : Nat) (hk : k < xs.length) (h : P (xs.getD k 0) = false) : xs.all P = false := by
  rw [← Bool.not_eq_true, List.all_eq_true]
  intro hh
  have := hh (xs.getD k 0) (by simp [hk])
  rw [h] at this
  cases this
theorem all_yes {P : Int → Bool} {xs : List Int} (h : ∀ k, k < xs.length → P (xs.getD k 0) = true) : xs.all P = true := by
  rw [List.all_eq_true]
  intro x hx
  obtain ⟨k, hk, rfl⟩ := List.getElem_of_mem hx
  have := h k hk
  simpa [hk] using this
/-- A symbol. -/
def isS (c : Int) : Bool := decide (0 ≤ dg c)
set_option maxHeartbeats 400000 in
theorem isSymbol_any (c : Int) (w : World) (hc : 0 ≤ c ∧ c ≤ 255) :
    Calls Try.prog 37 #[.int .u8 c] w fun e w' => e = .returned (.bool (isS c)) ∧ w = w' := by
  have HR : Hid (isS c = decide (0 ≤ dg c)) := rfl
  have HX : Hid (∀ wx, Calls Try.prog 45 #[.string ⟨#[48, 49, 50, 51, 52, 53, 54, 55, 56, 57, 65, 66, 67, 68, 69, 70, 71, 72, 73, 74, 75, 76, 77, 78, 79, 80, 81, 82, 83, 84, 85, 86, 87, 88, 89, 90]⟩, .int .u8 c] wx fun e w' => e = .returned (.int .i64 (dg c)) ∧ wx = w') := fun wx => symIx c wx hc
  generalize dg c = d at *
  go_enter Try.func37, Try.ntmps37
  go_wp2_with (go_at_call 45; refine (HX.out _).mono ?_; rintro e w' ⟨rfl, rfl⟩)
  go_ret
  exact ⟨ret_bool HR.out.symm, rfl⟩
theorem isSymbol_is (c : Int) (b : Bool) (hb : isS c = b) (w : World) (hc : 0 ≤ c ∧ c ≤ 255) :
    Calls Try.prog 37 #[.int .u8 c] w fun e w' => e = .returned (.bool b) ∧ w = w' := hb ▸ isSymbol_any c w hc

/-- strings.Index and strings.Contains at one byte. -/
theorem size1 {s : ByteArray} (h : s.size = 1) : ∃ c : UInt8, s = ⟨#[c]⟩ := by
  obtain ⟨⟨l⟩⟩ := s
  match l, h with
  | [c], _ => exact ⟨c, rfl⟩
set_option maxHeartbeats 1000000 in
set_option maxRecDepth 100000 in
theorem slIndex1 (s : ByteArray) (c : UInt8) (w : World) :
    Calls Try.prog 69 #[.string s, .string ⟨#[c]⟩] w fun e w' => e = .returned (.int .i64 (ix (bz s) (c.toNat : Int))) ∧ w = w' := by
  have HX : Hid (∀ wx, Calls Try.prog 62 #[.string s, .int .u8 (c.toNat : Int)] wx fun e w' => e = .returned (.int .i64 (ix (bz s) (c.toNat : Int))) ∧ wx = w') := fun wx => by
    have h := slIndexByte s (c.toNat : Int) wx
    have e : Lib.indexByte s.data.toList (c.toNat : Int).toNat.toUInt8 = ix (bz s) (c.toNat : Int) := by
      rw [indexByte_ix]
      unfold bz
      congr 1
      simp
    rw [e] at h
    exact h
  by_cases hs : s = ⟨#[c]⟩
  · subst hs
    have e : Hid (ix (bz ⟨#[c]⟩) (c.toNat : Int) = 0) := by
      unfold Hid
      have : bz ⟨#[c]⟩ = [(c.toNat : Int)] := rfl
      rw [this, ix, if_pos rfl]
    clear HX
    go_enter Try.func69, Try.ntmps69
    go_wp2_with fail
    go_ret
    exact ⟨ret_i64 e.out.symm, rfl⟩
  · have hne : ([c] == s.toList) = false := by
      have := str_ne (Ne.symm hs)
      rw [ByteArray.toList_eq ⟨#[c]⟩] at this
      exact this
    clear hs
    generalize ix (bz s) (c.toNat : Int) = d at *
    go_enter Try.func69, Try.ntmps69
    go_wp2_with (go_at_call 62; refine (HX.out _).mono ?_; rintro e w' ⟨rfl, rfl⟩)
    go_ret
    exact ⟨rfl, rfl⟩
set_option maxHeartbeats 400000 in
theorem contains1 (s : ByteArray) (c : UInt8) (b : Bool) (hb : decide ((c.toNat : Int) ∈ bz s) = b) (w : World) :
    Calls Try.prog 38 #[.string s, .string ⟨#[c]⟩] w fun e w' => e = .returned (.bool b) ∧ w = w' := by
  have HM := Lib.hid (ix_mem (bz s) (c.toNat : Int))
  have HB := Lib.hid hb
  clear hb
  have HX : Hid (∀ wx, Calls Try.prog 69 #[.string s, .string ⟨#[c]⟩] wx fun e w' => e = .returned (.int .i64 (ix (bz s) (c.toNat : Int))) ∧ wx = w') := fun wx => slIndex1 s c wx
  have HY : Hid (decide (0 ≤ ix (bz s) (c.toNat : Int)) = b) := HM.out.trans HB.out
  clear HM HB
  generalize ix (bz s) (c.toNat : Int) = d at *
  go_enter Try.func38, Try.ntmps38
  go_wp2_with (first | (go_at_call 69; refine (HX.out _).mono ?_; rintro e w' ⟨rfl, rfl⟩) | go_in)
  go_ret
  exact ⟨ret_bool HY.out, rfl⟩
end Go.Proofs.Ytdkheeocglfogaa
