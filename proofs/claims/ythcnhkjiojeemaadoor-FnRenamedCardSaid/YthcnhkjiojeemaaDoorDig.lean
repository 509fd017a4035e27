import Derived.Test.YthcnhkjiojeemaaDoorInts
import Derived.Test.YthcnhkjiojeemaaDoorIn
import Derived.Test.YthcnhkjiojeemaaDoorIdx
import Derived.Test.YthcnhkjiojeemaaDoorStrs
namespace Go.Proofs.YthcnhkjiojeemaaDoor
open Go.RowKit

/-- The digit of a symbol, or -1. -/
def dg (c : Int) : Int := if 48 ≤ c ∧ c ≤ 57 then c - 48 else if 65 ≤ c ∧ c ≤ 90 then c - 55 else -1
theorem dg_in (c : Int) : -1 ≤ dg c ∧ dg c ≤ 35 := by unfold dg; split <;> (try split) <;> omega
theorem ix_dg : ∀ c : Fin 256, ix (bz ⟨#[48, 49, 50, 51, 52, 53, 54, 55, 56, 57, 65, 66, 67, 68, 69, 70, 71, 72, 73, 74, 75, 76, 77, 78, 79, 80, 81, 82, 83, 84, 85, 86, 87, 88, 89, 90]⟩) ((c.val : Nat) : Int) = dg ((c.val : Nat) : Int) := by decide +kernel
theorem symIx (c : Int) (w : World) (hc : 0 ≤ c ∧ c ≤ 255) :
    Calls Tryd.prog 43 #[.string ⟨#[48, 49, 50, 51, 52, 53, 54, 55, 56, 57, 65, 66, 67, 68, 69, 70, 71, 72, 73, 74, 75, 76, 77, 78, 79, 80, 81, 82, 83, 84, 85, 86, 87, 88, 89, 90]⟩, .int .u8 c] w fun e w' => e = .returned (.int .i64 (dg c)) ∧ w = w' := by
  have h := indexByte_any ⟨#[48, 49, 50, 51, 52, 53, 54, 55, 56, 57, 65, 66, 67, 68, 69, 70, 71, 72, 73, 74, 75, 76, 77, 78, 79, 80, 81, 82, 83, 84, 85, 86, 87, 88, 89, 90]⟩ c w hc
  have e := ix_dg ⟨c.toNat, by omega⟩
  simp only [Int.toNat_of_nonneg hc.1] at e
  rw [e] at h
  exact h
set_option maxHeartbeats 400000 in
theorem l01Digit_any (c : Int) (w : World) (hc : 0 ≤ c ∧ c ≤ 255) :
    Calls Tryd.prog 19 #[.int .u8 c] w fun e w' => e = .returned (.int .i64 (dg c)) ∧ w = w' := by
  by_cases h1 : 48 ≤ c
  · by_cases h2 : c ≤ 57
    · have hd : Hid (c - 48 = dg c) := by unfold Hid dg; rw [if_pos ⟨h1, h2⟩]
      have f1 : IntKind.u8.wrap (c - 48) = c - 48 := IntWalk.u8_in _ (by omega)
      have f2 : IntKind.i64.wrap (c - 48) = c - 48 := IntWalk.i64_in _ (by omega)
      go_enter Tryd.func19, Tryd.ntmps19
      go_wp2_with fail
      go_ret
      exact ⟨ret_i64 hd.out, rfl⟩
    · by_cases h3 : 65 ≤ c
      · by_cases h4 : c ≤ 90
        · have hd : Hid (c - 65 + 10 = dg c) := by unfold Hid dg; rw [if_neg (by omega), if_pos ⟨h3, h4⟩]; omega
          have f1 : IntKind.u8.wrap (c - 65) = c - 65 := IntWalk.u8_in _ (by omega)
          have f2 : IntKind.i64.wrap (c - 65) = c - 65 := IntWalk.i64_in _ (by omega)
          have f3 : IntKind.i64.wrap (c - 65 + 10) = c - 65 + 10 := IntWalk.i64_in _ (by omega)
          go_enter Tryd.func19, Tryd.ntmps19
          go_wp2_with fail
          go_ret
          exact ⟨ret_i64 hd.out, rfl⟩
        · have hd : Hid (-1 = dg c) := by unfold Hid dg; rw [if_neg (by omega), if_neg (by omega)]
          go_enter Tryd.func19, Tryd.ntmps19
          go_wp2_with fail
          go_ret
          exact ⟨ret_i64 hd.out, rfl⟩
      · have hd : Hid (-1 = dg c) := by unfold Hid dg; rw [if_neg (by omega), if_neg (by omega)]
        go_enter Tryd.func19, Tryd.ntmps19
        go_wp2_with fail
        go_ret
        exact ⟨ret_i64 hd.out, rfl⟩
  · have hd : Hid (-1 = dg c) := by unfold Hid dg; rw [if_neg (by omega), if_neg (by omega)]
    have h5 : ¬ 65 ≤ c := by omega
    go_enter Tryd.func19, Tryd.ntmps19
    go_wp2_with fail
    go_ret
    exact ⟨ret_i64 hd.out, rfl⟩
set_option maxHeartbeats 400000 in
theorem baseOk_any (b : Int) (w : World) :
    Calls Tryd.prog 42 #[.int .i64 b] w fun e w' => e = .returned (.bool (inB b 2 36)) ∧ w = w' := by
  go_enter Tryd.func42, Tryd.ntmps42
  go_wp2_with (go_at_call 44; refine (in_any _ _ _ _).mono ?_; rintro e w' ⟨rfl, rfl⟩)
  go_ret
  exact ⟨rfl, rfl⟩
/-- All symbols are digits of the base. -/
def wdB (s : ByteArray) (b : Int) : Bool := (bz s).all fun c => inB (dg c) 0 (b - 1)
def dgs (s : ByteArray) : List Int := (bz s).map dg
theorem dgs_len (s : ByteArray) : (dgs s).length = s.size := by simp [dgs, bz_len]
theorem wdB_no {s : ByteArray} {b : Int} (k : Nat) (hk : k < s.size) (h : inB (dg (s[k].toNat : Int)) 0 (b - 1) = false) : wdB s b = false := by
  rw [← Bool.not_eq_true]
  unfold wdB
  rw [List.all_eq_true]
  intro hh
  have := hh ((bz s).getD k 0) (getD_mem (by rw [bz_len]; exact hk))
  rw [bz_get s k hk, h] at this
  exact absurd this (by simp)
theorem wdB_yes {s : ByteArray} {b : Int} (h : ∀ k, (hk : k < s.size) → inB (dg (s[k].toNat : Int)) 0 (b - 1) = true) : wdB s b = true := by
  unfold wdB
  rw [List.all_eq_true]
  intro x hx
  obtain ⟨k, hk, rfl⟩ := List.mem_iff_getElem.1 hx
  have hk' := hk
  rw [bz_len] at hk'
  rw [← getD_eq hk, bz_get s k hk']
  exact h k hk'
def digB (s : ByteArray) (b : Int) (m : Int) : Bool := (inB b 2 36 && decide ((s.size : Int) ≤ m)) && wdB s b
/-- What digitsOf hands back. -/
def DigPost (s : ByteArray) (b m : Int) (w : World) (e : Ending) (w' : World) : Prop :=
  ∃ v, e = .returned (.tuple #[v, .bool (digB s b m)]) ∧ OI w.heap.size w' v (if digB s b m then dgs s else []) ∧ Below w.heap.size w w'
theorem DigPost.no {s : ByteArray} {b m : Int} {w w' : World} (h : digB s b m = false) (hb : Below w.heap.size w w') : DigPost s b m w (.returned (.tuple #[.slice none 0 0, .bool false])) w' :=
  ⟨_, by rw [h], by rw [h]; exact OK.nil _ _ _ _, hb⟩
theorem DigPost.yes {s : ByteArray} {b m : Int} {w w' : World} {v : Value} (h : digB s b m = true) (ho : OI w.heap.size w' v (dgs s)) (hb : Below w.heap.size w w') : DigPost s b m w (.returned (.tuple #[v, .bool true])) w' :=
  ⟨_, by rw [h], by rw [h]; exact ho, hb⟩
set_option maxHeartbeats 1000000 in
theorem digitsOf_any (s : ByteArray) (b m : Int) (w : World) (hs : s.size ≤ 1048576) :
    Calls Tryd.prog 23 #[.string s, .int .i64 b, .int .i64 m] w (DigPost s b m w) := by
  have hs' : s.size ≤ 1099511627776 := by omega
  by_cases hb : inB b 2 36 = true
  · have HB := Lib.hid hb
    have hbr : 2 ≤ b ∧ b ≤ 36 := by simp [inB] at hb; exact hb
    have hq : ∀ w1, Calls Tryd.prog 42 #[.int .i64 b] w1 fun e w' => e = .returned (.bool true) ∧ w1 = w' := fun w1 => by
      have := baseOk_any b w1
      rw [HB.out] at this; exact this
    clear hb
    by_cases hm : (s.size : Int) ≤ m
    · have HM := Lib.hid hm
      have f1 : IntKind.i64.wrap (b - 1) = b - 1 := IntWalk.i64_in _ (by omega)
      go_enter Tryd.func23, Tryd.ntmps23
      go_wp2_with (go_at_call 42; refine (hq _).mono ?_; rintro e w' ⟨rfl, rfl⟩)
      have hown0 : OI w.heap.size (w.alloc (.cells #[] 2)) (.slice (some ⟨w.heap.size, 0, none⟩) 0 0) [] := OK.made _ _ _ (Nat.le_refl _)
      have hbl0 : Below w.heap.size w (w.alloc (.cells #[] 2)) := (Below.refl _ _).alloc (Nat.le_refl _) _
      generalize w.alloc (.cells #[] 2) = w2 at *
      generalize Value.slice (some ⟨w.heap.size, 0, none⟩) 0 0 = v0 at *
      go_loopw [8, 9, 10, 23] (fun out _ _ iv wr => ∃ k : Nat, k ≤ s.size ∧ iv = .int .i64 k ∧ OI w.heap.size wr out ((dgs s).take k) ∧ Hid (∀ i, (hi : i < s.size) → i < k → inB (dg (s[i].toNat : Int)) 0 (b - 1) = true) ∧ Below w.heap.size w wr) (fun _ _ _ iv _ => s.size - (intOf iv).toNat)
      case atStart => exact ⟨0, Nat.zero_le _, rfl, hown0, (fun i _ h => by omega), hbl0⟩
      case round =>
        obtain ⟨k, hk, rfl, hown, HK, hbw⟩ := hrel
        clear hown0 hbl0
        have hz := hbw.size
        by_cases hlt : k < s.size
        · have hcc : 0 ≤ (s[k].toNat : Int) ∧ (s[k].toNat : Int) ≤ 255 := by have := s[k].toNat_lt; omega
          have hl : ((dgs s).take k).length ≤ 1099511627776 := by rw [List.length_take]; omega
          have ht : (dgs s).take (k + 1) = (dgs s).take k ++ [dg (s[k].toNat : Int)] := by
            rw [List.take_add_one, List.getElem?_eq_getElem (by rw [dgs_len]; exact hlt)]
            have : (dgs s)[k]'(by rw [dgs_len]; exact hlt) = dg (s[k].toNat : Int) := by
              rw [← bz_get s k hlt, getD_eq (by rw [bz_len]; exact hlt)]
              simp [dgs]
            rw [this]; rfl
          have HT := Lib.hid ht
          clear ht
          by_cases hin : inB (dg (s[k].toNat : Int)) 0 (b - 1) = true
          · have HK2 : Hid (∀ i, (hi : i < s.size) → i < k + 1 → inB (dg (s[i].toNat : Int)) 0 (b - 1) = true) := fun i hi h => by
              by_cases e : i = k
              · subst e; exact hin
              · exact HK.out i hi (by omega)
            have HC : Hid (∀ wx, Calls Tryd.prog 43 #[.string ⟨#[48, 49, 50, 51, 52, 53, 54, 55, 56, 57, 65, 66, 67, 68, 69, 70, 71, 72, 73, 74, 75, 76, 77, 78, 79, 80, 81, 82, 83, 84, 85, 86, 87, 88, 89, 90]⟩, .int .u8 (s[k].toNat : Int)] wx fun e w' => e = .returned (.int .i64 (dg (s[k].toNat : Int))) ∧ wx = w') := fun wx => symIx _ wx hcc
            have HI : Hid (∀ wx, Calls Tryd.prog 44 #[.int .i64 (dg (s[k].toNat : Int)), .int .i64 0, .int .i64 (b - 1)] wx fun e w' => e = .returned (.bool true) ∧ wx = w') := fun wx => by
              have := in_any (dg (s[k].toNat : Int)) 0 (b - 1) wx
              rw [hin] at this; exact this
            clear hin
            generalize dg (s[k].toNat : Int) = d at *
            go_wp2_with (first
              | (go_at_call 43; refine (HC.out _).mono ?_; rintro e w' ⟨rfl, rfl⟩)
              | (go_at_call 44; refine (HI.out _).mono ?_; rintro e w' ⟨rfl, rfl⟩)
              | (at_builtin; refine wpl_app_i64 rfl _ _ rfl w.heap.size _ _ rfl (hown.alloc _) _ _ _ rfl (World.cell?_alloc_at _ _ _ _ rfl) hl (by simp; omega) ?_; intro v' w1 hown1 hgr))
            have hb1 : Below w.heap.size w w1 := own_below (hbw.alloc hz _) (hown.alloc _) hgr (by simp; omega)
            rw [← HT.out] at hown1
            go_roundw
            case rel => exact ⟨k + 1, by omega, by go_num, hown1, HK2, hb1⟩
            case measure => first | (simp [intOf]; done) | (simp [intOf]; omega)
          · simp only [Bool.not_eq_true] at hin
            have HR : Hid (digB s b m = false) := by unfold Hid digB; rw [wdB_no k hlt hin]; simp
            have HC : Hid (∀ wx, Calls Tryd.prog 43 #[.string ⟨#[48, 49, 50, 51, 52, 53, 54, 55, 56, 57, 65, 66, 67, 68, 69, 70, 71, 72, 73, 74, 75, 76, 77, 78, 79, 80, 81, 82, 83, 84, 85, 86, 87, 88, 89, 90]⟩, .int .u8 (s[k].toNat : Int)] wx fun e w' => e = .returned (.int .i64 (dg (s[k].toNat : Int))) ∧ wx = w') := fun wx => symIx _ wx hcc
            have HI : Hid (∀ wx, Calls Tryd.prog 44 #[.int .i64 (dg (s[k].toNat : Int)), .int .i64 0, .int .i64 (b - 1)] wx fun e w' => e = .returned (.bool false) ∧ wx = w') := fun wx => by
              have := in_any (dg (s[k].toNat : Int)) 0 (b - 1) wx
              rw [hin] at this; exact this
            clear hin
            generalize dg (s[k].toNat : Int) = d at *
            go_wp2_with (first
              | (go_at_call 43; refine (HC.out _).mono ?_; rintro e w' ⟨rfl, rfl⟩)
              | (go_at_call 44; refine (HI.out _).mono ?_; rintro e w' ⟨rfl, rfl⟩))
            go_ret2
            exact DigPost.no HR.out hbw
        · obtain rfl : k = s.size := by omega
          have HR : Hid (digB s b m = true) := by
            unfold Hid digB; rw [HB.out, decide_eq_true HM.out, wdB_yes fun i hi => HK.out i hi hi]; rfl
          rw [List.take_of_length_le (by rw [dgs_len]; exact Nat.le_refl _)] at hown
          go_wp2_with fail
          go_ret2
          exact DigPost.yes HR.out hown hbw
    · have HR : Hid (digB s b m = false) := by unfold Hid digB; rw [decide_eq_false hm]; simp
      have hm' : m < (s.size : Int) := by omega
      clear hm
      go_enter Tryd.func23, Tryd.ntmps23
      go_wp2_with (go_at_call 42; refine (hq _).mono ?_; rintro e w' ⟨rfl, rfl⟩)
      go_ret2
      exact DigPost.no HR.out (Below.refl _ _)
  · simp only [Bool.not_eq_true] at hb
    have HR : Hid (digB s b m = false) := by unfold Hid digB; rw [hb]; simp
    have hq : ∀ w1, Calls Tryd.prog 42 #[.int .i64 b] w1 fun e w' => e = .returned (.bool false) ∧ w1 = w' := fun w1 => by
      have := baseOk_any b w1
      rw [hb] at this; exact this
    clear hb
    go_enter Tryd.func23, Tryd.ntmps23
    go_wp2_with (go_at_call 42; refine (hq _).mono ?_; rintro e w' ⟨rfl, rfl⟩)
    go_ret2
    exact DigPost.no HR.out (Below.refl _ _)
theorem nonempty_is {s : ByteArray} (h : 1 ≤ s.size) : s.toList.isEmpty = false := by
  rw [ByteArray.toList_eq]
  rw [← Bool.not_eq_true, List.isEmpty_iff]
  intro e
  have : s.data.toList.length = s.size := by simp
  rw [e] at this
  simp at this
  omega
theorem wdB_empty (b : Int) : wdB ByteArray.empty b = true := rfl
theorem digB36 (s : ByteArray) (m : Int) : digB s 36 m = (decide ((s.size : Int) ≤ m) && wdB s 36) := rfl
end Go.Proofs.YthcnhkjiojeemaaDoor
