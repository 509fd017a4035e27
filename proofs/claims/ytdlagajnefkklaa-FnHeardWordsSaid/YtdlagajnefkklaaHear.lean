/- HearWord: the program's, the reference's, and the law, for all arguments. -/
import Derived.Test.YtdlagajnefkklaaGap2
namespace Go.Proofs.Ytdlagajnefkklaa
open Go.RowKit

def dh (l : List ByteArray) (h : ByteArray) (i : Nat) : Int := (cAt false (bz (sAt l i)) (bz h) 0 0 : Nat)
def hrB (l : List ByteArray) (h : ByteArray) (most : Int) (i : Nat) : Bool := decide (dh l h i ≤ most)
def hrP (l : List ByteArray) (h : ByteArray) (most : Int) (k : Nat) : List Int := ((List.range k).filter (hrB l h most)).map fun (a : Nat) => (a : Int)
theorem hrP_yes {l : List ByteArray} {h : ByteArray} {most : Int} {k : Nat} (hb : hrB l h most k = true) : hrP l h most (k + 1) = hrP l h most k ++ [(k : Int)] := by
  unfold hrP; rw [List.range_succ, List.filter_append, List.map_append]; simp [hb]
theorem hrP_no {l : List ByteArray} {h : ByteArray} {most : Int} {k : Nat} (hb : hrB l h most k = false) : hrP l h most (k + 1) = hrP l h most k := by
  unfold hrP; rw [List.range_succ, List.filter_append, List.map_append]; simp [hb]
theorem hrP_len (l : List ByteArray) (h : ByteArray) (most : Int) (k : Nat) : (hrP l h most k).length ≤ k := by
  unfold hrP
  rw [List.length_map]
  have := List.length_filter_le (hrB l h most) (List.range k)
  simpa using this
theorem hrP_mono (l : List ByteArray) (h : ByteArray) (most : Int) (k : Nat) : ∀ d, (hrP l h most k).length ≤ (hrP l h most (k + d)).length
  | 0 => Nat.le_refl _
  | d + 1 => by
    have := hrP_mono l h most k d
    cases hb : hrB l h most (k + d) with
    | true => rw [← Nat.add_assoc, hrP_yes hb]; simp; omega
    | false => rw [← Nat.add_assoc, hrP_no hb]; exact this
theorem hrP_bd {l : List ByteArray} {h : ByteArray} {most : Int} {k : Nat} : ∀ z ∈ hrP l h most k, 0 ≤ z ∧ z < k := by
  intro z hz
  unfold hrP at hz
  obtain ⟨a, ha, rfl⟩ := List.mem_map.1 hz
  have := List.mem_range.1 (List.mem_filter.1 ha).1
  omega
/-- What HearWord returns out of the words that fit. -/
def oneV (xs : List Int) : Value := match xs with | [z] => .tuple #[.int .i64 z, .bool true] | _ => .tuple #[.int .i64 0, .bool false]
theorem oneV_no {xs : List Int} (h : ¬ xs.length = 1) : oneV xs = .tuple #[.int .i64 0, .bool false] := by
  unfold oneV
  match xs, h with
  | [], _ => rfl
  | [_], h => exact absurd rfl h
  | _ :: _ :: _, _ => rfl
theorem oneV_shape (xs : List Int) : ∃ (x : Int) (c : Bool), oneV xs = .tuple #[.int .i64 x, .bool c] := by
  unfold oneV; split <;> exact ⟨_, _, rfl⟩
def hearV (l : List ByteArray) (h : ByteArray) (most : Int) : Value := if lexB l && (letB h 20 && inB most 0 20) then oneV (hrP l h most l.length) else .tuple #[.int .i64 0, .bool false]
theorem hearV_shape (l : List ByteArray) (h : ByteArray) (most : Int) : ∃ (x : Int) (c : Bool), hearV l h most = .tuple #[.int .i64 x, .bool c] := by
  unfold hearV; split
  · exact oneV_shape _
  · exact ⟨_, _, rfl⟩
theorem hearV_no1 {l : List ByteArray} {h : ByteArray} {most : Int} (e : lexB l = false) : hearV l h most = .tuple #[.int .i64 0, .bool false] := by unfold hearV; rw [e]; rfl
theorem hearV_no2 {l : List ByteArray} {h : ByteArray} {most : Int} (e : letB h 20 = false) : hearV l h most = .tuple #[.int .i64 0, .bool false] := by unfold hearV; rw [e]; simp
theorem hearV_no3 {l : List ByteArray} {h : ByteArray} {most : Int} (e : inB most 0 20 = false) : hearV l h most = .tuple #[.int .i64 0, .bool false] := by unfold hearV; rw [e]; simp
theorem hearV_yes {l : List ByteArray} {h : ByteArray} {most : Int} (e1 : lexB l = true) (e2 : letB h 20 = true) (e3 : inB most 0 20 = true) : hearV l h most = oneV (hrP l h most l.length) := by unfold hearV; rw [e1, e2, e3]; rfl
theorem heardOk_is (s : ByteArray) (w : World) (b : Bool) (h : Hid (letB s 20 = b)) (hs : s.size ≤ 1048576) :
    Calls Try.prog 41 #[.string s] w fun e w' => e = .returned (.bool b) ∧ w = w' := by
  have := heardOk_any s w hs
  rw [h.out] at this; exact this
theorem letters_is (s : ByteArray) (w : World) (b : Bool) (h : Hid (letB s 20 = b)) (hs : s.size ≤ 1048576) :
    Calls Try.prog 43 #[.string s, .int .i64 20] w fun e w' => e = .returned (.bool b) ∧ w = w' := by
  have := l07Letters_any s 20 w hs
  rw [h.out] at this; exact this
theorem in_is (n a c : Int) (w : World) (b : Bool) (h : Hid (inB n a c = b)) :
    Calls Try.prog 37 #[.int .i64 n, .int .i64 a, .int .i64 c] w fun e w' => e = .returned (.bool b) ∧ w = w' := by
  have := in_any n a c w
  rw [h.out] at this; exact this
theorem l00In_is (n a c : Int) (w : World) (b : Bool) (h : Hid (inB n a c = b)) :
    Calls Try.prog 46 #[.int .i64 n, .int .i64 a, .int .i64 c] w fun e w' => e = .returned (.bool b) ∧ w = w' := by
  have := l00In_any n a c w
  rw [h.out] at this; exact this
set_option maxHeartbeats 4000000 in
theorem implHear_any (v : Value) (l : List ByteArray) (h : ByteArray) (most : Int) (w : World) (hx : RS w v l) (hm : l.length ≤ 1048576) (hz : Hid (∀ k, k < l.length → (sAt l k).size ≤ 1048576)) (hs : h.size ≤ 1048576) :
    Calls Try.prog 25 #[v, .string h, .int .i64 most] w fun e w' => e = .returned (hearV l h most) ∧ Below w.heap.size w w' := by
  obtain ⟨a, c, rfl⟩ := hx.slice
  cases hl : lexB l
  · have HL := Lib.hid hl
    clear hl
    go_enter Try.func25, Try.ntmps25
    go_wp2_with (go_at_call 18; refine (implLex_is _ l _ false HL hx hm hz).mono ?_; rintro e w' ⟨rfl, rfl⟩)
    go_ret2
    exact ⟨by rw [hearV_no1 HL.out]; rfl, Below.refl _ _⟩
  have HL := Lib.hid hl
  obtain ⟨hsh, hl2, hl16⟩ := lex_sh hl
  have HSH := Lib.hid hsh
  clear hl hsh
  cases hh : letB h 20
  · have HH := Lib.hid hh
    clear hh
    go_enter Try.func25, Try.ntmps25
    go_wp2_with (first
      | (go_at_call 18; refine (implLex_is _ l _ true HL hx hm hz).mono ?_; rintro e w' ⟨rfl, rfl⟩)
      | (go_at_call 41; refine (heardOk_is h _ false HH hs).mono ?_; rintro e w' ⟨rfl, rfl⟩))
    go_ret2
    exact ⟨by rw [hearV_no2 HH.out]; rfl, Below.refl _ _⟩
  have HH := Lib.hid hh
  have hh20 := letB_size hh
  clear hh
  cases hi : inB most 0 20
  · have HI := Lib.hid hi
    clear hi
    go_enter Try.func25, Try.ntmps25
    go_wp2_with (first
      | (go_at_call 18; refine (implLex_is _ l _ true HL hx hm hz).mono ?_; rintro e w' ⟨rfl, rfl⟩)
      | (go_at_call 41; refine (heardOk_is h _ true HH hs).mono ?_; rintro e w' ⟨rfl, rfl⟩)
      | (go_at_call 37; refine (in_is most 0 20 _ false HI).mono ?_; rintro e w' ⟨rfl, rfl⟩))
    go_ret2
    exact ⟨by rw [hearV_no3 HI.out]; rfl, Below.refl _ _⟩
  have HI := Lib.hid hi
  have HV := Lib.hid (hearV_yes HL.out HH.out hi)
  clear hi
  go_enter Try.func25, Try.ntmps25
  go_wp2_with (first
    | (go_at_call 18; refine (implLex_is _ l _ true HL hx hm hz).mono ?_; rintro e w' ⟨rfl, rfl⟩)
    | (go_at_call 41; refine (heardOk_is h _ true HH hs).mono ?_; rintro e w' ⟨rfl, rfl⟩)
    | (go_at_call 37; refine (in_is most 0 20 _ true HI).mono ?_; rintro e w' ⟨rfl, rfl⟩))
  have ho0 : OI w.heap.size (w.alloc (.cells #[] 2)) (.slice (some ⟨w.heap.size, 0, none⟩) 0 0) (hrP l h most 0) := OK.made _ _ _ (Nat.le_refl _)
  have hb0 : Below w.heap.size w (w.alloc (.cells #[] 2)) := (Below.refl _ _).alloc (Nat.le_refl _) _
  generalize w.alloc (.cells #[] 2) = w0 at *
  generalize Value.slice (some ⟨w.heap.size, 0, none⟩) 0 0 = v0 at *
  go_loopw [8, 27] (fun ov iv wr => ∃ k : Nat, k ≤ l.length ∧ iv = .int .i64 k ∧ OI w.heap.size wr ov (hrP l h most k) ∧ Below w.heap.size w wr) (fun _ iv _ => l.length - (intOf iv).toNat)
  case atStart => exact ⟨0, Nat.zero_le _, rfl, ho0, hb0⟩
  case round =>
    obtain ⟨k, hk, rfl, ho, hb⟩ := hrel
    clear ho0 hb0
    have hsz := hb.size
    by_cases hkl : k < l.length
    · obtain ⟨g, off, rfl, hg, hc⟩ := (hx.later hb).at k hkl
      have hs1 := HSH.out k hkl
      have HD : Hid (∀ wx, Calls Try.prog 45 #[.string (sAt l k), .string h, .bool false] wx fun e w' => e = .returned (.int .i64 (dh l h k)) ∧ Below wx.heap.size wx w') := fun wx => distance_any _ _ false wx (by omega) (by omega)
      have HB : Hid (hrB l h most k = decide (dh l h k ≤ most)) := rfl
      have hl1 := hrP_len l h most k
      generalize dh l h k = d at *
      generalize sAt l k = s1 at *
      by_cases hd : d ≤ most
      · have HP := Lib.hid (hrP_yes (l := l) (h := h) (most := most) (k := k) (by rw [HB.out, decide_eq_true hd]))
        go_wp2_with fail
        refine (HD.out _).mono ?_
        rintro e w3 ⟨rfl, hb3⟩
        have ho3 := ho.later hb3
        have hb4 := hb.trans (hb3.mono hsz)
        have hsz4 := hb4.size
        have hl2' : (hrP l h most k).length ≤ 1099511627776 := by omega
        clear ho hc
        go_wp2_with (at_builtin; refine wpl_app_i64 rfl _ _ rfl w.heap.size _ _ rfl (ho3.alloc _) _ _ _ rfl (World.cell?_alloc_at _ _ _ _ rfl) hl2' (by simp; omega) ?_; intro v' w5 ho5 hgr)
        have hb5 : Below w.heap.size w w5 := own_below (hb4.alloc hsz4 _) (ho3.alloc _) hgr (by simp; omega)
        go_roundw
        case rel => exact ⟨k + 1, by omega, by go_num, by rw [HP.out]; exact ho5, hb5⟩
        case measure => first | (simp [intOf]; done) | (simp [intOf]; omega)
      · have HP := Lib.hid (hrP_no (l := l) (h := h) (most := most) (k := k) (by rw [HB.out, decide_eq_false hd]))
        go_wp2_with fail
        refine (HD.out _).mono ?_
        rintro e w3 ⟨rfl, hb3⟩
        have ho3 := ho.later hb3
        have hb4 := hb.trans (hb3.mono hsz)
        clear ho
        go_wp2_with fail
        go_roundw
        case rel => exact ⟨k + 1, by omega, by go_num, by rw [HP.out]; exact ho3, hb4⟩
        case measure => first | (simp [intOf]; done) | (simp [intOf]; omega)
    · obtain rfl : k = l.length := by omega
      obtain ⟨oa, oc, rfl⟩ := ho.slice
      have hl1 := hrP_len l h most l.length
      by_cases h1 : (hrP l h most l.length).length = 1
      · have b1 : (((hrP l h most l.length).length : Int) != 1) = false := by simp [h1]
        obtain ⟨go, rfl, _, hco⟩ := ho.at 0 (by omega)
        have HO : Hid (oneV (hrP l h most l.length) = .tuple #[.int .i64 ((hrP l h most l.length).getD 0 0), .bool true]) := by
          unfold Hid
          match hq : hrP l h most l.length, h1 with
          | [z], _ => rfl
        have h1' : (0 : Int) < ((hrP l h most l.length).length : Int) := by omega
        clear h1
        generalize (hrP l h most l.length).getD 0 0 = z at *
        go_wp2_with fail
        go_ret2
        exact ⟨by rw [HV.out, HO.out]; rfl, hb⟩
      · have b1 : (((hrP l h most l.length).length : Int) != 1) = true := by simp; omega
        have HO := Lib.hid (oneV_no h1)
        clear h1
        go_wp2_with fail
        go_ret2
        exact ⟨by rw [HV.out, HO.out]; rfl, hb⟩
set_option maxHeartbeats 4000000 in
theorem specHear_any (v : Value) (l : List ByteArray) (h : ByteArray) (most : Int) (w : World) (hx : RS w v l) (hm : l.length ≤ 1048576) (hz : Hid (∀ k, k < l.length → (sAt l k).size ≤ 1048576)) (hs : h.size ≤ 1048576) :
    Calls Try.prog 24 #[v, .string h, .int .i64 most] w fun e w' => e = .returned (hearV l h most) ∧ Below w.heap.size w w' := by
  obtain ⟨a, c, rfl⟩ := hx.slice
  cases hl : lexB l
  · have HL := Lib.hid hl
    clear hl
    go_enter Try.func24, Try.ntmps24
    go_wp2_with (go_at_call 40; refine (specLex_is _ l _ false HL hx hm hz).mono ?_; rintro e w1 ⟨rfl, hb1⟩)
    go_ret2
    exact ⟨by rw [hearV_no1 HL.out]; rfl, hb1⟩
  have HL := Lib.hid hl
  obtain ⟨hsh, hl2, hl16⟩ := lex_sh hl
  have HSH := Lib.hid hsh
  clear hl hsh
  cases hh : letB h 20
  · have HH := Lib.hid hh
    clear hh
    go_enter Try.func24, Try.ntmps24
    go_wp2_with (first
      | (go_at_call 40; refine (specLex_is _ l _ true HL hx hm hz).mono ?_; rintro e w1 ⟨rfl, hb1⟩)
      | (go_at_call 43; refine (letters_is h _ false HH hs).mono ?_; rintro e w' ⟨rfl, rfl⟩))
    go_ret2
    exact ⟨by rw [hearV_no2 HH.out]; rfl, hb1⟩
  have HH := Lib.hid hh
  have hh20 := letB_size hh
  clear hh
  cases hi : inB most 0 20
  · have HI := Lib.hid hi
    clear hi
    go_enter Try.func24, Try.ntmps24
    go_wp2_with (first
      | (go_at_call 40; refine (specLex_is _ l _ true HL hx hm hz).mono ?_; rintro e w1 ⟨rfl, hb1⟩)
      | (go_at_call 43; refine (letters_is h _ true HH hs).mono ?_; rintro e w' ⟨rfl, rfl⟩)
      | (go_at_call 46; refine (l00In_is most 0 20 _ false HI).mono ?_; rintro e w' ⟨rfl, rfl⟩))
    go_ret2
    exact ⟨by rw [hearV_no3 HI.out]; rfl, hb1⟩
  have HI := Lib.hid hi
  have HV := Lib.hid (hearV_yes HL.out HH.out hi)
  clear hi
  go_enter Try.func24, Try.ntmps24
  go_wp2_with (first
    | (go_at_call 40; refine (specLex_is _ l _ true HL hx hm hz).mono ?_; rintro e w1 ⟨rfl, hb1⟩)
    | (go_at_call 43; refine (letters_is h _ true HH hs).mono ?_; rintro e w' ⟨rfl, rfl⟩)
    | (go_at_call 46; refine (l00In_is most 0 20 _ true HI).mono ?_; rintro e w' ⟨rfl, rfl⟩))
  go_loopw [8, 9] (fun av iv wr => ∃ (k : Nat) (A : Int), k ≤ l.length ∧ iv = .int .i64 k ∧ av = .int .i64 A ∧ -1 ≤ A ∧ A ≤ 1048576 ∧ Hid (hrP l h most k = if A < 0 then [] else [A]) ∧ Below w.heap.size w wr) (fun _ iv _ => l.length - (intOf iv).toNat)
  case atStart => exact ⟨0, -1, Nat.zero_le _, rfl, rfl, by omega, by omega, rfl, hb1⟩
  case round =>
    obtain ⟨k, A, hk, rfl, rfl, hA0, hA1, HA, hb⟩ := hrel
    clear hb1
    have hsz := hb.size
    by_cases hkl : k < l.length
    · obtain ⟨g, off, rfl, hg, hc⟩ := (hx.later hb).at k hkl
      have hs1 := HSH.out k hkl
      have HD : Hid (∀ wx, Calls Try.prog 44 #[.string (sAt l k), .string h] wx fun e w' => e = .returned (.int .i64 (dh l h k)) ∧ Below wx.heap.size wx w') := fun wx => l07Distance_any _ _ wx (by omega) (by omega)
      have HB : Hid (hrB l h most k = decide (dh l h k ≤ most)) := rfl
      have HM : Hid (∀ d, (hrP l h most (k + 1)).length ≤ (hrP l h most (k + 1 + d)).length) := hrP_mono l h most (k + 1)
      generalize dh l h k = d at *
      generalize sAt l k = s1 at *
      by_cases hd : d ≤ most
      · have HP := Lib.hid (hrP_yes (l := l) (h := h) (most := most) (k := k) (by rw [HB.out, decide_eq_true hd]))
        by_cases hA : 0 ≤ A
        · have HO : Hid (oneV (hrP l h most l.length) = .tuple #[.int .i64 0, .bool false]) := oneV_no (by
            have h1 := HM.out (l.length - (k + 1))
            rw [show k + 1 + (l.length - (k + 1)) = l.length by omega, HP.out, HA.out, if_neg (by omega)] at h1
            simp at h1
            omega)
          go_wp2_with fail
          refine (HD.out _).mono ?_
          rintro e w3 ⟨rfl, hb3⟩
          have hb4 := hb.trans (hb3.mono hsz)
          go_wp2_with fail
          go_ret2
          exact ⟨by rw [HV.out, HO.out]; rfl, hb4⟩
        · have HN : Hid (hrP l h most (k + 1) = if (k : Int) < 0 then [] else [(k : Int)]) := by
            unfold Hid
            rw [HP.out, HA.out, if_pos (by omega), if_neg (by omega)]
            rfl
          go_wp2_with fail
          refine (HD.out _).mono ?_
          rintro e w3 ⟨rfl, hb3⟩
          have hb4 := hb.trans (hb3.mono hsz)
          go_wp2_with fail
          go_roundw
          case rel => exact ⟨k + 1, k, by omega, by go_num, rfl, by omega, by omega, HN, hb4⟩
          case measure => first | (simp [intOf]; done) | (simp [intOf]; omega)
      · have HP := Lib.hid (hrP_no (l := l) (h := h) (most := most) (k := k) (by rw [HB.out, decide_eq_false hd]))
        have HN : Hid (hrP l h most (k + 1) = if A < 0 then [] else [A]) := by unfold Hid; rw [HP.out, HA.out]
        go_wp2_with fail
        refine (HD.out _).mono ?_
        rintro e w3 ⟨rfl, hb3⟩
        have hb4 := hb.trans (hb3.mono hsz)
        go_wp2_with fail
        go_roundw
        case rel => exact ⟨k + 1, A, by omega, by go_num, rfl, by omega, by omega, HN, hb4⟩
        case measure => first | (simp [intOf]; done) | (simp [intOf]; omega)
    · obtain rfl : k = l.length := by omega
      by_cases hA : 0 ≤ A
      · have HO : Hid (oneV (hrP l h most l.length) = .tuple #[.int .i64 A, .bool true]) := by unfold Hid; rw [HA.out, if_neg (by omega)]; rfl
        go_wp2_with fail
        go_ret2
        exact ⟨by rw [HV.out, HO.out]; rfl, hb⟩
      · have HO : Hid (oneV (hrP l h most l.length) = .tuple #[.int .i64 0, .bool false]) := by unfold Hid; rw [HA.out, if_pos (by omega)]; rfl
        go_wp2_with fail
        go_ret2
        exact ⟨by rw [HV.out, HO.out]; rfl, hb⟩
set_option maxHeartbeats 1000000 in
theorem lawHearWord_any (v : Value) (l : List ByteArray) (h : ByteArray) (most : Int) (w : World) (hx : RS w v l) (hm : l.length ≤ maxLen) (hz : ∀ k, k < l.length → (sAt l k).size ≤ maxLen) :
    Calls Try.prog 7 #[v, .string h, .int .i64 most] w fun e w' => e = .returned (.bool true) ∧ Below w.heap.size w w' := by
  by_cases hh : (h.size : Int) ≤ 1048576
  case neg =>
    go_enter Try.func7, Try.ntmps7
    go_wp2_with fail
    go_ret
    exact ⟨rfl, Below.refl _ _⟩
  by_cases hs : ((l.length + szS l : Nat) : Int) ≤ 1048576
  · have hm' : l.length ≤ 1048576 := by omega
    have hz' : Hid (∀ k, k < l.length → (sAt l k).size ≤ 1048576) := fun k hk => by have := szS_at l k hk; omega
    have HS := Lib.hid hs
    have HZ := Lib.hid hz
    obtain ⟨x, b, hv⟩ := hearV_shape l h most
    have HI : Hid (∀ w1 v1, RS w1 v1 l → Calls Try.prog 25 #[v1, .string h, .int .i64 most] w1 fun e w' => e = .returned (.tuple #[.int .i64 x, .bool b]) ∧ Below w1.heap.size w1 w') := fun w1 v1 hh => by
      have := implHear_any v1 l h most w1 hh hm' hz' (by omega)
      rw [hv] at this; exact this
    have HP : Hid (∀ w1 v1, RS w1 v1 l → Calls Try.prog 24 #[v1, .string h, .int .i64 most] w1 fun e w' => e = .returned (.tuple #[.int .i64 x, .bool b]) ∧ Below w1.heap.size w1 w') := fun w1 v1 hh => by
      have := specHear_any v1 l h most w1 hh hm' hz' (by omega)
      rw [hv] at this; exact this
    clear hs hz hm hv
    go_enter Try.func7, Try.ntmps7
    go_wp2_with fail
    refine (szStringS_yes _ _ _ _ hx (by omega) HS.out).mono ?_
    rintro e w' ⟨r, rfl, HR, hr, rfl⟩
    go_wp2_with fail
    refine (toStringS_any _ _ _ hx hm').mono ?_
    rintro e w1 ⟨t0, rfl, o, hb⟩
    go_wp2_with fail
    refine (HP.out _ _ o.read).mono ?_
    rintro e w2 ⟨rfl, hb2⟩
    have hb := hb.trans (hb2.mono hb.size)
    clear hb2 o
    go_wp2_with fail
    refine (toStringS_any _ _ _ (hx.later hb) hm').mono ?_
    rintro e w3 ⟨x0, rfl, ox, hb2⟩
    have hb := hb.trans (hb2.mono hb.size)
    clear hb2
    go_wp2_with fail
    refine (HI.out _ _ ox.read).mono ?_
    rintro e w4 ⟨rfl, hb2⟩
    have ox := ox.later hb2
    have hb := hb.trans (hb2.mono hb.size)
    clear hb2
    go_wp2_with fail
    refine (toStringS_any _ _ _ (hx.later hb) hm').mono ?_
    rintro e w5 ⟨t1, rfl, ot, hb2⟩
    have ox := ox.later hb2
    have hb := hb.trans (hb2.mono hb.size)
    clear hb2
    go_wp2_with fail
    refine (eqStringS_yes _ _ _ _ ox.read ot.read (by omega)).mono ?_
    rintro e w6 ⟨rfl, hb2⟩
    have hb := hb.trans (hb2.mono hb.size)
    clear hb2
    go_wp2_with fail
    go_ret
    exact ⟨rfl, hb⟩
  · go_enter Try.func7, Try.ntmps7
    go_wp2_with fail
    refine (szStringS_no _ _ _ _ hx (by omega) hm hz (by omega)).mono ?_
    rintro e w' ⟨rfl, rfl⟩
    go_wp2_with fail
    go_ret
    exact ⟨rfl, Below.refl _ _⟩
end Go.Proofs.Ytdlagajnefkklaa
