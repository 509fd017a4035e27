/- LeastTyping: the program's, the reference's, and the law, for all arguments. -/
import Derived.Test.YtgagjmnmfgfpfaaAppI
import Derived.Test.YtgagjmnmfgfpfaaStrs
namespace Go.Proofs.Ytgagjmnmfgfpfaa
open Go.RowKit

def dT (l : List ByteArray) (k i : Nat) : Int := (cAt true (bz (sAt l k)) (bz (sAt l i)) 0 0 : Nat)
def Sh12 (l : List ByteArray) : Prop := ∀ i, i < l.length → (sAt l i).size ≤ 12
theorem dT_bd {l : List ByteArray} (h : Sh12 l) (i k : Nat) (hi : i < l.length) (hk : k < l.length) : 0 ≤ dT l i k ∧ dT l i k ≤ 24 := by
  have h1 := cAt_le true (bz (sAt l i)) (bz (sAt l k)) 0 0
  rw [bz_len, bz_len] at h1
  have h2 := h i hi
  have h3 := h k hk
  unfold dT
  omega
/-- All are words of at most twelve symbols. -/
def okW (l : List ByteArray) : Bool := l.all fun s => digB s 36 12
theorem okW_sh {l : List ByteArray} (h : okW l = true) : Sh12 l := fun i hi => by
  unfold okW at h
  rw [List.all_eq_true] at h
  have := digB_size (h (sAt l i) (by simp [hi]))
  omega
theorem okW_no {l : List ByteArray} (k : Nat) (hk : k < l.length) (h : digB (sAt l k) 36 12 = false) : okW l = false := by
  cases e : okW l with
  | false => rfl
  | true =>
    unfold okW at e
    rw [List.all_eq_true] at e
    have := e (sAt l k) (by simp [hk])
    rw [h] at this; cases this
theorem okW_yes {l : List ByteArray} (h : ∀ k, k < l.length → digB (sAt l k) 36 12 = true) : okW l = true := by
  unfold okW
  rw [List.all_eq_true]
  intro s hs
  obtain ⟨i, hi, rfl⟩ := List.getElem_of_mem hs
  have := h i hi
  simpa [hi] using this
def ltF (d : Int) (st : Option Int) : Option Int := match st with | none => some d | some e => some (if d < e then d else e)
def ltK (l : List ByteArray) (st : Option Int) (i : Nat) : Nat → Option Int
  | 0 => st
  | m + 1 => ltF (dT l m i) (ltK l st i m)
def ltO (l : List ByteArray) : Nat → Option Int
  | 0 => none
  | i + 1 => ltK l (ltO l i) i i
theorem ltF_some (d : Int) (st : Option Int) : (ltF d st).isSome = true := by cases st <;> rfl
theorem ltK_some {l : List ByteArray} {st : Option Int} (i : Nat) (h : st.isSome = true) : ∀ m, (ltK l st i m).isSome = true
  | 0 => h
  | _ + 1 => ltF_some _ _
theorem ltO_some (l : List ByteArray) : ∀ i, (ltO l (i + 2)).isSome = true
  | 0 => by show (ltF (dT l 0 1) (ltO l 1)).isSome = true; exact ltF_some _ _
  | i + 1 => ltK_some _ (ltO_some l i) _
def okL (st : Option Int) : Prop := ∀ p, st = some p → 0 ≤ p ∧ p ≤ 24
theorem okL_F {d : Int} {st : Option Int} (hd : 0 ≤ d ∧ d ≤ 24) (h : okL st) : okL (ltF d st) := by
  intro p hp
  cases st with
  | none => simp only [ltF, Option.some.injEq] at hp; subst hp; exact hd
  | some e =>
    have he := h e rfl
    simp only [ltF, Option.some.injEq] at hp
    subst hp
    split <;> assumption
def eI (st : Option Int) : Int := match st with | none => 1099511627776 | some d => d
def eS (st : Option Int) : Int := match st with | none => -1 | some d => d
theorem eI_F {d : Int} {st : Option Int} (hd : 0 ≤ d ∧ d ≤ 24) : eI (ltF d st) = if d < eI st then d else eI st := by
  cases st with
  | none => simp [ltF, eI]; omega
  | some e => rfl
theorem eS_F {d : Int} {st : Option Int} (h : okL st) : eS (ltF d st) = if eS st < 0 ∨ d < eS st then d else eS st := by
  cases st with
  | none => simp [ltF, eS]
  | some e =>
    have := h e rfl
    show (if d < e then d else e) = if e < 0 ∨ d < e then d else e
    split <;> split <;> omega
theorem eI_bd {st : Option Int} (h : okL st) : 0 ≤ eI st ∧ eI st ≤ 1099511627776 := by
  cases st with
  | none => simp [eI]
  | some e => have := h e rfl; simp only [eI]; omega
theorem eS_bd {st : Option Int} (h : okL st) : -1 ≤ eS st ∧ eS st ≤ 24 := by
  cases st with
  | none => simp [eS]
  | some e => have := h e rfl; simp only [eS]; omega
def ltV (l : List ByteArray) : Value := if inB l.length 2 100 && okW l then .tuple #[.int .i64 (eI (ltO l l.length)), .bool true] else .tuple #[.int .i64 0, .bool false]
theorem ltV_shape (l : List ByteArray) : ∃ (x : Int) (c : Bool), ltV l = .tuple #[.int .i64 x, .bool c] := by
  unfold ltV; split <;> exact ⟨_, _, rfl⟩
theorem ltV_no1 {l : List ByteArray} (h : inB l.length 2 100 = false) : ltV l = .tuple #[.int .i64 0, .bool false] := by unfold ltV; rw [h]; rfl
theorem ltV_no2 {l : List ByteArray} (h : okW l = false) : ltV l = .tuple #[.int .i64 0, .bool false] := by unfold ltV; rw [h]; simp
theorem ltV_yes {l : List ByteArray} (h1 : inB l.length 2 100 = true) (h2 : okW l = true) : ltV l = .tuple #[.int .i64 (eI (ltO l l.length)), .bool true] := by unfold ltV; rw [h1, h2]; rfl
theorem in_is (n a c : Int) (w : World) (b : Bool) (h : Hid (inB n a c = b)) :
    Calls Try.prog 54 #[.int .i64 n, .int .i64 a, .int .i64 c] w fun e w' => e = .returned (.bool b) ∧ w = w' := by
  have := in_any n a c w
  rw [h.out] at this; exact this
theorem l00In_is (n a c : Int) (w : World) (b : Bool) (h : Hid (inB n a c = b)) :
    Calls Try.prog 53 #[.int .i64 n, .int .i64 a, .int .i64 c] w fun e w' => e = .returned (.bool b) ∧ w = w' := by
  have := l00In_any n a c w
  rw [h.out] at this; exact this
theorem OK.drewL {T : TypeId} {k : IntKind} {B : Nat} {w : World} {v : Value} {xs : List Int} (h : OK T k B w v xs) : OK T k B w.drew v xs := h
set_option maxHeartbeats 400000 in
theorem badW_any (s : ByteArray) (w : World) (b : Bool) (h : Hid (digB s 36 12 = b)) (hs : s.size ≤ 1048576) :
    Calls Try.prog 56 #[.string s] w fun e w' => e = .returned (.bool (!b)) ∧ Below w.heap.size w w' := by
  cases b
  all_goals
    go_enter Try.func56, Try.ntmps56
    go_wp2_with fail
    refine (wordOk_is s 12 _ _ h hs).mono ?_
    rintro e w1 ⟨rfl, hb1⟩
    go_wp2_with fail
    go_ret
    exact ⟨rfl, hb1⟩
set_option maxHeartbeats 1000000 in
theorem indexW_any (v : Value) (l : List ByteArray) (w : World) (hx : RS w v l) (hm : l.length ≤ 1048576) (hz : Hid (∀ k, k < l.length → (sAt l k).size ≤ 1048576)) :
    Calls Try.prog 79 #[v, .func (.func 56) #[] #[]] w fun e w' => ∃ r : Int, e = .returned (.int .i64 r) ∧ Hid (decide (0 ≤ r) = !okW l) ∧ Below w.heap.size w w' := by
  obtain ⟨a, c, rfl⟩ := hx.slice
  go_enter Try.func79, Try.ntmps79
  go_wp2_with fail
  go_loopw [8] (fun iv wr => ∃ k : Nat, k ≤ l.length ∧ iv = .int .i64 k ∧ Hid (∀ i, i < k → digB (sAt l i) 36 12 = true) ∧ Below w.heap.size w wr) (fun iv _ => l.length - (intOf iv).toNat)
  case atStart => exact ⟨0, Nat.zero_le _, rfl, (fun i hi => by omega), Below.refl _ _⟩
  case round =>
    obtain ⟨k, hk, rfl, HK, hb⟩ := hrel
    have hsz := hb.size
    by_cases hlt : k < l.length
    · obtain ⟨g, off, rfl, hg, hc⟩ := (hx.later hb).at k hlt
      have h0 : (0 : Int) ≤ (k : Int) := by omega
      have hzk := hz.out k hlt
      cases hd : digB (sAt l k) 36 12
      · have HD := Lib.hid hd
        have HV := Lib.hid (okW_no k hlt hd)
        clear hd
        generalize sAt l k = s at *
        go_wp2_with fail
        refine (badW_any s _ false HD hzk).mono ?_
        rintro e w1 ⟨rfl, hb1⟩
        go_wp2_with fail
        go_ret
        exact ⟨_, rfl, by unfold Hid; rw [HV.out]; simp, hb.trans (hb1.mono hsz)⟩
      · have HD := Lib.hid hd
        have HN : Hid (∀ i, i < k + 1 → digB (sAt l i) 36 12 = true) := fun i hi => by
          by_cases h : i = k
          · subst h; exact hd
          · exact HK.out i (by omega)
        clear hd
        generalize sAt l k = s at *
        go_wp2_with fail
        refine (badW_any s _ true HD hzk).mono ?_
        rintro e w1 ⟨rfl, hb1⟩
        go_wp2_with fail
        go_roundw
        case rel => exact ⟨k + 1, by omega, by go_num, HN, hb.trans (hb1.mono hsz)⟩
        case measure => first | (simp [intOf]; done) | (simp [intOf]; omega)
    · have HV : Hid (okW l = true) := okW_yes fun i hi => HK.out i (by omega)
      go_wp2_with fail
      go_ret
      exact ⟨_, rfl, by unfold Hid; rw [HV.out]; simp, hb⟩
set_option maxHeartbeats 400000 in
theorem containsW_any (v : Value) (l : List ByteArray) (w : World) (b : Bool) (h : Hid (okW l = b)) (hx : RS w v l) (hm : l.length ≤ 1048576) (hz : Hid (∀ k, k < l.length → (sAt l k).size ≤ 1048576)) :
    Calls Try.prog 55 #[v, .func (.func 56) #[] #[]] w fun e w' => e = .returned (.bool (!b)) ∧ Below w.heap.size w w' := by
  go_enter Try.func55, Try.ntmps55
  go_wp2_with fail
  refine (indexW_any _ _ _ hx hm hz).mono ?_
  rintro e w' ⟨r, rfl, HR, hb⟩
  go_wp2_with fail
  go_ret
  exact ⟨ret_bool (by have := HR.out; rw [h.out] at this; exact this), hb⟩
set_option maxHeartbeats 4000000 in
theorem implLT_any (v : Value) (l : List ByteArray) (w : World) (hx : RS w v l) (hm : l.length ≤ 1048576) (hz : Hid (∀ k, k < l.length → (sAt l k).size ≤ 1048576)) :
    Calls Try.prog 29 #[v] w fun e w' => e = .returned (ltV l) ∧ Below w.heap.size w w' := by
  obtain ⟨a, c, rfl⟩ := hx.slice
  cases hi : inB l.length 2 100
  · have HI := Lib.hid hi
    clear hi
    go_enter Try.func29, Try.ntmps29
    go_wp2_with (go_at_call 54; refine (in_is _ 2 100 _ false HI).mono ?_; rintro e w' ⟨rfl, rfl⟩)
    go_ret2
    exact ⟨by rw [ltV_no1 HI.out]; rfl, Below.refl _ _⟩
  have HI := Lib.hid hi
  have hlb : 2 ≤ l.length ∧ l.length ≤ 100 := by simp [inB] at hi; omega
  clear hi
  cases ho : okW l
  · have HO := Lib.hid ho
    clear ho
    go_enter Try.func29, Try.ntmps29
    go_wp2_with (go_at_call 54; refine (in_is _ 2 100 _ true HI).mono ?_; rintro e w' ⟨rfl, rfl⟩)
    refine (containsW_any _ l _ false HO hx hm hz).mono ?_
    rintro e w1 ⟨rfl, hb1⟩
    go_wp2_with fail
    go_ret2
    exact ⟨by rw [ltV_no2 HO.out]; rfl, hb1⟩
  have HO := Lib.hid ho
  have HSH := Lib.hid (okW_sh ho)
  have HS : Hid (∀ i, (ltO l (i + 2)).isSome = true) := ltO_some l
  clear ho
  have hmn := run_mn
  go_enter Try.func29, Try.ntmps29
  go_wp2_with (go_at_call 54; refine (in_is _ 2 100 _ true HI).mono ?_; rintro e w' ⟨rfl, rfl⟩)
  refine (containsW_any _ l _ true HO hx hm hz).mono ?_
  rintro e w1 ⟨rfl, hb1⟩
  go_wp2_with fail
  go_loopw [4, 17] (fun bv iv wr => ∃ (i : Nat) (D : Int), i ≤ l.length ∧ iv = .int .i64 i ∧ bv = .int .i64 D ∧ 0 ≤ D ∧ D ≤ 1099511627776 ∧ Hid (D = eI (ltO l i)) ∧ Hid (okL (ltO l i)) ∧ Below w.heap.size w wr) (fun _ iv _ => l.length - (intOf iv).toNat)
  case atStart => exact ⟨0, _, Nat.zero_le _, rfl, rfl, by omega, by omega, rfl, (fun p hp => by cases hp), hb1⟩
  case round =>
    obtain ⟨i, D, hi, rfl, rfl, hD0, hD1, HE, HG, hb⟩ := hrel
    clear hb1
    by_cases hil : i < l.length
    · go_wp2_with fail
      go_loopw [4, 21] (fun bv kv wr => ∃ (k : Nat) (D : Int), k ≤ i ∧ kv = .int .i64 k ∧ bv = .int .i64 D ∧ 0 ≤ D ∧ D ≤ 1099511627776 ∧ Hid (D = eI (ltK l (ltO l i) i k)) ∧ Hid (okL (ltK l (ltO l i) i k)) ∧ Below w.heap.size w wr) (fun _ kv _ => i - (intOf kv).toNat)
      case atStart => exact ⟨0, D, Nat.zero_le _, rfl, rfl, hD0, hD1, HE, HG, hb⟩
      case round =>
        obtain ⟨k, D, hk, rfl, rfl, hD0, hD1, HE, HG, hb⟩ := hrel
        have hsz := hb.size
        by_cases hkl : k < i
        · have hkl2 : k < l.length := by omega
          obtain ⟨g, off, rfl, hg, hc⟩ := (hx.later hb).at i hil
          obtain ⟨g', off', he', _, hc'⟩ := (hx.later hb).at k hkl2
          simp only [Option.some.injEq, Addr.mk.injEq, and_true] at he'
          obtain ⟨rfl, rfl⟩ := he'
          have hd := dT_bd HSH.out k i hkl2 hil
          have hs1 := HSH.out i hil
          have hs2 := HSH.out k hkl2
          have HG2 : Hid (okL (ltK l (ltO l i) i (k + 1))) := okL_F hd HG.out
          have f0 : (0 : Int) ≤ (i : Int) := by omega
          have f1 : (i : Int) < (l.length : Int) := by omega
          have f2 : (0 : Int) ≤ (k : Int) := by omega
          have f3 : (k : Int) < (l.length : Int) := by omega
          have HF : Hid (mn D (dT l k i) = eI (ltK l (ltO l i) i (k + 1))) := by
            have h1 := eI_F (d := dT l k i) (st := ltK l (ltO l i) i k) hd
            rw [← HE.out] at h1
            exact h1.symm
          have HC : Hid (∀ wx, Calls Try.prog 48 #[.string (sAt l k), .string (sAt l i), .bool true] wx fun e w' => e = .returned (.int .i64 (dT l k i)) ∧ Below wx.heap.size wx w') := fun wx => distance_any _ _ true wx (by omega) (by omega)
          have hmb : 0 ≤ mn D (dT l k i) ∧ mn D (dT l k i) ≤ 1099511627776 := by rw [mn_eq]; omega
          generalize dT l k i = d at *
          generalize sAt l i = s1 at *
          generalize sAt l k = s2 at *
          go_wp2_with fail
          go_region_held3 (fun w' => w'.cell? ⟨g, off + i, none⟩ = some (.string s1) ∧ w'.cell? ⟨g, off + k, none⟩ = some (.string s2)) (go_keep)
            (first | (go_at_call 48; refine (HC.out _).mono ?_; rintro e w3 ⟨rfl, hb3⟩; replace hc := (hb3.cell (p := ⟨g, off + i, none⟩) hg).trans hc; replace hc' := (hb3.cell (p := ⟨g, off + k, none⟩) hg).trans hc'))
          have hb4 := hb.drew.trans (hb3.mono hsz)
          go_wp2_with fail
          go_roundw
          case rel => exact ⟨k + 1, _, by omega, by go_num, rfl, hmb.1, hmb.2, HF, HG2, hb4⟩
          case measure => first | (simp [intOf]; done) | (simp [intOf]; omega)
        · obtain rfl : k = i := by omega
          go_wp2_with fail
          go_roundw
          case rel => exact ⟨k + 1, D, by omega, by go_num, rfl, hD0, hD1, HE, HG, hb⟩
          case measure => first | (simp [intOf]; done) | (simp [intOf]; omega)
    · obtain rfl : i = l.length := by omega
      go_wp2_with fail
      go_ret2
      exact ⟨by rw [ltV_yes HI.out HO.out, ← HE.out]; rfl, hb⟩
set_option maxHeartbeats 4000000 in
theorem specLT_any (v : Value) (l : List ByteArray) (w : World) (hx : RS w v l) (hm : l.length ≤ 1048576) (hz : Hid (∀ k, k < l.length → (sAt l k).size ≤ 1048576)) :
    Calls Try.prog 27 #[v] w fun e w' => e = .returned (ltV l) ∧ Below w.heap.size w w' := by
  obtain ⟨a, c, rfl⟩ := hx.slice
  cases hi : inB l.length 2 100
  · have HI := Lib.hid hi
    clear hi
    go_enter Try.func27, Try.ntmps27
    go_wp2_with (go_at_call 53; refine (l00In_is _ 2 100 _ false HI).mono ?_; rintro e w' ⟨rfl, rfl⟩)
    go_ret2
    exact ⟨by rw [ltV_no1 HI.out]; rfl, Below.refl _ _⟩
  have HI := Lib.hid hi
  have hlb : 2 ≤ l.length ∧ l.length ≤ 100 := by simp [inB] at hi; omega
  have HS : Hid (∀ i, (ltO l (i + 2)).isSome = true) := ltO_some l
  clear hi
  go_enter Try.func27, Try.ntmps27
  go_wp2_with (go_at_call 53; refine (l00In_is _ 2 100 _ true HI).mono ?_; rintro e w' ⟨rfl, rfl⟩)
  go_loop [4] (fun iv => ∃ k : Nat, k ≤ l.length ∧ iv = .int .i64 k ∧ Hid (∀ i, i < k → digB (sAt l i) 36 12 = true)) (fun iv => l.length - (intOf iv).toNat)
  case atStart => exact ⟨0, Nat.zero_le _, rfl, fun i hi => by omega⟩
  case round =>
    obtain ⟨k, hk, rfl, HK⟩ := hrel
    by_cases hlt : k < l.length
    · obtain ⟨g, off, rfl, hg, hc⟩ := hx.at k hlt
      have hzk := hz.out k hlt
      cases hd : digB (sAt l k) 36 12
      · have HD := Lib.hid hd
        have HV := Lib.hid (okW_no k hlt hd)
        clear hd
        generalize sAt l k = s at *
        go_wp2_with (go_at_call 44; refine (l06Word_is s 12 _ false HD hzk (by omega)).mono ?_; rintro e w' ⟨rfl, rfl⟩)
        go_ret2
        exact ⟨by rw [ltV_no2 HV.out]; rfl, Below.refl _ _⟩
      · have HD := Lib.hid hd
        have HN : Hid (∀ i, i < k + 1 → digB (sAt l i) 36 12 = true) := fun i hi => by
          by_cases h : i = k
          · subst h; exact hd
          · exact HK.out i (by omega)
        clear hd
        generalize sAt l k = s at *
        go_wp2_with (go_at_call 44; refine (l06Word_is s 12 _ true HD hzk (by omega)).mono ?_; rintro e w' ⟨rfl, rfl⟩)
        go_round
        case rel => exact ⟨k + 1, by omega, by go_num, HN⟩
        case measure => first | (simp [intOf]; done) | (simp [intOf]; omega)
    · have ho : okW l = true := okW_yes fun i hi => HK.out i (by omega)
      have HO := Lib.hid ho
      have HSH := Lib.hid (okW_sh ho)
      clear ho HK
      go_wp2_with fail
      go_loopw [5, 6] (fun bv iv wr => ∃ (i : Nat) (D : Int), i ≤ l.length ∧ iv = .int .i64 i ∧ bv = .int .i64 D ∧ -1 ≤ D ∧ D ≤ 24 ∧ Hid (D = eS (ltO l i)) ∧ Hid (okL (ltO l i)) ∧ Below w.heap.size w wr) (fun _ iv _ => l.length - (intOf iv).toNat)
      case atStart => exact ⟨0, _, Nat.zero_le _, rfl, rfl, by omega, by omega, rfl, (fun p hp => by cases hp), Below.refl _ _⟩
      case round =>
        obtain ⟨i, D, hi, rfl, rfl, hD0, hD1, HE, HG, hb⟩ := hrel
        clear hk hlt
        by_cases hil : i < l.length
        · go_wp2_with fail
          go_loopw [5, 7] (fun bv kv wr => ∃ (k : Nat) (D : Int), k ≤ i ∧ kv = .int .i64 k ∧ bv = .int .i64 D ∧ -1 ≤ D ∧ D ≤ 24 ∧ Hid (D = eS (ltK l (ltO l i) i k)) ∧ Hid (okL (ltK l (ltO l i) i k)) ∧ Below w.heap.size w wr) (fun _ kv _ => i - (intOf kv).toNat)
          case atStart => exact ⟨0, D, Nat.zero_le _, rfl, rfl, hD0, hD1, HE, HG, hb⟩
          case round =>
            obtain ⟨k, D, hk, rfl, rfl, hD0, hD1, HE, HG, hb⟩ := hrel
            have hsz := hb.size
            by_cases hkl : k < i
            · have hkl2 : k < l.length := by omega
              obtain ⟨g, off, rfl, hg, hc⟩ := (hx.later hb).at i hil
              obtain ⟨g', off', he', _, hc'⟩ := (hx.later hb).at k hkl2
              simp only [Option.some.injEq, Addr.mk.injEq, and_true] at he'
              obtain ⟨rfl, rfl⟩ := he'
              have hd := dT_bd HSH.out k i hkl2 hil
              have hs1 := HSH.out i hil
              have hs2 := HSH.out k hkl2
              have HG2 : Hid (okL (ltK l (ltO l i) i (k + 1))) := okL_F hd HG.out
              have f0 : (0 : Int) ≤ (i : Int) := by omega
              have f1 : (i : Int) < (l.length : Int) := by omega
              have f2 : (0 : Int) ≤ (k : Int) := by omega
              have f3 : (k : Int) < (l.length : Int) := by omega
              have HF : Hid (eS (ltK l (ltO l i) i (k + 1)) = if D < 0 ∨ dT l k i < D then dT l k i else D) := by
                have h1 := eS_F (d := dT l k i) (st := ltK l (ltO l i) i k) HG.out
                rw [← HE.out] at h1
                exact h1
              have HC : Hid (∀ wx, Calls Try.prog 49 #[.string (sAt l k), .string (sAt l i)] wx fun e w' => e = .returned (.int .i64 (dT l k i)) ∧ Below wx.heap.size wx w') := fun wx => l06Distance_any _ _ wx (by omega) (by omega)
              generalize dT l k i = d at *
              generalize sAt l i = s1 at *
              generalize sAt l k = s2 at *
              go_wp2_with fail
              go_region_held3 (fun w' => w'.cell? ⟨g, off + i, none⟩ = some (.string s1) ∧ w'.cell? ⟨g, off + k, none⟩ = some (.string s2)) (go_keep)
                (first | (go_at_call 49; refine (HC.out _).mono ?_; rintro e w3 ⟨rfl, hb3⟩; replace hc := (hb3.cell (p := ⟨g, off + i, none⟩) hg).trans hc; replace hc' := (hb3.cell (p := ⟨g, off + k, none⟩) hg).trans hc'))
              have hb4 := hb.drew.trans (hb3.mono hsz)
              by_cases hD : D < 0
              · have HN : Hid (d = eS (ltK l (ltO l i) i (k + 1))) := by unfold Hid; rw [HF.out, if_pos (.inl hD)]
                go_wp2_with fail
                go_roundw
                case rel => exact ⟨k + 1, d, by omega, by go_num, rfl, by omega, by omega, HN, HG2, hb4⟩
                case measure => first | (simp [intOf]; done) | (simp [intOf]; omega)
              · by_cases hlt : d < D
                · have HN : Hid (d = eS (ltK l (ltO l i) i (k + 1))) := by unfold Hid; rw [HF.out, if_pos (.inr hlt)]
                  go_wp2_with fail
                  go_roundw
                  case rel => exact ⟨k + 1, d, by omega, by go_num, rfl, by omega, by omega, HN, HG2, hb4⟩
                  case measure => first | (simp [intOf]; done) | (simp [intOf]; omega)
                · have HN : Hid (D = eS (ltK l (ltO l i) i (k + 1))) := by unfold Hid; rw [HF.out, if_neg (fun h => h.elim hD hlt)]
                  go_wp2_with fail
                  go_roundw
                  case rel => exact ⟨k + 1, D, by omega, by go_num, rfl, by omega, by omega, HN, HG2, hb4⟩
                  case measure => first | (simp [intOf]; done) | (simp [intOf]; omega)
            · obtain rfl : k = i := by omega
              go_wp2_with fail
              go_roundw
              case rel => exact ⟨k + 1, D, by omega, by go_num, rfl, by omega, by omega, HE, HG, hb⟩
              case measure => first | (simp [intOf]; done) | (simp [intOf]; omega)
        · obtain rfl : i = l.length := by omega
          obtain ⟨p, hp⟩ := Option.isSome_iff_exists.1 (HS.out (l.length - 2))
          rw [show l.length - 2 + 2 = l.length by omega] at hp
          have HX : Hid (D = eI (ltO l l.length)) := by unfold Hid; rw [HE.out, hp]; rfl
          clear hp
          go_wp2_with fail
          go_ret2
          exact ⟨by rw [ltV_yes HI.out HO.out, ← HX.out]; rfl, hb⟩
set_option maxHeartbeats 1000000 in
theorem lawLeastTyping_any (v : Value) (l : List ByteArray) (w : World) (hx : RS w v l) (hm : l.length ≤ maxLen) (hz : ∀ k, k < l.length → (sAt l k).size ≤ maxLen) :
    Calls Try.prog 9 #[v] w fun e w' => e = .returned (.bool true) ∧ Below w.heap.size w w' := by
  by_cases hs : ((l.length + szS l : Nat) : Int) ≤ 1048576
  · have hm' : l.length ≤ 1048576 := by omega
    have hz' : Hid (∀ k, k < l.length → (sAt l k).size ≤ 1048576) := fun k hk => by have := szS_at l k hk; omega
    have HS := Lib.hid hs
    have HZ := Lib.hid hz
    obtain ⟨x, b, hv⟩ := ltV_shape l
    have HI : Hid (∀ w1 v1, RS w1 v1 l → Calls Try.prog 29 #[v1] w1 fun e w' => e = .returned (.tuple #[.int .i64 x, .bool b]) ∧ Below w1.heap.size w1 w') := fun w1 v1 h => by
      have := implLT_any v1 l w1 h hm' hz'
      rw [hv] at this; exact this
    have HP : Hid (∀ w1 v1, RS w1 v1 l → Calls Try.prog 27 #[v1] w1 fun e w' => e = .returned (.tuple #[.int .i64 x, .bool b]) ∧ Below w1.heap.size w1 w') := fun w1 v1 h => by
      have := specLT_any v1 l w1 h hm' hz'
      rw [hv] at this; exact this
    clear hs hz hm hv
    go_enter Try.func9, Try.ntmps9
    go_wp2_with fail
    refine (szStringS_yes _ _ _ _ hx (by omega) HS.out).mono ?_
    rintro e w' ⟨r, rfl, HR, hr, rfl⟩
    go_wp2_with fail
    refine (toStringS_any _ _ _ hx hm').mono ?_
    rintro e w1 ⟨t0, rfl, o, hb⟩
    go_wp2_with fail
    refine (HP.out _ _ o.read).mono ?_
    rintro e w2 ⟨rfl, hb2⟩
    have hb := hb.trans (hb2.mono hb.size)
    clear hb2 o
    go_wp2_with fail
    refine (toStringS_any _ _ _ (hx.later hb) hm').mono ?_
    rintro e w3 ⟨x0, rfl, ox, hb2⟩
    have hb := hb.trans (hb2.mono hb.size)
    clear hb2
    go_wp2_with fail
    refine (HI.out _ _ ox.read).mono ?_
    rintro e w4 ⟨rfl, hb2⟩
    have ox := ox.later hb2
    have hb := hb.trans (hb2.mono hb.size)
    clear hb2
    go_wp2_with fail
    refine (toStringS_any _ _ _ (hx.later hb) hm').mono ?_
    rintro e w5 ⟨t1, rfl, ot, hb2⟩
    have ox := ox.later hb2
    have hb := hb.trans (hb2.mono hb.size)
    clear hb2
    go_wp2_with fail
    refine (eqStringS_yes _ _ _ _ ox.read ot.read (by omega)).mono ?_
    rintro e w6 ⟨rfl, hb2⟩
    have hb := hb.trans (hb2.mono hb.size)
    clear hb2
    go_wp2_with fail
    go_ret
    exact ⟨rfl, hb⟩
  · go_enter Try.func9, Try.ntmps9
    go_wp2_with fail
    refine (szStringS_no _ _ _ _ hx (by omega) hm hz (by omega)).mono ?_
    rintro e w' ⟨rfl, rfl⟩
    go_wp2_with fail
    go_ret
    exact ⟨rfl, Below.refl _ _⟩
end Go.Proofs.Ytgagjmnmfgfpfaa
