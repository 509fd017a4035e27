/- NearWords: the reference. -/
import Derived.Test.YtgagjmnmfgfpfaaNwR
import Derived.Test.YtgagjmnmfgfpfaaNwW
namespace Go.Proofs.Ytgagjmnmfgfpfaa
open Go.RowKit

theorem below_fromDrew {B : Nat} {w wr w' : World} (h : Below B w wr) (h2 : Below wr.drew.heap.size wr.drew w') (hB : B ≤ wr.heap.size) : Below B w w' := h.drew.trans (h2.mono (by simpa using hB))
set_option maxHeartbeats 2000000 in
theorem specNw_no (s : ByteArray) (b : Int) (w : World) (hs : s.size ≤ 1048576) (hd : digB s b 12 = false) :
    Calls Try.prog 31 #[.string s, .int .i64 b] w (NwPost s b w) := by
  have HN : Hid (NwPost s b w (.returned (.tuple #[.slice none 0 0, .bool false])) w) := by
    unfold NwPost nwB
    rw [hd]
    exact ⟨_, [], rfl, OV.nil _ _ _, AscS.nil, fun t => by simp, by simp, Below.refl _ _⟩
  by_cases h1 : inB b 2 36 = true
  · have HB : Hid (∀ wx, Calls Try.prog 57 #[.int .i64 b] wx fun e w' => e = .returned (.bool true) ∧ wx = w') := fun wx => by
      have := l01Base_any b wx; rw [h1] at this; exact this
    by_cases h2 : digB s 36 12 = true
    · have HC : Hid (∀ wx, Calls Try.prog 44 #[.string s, .int .i64 12] wx fun e w' => e = .returned (.bool true) ∧ wx = w') := fun wx => by
        have := l06Word_any s 12 wx hs (by omega); rw [h2] at this; exact this
      have h12 := (digB_parts h2).2
      have hw : wdB s b = false := by
        unfold digB at hd
        rw [h1, decide_eq_true (show (s.size : Int) ≤ 12 by omega)] at hd
        simpa using hd
      have hne : 1 ≤ s.size := by
        rcases Nat.eq_zero_or_pos s.size with h | h
        · have : s = ByteArray.empty := ba_ext (by simpa using (show s.data.toList = [] by apply List.eq_nil_of_length_eq_zero; simpa using h))
          rw [this, wdB_empty] at hw; cases hw
        · exact h
      have h3 : s.toList.isEmpty = false := nonempty_is hne
      have hb2 : 2 ≤ b ∧ b ≤ 36 := by unfold inB at h1; simp only [Bool.and_eq_true, decide_eq_true_eq] at h1; omega
      have HD : Hid (∀ wx, Calls Try.prog 58 #[.string s, .int .i64 b] wx fun e w' => e = .returned (.bool false) ∧ wx = w') := fun wx => by
        have := l01Word_any s b wx hs hb2
        rw [hw, Bool.and_false] at this; exact this
      clear h1 h2 hw hd
      go_enter Try.func31, Try.ntmps31
      go_wp2_with (first
        | (go_at_call 57; refine (HB.out _).mono ?_; rintro e w' ⟨rfl, rfl⟩)
        | (go_at_call 44; refine (HC.out _).mono ?_; rintro e w' ⟨rfl, rfl⟩)
        | (go_at_call 58; refine (HD.out _).mono ?_; rintro e w' ⟨rfl, rfl⟩))
      go_ret2
      exact HN.out
    · simp only [Bool.not_eq_true] at h2
      have HC : Hid (∀ wx, Calls Try.prog 44 #[.string s, .int .i64 12] wx fun e w' => e = .returned (.bool false) ∧ wx = w') := fun wx => by
        have := l06Word_any s 12 wx hs (by omega); rw [h2] at this; exact this
      clear h1 h2 hd
      go_enter Try.func31, Try.ntmps31
      go_wp2_with (first
        | (go_at_call 57; refine (HB.out _).mono ?_; rintro e w' ⟨rfl, rfl⟩)
        | (go_at_call 44; refine (HC.out _).mono ?_; rintro e w' ⟨rfl, rfl⟩))
      go_ret2
      exact HN.out
  · simp only [Bool.not_eq_true] at h1
    have HB : Hid (∀ wx, Calls Try.prog 57 #[.int .i64 b] wx fun e w' => e = .returned (.bool false) ∧ wx = w') := fun wx => by
      have := l01Base_any b wx; rw [h1] at this; exact this
    clear h1 hd
    go_enter Try.func31, Try.ntmps31
    go_wp2_with (go_at_call 57; refine (HB.out _).mono ?_; rintro e w' ⟨rfl, rfl⟩)
    go_ret2
    exact HN.out
set_option maxRecDepth 100000 in
set_option maxHeartbeats 16000000 in
theorem specNw_go (s : ByteArray) (b : Nat) (w : World) (hd : digB s b 12 = true) (hb2 : 2 ≤ b ∧ b ≤ 36) (hs : s.size ≤ 12) (hne : s.toList.isEmpty = false) :
    Calls Try.prog 31 #[.string s, .int .i64 b] w (NwPost s b w) := by
  have HD0 := Lib.hid hd
  have HB : Hid (∀ wx, Calls Try.prog 57 #[.int .i64 b] wx fun e w' => e = .returned (.bool true) ∧ wx = w') := fun wx => by
    have := l01Base_any b wx
    rw [show inB (b : Int) 2 36 = true by unfold inB; simp; omega] at this; exact this
  have HC : Hid (∀ wx, Calls Try.prog 44 #[.string s, .int .i64 12] wx fun e w' => e = .returned (.bool true) ∧ wx = w') := fun wx => by
    have := l06Word_any s 12 wx (by omega) (by omega)
    rw [show digB s 36 12 = true by
      unfold digB wdB at hd ⊢
      simp only [Bool.and_eq_true, decide_eq_true_eq, List.all_eq_true] at hd ⊢
      refine ⟨⟨by decide, hd.1.2⟩, fun z hz => ?_⟩
      have := hd.2 z hz
      unfold inB at this ⊢
      simp only [Bool.and_eq_true, decide_eq_true_eq] at this ⊢
      omega] at this
    exact this
  have HD : Hid (∀ wx, Calls Try.prog 58 #[.string s, .int .i64 b] wx fun e w' => e = .returned (.bool true) ∧ wx = w') := fun wx => by
    have := l01Word_any s b wx (by omega) (by omega)
    rw [show wdB s b = true by unfold digB at hd; simp only [Bool.and_eq_true] at hd; exact hd.2, decide_eq_true (show s.size ≤ 20 by omega)] at this; exact this
  clear hd
  go_enter Try.func31, Try.ntmps31
  have ho : OS w.heap.size (w.alloc (.cells #[] 9)) (.slice (some ⟨w.heap.size, 0, none⟩) 0 0) [] := OV.made _ _ (Nat.le_refl _)
  have hb : Below w.heap.size w (w.alloc (.cells #[] 9)) := (Below.refl _ _).alloc (Nat.le_refl _) _
  go_wp2_with (first
    | (go_at_call 57; refine (HB.out _).mono ?_; rintro e w' ⟨rfl, rfl⟩)
    | (go_at_call 44; refine (HC.out _).mono ?_; rintro e w' ⟨rfl, rfl⟩)
    | (go_at_call 58; refine (HD.out _).mono ?_; rintro e w' ⟨rfl, rfl⟩))
  generalize w.alloc (.cells #[] 9) = w1 at *
  generalize Value.slice (some ⟨w.heap.size, 0, none⟩) 0 0 = v0 at *
  clear HB HC HD hne
  go_loopw [6, 7] (fun ov iv wr => ∃ (i : Nat) (l : List ByteArray), i ≤ s.size + 1 ∧ iv = .int .i64 i ∧ OS w.heap.size wr ov l ∧ Hid (AscS l) ∧ Hid (∀ t, t ∈ l ↔ RwQ s b i 0 t) ∧ l.length ≤ i * 80 ∧ Below w.heap.size w wr) (fun _ iv _ => s.size + 1 - (intOf iv).toNat)
  case atStart => exact ⟨0, [], Nat.zero_le _, rfl, ho, AscS.nil, Lib.hid (fun t => by simpa using RwQ.start), by simp, hb⟩
  case round =>
    clear ho hb
    obtain ⟨i, l, hi, rfl, ho, HA, HL, hll, hb⟩ := hrel
    by_cases hlt : i < s.size + 1
    · have hli : (i : Int) ≤ (s.size : Int) := by omega
      obtain ⟨A, hAe⟩ : ∃ A, s.extract 0 i = A := ⟨_, rfl⟩
      have h1 : A.size ≤ 20 := by rw [← hAe]; have := ext_le s 0 i; omega
      go_wp2_with fail
      go_loopw [6, 8] (fun ov dv wr => ∃ (d : Nat) (l : List ByteArray), d ≤ b ∧ dv = .int .i64 d ∧ OS w.heap.size wr ov l ∧ Hid (AscS l) ∧ Hid (∀ t, t ∈ l ↔ RwQ s b i d t) ∧ l.length ≤ i * 80 + d * 2 ∧ Below w.heap.size w wr) (fun _ dv _ => b - (intOf dv).toNat)
      case atStart => exact ⟨0, l, Nat.zero_le _, rfl, ho, HA, HL, by omega, hb⟩
      case round =>
        clear ho hb HL HA hll l
        obtain ⟨d, l, hdb, rfl, ho, HA, HL, hll, hb⟩ := hrel
        have hz := hb.size
        by_cases hld : d < b
        · have hd36 : d < 36 := by omega
          have HY := Lib.hid (symS_wOf hd36)
          have hsy := Lib.hid (fun wx => l01Symbol_any (d : Int) wx (by omega))
          have oc : OB wr.heap.size (wr.alloc (.cells #[.int .u8 (sy d)] 5)) (.slice (some ⟨wr.heap.size, 0, none⟩) 1 1) [sy d] := OV.lit _ _ [.int .u8 (sy d)] (Nat.le_refl _) (by simp [maxLen])
          have hst := oc.str
          have HW : strOfNums [sy d] = wOf [(d : Int)] := rfl
          rw [HW, ← HY.out] at hst
          have hbc : Below w.heap.size w (wr.alloc (.cells #[.int .u8 (sy d)] 5)) := hb.alloc hz _
          have hoc := ho.later ((Below.refl _ _).alloc (Nat.le_refl _) (.cells #[.int .u8 (sy d)] 5))
          have hY1 : (symS d).size ≤ 1 := Nat.le_of_eq (symS_size hd36)
          obtain ⟨Y, hY⟩ : ∃ Y, symS d = Y := ⟨_, rfl⟩
          have HYY := Lib.hid hY
          rw [hY] at hst hY1
          clear oc HW HY hY
          go_upto_region 11 with (go_at_call 59; refine (hsy.out _).mono ?_; rintro e w' ⟨rfl, rfl⟩)
          clear hst hsy ho hb
          generalize wr.alloc (.cells #[.int .u8 (sy d)] 5) = w2 at *
          replace ho := hoc
          replace hb := hbc
          clear hoc hbc
          replace hz := hb.size
          obtain ⟨C, hC⟩ : ∃ C, s.extract i s.size = C := ⟨_, rfl⟩
          have h2 : C.size ≤ 20 := by rw [← hC]; have := ext_le s i s.size; omega
          have h3 : ¬ 9223372036854775807 < A.size + Y.size := by omega
          have h4 : ¬ 9223372036854775807 < A.size + Y.size + C.size := by omega
          have HIN : Hid (A ++ Y ++ C = insW s i (symS d)) := by unfold Hid insW; rw [HYY.out, hAe, hC]
          go_region_held3 (fun _ => True) (trivial)
            ((go_at_call 60; refine (l06Put_any _ l (A++Y++C) w.heap.size _ (by first | exact ho | exact ho.drew) HA.out (by omega) (by first | exact hz | (simp; exact hz))).mono ?_; rintro e w5 ⟨v', l', rfl, ho5, hA5, hm5, hl5, hb5⟩))
          replace hb := below_fromDrew hb hb5 hz
          have HA5 := Lib.hid hA5
          have HM5 : Hid (∀ u, u ∈ l' ↔ u = A++Y++C ∨ u ∈ l) := hm5
          have HL5 : Hid (l'.length ≤ l.length + 1) := hl5
          clear hm5 hb5 hA5 hl5 ho
          replace hz := hb.size
          have HM1 : Hid (∀ t, t ∈ l' ↔ t = insW s i (symS d) ∨ RwQ s b i d t) := fun t => by rw [HM5.out t, HIN.out, HL.out t]
          have hl1 : l'.length ≤ i * 80 + d * 2 + 1 := by have := HL5.out; omega
          clear HIN HL HM5 HL5 hC h2 h3 h4 HA hll
          replace ho := ho5
          have HA := HA5
          clear ho5 HA5
          generalize l' = l at *
          by_cases hlt2 : i < s.size
          · have k1 : (i : Int) < (s.size : Int) := by omega
            have k2 : (i : Int) + 1 ≤ (s.size : Int) := by omega
            have k3 : (i : Int) ≤ (i : Int) + 1 := by omega
            have hw5 : IntKind.i64.wrap ((i : Int) + 1) = (i : Int) + 1 := IntWalk.i64_in _ (by omega)
            have hw6 : (0 : Int) ≤ (i : Int) + 1 := by omega
            have hw7 : ((i : Int) + 1).toNat = i + 1 := by omega
            obtain ⟨X, hX⟩ : ∃ X, s.extract i (i + 1) = X := ⟨_, rfl⟩
            have hsc : SubC s i d ↔ Y ≠ X := by unfold SubC; rw [HYY.out, hX]
            by_cases hxy : X = Y
            · have hq := str_eq Y
              have HL2 : Hid (∀ t, t ∈ l ↔ RwQ s b i (d + 1) t) := fun t => by
                rw [HM1.out t, RwQ.put (by omega) hld]
                exact ⟨.inr, fun h => h.elim (fun h => absurd hxy.symm (hsc.1 h.2.1)) id⟩
              clear hsc HM1
              subst hxy
              go_wp2_with fail
              go_roundw
              case rel => exact ⟨d + 1, l, by omega, by go_num, ho, HA, HL2, by omega, hb⟩
              case measure => first | (simp [intOf]; done) | (simp [intOf]; omega)
            · have hq := str_ne hxy
              have HSC : Hid (SubC s i d) := hsc.2 (fun e => hxy e.symm)
              obtain ⟨C, hC⟩ : ∃ C, s.extract (i + 1) s.size = C := ⟨_, rfl⟩
              have h2 : C.size ≤ 20 := by rw [← hC]; have := ext_le s (i + 1) s.size; omega
              have h3 : ¬ 9223372036854775807 < A.size + Y.size := by omega
              have h4 : ¬ 9223372036854775807 < A.size + Y.size + C.size := by omega
              have HIN : Hid (A ++ Y ++ C = subW s i (symS d)) := by unfold Hid subW; rw [HYY.out, hAe, hC]
              clear hsc
              go_wp2_with fail
              go_region_held3 (fun _ => True) (trivial)
                ((go_at_call 60; refine (l06Put_any _ l (A++Y++C) w.heap.size _ (by first | exact ho | exact ho.drew) HA.out (by omega) (by first | exact hz | (simp; exact hz))).mono ?_; rintro e w5 ⟨v', l', rfl, ho5, hA5, hm5, hl5, hb5⟩))
              replace hb := below_fromDrew hb hb5 hz
              have HA5 := Lib.hid hA5
              have HM5 : Hid (∀ u, u ∈ l' ↔ u = A++Y++C ∨ u ∈ l) := hm5
              have HL5 : Hid (l'.length ≤ l.length + 1) := hl5
              clear hm5 hb5 hA5 hl5 ho
              replace hz := hb.size
              have HL2 : Hid (∀ t, t ∈ l' ↔ RwQ s b i (d + 1) t) := fun t => by
                rw [HM5.out t, HIN.out, HM1.out t, RwQ.put (by omega) hld]
                exact ⟨fun h => h.elim (fun h => .inl ⟨hlt2, HSC.out, h⟩) .inr, fun h => h.elim (fun h => .inl h.2.2) .inr⟩
              have hl2 : l'.length ≤ i * 80 + (d + 1) * 2 := by have := HL5.out; omega
              clear hw5 hw6 hw7 hX hC
              go_wp2_with fail
              go_roundw
              case rel => exact ⟨d + 1, l', by omega, by go_num, ho5, HA5, HL2, hl2, hb⟩
              case measure => first | (simp [intOf]; done) | (simp [intOf]; omega)
          · obtain rfl : i = s.size := by omega
            have HL2 : Hid (∀ t, t ∈ l ↔ RwQ s b s.size (d + 1) t) := fun t => by
              rw [HM1.out t, RwQ.put (by omega) hld]
              exact ⟨.inr, fun h => h.elim (fun h => absurd h.1 (by omega)) id⟩
            clear HM1
            go_wp2_with fail
            go_roundw
            case rel => exact ⟨d + 1, l, by omega, by go_num, ho, HA, HL2, by omega, hb⟩
            case measure => first | (simp [intOf]; done) | (simp [intOf]; omega)
        · obtain rfl : d = b := by omega
          by_cases hlt2 : i < s.size
          · have k1 : (i : Int) < (s.size : Int) := by omega
            have k2 : (i : Int) + 1 ≤ (s.size : Int) := by omega
            have k3 : (i : Int) ≤ (i : Int) + 1 := by omega
            have hw5 : IntKind.i64.wrap ((i : Int) + 1) = (i : Int) + 1 := IntWalk.i64_in _ (by omega)
            have hw6 : (0 : Int) ≤ (i : Int) + 1 := by omega
            have hw7 : ((i : Int) + 1).toNat = i + 1 := by omega
            obtain ⟨C, hC⟩ : ∃ C, s.extract (i + 1) s.size = C := ⟨_, rfl⟩
            have h2 : C.size ≤ 20 := by rw [← hC]; have := ext_le s (i + 1) s.size; omega
            have h3 : ¬ 9223372036854775807 < A.size + C.size := by omega
            have HIN : Hid (A ++ C = delW s i) := by unfold Hid delW; rw [hAe, hC]
            go_wp2_with fail
            go_region_held3 (fun _ => True) (trivial)
              ((go_at_call 60; refine (l06Put_any _ l (A++C) w.heap.size _ (by first | exact ho | exact ho.drew) HA.out (by omega) (by first | exact hz | (simp; exact hz))).mono ?_; rintro e w5 ⟨v', l', rfl, ho5, hA5, hm5, hl5, hb5⟩))
            replace hb := below_fromDrew hb hb5 hz
            have HA5 := Lib.hid hA5
            have HM5 : Hid (∀ u, u ∈ l' ↔ u = A++C ∨ u ∈ l) := hm5
            have HL5 : Hid (l'.length ≤ l.length + 1) := hl5
            clear hm5 hb5 hA5 hl5 ho
            replace hz := hb.size
            have HM1 : Hid (∀ t, t ∈ l' ↔ t = delW s i ∨ RwQ s d i d t) := fun t => by rw [HM5.out t, HIN.out, HL.out t]
            have hl1 : l'.length ≤ i * 80 + d * 2 + 1 := by have := HL5.out; omega
            clear HIN HL HM5 HL5 hC h2 h3 HA hll
            replace ho := ho5
            have HA := HA5
            clear ho5 HA5
            generalize l' = l at *
            by_cases hlt3 : i + 1 < s.size
            · have m1 : (i : Int) + 1 < (s.size : Int) := by omega
              have m2 : decide ((i : Int) + 1 < (s.size : Int)) = true := decide_eq_true m1
              obtain ⟨x, hx⟩ : ∃ x, s[i] = x := ⟨_, rfl⟩
              obtain ⟨y, hy⟩ : ∃ y, s[i + 1] = y := ⟨_, rfl⟩
              have hsc : SwpC s i ↔ x ≠ y := by rw [swpC_iff hlt3, ← hx, ← hy]
              by_cases hxy : x = y
              · have hcc : ((x.toNat : Int) != (y.toNat : Int)) = false := by simp [hxy]
                have HL2 : Hid (∀ t, t ∈ l ↔ RwQ s d (i + 1) 0 t) := fun t => by
                  rw [HM1.out t, RwQ.next]
                  exact ⟨fun h => .inr (h.elim (fun h => .inl ⟨hlt2, h⟩) .inr), fun h => h.elim (fun h => absurd hxy (hsc.1 h.2.1)) fun h => h.elim (fun h => .inl h.2) .inr⟩
                clear hxy hsc
                go_wp2_with fail
                go_quiet (fail)
                have hb9 := below_drewN hb nq
                have ho9 := OS.later ho (below_drewN (Below.refl _ _) nq)
                clear ho hb hz hcc hx hy
                generalize wr.drewN nq = w9 at *
                go_wp2_with fail
                go_roundw
                case rel => exact ⟨i + 1, l, by omega, by go_num, ho9, HA, HL2, by omega, hb9⟩
                case measure => first | (simp [intOf]; done) | (simp [intOf]; omega)
              · have hcc : ((x.toNat : Int) != (y.toNat : Int)) = true := by
                  have : ¬ (x.toNat : Int) = (y.toNat : Int) := fun e => hxy (UInt8.toNat_inj.1 (by omega))
                  simpa using this
                have HSC : Hid (SwpC s i) := hsc.2 hxy
                obtain ⟨Z, hZ⟩ : ∃ Z, s.extract (i + 1) (i + 2) = Z := ⟨_, rfl⟩
                obtain ⟨X, hX⟩ : ∃ X, s.extract i (i + 1) = X := ⟨_, rfl⟩
                obtain ⟨C, hC⟩ : ∃ C, s.extract (i + 2) s.size = C := ⟨_, rfl⟩
                have HIN : Hid (A ++ Z ++ X ++ C = swpW s i) := by unfold Hid swpW; rw [hAe, hZ, hX, hC]
                have h2 : C.size ≤ 20 := by rw [← hC]; have := ext_le s (i + 2) s.size; omega
                have h5 : Z.size ≤ 20 := by rw [← hZ]; have := ext_le s (i + 1) (i + 2); omega
                have h6 : X.size ≤ 20 := by rw [← hX]; have := ext_le s i (i + 1); omega
                have h3 : ¬ 9223372036854775807 < A.size + Z.size := by omega
                have h4 : ¬ 9223372036854775807 < A.size + Z.size + X.size := by omega
                have h7 : ¬ 9223372036854775807 < A.size + Z.size + X.size + C.size := by omega
                have n2 : (i : Int) + 2 ≤ (s.size : Int) := by omega
                have n3 : (i : Int) + 1 ≤ (i : Int) + 2 := by omega
                have nw5 : IntKind.i64.wrap ((i : Int) + 2) = (i : Int) + 2 := IntWalk.i64_in _ (by omega)
                have nw6 : (0 : Int) ≤ (i : Int) + 2 := by omega
                have nw7 : ((i : Int) + 2).toNat = i + 2 := by omega
                clear hsc
                go_wp2_with fail
                go_quiet (fail)
                have hb9 := below_drewN hb nq
                have ho9 := OS.later ho (below_drewN (Below.refl _ _) nq)
                have hz9 := hb9.size
                clear ho hb hz hcc hx hy hxy
                generalize wr.drewN nq = w9 at *
                have ho := ho9
                have hb := hb9
                have hz := hz9
                clear ho9 hb9 hz9
                go_wp2_with fail
                go_region_held3 (fun _ => True) (trivial)
                  ((go_at_call 60; refine (l06Put_any _ l (A++Z++X++C) w.heap.size _ (by first | exact ho | exact ho.drew) HA.out (by omega) (by first | exact hz | (simp; exact hz))).mono ?_; rintro e w5 ⟨v', l', rfl, ho5, hA5, hm5, hl5, hb5⟩))
                replace hb := below_fromDrew hb hb5 hz
                have HA5 := Lib.hid hA5
                have HM5 : Hid (∀ u, u ∈ l' ↔ u = A++Z++X++C ∨ u ∈ l) := hm5
                have HL5 : Hid (l'.length ≤ l.length + 1) := hl5
                clear hm5 hb5 hA5 hl5 ho
                replace hz := hb.size
                have HL2 : Hid (∀ t, t ∈ l' ↔ RwQ s d (i + 1) 0 t) := fun t => by
                  rw [HM5.out t, HIN.out, HM1.out t, RwQ.next]
                  exact ⟨fun h => h.elim (fun h => .inl ⟨hlt3, HSC.out, h⟩) fun h => .inr (h.elim (fun h => .inl ⟨hlt2, h⟩) .inr), fun h => h.elim (fun h => .inl h.2.2) fun h => .inr (h.elim (fun h => .inl h.2) .inr)⟩
                have hl2 : l'.length ≤ (i + 1) * 80 := by have := HL5.out; omega
                clear hw5 hw6 hw7 hX hC hZ nw5 nw6 nw7
                go_wp2_with fail
                go_roundw
                case rel => exact ⟨i + 1, l', by omega, by go_num, ho5, HA5, HL2, hl2, hb⟩
                case measure => first | (simp [intOf]; done) | (simp [intOf]; omega)
            · have m1 : ¬ (i : Int) + 1 < (s.size : Int) := by omega
              have m2 : decide ((i : Int) + 1 < (s.size : Int)) = false := decide_eq_false m1
              have HL2 : Hid (∀ t, t ∈ l ↔ RwQ s d (i + 1) 0 t) := fun t => by
                rw [HM1.out t, RwQ.next]
                exact ⟨fun h => .inr (h.elim (fun h => .inl ⟨hlt2, h⟩) .inr), fun h => h.elim (fun h => absurd h.1 hlt3) fun h => h.elim (fun h => .inl h.2) .inr⟩
              go_wp2_with fail
              go_quiet (fail)
              have hb9 := below_drewN hb nq
              have ho9 := OS.later ho (below_drewN (Below.refl _ _) nq)
              clear ho hb hz
              generalize wr.drewN nq = w9 at *
              go_wp2_with fail
              go_roundw
              case rel => exact ⟨i + 1, l, by omega, by go_num, ho9, HA, HL2, by omega, hb9⟩
              case measure => first | (simp [intOf]; done) | (simp [intOf]; omega)
          · obtain rfl : i = s.size := by omega
            have HL2 : Hid (∀ t, t ∈ l ↔ RwQ s d (s.size + 1) 0 t) := fun t => by
              rw [HL.out t, RwQ.next]
              exact ⟨fun h => .inr (.inr h), fun h => h.elim (fun h => absurd h.1 (by omega)) fun h => h.elim (fun h => absurd h.1 (by omega)) id⟩
            have m1 : ¬ (s.size : Int) + 1 < (s.size : Int) := by omega
            have m2 : decide ((s.size : Int) + 1 < (s.size : Int)) = false := decide_eq_false m1
            go_wp2_with fail
            go_quiet (fail)
            have hb9 := below_drewN hb nq
            have ho9 := OS.later ho (below_drewN (Below.refl _ _) nq)
            clear ho hb hz
            generalize wr.drewN nq = w9 at *
            go_wp2_with fail
            go_roundw
            case rel => exact ⟨s.size + 1, l, by omega, by go_num, ho9, HA, HL2, by omega, hb9⟩
            case measure => first | (simp [intOf]; done) | (simp [intOf]; omega)
    · obtain rfl : i = s.size + 1 := by omega
      have HF : Hid (∀ v', OS w.heap.size wr v' l → NwPost s b w (.returned (.tuple #[v', .bool true])) wr) := fun v' ho' => by
        refine ⟨v', l, by unfold nwB; rw [HD0.out], ho', HA.out, fun t => ?_, by omega, hb⟩
        rw [HL.out t, RwQ.stop, Int.toNat_natCast]
        unfold nwB
        exact ⟨fun h => ⟨HD0.out, h⟩, fun h => h.2⟩
      have hfin := HF.out _ ho
      have q1 : ¬ (s.size : Int) + 1 ≤ (s.size : Int) := by omega
      go_wp2_with fail
      go_ret2
      exact hfin
set_option maxRecDepth 100000 in
set_option maxHeartbeats 16000000 in
theorem specNw_go0 (s : ByteArray) (b : Nat) (w : World) (hd : digB s b 12 = true) (hb2 : 2 ≤ b ∧ b ≤ 36) (hs : s.size ≤ 12) (hne : s.toList.isEmpty = true) :
    Calls Try.prog 31 #[.string s, .int .i64 b] w (NwPost s b w) := by
  have HD0 := Lib.hid hd
  have HB : Hid (∀ wx, Calls Try.prog 57 #[.int .i64 b] wx fun e w' => e = .returned (.bool true) ∧ wx = w') := fun wx => by
    have := l01Base_any b wx
    rw [show inB (b : Int) 2 36 = true by unfold inB; simp; omega] at this; exact this
  have HC : Hid (∀ wx, Calls Try.prog 44 #[.string s, .int .i64 12] wx fun e w' => e = .returned (.bool true) ∧ wx = w') := fun wx => by
    have := l06Word_any s 12 wx (by omega) (by omega)
    rw [show digB s 36 12 = true by
      unfold digB wdB at hd ⊢
      simp only [Bool.and_eq_true, decide_eq_true_eq, List.all_eq_true] at hd ⊢
      refine ⟨⟨by decide, hd.1.2⟩, fun z hz => ?_⟩
      have := hd.2 z hz
      unfold inB at this ⊢
      simp only [Bool.and_eq_true, decide_eq_true_eq] at this ⊢
      omega] at this
    exact this
  have HD : Hid (∀ wx, Calls Try.prog 58 #[.string s, .int .i64 b] wx fun e w' => e = .returned (.bool true) ∧ wx = w') := fun wx => by
    have := l01Word_any s b wx (by omega) (by omega)
    rw [show wdB s b = true by unfold digB at hd; simp only [Bool.and_eq_true] at hd; exact hd.2, decide_eq_true (show s.size ≤ 20 by omega)] at this; exact this
  clear hd
  go_enter Try.func31, Try.ntmps31
  have ho : OS w.heap.size (w.alloc (.cells #[] 9)) (.slice (some ⟨w.heap.size, 0, none⟩) 0 0) [] := OV.made _ _ (Nat.le_refl _)
  have hb : Below w.heap.size w (w.alloc (.cells #[] 9)) := (Below.refl _ _).alloc (Nat.le_refl _) _
  go_wp2_with (first
    | (go_at_call 57; refine (HB.out _).mono ?_; rintro e w' ⟨rfl, rfl⟩)
    | (go_at_call 44; refine (HC.out _).mono ?_; rintro e w' ⟨rfl, rfl⟩)
    | (go_at_call 58; refine (HD.out _).mono ?_; rintro e w' ⟨rfl, rfl⟩))
  generalize w.alloc (.cells #[] 9) = w1 at *
  generalize Value.slice (some ⟨w.heap.size, 0, none⟩) 0 0 = v0 at *
  clear HB HC HD hne
  go_loopw [6, 7] (fun ov iv wr => ∃ (i : Nat) (l : List ByteArray), i ≤ s.size + 1 ∧ iv = .int .i64 i ∧ OS w.heap.size wr ov l ∧ Hid (AscS l) ∧ Hid (∀ t, t ∈ l ↔ RwQ s b i 0 t) ∧ l.length ≤ i * 80 ∧ Below w.heap.size w wr) (fun _ iv _ => s.size + 1 - (intOf iv).toNat)
  case atStart => exact ⟨0, [], Nat.zero_le _, rfl, ho, AscS.nil, Lib.hid (fun t => by simpa using RwQ.start), by simp, hb⟩
  case round =>
    clear ho hb
    obtain ⟨i, l, hi, rfl, ho, HA, HL, hll, hb⟩ := hrel
    by_cases hlt : i < s.size + 1
    · have hli : (i : Int) ≤ (s.size : Int) := by omega
      obtain ⟨A, hAe⟩ : ∃ A, s.extract 0 i = A := ⟨_, rfl⟩
      have h1 : A.size ≤ 20 := by rw [← hAe]; have := ext_le s 0 i; omega
      go_wp2_with fail
      go_loopw [6, 8] (fun ov dv wr => ∃ (d : Nat) (l : List ByteArray), d ≤ b ∧ dv = .int .i64 d ∧ OS w.heap.size wr ov l ∧ Hid (AscS l) ∧ Hid (∀ t, t ∈ l ↔ RwQ s b i d t) ∧ l.length ≤ i * 80 + d * 2 ∧ Below w.heap.size w wr) (fun _ dv _ => b - (intOf dv).toNat)
      case atStart => exact ⟨0, l, Nat.zero_le _, rfl, ho, HA, HL, by omega, hb⟩
      case round =>
        clear ho hb HL HA hll l
        obtain ⟨d, l, hdb, rfl, ho, HA, HL, hll, hb⟩ := hrel
        have hz := hb.size
        by_cases hld : d < b
        · have hd36 : d < 36 := by omega
          have HY := Lib.hid (symS_wOf hd36)
          have hsy := Lib.hid (fun wx => l01Symbol_any (d : Int) wx (by omega))
          have oc : OB wr.heap.size (wr.alloc (.cells #[.int .u8 (sy d)] 5)) (.slice (some ⟨wr.heap.size, 0, none⟩) 1 1) [sy d] := OV.lit _ _ [.int .u8 (sy d)] (Nat.le_refl _) (by simp [maxLen])
          have hst := oc.str
          have HW : strOfNums [sy d] = wOf [(d : Int)] := rfl
          rw [HW, ← HY.out] at hst
          have hbc : Below w.heap.size w (wr.alloc (.cells #[.int .u8 (sy d)] 5)) := hb.alloc hz _
          have hoc := ho.later ((Below.refl _ _).alloc (Nat.le_refl _) (.cells #[.int .u8 (sy d)] 5))
          have hY1 : (symS d).size ≤ 1 := Nat.le_of_eq (symS_size hd36)
          obtain ⟨Y, hY⟩ : ∃ Y, symS d = Y := ⟨_, rfl⟩
          have HYY := Lib.hid hY
          rw [hY] at hst hY1
          clear oc HW HY hY
          go_upto_region 11 with (go_at_call 59; refine (hsy.out _).mono ?_; rintro e w' ⟨rfl, rfl⟩)
          clear hst hsy ho hb
          generalize wr.alloc (.cells #[.int .u8 (sy d)] 5) = w2 at *
          replace ho := hoc
          replace hb := hbc
          clear hoc hbc
          replace hz := hb.size
          obtain ⟨C, hC⟩ : ∃ C, s.extract i s.size = C := ⟨_, rfl⟩
          have h2 : C.size ≤ 20 := by rw [← hC]; have := ext_le s i s.size; omega
          have h3 : ¬ 9223372036854775807 < A.size + Y.size := by omega
          have h4 : ¬ 9223372036854775807 < A.size + Y.size + C.size := by omega
          have HIN : Hid (A ++ Y ++ C = insW s i (symS d)) := by unfold Hid insW; rw [HYY.out, hAe, hC]
          go_region_held3 (fun _ => True) (trivial)
            ((go_at_call 60; refine (l06Put_any _ l (A++Y++C) w.heap.size _ (by first | exact ho | exact ho.drew) HA.out (by omega) (by first | exact hz | (simp; exact hz))).mono ?_; rintro e w5 ⟨v', l', rfl, ho5, hA5, hm5, hl5, hb5⟩))
          replace hb := below_fromDrew hb hb5 hz
          have HA5 := Lib.hid hA5
          have HM5 : Hid (∀ u, u ∈ l' ↔ u = A++Y++C ∨ u ∈ l) := hm5
          have HL5 : Hid (l'.length ≤ l.length + 1) := hl5
          clear hm5 hb5 hA5 hl5 ho
          replace hz := hb.size
          have HM1 : Hid (∀ t, t ∈ l' ↔ t = insW s i (symS d) ∨ RwQ s b i d t) := fun t => by rw [HM5.out t, HIN.out, HL.out t]
          have hl1 : l'.length ≤ i * 80 + d * 2 + 1 := by have := HL5.out; omega
          clear HIN HL HM5 HL5 hC h2 h3 h4 HA hll
          replace ho := ho5
          have HA := HA5
          clear ho5 HA5
          generalize l' = l at *
          by_cases hlt2 : i < s.size
          · have k1 : (i : Int) < (s.size : Int) := by omega
            have k2 : (i : Int) + 1 ≤ (s.size : Int) := by omega
            have k3 : (i : Int) ≤ (i : Int) + 1 := by omega
            have hw5 : IntKind.i64.wrap ((i : Int) + 1) = (i : Int) + 1 := IntWalk.i64_in _ (by omega)
            have hw6 : (0 : Int) ≤ (i : Int) + 1 := by omega
            have hw7 : ((i : Int) + 1).toNat = i + 1 := by omega
            obtain ⟨X, hX⟩ : ∃ X, s.extract i (i + 1) = X := ⟨_, rfl⟩
            have hsc : SubC s i d ↔ Y ≠ X := by unfold SubC; rw [HYY.out, hX]
            by_cases hxy : X = Y
            · have hq := str_eq Y
              have HL2 : Hid (∀ t, t ∈ l ↔ RwQ s b i (d + 1) t) := fun t => by
                rw [HM1.out t, RwQ.put (by omega) hld]
                exact ⟨.inr, fun h => h.elim (fun h => absurd hxy.symm (hsc.1 h.2.1)) id⟩
              clear hsc HM1
              subst hxy
              go_wp2_with fail
              go_roundw
              case rel => exact ⟨d + 1, l, by omega, by go_num, ho, HA, HL2, by omega, hb⟩
              case measure => first | (simp [intOf]; done) | (simp [intOf]; omega)
            · have hq := str_ne hxy
              have HSC : Hid (SubC s i d) := hsc.2 (fun e => hxy e.symm)
              obtain ⟨C, hC⟩ : ∃ C, s.extract (i + 1) s.size = C := ⟨_, rfl⟩
              have h2 : C.size ≤ 20 := by rw [← hC]; have := ext_le s (i + 1) s.size; omega
              have h3 : ¬ 9223372036854775807 < A.size + Y.size := by omega
              have h4 : ¬ 9223372036854775807 < A.size + Y.size + C.size := by omega
              have HIN : Hid (A ++ Y ++ C = subW s i (symS d)) := by unfold Hid subW; rw [HYY.out, hAe, hC]
              clear hsc
              go_wp2_with fail
              go_region_held3 (fun _ => True) (trivial)
                ((go_at_call 60; refine (l06Put_any _ l (A++Y++C) w.heap.size _ (by first | exact ho | exact ho.drew) HA.out (by omega) (by first | exact hz | (simp; exact hz))).mono ?_; rintro e w5 ⟨v', l', rfl, ho5, hA5, hm5, hl5, hb5⟩))
              replace hb := below_fromDrew hb hb5 hz
              have HA5 := Lib.hid hA5
              have HM5 : Hid (∀ u, u ∈ l' ↔ u = A++Y++C ∨ u ∈ l) := hm5
              have HL5 : Hid (l'.length ≤ l.length + 1) := hl5
              clear hm5 hb5 hA5 hl5 ho
              replace hz := hb.size
              have HL2 : Hid (∀ t, t ∈ l' ↔ RwQ s b i (d + 1) t) := fun t => by
                rw [HM5.out t, HIN.out, HM1.out t, RwQ.put (by omega) hld]
                exact ⟨fun h => h.elim (fun h => .inl ⟨hlt2, HSC.out, h⟩) .inr, fun h => h.elim (fun h => .inl h.2.2) .inr⟩
              have hl2 : l'.length ≤ i * 80 + (d + 1) * 2 := by have := HL5.out; omega
              clear hw5 hw6 hw7 hX hC
              go_wp2_with fail
              go_roundw
              case rel => exact ⟨d + 1, l', by omega, by go_num, ho5, HA5, HL2, hl2, hb⟩
              case measure => first | (simp [intOf]; done) | (simp [intOf]; omega)
          · obtain rfl : i = s.size := by omega
            have HL2 : Hid (∀ t, t ∈ l ↔ RwQ s b s.size (d + 1) t) := fun t => by
              rw [HM1.out t, RwQ.put (by omega) hld]
              exact ⟨.inr, fun h => h.elim (fun h => absurd h.1 (by omega)) id⟩
            clear HM1
            go_wp2_with fail
            go_roundw
            case rel => exact ⟨d + 1, l, by omega, by go_num, ho, HA, HL2, by omega, hb⟩
            case measure => first | (simp [intOf]; done) | (simp [intOf]; omega)
        · obtain rfl : d = b := by omega
          by_cases hlt2 : i < s.size
          · have k1 : (i : Int) < (s.size : Int) := by omega
            have k2 : (i : Int) + 1 ≤ (s.size : Int) := by omega
            have k3 : (i : Int) ≤ (i : Int) + 1 := by omega
            have hw5 : IntKind.i64.wrap ((i : Int) + 1) = (i : Int) + 1 := IntWalk.i64_in _ (by omega)
            have hw6 : (0 : Int) ≤ (i : Int) + 1 := by omega
            have hw7 : ((i : Int) + 1).toNat = i + 1 := by omega
            obtain ⟨C, hC⟩ : ∃ C, s.extract (i + 1) s.size = C := ⟨_, rfl⟩
            have h2 : C.size ≤ 20 := by rw [← hC]; have := ext_le s (i + 1) s.size; omega
            have h3 : ¬ 9223372036854775807 < A.size + C.size := by omega
            have HIN : Hid (A ++ C = delW s i) := by unfold Hid delW; rw [hAe, hC]
            go_wp2_with fail
            go_region_held3 (fun _ => True) (trivial)
              ((go_at_call 60; refine (l06Put_any _ l (A++C) w.heap.size _ (by first | exact ho | exact ho.drew) HA.out (by omega) (by first | exact hz | (simp; exact hz))).mono ?_; rintro e w5 ⟨v', l', rfl, ho5, hA5, hm5, hl5, hb5⟩))
            replace hb := below_fromDrew hb hb5 hz
            have HA5 := Lib.hid hA5
            have HM5 : Hid (∀ u, u ∈ l' ↔ u = A++C ∨ u ∈ l) := hm5
            have HL5 : Hid (l'.length ≤ l.length + 1) := hl5
            clear hm5 hb5 hA5 hl5 ho
            replace hz := hb.size
            have HM1 : Hid (∀ t, t ∈ l' ↔ t = delW s i ∨ RwQ s d i d t) := fun t => by rw [HM5.out t, HIN.out, HL.out t]
            have hl1 : l'.length ≤ i * 80 + d * 2 + 1 := by have := HL5.out; omega
            clear HIN HL HM5 HL5 hC h2 h3 HA hll
            replace ho := ho5
            have HA := HA5
            clear ho5 HA5
            generalize l' = l at *
            by_cases hlt3 : i + 1 < s.size
            · have m1 : (i : Int) + 1 < (s.size : Int) := by omega
              have m2 : decide ((i : Int) + 1 < (s.size : Int)) = true := decide_eq_true m1
              obtain ⟨x, hx⟩ : ∃ x, s[i] = x := ⟨_, rfl⟩
              obtain ⟨y, hy⟩ : ∃ y, s[i + 1] = y := ⟨_, rfl⟩
              have hsc : SwpC s i ↔ x ≠ y := by rw [swpC_iff hlt3, ← hx, ← hy]
              by_cases hxy : x = y
              · have hcc : ((x.toNat : Int) != (y.toNat : Int)) = false := by simp [hxy]
                have HL2 : Hid (∀ t, t ∈ l ↔ RwQ s d (i + 1) 0 t) := fun t => by
                  rw [HM1.out t, RwQ.next]
                  exact ⟨fun h => .inr (h.elim (fun h => .inl ⟨hlt2, h⟩) .inr), fun h => h.elim (fun h => absurd hxy (hsc.1 h.2.1)) fun h => h.elim (fun h => .inl h.2) .inr⟩
                clear hxy hsc
                go_wp2_with fail
                go_quiet (fail)
                have hb9 := below_drewN hb nq
                have ho9 := OS.later ho (below_drewN (Below.refl _ _) nq)
                clear ho hb hz hcc hx hy
                generalize wr.drewN nq = w9 at *
                go_wp2_with fail
                go_roundw
                case rel => exact ⟨i + 1, l, by omega, by go_num, ho9, HA, HL2, by omega, hb9⟩
                case measure => first | (simp [intOf]; done) | (simp [intOf]; omega)
              · have hcc : ((x.toNat : Int) != (y.toNat : Int)) = true := by
                  have : ¬ (x.toNat : Int) = (y.toNat : Int) := fun e => hxy (UInt8.toNat_inj.1 (by omega))
                  simpa using this
                have HSC : Hid (SwpC s i) := hsc.2 hxy
                obtain ⟨Z, hZ⟩ : ∃ Z, s.extract (i + 1) (i + 2) = Z := ⟨_, rfl⟩
                obtain ⟨X, hX⟩ : ∃ X, s.extract i (i + 1) = X := ⟨_, rfl⟩
                obtain ⟨C, hC⟩ : ∃ C, s.extract (i + 2) s.size = C := ⟨_, rfl⟩
                have HIN : Hid (A ++ Z ++ X ++ C = swpW s i) := by unfold Hid swpW; rw [hAe, hZ, hX, hC]
                have h2 : C.size ≤ 20 := by rw [← hC]; have := ext_le s (i + 2) s.size; omega
                have h5 : Z.size ≤ 20 := by rw [← hZ]; have := ext_le s (i + 1) (i + 2); omega
                have h6 : X.size ≤ 20 := by rw [← hX]; have := ext_le s i (i + 1); omega
                have h3 : ¬ 9223372036854775807 < A.size + Z.size := by omega
                have h4 : ¬ 9223372036854775807 < A.size + Z.size + X.size := by omega
                have h7 : ¬ 9223372036854775807 < A.size + Z.size + X.size + C.size := by omega
                have n2 : (i : Int) + 2 ≤ (s.size : Int) := by omega
                have n3 : (i : Int) + 1 ≤ (i : Int) + 2 := by omega
                have nw5 : IntKind.i64.wrap ((i : Int) + 2) = (i : Int) + 2 := IntWalk.i64_in _ (by omega)
                have nw6 : (0 : Int) ≤ (i : Int) + 2 := by omega
                have nw7 : ((i : Int) + 2).toNat = i + 2 := by omega
                clear hsc
                go_wp2_with fail
                go_quiet (fail)
                have hb9 := below_drewN hb nq
                have ho9 := OS.later ho (below_drewN (Below.refl _ _) nq)
                have hz9 := hb9.size
                clear ho hb hz hcc hx hy hxy
                generalize wr.drewN nq = w9 at *
                have ho := ho9
                have hb := hb9
                have hz := hz9
                clear ho9 hb9 hz9
                go_wp2_with fail
                go_region_held3 (fun _ => True) (trivial)
                  ((go_at_call 60; refine (l06Put_any _ l (A++Z++X++C) w.heap.size _ (by first | exact ho | exact ho.drew) HA.out (by omega) (by first | exact hz | (simp; exact hz))).mono ?_; rintro e w5 ⟨v', l', rfl, ho5, hA5, hm5, hl5, hb5⟩))
                replace hb := below_fromDrew hb hb5 hz
                have HA5 := Lib.hid hA5
                have HM5 : Hid (∀ u, u ∈ l' ↔ u = A++Z++X++C ∨ u ∈ l) := hm5
                have HL5 : Hid (l'.length ≤ l.length + 1) := hl5
                clear hm5 hb5 hA5 hl5 ho
                replace hz := hb.size
                have HL2 : Hid (∀ t, t ∈ l' ↔ RwQ s d (i + 1) 0 t) := fun t => by
                  rw [HM5.out t, HIN.out, HM1.out t, RwQ.next]
                  exact ⟨fun h => h.elim (fun h => .inl ⟨hlt3, HSC.out, h⟩) fun h => .inr (h.elim (fun h => .inl ⟨hlt2, h⟩) .inr), fun h => h.elim (fun h => .inl h.2.2) fun h => .inr (h.elim (fun h => .inl h.2) .inr)⟩
                have hl2 : l'.length ≤ (i + 1) * 80 := by have := HL5.out; omega
                clear hw5 hw6 hw7 hX hC hZ nw5 nw6 nw7
                go_wp2_with fail
                go_roundw
                case rel => exact ⟨i + 1, l', by omega, by go_num, ho5, HA5, HL2, hl2, hb⟩
                case measure => first | (simp [intOf]; done) | (simp [intOf]; omega)
            · have m1 : ¬ (i : Int) + 1 < (s.size : Int) := by omega
              have m2 : decide ((i : Int) + 1 < (s.size : Int)) = false := decide_eq_false m1
              have HL2 : Hid (∀ t, t ∈ l ↔ RwQ s d (i + 1) 0 t) := fun t => by
                rw [HM1.out t, RwQ.next]
                exact ⟨fun h => .inr (h.elim (fun h => .inl ⟨hlt2, h⟩) .inr), fun h => h.elim (fun h => absurd h.1 hlt3) fun h => h.elim (fun h => .inl h.2) .inr⟩
              go_wp2_with fail
              go_quiet (fail)
              have hb9 := below_drewN hb nq
              have ho9 := OS.later ho (below_drewN (Below.refl _ _) nq)
              clear ho hb hz
              generalize wr.drewN nq = w9 at *
              go_wp2_with fail
              go_roundw
              case rel => exact ⟨i + 1, l, by omega, by go_num, ho9, HA, HL2, by omega, hb9⟩
              case measure => first | (simp [intOf]; done) | (simp [intOf]; omega)
          · obtain rfl : i = s.size := by omega
            have HL2 : Hid (∀ t, t ∈ l ↔ RwQ s d (s.size + 1) 0 t) := fun t => by
              rw [HL.out t, RwQ.next]
              exact ⟨fun h => .inr (.inr h), fun h => h.elim (fun h => absurd h.1 (by omega)) fun h => h.elim (fun h => absurd h.1 (by omega)) id⟩
            have m1 : ¬ (s.size : Int) + 1 < (s.size : Int) := by omega
            have m2 : decide ((s.size : Int) + 1 < (s.size : Int)) = false := decide_eq_false m1
            go_wp2_with fail
            go_quiet (fail)
            have hb9 := below_drewN hb nq
            have ho9 := OS.later ho (below_drewN (Below.refl _ _) nq)
            clear ho hb hz
            generalize wr.drewN nq = w9 at *
            go_wp2_with fail
            go_roundw
            case rel => exact ⟨s.size + 1, l, by omega, by go_num, ho9, HA, HL2, by omega, hb9⟩
            case measure => first | (simp [intOf]; done) | (simp [intOf]; omega)
    · obtain rfl : i = s.size + 1 := by omega
      have HF : Hid (∀ v', OS w.heap.size wr v' l → NwPost s b w (.returned (.tuple #[v', .bool true])) wr) := fun v' ho' => by
        refine ⟨v', l, by unfold nwB; rw [HD0.out], ho', HA.out, fun t => ?_, by omega, hb⟩
        rw [HL.out t, RwQ.stop, Int.toNat_natCast]
        unfold nwB
        exact ⟨fun h => ⟨HD0.out, h⟩, fun h => h.2⟩
      have hfin := HF.out _ ho
      have q1 : ¬ (s.size : Int) + 1 ≤ (s.size : Int) := by omega
      go_wp2_with fail
      go_ret2
      exact hfin
theorem specNw_any (s : ByteArray) (b : Int) (w : World) (hs : s.size ≤ 1048576) :
    Calls Try.prog 31 #[.string s, .int .i64 b] w (NwPost s b w) := by
  by_cases hd : digB s b 12 = true
  · obtain ⟨hb, h12⟩ := digB_parts hd
    obtain ⟨n, rfl⟩ := Int.eq_ofNat_of_zero_le (show 0 ≤ b by omega)
    by_cases he : s.toList.isEmpty = true
    · exact specNw_go0 s n w hd (by omega) h12 he
    · exact specNw_go s n w hd (by omega) h12 (by simpa using he)
  · exact specNw_no s b w hs (by simpa using hd)
end Go.Proofs.Ytgagjmnmfgfpfaa
