/- The law FnNear: for every input. -/
import Derived.Test.YtgagjmnmfgfpfaaNrP
import Derived.Test.YtgagjmnmfgfpfaaR8
namespace Go.Proofs.Ytgagjmnmfgfpfaa
open Go.RowKit

theorem mem_takeS {l : List ByteArray} {i : Nat} (q : ByteArray) (h : i < l.length) : q ∈ l.take (i + 1) ↔ q ∈ l.take i ∨ q = sAt l i := by
  rw [List.take_succ_eq_append_getElem h, List.mem_append, List.mem_singleton]
  unfold sAt; simp [h]
theorem sAt_mem {l : List ByteArray} {i : Nat} (h : i < l.length) : sAt l i ∈ l := by
  unfold sAt; simp [h]
set_option maxHeartbeats 8000000 in
set_option maxRecDepth 100000 in
theorem lawNear_any (v0 v1 : Value) (xs ys : List Int) (w : World) (hx : RK .u8 w v0 xs ∧ (∀ x ∈ xs, (Lit.int .u8 x).wf = true) ∧ xs.length ≤ maxLen)
    (hy : RK .u8 w v1 ys ∧ (∀ x ∈ ys, (Lit.int .u8 x).wf = true) ∧ ys.length ≤ maxLen) :
    Calls Try.prog 13 #[v0, v1] w fun x w' => x = .returned (.bool true) ∧ Below w.heap.size w w' := by
  obtain ⟨hx, hxw, hxm0⟩ := hx
  obtain ⟨hy, hyw, _⟩ := hy
  obtain ⟨a, c, rfl⟩ := hx.slice
  obtain ⟨a', c', rfl⟩ := hy.slice
  cases hs : long8 xs.length ys.length
  case true =>
    have HS := Lib.hid hs
    clear hx hy hs
    go_enter Try.func13, Try.ntmps13
    go_wp2_with fail
    refine (r8Long_any _ _ _ _ _ _ _).mono ?_
    rintro e w' ⟨rfl, rfl⟩
    rw [HS.out]
    go_wp2_with fail
    go_ret
    exact ⟨rfl, Below.refl _ _⟩
  have hm48 : xs.length ≤ 48 ∧ ys.length ≤ 48 := by unfold long8 at hs; simp at hs; omega
  obtain ⟨hxm, hym⟩ := hm48
  have HS := Lib.hid hs
  clear hs
  have hb := Below.refl w.heap.size w
  have HX : Hid (∀ wr, Below w.heap.size w wr → RK .u8 wr (.slice a xs.length c) xs) := fun wr h => hx.later h
  have HY : Hid (∀ wr, Below w.heap.size w wr → RK .u8 wr (.slice a' ys.length c') ys) := fun wr h => hy.later h
  go_enter Try.func13, Try.ntmps13
  go_wp2_with fail
  refine (r8Long_any _ _ _ _ _ _ _).mono ?_
  rintro e w' ⟨rfl, rfl⟩
  rw [HS.out]
  go_wp2_with fail
  refine (r8At_any _ _ _ _ _ _ _ hx hxw hxm0 (by omega) (by omega)).mono ?_
  rintro e w' ⟨r, rfl, ⟨hr0, hr3⟩, rfl⟩
  obtain ⟨n, rfl⟩ := Int.eq_ofNat_of_zero_le hr0
  obtain ⟨b, hbe⟩ : ∃ b : Nat, (b : Int) = 2 + (n : Int) := ⟨2 + n, by omega⟩
  have hb36 : 2 ≤ b ∧ b ≤ 4 := by omega
  have hwb : IntKind.i64.wrap (2 + (n : Int)) = (b : Int) := by rw [← hbe]; exact IntWalk.i64_in _ (by omega)
  clear hx hy hbe
  go_wp2_with fail
  clear hwb hr0 hr3
  refine (r8Word_any _ xs b 6 _ (HX.out _ hb) hxw (by omega) (by omega) (by omega)).mono ?_
  rintro e w1 ⟨as1, rfl, HA, hal, hb1⟩
  have HDA12 := Lib.hid (wOf_dig (m := 12) (by omega) HA.out (by omega))
  have HDA := Lib.hid (digB_mono HDA12.out (by omega))
  have HND := Lib.hid (fun t (h : NwP (wOf as1) b t) => near_dig (k := 12) (m := 6) (by omega) HA.out hal (by omega) h)
  have HDA36 : Hid (digB (wOf as1) 36 12 = true) := by
    have h35 : ∀ z ∈ as1, 0 ≤ z ∧ z < 36 := fun z hz => by have := HA.out z hz; omega
    exact wOf_dig (b := 36) (m := 12) (by omega) h35 (by omega)
  have hsz : (wOf as1).size ≤ 6 := by rw [wOf_size]; exact hal
  generalize wOf as1 = s at *
  replace hb := hb.trans (hb1.mono hb.size)
  clear hb1
  go_wp2_with fail
  refine (r8Word_any _ ys b 6 _ (HY.out _ hb) hyw (by omega) (by omega) (by omega)).mono ?_
  rintro e w2 ⟨bs, rfl, HB, hbl, hb1⟩
  have HDB := Lib.hid (digB_mono (wOf_dig (m := 12) (by omega) HB.out (by omega)) (by omega))
  have HE1 := Lib.hid (fun (h : E1 (bz s) (bz (wOf bs))) => E1_near (b := b) (by omega) HB.out h)
  generalize wOf bs = q at *
  replace hb := hb.trans (hb1.mono hb.size)
  clear hb1
  clear HA HB hal hbl HX HY HS hxm hym hxm0 hxw hyw
  go_wp2_with fail
  refine (implNw_any s b _ (by omega)).mono ?_
  rintro e w3 ⟨v, l, rfl, ho, hA, hm, hlm, hb1⟩
  have hz2 := hb.size
  have hnw : nwB s b = true := HDA12.out
  rw [hnw]
  have hmem : ∀ t, t ∈ l ↔ NwP s b t := fun t => by rw [hm t, hnw]; simp
  have hasc : Hid (∀ i j, i < j → j < l.length → ltS (sAt l i) (sAt l j)) := fun i j hij hj => AscS.get hA hij hj
  have HL2 : Hid (2 ≤ l.length) := near_two (b := b) (by omega) hmem
  have HT1 : Hid (∀ i, i < l.length → T s (sAt l i) = 1 ∧ digB (sAt l i) 36 12 = true) := fun i hi => by
    have h := (hmem _).1 (sAt_mem hi)
    exact ⟨(T_one _ _).2 (near_E1 (by omega) h), HND.out _ h⟩
  have HQ : Hid (q ∈ l ↔ T s q = 1) := by
    unfold Hid
    rw [hmem, T_one]
    exact ⟨near_E1 (by omega), HE1.out⟩
  have HO : Hid (∀ wr, Below w3.heap.size w3 wr → RS wr v l) := fun wr h => OV.read (OS.later ho h)
  obtain ⟨a1, c1, rfl⟩ := ho.read.slice
  have HLT0 : Hid (∀ w1 v1, RS w1 v1 [s, sAt l 0, sAt l 1] → Calls Try.prog 29 #[v1] w1 fun e w' => e = .returned (.tuple #[.int .i64 1, .bool true]) ∧ Below w1.heap.size w1 w') := fun w1 v1 h => by
    have hl := HL2.out
    have g0 := HT1.out 0 (by omega)
    have g1 := HT1.out 1 (by omega)
    have hne : sAt l 0 ≠ sAt l 1 := fun e => by
      have := hasc.out 0 1 (by omega) (by omega)
      rw [e] at this
      exact ltS.irrefl _ this
    rw [← lt_three HDA36.out g0.2 g1.2 g0.1 g1.1 hne]
    refine implLT_any v1 _ w1 h (by simp) fun k hk => ?_
    have z0 := digB_size g0.2
    have z1 := digB_size g1.2
    match k, hk with
    | 0, _ => show s.size ≤ _; omega
    | 1, _ => show (sAt l 0).size ≤ _; omega
    | 2, _ => show (sAt l 1).size ≤ _; omega
  have HB0 := Lib.hid (fun w' (h : Below w3.heap.size w3 w') => (hb.trans (hb1.mono hz2)).trans (h.mono (Nat.le_trans hz2 hb1.size)))
  have hb := Below.refl w3.heap.size w3
  clear hb1 ho hA hm hmem hnw
  go_wp2_with fail
  go_loopw [10, 11] (fun fv iv wr => ∃ (i : Nat) (f : Bool), i ≤ l.length ∧ iv = .int .i64 i ∧ fv = .bool f ∧ Hid (f = true ↔ q ∈ l.take i) ∧ Below w3.heap.size w3 wr) (fun _ iv _ => l.length - (intOf iv).toNat)
  case atStart => exact ⟨0, false, Nat.zero_le _, rfl, rfl, Lib.hid (by simp), hb⟩
  case round =>
    clear hb
    obtain ⟨i, f, hi, rfl, rfl, HF, hb⟩ := hrel
    by_cases hlt : i < l.length
    · obtain ⟨g, off, rfl, hg, hc⟩ := (HO.out _ hb).at i hlt
      have ht := HT1.out i hlt
      have HTY : Hid (∀ wx, Calls Try.prog 21 #[.string s, .string (sAt l i)] wx fun e w' => e = .returned (.tuple #[.int .i64 1, .bool true]) ∧ Below wx.heap.size wx w') := fun wx => by
        have := tyY s (sAt l i) wx HDA (Lib.hid (by
          have h := ht.2
          unfold digB at h ⊢
          simp only [Bool.and_eq_true, decide_eq_true_eq] at h ⊢
          refine ⟨⟨h.1.1, by omega⟩, h.2⟩))
        rw [ht.1] at this; exact this
      have hlen : (i : Int) < (l.length : Int) := by omega
      by_cases hi0 : i = 0
      · obtain ⟨x, hxe⟩ : ∃ x, sAt l i = x := ⟨_, rfl⟩
        have HXE := Lib.hid hxe.symm
        rw [hxe] at hc HTY ht
        have hg0 : ¬ 0 < i := by omega
        have hg1 : ¬ (0 : Int) < (i : Int) := by omega
        have hg2 : decide (0 < i) = false := decide_eq_false hg0
        clear hi0 ht hxe
        go_wp2_with fail
        refine (HTY.out _).mono ?_
        rintro e w4 ⟨rfl, hb1⟩
        replace hc := (hb1.cell (p := ⟨g, off + i, none⟩) (Nat.lt_of_lt_of_le hg (Nat.le_refl _))).trans hc
        have hg4 : g < w4.heap.size := Nat.lt_of_lt_of_le hg hb1.size
        replace hb := hb.trans (hb1.mono hb.size)
        clear hb1
        go_wp2_with fail
        go_quiet (fail)
        have hb9 := below_drewN hb nq
        have hc9 := ((below_drewN (Below.refl w4.heap.size w4) nq).cell (p := ⟨g, off + i, none⟩) hg4).trans hc
        clear hb hc
        generalize w4.drewN nq = w9 at *
        cases f with
        | true =>
          have HF2 : Hid (true = true ↔ q ∈ l.take (i + 1)) := by
            unfold Hid
            rw [mem_takeS q hlt]
            exact ⟨fun _ => .inl (HF.out.1 rfl), fun _ => rfl⟩
          go_wp2_with fail
          go_roundw
          case rel => exact ⟨i + 1, true, by omega, by go_num, rfl, HF2, hb9⟩
          case measure => first | (simp [intOf]; done) | (simp [intOf]; omega)
        | false =>
          by_cases he : x = q
          · have HF2 : Hid (true = true ↔ q ∈ l.take (i + 1)) := by
              unfold Hid
              rw [mem_takeS q hlt]
              exact ⟨fun _ => .inr (by rw [← he, ← HXE.out]), fun _ => rfl⟩
            have hq := str_eq q
            subst he
            go_wp2_with fail
            go_roundw
            case rel => exact ⟨i + 1, true, by omega, by go_num, rfl, HF2, hb9⟩
            case measure => first | (simp [intOf]; done) | (simp [intOf]; omega)
          · have HF2 : Hid (false = true ↔ q ∈ l.take (i + 1)) := by
              unfold Hid
              rw [mem_takeS q hlt]
              refine ⟨fun h => (by cases h), fun h => ?_⟩
              rcases h with h | h
              · exact HF.out.2 h
              · exact absurd (HXE.out.trans h.symm) he
            have hq := str_ne he
            go_wp2_with fail
            go_roundw
            case rel => exact ⟨i + 1, false, by omega, by go_num, rfl, HF2, hb9⟩
            case measure => first | (simp [intOf]; done) | (simp [intOf]; omega)
      · obtain ⟨j, hj⟩ : ∃ j, i = j + 1 := ⟨i - 1, by omega⟩
        obtain ⟨g', off', h1, _, hcj⟩ := (HO.out _ hb).at j (by omega)
        simp only [Option.some.injEq, Addr.mk.injEq, and_true] at h1
        obtain ⟨rfl, rfl⟩ := h1
        have hls := hasc.out j i (by omega) hlt
        obtain ⟨x, hxe⟩ : ∃ x, sAt l i = x := ⟨_, rfl⟩
        obtain ⟨y, hye⟩ : ∃ y, sAt l j = y := ⟨_, rfl⟩
        have HXE := Lib.hid hxe.symm
        rw [hxe] at hc HTY ht hls
        rw [hye] at hcj hls
        have hl1 : Op.bytesLess x.toList y.toList = false := by
          rw [lt_bytes]
          exact decide_eq_false fun h => ltS.irrefl _ (h.trans hls)
        have hl3 := str_ne (s := x) (t := y) (fun e => by rw [e] at hls; exact ltS.irrefl _ hls)
        have hg0 : 0 < i := by omega
        have hg1 : (0 : Int) < (i : Int) := by omega
        have hg2 : decide (0 < i) = true := decide_eq_true hg0
        have hw8 : IntKind.i64.wrap ((i : Int) - 1) = (j : Int) := by rw [show (i : Int) - 1 = (j : Int) by omega]; exact IntWalk.i64_in _ (by omega)
        have k6 : (j : Int) < (l.length : Int) := by omega
        have k7 : (0 : Int) ≤ (j : Int) := by omega
        clear hi0 ht hxe hye hls hj
        go_wp2_with fail
        refine (HTY.out _).mono ?_
        rintro e w4 ⟨rfl, hb1⟩
        replace hc := (hb1.cell (p := ⟨g, off + i, none⟩) (Nat.lt_of_lt_of_le hg (Nat.le_refl _))).trans hc
        replace hcj := (hb1.cell (p := ⟨g, off + j, none⟩) (Nat.lt_of_lt_of_le hg (Nat.le_refl _))).trans hcj
        have hg4 : g < w4.heap.size := Nat.lt_of_lt_of_le hg hb1.size
        replace hb := hb.trans (hb1.mono hb.size)
        clear hb1
        go_wp2_with fail
        go_quiet (fail)
        have hb9 := below_drewN hb nq
        have hc9 := ((below_drewN (Below.refl w4.heap.size w4) nq).cell (p := ⟨g, off + i, none⟩) hg4).trans hc
        clear hb hc hcj hw8
        generalize w4.drewN nq = w9 at *
        cases f with
        | true =>
          have HF2 : Hid (true = true ↔ q ∈ l.take (i + 1)) := by
            unfold Hid
            rw [mem_takeS q hlt]
            exact ⟨fun _ => .inl (HF.out.1 rfl), fun _ => rfl⟩
          go_wp2_with fail
          go_roundw
          case rel => exact ⟨i + 1, true, by omega, by go_num, rfl, HF2, hb9⟩
          case measure => first | (simp [intOf]; done) | (simp [intOf]; omega)
        | false =>
          by_cases he : x = q
          · have HF2 : Hid (true = true ↔ q ∈ l.take (i + 1)) := by
              unfold Hid
              rw [mem_takeS q hlt]
              exact ⟨fun _ => .inr (by rw [← he, ← HXE.out]), fun _ => rfl⟩
            have hq := str_eq q
            subst he
            go_wp2_with fail
            go_roundw
            case rel => exact ⟨i + 1, true, by omega, by go_num, rfl, HF2, hb9⟩
            case measure => first | (simp [intOf]; done) | (simp [intOf]; omega)
          · have HF2 : Hid (false = true ↔ q ∈ l.take (i + 1)) := by
              unfold Hid
              rw [mem_takeS q hlt]
              refine ⟨fun h => (by cases h), fun h => ?_⟩
              rcases h with h | h
              · exact HF.out.2 h
              · exact absurd (HXE.out.trans h.symm) he
            have hq := str_ne he
            go_wp2_with fail
            go_roundw
            case rel => exact ⟨i + 1, false, by omega, by go_num, rfl, HF2, hb9⟩
            case measure => first | (simp [intOf]; done) | (simp [intOf]; omega)
    · obtain rfl : i = l.length := by omega
      rw [List.take_length] at HF
      have HFT : Hid (f = true ↔ T s q = 1) := HF.out.trans HQ.out
      have HTQ := Lib.hid (fun wx => tyY s q wx HDA HDB)
      generalize T s q = tx at *
      cases f with
      | true =>
        have htx : tx = 1 := HFT.out.1 rfl
        subst htx
        clear HF HFT
        go_wp2_with fail
        refine (HTQ.out _).mono ?_
        rintro e w4 ⟨rfl, hb1⟩
        replace hb := hb.trans (hb1.mono hb.size)
        clear hb1
        generalize w4 = wr at *
        have hl2 : ¬ (l.length : Int) < 2 := by have := HL2.out; omega
        obtain ⟨g, off, rfl, hg, hc0⟩ := (HO.out _ hb).at 0 (by have := HL2.out; omega)
        obtain ⟨g', off', h1, _, hc1⟩ := (HO.out _ hb).at 1 (by have := HL2.out; omega)
        simp only [Option.some.injEq, Addr.mk.injEq, and_true] at h1
        obtain ⟨rfl, rfl⟩ := h1
        have k1 : (1 : Int) < (l.length : Int) := by omega
        have k0 : (0 : Int) < (l.length : Int) := by omega
        have k1' : 1 < l.length := by omega
        have k0' : 0 < l.length := by omega
        have HLT := HLT0
        rw [Nat.add_zero] at hc0
        generalize sAt l 0 = x0 at *
        generalize sAt l 1 = x1 at *
        have hz := hb.size
        have hbA : Below wr.heap.size wr (wr.alloc (.cells #[.string s, .string x0, .string x1] 9)).drew := ((Below.refl _ _).alloc (Nat.le_refl _) _).drew
        have e0 := (hbA.cell (p := ⟨g, off, none⟩) hg).trans hc0
        have e1 := (hbA.cell (p := ⟨g, off + 1, none⟩) hg).trans hc1
        have hg9 := Nat.lt_of_lt_of_le hg hbA.size
        have HR := Lib.hid ((HLT.out _ _ (OV.lit (B := wr.heap.size) 9 wr [.string s, .string x0, .string x1] (Nat.le_refl _) (by simp [maxLen])).drew.read).mono (fun e w12 (h : _ ∧ Below (wr.alloc (.cells #[.string s, .string x0, .string x1] 9)).drew.heap.size _ w12) => (⟨h.1, (hbA.trans (h.2.mono hbA.size)), (h.2.cell (p := ⟨g, off, none⟩) hg9).trans e0, (h.2.cell (p := ⟨g, off + 1, none⟩) hg9).trans e1⟩ : e = .returned (.tuple #[.int .i64 1, .bool true]) ∧ Below wr.heap.size wr w12 ∧ w12.cell? ⟨g, off, none⟩ = some (.string x0) ∧ w12.cell? ⟨g, off + 1, none⟩ = some (.string x1))))
        clear e0 e1 hbA HLT
        go_wp2_with fail
        go_region_held3 (fun w' => w'.cell? ⟨g, off, none⟩ = some (.string x0) ∧ w'.cell? ⟨g, off + 1, none⟩ = some (.string x1)) (go_keep)
          ((go_at_call 29; refine HR.out.mono ?_; rintro e w12 ⟨rfl, hb12, hc0', hc1'⟩))
        have hfin := HB0.out _ (hb.trans (hb12.mono hz))
        go_wp2_with fail
        go_ret
        exact ⟨rfl, hfin⟩
      | false =>
        have htx : ¬ (tx : Int) = 1 := fun e => by have := HFT.out.2 (by omega); cases this
        have e2 : ((tx : Int) == 1) = false := by simp; omega
        clear HF HFT
        go_wp2_with fail
        refine (HTQ.out _).mono ?_
        rintro e w4 ⟨rfl, hb1⟩
        replace hb := hb.trans (hb1.mono hb.size)
        clear hb1
        generalize w4 = wr at *
        have hl2 : ¬ (l.length : Int) < 2 := by have := HL2.out; omega
        obtain ⟨g, off, rfl, hg, hc0⟩ := (HO.out _ hb).at 0 (by have := HL2.out; omega)
        obtain ⟨g', off', h1, _, hc1⟩ := (HO.out _ hb).at 1 (by have := HL2.out; omega)
        simp only [Option.some.injEq, Addr.mk.injEq, and_true] at h1
        obtain ⟨rfl, rfl⟩ := h1
        have k1 : (1 : Int) < (l.length : Int) := by omega
        have k0 : (0 : Int) < (l.length : Int) := by omega
        have k1' : 1 < l.length := by omega
        have k0' : 0 < l.length := by omega
        have HLT := HLT0
        rw [Nat.add_zero] at hc0
        generalize sAt l 0 = x0 at *
        generalize sAt l 1 = x1 at *
        have hz := hb.size
        have hbA : Below wr.heap.size wr (wr.alloc (.cells #[.string s, .string x0, .string x1] 9)).drew := ((Below.refl _ _).alloc (Nat.le_refl _) _).drew
        have e0 := (hbA.cell (p := ⟨g, off, none⟩) hg).trans hc0
        have e1 := (hbA.cell (p := ⟨g, off + 1, none⟩) hg).trans hc1
        have hg9 := Nat.lt_of_lt_of_le hg hbA.size
        have HR := Lib.hid ((HLT.out _ _ (OV.lit (B := wr.heap.size) 9 wr [.string s, .string x0, .string x1] (Nat.le_refl _) (by simp [maxLen])).drew.read).mono (fun e w12 (h : _ ∧ Below (wr.alloc (.cells #[.string s, .string x0, .string x1] 9)).drew.heap.size _ w12) => (⟨h.1, (hbA.trans (h.2.mono hbA.size)), (h.2.cell (p := ⟨g, off, none⟩) hg9).trans e0, (h.2.cell (p := ⟨g, off + 1, none⟩) hg9).trans e1⟩ : e = .returned (.tuple #[.int .i64 1, .bool true]) ∧ Below wr.heap.size wr w12 ∧ w12.cell? ⟨g, off, none⟩ = some (.string x0) ∧ w12.cell? ⟨g, off + 1, none⟩ = some (.string x1))))
        clear e0 e1 hbA HLT
        go_wp2_with fail
        go_region_held3 (fun w' => w'.cell? ⟨g, off, none⟩ = some (.string x0) ∧ w'.cell? ⟨g, off + 1, none⟩ = some (.string x1)) (go_keep)
          ((go_at_call 29; refine HR.out.mono ?_; rintro e w12 ⟨rfl, hb12, hc0', hc1'⟩))
        have hfin := HB0.out _ (hb.trans (hb12.mono hz))
        go_wp2_with fail
        go_ret
        exact ⟨rfl, hfin⟩
end Go.Proofs.Ytgagjmnmfgfpfaa
