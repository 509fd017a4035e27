/- The law FnWrong: for every input. -/
import Derived.Test.YtgagjmnmfgfpfaaWwL
import Derived.Test.YtgagjmnmfgfpfaaDrW
import Derived.Test.YtgagjmnmfgfpfaaR8
namespace Go.Proofs.Ytgagjmnmfgfpfaa
open Go.RowKit

theorem sAt_memW {l : List ByteArray} {i : Nat} (h : i < l.length) : sAt l i ∈ l := by
  unfold sAt; simp [h]
set_option maxHeartbeats 1000000 in
theorem hasText_yes (v : Value) (l : List ByteArray) (s : ByteArray) (w : World) (hx : RS w v l) (hm : l.length ≤ 1099511627776) (hs : s ∈ l) :
    Calls Try.prog 38 #[v, .string s] w fun e w' => e = .returned (.bool true) ∧ w = w' := by
  obtain ⟨a, c, rfl⟩ := hx.slice
  have HS := Lib.hid hs
  clear hs
  go_enter Try.func38, Try.ntmps38
  go_wp2_with fail
  go_loop [5] (fun iv => ∃ k : Nat, k ≤ l.length ∧ iv = .int .i64 k ∧ Hid (s ∈ l.drop k)) (fun iv => l.length - (intOf iv).toNat)
  case atStart => exact ⟨0, Nat.zero_le _, rfl, Lib.hid (by simpa using HS.out)⟩
  case round =>
    obtain ⟨k, hk, rfl, HK⟩ := hrel
    by_cases hlt : k < l.length
    · obtain ⟨g, off, rfl, hg, hc⟩ := hx.at k hlt
      by_cases he : sAt l k = s
      · have hq := str_eq s
        rw [he] at hc
        clear he
        go_wp2_with fail
        go_ret
        exact ⟨rfl, rfl⟩
      · have hq := str_ne he
        have HK2 : Hid (s ∈ l.drop (k + 1)) := by
          have h := HK.out
          rw [List.drop_eq_getElem_cons hlt, List.mem_cons] at h
          rcases h with h | h
          · exact absurd (by unfold sAt; simp [hlt, h]) he
          · exact h
        clear he
        generalize sAt l k = x at *
        go_wp2_with fail
        go_round
        case rel => exact ⟨k + 1, by omega, by go_num, HK2⟩
        case measure => first | (simp [intOf]; done) | (simp [intOf]; omega)
    · exfalso
      have h := HK.out
      rw [List.drop_of_length_le (by omega)] at h
      simp at h
set_option maxHeartbeats 1000000 in
theorem isWord_any (s : ByteArray) (b : Int) (w : World) (hs : s.size ≤ 1048576) :
    Calls Try.prog 39 #[.string s, .int .i64 b] w fun e w' => e = .returned (.bool (digB s b 20)) ∧ Below w.heap.size w w' := by
  have HQ := Lib.hid (digitsOf_any s b 20 w hs)
  go_enter Try.func39, Try.ntmps39
  go_wp2_with (go_at_call 61; refine HQ.out.mono ?_; rintro e w1 ⟨v, rfl, ho, hb⟩)
  go_ret
  exact ⟨rfl, hb⟩
/-- What FnWrong wants of each word of a list. -/
def WrE (s : ByteArray) (b k : Int) (t : ByteArray) : Prop := t ≠ s ∧ t.size = s.size ∧ digB t b 20 = true ∧ kOk k b = true ∧ WwP k b (dgs t) s
set_option maxHeartbeats 8000000 in
set_option maxRecDepth 100000 in
theorem lawWrong_any (v0 v1 : Value) (xs ys : List Int) (w : World) (hx : RK .u8 w v0 xs ∧ (∀ x ∈ xs, (Lit.int .u8 x).wf = true) ∧ xs.length ≤ maxLen)
    (hy : RK .u8 w v1 ys ∧ (∀ x ∈ ys, (Lit.int .u8 x).wf = true) ∧ ys.length ≤ maxLen) :
    Calls Try.prog 12 #[v0, v1] w fun x w' => x = .returned (.bool true) ∧ Below w.heap.size w w' := by
  obtain ⟨hx, hxw, hxm0⟩ := hx
  obtain ⟨hy, hyw, hym0⟩ := hy
  obtain ⟨a, c, rfl⟩ := hx.slice
  obtain ⟨a', c', rfl⟩ := hy.slice
  cases hs : long8 xs.length ys.length
  case true =>
    have HS := Lib.hid hs
    clear hx hy hs
    go_enter Try.func12, Try.ntmps12
    go_wp2_with fail
    refine (r8Long_any _ _ _ _ _ _ _).mono ?_
    rintro e w' ⟨rfl, rfl⟩
    rw [HS.out]
    go_wp2_with fail
    go_ret
    exact ⟨rfl, Below.refl _ _⟩
  have hm48 : xs.length ≤ 48 ∧ ys.length ≤ 48 := by unfold long8 at hs; simp at hs; omega
  obtain ⟨hxm, hym⟩ := hm48
  have HS := Lib.hid hs
  clear hs
  have hb := Below.refl w.heap.size w
  have HX : Hid (∀ wr, Below w.heap.size w wr → RK .u8 wr (.slice a xs.length c) xs) := fun wr h => hx.later h
  go_enter Try.func12, Try.ntmps12
  go_wp2_with fail
  refine (r8Long_any _ _ _ _ _ _ _).mono ?_
  rintro e w' ⟨rfl, rfl⟩
  rw [HS.out]
  go_wp2_with fail
  refine (r8At_any _ _ _ _ _ _ _ hx hxw hxm0 (by omega) (by omega)).mono ?_
  rintro e w' ⟨r, rfl, ⟨hr0, hr3⟩, rfl⟩
  obtain ⟨n, rfl⟩ := Int.eq_ofNat_of_zero_le hr0
  obtain ⟨b, hbe⟩ : ∃ b : Nat, (b : Int) = 2 + (n : Int) := ⟨2 + n, by omega⟩
  have hb36 : 2 ≤ b ∧ b ≤ 11 := by omega
  have hwb : IntKind.i64.wrap (2 + (n : Int)) = (b : Int) := by rw [← hbe]; exact IntWalk.i64_in _ (by omega)
  clear hbe
  go_wp2_with fail
  clear hwb hr0 hr3
  refine (r8At_any _ _ _ _ _ _ _ hy hyw hym0 (by omega) (by omega)).mono ?_
  rintro e w' ⟨k, rfl, ⟨hk0, hk6⟩, rfl⟩
  clear hx hy
  go_wp2_with fail
  refine (r8Word_any _ xs b 6 _ (HX.out _ hb) hxw (by omega) (by omega) (by omega)).mono ?_
  rintro e w1 ⟨as1, rfl, HA, hal, hb1⟩
  have HDA := Lib.hid (wOf_dig (m := 20) (by omega) HA.out (by omega))
  have hsz : (wOf as1).size ≤ 6 := by rw [wOf_size]; exact hal
  generalize wOf as1 = s at *
  replace hb := hb.trans (hb1.mono hb.size)
  clear hb1
  clear HA hal HX HS hxm hym hxm0 hym0 hxw hyw
  have HWW := Lib.hid (implWw_any s b k w1 (by omega))
  have HWB : Hid (wwB s b k = kOk k b) := by unfold Hid wwB; rw [HDA.out, Bool.true_and]
  have HKO : Hid (kOk k b = (decide (k < 5) || decide (10 ≤ (b : Int)))) := by
    unfold Hid kOk inB
    by_cases h : k = 5
    · subst h; simp
    · have h1 : decide (k ≠ 5) = true := by simpa using h
      rw [h1, decide_eq_true (show (0 : Int) ≤ k by omega), decide_eq_true (show k ≤ 5 by omega), decide_eq_true (show k < 5 by omega)]; rfl
  go_wp2_with fail
  refine HWW.out.mono ?_
  rintro e w3 ⟨v, l, rfl, ho, hA, hm, hlm, hb1⟩
  have hz2 := hb.size
  have HE : Hid (∀ i, i < l.length → WrE s b k (sAt l i)) := fun i hi => by
    have h := (hm _).1 (sAt_memW hi)
    have hk := HWB.out.symm.trans h.1
    obtain ⟨l1, l2, l3, l4⟩ := h.2.law HDA.out hk
    exact ⟨l3, l2, l1, hk, l4⟩
  have HAS : Hid (∀ i j, i < j → j < l.length → ltS (sAt l i) (sAt l j)) := fun i j hij hj => AscS.get hA hij hj
  have HC : Hid (k = 0 → (l.length : Int) = s.size * ((b : Int) - 1)) := fun h => by
    subst h
    refine WwP.count HDA.out hA fun t => ?_
    rw [hm t, HWB.out, HKO.out]; simp
  have HO : Hid (∀ wr, Below w3.heap.size w3 wr → RS wr v l) := fun wr h => OV.read (OS.later ho h)
  have HB0 := Lib.hid (fun w' (h : Below w3.heap.size w3 w') => (hb.trans (hb1.mono hz2)).trans (h.mono (Nat.le_trans hz2 hb1.size)))
  have hb := Below.refl w3.heap.size w3
  rw [HWB.out, HKO.out]
  obtain ⟨a1, c1, rfl⟩ := ho.read.slice
  clear hb1 ho hA hm HWW hz2
  have hbi : (b : Int) ≤ 11 := by omega
  by_cases h5 : k < 5
  · rw [show (decide (k < 5) || decide (10 ≤ (b : Int))) = true by rw [decide_eq_true h5]; rfl]
    go_wp2_with fail
    go_loopw [10] (fun iv wr => ∃ i : Nat, i ≤ l.length ∧ iv = .int .i64 i ∧ Below w3.heap.size w3 wr) (fun iv _ => l.length - (intOf iv).toNat)
    case atStart => exact ⟨0, Nat.zero_le _, rfl, hb⟩
    case round =>
      clear hb
      obtain ⟨i, hi, rfl, hb⟩ := hrel
      by_cases hlt : i < l.length
      · obtain ⟨g, off, rfl, hg, hc⟩ := (HO.out _ hb).at i hlt
        have HXX0 := HE.out i hlt
        have hlen : (i : Int) < (l.length : Int) := by omega
        by_cases hi0 : i = 0
        · obtain ⟨x, hxe⟩ : ∃ x, sAt l i = x := ⟨_, rfl⟩
          rw [hxe] at hc HXX0
          have HXX := Lib.hid HXX0
          have hne := str_ne (s := x) (t := s) HXX0.1
          have hsz2 : ((x.size : Int) != (s.size : Int)) = false := by rw [HXX0.2.1]; simp
          have hx6 : x.size ≤ 6 := by rw [HXX0.2.1]; exact hsz
          have hg0 : ¬ 0 < i := by omega
          have hg1 : ¬ (0 : Int) < (i : Int) := by omega
          have hg2 : decide (0 < i) = false := decide_eq_false hg0
          have HW2 := Lib.hid (fun wx => implWw_any x b k wx (by omega))
          clear hi0 hxe HXX0
          go_wp2_with fail
          refine (HW2.out _).mono ?_
          rintro e w4 ⟨v2, l2, rfl, ho2, hA2, hm2, hl2, hb1⟩
          have hw2 : wwB x b k = true := by unfold wwB; rw [HXX.out.2.2.1, HXX.out.2.2.2.1]; rfl
          rw [hw2]
          have hmem2 : s ∈ l2 := (hm2 s).2 ⟨hw2, HXX.out.2.2.2.2⟩
          obtain ⟨a2, c2, rfl⟩ := ho2.read.slice
          have HHT : Hid (∀ n, Calls Try.prog 38 #[.slice a2 l2.length c2, .string s] (w4.drewN n) fun e w' => e = .returned (.bool true) ∧ w4.drewN n = w') := fun n => hasText_yes _ l2 s _ ((OS.later ho2 (below_drewN (Below.refl _ _) n)).read) (by omega) hmem2
          replace hc := (hb1.cell (p := ⟨g, off + i, none⟩) (Nat.lt_of_lt_of_le hg (Nat.le_refl _))).trans hc
          skip
          clear ho2 hA2 hm2 hmem2 hl2 hw2
          replace hb := hb.trans (hb1.mono hb.size)
          clear hb1
          go_wp2_with fail
          go_quiet ((go_at_call 38; exact quiet_same (HHT.out _)))
          have hb9 := below_drewN hb nq
          clear hb hc
          generalize w4.drewN nq = w9 at *
          go_wp2_with fail
          go_roundw
          case rel => exact ⟨i + 1, by omega, by go_num, hb9⟩
          case measure => first | (simp [intOf]; done) | (simp [intOf]; omega)
        · obtain ⟨j, hj⟩ : ∃ j, i = j + 1 := ⟨i - 1, by omega⟩
          obtain ⟨g', off', h1, _, hcj⟩ := (HO.out _ hb).at j (by omega)
          simp only [Option.some.injEq, Addr.mk.injEq, and_true] at h1
          obtain ⟨rfl, rfl⟩ := h1
          have hls := HAS.out j i (by omega) hlt
          obtain ⟨x, hxe⟩ : ∃ x, sAt l i = x := ⟨_, rfl⟩
          obtain ⟨y, hye⟩ : ∃ y, sAt l j = y := ⟨_, rfl⟩
          rw [hxe] at hc HXX0 hls
          rw [hye] at hcj hls
          have HXX := Lib.hid HXX0
          have hne := str_ne (s := x) (t := s) HXX0.1
          have hsz2 : ((x.size : Int) != (s.size : Int)) = false := by rw [HXX0.2.1]; simp
          have hx6 : x.size ≤ 6 := by rw [HXX0.2.1]; exact hsz
          have hl1 : Op.bytesLess x.toList y.toList = false := by
            rw [lt_bytes]
            exact decide_eq_false fun h => ltS.irrefl _ (h.trans hls)
          have hl3 := str_ne (s := x) (t := y) (fun e => by rw [e] at hls; exact ltS.irrefl _ hls)
          have hg0 : 0 < i := by omega
          have hg1 : (0 : Int) < (i : Int) := by omega
          have hg2 : decide (0 < i) = true := decide_eq_true hg0
          have hw8 : IntKind.i64.wrap ((i : Int) - 1) = (j : Int) := by rw [show (i : Int) - 1 = (j : Int) by omega]; exact IntWalk.i64_in _ (by omega)
          have k6 : (j : Int) < (l.length : Int) := by omega
          have k7 : (0 : Int) ≤ (j : Int) := by omega
          have HW2 := Lib.hid (fun wx => implWw_any x b k wx (by omega))
          clear hi0 hxe hye hls hj HXX0
          go_wp2_with fail
          refine (HW2.out _).mono ?_
          rintro e w4 ⟨v2, l2, rfl, ho2, hA2, hm2, hl2, hb1⟩
          have hw2 : wwB x b k = true := by unfold wwB; rw [HXX.out.2.2.1, HXX.out.2.2.2.1]; rfl
          rw [hw2]
          have hmem2 : s ∈ l2 := (hm2 s).2 ⟨hw2, HXX.out.2.2.2.2⟩
          obtain ⟨a2, c2, rfl⟩ := ho2.read.slice
          have HHT : Hid (∀ n, Calls Try.prog 38 #[.slice a2 l2.length c2, .string s] (w4.drewN n) fun e w' => e = .returned (.bool true) ∧ w4.drewN n = w') := fun n => hasText_yes _ l2 s _ ((OS.later ho2 (below_drewN (Below.refl _ _) n)).read) (by omega) hmem2
          replace hc := (hb1.cell (p := ⟨g, off + i, none⟩) (Nat.lt_of_lt_of_le hg (Nat.le_refl _))).trans hc
          replace hcj := (hb1.cell (p := ⟨g, off + j, none⟩) (Nat.lt_of_lt_of_le hg (Nat.le_refl _))).trans hcj
          clear ho2 hA2 hm2 hmem2 hl2 hw2
          replace hb := hb.trans (hb1.mono hb.size)
          clear hb1
          go_wp2_with fail
          go_quiet ((go_at_call 38; exact quiet_same (HHT.out _)))
          have hb9 := below_drewN hb nq
          clear hb hc
          generalize w4.drewN nq = w9 at *
          go_wp2_with fail
          go_roundw
          case rel => exact ⟨i + 1, by omega, by go_num, hb9⟩
          case measure => first | (simp [intOf]; done) | (simp [intOf]; omega)
      · obtain rfl : i = l.length := by omega
        have hfin := Lib.hid (fun w' (h : Below wr.heap.size wr w') => HB0.out _ (hb.trans (h.mono hb.size)))
        by_cases hk0' : k = 0
        · have HCC := HC.out hk0'
          obtain ⟨b1, hb1⟩ : ∃ b1 : Nat, (b1 : Int) = (b : Int) - 1 := ⟨b - 1, by omega⟩
          have hw1 : IntKind.i64.wrap ((b : Int) - 1) = (b1 : Int) := by rw [← hb1]; exact IntWalk.i64_in _ (by omega)
          have hw2 : IntKind.i64.wrap ((s.size : Int) * (b1 : Int)) = (l.length : Int) := by rw [hb1, ← HCC]; exact IntWalk.i64_in _ (by omega)
          have hkb : (k == 0) = true := by simp [hk0']
          clear HCC hb1 hk0'
          go_wp2_with fail
          go_ret
          exact ⟨rfl, hfin.out _ (Below.refl _ _)⟩
        · have hkb : (k == 0) = false := by simp [hk0']
          have HIW := Lib.hid (isWord_any s b wr (by omega))
          clear hk0'
          go_wp2_with (go_at_call 39; refine HIW.out.mono ?_; rintro e w4 ⟨rfl, hb4⟩; rw [HDA.out])
          go_ret
          exact ⟨rfl, hfin.out _ hb4⟩
  · by_cases h10 : 10 ≤ (b : Int)
    · rw [show (decide (k < 5) || decide (10 ≤ (b : Int))) = true by rw [decide_eq_true h10, Bool.or_true]]
      have h10N : 10 ≤ b := by omega
      go_wp2_with fail
      go_loopw [10] (fun iv wr => ∃ i : Nat, i ≤ l.length ∧ iv = .int .i64 i ∧ Below w3.heap.size w3 wr) (fun iv _ => l.length - (intOf iv).toNat)
      case atStart => exact ⟨0, Nat.zero_le _, rfl, hb⟩
      case round =>
        clear hb
        obtain ⟨i, hi, rfl, hb⟩ := hrel
        by_cases hlt : i < l.length
        · obtain ⟨g, off, rfl, hg, hc⟩ := (HO.out _ hb).at i hlt
          have HXX0 := HE.out i hlt
          have hlen : (i : Int) < (l.length : Int) := by omega
          by_cases hi0 : i = 0
          · obtain ⟨x, hxe⟩ : ∃ x, sAt l i = x := ⟨_, rfl⟩
            rw [hxe] at hc HXX0
            have HXX := Lib.hid HXX0
            have hne := str_ne (s := x) (t := s) HXX0.1
            have hsz2 : ((x.size : Int) != (s.size : Int)) = false := by rw [HXX0.2.1]; simp
            have hx6 : x.size ≤ 6 := by rw [HXX0.2.1]; exact hsz
            have hg0 : ¬ 0 < i := by omega
            have hg1 : ¬ (0 : Int) < (i : Int) := by omega
            have hg2 : decide (0 < i) = false := decide_eq_false hg0
            have HW2 := Lib.hid (fun wx => implWw_any x b k wx (by omega))
            clear hi0 hxe HXX0
            go_wp2_with fail
            refine (HW2.out _).mono ?_
            rintro e w4 ⟨v2, l2, rfl, ho2, hA2, hm2, hl2, hb1⟩
            have hw2 : wwB x b k = true := by unfold wwB; rw [HXX.out.2.2.1, HXX.out.2.2.2.1]; rfl
            rw [hw2]
            have hmem2 : s ∈ l2 := (hm2 s).2 ⟨hw2, HXX.out.2.2.2.2⟩
            obtain ⟨a2, c2, rfl⟩ := ho2.read.slice
            have HHT : Hid (∀ n, Calls Try.prog 38 #[.slice a2 l2.length c2, .string s] (w4.drewN n) fun e w' => e = .returned (.bool true) ∧ w4.drewN n = w') := fun n => hasText_yes _ l2 s _ ((OS.later ho2 (below_drewN (Below.refl _ _) n)).read) (by omega) hmem2
            replace hc := (hb1.cell (p := ⟨g, off + i, none⟩) (Nat.lt_of_lt_of_le hg (Nat.le_refl _))).trans hc
            skip
            clear ho2 hA2 hm2 hmem2 hl2 hw2
            replace hb := hb.trans (hb1.mono hb.size)
            clear hb1
            go_wp2_with fail
            go_quiet ((go_at_call 38; exact quiet_same (HHT.out _)))
            have hb9 := below_drewN hb nq
            clear hb hc
            generalize w4.drewN nq = w9 at *
            go_wp2_with fail
            go_roundw
            case rel => exact ⟨i + 1, by omega, by go_num, hb9⟩
            case measure => first | (simp [intOf]; done) | (simp [intOf]; omega)
          · obtain ⟨j, hj⟩ : ∃ j, i = j + 1 := ⟨i - 1, by omega⟩
            obtain ⟨g', off', h1, _, hcj⟩ := (HO.out _ hb).at j (by omega)
            simp only [Option.some.injEq, Addr.mk.injEq, and_true] at h1
            obtain ⟨rfl, rfl⟩ := h1
            have hls := HAS.out j i (by omega) hlt
            obtain ⟨x, hxe⟩ : ∃ x, sAt l i = x := ⟨_, rfl⟩
            obtain ⟨y, hye⟩ : ∃ y, sAt l j = y := ⟨_, rfl⟩
            rw [hxe] at hc HXX0 hls
            rw [hye] at hcj hls
            have HXX := Lib.hid HXX0
            have hne := str_ne (s := x) (t := s) HXX0.1
            have hsz2 : ((x.size : Int) != (s.size : Int)) = false := by rw [HXX0.2.1]; simp
            have hx6 : x.size ≤ 6 := by rw [HXX0.2.1]; exact hsz
            have hl1 : Op.bytesLess x.toList y.toList = false := by
              rw [lt_bytes]
              exact decide_eq_false fun h => ltS.irrefl _ (h.trans hls)
            have hl3 := str_ne (s := x) (t := y) (fun e => by rw [e] at hls; exact ltS.irrefl _ hls)
            have hg0 : 0 < i := by omega
            have hg1 : (0 : Int) < (i : Int) := by omega
            have hg2 : decide (0 < i) = true := decide_eq_true hg0
            have hw8 : IntKind.i64.wrap ((i : Int) - 1) = (j : Int) := by rw [show (i : Int) - 1 = (j : Int) by omega]; exact IntWalk.i64_in _ (by omega)
            have k6 : (j : Int) < (l.length : Int) := by omega
            have k7 : (0 : Int) ≤ (j : Int) := by omega
            have HW2 := Lib.hid (fun wx => implWw_any x b k wx (by omega))
            clear hi0 hxe hye hls hj HXX0
            go_wp2_with fail
            refine (HW2.out _).mono ?_
            rintro e w4 ⟨v2, l2, rfl, ho2, hA2, hm2, hl2, hb1⟩
            have hw2 : wwB x b k = true := by unfold wwB; rw [HXX.out.2.2.1, HXX.out.2.2.2.1]; rfl
            rw [hw2]
            have hmem2 : s ∈ l2 := (hm2 s).2 ⟨hw2, HXX.out.2.2.2.2⟩
            obtain ⟨a2, c2, rfl⟩ := ho2.read.slice
            have HHT : Hid (∀ n, Calls Try.prog 38 #[.slice a2 l2.length c2, .string s] (w4.drewN n) fun e w' => e = .returned (.bool true) ∧ w4.drewN n = w') := fun n => hasText_yes _ l2 s _ ((OS.later ho2 (below_drewN (Below.refl _ _) n)).read) (by omega) hmem2
            replace hc := (hb1.cell (p := ⟨g, off + i, none⟩) (Nat.lt_of_lt_of_le hg (Nat.le_refl _))).trans hc
            replace hcj := (hb1.cell (p := ⟨g, off + j, none⟩) (Nat.lt_of_lt_of_le hg (Nat.le_refl _))).trans hcj
            clear ho2 hA2 hm2 hmem2 hl2 hw2
            replace hb := hb.trans (hb1.mono hb.size)
            clear hb1
            go_wp2_with fail
            go_quiet ((go_at_call 38; exact quiet_same (HHT.out _)))
            have hb9 := below_drewN hb nq
            clear hb hc
            generalize w4.drewN nq = w9 at *
            go_wp2_with fail
            go_roundw
            case rel => exact ⟨i + 1, by omega, by go_num, hb9⟩
            case measure => first | (simp [intOf]; done) | (simp [intOf]; omega)
        · obtain rfl : i = l.length := by omega
          have hfin := Lib.hid (fun w' (h : Below wr.heap.size wr w') => HB0.out _ (hb.trans (h.mono hb.size)))
          by_cases hk0' : k = 0
          · have HCC := HC.out hk0'
            obtain ⟨b1, hb1⟩ : ∃ b1 : Nat, (b1 : Int) = (b : Int) - 1 := ⟨b - 1, by omega⟩
            have hw1 : IntKind.i64.wrap ((b : Int) - 1) = (b1 : Int) := by rw [← hb1]; exact IntWalk.i64_in _ (by omega)
            have hw2 : IntKind.i64.wrap ((s.size : Int) * (b1 : Int)) = (l.length : Int) := by rw [hb1, ← HCC]; exact IntWalk.i64_in _ (by omega)
            have hkb : (k == 0) = true := by simp [hk0']
            clear HCC hb1 hk0'
            go_wp2_with fail
            go_ret
            exact ⟨rfl, hfin.out _ (Below.refl _ _)⟩
          · have hkb : (k == 0) = false := by simp [hk0']
            have HIW := Lib.hid (isWord_any s b wr (by omega))
            clear hk0'
            go_wp2_with (go_at_call 39; refine HIW.out.mono ?_; rintro e w4 ⟨rfl, hb4⟩; rw [HDA.out])
            go_ret
            exact ⟨rfl, hfin.out _ hb4⟩
    · rw [show (decide (k < 5) || decide (10 ≤ (b : Int))) = false by rw [decide_eq_false h10, decide_eq_false h5]; rfl]
      have h10N : ¬ 10 ≤ b := by omega
      go_wp2_with fail
      go_loopw [10] (fun iv wr => ∃ i : Nat, i ≤ l.length ∧ iv = .int .i64 i ∧ Below w3.heap.size w3 wr) (fun iv _ => l.length - (intOf iv).toNat)
      case atStart => exact ⟨0, Nat.zero_le _, rfl, hb⟩
      case round =>
        clear hb
        obtain ⟨i, hi, rfl, hb⟩ := hrel
        by_cases hlt : i < l.length
        · obtain ⟨g, off, rfl, hg, hc⟩ := (HO.out _ hb).at i hlt
          have HXX0 := HE.out i hlt
          have hlen : (i : Int) < (l.length : Int) := by omega
          by_cases hi0 : i = 0
          · obtain ⟨x, hxe⟩ : ∃ x, sAt l i = x := ⟨_, rfl⟩
            rw [hxe] at hc HXX0
            have HXX := Lib.hid HXX0
            have hne := str_ne (s := x) (t := s) HXX0.1
            have hsz2 : ((x.size : Int) != (s.size : Int)) = false := by rw [HXX0.2.1]; simp
            have hx6 : x.size ≤ 6 := by rw [HXX0.2.1]; exact hsz
            have hg0 : ¬ 0 < i := by omega
            have hg1 : ¬ (0 : Int) < (i : Int) := by omega
            have hg2 : decide (0 < i) = false := decide_eq_false hg0
            have HW2 := Lib.hid (fun wx => implWw_any x b k wx (by omega))
            clear hi0 hxe HXX0
            go_wp2_with fail
            refine (HW2.out _).mono ?_
            rintro e w4 ⟨v2, l2, rfl, ho2, hA2, hm2, hl2, hb1⟩
            have hw2 : wwB x b k = true := by unfold wwB; rw [HXX.out.2.2.1, HXX.out.2.2.2.1]; rfl
            rw [hw2]
            have hmem2 : s ∈ l2 := (hm2 s).2 ⟨hw2, HXX.out.2.2.2.2⟩
            obtain ⟨a2, c2, rfl⟩ := ho2.read.slice
            have HHT : Hid (∀ n, Calls Try.prog 38 #[.slice a2 l2.length c2, .string s] (w4.drewN n) fun e w' => e = .returned (.bool true) ∧ w4.drewN n = w') := fun n => hasText_yes _ l2 s _ ((OS.later ho2 (below_drewN (Below.refl _ _) n)).read) (by omega) hmem2
            replace hc := (hb1.cell (p := ⟨g, off + i, none⟩) (Nat.lt_of_lt_of_le hg (Nat.le_refl _))).trans hc
            skip
            clear ho2 hA2 hm2 hmem2 hl2 hw2
            replace hb := hb.trans (hb1.mono hb.size)
            clear hb1
            go_wp2_with fail
            go_quiet ((go_at_call 38; exact quiet_same (HHT.out _)))
            have hb9 := below_drewN hb nq
            clear hb hc
            generalize w4.drewN nq = w9 at *
            go_wp2_with fail
            go_roundw
            case rel => exact ⟨i + 1, by omega, by go_num, hb9⟩
            case measure => first | (simp [intOf]; done) | (simp [intOf]; omega)
          · obtain ⟨j, hj⟩ : ∃ j, i = j + 1 := ⟨i - 1, by omega⟩
            obtain ⟨g', off', h1, _, hcj⟩ := (HO.out _ hb).at j (by omega)
            simp only [Option.some.injEq, Addr.mk.injEq, and_true] at h1
            obtain ⟨rfl, rfl⟩ := h1
            have hls := HAS.out j i (by omega) hlt
            obtain ⟨x, hxe⟩ : ∃ x, sAt l i = x := ⟨_, rfl⟩
            obtain ⟨y, hye⟩ : ∃ y, sAt l j = y := ⟨_, rfl⟩
            rw [hxe] at hc HXX0 hls
            rw [hye] at hcj hls
            have HXX := Lib.hid HXX0
            have hne := str_ne (s := x) (t := s) HXX0.1
            have hsz2 : ((x.size : Int) != (s.size : Int)) = false := by rw [HXX0.2.1]; simp
            have hx6 : x.size ≤ 6 := by rw [HXX0.2.1]; exact hsz
            have hl1 : Op.bytesLess x.toList y.toList = false := by
              rw [lt_bytes]
              exact decide_eq_false fun h => ltS.irrefl _ (h.trans hls)
            have hl3 := str_ne (s := x) (t := y) (fun e => by rw [e] at hls; exact ltS.irrefl _ hls)
            have hg0 : 0 < i := by omega
            have hg1 : (0 : Int) < (i : Int) := by omega
            have hg2 : decide (0 < i) = true := decide_eq_true hg0
            have hw8 : IntKind.i64.wrap ((i : Int) - 1) = (j : Int) := by rw [show (i : Int) - 1 = (j : Int) by omega]; exact IntWalk.i64_in _ (by omega)
            have k6 : (j : Int) < (l.length : Int) := by omega
            have k7 : (0 : Int) ≤ (j : Int) := by omega
            have HW2 := Lib.hid (fun wx => implWw_any x b k wx (by omega))
            clear hi0 hxe hye hls hj HXX0
            go_wp2_with fail
            refine (HW2.out _).mono ?_
            rintro e w4 ⟨v2, l2, rfl, ho2, hA2, hm2, hl2, hb1⟩
            have hw2 : wwB x b k = true := by unfold wwB; rw [HXX.out.2.2.1, HXX.out.2.2.2.1]; rfl
            rw [hw2]
            have hmem2 : s ∈ l2 := (hm2 s).2 ⟨hw2, HXX.out.2.2.2.2⟩
            obtain ⟨a2, c2, rfl⟩ := ho2.read.slice
            have HHT : Hid (∀ n, Calls Try.prog 38 #[.slice a2 l2.length c2, .string s] (w4.drewN n) fun e w' => e = .returned (.bool true) ∧ w4.drewN n = w') := fun n => hasText_yes _ l2 s _ ((OS.later ho2 (below_drewN (Below.refl _ _) n)).read) (by omega) hmem2
            replace hc := (hb1.cell (p := ⟨g, off + i, none⟩) (Nat.lt_of_lt_of_le hg (Nat.le_refl _))).trans hc
            replace hcj := (hb1.cell (p := ⟨g, off + j, none⟩) (Nat.lt_of_lt_of_le hg (Nat.le_refl _))).trans hcj
            clear ho2 hA2 hm2 hmem2 hl2 hw2
            replace hb := hb.trans (hb1.mono hb.size)
            clear hb1
            go_wp2_with fail
            go_quiet ((go_at_call 38; exact quiet_same (HHT.out _)))
            have hb9 := below_drewN hb nq
            clear hb hc
            generalize w4.drewN nq = w9 at *
            go_wp2_with fail
            go_roundw
            case rel => exact ⟨i + 1, by omega, by go_num, hb9⟩
            case measure => first | (simp [intOf]; done) | (simp [intOf]; omega)
        · obtain rfl : i = l.length := by omega
          have hfin := Lib.hid (fun w' (h : Below wr.heap.size wr w') => HB0.out _ (hb.trans (h.mono hb.size)))
          by_cases hk0' : k = 0
          · have HCC := HC.out hk0'
            obtain ⟨b1, hb1⟩ : ∃ b1 : Nat, (b1 : Int) = (b : Int) - 1 := ⟨b - 1, by omega⟩
            have hw1 : IntKind.i64.wrap ((b : Int) - 1) = (b1 : Int) := by rw [← hb1]; exact IntWalk.i64_in _ (by omega)
            have hw2 : IntKind.i64.wrap ((s.size : Int) * (b1 : Int)) = (l.length : Int) := by rw [hb1, ← HCC]; exact IntWalk.i64_in _ (by omega)
            have hkb : (k == 0) = true := by simp [hk0']
            clear HCC hb1 hk0'
            go_wp2_with fail
            go_ret
            exact ⟨rfl, hfin.out _ (Below.refl _ _)⟩
          · have hkb : (k == 0) = false := by simp [hk0']
            have HIW := Lib.hid (isWord_any s b wr (by omega))
            clear hk0'
            go_wp2_with (go_at_call 39; refine HIW.out.mono ?_; rintro e w4 ⟨rfl, hb4⟩; rw [HDA.out])
            go_ret
            exact ⟨rfl, hfin.out _ hb4⟩
end Go.Proofs.Ytgagjmnmfgfpfaa
