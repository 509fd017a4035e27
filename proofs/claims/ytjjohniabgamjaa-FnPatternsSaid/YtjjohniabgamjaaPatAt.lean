/- The program's and the reference's PatternAt return the same: for all arguments. -/
import Derived.Test.YtjjohniabgamjaaPatM
import Derived.Test.YtjjohniabgamjaaCountB
import Derived.Test.YtjjohniabgamjaaLibB
namespace Go.Proofs.Ytjjohniabgamjaa
open Go.RowKit

theorem implCountI (e m k : Int) (w : World) (he : 0 ≤ e ∧ e ≤ 10) (hm : 0 ≤ m ∧ m ≤ 20) (hk : 0 ≤ k ∧ k ≤ 4) :
    Calls Try.prog 38 #[.int .i64 e, .int .i64 m, .int .i64 k] w fun r w' => ∃ c : Nat, r = .returned (.int .i64 c) ∧ c ≤ 1048576 ∧ Hid (c = cN k.toNat e.toNat m.toNat) ∧ Below w.heap.size w w' := by
  obtain ⟨e, rfl⟩ := Int.eq_ofNat_of_zero_le he.1
  obtain ⟨m, rfl⟩ := Int.eq_ofNat_of_zero_le hm.1
  obtain ⟨k, rfl⟩ := Int.eq_ofNat_of_zero_le hk.1
  refine (countPatterns_any e m k w (by omega) (by omega) (by omega)).mono fun r w' h => ⟨cN k e m, ?_, cN_bd _ _ _ (by omega) (by omega), rfl, h.2⟩
  rw [h.1, cnt_cN _ _ _ (by omega) (by omega) (by omega)]
theorem specCountI (e m k : Int) (w : World) (he : 0 ≤ e ∧ e ≤ 10) (hm : 0 ≤ m ∧ m ≤ 20) (hk : 0 ≤ k ∧ k ≤ 4) :
    Calls Try.prog 36 #[.int .i64 e, .int .i64 m, .int .i64 k] w fun r w' => ∃ c : Nat, r = .returned (.int .i64 c) ∧ c ≤ 1048576 ∧ Hid (c = cN k.toNat e.toNat m.toNat) ∧ Below w.heap.size w w' := by
  obtain ⟨e, rfl⟩ := Int.eq_ofNat_of_zero_le he.1
  obtain ⟨m, rfl⟩ := Int.eq_ofNat_of_zero_le hm.1
  obtain ⟨k, rfl⟩ := Int.eq_ofNat_of_zero_le hk.1
  refine (l08Count_any e m k w (by omega) (by omega) (by omega)).mono fun r w' h => ⟨cN k e m, ?_, cN_bd _ _ _ (by omega) (by omega), rfl, h.2⟩
  rw [h.1, cnt_cN _ _ _ (by omega) (by omega) (by omega)]

set_option maxHeartbeats 1000000 in
theorem implAt_yes (e m k r : Nat) (w : World) (he : 1 ≤ e ∧ e ≤ 10) (hm : 1 ≤ m ∧ m ≤ 20) (hk : 1 ≤ k ∧ k ≤ 4) (hr : r < cN k e m) :
    Calls Try.prog 16 #[.int .i64 e, .int .i64 m, .int .i64 k, .int .i64 r] w fun x w' => ∃ xs, x = .returned (.tuple #[.string (strOfNums xs), .bool true]) ∧ IsPat k e m r xs ∧ Below w.heap.size w w' := by
  have hc : countB e m k = true := countB_iff.2 (by omega)
  have hi : inB r 0 ((cN k e m : Nat) - 1) = true := by simp [inB]; omega
  have hr0 := Lib.hid hr; clear hr
  have hbd := cN_bd k e m (by omega) (by omega)
  go_enter Try.func16, Try.ntmps16
  go_wp2_with (first | (go_at_call 37; refine (countOk_any _ _ _ _).mono ?_; rintro e w' ⟨rfl, rfl⟩) | (go_at_call 39; refine (in_any _ _ _ _).mono ?_; rintro e w' ⟨rfl, rfl⟩) | (go_at_call 38; refine (countPatterns_any _ _ _ _ (by omega) (by omega) (by omega)).mono ?_; rintro e w1 ⟨rfl, hb1⟩; rw [cnt_cN _ _ _ (by omega) (by omega) (by omega)]))
  have hown0 : OB w.heap.size (w1.alloc (.cells #[] 5)) (.slice (some ⟨w1.heap.size, 0, none⟩) 0 0) [] := OK.made _ _ _ hb1.size
  have hb2 : Below w.heap.size w (w1.alloc (.cells #[] 5)) := hb1.alloc hb1.size _
  generalize w1.alloc (.cells #[] 5) = w2 at *
  generalize Value.slice (some ⟨w1.heap.size, 0, none⟩) 0 0 = v0 at *
  clear hi hc hb1
  go_loopw [1, 3, 10, 11] (fun mv rv out lv wr => ∃ (l m' r' : Nat) (q : Int) (xs : List Int), mv = .int .i64 m' ∧ rv = .int .i64 r' ∧ lv = .int .i64 q ∧ Hid (q = (l : Int) - 1) ∧ q < l ∧ l ≤ e ∧ l + xs.length = e + 0 ∧ m' ≤ 20 ∧ r' < 1048576 ∧ Hid (r' < cN k l m') ∧ Hid (∀ ys, IsPat k l m' r' ys → IsPat k e m r (xs ++ ys)) ∧ OB w.heap.size wr out xs ∧ Below w.heap.size w wr) (fun _ _ _ lv _ => (intOf lv + 1).toNat)
  case atStart => exact ⟨e, m, r, _, [], rfl, rfl, rfl, rfl, by omega, by omega, by simp, by omega, by have := hr0.out; omega, hr0, (fun ys h => h), hown0, hb2⟩
  case round =>
    obtain ⟨l, m', r', q, xs, rfl, rfl, rfl, Hq, hql, hle, hlen, hm', hr', Hr, HP, hown, hb⟩ := hrel
    clear hown0 hb2 hr0
    have hz := hb.size
    by_cases hq : 0 ≤ q
    · obtain ⟨l', rfl⟩ := Int.eq_ofNat_of_zero_le hq
      obtain rfl : l = l' + 1 := by have := Hq.out; omega
      clear Hq hq
      go_wp2_with fail
      have hP : Hid (∀ j, pre k l' m' j ≤ r' → j < k ∧ j + 1 ≤ m') := fun j hj => pre_room (k := k) (l := l') (m := m') (j := j) (by have := Hr.out; rw [cN_pre] at this; omega)
      go_loopw [3, 12] (fun rv ev wr => ∃ (j rj : Nat), rv = .int .i64 rj ∧ ev = .int .i64 ↑(j + 1) ∧ j < k ∧ j + 1 ≤ m' ∧ rj ≤ r' ∧ Hid (rj + pre k l' m' j = r') ∧ OB w.heap.size wr u10 xs ∧ Below w.heap.size w wr) (fun _ ev _ => 30 - (intOf ev).toNat)
      case atStart => exact ⟨0, r', rfl, rfl, by omega, (hP.out 0 (by rw [pre_zero]; omega)).2, by omega, rfl, hown, hb⟩
      case round =>
        obtain ⟨j, rj, rfl, rfl, hjk, hjm, hrj, HJ, hown, hb⟩ := hrel
        have hz := hb.size
        have hP' := hP
        clear hP
        have tok : True := trivial
        go_wp2_with (first | (at_builtin; refine wpl_app_u8 rfl _ _ rfl w.heap.size _ _ rfl ((hown.later hb1).alloc _) _ _ _ rfl (World.cell?_alloc_at _ _ _ _ rfl) (by omega) (by have := hb1.size; simp; omega) ?_; intro v' w2 hown2 hgr2) | (go_at_call 38; have _t := tok; refine (implCountI _ _ _ _ (by omega) (by omega) (by omega)).mono ?_; rintro e w1 ⟨c, rfl, hcb, HC, hb1⟩; clear _t tok) | (go_at_call 38; refine (implCountI _ _ _ _ (by omega) (by omega) (by omega)).mono ?_; rintro e w2 ⟨c2, rfl, hcb2, HC2, hb2⟩))
        · have e1 := HC.out
          have e2 := HC2.out
          have e3 : cN (k : Int).toNat (l' : Int).toNat ((m' : Int) - (j + 1)).toNat = cN k l' (m' - (j + 1)) := by
            rw [show (k : Int).toNat = k by omega, show (l' : Int).toNat = l' by omega, show ((m' : Int) - (j + 1)).toNat = m' - (j + 1) by omega]
          rw [e3] at e1 e2
          have hcj : c ≤ rj := by assumption
          have hps := pre_step (k := k) (l := l') (m := m') (j := j) hjm
          have hJ := HJ.out
          have hnx := hP'.out (j + 1) (by omega)
          have hq2 : Hid (rj - c2 + pre k l' m' (j + 1) = r') := (by omega : rj - c2 + pre k l' m' (j + 1) = r')
          have hc2 : c2 ≤ rj := by omega
          clear e1 e2 hJ hps
          go_roundw
          case rel => exact ⟨j + 1, rj - c2, by go_num, by go_num, hnx.1, hnx.2, by omega, hq2, (hown.later hb1).later hb2, (hb.trans (hb1.mono hz)).trans (hb2.mono (Nat.le_trans hz hb1.size))⟩
          case measure => first | (simp [intOf]; done) | (simp [intOf]; omega)
        · have e1 := HC.out
          have e3 : cN (k : Int).toNat (l' : Int).toNat ((m' : Int) - (j + 1)).toNat = cN k l' (m' - (j + 1)) := by
            rw [show (k : Int).toNat = k by omega, show (l' : Int).toNat = l' by omega, show ((m' : Int) - (j + 1)).toNat = m' - (j + 1) by omega]
          rw [e3] at e1
          have hcj : ¬ c ≤ rj := by assumption
          have hnew : Hid (rj < cN k l' (m' - (j + 1))) := (by omega : rj < cN k l' (m' - (j + 1)))
          have hPn : Hid (∀ ys, IsPat k l' (m' - (j + 1)) rj ys → IsPat k e m r (xs ++ [((49 + j : Nat) : Int)] ++ ys)) := fun ys hy => by
            rw [List.append_assoc]
            exact HP.out _ ⟨j, rj, ys, hjk, hjm, HJ.out, hnew.out, rfl, hy⟩
          have hown3 : OB w.heap.size w2 v' (xs ++ [((49 + j : Nat) : Int)]) := by
            have e : ((49 + j : Nat) : Int) = 48 + ((j : Int) + 1) := by omega
            rw [e]; exact hown2
          have hz1 := hb1.size
          have hb2 : Below w.heap.size w w2 := own_below ((hb.trans (hb1.mono hz)).alloc (by omega) _) ((hown.later hb1).alloc _) hgr2 (by simp; omega)
          clear e1
          go_roundw
          case rel => exact ⟨l', m' - (j + 1), rj, l' - 1, _, by go_num, rfl, rfl, rfl, by omega, by omega, by simp; omega, by omega, by omega, hnew, hPn, hown3, hb2⟩
          case measure => first | (simp [intOf]; done) | (simp [intOf]; omega)
    · have hs := hown.str
      go_wp2_with fail
      go_ret2
      obtain rfl : l = 0 := by have := Hq.out; omega
      exact ⟨xs, rfl, by have := HP.out [] rfl; simpa using this, hb⟩
set_option maxHeartbeats 400000 in
theorem implAt_no (e m k r : Int) (w : World) (h : ¬ (countB e m k = true ∧ inB r 0 ((cN k.toNat e.toNat m.toNat : Nat) - 1) = true)) :
    Calls Try.prog 16 #[.int .i64 e, .int .i64 m, .int .i64 k, .int .i64 r] w fun x w' => x = .returned (.tuple #[.string ByteArray.empty, .bool false]) ∧ Below w.heap.size w w' := by
  by_cases hc : countB e m k = true
  · obtain ⟨⟨⟨he, he'⟩, hm, hm'⟩, hk, hk'⟩ := countB_iff.1 hc
    obtain ⟨e, rfl⟩ := Int.eq_ofNat_of_zero_le (show 0 ≤ e by omega)
    obtain ⟨m, rfl⟩ := Int.eq_ofNat_of_zero_le (show 0 ≤ m by omega)
    obtain ⟨k, rfl⟩ := Int.eq_ofNat_of_zero_le (show 0 ≤ k by omega)
    have hbd := cN_bd k e m (by omega) (by omega)
    have hi : inB r 0 ((cN k e m : Nat) - 1) = false := by
      rw [← Bool.not_eq_true]; exact fun hh => h ⟨hc, hh⟩
    clear h
    go_enter Try.func16, Try.ntmps16
    go_wp2_with (first | (go_at_call 37; refine (countOk_any _ _ _ _).mono ?_; rintro e w' ⟨rfl, rfl⟩) | (go_at_call 39; refine (in_any _ _ _ _).mono ?_; rintro e w' ⟨rfl, rfl⟩) | (go_at_call 38; refine (countPatterns_any _ _ _ _ (by omega) (by omega) (by omega)).mono ?_; rintro e w1 ⟨rfl, hb1⟩; rw [cnt_cN _ _ _ (by omega) (by omega) (by omega)]))
    go_ret2
    exact ⟨rfl, hb1⟩
  · simp only [Bool.not_eq_true] at hc
    clear h
    go_enter Try.func16, Try.ntmps16
    go_wp2_with (go_at_call 37; refine (countOk_any _ _ _ _).mono ?_; rintro e w' ⟨rfl, rfl⟩)
    go_ret2
    exact ⟨rfl, Below.refl _ _⟩
set_option maxHeartbeats 1000000 in
theorem l08At_yes (e m k r : Nat) (w : World) (he : 1 ≤ e ∧ e ≤ 10) (hm : 1 ≤ m ∧ m ≤ 20) (hk : 1 ≤ k ∧ k ≤ 4) (hr : r < cN k e m) :
    Calls Try.prog 45 #[.int .i64 e, .int .i64 m, .int .i64 k, .int .i64 r] w fun x w' => ∃ xs, x = .returned (.string (strOfNums xs)) ∧ IsPat k e m r xs ∧ Below w.heap.size w w' := by
  have hr0 := Lib.hid hr; clear hr
  have hbd := cN_bd k e m (by omega) (by omega)
  go_enter Try.func45, Try.ntmps45
  go_wp2
  have hown0 : OB w.heap.size (w.alloc (.cells #[] 5)) (.slice (some ⟨w.heap.size, 0, none⟩) 0 0) [] := OK.made _ _ _ (Nat.le_refl _)
  have hb2 : Below w.heap.size w (w.alloc (.cells #[] 5)) := (Below.refl _ _).alloc (Nat.le_refl _) _
  generalize w.alloc (.cells #[] 5) = w2 at *
  generalize Value.slice (some ⟨w.heap.size, 0, none⟩) 0 0 = v0 at *
  go_loopw [1, 3, 9, 10] (fun mv rv out lv wr => ∃ (l m' r' : Nat) (q : Int) (xs : List Int), mv = .int .i64 m' ∧ rv = .int .i64 r' ∧ lv = .int .i64 q ∧ Hid (q = (l : Int) - 1) ∧ q < l ∧ l ≤ e ∧ l + xs.length = e + 0 ∧ m' ≤ 20 ∧ r' < 1048576 ∧ Hid (r' < cN k l m') ∧ Hid (∀ ys, IsPat k l m' r' ys → IsPat k e m r (xs ++ ys)) ∧ OB w.heap.size wr out xs ∧ Below w.heap.size w wr) (fun _ _ _ lv _ => (intOf lv + 1).toNat)
  case atStart => exact ⟨e, m, r, _, [], rfl, rfl, rfl, rfl, by omega, by omega, by simp, by omega, by have := hr0.out; omega, hr0, (fun ys h => h), hown0, hb2⟩
  case round =>
    obtain ⟨l, m', r', q, xs, rfl, rfl, rfl, Hq, hql, hle, hlen, hm', hr', Hr, HP, hown, hb⟩ := hrel
    clear hown0 hb2 hr0
    have hz := hb.size
    by_cases hq : 0 ≤ q
    · obtain ⟨l', rfl⟩ := Int.eq_ofNat_of_zero_le hq
      obtain rfl : l = l' + 1 := by have := Hq.out; omega
      clear Hq hq
      go_wp2_with fail
      have hP : Hid (∀ j, pre k l' m' j ≤ r' → j < k ∧ j + 1 ≤ m') := fun j hj => pre_room (k := k) (l := l') (m := m') (j := j) (by have := Hr.out; rw [cN_pre] at this; omega)
      go_loopw [3, 11] (fun rv ev wr => ∃ (j rj : Nat), rv = .int .i64 rj ∧ ev = .int .i64 ↑(j + 1) ∧ j < k ∧ j + 1 ≤ m' ∧ rj ≤ r' ∧ Hid (rj + pre k l' m' j = r') ∧ OB w.heap.size wr u9 xs ∧ Below w.heap.size w wr) (fun _ ev _ => 30 - (intOf ev).toNat)
      case atStart => exact ⟨0, r', rfl, rfl, by omega, (hP.out 0 (by rw [pre_zero]; omega)).2, by omega, rfl, hown, hb⟩
      case round =>
        obtain ⟨j, rj, rfl, rfl, hjk, hjm, hrj, HJ, hown, hb⟩ := hrel
        have hz := hb.size
        have hP' := hP
        clear hP
        by_cases hjl : j + 1 < m'
        · have tok : True := trivial
          go_wp2_with (first | (at_builtin; refine wpl_app_u8 rfl _ _ rfl w.heap.size _ _ rfl ((hown.later hb1).alloc _) _ _ _ rfl (World.cell?_alloc_at _ _ _ _ rfl) (by omega) (by have := hb1.size; simp; omega) ?_; intro v' w2 hown2 hgr2) | (go_at_call 36; have _t := tok; refine (specCountI _ _ _ _ (by omega) (by omega) (by omega)).mono ?_; rintro e w1 ⟨c, rfl, hcb, HC, hb1⟩; clear _t tok) | (go_at_call 36; refine (specCountI _ _ _ _ (by omega) (by omega) (by omega)).mono ?_; rintro e w2 ⟨c2, rfl, hcb2, HC2, hb2⟩))
          · have e1 := HC.out
            have e2 := HC2.out
            have e3 : cN (k : Int).toNat (l' : Int).toNat ((m' : Int) - (j + 1)).toNat = cN k l' (m' - (j + 1)) := by
              rw [show (k : Int).toNat = k by omega, show (l' : Int).toNat = l' by omega, show ((m' : Int) - (j + 1)).toNat = m' - (j + 1) by omega]
            rw [e3] at e1 e2
            have hcj : c ≤ rj := by assumption
            have hps := pre_step (k := k) (l := l') (m := m') (j := j) hjm
            have hJ := HJ.out
            have hnx := hP'.out (j + 1) (by omega)
            have hq2 : Hid (rj - c2 + pre k l' m' (j + 1) = r') := (by omega : rj - c2 + pre k l' m' (j + 1) = r')
            have hc2 : c2 ≤ rj := by omega
            clear e1 e2 hJ hps
            go_roundw
            case rel => exact ⟨j + 1, rj - c2, by go_num, by go_num, hnx.1, hnx.2, by omega, hq2, (hown.later hb1).later hb2, (hb.trans (hb1.mono hz)).trans (hb2.mono (Nat.le_trans hz hb1.size))⟩
            case measure => first | (simp [intOf]; done) | (simp [intOf]; omega)
          · have e1 := HC.out
            have e3 : cN (k : Int).toNat (l' : Int).toNat ((m' : Int) - (j + 1)).toNat = cN k l' (m' - (j + 1)) := by
              rw [show (k : Int).toNat = k by omega, show (l' : Int).toNat = l' by omega, show ((m' : Int) - (j + 1)).toNat = m' - (j + 1) by omega]
            rw [e3] at e1
            have hcj : ¬ c ≤ rj := by assumption
            have hnew : Hid (rj < cN k l' (m' - (j + 1))) := (by omega : rj < cN k l' (m' - (j + 1)))
            have hPn : Hid (∀ ys, IsPat k l' (m' - (j + 1)) rj ys → IsPat k e m r (xs ++ [((49 + j : Nat) : Int)] ++ ys)) := fun ys hy => by
              rw [List.append_assoc]
              exact HP.out _ ⟨j, rj, ys, hjk, hjm, HJ.out, hnew.out, rfl, hy⟩
            have hown3 : OB w.heap.size w2 v' (xs ++ [((49 + j : Nat) : Int)]) := by
              have e : ((49 + j : Nat) : Int) = 48 + ((j : Int) + 1) := by omega
              rw [e]; exact hown2
            have hz1 := hb1.size
            have hb2 : Below w.heap.size w w2 := own_below ((hb.trans (hb1.mono hz)).alloc (by omega) _) ((hown.later hb1).alloc _) hgr2 (by simp; omega)
            clear e1
            go_roundw
            case rel => exact ⟨l', m' - (j + 1), rj, l' - 1, _, by go_num, rfl, rfl, rfl, by omega, by omega, by simp; omega, by omega, by omega, hnew, hPn, hown3, hb2⟩
            case measure => first | (simp [intOf]; done) | (simp [intOf]; omega)
        · have hnew : Hid (rj < cN k l' (m' - (j + 1))) := pre_last (k := k) (l := l') (m := m') (j := j) (r := rj) (by have := HJ.out; have h2 := Hr.out; rw [cN_pre] at h2; omega) (by omega)
          go_wp2_with (at_builtin; refine wpl_app_u8 rfl _ _ rfl w.heap.size _ _ rfl (hown.alloc _) _ _ _ rfl (World.cell?_alloc_at _ _ _ _ rfl) (by omega) (by simp; omega) ?_; intro v' w2 hown2 hgr2)
          have hPn : Hid (∀ ys, IsPat k l' (m' - (j + 1)) rj ys → IsPat k e m r (xs ++ [((49 + j : Nat) : Int)] ++ ys)) := fun ys hy => by
            rw [List.append_assoc]
            exact HP.out _ ⟨j, rj, ys, hjk, hjm, HJ.out, hnew.out, rfl, hy⟩
          have hown3 : OB w.heap.size w2 v' (xs ++ [((49 + j : Nat) : Int)]) := by
            have e : ((49 + j : Nat) : Int) = 48 + ((j : Int) + 1) := by omega
            rw [e]; exact hown2
          have hb2 : Below w.heap.size w w2 := own_below (hb.alloc hz _) (hown.alloc _) hgr2 (by simp; omega)
          go_roundw
          case rel => exact ⟨l', m' - (j + 1), rj, l' - 1, _, by go_num, rfl, rfl, rfl, by omega, by omega, by simp; omega, by omega, by omega, hnew, hPn, hown3, hb2⟩
          case measure => first | (simp [intOf]; done) | (simp [intOf]; omega)
    · have hs := hown.str
      go_wp2_with fail
      go_ret
      obtain rfl : l = 0 := by have := Hq.out; omega
      exact ⟨xs, rfl, by have := HP.out [] rfl; simpa using this, hb⟩
set_option maxHeartbeats 400000 in
theorem specAt_no (e m k r : Int) (w : World) (h : ¬ (countB e m k = true ∧ inB r 0 ((cN k.toNat e.toNat m.toNat : Nat) - 1) = true)) :
    Calls Try.prog 19 #[.int .i64 e, .int .i64 m, .int .i64 k, .int .i64 r] w fun x w' => x = .returned (.tuple #[.string ByteArray.empty, .bool false]) ∧ Below w.heap.size w w' := by
  by_cases hc : countB e m k = true
  · obtain ⟨⟨⟨he, he'⟩, hm, hm'⟩, hk, hk'⟩ := countB_iff.1 hc
    obtain ⟨e, rfl⟩ := Int.eq_ofNat_of_zero_le (show 0 ≤ e by omega)
    obtain ⟨m, rfl⟩ := Int.eq_ofNat_of_zero_le (show 0 ≤ m by omega)
    obtain ⟨k, rfl⟩ := Int.eq_ofNat_of_zero_le (show 0 ≤ k by omega)
    have hbd := cN_bd k e m (by omega) (by omega)
    have hi : inB r 0 ((cN k e m : Nat) - 1) = false := by
      rw [← Bool.not_eq_true]; exact fun hh => h ⟨hc, hh⟩
    clear h
    go_enter Try.func19, Try.ntmps19
    go_wp2_with (first | (go_at_call 35; refine (l08Counted_any _ _ _ _).mono ?_; rintro e w' ⟨rfl, rfl⟩) | (go_at_call 44; refine (l00In_any _ _ _ _).mono ?_; rintro e w' ⟨rfl, rfl⟩) | (go_at_call 36; refine (l08Count_any _ _ _ _ (by omega) (by omega) (by omega)).mono ?_; rintro e w1 ⟨rfl, hb1⟩; rw [cnt_cN _ _ _ (by omega) (by omega) (by omega)]))
    go_ret2
    exact ⟨rfl, hb1⟩
  · simp only [Bool.not_eq_true] at hc
    clear h
    go_enter Try.func19, Try.ntmps19
    go_wp2_with (go_at_call 35; refine (l08Counted_any _ _ _ _).mono ?_; rintro e w' ⟨rfl, rfl⟩)
    go_ret2
    exact ⟨rfl, Below.refl _ _⟩
set_option maxHeartbeats 400000 in
theorem specAt_yes (e m k r : Nat) (w : World) (he : 1 ≤ e ∧ e ≤ 10) (hm : 1 ≤ m ∧ m ≤ 20) (hk : 1 ≤ k ∧ k ≤ 4) (hr : r < cN k e m) :
    Calls Try.prog 19 #[.int .i64 e, .int .i64 m, .int .i64 k, .int .i64 r] w fun x w' => ∃ xs, x = .returned (.tuple #[.string (strOfNums xs), .bool true]) ∧ IsPat k e m r xs ∧ Below w.heap.size w w' := by
  have hc : countB e m k = true := countB_iff.2 (by omega)
  have hi : inB r 0 ((cN k e m : Nat) - 1) = true := by simp [inB]; omega
  have hr0 := Lib.hid hr; clear hr
  have hbd := cN_bd k e m (by omega) (by omega)
  go_enter Try.func19, Try.ntmps19
  go_wp2_with (first | (go_at_call 45; refine (l08At_yes _ _ _ _ _ he hm hk hr0.out).mono ?_; rintro e w2 ⟨xs, rfl, hx, hb2⟩) | (go_at_call 35; refine (l08Counted_any _ _ _ _).mono ?_; rintro e w' ⟨rfl, rfl⟩) | (go_at_call 44; refine (l00In_any _ _ _ _).mono ?_; rintro e w' ⟨rfl, rfl⟩) | (go_at_call 36; refine (l08Count_any _ _ _ _ (by omega) (by omega) (by omega)).mono ?_; rintro e w1 ⟨rfl, hb1⟩; rw [cnt_cN _ _ _ (by omega) (by omega) (by omega)]))
  go_ret2
  exact ⟨xs, rfl, hx, hb1.trans (hb2.mono hb1.size)⟩
set_option maxHeartbeats 400000 in
theorem lawAt_any (e m k r : Int) (w : World) :
    Calls Try.prog 6 #[.int .i64 e, .int .i64 m, .int .i64 k, .int .i64 r] w fun x w' => x = .returned (.bool true) ∧ Below w.heap.size w w' := by
  by_cases h : countB e m k = true ∧ inB r 0 ((cN k.toNat e.toNat m.toNat : Nat) - 1) = true
  · obtain ⟨hc, hi⟩ := h
    obtain ⟨⟨he, hm⟩, hk⟩ := countB_iff.1 hc
    have hi' : 0 ≤ r ∧ r ≤ (cN k.toNat e.toNat m.toNat : Nat) - 1 := by simpa [inB] using hi
    clear hc hi
    obtain ⟨e, rfl⟩ := Int.eq_ofNat_of_zero_le (show 0 ≤ e by omega)
    obtain ⟨m, rfl⟩ := Int.eq_ofNat_of_zero_le (show 0 ≤ m by omega)
    obtain ⟨k, rfl⟩ := Int.eq_ofNat_of_zero_le (show 0 ≤ k by omega)
    obtain ⟨r, rfl⟩ := Int.eq_ofNat_of_zero_le hi'.1
    simp only [Int.toNat_natCast] at hi'
    have HR : Hid (r < cN k e m) := (by omega : r < cN k e m)
    clear hi'
    go_enter Try.func6, Try.ntmps6
    go_wp2_with (first | (go_at_call 19; refine (specAt_yes _ _ _ _ _ (by omega) (by omega) (by omega) HR.out).mono ?_; rintro e w1 ⟨xs, rfl, hx, hb1⟩) | (go_at_call 16; refine (implAt_yes _ _ _ _ _ (by omega) (by omega) (by omega) HR.out).mono ?_; rintro e w2 ⟨ys, rfl, hy, hb2⟩; obtain rfl := isPat_unique _ _ _ _ _ _ hx hy))
    go_ret
    exact ⟨rfl, hb1.trans (hb2.mono hb1.size)⟩
  · have H := Lib.hid h; clear h
    go_enter Try.func6, Try.ntmps6
    go_wp2_with (first | (go_at_call 19; refine (specAt_no _ _ _ _ _ H.out).mono ?_; rintro e w1 ⟨rfl, hb1⟩) | (go_at_call 16; refine (implAt_no _ _ _ _ _ H.out).mono ?_; rintro e w2 ⟨rfl, hb2⟩))
    go_ret
    exact ⟨rfl, hb1.trans (hb2.mono hb1.size)⟩
end Go.Proofs.Ytjjohniabgamjaa
