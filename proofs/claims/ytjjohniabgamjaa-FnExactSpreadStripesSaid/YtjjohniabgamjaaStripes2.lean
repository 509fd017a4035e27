/- Stripes, scaled and spread: the reference's functions, and the laws: for all arguments. -/
import Derived.Test.YtjjohniabgamjaaStripes
namespace Go.Proofs.Ytjjohniabgamjaa
open Go.RowKit

theorem scale_low {xs : List Int} {y : Int} (h : strOk xs = true) (hy : y < 1) : remOk (scaleF y) xs y = false := by
  obtain ⟨h1, h2, h3⟩ := strOk_in h
  rw [← Bool.not_eq_true]
  intro hr
  unfold remOk at hr
  simp only [Bool.and_eq_true] at hr
  have h4 := (strOk_in hr.2).1 0 (by rw [mapS_len]; omega)
  rw [mapS_get _ _ _ _ (by omega)] at h4
  have h5 := h1 0 (by omega)
  unfold scaleF at h4
  have h6 : xs.getD 0 0 * y ≤ xs.getD 0 0 * 0 := Int.mul_le_mul_of_nonneg_left (by omega) (by omega)
  omega

theorem scale_no {xs : List Int} {y : Int} (h1 : strOk xs = true) (h2 : inB y 1 100000 = false) : remOk (scaleF y) xs y = false := by
  by_cases hy : y < 1
  · exact scale_low h1 hy
  · have : inB y (-100000) 100000 = false := by
      rw [← Bool.not_eq_true] at h2 ⊢
      simp [inB] at h2 ⊢
      omega
    simp [remOk, this]
theorem spread_no {xs : List Int} {y : Int} (h2 : inB y (-100000) 100000 = false) : remOk (spreadF y) xs y = false := by simp [remOk, h2]
set_option maxHeartbeats 2000000 in
theorem specScaleStripes_any (v : Value) (xs : List Int) (y : Int) (w : World) (hx : RI w v xs) (hm : xs.length ≤ 1048576) :
    Calls Try.prog 20 #[v, .int .i64 y] w (RemPost (scaleF y) xs y w) := by
  obtain ⟨a, c, rfl⟩ := hx.slice
  by_cases h1 : strOk xs = true
  · by_cases h2 : inB y 1 100000 = true
    · have hin := strOk_in h1
      have HI := Lib.hid hin.1
      have hl400 := hin.2.2
      have hy : 1 ≤ y ∧ y ≤ 100000 := by simpa [inB] using h2
      clear hin
      go_enter Try.func20, Try.ntmps20
      go_wp2_with (first | (go_at_call 44; refine (l00In_any _ _ _ _).mono ?_; rintro e w' ⟨rfl, rfl⟩) | (go_at_call 46; refine (l08List_any _ _ _ hx (by omega)).mono ?_; rintro e w' ⟨rfl, rfl⟩))
      have hown0 : OI w.heap.size (w.alloc (.cells #[] 2)) (.slice (some ⟨w.heap.size, 0, none⟩) 0 0) [] := OK.made _ _ _ (Nat.le_refl _)
      have hbl0 : Below w.heap.size w (w.alloc (.cells #[] 2)) := (Below.refl _ _).alloc (Nat.le_refl _) _
      generalize w.alloc (.cells #[] 2) = w2 at *
      generalize Value.slice (some ⟨w.heap.size, 0, none⟩) 0 0 = v0 at *
      go_loopw [6, 7] (fun out iv wr => ∃ k : Nat, k ≤ xs.length ∧ iv = .int .i64 k ∧ OI w.heap.size wr out (mapS (scaleF y) xs k) ∧ Below w.heap.size w wr) (fun _ iv _ => xs.length - (intOf iv).toNat)
      case atStart => exact ⟨0, Nat.zero_le _, rfl, hown0, hbl0⟩
      case round =>
        obtain ⟨k, hk, rfl, hown, hb⟩ := hrel
        clear hown0 hbl0
        have hz := hb.size
        have hl : (mapS (scaleF y) xs k).length ≤ 1099511627776 := by rw [mapS_len]; omega
        by_cases hlt : k < xs.length
        · obtain ⟨g', off, rfl, hg', hce⟩ := (hx.later hb).at k hlt
          have hxk := HI.out k hlt
          have HE : Hid (mapS (scaleF y) xs (k + 1) = mapS (scaleF y) xs k ++ [(scaleF y) k (xs.getD k 0)]) := rfl
          generalize xs.getD k 0 = x at *
          have hmul : 0 ≤ x * y ∧ x * y ≤ 10000000000 := by
            constructor
            · exact Int.mul_nonneg (by omega) (by omega)
            · have h1 : x * y ≤ x * 100000 := Int.mul_le_mul_of_nonneg_left hy.2 (by omega)
              omega
          go_wp2_with (at_builtin; refine wpl_app_i64 rfl _ _ rfl w.heap.size _ _ rfl (hown.alloc _) _ _ _ rfl (World.cell?_alloc_at _ _ _ _ rfl) hl (by simp; omega) ?_; intro v' w1 hown1 hgr)
          have hb1 : Below w.heap.size w w1 := own_below (hb.alloc hz _) (hown.alloc _) hgr (by simp; omega)
          have HE2 : mapS (scaleF y) xs (k + 1) = mapS (scaleF y) xs k ++ [x * y] := HE.out
          rw [← HE2] at hown1
          clear HE2
          go_roundw
          case rel => exact ⟨k + 1, by omega, by go_num, hown1, hb1⟩
          case measure => first | (simp [intOf]; done) | (simp [intOf]; omega)
        · have hkk : k = xs.length := by omega
          subst hkk
          by_cases h3 : strOk (mapS (scaleF y) xs xs.length) = true
          · have HR : Hid (remOk (scaleF y) xs y = true) := by
              have : inB y (-100000) 100000 = true := by simp [inB]; omega
              simp [Hid, remOk, h1, this, h3]
            go_wp2_with (go_at_call 46; refine (l08List_any _ _ _ hown.read hl).mono ?_; rintro e w' ⟨rfl, rfl⟩)
            go_ret2
            exact RemPost.yes HR.out hown hb
          · simp only [Bool.not_eq_true] at h3
            have HR : Hid (remOk (scaleF y) xs y = false) := by simp [Hid, remOk, h3]
            go_wp2_with (go_at_call 46; refine (l08List_any _ _ _ hown.read hl).mono ?_; rintro e w' ⟨rfl, rfl⟩)
            go_ret2
            exact RemPost.no HR.out hb
    · simp only [Bool.not_eq_true] at h2
      have HR : Hid (remOk (scaleF y) xs y = false) := (scale_no h1) h2
      go_enter Try.func20, Try.ntmps20
      go_wp2_with (first | (go_at_call 44; refine (l00In_any _ _ _ _).mono ?_; rintro e w' ⟨rfl, rfl⟩) | (go_at_call 46; refine (l08List_any _ _ _ hx (by omega)).mono ?_; rintro e w' ⟨rfl, rfl⟩))
      go_ret2
      exact RemPost.no HR.out (Below.refl _ _)
  · simp only [Bool.not_eq_true] at h1
    have HR : Hid (remOk (scaleF y) xs y = false) := by simp [Hid, remOk, h1]
    go_enter Try.func20, Try.ntmps20
    go_wp2_with (go_at_call 46; refine (l08List_any _ _ _ hx (by omega)).mono ?_; rintro e w' ⟨rfl, rfl⟩)
    go_ret2
    exact RemPost.no HR.out (Below.refl _ _)
set_option maxHeartbeats 2000000 in
theorem specSpreadStripes_any (v : Value) (xs : List Int) (y : Int) (w : World) (hx : RI w v xs) (hm : xs.length ≤ 1048576) :
    Calls Try.prog 28 #[v, .int .i64 y] w (RemPost (spreadF y) xs y w) := by
  obtain ⟨a, c, rfl⟩ := hx.slice
  by_cases h1 : strOk xs = true
  · by_cases h2 : inB y (-100000) 100000 = true
    · have hin := strOk_in h1
      have HI := Lib.hid hin.1
      have hl400 := hin.2.2
      have hy : (-100000) ≤ y ∧ y ≤ 100000 := by simpa [inB] using h2
      clear hin
      go_enter Try.func28, Try.ntmps28
      go_wp2_with (first | (go_at_call 44; refine (l00In_any _ _ _ _).mono ?_; rintro e w' ⟨rfl, rfl⟩) | (go_at_call 46; refine (l08List_any _ _ _ hx (by omega)).mono ?_; rintro e w' ⟨rfl, rfl⟩))
      have hown0 : OI w.heap.size (w.alloc (.cells #[] 2)) (.slice (some ⟨w.heap.size, 0, none⟩) 0 0) [] := OK.made _ _ _ (Nat.le_refl _)
      have hbl0 : Below w.heap.size w (w.alloc (.cells #[] 2)) := (Below.refl _ _).alloc (Nat.le_refl _) _
      generalize w.alloc (.cells #[] 2) = w2 at *
      generalize Value.slice (some ⟨w.heap.size, 0, none⟩) 0 0 = v0 at *
      go_loopw [6, 7] (fun out iv wr => ∃ k : Nat, k ≤ xs.length ∧ iv = .int .i64 k ∧ OI w.heap.size wr out (mapS (spreadF y) xs k) ∧ Below w.heap.size w wr) (fun _ iv _ => xs.length - (intOf iv).toNat)
      case atStart => exact ⟨0, Nat.zero_le _, rfl, hown0, hbl0⟩
      case round =>
        obtain ⟨k, hk, rfl, hown, hb⟩ := hrel
        clear hown0 hbl0
        have hz := hb.size
        have hl : (mapS (spreadF y) xs k).length ≤ 1099511627776 := by rw [mapS_len]; omega
        by_cases hlt : k < xs.length
        · obtain ⟨g', off, rfl, hg', hce⟩ := (hx.later hb).at k hlt
          have hxk := HI.out k hlt
          have HE : Hid (mapS (spreadF y) xs (k + 1) = mapS (spreadF y) xs k ++ [(spreadF y) k (xs.getD k 0)]) := rfl
          generalize xs.getD k 0 = x at *
          have e : ∀ i : Nat, i % 2 = 0 ∨ i % 2 = 1 := fun i => by omega
          rcases e k with h9 | h9
          · have h1' : ((k : Int) % 2 == 0) = true := by rw [beq_iff_eq]; omega
            have HE2 : Hid (mapS (spreadF y) xs (k + 1) = mapS (spreadF y) xs k ++ [x + y]) := by have := HE.out; rw [spreadF, if_neg (by omega)] at this; exact this
            clear h9 e
            go_wp2_with (at_builtin; refine wpl_app_i64 rfl _ _ rfl w.heap.size _ _ rfl (hown.alloc _) _ _ _ rfl (World.cell?_alloc_at _ _ _ _ rfl) hl (by simp; omega) ?_; intro v' w1 hown1 hgr)
            have hb1 : Below w.heap.size w w1 := own_below (hb.alloc hz _) (hown.alloc _) hgr (by simp; omega)
            rw [← HE2.out] at hown1
            go_roundw
            case rel => exact ⟨k + 1, by omega, by go_num, hown1, hb1⟩
            case measure => first | (simp [intOf]; done) | (simp [intOf]; omega)
          · have h1' : ((k : Int) % 2 == 0) = false := by rw [beq_eq_false_iff_ne]; omega
            have HE2 : Hid (mapS (spreadF y) xs (k + 1) = mapS (spreadF y) xs k ++ [x - y]) := by have := HE.out; rw [spreadF, if_pos h9] at this; exact this
            clear h9 e
            go_wp2_with (at_builtin; refine wpl_app_i64 rfl _ _ rfl w.heap.size _ _ rfl (hown.alloc _) _ _ _ rfl (World.cell?_alloc_at _ _ _ _ rfl) hl (by simp; omega) ?_; intro v' w1 hown1 hgr)
            have hb1 : Below w.heap.size w w1 := own_below (hb.alloc hz _) (hown.alloc _) hgr (by simp; omega)
            rw [← HE2.out] at hown1
            go_roundw
            case rel => exact ⟨k + 1, by omega, by go_num, hown1, hb1⟩
            case measure => first | (simp [intOf]; done) | (simp [intOf]; omega)
        · have hkk : k = xs.length := by omega
          subst hkk
          by_cases h3 : strOk (mapS (spreadF y) xs xs.length) = true
          · have HR : Hid (remOk (spreadF y) xs y = true) := by
              have : inB y (-100000) 100000 = true := by simp [inB]; omega
              simp [Hid, remOk, h1, this, h3]
            go_wp2_with (go_at_call 46; refine (l08List_any _ _ _ hown.read hl).mono ?_; rintro e w' ⟨rfl, rfl⟩)
            go_ret2
            exact RemPost.yes HR.out hown hb
          · simp only [Bool.not_eq_true] at h3
            have HR : Hid (remOk (spreadF y) xs y = false) := by simp [Hid, remOk, h3]
            go_wp2_with (go_at_call 46; refine (l08List_any _ _ _ hown.read hl).mono ?_; rintro e w' ⟨rfl, rfl⟩)
            go_ret2
            exact RemPost.no HR.out hb
    · simp only [Bool.not_eq_true] at h2
      have HR : Hid (remOk (spreadF y) xs y = false) := spread_no h2
      go_enter Try.func28, Try.ntmps28
      go_wp2_with (first | (go_at_call 44; refine (l00In_any _ _ _ _).mono ?_; rintro e w' ⟨rfl, rfl⟩) | (go_at_call 46; refine (l08List_any _ _ _ hx (by omega)).mono ?_; rintro e w' ⟨rfl, rfl⟩))
      go_ret2
      exact RemPost.no HR.out (Below.refl _ _)
  · simp only [Bool.not_eq_true] at h1
    have HR : Hid (remOk (spreadF y) xs y = false) := by simp [Hid, remOk, h1]
    go_enter Try.func28, Try.ntmps28
    go_wp2_with (go_at_call 46; refine (l08List_any _ _ _ hx (by omega)).mono ?_; rintro e w' ⟨rfl, rfl⟩)
    go_ret2
    exact RemPost.no HR.out (Below.refl _ _)

set_option maxHeartbeats 2000000 in
theorem lawScaleStripes_any (v : Value) (xs : List Int) (y : Int) (w : World) (hx : RI w v xs) :
    Calls Try.prog 7 #[v, .int .i64 y] w fun e w' => e = .returned (.bool true) ∧ Below w.heap.size w w' := by
  obtain ⟨a, c, rfl⟩ := hx.slice
  by_cases hm : xs.length ≤ 1048576
  · have hlen := remL_len (scaleF y) xs y
    go_enter Try.func7, Try.ntmps7
    go_wp2_with fail
    refine (toInt64S_any _ _ _ hx hm).mono ?_
    rintro e w1 ⟨t0, rfl, o, hb⟩
    have hs1 := hb.size
    go_wp2_with fail
    refine (specScaleStripes_any _ _ _ _ o.read hm).mono ?_
    rintro e w2 ⟨v0, rfl, o0, hb2⟩
    have hb := later3s hb hb2 (by omega)
    have hs2 := hb2.size
    have d0 : ∀ k ∈ vb v0, k < w2.heap.size := fun k hk => (o0.vb k hk).2
    clear hb2 o
    go_wp2_with fail
    refine (toInt64S_any _ _ _ (hx.later hb) hm).mono ?_
    rintro e w3 ⟨x0, rfl, ox, hb2⟩
    have hb := later3s hb hb2 (by omega)
    have o0 := o0.later hb2
    have hs3 := hb2.size
    have dx : ∀ k ∈ vb x0, w2.heap.size ≤ k ∧ k < w3.heap.size := fun k hk => ox.vb k hk
    clear hb2
    go_wp2_with fail
    refine (implScaleStripes_any _ _ _ _ ox.read hm).mono ?_
    rintro e w4 ⟨v1, rfl, o1, hb2⟩
    have hb := later3s hb hb2 (by omega)
    have o0 := o0.later hb2
    have ox := ox.later hb2
    have hs4 := hb2.size
    have d1 : ∀ k ∈ vb v1, w3.heap.size ≤ k := fun k hk => (o1.vb k hk).1
    clear hb2
    go_wp2_with fail
    refine (eqInt64S_yes _ _ _ _ o1.read o0.read (by omega)).mono ?_
    rintro e w5 ⟨rfl, hb2⟩
    have hb := later3s hb hb2 (by omega)
    have o0 := o0.later hb2
    have o1 := o1.later hb2
    have ox := ox.later hb2
    have hs5 := hb2.size
    clear hb2
    go_wp2_with fail
    refine (toInt64S_any _ _ _ (hx.later hb) hm).mono ?_
    rintro e w6 ⟨t1, rfl, ot, hb2⟩
    have hb := later3s hb hb2 (by omega)
    have o0 := o0.later hb2
    have o1 := o1.later hb2
    have ox := ox.later hb2
    have hs6 := hb2.size
    clear hb2
    go_wp2_with fail
    refine (eqInt64S_yes _ _ _ _ ox.read ot.read (by omega)).mono ?_
    rintro e w7 ⟨rfl, hb2⟩
    have hb := later3s hb hb2 (by omega)
    have o0 := o0.later hb2
    have o1 := o1.later hb2
    have ox := ox.later hb2
    have hs7 := hb2.size
    clear hb2 ot
    go_wp2_with fail
    refine (markInt64S_any _ _ _ _ _ ox (by omega) (by omega)).mono ?_
    rintro e w8 ⟨rfl, ox, hc⟩
    have hb := hc.below hb (fun k hk => by have := dx k hk; omega) (by omega)
    have o0 := o0.chg hc (fun k hk hk' => by have := d0 k hk; have := dx k hk'; omega)
    have o1 := o1.chg hc (fun k hk hk' => by have := d1 k hk; have := dx k hk'; omega)
    have hs8 := hc.size
    clear hc ox
    go_wp2_with fail
    refine (eqInt64S_yes _ _ _ _ o1.read o0.read (by omega)).mono ?_
    rintro e w9 ⟨rfl, hb2⟩
    have hb := later3s hb hb2 (by omega)
    have o0 := o0.later hb2
    have o1 := o1.later hb2
    have hs9 := hb2.size
    clear hb2
    go_wp2_with fail
    refine (markInt64S_any _ _ _ _ _ o1 (by omega) (by omega)).mono ?_
    rintro e w10 ⟨rfl, o1, hc⟩
    have hb := hc.below hb (fun k hk => by have := d1 k hk; omega) (by omega)
    have o0 := o0.chg hc (fun k hk hk' => by have := d0 k hk; have := d1 k hk'; omega)
    have hs10 := hc.size
    clear hc
    go_wp2_with fail
    refine (heldInt64S_yes _ _ _ _ o1.read (by omega) (by omega)).mono ?_
    rintro e w' ⟨rfl, rfl⟩
    go_wp2_with fail
    refine (toInt64S_any _ _ _ (hx.later hb) hm).mono ?_
    rintro e w11 ⟨t2, rfl, ot, hb2⟩
    have hb := later3s hb hb2 (by omega)
    have o0 := o0.later hb2
    have o1 := o1.later hb2
    have hs11 := hb2.size
    clear hb2
    go_wp2_with fail
    refine (implScaleStripes_any _ _ _ _ ot.read hm).mono ?_
    rintro e w12 ⟨v2, rfl, o2, hb2⟩
    have hb := later3s hb hb2 (by omega)
    have o0 := o0.later hb2
    have o1 := o1.later hb2
    have hs12 := hb2.size
    clear hb2 ot
    go_wp2_with fail
    refine (eqInt64S_yes _ _ _ _ o2.read o0.read (by omega)).mono ?_
    rintro e w13 ⟨rfl, hb2⟩
    have hb := later3s hb hb2 (by omega)
    have o1 := o1.later hb2
    clear hb2
    go_wp2_with fail
    refine (heldInt64S_yes _ _ _ _ o1.read (by omega) (by omega)).mono ?_
    rintro e w' ⟨rfl, rfl⟩
    go_wp2_with fail
    go_ret
    exact ⟨rfl, hb⟩
  · go_enter Try.func7, Try.ntmps7
    go_wp2_with fail
    go_ret
    exact ⟨rfl, Below.refl _ _⟩
set_option maxHeartbeats 2000000 in
theorem lawSpreadStripes_any (v : Value) (xs : List Int) (y : Int) (w : World) (hx : RI w v xs) :
    Calls Try.prog 9 #[v, .int .i64 y] w fun e w' => e = .returned (.bool true) ∧ Below w.heap.size w w' := by
  obtain ⟨a, c, rfl⟩ := hx.slice
  by_cases hm : xs.length ≤ 1048576
  · have hlen := remL_len (spreadF y) xs y
    go_enter Try.func9, Try.ntmps9
    go_wp2_with fail
    refine (toInt64S_any _ _ _ hx hm).mono ?_
    rintro e w1 ⟨t0, rfl, o, hb⟩
    have hs1 := hb.size
    go_wp2_with fail
    refine (specSpreadStripes_any _ _ _ _ o.read hm).mono ?_
    rintro e w2 ⟨v0, rfl, o0, hb2⟩
    have hb := later3s hb hb2 (by omega)
    have hs2 := hb2.size
    have d0 : ∀ k ∈ vb v0, k < w2.heap.size := fun k hk => (o0.vb k hk).2
    clear hb2 o
    go_wp2_with fail
    refine (toInt64S_any _ _ _ (hx.later hb) hm).mono ?_
    rintro e w3 ⟨x0, rfl, ox, hb2⟩
    have hb := later3s hb hb2 (by omega)
    have o0 := o0.later hb2
    have hs3 := hb2.size
    have dx : ∀ k ∈ vb x0, w2.heap.size ≤ k ∧ k < w3.heap.size := fun k hk => ox.vb k hk
    clear hb2
    go_wp2_with fail
    refine (implSpreadStripes_any _ _ _ _ ox.read hm).mono ?_
    rintro e w4 ⟨v1, rfl, o1, hb2⟩
    have hb := later3s hb hb2 (by omega)
    have o0 := o0.later hb2
    have ox := ox.later hb2
    have hs4 := hb2.size
    have d1 : ∀ k ∈ vb v1, w3.heap.size ≤ k := fun k hk => (o1.vb k hk).1
    clear hb2
    go_wp2_with fail
    refine (eqInt64S_yes _ _ _ _ o1.read o0.read (by omega)).mono ?_
    rintro e w5 ⟨rfl, hb2⟩
    have hb := later3s hb hb2 (by omega)
    have o0 := o0.later hb2
    have o1 := o1.later hb2
    have ox := ox.later hb2
    have hs5 := hb2.size
    clear hb2
    go_wp2_with fail
    refine (toInt64S_any _ _ _ (hx.later hb) hm).mono ?_
    rintro e w6 ⟨t1, rfl, ot, hb2⟩
    have hb := later3s hb hb2 (by omega)
    have o0 := o0.later hb2
    have o1 := o1.later hb2
    have ox := ox.later hb2
    have hs6 := hb2.size
    clear hb2
    go_wp2_with fail
    refine (eqInt64S_yes _ _ _ _ ox.read ot.read (by omega)).mono ?_
    rintro e w7 ⟨rfl, hb2⟩
    have hb := later3s hb hb2 (by omega)
    have o0 := o0.later hb2
    have o1 := o1.later hb2
    have ox := ox.later hb2
    have hs7 := hb2.size
    clear hb2 ot
    go_wp2_with fail
    refine (markInt64S_any _ _ _ _ _ ox (by omega) (by omega)).mono ?_
    rintro e w8 ⟨rfl, ox, hc⟩
    have hb := hc.below hb (fun k hk => by have := dx k hk; omega) (by omega)
    have o0 := o0.chg hc (fun k hk hk' => by have := d0 k hk; have := dx k hk'; omega)
    have o1 := o1.chg hc (fun k hk hk' => by have := d1 k hk; have := dx k hk'; omega)
    have hs8 := hc.size
    clear hc ox
    go_wp2_with fail
    refine (eqInt64S_yes _ _ _ _ o1.read o0.read (by omega)).mono ?_
    rintro e w9 ⟨rfl, hb2⟩
    have hb := later3s hb hb2 (by omega)
    have o0 := o0.later hb2
    have o1 := o1.later hb2
    have hs9 := hb2.size
    clear hb2
    go_wp2_with fail
    refine (markInt64S_any _ _ _ _ _ o1 (by omega) (by omega)).mono ?_
    rintro e w10 ⟨rfl, o1, hc⟩
    have hb := hc.below hb (fun k hk => by have := d1 k hk; omega) (by omega)
    have o0 := o0.chg hc (fun k hk hk' => by have := d0 k hk; have := d1 k hk'; omega)
    have hs10 := hc.size
    clear hc
    go_wp2_with fail
    refine (heldInt64S_yes _ _ _ _ o1.read (by omega) (by omega)).mono ?_
    rintro e w' ⟨rfl, rfl⟩
    go_wp2_with fail
    refine (toInt64S_any _ _ _ (hx.later hb) hm).mono ?_
    rintro e w11 ⟨t2, rfl, ot, hb2⟩
    have hb := later3s hb hb2 (by omega)
    have o0 := o0.later hb2
    have o1 := o1.later hb2
    have hs11 := hb2.size
    clear hb2
    go_wp2_with fail
    refine (implSpreadStripes_any _ _ _ _ ot.read hm).mono ?_
    rintro e w12 ⟨v2, rfl, o2, hb2⟩
    have hb := later3s hb hb2 (by omega)
    have o0 := o0.later hb2
    have o1 := o1.later hb2
    have hs12 := hb2.size
    clear hb2 ot
    go_wp2_with fail
    refine (eqInt64S_yes _ _ _ _ o2.read o0.read (by omega)).mono ?_
    rintro e w13 ⟨rfl, hb2⟩
    have hb := later3s hb hb2 (by omega)
    have o1 := o1.later hb2
    clear hb2
    go_wp2_with fail
    refine (heldInt64S_yes _ _ _ _ o1.read (by omega) (by omega)).mono ?_
    rintro e w' ⟨rfl, rfl⟩
    go_wp2_with fail
    go_ret
    exact ⟨rfl, hb⟩
  · go_enter Try.func9, Try.ntmps9
    go_wp2_with fail
    go_ret
    exact ⟨rfl, Below.refl _ _⟩
end Go.Proofs.Ytjjohniabgamjaa
