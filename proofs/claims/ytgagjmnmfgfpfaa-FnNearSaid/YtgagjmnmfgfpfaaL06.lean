/- The flat table of costs, in the reference: for texts of at most 100 bytes. -/
import Derived.Test.YtgagjmnmfgfpfaaCosts
namespace Go.Proofs.Ytgagjmnmfgfpfaa
open Go.RowKit

/-- The flat table is filled from (i, k) on. -/
def Flat (sw : Bool) (a b : ByteArray) (xs : List Int) (i k : Nat) : Prop :=
  (∀ j l, i + 1 ≤ j → j ≤ a.size → l ≤ b.size → xs.getD (j * (b.size + 1) + l) 0 = cI sw a b j l) ∧ ∀ l, k ≤ l → l ≤ b.size → xs.getD (i * (b.size + 1) + l) 0 = cI sw a b i l
theorem flat_inj {n i k j l : Nat} (hk : k < n) (hl : l < n) (h : i * n + k = j * n + l) : i = j ∧ k = l := by
  have h1 : (i * n + k) / n = i := by rw [Nat.mul_comm, Nat.mul_add_div (by omega), Nat.div_eq_of_lt hk]; omega
  have h2 : (j * n + l) / n = j := by rw [Nat.mul_comm, Nat.mul_add_div (by omega), Nat.div_eq_of_lt hl]; omega
  have : i = j := by rw [← h1, ← h2, h]
  subst this
  exact ⟨rfl, by omega⟩
theorem Flat.set {sw : Bool} {a b : ByteArray} {xs : List Int} {i k : Nat} {z : Int} (h : Flat sw a b xs i (k + 1)) (hk : k ≤ b.size) (hlen : i * (b.size + 1) + k < xs.length) (hz : z = cI sw a b i k) : Flat sw a b (xs.set (i * (b.size + 1) + k) z) i k := by
  have hset : ∀ p, (xs.set (i * (b.size + 1) + k) z).getD p 0 = if i * (b.size + 1) + k = p then z else xs.getD p 0 := fun p => by
    rw [List.getD_eq_getElem?_getD, List.getElem?_set]
    by_cases e : i * (b.size + 1) + k = p
    · subst e; rw [if_pos rfl, if_pos rfl, if_pos hlen]; rfl
    · rw [if_neg e, if_neg e, List.getD_eq_getElem?_getD]
  refine ⟨fun j l h1 h2 h3 => ?_, fun l h1 h2 => ?_⟩
  · rw [hset, if_neg, h.1 j l h1 h2 h3]
    intro e
    have := flat_inj (show k < b.size + 1 by omega) (show l < b.size + 1 by omega) e
    omega
  · rw [hset]
    by_cases e : k = l
    · subst e; rw [if_pos rfl, hz]
    · rw [if_neg, h.2 l (by omega) h2]
      intro e'
      exact e (flat_inj (show k < b.size + 1 by omega) (show l < b.size + 1 by omega) e').2
theorem Flat.down {sw : Bool} {a b : ByteArray} {xs : List Int} {i : Nat} (h : Flat sw a b xs i 0) : ∀ j l, i ≤ j → j ≤ a.size → l ≤ b.size → xs.getD (j * (b.size + 1) + l) 0 = cI sw a b j l := fun j l h1 h2 h3 => by
  by_cases e : j = i
  · subst e; exact h.2 l (Nat.zero_le _) h3
  · exact h.1 j l (by omega) h2 h3
set_option maxHeartbeats 400000 in
theorem l00MinN_any (a b : Int) (w : World) :
    Calls Try.prog 75 #[.int .i64 a, .int .i64 b] w fun e w' => e = .returned (.int .i64 (mn b a)) ∧ w = w' := by
  by_cases h : a < b
  all_goals
    have hm := Lib.hid (mn_eq b a)
    go_enter Try.func75, Try.ntmps75
    go_wp2
    all_goals (go_ret; exact ⟨ret_i64 (by rw [hm.out]; omega), rfl⟩)
def FlatPost (a b : ByteArray) (sw : Bool) (w : World) (e : Ending) (w' : World) : Prop :=
  ∃ xs n, e = .returned (.slice (some ⟨w.heap.size, 0, none⟩) n n) ∧ OI w.heap.size w' (.slice (some ⟨w.heap.size, 0, none⟩) n n) xs ∧ n = (a.size + 1) * (b.size + 1) ∧ (∀ j l, j ≤ a.size → l ≤ b.size → xs.getD (j * (b.size + 1) + l) 0 = cI sw a b j l) ∧ Below w.heap.size w w'
theorem FlatPost.mk {a b : ByteArray} {sw : Bool} {w w' : World} {n : Nat} (xs : List Int) (h1 : OI w.heap.size w' (.slice (some ⟨w.heap.size, 0, none⟩) n n) xs) (h2 : n = (a.size + 1) * (b.size + 1))
    (h3 : ∀ j l, j ≤ a.size → l ≤ b.size → xs.getD (j * (b.size + 1) + l) 0 = cI sw a b j l) (h4 : Below w.heap.size w w') : FlatPost a b sw w (.returned (.slice (some ⟨w.heap.size, 0, none⟩) n n)) w' := ⟨xs, n, rfl, h1, h2, h3, h4⟩

theorem OK.drewN {T : TypeId} {k : IntKind} {B : Nat} {w : World} {v : Value} {xs : List Int} (h : OK T k B w v xs) (n : Nat) : OK T k B (w.drewN n) v xs := h

set_option maxHeartbeats 4000000 in
set_option maxRecDepth 100000 in
theorem l06Costs_any (a b : ByteArray) (sw : Bool) (w : World) (ha : a.size ≤ 100) (hb : b.size ≤ 100) :
    Calls Try.prog 47 #[.string a, .string b, .bool sw] w (FlatPost a b sw w) := by
  obtain ⟨L, hL⟩ : ∃ L, L = (a.size + 1) * (b.size + 1) := ⟨_, rfl⟩
  have hLb : L ≤ 101 * 101 := by rw [hL]; exact Nat.mul_le_mul (by omega) (by omega)
  have fM : IntKind.i64.wrap (((a.size : Int) + 1) * ((b.size : Int) + 1)) = (L : Int) := by
    have : ((a.size : Int) + 1) * ((b.size : Int) + 1) = (L : Int) := by rw [hL]; push_cast; rfl
    rw [this]; exact IntWalk.i64_in _ (by omega)
  have HL := Lib.hid hL
  clear hL
  go_enter Try.func47, Try.ntmps47
  go_wp2_with (at_make; refine wpl_make_i64 rfl _ _ rfl w.heap.size .i64 .i64 _ _ L rfl rfl (by omega) (by omega) (by omega) (Nat.le_refl _) ?_; intro w1 hown hgr hlt)
  have hb1 : Below w.heap.size w w1 := (Below.refl _ _).grown hgr (Nat.le_refl _) (by simp)
  clear hgr fM hlt
  go_loopw [9, 10, 11] (fun iv _ _ wr => ∃ (i0 : Nat) (q : Int) (xs : List Int), iv = .int .i64 q ∧ Hid (q = (i0 : Int) - 1) ∧ q < i0 ∧ i0 ≤ a.size + 1 ∧ OI w.heap.size wr (.slice (some ⟨w.heap.size, 0, none⟩) L L) xs ∧ Hid (∀ j l, i0 ≤ j → j ≤ a.size → l ≤ b.size → xs.getD (j * (b.size + 1) + l) 0 = cI sw a b j l) ∧ Below w.heap.size w wr) (fun iv _ _ _ => (intOf iv + 1).toNat)
  case atStart => exact ⟨a.size + 1, _, _, rfl, (by unfold Hid; omega), by omega, by omega, hown, (fun j l h1 h2 => by omega), hb1⟩
  case round =>
    obtain ⟨i0, q, xs, rfl, Hq, hqi, hi0, hO, HF, hbw⟩ := hrel
    clear hown hb1
    by_cases hq : 0 ≤ q
    · obtain ⟨i, rfl⟩ := Int.eq_ofNat_of_zero_le hq
      obtain rfl : i0 = i + 1 := by have := Hq.out; omega
      clear Hq hq hqi
      have HF2 : Hid (Flat sw a b xs i (b.size + 1)) := ⟨HF.out, fun l h1 h2 => by omega⟩
      clear HF
      go_wp2_with fail
      go_loopw [10, 11] (fun kv _ wr => ∃ (kk : Nat) (q : Int) (xs : List Int), kv = .int .i64 q ∧ Hid (q = (kk : Int) - 1) ∧ q < kk ∧ kk ≤ b.size + 1 ∧ OI w.heap.size wr (.slice (some ⟨w.heap.size, 0, none⟩) L L) xs ∧ Hid (Flat sw a b xs i kk) ∧ Below w.heap.size w wr) (fun kv _ _ => (intOf kv + 1).toNat)
      case atStart => exact ⟨b.size + 1, _, xs, rfl, (by unfold Hid; omega), by omega, by omega, hO, HF2, hbw⟩
      case round =>
        obtain ⟨kk, q, xs, rfl, Hq, hqk, hkk, hR, HF, hB⟩ := hrel
        clear hO HF2 hbw
        by_cases hq : 0 ≤ q
        · obtain ⟨k, rfl⟩ := Int.eq_ofNat_of_zero_le hq
          obtain rfl : kk = k + 1 := by have := Hq.out; omega
          clear Hq hq hqk
          have hxl : xs.length = L := by have := OV.len hR; simpa using this.symm
          obtain ⟨p, hp⟩ : ∃ p, p = i * (b.size + 1) := ⟨_, rfl⟩
          have hp1 : (i + 1) * (b.size + 1) = p + (b.size + 1) := by rw [hp, Nat.succ_mul]
          have hp2 : (i + 2) * (b.size + 1) = p + (b.size + 1) + (b.size + 1) := by rw [Nat.succ_mul, hp1]
          have hpL : p + (b.size + 1) ≤ L := by rw [HL.out, ← hp1]; exact Nat.mul_le_mul_right _ (by omega)
          have g0 : IntKind.i64.wrap ((i : Int) * ((b.size : Int) + 1)) = (p : Int) := by
            have : (i : Int) * ((b.size : Int) + 1) = (p : Int) := by rw [hp]; push_cast; rfl
            rw [this]; exact IntWalk.i64_in _ (by omega)
          have hset : Hid (∀ z : Int, z = cI sw a b i k → Flat sw a b (xs.set (p + k) z) i k) := fun z hz => by
            have := HF.out.set (by omega) (by rw [← hp]; omega) hz
            rw [← hp] at this; exact this
          have hfR := hR.frozen (p + k)
          have hz0 := hR.cell (p + k) (by omega)
          generalize hz0' : xs.getD (p + k) 0 = z0 at *
          clear hz0'
          have hmn := run_mn
          by_cases hi : i < a.size
          · have hp1L : p + (b.size + 1) + (b.size + 1) ≤ L := by rw [HL.out, ← hp2]; exact Nat.mul_le_mul_right _ (by omega)
            have g1 : IntKind.i64.wrap (((i : Int) + 1) * ((b.size : Int) + 1)) = (p : Int) + ((b.size : Int) + 1) := by
              have : ((i : Int) + 1) * ((b.size : Int) + 1) = (p : Int) + ((b.size : Int) + 1) := by
                have := congrArg (fun n : Nat => (n : Int)) hp1
                push_cast at this; exact this
              rw [this]; exact IntWalk.i64_in _ (by omega)
            by_cases hk : k < b.size
            · have hd := hR.cell (p + (b.size + 1) + k) (by omega)
              have he := hR.cell (p + k + 1) (by omega)
              have hs := hR.cell (p + (b.size + 1) + k + 1) (by omega)
              have vd := HF.out.1 (i + 1) k (by omega) (by omega) (by omega)
              have ve := HF.out.2 (k + 1) (by omega) (by omega)
              have vs := HF.out.1 (i + 1) (k + 1) (by omega) (by omega) (by omega)
              rw [hp1] at vd vs
              rw [← hp] at ve
              rw [vd] at hd
              rw [show p + (k + 1) = p + k + 1 by omega] at ve
              rw [show p + (b.size + 1) + (k + 1) = p + (b.size + 1) + k + 1 by omega] at vs
              rw [ve] at he
              rw [vs] at hs
              clear vd ve vs
              have hdb := cI_bd sw a b (i + 1) k
              have heb := cI_bd sw a b i (k + 1)
              have hsb := cI_bd sw a b (i + 1) (k + 1)
              have hboth := cAt_both sw (bz a) (bz b) i k (by rw [bz_len]; omega) (by rw [bz_len]; omega)
              have HB := Lib.hid hboth
              have hg1 := Lib.hid (bz_get a i hi)
              have hg2 := Lib.hid (bz_get b k hk)
              clear hboth
              generalize hd' : cI sw a b (i + 1) k = d at *
              generalize he' : cI sw a b i (k + 1) = e at *
              generalize hs' : cI sw a b (i + 1) (k + 1) = s at *
              have HD := Lib.hid hd'
              have HE := Lib.hid he'
              have HS := Lib.hid hs'
              have HP2 := Lib.hid hp2
              have HP3 : Hid ((i + 3) * (b.size + 1) = p + (b.size + 1) + (b.size + 1) + (b.size + 1)) := by unfold Hid; rw [Nat.succ_mul, hp2]
              clear hd' he' hs' hp hp1 hp2
              by_cases hxy : (a[i].toNat : Int) = b[k].toNat
              · have hne : ((a[i].toNat : Int) != b[k].toNat) = false := by simp [hxy]
                have HXY : Hid ((bz a).getD i 0 = (bz b).getD k 0) := by unfold Hid; rw [hg1.out, hg2.out]; exact hxy
                clear hxy
                go_wp2_with (go_at_call 75; refine (l00MinN_any _ _ _).mono ?_; rintro e w' ⟨rfl, rfl⟩)
                go_quiet (fail)
                go_wp2_with (go_at_call 75; refine (l00MinN_any _ _ _).mono ?_; rintro e w' ⟨rfl, rfl⟩)
                clear hd he hs
                have f1 : IntKind.i64.wrap ((i : Int) + 1) = (i : Int) + 1 := IntWalk.i64_in _ (by omega)
                have f2 : IntKind.i64.wrap ((k : Int) + 1) = (k : Int) + 1 := IntWalk.i64_in _ (by omega)
                have f3 : (0 : Int) ≤ (i : Int) := by omega
                have f4 : (0 : Int) ≤ (k : Int) := by omega
                have f5 : (0 : Int) ≤ (i : Int) + 1 := by omega
                have f6 : (0 : Int) ≤ (k : Int) + 1 := by omega
                have f7 : ((i : Int) + 1).toNat = i + 1 := by omega
                have f8 : ((k : Int) + 1).toNat = k + 1 := by omega
                cases sw
                · have HZ : Hid (∀ z : Int, z = min (min (d + 1) (e + 1)) (s + 0) → z = cI false a b i k) := fun z hz => by
                    have h1 := HB.out
                    rw [(if_pos HXY.out)] at h1
                    simp only [Bool.false_and, Bool.false_eq_true, if_false] at h1
                    rw [hz, ← HD.out, ← HE.out, ← HS.out]
                    unfold cI
                    rw [h1]
                    omega
                  go_quiet (fail)
                  go_wp2_with (go_at_call 75; refine (l00MinN_any _ _ _).mono ?_; rintro e w' ⟨rfl, rfl⟩)
                  go_roundw
                  case rel =>
                    refine ⟨k, _, _, rfl, (by unfold Hid; omega), by omega, by omega, ((hR.stored (p + k) _).1).drewN _, hset.out _ (HZ.out _ ?_), below_drewN (hB.setCell (Nat.le_refl _) _) _⟩
                    (try simp only [mn_eq])
                    omega
                  case measure => first | (simp [intOf]; done) | (simp [intOf]; omega)
                · by_cases c1 : i + 1 < a.size
                  · have d1 : decide ((i : Int) + 1 < (a.size : Int)) = true := by simp; omega
                    have e1 : (i : Int) + 1 < (a.size : Int) := by omega
                    have e1' : (i : Int) < (a.size : Int) := by omega
                    by_cases c2 : k + 1 < b.size
                    · have d2 : decide ((k : Int) + 1 < (b.size : Int)) = true := by simp; omega
                      have e2 : (k : Int) + 1 < (b.size : Int) := by omega
                      have e2' : (k : Int) < (b.size : Int) := by omega
                      have HSA : Hid (swA (bz a) (bz b) i k = (decide ((a[i].toNat : Int) ≠ a[i + 1].toNat) && (decide ((a[i].toNat : Int) = b[k + 1].toNat) && decide ((a[i + 1].toNat : Int) = b[k].toNat)))) := by
                        unfold Hid swA
                        rw [bz_get a i hi, bz_get a (i + 1) c1, bz_get b k hk, bz_get b (k + 1) c2, bz_len, bz_len, decide_eq_true c1, decide_eq_true c2]
                        rfl
                      by_cases c3 : (a[i].toNat : Int) = a[i + 1].toNat
                      · have HSW : swA (bz a) (bz b) i k = false := by rw [HSA.out]; simp [c3]
                        have d3 : ((a[i].toNat : Int) != a[i + 1].toNat) = false := by simp [c3]
                        clear c3 HSA
                        have HZ : Hid (∀ z : Int, z = min (min (d + 1) (e + 1)) (s + 0) → z = cI true a b i k) := fun z hz => by
                          have h1 := HB.out
                          rw [(if_pos HXY.out), HSW] at h1
                          simp only [Bool.and_false, Bool.false_eq_true, if_false] at h1
                          rw [hz, ← HD.out, ← HE.out, ← HS.out]
                          unfold cI
                          rw [h1]
                          omega
                        clear HSW
                        go_quiet (fail)
                        go_wp2_with (go_at_call 75; refine (l00MinN_any _ _ _).mono ?_; rintro e w' ⟨rfl, rfl⟩)
                        go_roundw
                        case rel =>
                          refine ⟨k, _, _, rfl, (by unfold Hid; omega), by omega, by omega, ((hR.stored (p + k) _).1).drewN _, hset.out _ (HZ.out _ ?_), below_drewN (hB.setCell (Nat.le_refl _) _) _⟩
                          (try simp only [mn_eq])
                          omega
                        case measure => first | (simp [intOf]; done) | (simp [intOf]; omega)
                      · have d3 : ((a[i].toNat : Int) != a[i + 1].toNat) = true := by simp; omega
                        by_cases c4 : (a[i].toNat : Int) = b[k + 1].toNat
                        · have d4 : ((a[i].toNat : Int) == b[k + 1].toNat) = true := by simp [c4]
                          by_cases c5 : (a[i + 1].toNat : Int) = b[k].toNat
                          · have d5 : ((a[i + 1].toNat : Int) == b[k].toNat) = true := by simp [c5]
                            have HSW : swA (bz a) (bz b) i k = true := by rw [HSA.out, decide_eq_true c3, decide_eq_true c4, decide_eq_true c5]; rfl
                            clear c3 c4 c5 HSA
                            have hp2L : p + (b.size + 1) + (b.size + 1) + (b.size + 1) ≤ L := by rw [HL.out, ← HP3.out]; exact Nat.mul_le_mul_right _ (by omega)
                            have hx := hR.cell (p + (b.size + 1) + (b.size + 1) + k + 2) (by omega)
                            have vx := HF.out.1 (i + 2) (k + 2) (by omega) (by omega) (by omega)
                            rw [HP2.out, show p + (b.size + 1) + (b.size + 1) + (k + 2) = p + (b.size + 1) + (b.size + 1) + k + 2 by omega] at vx
                            rw [vx] at hx
                            clear vx
                            have hxb := cI_bd true a b (i + 2) (k + 2)
                            generalize hx' : cI true a b (i + 2) (k + 2) = x at *
                            have HX := Lib.hid hx'
                            clear hx'
                            have g2 : IntKind.i64.wrap (((i : Int) + 2) * ((b.size : Int) + 1)) = (p : Int) + ((b.size : Int) + 1) + ((b.size : Int) + 1) := by
                              have : ((i : Int) + 2) * ((b.size : Int) + 1) = (p : Int) + ((b.size : Int) + 1) + ((b.size : Int) + 1) := by
                                have := congrArg (fun n : Nat => (n : Int)) HP2.out
                                push_cast at this; exact this
                              rw [this]; exact IntWalk.i64_in _ (by omega)
                            have HZ : Hid (∀ z : Int, z = min (min (min (d + 1) (e + 1)) (s + 0)) (x + 1) → z = cI true a b i k) := fun z hz => by
                              have h1 := HB.out
                              rw [(if_pos HXY.out), HSW] at h1
                              simp only [Bool.true_and, if_true] at h1
                              rw [hz, ← HD.out, ← HE.out, ← HS.out, ← HX.out]
                              unfold cI
                              rw [h1]
                              omega
                            clear HSW
                            go_quiet (fail)
                            go_wp2_with (go_at_call 75; refine (l00MinN_any _ _ _).mono ?_; rintro e w' ⟨rfl, rfl⟩)
                            go_roundw
                            case rel =>
                              refine ⟨k, _, _, rfl, (by unfold Hid; omega), by omega, by omega, ((hR.stored (p + k) _).1).drewN _, hset.out _ (HZ.out _ ?_), below_drewN (hB.setCell (Nat.le_refl _) _) _⟩
                              (try simp only [mn_eq])
                              omega
                            case measure => first | (simp [intOf]; done) | (simp [intOf]; omega)
                          · have d5 : ((a[i + 1].toNat : Int) == b[k].toNat) = false := by simp; omega
                            have HSW : swA (bz a) (bz b) i k = false := by rw [HSA.out, decide_eq_false c5]; simp
                            clear c3 c4 c5 HSA
                            have HZ : Hid (∀ z : Int, z = min (min (d + 1) (e + 1)) (s + 0) → z = cI true a b i k) := fun z hz => by
                              have h1 := HB.out
                              rw [(if_pos HXY.out), HSW] at h1
                              simp only [Bool.and_false, Bool.false_eq_true, if_false] at h1
                              rw [hz, ← HD.out, ← HE.out, ← HS.out]
                              unfold cI
                              rw [h1]
                              omega
                            clear HSW
                            go_quiet (fail)
                            go_wp2_with (go_at_call 75; refine (l00MinN_any _ _ _).mono ?_; rintro e w' ⟨rfl, rfl⟩)
                            go_roundw
                            case rel =>
                              refine ⟨k, _, _, rfl, (by unfold Hid; omega), by omega, by omega, ((hR.stored (p + k) _).1).drewN _, hset.out _ (HZ.out _ ?_), below_drewN (hB.setCell (Nat.le_refl _) _) _⟩
                              (try simp only [mn_eq])
                              omega
                            case measure => first | (simp [intOf]; done) | (simp [intOf]; omega)
                        · have d4 : ((a[i].toNat : Int) == b[k + 1].toNat) = false := by simp; omega
                          have HSW : swA (bz a) (bz b) i k = false := by rw [HSA.out, decide_eq_false c4]; simp
                          clear c3 c4 HSA
                          have HZ : Hid (∀ z : Int, z = min (min (d + 1) (e + 1)) (s + 0) → z = cI true a b i k) := fun z hz => by
                            have h1 := HB.out
                            rw [(if_pos HXY.out), HSW] at h1
                            simp only [Bool.and_false, Bool.false_eq_true, if_false] at h1
                            rw [hz, ← HD.out, ← HE.out, ← HS.out]
                            unfold cI
                            rw [h1]
                            omega
                          clear HSW
                          go_quiet (fail)
                          go_wp2_with (go_at_call 75; refine (l00MinN_any _ _ _).mono ?_; rintro e w' ⟨rfl, rfl⟩)
                          go_roundw
                          case rel =>
                            refine ⟨k, _, _, rfl, (by unfold Hid; omega), by omega, by omega, ((hR.stored (p + k) _).1).drewN _, hset.out _ (HZ.out _ ?_), below_drewN (hB.setCell (Nat.le_refl _) _) _⟩
                            (try simp only [mn_eq])
                            omega
                          case measure => first | (simp [intOf]; done) | (simp [intOf]; omega)
                    · have d2 : decide ((k : Int) + 1 < (b.size : Int)) = false := by simp; omega
                      have HSW : swA (bz a) (bz b) i k = false := by unfold swA; rw [bz_len, bz_len, decide_eq_false c2]; simp
                      have HZ : Hid (∀ z : Int, z = min (min (d + 1) (e + 1)) (s + 0) → z = cI true a b i k) := fun z hz => by
                        have h1 := HB.out
                        rw [(if_pos HXY.out), HSW] at h1
                        simp only [Bool.and_false, Bool.false_eq_true, if_false] at h1
                        rw [hz, ← HD.out, ← HE.out, ← HS.out]
                        unfold cI
                        rw [h1]
                        omega
                      clear HSW
                      go_quiet (fail)
                      go_wp2_with (go_at_call 75; refine (l00MinN_any _ _ _).mono ?_; rintro e w' ⟨rfl, rfl⟩)
                      go_roundw
                      case rel =>
                        refine ⟨k, _, _, rfl, (by unfold Hid; omega), by omega, by omega, ((hR.stored (p + k) _).1).drewN _, hset.out _ (HZ.out _ ?_), below_drewN (hB.setCell (Nat.le_refl _) _) _⟩
                        (try simp only [mn_eq])
                        omega
                      case measure => first | (simp [intOf]; done) | (simp [intOf]; omega)
                  · have d1 : decide ((i : Int) + 1 < (a.size : Int)) = false := by simp; omega
                    have HSW : swA (bz a) (bz b) i k = false := by unfold swA; rw [bz_len, bz_len, decide_eq_false c1]; simp
                    have HZ : Hid (∀ z : Int, z = min (min (d + 1) (e + 1)) (s + 0) → z = cI true a b i k) := fun z hz => by
                      have h1 := HB.out
                      rw [(if_pos HXY.out), HSW] at h1
                      simp only [Bool.and_false, Bool.false_eq_true, if_false] at h1
                      rw [hz, ← HD.out, ← HE.out, ← HS.out]
                      unfold cI
                      rw [h1]
                      omega
                    clear HSW
                    go_quiet (fail)
                    go_wp2_with (go_at_call 75; refine (l00MinN_any _ _ _).mono ?_; rintro e w' ⟨rfl, rfl⟩)
                    go_roundw
                    case rel =>
                      refine ⟨k, _, _, rfl, (by unfold Hid; omega), by omega, by omega, ((hR.stored (p + k) _).1).drewN _, hset.out _ (HZ.out _ ?_), below_drewN (hB.setCell (Nat.le_refl _) _) _⟩
                      (try simp only [mn_eq])
                      omega
                    case measure => first | (simp [intOf]; done) | (simp [intOf]; omega)
              · have hne : ((a[i].toNat : Int) != b[k].toNat) = true := by simp; omega
                have HXY : Hid (¬ (bz a).getD i 0 = (bz b).getD k 0) := by unfold Hid; rw [hg1.out, hg2.out]; exact hxy
                clear hxy
                go_wp2_with (go_at_call 75; refine (l00MinN_any _ _ _).mono ?_; rintro e w' ⟨rfl, rfl⟩)
                go_quiet (fail)
                go_wp2_with (go_at_call 75; refine (l00MinN_any _ _ _).mono ?_; rintro e w' ⟨rfl, rfl⟩)
                clear hd he hs
                have f1 : IntKind.i64.wrap ((i : Int) + 1) = (i : Int) + 1 := IntWalk.i64_in _ (by omega)
                have f2 : IntKind.i64.wrap ((k : Int) + 1) = (k : Int) + 1 := IntWalk.i64_in _ (by omega)
                have f3 : (0 : Int) ≤ (i : Int) := by omega
                have f4 : (0 : Int) ≤ (k : Int) := by omega
                have f5 : (0 : Int) ≤ (i : Int) + 1 := by omega
                have f6 : (0 : Int) ≤ (k : Int) + 1 := by omega
                have f7 : ((i : Int) + 1).toNat = i + 1 := by omega
                have f8 : ((k : Int) + 1).toNat = k + 1 := by omega
                cases sw
                · have HZ : Hid (∀ z : Int, z = min (min (d + 1) (e + 1)) (s + 1) → z = cI false a b i k) := fun z hz => by
                    have h1 := HB.out
                    rw [(if_neg HXY.out)] at h1
                    simp only [Bool.false_and, Bool.false_eq_true, if_false] at h1
                    rw [hz, ← HD.out, ← HE.out, ← HS.out]
                    unfold cI
                    rw [h1]
                    omega
                  go_quiet (fail)
                  go_wp2_with (go_at_call 75; refine (l00MinN_any _ _ _).mono ?_; rintro e w' ⟨rfl, rfl⟩)
                  go_roundw
                  case rel =>
                    refine ⟨k, _, _, rfl, (by unfold Hid; omega), by omega, by omega, ((hR.stored (p + k) _).1).drewN _, hset.out _ (HZ.out _ ?_), below_drewN (hB.setCell (Nat.le_refl _) _) _⟩
                    (try simp only [mn_eq])
                    omega
                  case measure => first | (simp [intOf]; done) | (simp [intOf]; omega)
                · by_cases c1 : i + 1 < a.size
                  · have d1 : decide ((i : Int) + 1 < (a.size : Int)) = true := by simp; omega
                    have e1 : (i : Int) + 1 < (a.size : Int) := by omega
                    have e1' : (i : Int) < (a.size : Int) := by omega
                    by_cases c2 : k + 1 < b.size
                    · have d2 : decide ((k : Int) + 1 < (b.size : Int)) = true := by simp; omega
                      have e2 : (k : Int) + 1 < (b.size : Int) := by omega
                      have e2' : (k : Int) < (b.size : Int) := by omega
                      have HSA : Hid (swA (bz a) (bz b) i k = (decide ((a[i].toNat : Int) ≠ a[i + 1].toNat) && (decide ((a[i].toNat : Int) = b[k + 1].toNat) && decide ((a[i + 1].toNat : Int) = b[k].toNat)))) := by
                        unfold Hid swA
                        rw [bz_get a i hi, bz_get a (i + 1) c1, bz_get b k hk, bz_get b (k + 1) c2, bz_len, bz_len, decide_eq_true c1, decide_eq_true c2]
                        rfl
                      by_cases c3 : (a[i].toNat : Int) = a[i + 1].toNat
                      · have HSW : swA (bz a) (bz b) i k = false := by rw [HSA.out]; simp [c3]
                        have d3 : ((a[i].toNat : Int) != a[i + 1].toNat) = false := by simp [c3]
                        clear c3 HSA
                        have HZ : Hid (∀ z : Int, z = min (min (d + 1) (e + 1)) (s + 1) → z = cI true a b i k) := fun z hz => by
                          have h1 := HB.out
                          rw [(if_neg HXY.out), HSW] at h1
                          simp only [Bool.and_false, Bool.false_eq_true, if_false] at h1
                          rw [hz, ← HD.out, ← HE.out, ← HS.out]
                          unfold cI
                          rw [h1]
                          omega
                        clear HSW
                        go_quiet (fail)
                        go_wp2_with (go_at_call 75; refine (l00MinN_any _ _ _).mono ?_; rintro e w' ⟨rfl, rfl⟩)
                        go_roundw
                        case rel =>
                          refine ⟨k, _, _, rfl, (by unfold Hid; omega), by omega, by omega, ((hR.stored (p + k) _).1).drewN _, hset.out _ (HZ.out _ ?_), below_drewN (hB.setCell (Nat.le_refl _) _) _⟩
                          (try simp only [mn_eq])
                          omega
                        case measure => first | (simp [intOf]; done) | (simp [intOf]; omega)
                      · have d3 : ((a[i].toNat : Int) != a[i + 1].toNat) = true := by simp; omega
                        by_cases c4 : (a[i].toNat : Int) = b[k + 1].toNat
                        · have d4 : ((a[i].toNat : Int) == b[k + 1].toNat) = true := by simp [c4]
                          by_cases c5 : (a[i + 1].toNat : Int) = b[k].toNat
                          · have d5 : ((a[i + 1].toNat : Int) == b[k].toNat) = true := by simp [c5]
                            have HSW : swA (bz a) (bz b) i k = true := by rw [HSA.out, decide_eq_true c3, decide_eq_true c4, decide_eq_true c5]; rfl
                            clear c3 c4 c5 HSA
                            have hp2L : p + (b.size + 1) + (b.size + 1) + (b.size + 1) ≤ L := by rw [HL.out, ← HP3.out]; exact Nat.mul_le_mul_right _ (by omega)
                            have hx := hR.cell (p + (b.size + 1) + (b.size + 1) + k + 2) (by omega)
                            have vx := HF.out.1 (i + 2) (k + 2) (by omega) (by omega) (by omega)
                            rw [HP2.out, show p + (b.size + 1) + (b.size + 1) + (k + 2) = p + (b.size + 1) + (b.size + 1) + k + 2 by omega] at vx
                            rw [vx] at hx
                            clear vx
                            have hxb := cI_bd true a b (i + 2) (k + 2)
                            generalize hx' : cI true a b (i + 2) (k + 2) = x at *
                            have HX := Lib.hid hx'
                            clear hx'
                            have g2 : IntKind.i64.wrap (((i : Int) + 2) * ((b.size : Int) + 1)) = (p : Int) + ((b.size : Int) + 1) + ((b.size : Int) + 1) := by
                              have : ((i : Int) + 2) * ((b.size : Int) + 1) = (p : Int) + ((b.size : Int) + 1) + ((b.size : Int) + 1) := by
                                have := congrArg (fun n : Nat => (n : Int)) HP2.out
                                push_cast at this; exact this
                              rw [this]; exact IntWalk.i64_in _ (by omega)
                            have HZ : Hid (∀ z : Int, z = min (min (min (d + 1) (e + 1)) (s + 1)) (x + 1) → z = cI true a b i k) := fun z hz => by
                              have h1 := HB.out
                              rw [(if_neg HXY.out), HSW] at h1
                              simp only [Bool.true_and, if_true] at h1
                              rw [hz, ← HD.out, ← HE.out, ← HS.out, ← HX.out]
                              unfold cI
                              rw [h1]
                              omega
                            clear HSW
                            go_quiet (fail)
                            go_wp2_with (go_at_call 75; refine (l00MinN_any _ _ _).mono ?_; rintro e w' ⟨rfl, rfl⟩)
                            go_roundw
                            case rel =>
                              refine ⟨k, _, _, rfl, (by unfold Hid; omega), by omega, by omega, ((hR.stored (p + k) _).1).drewN _, hset.out _ (HZ.out _ ?_), below_drewN (hB.setCell (Nat.le_refl _) _) _⟩
                              (try simp only [mn_eq])
                              omega
                            case measure => first | (simp [intOf]; done) | (simp [intOf]; omega)
                          · have d5 : ((a[i + 1].toNat : Int) == b[k].toNat) = false := by simp; omega
                            have HSW : swA (bz a) (bz b) i k = false := by rw [HSA.out, decide_eq_false c5]; simp
                            clear c3 c4 c5 HSA
                            have HZ : Hid (∀ z : Int, z = min (min (d + 1) (e + 1)) (s + 1) → z = cI true a b i k) := fun z hz => by
                              have h1 := HB.out
                              rw [(if_neg HXY.out), HSW] at h1
                              simp only [Bool.and_false, Bool.false_eq_true, if_false] at h1
                              rw [hz, ← HD.out, ← HE.out, ← HS.out]
                              unfold cI
                              rw [h1]
                              omega
                            clear HSW
                            go_quiet (fail)
                            go_wp2_with (go_at_call 75; refine (l00MinN_any _ _ _).mono ?_; rintro e w' ⟨rfl, rfl⟩)
                            go_roundw
                            case rel =>
                              refine ⟨k, _, _, rfl, (by unfold Hid; omega), by omega, by omega, ((hR.stored (p + k) _).1).drewN _, hset.out _ (HZ.out _ ?_), below_drewN (hB.setCell (Nat.le_refl _) _) _⟩
                              (try simp only [mn_eq])
                              omega
                            case measure => first | (simp [intOf]; done) | (simp [intOf]; omega)
                        · have d4 : ((a[i].toNat : Int) == b[k + 1].toNat) = false := by simp; omega
                          have HSW : swA (bz a) (bz b) i k = false := by rw [HSA.out, decide_eq_false c4]; simp
                          clear c3 c4 HSA
                          have HZ : Hid (∀ z : Int, z = min (min (d + 1) (e + 1)) (s + 1) → z = cI true a b i k) := fun z hz => by
                            have h1 := HB.out
                            rw [(if_neg HXY.out), HSW] at h1
                            simp only [Bool.and_false, Bool.false_eq_true, if_false] at h1
                            rw [hz, ← HD.out, ← HE.out, ← HS.out]
                            unfold cI
                            rw [h1]
                            omega
                          clear HSW
                          go_quiet (fail)
                          go_wp2_with (go_at_call 75; refine (l00MinN_any _ _ _).mono ?_; rintro e w' ⟨rfl, rfl⟩)
                          go_roundw
                          case rel =>
                            refine ⟨k, _, _, rfl, (by unfold Hid; omega), by omega, by omega, ((hR.stored (p + k) _).1).drewN _, hset.out _ (HZ.out _ ?_), below_drewN (hB.setCell (Nat.le_refl _) _) _⟩
                            (try simp only [mn_eq])
                            omega
                          case measure => first | (simp [intOf]; done) | (simp [intOf]; omega)
                    · have d2 : decide ((k : Int) + 1 < (b.size : Int)) = false := by simp; omega
                      have HSW : swA (bz a) (bz b) i k = false := by unfold swA; rw [bz_len, bz_len, decide_eq_false c2]; simp
                      have HZ : Hid (∀ z : Int, z = min (min (d + 1) (e + 1)) (s + 1) → z = cI true a b i k) := fun z hz => by
                        have h1 := HB.out
                        rw [(if_neg HXY.out), HSW] at h1
                        simp only [Bool.and_false, Bool.false_eq_true, if_false] at h1
                        rw [hz, ← HD.out, ← HE.out, ← HS.out]
                        unfold cI
                        rw [h1]
                        omega
                      clear HSW
                      go_quiet (fail)
                      go_wp2_with (go_at_call 75; refine (l00MinN_any _ _ _).mono ?_; rintro e w' ⟨rfl, rfl⟩)
                      go_roundw
                      case rel =>
                        refine ⟨k, _, _, rfl, (by unfold Hid; omega), by omega, by omega, ((hR.stored (p + k) _).1).drewN _, hset.out _ (HZ.out _ ?_), below_drewN (hB.setCell (Nat.le_refl _) _) _⟩
                        (try simp only [mn_eq])
                        omega
                      case measure => first | (simp [intOf]; done) | (simp [intOf]; omega)
                  · have d1 : decide ((i : Int) + 1 < (a.size : Int)) = false := by simp; omega
                    have HSW : swA (bz a) (bz b) i k = false := by unfold swA; rw [bz_len, bz_len, decide_eq_false c1]; simp
                    have HZ : Hid (∀ z : Int, z = min (min (d + 1) (e + 1)) (s + 1) → z = cI true a b i k) := fun z hz => by
                      have h1 := HB.out
                      rw [(if_neg HXY.out), HSW] at h1
                      simp only [Bool.and_false, Bool.false_eq_true, if_false] at h1
                      rw [hz, ← HD.out, ← HE.out, ← HS.out]
                      unfold cI
                      rw [h1]
                      omega
                    clear HSW
                    go_quiet (fail)
                    go_wp2_with (go_at_call 75; refine (l00MinN_any _ _ _).mono ?_; rintro e w' ⟨rfl, rfl⟩)
                    go_roundw
                    case rel =>
                      refine ⟨k, _, _, rfl, (by unfold Hid; omega), by omega, by omega, ((hR.stored (p + k) _).1).drewN _, hset.out _ (HZ.out _ ?_), below_drewN (hB.setCell (Nat.le_refl _) _) _⟩
                      (try simp only [mn_eq])
                      omega
                    case measure => first | (simp [intOf]; done) | (simp [intOf]; omega)
            · have HZ : Hid (∀ z : Int, z = (a.size : Int) - i → z = cI sw a b i k) := fun z hz => by
                unfold cI
                rw [hz, cAt_right _ _ _ _ _ (by rw [bz_len]; omega), bz_len]
                omega
              clear hp hp1 hp2
              go_wp2_with fail
              have f1 : IntKind.i64.wrap ((i : Int) + 1) = (i : Int) + 1 := IntWalk.i64_in _ (by omega)
              have f2 : IntKind.i64.wrap ((k : Int) + 1) = (k : Int) + 1 := IntWalk.i64_in _ (by omega)
              have f3 : (0 : Int) ≤ (i : Int) := by omega
              have f4 : (0 : Int) ≤ (k : Int) := by omega
              have f5 : (0 : Int) ≤ (i : Int) + 1 := by omega
              have f6 : (0 : Int) ≤ (k : Int) + 1 := by omega
              have f7 : ((i : Int) + 1).toNat = i + 1 := by omega
              have f8 : ((k : Int) + 1).toNat = k + 1 := by omega
              cases sw
              · go_quiet (fail)
                go_wp2_with (go_at_call 75; refine (l00MinN_any _ _ _).mono ?_; rintro e w' ⟨rfl, rfl⟩)
                go_roundw
                case rel =>
                  refine ⟨k, _, _, rfl, (by unfold Hid; omega), by omega, by omega, ((hR.stored (p + k) _).1).drewN _, hset.out _ (HZ.out _ ?_), below_drewN (hB.setCell (Nat.le_refl _) _) _⟩
                  (try simp only [mn_eq])
                  omega
                case measure => first | (simp [intOf]; done) | (simp [intOf]; omega)
              · by_cases c1 : i + 1 < a.size
                · have d1 : decide ((i : Int) + 1 < (a.size : Int)) = true := by simp; omega
                  have e1 : (i : Int) + 1 < (a.size : Int) := by omega
                  have d2 : decide ((k : Int) + 1 < (b.size : Int)) = false := by simp; omega
                  go_quiet (fail)
                  go_wp2_with (go_at_call 75; refine (l00MinN_any _ _ _).mono ?_; rintro e w' ⟨rfl, rfl⟩)
                  go_roundw
                  case rel =>
                    refine ⟨k, _, _, rfl, (by unfold Hid; omega), by omega, by omega, ((hR.stored (p + k) _).1).drewN _, hset.out _ (HZ.out _ ?_), below_drewN (hB.setCell (Nat.le_refl _) _) _⟩
                    (try simp only [mn_eq])
                    omega
                  case measure => first | (simp [intOf]; done) | (simp [intOf]; omega)
                · have d1 : decide ((i : Int) + 1 < (a.size : Int)) = false := by simp; omega
                  go_quiet (fail)
                  go_wp2_with (go_at_call 75; refine (l00MinN_any _ _ _).mono ?_; rintro e w' ⟨rfl, rfl⟩)
                  go_roundw
                  case rel =>
                    refine ⟨k, _, _, rfl, (by unfold Hid; omega), by omega, by omega, ((hR.stored (p + k) _).1).drewN _, hset.out _ (HZ.out _ ?_), below_drewN (hB.setCell (Nat.le_refl _) _) _⟩
                    (try simp only [mn_eq])
                    omega
                  case measure => first | (simp [intOf]; done) | (simp [intOf]; omega)
          · have HZ : Hid (∀ z : Int, z = (b.size : Int) - k → z = cI sw a b i k) := fun z hz => by
              unfold cI
              rw [hz, cAt_left _ _ _ _ _ (by rw [bz_len]; omega), bz_len]
              omega
            clear hp hp1 hp2
            go_wp2_with fail
            have f1 : IntKind.i64.wrap ((i : Int) + 1) = (i : Int) + 1 := IntWalk.i64_in _ (by omega)
            have f2 : IntKind.i64.wrap ((k : Int) + 1) = (k : Int) + 1 := IntWalk.i64_in _ (by omega)
            have f3 : (0 : Int) ≤ (i : Int) := by omega
            have f4 : (0 : Int) ≤ (k : Int) := by omega
            have f5 : (0 : Int) ≤ (i : Int) + 1 := by omega
            have f6 : (0 : Int) ≤ (k : Int) + 1 := by omega
            have f7 : ((i : Int) + 1).toNat = i + 1 := by omega
            have f8 : ((k : Int) + 1).toNat = k + 1 := by omega
            cases sw
            · go_quiet (fail)
              go_wp2_with (go_at_call 75; refine (l00MinN_any _ _ _).mono ?_; rintro e w' ⟨rfl, rfl⟩)
              go_roundw
              case rel =>
                refine ⟨k, _, _, rfl, (by unfold Hid; omega), by omega, by omega, ((hR.stored (p + k) _).1).drewN _, hset.out _ (HZ.out _ ?_), below_drewN (hB.setCell (Nat.le_refl _) _) _⟩
                (try simp only [mn_eq])
                omega
              case measure => first | (simp [intOf]; done) | (simp [intOf]; omega)
            · have d1 : decide ((i : Int) + 1 < (a.size : Int)) = false := by simp; omega
              go_quiet (fail)
              go_wp2_with (go_at_call 75; refine (l00MinN_any _ _ _).mono ?_; rintro e w' ⟨rfl, rfl⟩)
              go_roundw
              case rel =>
                refine ⟨k, _, _, rfl, (by unfold Hid; omega), by omega, by omega, ((hR.stored (p + k) _).1).drewN _, hset.out _ (HZ.out _ ?_), below_drewN (hB.setCell (Nat.le_refl _) _) _⟩
                (try simp only [mn_eq])
                omega
              case measure => first | (simp [intOf]; done) | (simp [intOf]; omega)
        · obtain rfl : kk = 0 := by have := Hq.out; omega
          go_wp2_with fail
          go_roundw
          case rel => exact ⟨i, _, xs, rfl, (by unfold Hid; omega), by omega, by omega, hR, HF.out.down, hB⟩
          case measure => first | (simp [intOf]; done) | (simp [intOf]; omega)
    · go_wp2_with fail
      go_ret
      obtain rfl : i0 = 0 := by have := Hq.out; omega
      exact FlatPost.mk xs hO HL.out (fun j l h1 h2 => HF.out j l (Nat.zero_le _) h1 h2) hbw
end Go.Proofs.Ytgagjmnmfgfpfaa
