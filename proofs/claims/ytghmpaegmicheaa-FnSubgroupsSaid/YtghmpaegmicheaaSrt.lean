/- slices.Sort at no more than twelve numbers: an insertion sort. -/
import Derived.Test.YtghmpaegmicheaaCtn
import Derived.Test.YtghmpaegmicheaaShLen
import Derived.RegionTactic
import Derived.ChangeAlike
import Derived.BigRegion
namespace Go.Proofs.Ytghmpaegmicheaa
open Go.RowKit

set_option maxHeartbeats 400000 in
theorem isNaN_any (z : Int) (w : World) : Calls Try.prog 140 #[.int .i64 z] w fun e w' => e = .returned (.bool false) ∧ w = w' := by
  have h : (z != z) = false := by simp
  go_enter Try.func140, Try.ntmps140
  go_wp2_with fail
  go_ret
  exact ⟨rfl, rfl⟩
set_option maxHeartbeats 400000 in
theorem less_any (a b : Int) (w : World) : Calls Try.prog 130 #[.int .i64 a, .int .i64 b] w fun e w' => e = .returned (.bool (decide (a < b))) ∧ w = w' := by
  go_enter Try.func130, Try.ntmps130
  go_wp2_with (go_at_call 140; refine (isNaN_any _ _).mono ?_; rintro e w' ⟨rfl, rfl⟩)
  go_ret
  exact ⟨rfl, rfl⟩
/-- Not falling up to n. -/
def Asc (n : Nat) (l : List Int) : Prop := ∀ p q, p < q → q < n → l.getD p 0 ≤ l.getD q 0
/-- Not falling up to i, but for what stands at j. -/
def AscJ (i j : Nat) (l : List Int) : Prop := ∀ p q, p < q → q ≤ i → q ≠ j → l.getD p 0 ≤ l.getD q 0
def swp (l : List Int) (j : Nat) : List Int := (l.set (j + 1) (l.getD j 0)).set j (l.getD (j + 1) 0)
theorem swp_len (l : List Int) (j : Nat) : (swp l j).length = l.length := by simp [swp]
theorem swp_get (l : List Int) (j k : Nat) (hj : j + 1 < l.length) : (swp l j).getD k 0 = if k = j then l.getD (j + 1) 0 else if k = j + 1 then l.getD j 0 else l.getD k 0 := by
  unfold swp
  rw [List.getD_eq_getElem?_getD, List.getElem?_set]
  by_cases h : j = k
  · subst h; rw [if_pos rfl, if_pos rfl, if_pos (by simp; omega)]; rfl
  · rw [if_neg h, if_neg (Ne.symm h), List.getElem?_set]
    by_cases h2 : j + 1 = k
    · subst h2; rw [if_pos rfl, if_pos rfl, if_pos hj]; rfl
    · rw [if_neg h2, if_neg (Ne.symm h2), ← List.getD_eq_getElem?_getD]
theorem swp_perm (l : List Int) (j : Nat) (hj : j + 1 < l.length) : (swp l j).Perm l := by
  have h := List.set_set_perm hj (show j < l.length by omega)
  unfold swp
  rw [show l.getD j 0 = l[j] by simp [show j < l.length by omega], show l.getD (j + 1) 0 = l[j + 1] by simp [hj]]
  exact h
theorem AscJ.start {i : Nat} {l : List Int} (h : Asc i l) : AscJ i i l := fun p q h1 h2 h3 => h p q h1 (by omega)
theorem AscJ.step {i j : Nat} {l : List Int} (h : AscJ i (j + 1) l) (hi : i < l.length) (hj : j + 1 ≤ i) (hlt : l.getD (j + 1) 0 < l.getD j 0) : AscJ i j (swp l j) := by
  intro p q h1 h2 h3
  rw [swp_get l j p (by omega), swp_get l j q (by omega), if_neg h3]
  by_cases hq : q = j + 1
  · subst hq
    rw [if_pos rfl]
    by_cases hp : p = j
    · subst hp; rw [if_pos rfl]; omega
    · rw [if_neg hp, if_neg (by omega)]
      exact h p j (by omega) (by omega) (by omega)
  · rw [if_neg hq]
    by_cases hp : p = j
    · subst hp; rw [if_pos rfl]; exact h (p + 1) q (by omega) h2 hq
    · rw [if_neg hp]
      by_cases hp2 : p = j + 1
      · subst hp2; rw [if_pos rfl]; exact h j q (by omega) h2 hq
      · rw [if_neg hp2]; exact h p q h1 h2 hq
theorem AscJ.done0 {i : Nat} {l : List Int} (h : AscJ i 0 l) : Asc (i + 1) l := fun p q h1 h2 => h p q h1 (by omega) (by omega)
theorem AscJ.done {i j : Nat} {l : List Int} (h : AscJ i (j + 1) l) (hj : j + 1 ≤ i) (hge : ¬ l.getD (j + 1) 0 < l.getD j 0) : Asc (i + 1) l := by
  intro p q h1 h2
  by_cases hq : q = j + 1
  · subst hq
    by_cases hp : p = j
    · subst hp; omega
    · have := h p j (by omega) (by omega) (by omega)
      omega
  · exact h p q h1 (by omega) hq
set_option maxRecDepth 100000 in
set_option maxHeartbeats 4000000 in
theorem insSort_any (v : Value) (l0 : List Int) (B : Nat) (w : World) (hx : OI B w v l0) (hm : l0.length ≤ 12) :
    Calls Try.prog 124 #[v, .int .i64 0, .int .i64 l0.length] w fun e w' => e = .returned (.tuple #[]) ∧ ∃ l, l.Perm l0 ∧ Asc l.length l ∧ OI B w' v l ∧ Chg (vb v) w w' := by
  obtain ⟨a, c, rfl⟩ := hx.slice
  go_enter Try.func124, Try.ntmps124
  go_wp2_with fail
  go_loopw [6] (fun iv wr => ∃ (i : Nat) (l : List Int), 1 ≤ i ∧ (i ≤ l0.length ∨ i = 1) ∧ iv = .int .i64 i ∧ Hid (l.length = l0.length) ∧ Hid (l.Perm l0) ∧ Hid (Asc i l) ∧ OI B wr (.slice a l0.length c) l ∧ Chg (vb (.slice a l0.length c)) w wr) (fun iv _ => l0.length - (intOf iv).toNat)
  case atStart => exact ⟨1, l0, by omega, .inr rfl, rfl, rfl, List.Perm.refl _, fun p q h1 h2 => by omega, hx, Chg.refl _ _⟩
  case round =>
    obtain ⟨i, l, hi1, hi2, rfl, HL, HP, HA, ho, hch⟩ := hrel
    by_cases hlt : i < l0.length
    · go_wp2_with fail
      go_loopw [7] (fun jv wr => ∃ (j : Nat) (l : List Int), j ≤ i ∧ jv = .int .i64 j ∧ Hid (l.length = l0.length) ∧ Hid (l.Perm l0) ∧ Hid (AscJ i j l) ∧ OI B wr (.slice a l0.length c) l ∧ Chg (vb (.slice a l0.length c)) w wr) (fun jv _ => (intOf jv).toNat)
      case atStart => exact ⟨i, l, Nat.le_refl _, rfl, HL, HP, AscJ.start HA.out, ho, hch⟩
      case round =>
        clear ho hch HL HP HA
        obtain ⟨j, l, hj, rfl, HL, HP, HA, ho, hch⟩ := hrel
        by_cases h0 : j = 0
        · subst h0
          have HA2 := Lib.hid (AscJ.done0 HA.out)
          go_wp2_with fail
          go_quiet (fail)
          go_wp2_with fail
          go_roundw
          case rel => exact ⟨i + 1, l, by omega, .inl (by omega), by go_num, HL, HP, HA2, OK.later ho (below_drewN (Below.refl _ _) _), hch.trans ((Below.chg (below_drewN (Below.refl _ _) _)).mono (by simp))⟩
          case measure => first | (simp [intOf]; done) | (simp [intOf]; omega)
        · obtain ⟨j, rfl⟩ : ∃ k, j = k + 1 := ⟨j - 1, by omega⟩
          have hjl : j + 1 < l.length := by have := HL.out; omega
          obtain ⟨g, e1, _, hc1⟩ := ho.at (j + 1) hjl
          obtain ⟨g', e2, _, hc2⟩ := ho.at j (by omega)
          subst e1
          simp only [Option.some.injEq, Addr.mk.injEq, and_true] at e2
          subst e2
          have f1 : IntKind.i64.wrap (((j + 1 : Nat) : Int) - 1) = (j : Int) := by rw [show ((j + 1 : Nat) : Int) - 1 = (j : Int) by omega]; exact IntWalk.i64_in _ (by omega)
          have f2 : IntKind.i64.wrap ((j : Int) + 1 - 1) = (j : Int) := by rw [show (j : Int) + 1 - 1 = (j : Int) by omega]; exact IntWalk.i64_in _ (by omega)
          have f3 : IntKind.i64.wrap (j : Int) = (j : Int) := IntWalk.i64_in _ (by omega)
          have f4 : (0 : Int) ≤ (j : Int) := by omega
          have f5 : (j : Int) < (l0.length : Int) := by have := HL.out; omega
          have f6 : (j : Int) + 1 < (l0.length : Int) := by have := HL.out; omega
          have f7 : (0 : Int) ≤ (j : Int) + 1 := by omega
          have HD := Lib.hid fun h => AscJ.done HA.out hj h
          have HS := Lib.hid fun h => AscJ.step HA.out (show i < l.length by have := HL.out; omega) hj h
          have hz1 := ho.frozen (j + 1)
          have hz2 := ho.frozen j
          have HW : Hid (∀ n, OI B (wr.drewN n) (.slice (some ⟨g, 0, none⟩) l0.length c) l ∧ Chg (vb (.slice (some ⟨g, 0, none⟩) l0.length c)) w (wr.drewN n) ∧ (wr.drewN n).cell? ⟨g, j + 1, none⟩ = some (.int .i64 (l.getD (j + 1) 0)) ∧ (wr.drewN n).cell? ⟨g, j, none⟩ = some (.int .i64 (l.getD j 0)) ∧ (wr.drewN n).frozen? ⟨g, j + 1, none⟩ = false ∧ (wr.drewN n).frozen? ⟨g, j, none⟩ = false) := fun n =>
            ⟨OK.later ho (below_drewN (Below.refl _ _) _), hch.trans ((Below.chg (below_drewN (Below.refl _ _) _)).mono (by simp)), hc1, hc2, hz1, hz2⟩
          have hst := ho.stored (j + 1) (l.getD j 0)
          have hst2 := hst.1.stored j (l.getD (j + 1) 0)
          have HST := Lib.hid hst2
          have HPM := Lib.hid (swp_perm l j hjl)
          have HLN := Lib.hid (swp_len l j)
          clear hst hst2
          by_cases hlt2 : l.getD (j + 1) 0 < l.getD j 0
          · have HS2 := Lib.hid (HS.out hlt2)
            have hd1 : decide (l.getD (j + 1) 0 < l.getD j 0) = true := by simpa using hlt2
            have HC := less_any (l.getD (j + 1) 0) (l.getD j 0)
            rw [hd1] at HC
            have HC2 := Lib.hid HC
            clear hlt2 hd1 HC HD HS HA
            unfold swp at *
            generalize l.getD (j + 1) 0 = z1 at *
            generalize l.getD j 0 = z2 at *
            go_wp2_with fail
            go_quiet ((go_at_call 130; exact quiet_same (HC2.out _)))
            go_wp2_with fail
            obtain ⟨o2, ch2, q1, q2, q3, q4⟩ := HW.out nq
            generalize wr.drewN nq = wq at *
            clear hc1 hc2 hz1 hz2 HW
            have hst := o2.stored (j + 1) z2
            have hst2 := hst.1.stored j z1
            have HO3 : Hid (OI B ((wq.setCell ⟨g, j + 1, none⟩ (.int .i64 z2)).setCell ⟨g, j, none⟩ (.int .i64 z1)).drew (.slice (some ⟨g, 0, none⟩) l0.length c) ((l.set (j + 1) z2).set j z1)) := OK.drew hst2.1
            have HC3 : Hid (Chg (vb (.slice (some ⟨g, 0, none⟩) l0.length c)) w ((wq.setCell ⟨g, j + 1, none⟩ (.int .i64 z2)).setCell ⟨g, j, none⟩ (.int .i64 z1)).drew) := by
              have k1 := ch2.trans ((chg_grown hst.2).mono fun q hq => by rw [mem_vb]; simp only [List.mem_singleton] at hq; subst hq; rfl)
              have k2 := k1.trans ((chg_grown hst2.2).mono fun q hq => by rw [mem_vb]; simp only [List.mem_singleton] at hq; subst hq; rfl)
              exact k2.trans ((Below.chg ((Below.refl _ _).drew)).mono (by simp))
            have HPP := Lib.hid (HPM.out.trans HP.out)
            have HLL := Lib.hid (HLN.out.trans HL.out)
            clear hst hst2 o2 ch2 HPM HLN
            go_region
            go_wp2_with fail
            go_roundw
            case rel => exact ⟨j, _, by omega, by first | rfl | go_num, HLL, HPP, HS2, HO3.out, HC3.out⟩
            case measure => first | (simp [intOf]; done) | (simp [intOf]; omega)
          · have HA2 := Lib.hid (HD.out hlt2)
            have hd1 : decide (l.getD (j + 1) 0 < l.getD j 0) = false := by simpa using hlt2
            have HC := less_any (l.getD (j + 1) 0) (l.getD j 0)
            rw [hd1] at HC
            have HC2 := Lib.hid HC
            clear hlt2 hd1 HC HD HS HA HST HPM HLN
            generalize l.getD (j + 1) 0 = z1 at *
            generalize l.getD j 0 = z2 at *
            go_wp2_with fail
            go_quiet ((go_at_call 130; exact quiet_same (HC2.out _)))
            go_wp2_with fail
            go_roundw
            case rel => exact ⟨i + 1, l, by omega, .inl (by omega), by go_num, HL, HP, HA2, OK.later ho (below_drewN (Below.refl _ _) _), hch.trans ((Below.chg (below_drewN (Below.refl _ _) _)).mono (by simp))⟩
            case measure => first | (simp [intOf]; done) | (simp [intOf]; omega)
    · have HF : Hid (Asc l.length l) := by
        rcases hi2 with h | h
        · have := HL.out
          rw [show l.length = i by omega]; exact HA.out
        · intro p q h1 h2
          have := HL.out
          omega
      go_wp2_with fail
      go_end0
      exact ⟨rfl, l, HP.out, HF.out, ho, hch⟩
def SrtPost (l0 : List Int) (B : Nat) (v : Value) (w : World) (e : Ending) (w' : World) : Prop := e = .returned (.tuple #[]) ∧ ∃ l, l.Perm l0 ∧ Asc l.length l ∧ OI B w' v l ∧ Chg (vb v) w w'
set_option maxRecDepth 100000 in
set_option maxHeartbeats 1000000 in
theorem pdq_any (v : Value) (l0 : List Int) (B : Nat) (k : Int) (w : World) (hx : OI B w v l0) (hm : l0.length ≤ 12) :
    Calls Try.prog 111 #[v, .int .i64 0, .int .i64 l0.length, .int .i64 k] w (SrtPost l0 B v w) := by
  have HI := Lib.hid (insSort_any v l0 B w hx hm)
  go_enter Try.func111, Try.ntmps111
  go_wp2_with fail
  refine wp_loop_rounds 1 ?_
  rw [rounds_succ]
  go_wp2_with fail
  refine HI.out.mono ?_
  rintro e w' ⟨rfl, l, h1, h2, h3, h4⟩
  go_wp2_with fail
  go_end0
  exact ⟨rfl, l, h1, h2, h3, h4⟩
set_option maxHeartbeats 1000000 in
theorem sort_any (v : Value) (l0 : List Int) (B : Nat) (w : World) (hx : OI B w v l0) (hm : l0.length ≤ 12) :
    Calls Try.prog 76 #[v] w (SrtPost l0 B v w) := by
  have HL := Lib.hid (sh_bits_Len (l0.length : Int) w (by omega) (by omega))
  have HI := Lib.hid fun k => pdq_any v l0 B k w hx hm
  obtain ⟨a, c, rfl⟩ := hx.slice
  go_enter Try.func76, Try.ntmps76
  go_wp2_with fail
  refine HL.out.mono ?_
  rintro e w' ⟨rfl, rfl⟩
  go_wp2_with fail
  refine (HI.out _).mono ?_
  rintro e w' ⟨rfl, l, h1, h2, h3, h4⟩
  go_wp2_with fail
  go_end0
  exact ⟨rfl, l, h1, h2, h3, h4⟩
end Go.Proofs.Ytghmpaegmicheaa
