/- WrongWords: the reference. -/
import Derived.Test.YtgagjmnmfgfpfaaWwV
import Derived.Test.YtgagjmnmfgfpfaaWwD
import Derived.Test.YtgagjmnmfgfpfaaNwW
namespace Go.Proofs.Ytgagjmnmfgfpfaa
open Go.RowKit

/-- A place's part of the list: with the pairs before j. -/
def WwJ (k b : Int) (xs : List Int) (fs ts : List (List Int)) (i j : Nat) (t : ByteArray) : Prop := WwM k b xs i t ∨ ∃ j', j' < j ∧ rowAt fs j' = (xs.drop i).take (kL k) ∧ t = wOf (wAt xs i (kL k) (rowAt ts j'))
section
variable {k b : Int} {xs : List Int} {fs ts : List (List Int)} {i j : Nat} {t : ByteArray}
theorem WwJ.zero : WwJ k b xs fs ts i 0 t ↔ WwM k b xs i t := ⟨fun h => h.elim id fun ⟨_, h, _⟩ => by omega, .inl⟩
theorem WwJ.succ : WwJ k b xs fs ts i (j + 1) t ↔ WwJ k b xs fs ts i j t ∨ (rowAt fs j = (xs.drop i).take (kL k) ∧ t = wOf (wAt xs i (kL k) (rowAt ts j))) := by
  unfold WwJ
  constructor
  · rintro (h | ⟨j', h1, h2⟩)
    · exact .inl (.inl h)
    · by_cases e : j' = j
      · subst e; exact .inr h2
      · exact .inl (.inr ⟨j', by omega, h2⟩)
  · rintro ((h | ⟨j', h1, h2⟩) | h)
    · exact .inl h
    · exact .inr ⟨j', by omega, h2⟩
    · exact .inr ⟨j, by omega, h⟩
theorem WwJ.stop (hp : ∀ f u, P2 fs ts f u ↔ Pr k b f u) (hi : i + kL k ≤ xs.length) : WwJ k b xs fs ts i fs.length t ↔ WwM k b xs (i + 1) t := by
  rw [WwM.succ hi]
  unfold WwJ
  constructor
  · rintro (h | ⟨j, h1, h2, h3⟩)
    · exact .inl h
    · exact .inr ⟨_, (hp _ _).1 ⟨j, h1, h2, rfl⟩, h3⟩
  · rintro (h | ⟨u, h1, h2⟩)
    · exact .inl h
    · obtain ⟨j, h3, h4, h5⟩ := (hp _ _).2 h1
      exact .inr ⟨j, h3, h4, by rw [h5]; exact h2⟩
end
def L06Post (s : ByteArray) (b k : Int) (w : World) (e : Ending) (w' : World) : Prop :=
  ∃ v l, e = .returned v ∧ OS w.heap.size w' v l ∧ AscS l ∧ (∀ t, t ∈ l ↔ WwP k b (dgs s) t) ∧ l.length ≤ 2000000 ∧ Below w.heap.size w w'
theorem kL_bd (k : Int) : 1 ≤ kL k ∧ kL k ≤ 3 := by unfold kL; split <;> (try split) <;> omega
set_option maxRecDepth 100000 in
set_option maxHeartbeats 16000000 in
theorem l06Wrong_go (s : ByteArray) (b : Nat) (k : Int) (w : World) (hd : digB s b 20 = true) (hk : kOk k b = true)
    (HU : Hid (∀ wx, Calls Try.prog 86 #[.int .i64 b, .int .i64 k] wx (L02Post k b wx))) :
    Calls Try.prog 68 #[.string s, .int .i64 b, .int .i64 k] w (L06Post s b k w) := by
  obtain ⟨hb2, hs20, hdm⟩ := dig_mem hd
  have HCUT : Hid (∀ i u, (∀ z ∈ u, 0 ≤ z ∧ z < (b : Int)) → s.extract 0 i ++ wOf u ++ s.extract (i + kL k) s.size = wOf (wAt (dgs s) i (kL k) u)) := fun i u hu => wOf_cut hd i (kL k) hu
  have HDC : Hid (∀ i, dgs (s.extract i (i + kL k)) = ((dgs s).drop i).take (kL k)) := fun i => dgs_cut s i _
  have HSZ : Hid (∀ wx, Calls Try.prog 67 #[.int .i64 b, .int .i64 k] wx fun e w' => e = .returned (.int .i64 (kL k : Nat)) ∧ wx = w') := fun wx => by
    have := l02Size_any b k wx
    rw [if_pos hk] at this; exact this
  have HPD : Hid (∀ f u, Pr k b f u → (∀ z ∈ u, 0 ≤ z ∧ z < (b : Int)) ∧ u.length ≤ 3) := fun f u h => ⟨h.dig (kOk_parts hk).2, by rw [h.len.2]; exact (kL_bd k).2⟩
  have HST : Hid (∀ m t, s.size < m + kL k → (WwM k b (dgs s) m t ↔ WwP k b (dgs s) t)) := fun m t h => WwM.stop (by rw [dgs_len]; exact h)
  have HJS : Hid (∀ fs ts i t, (∀ f u, P2 fs ts f u ↔ Pr k b f u) → i + kL k ≤ s.size → (WwJ k b (dgs s) fs ts i fs.length t ↔ WwM k b (dgs s) (i + 1) t)) := fun fs ts i t hp hi => WwJ.stop hp (by rw [dgs_len]; exact hi)
  obtain ⟨hn1, hn3⟩ := kL_bd k
  obtain ⟨N, hN⟩ : ∃ N, N = kL k := ⟨_, rfl⟩
  rw [← hN] at hn1 hn3 HCUT HDC HSZ HST HJS
  have HNE := Lib.hid hN
  have HB2 := Lib.hid hb2
  clear hN hd hk hdm hb2
  have hs20' : s.size ≤ 20 := by omega
  clear hs20
  go_enter Try.func68, Try.ntmps68
  go_wp2_with fail
  refine (HSZ.out _).mono ?_
  rintro e wq ⟨rfl, rfl⟩
  go_wp2_with fail
  refine (HU.out _).mono ?_
  rintro e w1 ⟨vf, vt, fs, ts, rfl, hrf, hrt, hfl, hfm, hpp, hb1⟩
  have HFL := Lib.hid hfl
  have HPP := Lib.hid hpp
  obtain ⟨fa, fc, rfl⟩ := hrf.slice
  obtain ⟨ta, tc, rfl⟩ := hrt.slice
  have ho : OS w.heap.size (w1.alloc (.cells #[] 9)) (.slice (some ⟨w1.heap.size, 0, none⟩) 0 0) [] := OV.made _ _ hb1.size
  have hb : Below w.heap.size w (w1.alloc (.cells #[] 9)) := hb1.alloc hb1.size _
  have hbA : Below w1.heap.size w1 (w1.alloc (.cells #[] 9)) := (Below.refl _ _).alloc (Nat.le_refl _) _
  replace hrf := hrf.later hbA
  replace hrt := hrt.later hbA
  clear hfl hpp hbA
  have hz1 := hb1.size
  go_wp2_with fail
  generalize w1.alloc (.cells #[] 9) = w2 at *
  generalize Value.slice (some ⟨w1.heap.size, 0, none⟩) 0 0 = v0 at *
  clear hb1 hz1
  go_loopw [10, 11] (fun ov iv wr => ∃ (i : Nat) (l : List ByteArray), i ≤ s.size + 1 ∧ iv = .int .i64 i ∧ OS w.heap.size wr ov l ∧ Hid (AscS l) ∧ Hid (∀ t, t ∈ l ↔ WwM k b (dgs s) i t) ∧ l.length ≤ i * 50000 ∧ Below w.heap.size w wr ∧ RT wr (.slice fa fs.length fc) fs ∧ RT wr (.slice ta ts.length tc) ts) (fun _ iv _ => s.size + 1 - (intOf iv).toNat)
  case atStart => exact ⟨0, [], Nat.zero_le _, rfl, ho, AscS.nil, Lib.hid (fun t => by simpa using WwM.zero), by simp, hb, hrf, hrt⟩
  case round =>
    clear ho hb hrf hrt
    obtain ⟨i, l, hi, rfl, ho, HA, HL, hll, hb, hrf, hrt⟩ := hrel
    have hz := hb.size
    obtain ⟨E, hE⟩ : ∃ E : Nat, (E : Int) = (i : Int) + (N : Int) := ⟨i + N, by omega⟩
    have hEn : E = i + N := by omega
    have hw1 : IntKind.i64.wrap ((i : Int) + (N : Int)) = (E : Int) := by rw [hE]; exact IntWalk.i64_in _ (by omega)
    have HEE := Lib.hid hEn
    clear hE
    by_cases hlt : E ≤ s.size
    · have hle : (E : Int) ≤ (s.size : Int) := by omega
      have k1 : (i : Int) ≤ (E : Int) := by omega
      have k2 : (i : Int) ≤ (s.size : Int) := by omega
      have k3 : i ≤ E := by omega
      obtain ⟨A, hAe⟩ : ∃ A, s.extract 0 i = A := ⟨_, rfl⟩
      obtain ⟨M, hMe⟩ : ∃ M, s.extract i E = M := ⟨_, rfl⟩
      obtain ⟨C, hCe⟩ : ∃ C, s.extract E s.size = C := ⟨_, rfl⟩
      have h1 : A.size ≤ 20 := by rw [← hAe]; have := extL s 0 i; omega
      have h2 : M.size ≤ 20 := by rw [← hMe]; have := extL s i E; omega
      have h3 : C.size ≤ 20 := by rw [← hCe]; have := extL s E s.size; omega
      have HMD : Hid (dgs M = ((dgs s).drop i).take N) := by unfold Hid; rw [← hMe, hEn]; exact HDC.out i
      have HCW : Hid (∀ u, (∀ z ∈ u, 0 ≤ z ∧ z < (b : Int)) → A ++ wOf u ++ C = wOf (wAt (dgs s) i N u)) := fun u hu => by rw [← hAe, ← hCe, hEn]; exact HCUT.out i u hu
      have hi19 : i ≤ 19 := by omega
      clear hEn
      go_wp2_with fail
      refine (l01Digits_any M wr (by omega)).mono ?_
      rintro e w3 ⟨dv, rfl, hdv, hb3⟩
      rw [HMD.out] at hdv
      replace ho := ho.later hb3
      replace hrf := hrf.later hb3
      replace hrt := hrt.later hb3
      replace hdv := OK.read hdv
      have hdl : (((dgs s).drop i).take N).length ≤ 3 := by rw [List.length_take]; omega
      obtain ⟨F, hF⟩ : ∃ F, F = ((dgs s).drop i).take N := ⟨_, rfl⟩
      rw [← hF] at hdv hdl
      have HFE := Lib.hid hF
      obtain ⟨da, dc, rfl⟩ := hdv.slice
      replace hb := hb.trans (hb3.mono hz)
      clear hb3 hF hz
      go_wp2_with fail
      go_loopw [10, 13] (fun ov jv wr => ∃ (j : Nat) (l : List ByteArray), j ≤ fs.length ∧ jv = .int .i64 j ∧ OS w.heap.size wr ov l ∧ Hid (AscS l) ∧ Hid (∀ t, t ∈ l ↔ WwJ k b (dgs s) fs ts i j t) ∧ l.length ≤ i * 50000 + j ∧ Below w.heap.size w wr ∧ RT wr (.slice fa fs.length fc) fs ∧ RT wr (.slice ta ts.length tc) ts ∧ RI wr (.slice da F.length dc) F) (fun _ jv _ => fs.length - (intOf jv).toNat)
      case atStart => exact ⟨0, l, Nat.zero_le _, rfl, ho, HA, Lib.hid (fun t => (HL.out t).trans WwJ.zero.symm), by simpa using hll, hb, hrf, hrt, hdv⟩
      case round =>
        clear ho hb HL HA hll hrf hrt hdv l
        obtain ⟨j, l, hj, rfl, ho, HA, HL, hll, hb, hrf, hrt, hdv⟩ := hrel
        have hz := hb.size
        by_cases hlj : j < fs.length
        · obtain ⟨fg, fo, r1, rfl, hfg, hfc1, hr1⟩ := hrf.at j hlj
          obtain ⟨tg, to_, r2, rfl, htg, htc1, hr2⟩ := hrt.at j (by have := HFL.out; omega)
          have hjt : (j : Int) < (ts.length : Int) := by have := HFL.out; omega
          have hPR := (HPP.out (rowAt fs j) (rowAt ts j)).1 ⟨j, hlj, rfl, rfl⟩
          obtain ⟨hu1, hu3⟩ := HPD.out _ _ hPR
          have HSM := Lib.hid (fun (bb : Bool) (hbb : decide (rowAt fs j = F) = bb) => show Calls Try.prog 88 #[r1, .slice da F.length dc] wr fun e w' => e = .returned (.bool bb) ∧ Drw wr w' from by
            have := l00Same_any r1 (.slice da F.length dc) (rowAt fs j) F wr hr1 hdv (by rw [hPR.len.1]; have := kL_bd k; omega)
            rw [hbb] at this; exact this)
          by_cases hfe : rowAt fs j = F
          · have HQ := HSM.out true (decide_eq_true hfe)
            have HIN := Lib.hid (HCW.out _ hu1)
            have HL2 : Hid (∀ t, t ∈ l ∨ t = wOf (wAt (dgs s) i N (rowAt ts j)) ↔ WwJ k b (dgs s) fs ts i (j + 1) t) := fun t => by
              rw [HL.out t, WwJ.succ, HNE.out.symm]
              exact ⟨fun h => h.elim .inl fun h => .inr ⟨by rw [hfe]; exact HFE.out, h⟩, fun h => h.elim .inl fun h => .inr h.2⟩
            have hu35 : ∀ z ∈ rowAt ts j, 0 ≤ z ∧ z ≤ 35 := fun z hz => by have := hu1 z hz; have := HB2.out; omega
            obtain ⟨u, hu⟩ : ∃ u, u = rowAt ts j := ⟨_, rfl⟩
            rw [← hu] at HIN HL2 hu35 hu3 hr2
            have HU35 := Lib.hid hu35
            have hU : (wOf u).size ≤ 20 := by rw [wOf_size]; omega
            obtain ⟨Y, hY⟩ : ∃ Y, Y = wOf u := ⟨_, rfl⟩
            have HYE := Lib.hid hY
            rw [← hY] at HIN hU
            have q3 : ¬ 9223372036854775807 < A.size + Y.size := by omega
            have q4 : ¬ 9223372036854775807 < A.size + Y.size + C.size := by omega
            clear hfe hPR hu1 hu hu35 HSM HL hY
            obtain ⟨ra, rc, rfl⟩ := hr2.slice
            go_wp2_with fail
            refine HQ.mono ?_
            rintro e w4 ⟨rfl, hd4⟩
            have hb4 := hd4.below
            replace ho := ho.later hb4
            replace hrf := hrf.later hb4
            replace hrt := hrt.later hb4
            replace hdv := hdv.later hb4
            replace hr2 := hr2.later hb4
            replace htc1 := (hb4.cell (p := ⟨tg, to_ + j, none⟩) htg).trans htc1
            replace htg := Nat.lt_of_lt_of_le htg hb4.size
            replace hb := hb.trans (hb4.mono hz)
            replace hz := hb.size
            clear hb4 hd4 hr1 hfc1 hfg HQ
            go_wp2_with fail
            go_region_held3 (fun w' => w'.cell? ⟨tg, to_ + j, none⟩ = some (.slice ra u.length rc)) (go_keep)
              ((first
                | (go_at_call 78; refine (l01From_any _ u _ hr2.drew HU35.out (by omega)).mono ?_; rintro e w5 ⟨rfl, hb5⟩; have ho5 := OS.later (OV.drew ho) hb5; have hS5 := (hb5.cell (p := ⟨tg, to_ + j, none⟩) htg).trans htc1; rw [← HYE.out])
                | (go_at_call 60; refine (l06Put_any _ l (A ++ Y ++ C) w.heap.size _ ho5 HA.out (by omega) (Nat.le_trans hz hb5.size)).mono ?_; rintro e w6 ⟨v', l', rfl, ho6, hA6, hm6, hl6, hb6⟩; have hS6 := (hb6.cell (p := ⟨tg, to_ + j, none⟩) (Nat.lt_of_lt_of_le htg hb5.size)).trans hS5)))
            have hb46 : Below w4.heap.size w4 w6 := (Below.refl _ _).drew.trans (hb5.trans (hb6.mono hb5.size))
            have HL3 : Hid (∀ t, t ∈ l' ↔ WwJ k b (dgs s) fs ts i (j + 1) t) := fun t => by
              rw [hm6 t, ← HL2.out t, HIN.out]
              exact or_comm
            replace hrf := hrf.later hb46
            replace hrt := hrt.later hb46
            replace hdv := hdv.later hb46
            replace hb := hb.trans (hb46.mono hz)
            clear ho5 hS5 hS6 hb5 hb6 hm6 HL2 ho hr2 htc1 htg hb46
            go_wp2_with fail
            go_roundw
            case rel => exact ⟨j + 1, l', by omega, by go_num, ho6, hA6, HL3, by omega, hb, hrf, hrt, hdv⟩
            case measure => first | (simp [intOf]; done) | (simp [intOf]; omega)
          · have HQ := HSM.out false (decide_eq_false hfe)
            have HL2 : Hid (∀ t, t ∈ l ↔ WwJ k b (dgs s) fs ts i (j + 1) t) := fun t => by
              rw [HL.out t, WwJ.succ, HNE.out.symm]
              exact ⟨.inl, fun h => h.elim id fun h => absurd (h.1.trans HFE.out.symm) hfe⟩
            clear hfe hPR hu1 hu3 HSM HL
            go_wp2_with fail
            refine HQ.mono ?_
            rintro e w4 ⟨rfl, hd4⟩
            have hb4 := hd4.below
            replace ho := ho.later hb4
            replace hrf := hrf.later hb4
            replace hrt := hrt.later hb4
            replace hdv := hdv.later hb4
            replace hb := hb.trans (hb4.mono hz)
            clear hb4 hd4 hr1 hr2 HQ
            go_wp2_with fail
            go_roundw
            case rel => exact ⟨j + 1, l, by omega, by go_num, ho, HA, HL2, by omega, hb, hrf, hrt, hdv⟩
            case measure => first | (simp [intOf]; done) | (simp [intOf]; omega)
        · obtain rfl : j = fs.length := by omega
          have HL2 : Hid (∀ t, t ∈ l ↔ WwM k b (dgs s) (i + 1) t) := fun t => (HL.out t).trans (HJS.out fs ts i t HPP.out (by have := HEE.out; omega))
          go_wp2_with fail
          go_roundw
          case rel => exact ⟨i + 1, l, by omega, by go_num, ho, HA, HL2, by omega, hb, hrf, hrt⟩
          case measure => first | (simp [intOf]; done) | (simp [intOf]; omega)
    · have hle : ¬ (E : Int) ≤ (s.size : Int) := by omega
      have HR : Hid (∀ t, t ∈ l ↔ WwP k b (dgs s) t) := fun t => (HL.out t).trans (HST.out i t (by omega))
      obtain ⟨oa, oc, rfl⟩ := ho.read.slice
      go_wp2_with fail
      go_ret
      exact ⟨_, l, rfl, ho, HA.out, HR.out, by omega, hb⟩
theorem l02Wrong_any (b : Nat) (k : Int) (w : World) (hb2 : 2 ≤ b ∧ b ≤ 36) (hk : kOk k b = true) :
    Calls Try.prog 86 #[.int .i64 b, .int .i64 k] w (L02Post k b w) := by
  obtain ⟨h1, h5⟩ := kOk_parts hk
  rcases h1 with rfl | rfl | rfl | rfl | rfl | rfl
  · exact l02W0 b w hb2 h5
  · exact l02W1 b w hb2 h5
  · exact l02W2 b w hb2 h5
  · exact l02W3 b w hb2 h5
  · exact l02W4 b w hb2 h5
  · exact l02W5 b w hb2 h5
theorem l06Wrong_any (s : ByteArray) (b : Nat) (k : Int) (w : World) (hd : digB s b 20 = true) (hk : kOk k b = true) :
    Calls Try.prog 68 #[.string s, .int .i64 b, .int .i64 k] w (L06Post s b k w) :=
  l06Wrong_go s b k w hd hk fun wx => l02Wrong_any b k wx (by have := (dig_mem hd).1; omega) hk
end Go.Proofs.Ytgagjmnmfgfpfaa
