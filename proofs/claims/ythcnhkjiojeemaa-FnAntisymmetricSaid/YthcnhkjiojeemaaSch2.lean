/- l04Search: the reference's, all of it. -/
import Derived.Test.YthcnhkjiojeemaaSch
namespace Go.Proofs.Ythcnhkjiojeemaa
open Go.RowKit

set_option maxRecDepth 100000 in
set_option maxHeartbeats 8000000 in
theorem search_step (n : Nat) (hn : 1 ≤ n ∧ n ≤ 5) (fb : Bool) (B S G : Nat) (H P : Nat → Nat) (C p : Nat) (hp : p < n * n)
    (HIH : Hid (∀ (t : Nat → Nat → Int) (w : World) (q : Int), q = ((p + 1 : Nat) : Int) → TbAt B S G H P C n t w → Vp n (p + 1) t → Calls Try.prog 38 #[.slice (some ⟨G, 0, none⟩) n C, .int .i64 q, .bool fb] w (SPost B S G H P C n (p + 1) t w)))
    (t : Nat → Nat → Int) (w : World) (ht : TbAt B S G H P C n t w) (hv : Vp n p t) :
    Calls Try.prog 38 #[.slice (some ⟨G, 0, none⟩) n C, .int .i64 p, .bool fb] w (SPost B S G H P C n p t w) := by
  obtain ⟨m, hm⟩ : ∃ m, m = n * n := ⟨_, rfl⟩
  have hm25 : m ≤ 25 := by rw [hm]; exact Nat.le_trans (Nat.mul_le_mul hn.2 hn.2) (by decide)
  have hwm : IntKind.i64.wrap ((n : Int) * (n : Int)) = (m : Int) := by rw [← Int.natCast_mul, ← hm]; exact IntWalk.i64_in _ (by omega)
  have hpm : ((p : Int) == (m : Int)) = false := by simp; omega
  have HVV := Lib.hid hv
  obtain ⟨hn1, hn5⟩ := hn
  obtain ⟨x, hxe⟩ : ∃ x, x = p / n := ⟨_, rfl⟩
  obtain ⟨y, hye⟩ : ∃ y, y = p % n := ⟨_, rfl⟩
  have hy : y < n := by rw [hye]; exact Nat.mod_lt _ (by omega)
  have hx : x < n := by rw [hxe]; exact (Nat.div_lt_iff_lt_mul (by omega)).2 hp
  have HPE : Hid (p = x * n + y) := by unfold Hid; rw [hxe, hye, Nat.mul_comm, Nat.div_add_mod]
  have hq1 : (p : Int) / (n : Int) = (x : Int) := by rw [hxe]; simp
  have hq2 : (p : Int) % (n : Int) = (y : Int) := by rw [hye]; simp
  obtain ⟨K, hK⟩ : ∃ K, K = n ^ (n * n - (p + 1)) := ⟨_, rfl⟩
  have HKE := Lib.hid hK
  have HPW : Hid (n ^ (n * n - p) = n * K) := by unfold Hid; rw [hK]; exact pw_succ hp
  have HSZ : Hid (S ≤ w.heap.size) := ht.sz
  have hpp : p < 25 := by omega
  have hn0 : ¬ n = 0 := by omega
  clear hm hv hxe hye hK hp
  go_enter Try.func38, Try.ntmps38
  go_wp2_with fail
  rw [hq2]
  have hb : Below w.heap.size w (w.alloc (.cells #[] 29)) := (Below.refl _ _).alloc (Nat.le_refl _) _
  have hch := Below.chgR (B := B) (S := S) hb
  have ht' := ht.later hb
  have HPT : Hid (Part n p x y t w.heap.size (w.alloc (.cells #[] 29)) (.slice (some ⟨w.heap.size, 0, none⟩) 0 0) 0 0) := .inl ⟨rfl, fun u hu => (hu.ta.q.bd x y hx hy).1⟩
  clear hb hwm hpm hq1 hq2 ht
  generalize w.alloc (.cells #[] 29) = w0 at *
  generalize Value.slice (some ⟨w.heap.size, 0, none⟩) 0 0 = v0 at *
  go_loopw [13, 14, 15] (fun cv fov zv wr => ∃ (k c : Nat) (fv : Value) (t' : Nat → Nat → Int), k ≤ n ∧ zv = .int .i64 k ∧ cv = .int .i64 c ∧ fov = fv ∧ TbAt B S G H P C n t' wr ∧ Hid (Agr n p t t') ∧ ChgR B S w wr ∧ Hid (c ≤ k * K) ∧ Hid (Part n p x y t w.heap.size wr fv c k)) (fun _ _ zv _ => n - (intOf zv).toNat)
  case atStart => exact ⟨0, 0, v0, t, Nat.zero_le _, rfl, rfl, rfl, ht', Lib.hid (Agr.refl _ _ _), hch, Lib.hid (Nat.zero_le _), HPT⟩
  case round =>
    clear hch ht' HPT
    obtain ⟨k, c, fv, t', hk, rfl, rfl, hfv, ht', HAG, hch, HCB, HPT⟩ := hrel
    have hfv' := hfv.symm
    clear hfv
    subst hfv'
    by_cases hkn : k < n
    · have hki : (k : Int) < (n : Int) := by omega
      by_cases hyx : y < x
      · have q1 := ht'.row y hy
        have q2 := ht'.cell y x hy hx
        obtain ⟨zz, hzz⟩ : ∃ zz, zz = t' y x := ⟨_, rfl⟩
        obtain ⟨b0, hb0⟩ : ∃ b0, b0 = (zz != (k : Int)) := ⟨_, rfl⟩
        have HB0 : Hid (∀ b, b = b0 → (b = true ↔ (y < x → t' y x ≠ (k : Int)))) := fun b hb => by rw [hb, hb0, hzz]; simp [hyx]
        rw [← hzz] at q2
        have hb0' := hb0.symm
        have hyx1 : ¬ (x : Int) ≤ (y : Int) := by omega
        have hyi : (y : Int) < (n : Int) := by omega
        have hxi : (x : Int) < (n : Int) := by omega
        clear hb0 hzz
        go_wp2_with fail
        clear q1 q2 hb0' hyx1
        have hk0 : 0 ≤ (k : Int) := by omega
        go_loop [16, 17] (fun gv iv => ∃ (i : Nat) (b : Bool), i ≤ x ∧ iv = .int .i64 i ∧ gv = .bool b ∧ Hid (b = true ↔ ((y < x → t' y x ≠ (k : Int)) ∧ ∀ c, c < i → t' c y ≠ (k : Int)))) (fun _ iv => x - (intOf iv).toNat)
        case atStart => exact ⟨0, _, Nat.zero_le _, rfl, rfl, Lib.hid ((HB0.out _ rfl).trans ⟨fun h => ⟨h, fun c hc => by omega⟩, fun h => h.1⟩)⟩
        case round =>
          obtain ⟨i, b, hi, rfl, rfl, HBB⟩ := hrel
          by_cases hix : i < x
          · have r1 := ht'.row i (by omega)
            have r2 := ht'.cell i y (by omega) hy
            have hin : (i : Int) < (n : Int) := by omega
            have hix' : (i : Int) < (x : Int) := by omega
            have HN : Hid (∀ b', (b' = true ↔ (b = true ∧ t' i y ≠ (k : Int))) → (b' = true ↔ ((y < x → t' y x ≠ (k : Int)) ∧ ∀ c, c < i + 1 → t' c y ≠ (k : Int)))) := fun b' hb' => by
              rw [hb', HBB.out]
              constructor
              · rintro ⟨⟨h1, h2⟩, h3⟩
                refine ⟨h1, fun c hc => ?_⟩
                by_cases e : c = i
                · subst e; exact h3
                · exact h2 c (by omega)
              · rintro ⟨h1, h2⟩
                exact ⟨⟨h1, fun c hc => h2 c (by omega)⟩, h2 i (by omega)⟩
            obtain ⟨zz, hzz⟩ : ∃ zz, zz = t' i y := ⟨_, rfl⟩
            rw [← hzz] at r2 HN
            clear hzz
            cases b
            · have HB1 := Lib.hid (HN.out false (by simp))
              clear HN
              go_wp2_with fail
              go_round
              case rel => exact ⟨i + 1, false, by omega, by go_num, rfl, HB1⟩
              case measure => first | (simp [intOf]; done) | (simp [intOf]; omega)
            · by_cases he : zz = (k : Int)
              · have HB1 := Lib.hid (HN.out false (by simp [he]))
                have hb1 : (zz != (k : Int)) = false := by simp [he]
                clear HN he
                go_wp2_with fail
                go_round
                case rel => exact ⟨i + 1, false, by omega, by go_num, rfl, HB1⟩
                case measure => first | (simp [intOf]; done) | (simp [intOf]; omega)
              · have HB1 := Lib.hid (HN.out true (by simp [he]))
                have hb1 : (zz != (k : Int)) = true := by simp [he]
                clear HN he
                go_wp2_with fail
                go_round
                case rel => exact ⟨i + 1, true, by omega, by go_num, rfl, HB1⟩
                case measure => first | (simp [intOf]; done) | (simp [intOf]; omega)
          · obtain rfl : i = x := by omega
            clear HB0
            go_wp2_with fail
            go_loop [16, 18] (fun gv jv => ∃ (j : Nat) (b : Bool), j ≤ y ∧ jv = .int .i64 j ∧ gv = .bool b ∧ Hid (b = true ↔ (((y < i → t' y i ≠ (k : Int)) ∧ ∀ c, c < i → t' c y ≠ (k : Int)) ∧ ∀ c, c < j → t' i c ≠ (k : Int)))) (fun _ jv => y - (intOf jv).toNat)
            case atStart => exact ⟨0, b, Nat.zero_le _, rfl, rfl, Lib.hid (by rw [HBB.out]; exact ⟨fun h => ⟨h, fun c hc => by omega⟩, fun h => h.1⟩)⟩
            case round =>
              clear HBB
              obtain ⟨j, b, hj, rfl, rfl, HBB⟩ := hrel
              by_cases hjy : j < y
              · have r1 := ht'.row i hx
                have r2 := ht'.cell i j hx (by omega)
                have hjn : (j : Int) < (n : Int) := by omega
                have hjy' : (j : Int) < (y : Int) := by omega
                have hin : (i : Int) < (n : Int) := by omega
                have HN : Hid (∀ b', (b' = true ↔ (b = true ∧ t' i j ≠ (k : Int))) → (b' = true ↔ (((y < i → t' y i ≠ (k : Int)) ∧ ∀ c, c < i → t' c y ≠ (k : Int)) ∧ ∀ c, c < j + 1 → t' i c ≠ (k : Int)))) := fun b' hb' => by
                  rw [hb', HBB.out]
                  constructor
                  · rintro ⟨⟨h1, h2⟩, h3⟩
                    refine ⟨h1, fun c hc => ?_⟩
                    by_cases e : c = j
                    · subst e; exact h3
                    · exact h2 c (by omega)
                  · rintro ⟨h1, h2⟩
                    exact ⟨⟨h1, fun c hc => h2 c (by omega)⟩, h2 j (by omega)⟩
                obtain ⟨zz, hzz⟩ : ∃ zz, zz = t' i j := ⟨_, rfl⟩
                rw [← hzz] at r2 HN
                clear hzz
                cases b
                · have HB1 := Lib.hid (HN.out false (by simp))
                  clear HN
                  go_wp2_with fail
                  go_round
                  case rel => exact ⟨j + 1, false, by omega, by go_num, rfl, HB1⟩
                  case measure => first | (simp [intOf]; done) | (simp [intOf]; omega)
                · by_cases he : zz = (k : Int)
                  · have HB1 := Lib.hid (HN.out false (by simp [he]))
                    have hb1 : (zz != (k : Int)) = false := by simp [he]
                    clear HN he
                    go_wp2_with fail
                    go_round
                    case rel => exact ⟨j + 1, false, by omega, by go_num, rfl, HB1⟩
                    case measure => first | (simp [intOf]; done) | (simp [intOf]; omega)
                  · have HB1 := Lib.hid (HN.out true (by simp [he]))
                    have hb1 : (zz != (k : Int)) = true := by simp [he]
                    clear HN he
                    go_wp2_with fail
                    go_round
                    case rel => exact ⟨j + 1, true, by omega, by go_num, rfl, HB1⟩
                    case measure => first | (simp [intOf]; done) | (simp [intOf]; omega)
              · obtain rfl : j = y := by omega
                cases b
                · have HNF : Hid (∀ u, Compl n p t u → u i j ≠ (k : Int)) := fun u hu e => by
                    have hf := (show Compl n (i * n + j) t' u by rw [← HPE.out]; exact hu.of_agr HAG.out).free hx hy
                    rw [e] at hf
                    have := HBB.out.2 ⟨⟨hf.2.2, hf.1⟩, hf.2.1⟩
                    cases this
                  clear HBB
                  go_wp2_with fail
                  go_roundw
                  case rel => exact ⟨k + 1, c, fv, t', by omega, by go_num, rfl, rfl, ht', HAG, hch, Lib.hid (by rw [Nat.succ_mul]; have := HCB.out; omega), Lib.hid (HPT.out.skip (ChgR.refl 0 0 _) (Nat.zero_le _) HNF.out)⟩
                  case measure => first | (simp [intOf]; done) | (simp [intOf]; omega)
                · have HFR := Lib.hid (HBB.out.1 rfl)
                  clear HBB
                  have r1 := ht'.row i hx
                  have r2 := ht'.cell i j hx hy
                  have r3 := ht'.fr i j hx hy
                  have hin : (i : Int) < (n : Int) := by omega
                  have hjn : (j : Int) < (n : Int) := by omega
                  have hst := ht'.store i j hx hy (k : Int)
                  have HS2 := Lib.hid hst.2
                  have HS1 := Lib.hid hst.1
                  have HVP : Hid (Vp n (p + 1) (upd t' i j (k : Int))) := by
                    have h1 := HVV.out.agr HAG.out
                    rw [HPE.out] at h1
                    unfold Hid
                    rw [HPE.out]
                    exact h1.step hx hy (by omega) HFR.out.1.2 HFR.out.2
                  clear hst
                  go_wp2_with fail
                  refine (HIH.out (upd t' i j (k : Int)) _ _ (by go_num) HS1.out HVP.out).mono ?_
                  rintro e w1 ⟨m2, fv2, t2, rfl, ht2, HA2, hch2, HM2, HR2⟩
                  have HSW : Hid (ChgR B S wr w1) := HS2.out.trans hch2
                  have HAG2 : Hid (Agr n p t t2) := by
                    refine HAG.out.trans (Agr.trans ?_ (HA2.out.mono (Nat.le_succ _)))
                    rw [HPE.out]; exact agr_upd t' _ hy
                  have hchN : ChgR B S w w1 := hch.trans HSW.out
                  have hK : m2 ≤ K := by have := HM2.out; rw [HKE.out]; exact this
                  obtain ⟨s, hs⟩ : ∃ s, s = c + m2 := ⟨_, rfl⟩
                  have hCM : s ≤ (k + 1) * K := by rw [Nat.succ_mul]; have := HCB.out; omega
                  have hCM2 : s ≤ n * K := Nat.le_trans hCM (Nat.mul_le_mul_right K (by omega))
                  have hbig : s ≤ 298023223876953125 := by rw [← HPW.out] at hCM2; exact Nat.le_trans hCM2 (pw_bd hn5 (Nat.sub_le _ _))
                  have hwr : IntKind.i64.wrap ((c : Int) + (m2 : Int)) = (s : Int) := by rw [← Int.natCast_add, ← hs]; exact IntWalk.i64_in _ (by omega)
                  have HCM := Lib.hid hCM
                  have HCM2 := Lib.hid hCM2
                  have HSE := Lib.hid hs
                  have hSB : S ≤ w.heap.size := HSZ.out
                  have hzz : w.heap.size ≤ wr.heap.size := hch.size
                  have hz0 : (wr.setCell ⟨H i, j, none⟩ (.int .i64 (k : Int))).heap.size = wr.heap.size := by simp
                  have HZ0 := Lib.hid hz0
                  clear hCM hCM2 hbig hK hch2 hz0
                  by_cases hm0 : m2 = 0
                  · have HNF : Hid (∀ u, Compl n p t u → u i j ≠ (k : Int)) := by
                      have h2 := HR2.out
                      rw [HPE.out, hm0] at h2
                      have h3 := HAG.out
                      rw [HPE.out] at h3
                      unfold Hid
                      rw [HPE.out]
                      exact Res.none hx hy h2 h3
                    have HP2 : Hid (Part n p i j t w.heap.size w1 fv s (k + 1)) := by
                      unfold Hid
                      rw [HSE.out, hm0]
                      exact HPT.out.skip HSW.out hSB HNF.out
                    have hm00 : ¬ (0 : Int) < (m2 : Int) := by omega
                    by_cases hc0 : c = 0
                    · have hcb : ((c : Int) == 0) = true := by simp [hc0]
                      have hs0 : ¬ (0 : Int) < (s : Int) := by omega
                      clear hc0 hm0 hs
                      cases fb
                      all_goals
                        go_wp2_with fail
                        go_roundw
                        case rel => exact ⟨k + 1, s, fv, t2, by omega, by go_num, rfl, rfl, ht2, HAG2, hchN, HCM, HP2⟩
                        case measure => first | (simp [intOf]; done) | (simp [intOf]; omega)
                    · have hcb : ((c : Int) == 0) = false := by simp; omega
                      have hs0 : (0 : Int) < (s : Int) := by omega
                      clear hc0 hm0 hs
                      cases fb
                      · go_wp2_with fail
                        go_roundw
                        case rel => exact ⟨k + 1, s, fv, t2, by omega, by go_num, rfl, rfl, ht2, HAG2, hchN, HCM, HP2⟩
                        case measure => first | (simp [intOf]; done) | (simp [intOf]; omega)
                      · go_wp2_with fail
                        go_ret2
                        exact SPost.mk s _ t2 ht2 HAG2.out hchN (by rw [HPW.out]; exact HCM2.out) (HP2.out.res2 (by omega))
                  · have hmp : (0 : Int) < (m2 : Int) := by omega
                    have hs0 : (0 : Int) < (s : Int) := by omega
                    by_cases hc0 : c = 0
                    · have HP2 : Hid (Part n p i j t w.heap.size w1 fv2 s (k + 1)) := by
                        have h2 := HR2.out
                        rw [HPE.out] at h2
                        have h3 := HAG.out
                        rw [HPE.out] at h3
                        unfold Hid
                        rw [HSE.out, hc0, HPE.out]
                        exact Res.some hx hy (by omega) h2 h3 (by rw [HZ0.out]; exact hzz) _
                      have hcb : ((c : Int) == 0) = true := by simp [hc0]
                      clear hc0 hm0 hs
                      cases fb
                      · go_wp2_with fail
                        go_roundw
                        case rel => exact ⟨k + 1, s, fv2, t2, by omega, by go_num, rfl, rfl, ht2, HAG2, hchN, HCM, HP2⟩
                        case measure => first | (simp [intOf]; done) | (simp [intOf]; omega)
                      · go_wp2_with fail
                        go_ret2
                        exact SPost.mk s _ t2 ht2 HAG2.out hchN (by rw [HPW.out]; exact HCM2.out) (HP2.out.res2 (by omega))
                    · have hcb : ((c : Int) == 0) = false := by simp; omega
                      have HP2 : Hid (Part n p i j t w.heap.size w1 fv s (k + 1)) := by
                        unfold Hid
                        rw [HSE.out]
                        exact HPT.out.more HSW.out hSB (by omega) m2 (k + 1)
                      clear hc0 hm0 hs
                      cases fb
                      · go_wp2_with fail
                        go_roundw
                        case rel => exact ⟨k + 1, s, fv, t2, by omega, by go_num, rfl, rfl, ht2, HAG2, hchN, HCM, HP2⟩
                        case measure => first | (simp [intOf]; done) | (simp [intOf]; omega)
                      · go_wp2_with fail
                        go_ret2
                        exact SPost.mk s _ t2 ht2 HAG2.out hchN (by rw [HPW.out]; exact HCM2.out) (HP2.out.res2 (by omega))
      · have HB0 : Hid (∀ b, b = true → (b = true ↔ (y < x → t' y x ≠ (k : Int)))) := fun b hb => ⟨fun _ h => absurd h hyx, fun _ => hb⟩
        have hyx1 : (x : Int) ≤ (y : Int) := by omega
        go_wp2_with fail
        clear hyx1
        have hk0 : 0 ≤ (k : Int) := by omega
        go_loop [16, 17] (fun gv iv => ∃ (i : Nat) (b : Bool), i ≤ x ∧ iv = .int .i64 i ∧ gv = .bool b ∧ Hid (b = true ↔ ((y < x → t' y x ≠ (k : Int)) ∧ ∀ c, c < i → t' c y ≠ (k : Int)))) (fun _ iv => x - (intOf iv).toNat)
        case atStart => exact ⟨0, _, Nat.zero_le _, rfl, rfl, Lib.hid ((HB0.out _ rfl).trans ⟨fun h => ⟨h, fun c hc => by omega⟩, fun h => h.1⟩)⟩
        case round =>
          obtain ⟨i, b, hi, rfl, rfl, HBB⟩ := hrel
          by_cases hix : i < x
          · have r1 := ht'.row i (by omega)
            have r2 := ht'.cell i y (by omega) hy
            have hin : (i : Int) < (n : Int) := by omega
            have hix' : (i : Int) < (x : Int) := by omega
            have HN : Hid (∀ b', (b' = true ↔ (b = true ∧ t' i y ≠ (k : Int))) → (b' = true ↔ ((y < x → t' y x ≠ (k : Int)) ∧ ∀ c, c < i + 1 → t' c y ≠ (k : Int)))) := fun b' hb' => by
              rw [hb', HBB.out]
              constructor
              · rintro ⟨⟨h1, h2⟩, h3⟩
                refine ⟨h1, fun c hc => ?_⟩
                by_cases e : c = i
                · subst e; exact h3
                · exact h2 c (by omega)
              · rintro ⟨h1, h2⟩
                exact ⟨⟨h1, fun c hc => h2 c (by omega)⟩, h2 i (by omega)⟩
            obtain ⟨zz, hzz⟩ : ∃ zz, zz = t' i y := ⟨_, rfl⟩
            rw [← hzz] at r2 HN
            clear hzz
            cases b
            · have HB1 := Lib.hid (HN.out false (by simp))
              clear HN
              go_wp2_with fail
              go_round
              case rel => exact ⟨i + 1, false, by omega, by go_num, rfl, HB1⟩
              case measure => first | (simp [intOf]; done) | (simp [intOf]; omega)
            · by_cases he : zz = (k : Int)
              · have HB1 := Lib.hid (HN.out false (by simp [he]))
                have hb1 : (zz != (k : Int)) = false := by simp [he]
                clear HN he
                go_wp2_with fail
                go_round
                case rel => exact ⟨i + 1, false, by omega, by go_num, rfl, HB1⟩
                case measure => first | (simp [intOf]; done) | (simp [intOf]; omega)
              · have HB1 := Lib.hid (HN.out true (by simp [he]))
                have hb1 : (zz != (k : Int)) = true := by simp [he]
                clear HN he
                go_wp2_with fail
                go_round
                case rel => exact ⟨i + 1, true, by omega, by go_num, rfl, HB1⟩
                case measure => first | (simp [intOf]; done) | (simp [intOf]; omega)
          · obtain rfl : i = x := by omega
            clear HB0
            go_wp2_with fail
            go_loop [16, 18] (fun gv jv => ∃ (j : Nat) (b : Bool), j ≤ y ∧ jv = .int .i64 j ∧ gv = .bool b ∧ Hid (b = true ↔ (((y < i → t' y i ≠ (k : Int)) ∧ ∀ c, c < i → t' c y ≠ (k : Int)) ∧ ∀ c, c < j → t' i c ≠ (k : Int)))) (fun _ jv => y - (intOf jv).toNat)
            case atStart => exact ⟨0, b, Nat.zero_le _, rfl, rfl, Lib.hid (by rw [HBB.out]; exact ⟨fun h => ⟨h, fun c hc => by omega⟩, fun h => h.1⟩)⟩
            case round =>
              clear HBB
              obtain ⟨j, b, hj, rfl, rfl, HBB⟩ := hrel
              by_cases hjy : j < y
              · have r1 := ht'.row i hx
                have r2 := ht'.cell i j hx (by omega)
                have hjn : (j : Int) < (n : Int) := by omega
                have hjy' : (j : Int) < (y : Int) := by omega
                have hin : (i : Int) < (n : Int) := by omega
                have HN : Hid (∀ b', (b' = true ↔ (b = true ∧ t' i j ≠ (k : Int))) → (b' = true ↔ (((y < i → t' y i ≠ (k : Int)) ∧ ∀ c, c < i → t' c y ≠ (k : Int)) ∧ ∀ c, c < j + 1 → t' i c ≠ (k : Int)))) := fun b' hb' => by
                  rw [hb', HBB.out]
                  constructor
                  · rintro ⟨⟨h1, h2⟩, h3⟩
                    refine ⟨h1, fun c hc => ?_⟩
                    by_cases e : c = j
                    · subst e; exact h3
                    · exact h2 c (by omega)
                  · rintro ⟨h1, h2⟩
                    exact ⟨⟨h1, fun c hc => h2 c (by omega)⟩, h2 j (by omega)⟩
                obtain ⟨zz, hzz⟩ : ∃ zz, zz = t' i j := ⟨_, rfl⟩
                rw [← hzz] at r2 HN
                clear hzz
                cases b
                · have HB1 := Lib.hid (HN.out false (by simp))
                  clear HN
                  go_wp2_with fail
                  go_round
                  case rel => exact ⟨j + 1, false, by omega, by go_num, rfl, HB1⟩
                  case measure => first | (simp [intOf]; done) | (simp [intOf]; omega)
                · by_cases he : zz = (k : Int)
                  · have HB1 := Lib.hid (HN.out false (by simp [he]))
                    have hb1 : (zz != (k : Int)) = false := by simp [he]
                    clear HN he
                    go_wp2_with fail
                    go_round
                    case rel => exact ⟨j + 1, false, by omega, by go_num, rfl, HB1⟩
                    case measure => first | (simp [intOf]; done) | (simp [intOf]; omega)
                  · have HB1 := Lib.hid (HN.out true (by simp [he]))
                    have hb1 : (zz != (k : Int)) = true := by simp [he]
                    clear HN he
                    go_wp2_with fail
                    go_round
                    case rel => exact ⟨j + 1, true, by omega, by go_num, rfl, HB1⟩
                    case measure => first | (simp [intOf]; done) | (simp [intOf]; omega)
              · obtain rfl : j = y := by omega
                cases b
                · have HNF : Hid (∀ u, Compl n p t u → u i j ≠ (k : Int)) := fun u hu e => by
                    have hf := (show Compl n (i * n + j) t' u by rw [← HPE.out]; exact hu.of_agr HAG.out).free hx hy
                    rw [e] at hf
                    have := HBB.out.2 ⟨⟨hf.2.2, hf.1⟩, hf.2.1⟩
                    cases this
                  clear HBB
                  go_wp2_with fail
                  go_roundw
                  case rel => exact ⟨k + 1, c, fv, t', by omega, by go_num, rfl, rfl, ht', HAG, hch, Lib.hid (by rw [Nat.succ_mul]; have := HCB.out; omega), Lib.hid (HPT.out.skip (ChgR.refl 0 0 _) (Nat.zero_le _) HNF.out)⟩
                  case measure => first | (simp [intOf]; done) | (simp [intOf]; omega)
                · have HFR := Lib.hid (HBB.out.1 rfl)
                  clear HBB
                  have r1 := ht'.row i hx
                  have r2 := ht'.cell i j hx hy
                  have r3 := ht'.fr i j hx hy
                  have hin : (i : Int) < (n : Int) := by omega
                  have hjn : (j : Int) < (n : Int) := by omega
                  have hst := ht'.store i j hx hy (k : Int)
                  have HS2 := Lib.hid hst.2
                  have HS1 := Lib.hid hst.1
                  have HVP : Hid (Vp n (p + 1) (upd t' i j (k : Int))) := by
                    have h1 := HVV.out.agr HAG.out
                    rw [HPE.out] at h1
                    unfold Hid
                    rw [HPE.out]
                    exact h1.step hx hy (by omega) HFR.out.1.2 HFR.out.2
                  clear hst
                  go_wp2_with fail
                  refine (HIH.out (upd t' i j (k : Int)) _ _ (by go_num) HS1.out HVP.out).mono ?_
                  rintro e w1 ⟨m2, fv2, t2, rfl, ht2, HA2, hch2, HM2, HR2⟩
                  have HSW : Hid (ChgR B S wr w1) := HS2.out.trans hch2
                  have HAG2 : Hid (Agr n p t t2) := by
                    refine HAG.out.trans (Agr.trans ?_ (HA2.out.mono (Nat.le_succ _)))
                    rw [HPE.out]; exact agr_upd t' _ hy
                  have hchN : ChgR B S w w1 := hch.trans HSW.out
                  have hK : m2 ≤ K := by have := HM2.out; rw [HKE.out]; exact this
                  obtain ⟨s, hs⟩ : ∃ s, s = c + m2 := ⟨_, rfl⟩
                  have hCM : s ≤ (k + 1) * K := by rw [Nat.succ_mul]; have := HCB.out; omega
                  have hCM2 : s ≤ n * K := Nat.le_trans hCM (Nat.mul_le_mul_right K (by omega))
                  have hbig : s ≤ 298023223876953125 := by rw [← HPW.out] at hCM2; exact Nat.le_trans hCM2 (pw_bd hn5 (Nat.sub_le _ _))
                  have hwr : IntKind.i64.wrap ((c : Int) + (m2 : Int)) = (s : Int) := by rw [← Int.natCast_add, ← hs]; exact IntWalk.i64_in _ (by omega)
                  have HCM := Lib.hid hCM
                  have HCM2 := Lib.hid hCM2
                  have HSE := Lib.hid hs
                  have hSB : S ≤ w.heap.size := HSZ.out
                  have hzz : w.heap.size ≤ wr.heap.size := hch.size
                  have hz0 : (wr.setCell ⟨H i, j, none⟩ (.int .i64 (k : Int))).heap.size = wr.heap.size := by simp
                  have HZ0 := Lib.hid hz0
                  clear hCM hCM2 hbig hK hch2 hz0
                  by_cases hm0 : m2 = 0
                  · have HNF : Hid (∀ u, Compl n p t u → u i j ≠ (k : Int)) := by
                      have h2 := HR2.out
                      rw [HPE.out, hm0] at h2
                      have h3 := HAG.out
                      rw [HPE.out] at h3
                      unfold Hid
                      rw [HPE.out]
                      exact Res.none hx hy h2 h3
                    have HP2 : Hid (Part n p i j t w.heap.size w1 fv s (k + 1)) := by
                      unfold Hid
                      rw [HSE.out, hm0]
                      exact HPT.out.skip HSW.out hSB HNF.out
                    have hm00 : ¬ (0 : Int) < (m2 : Int) := by omega
                    by_cases hc0 : c = 0
                    · have hcb : ((c : Int) == 0) = true := by simp [hc0]
                      have hs0 : ¬ (0 : Int) < (s : Int) := by omega
                      clear hc0 hm0 hs
                      cases fb
                      all_goals
                        go_wp2_with fail
                        go_roundw
                        case rel => exact ⟨k + 1, s, fv, t2, by omega, by go_num, rfl, rfl, ht2, HAG2, hchN, HCM, HP2⟩
                        case measure => first | (simp [intOf]; done) | (simp [intOf]; omega)
                    · have hcb : ((c : Int) == 0) = false := by simp; omega
                      have hs0 : (0 : Int) < (s : Int) := by omega
                      clear hc0 hm0 hs
                      cases fb
                      · go_wp2_with fail
                        go_roundw
                        case rel => exact ⟨k + 1, s, fv, t2, by omega, by go_num, rfl, rfl, ht2, HAG2, hchN, HCM, HP2⟩
                        case measure => first | (simp [intOf]; done) | (simp [intOf]; omega)
                      · go_wp2_with fail
                        go_ret2
                        exact SPost.mk s _ t2 ht2 HAG2.out hchN (by rw [HPW.out]; exact HCM2.out) (HP2.out.res2 (by omega))
                  · have hmp : (0 : Int) < (m2 : Int) := by omega
                    have hs0 : (0 : Int) < (s : Int) := by omega
                    by_cases hc0 : c = 0
                    · have HP2 : Hid (Part n p i j t w.heap.size w1 fv2 s (k + 1)) := by
                        have h2 := HR2.out
                        rw [HPE.out] at h2
                        have h3 := HAG.out
                        rw [HPE.out] at h3
                        unfold Hid
                        rw [HSE.out, hc0, HPE.out]
                        exact Res.some hx hy (by omega) h2 h3 (by rw [HZ0.out]; exact hzz) _
                      have hcb : ((c : Int) == 0) = true := by simp [hc0]
                      clear hc0 hm0 hs
                      cases fb
                      · go_wp2_with fail
                        go_roundw
                        case rel => exact ⟨k + 1, s, fv2, t2, by omega, by go_num, rfl, rfl, ht2, HAG2, hchN, HCM, HP2⟩
                        case measure => first | (simp [intOf]; done) | (simp [intOf]; omega)
                      · go_wp2_with fail
                        go_ret2
                        exact SPost.mk s _ t2 ht2 HAG2.out hchN (by rw [HPW.out]; exact HCM2.out) (HP2.out.res2 (by omega))
                    · have hcb : ((c : Int) == 0) = false := by simp; omega
                      have HP2 : Hid (Part n p i j t w.heap.size w1 fv s (k + 1)) := by
                        unfold Hid
                        rw [HSE.out]
                        exact HPT.out.more HSW.out hSB (by omega) m2 (k + 1)
                      clear hc0 hm0 hs
                      cases fb
                      · go_wp2_with fail
                        go_roundw
                        case rel => exact ⟨k + 1, s, fv, t2, by omega, by go_num, rfl, rfl, ht2, HAG2, hchN, HCM, HP2⟩
                        case measure => first | (simp [intOf]; done) | (simp [intOf]; omega)
                      · go_wp2_with fail
                        go_ret2
                        exact SPost.mk s _ t2 ht2 HAG2.out hchN (by rw [HPW.out]; exact HCM2.out) (HP2.out.res2 (by omega))
    · obtain rfl : k = n := by omega
      go_wp2_with fail
      go_ret2
      exact SPost.mk c _ t' ht' HAG.out hch (by rw [HPW.out]; exact HCB.out) (HPT.out.res hx hy)
theorem search_any (n : Nat) (hn : 1 ≤ n ∧ n ≤ 5) (fb : Bool) (B S G : Nat) (H P : Nat → Nat) (C : Nat) : ∀ (d p : Nat), p + d = n * n → ∀ (t : Nat → Nat → Int) (w : World) (q : Int), q = (p : Int) → TbAt B S G H P C n t w → Vp n p t →
    Calls Try.prog 38 #[.slice (some ⟨G, 0, none⟩) n C, .int .i64 q, .bool fb] w (SPost B S G H P C n p t w)
  | 0, p, hp, t, w, q, hq, ht, hv => by
    obtain rfl : p = n * n := by omega
    subst hq
    exact search_end n hn fb B S G H P C t w ht hv
  | d + 1, p, hp, t, w, q, hq, ht, hv => by
    subst hq
    exact search_step n hn fb B S G H P C p (by omega) (fun t w q hq ht hv => search_any n hn fb B S G H P C d (p + 1) (by omega) t w q hq ht hv) t w ht hv
end Go.Proofs.Ythcnhkjiojeemaa
