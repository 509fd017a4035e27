/- l04Is: the reference's. -/
import Derived.Test.YthcnhkjiojeemaaQgM
import Derived.Test.YthcnhkjiojeemaaBl
namespace Go.Proofs.Ythcnhkjiojeemaa
open Go.RowKit

/-- The number in row i, column j fits all before it. -/
def QOk (x : List (List Int)) (i j : Nat) : Prop := (0 ≤ tb x i j ∧ tb x i j < x.length) ∧ (∀ c, c < j → tb x i c ≠ tb x i j) ∧ ∀ c, c < i → tb x c j ≠ tb x i j
theorem qg_of_ok {x : List (List Int)} (h1 : 1 ≤ x.length ∧ x.length ≤ 36) (hl : ∀ i, i < x.length → (rowAt x i).length = x.length) (h : ∀ i j, i < x.length → j < x.length → QOk x i j) : qgB x = true :=
  qgB_iff.2 ⟨h1, hl, ⟨fun i j hi hj => (h i j hi hj).1, fun i j k hi hj hk => (h i k hi hk).2.1 j hj, fun i j k hi hj hk => (h k i hk hi).2.2 j hj⟩⟩
theorem qg_bad {x : List (List Int)} (i j : Nat) (hi : i < x.length) (hj : j < x.length) (h : ¬ QOk x i j) : qgB x = false := by
  cases e : qgB x with
  | false => rfl
  | true =>
    obtain ⟨_, _, q⟩ := qgB_iff.1 e
    exact absurd ⟨q.bd i j hi hj, fun c hc => q.row i c j hi hc hj, fun c hc => q.col j c i hj hc hi⟩ h
theorem idx_inj {n y z j q : Nat} (hz : z < n) (hq : q < n) (h : y * n + z = j * n + q) : y = j ∧ z = q := by
  rcases Nat.lt_trichotomy y j with h1 | h1 | h1
  · have := Nat.mul_le_mul_right n (show y + 1 ≤ j from h1)
    rw [Nat.succ_mul] at this; omega
  · subst h1; omega
  · have := Nat.mul_le_mul_right n (show j + 1 ≤ y from h1)
    rw [Nat.succ_mul] at this; omega
theorem idx_lt {n j z : Nat} (hj : j < n) (hz : z < n) : j * n + z < n * n := by
  have := Nat.mul_le_mul_right n (show j + 1 ≤ n from hj)
  rw [Nat.succ_mul] at this; omega
theorem qg_len {x : List (List Int)} (i : Nat) (hi : i < x.length) (h : ¬ (rowAt x i).length = x.length) : qgB x = false := qgB_row i hi (qRow_len h)
set_option maxRecDepth 100000 in
set_option maxHeartbeats 4000000 in
theorem l04Is_any (v : Value) (x : List (List Int)) (w : World) (hx : RT w v x) (hm : x.length ≤ 1048576) (hr : Small x) :
    Calls Try.prog 47 #[v] w fun e w' => e = .returned (.bool (qgB x)) ∧ Below w.heap.size w w' := by
  obtain ⟨a, c, rfl⟩ := hx.slice
  by_cases hin : 1 ≤ x.length ∧ x.length ≤ 36
  case neg =>
    have HR : Hid (qgB x = false) := qgB_size (inB_no (by omega))
    have HI : Hid (∀ wx, Calls Try.prog 37 #[.int .i64 x.length, .int .i64 1, .int .i64 36] wx fun e w' => e = .returned (.bool false) ∧ wx = w') := fun wx => by
      have := l00In_any x.length 1 36 wx
      rw [inB_no (by omega)] at this; exact this
    go_enter Try.func47, Try.ntmps47
    go_wp2_with (go_at_call 37; refine (HI.out _).mono ?_; rintro e w' ⟨rfl, rfl⟩)
    go_ret
    exact ⟨ret_bool HR.out.symm, Below.refl _ _⟩
  case pos =>
    obtain ⟨hin1, hin2⟩ := hin
    have HI : Hid (∀ wx, Calls Try.prog 37 #[.int .i64 x.length, .int .i64 1, .int .i64 36] wx fun e w' => e = .returned (.bool true) ∧ wx = w') := fun wx => by
      have := l00In_any x.length 1 36 wx
      rw [inB_yes (by omega)] at this; exact this
    obtain ⟨n, hn⟩ : ∃ n, n = x.length := ⟨_, rfl⟩
    obtain ⟨m, hmm⟩ : ∃ m, m = n * n := ⟨_, rfl⟩
    have hm2 : m ≤ 1296 := by rw [hmm]; exact Nat.le_trans (Nat.mul_le_mul (show n ≤ 36 by omega) (show n ≤ 36 by omega)) (by decide)
    have hwm : IntKind.i64.wrap ((n : Int) * (n : Int)) = (m : Int) := by rw [← Int.natCast_mul, ← hmm]; exact IntWalk.i64_in _ (by omega)
    have HNX := Lib.hid hn
    have HMM := Lib.hid hmm
    rw [← hn] at HI hin1 hin2 hm
    have hx' : RT w (.slice a n c) x := by rw [hn]; exact hx
    obtain ⟨G, O, _, rfl, _⟩ := hx.at 0 (by omega)
    have HX : Hid (∀ wx k, Below w.heap.size w wx → k < n → ∃ ra rc, wx.cell? ⟨G, O + k, none⟩ = some (.slice ra (rowAt x k).length rc) ∧ RI wx (.slice ra (rowAt x k).length rc) (rowAt x k)) := fun wx k h hk => by
      obtain ⟨g, off, r, e, _, h1, h2⟩ := (hx'.later h).at k (by rw [← HNX.out]; exact hk)
      simp only [Option.some.injEq, Addr.mk.injEq, and_true] at e
      obtain ⟨rfl, rfl⟩ := e
      obtain ⟨ra, rc, rfl⟩ := h2.slice
      exact ⟨ra, rc, h1, h2⟩
    have hb := Below.refl w.heap.size w
    clear hx hx'
    rw [← hn]
    clear hn hmm
    go_enter Try.func47, Try.ntmps47
    go_wp2_with (first | (go_at_call 37; refine (HI.out _).mono ?_; rintro e w' ⟨rfl, rfl⟩) | (at_make; refine wpl_make Try.underlying89 info_bool rfl (by omega) rfl _ _ rfl w.heap.size .i64 .i64 _ _ m rfl rfl rfl rfl (by omega) (Nat.le_refl _) ?_; intro w1 hown hgr hlt))
    rw [bl_rep] at hown
    have hb1 : Below w.heap.size w w1 := (Below.refl _ _).grown hgr (Nat.le_refl _) (fun j hj => by cases hj)
    clear hgr hb hwm
    go_loopw [5] (fun iv wr => ∃ (k : Nat) (f : Nat → Bool), k ≤ n ∧ iv = .int .i64 k ∧ OV 4 w.heap.size wr (.slice (some ⟨w.heap.size, 0, none⟩) m m) (bl m f) ∧ Hid (∀ y z, y < n → z < n → (f (y * n + z) = true ↔ ∃ i, i < k ∧ tb x i y = (z : Int))) ∧ Hid (∀ i, i < k → (rowAt x i).length = n ∧ ∀ j, j < n → QOk x i j) ∧ w.heap.size < wr.heap.size ∧ Below w.heap.size w wr) (fun iv _ => n - (intOf iv).toNat)
    case atStart => exact ⟨0, _, Nat.zero_le _, rfl, hown, Lib.hid (fun y z _ _ => by simp), Lib.hid (fun i hi => by omega), hlt, hb1⟩
    case round =>
      clear hown hlt hb1
      obtain ⟨k, f, hk, rfl, hC, HF, HQ, hsz, hb⟩ := hrel
      by_cases hlt : k < n
      · obtain ⟨ra, rc, hc, hri⟩ := HX.out wr k hb hlt
        have hlti : (k : Int) < (n : Int) := by omega
        by_cases hl : (rowAt x k).length = n
        · have HL := Lib.hid hl
          rw [hl] at hc hri
          clear hl
          go_wp2_with (at_make; refine wpl_make Try.underlying89 info_bool rfl (by omega) rfl _ _ rfl wr.heap.size .i64 .i64 _ _ n rfl rfl rfl rfl (by omega) (Nat.le_refl _) ?_; intro w2 hown hgr hlt2)
          rw [bl_rep] at hown
          have hC1 := hC.kept hgr (.inr (by simp [Value.ownBlock]))
          have hb2 : Below w.heap.size w w2 := hb.grown hgr hb.size (fun j hj => by cases hj)
          have hne1 : ¬ wr.heap.size = w.heap.size := by omega
          have hne2 : ¬ w.heap.size = wr.heap.size := by omega
          clear hgr hc hri hC hb
          generalize wr = wa at *
          go_loopw [7] (fun jv wq => ∃ (j : Nat) (f g : Nat → Bool), j ≤ n ∧ jv = .int .i64 j ∧ OV 4 w.heap.size wq (.slice (some ⟨w.heap.size, 0, none⟩) m m) (bl m f) ∧ OV 4 wa.heap.size wq (.slice (some ⟨wa.heap.size, 0, none⟩) n n) (bl n g) ∧ Hid (∀ y z, y < n → z < n → (f (y * n + z) = true ↔ (∃ i, i < k ∧ tb x i y = (z : Int)) ∨ (y < j ∧ tb x k y = (z : Int)))) ∧ Hid (∀ z, z < n → (g z = true ↔ ∃ c, c < j ∧ tb x k c = (z : Int))) ∧ Hid (∀ c, c < j → QOk x k c) ∧ wa.heap.size < wq.heap.size ∧ Below w.heap.size w wq) (fun jv _ => n - (intOf jv).toNat)
          case atStart => exact ⟨0, _, _, Nat.zero_le _, rfl, hC1, hown, Lib.hid (fun y z hy hz => by rw [HF.out y z hy hz]; simp), Lib.hid (fun z _ => by simp), Lib.hid (fun c hc => by omega), hlt2, hb2⟩
          case round =>
            clear hC1 hown hlt2 hb2
            obtain ⟨j, f', g, hj, rfl, hC, hR, HF2, HG, HQ2, hsq, hb⟩ := hrel
            obtain ⟨ra, rc, hc, hri⟩ := HX.out wr k hb hlt
            rw [HL.out] at hc
            by_cases hjn : j < n
            · obtain ⟨g2, o2, rfl, _, hcz⟩ := hri.at j (by rw [HL.out]; exact hjn)
              have hji : (j : Int) < (n : Int) := by omega
              have HZ : Hid ((rowAt x k).getD j 0 = tb x k j) := rfl
              rw [HZ.out] at hcz
              have HB : Hid (¬ QOk x k j → qgB x = false) := fun h => qg_bad k j (by rw [← HNX.out]; exact hlt) (by rw [← HNX.out]; exact hjn) h
              clear hri
              by_cases hz : 0 ≤ tb x k j ∧ tb x k j < n
              · obtain ⟨z, hze⟩ := Int.eq_ofNat_of_zero_le hz.1
                have hzn : z < n := by omega
                have HI2 : Hid (∀ wx, Calls Try.prog 37 #[.int .i64 z, .int .i64 0, .int .i64 ((n : Int) - 1)] wx fun e w' => e = .returned (.bool true) ∧ wx = w') := fun wx => by
                  have := l00In_any z 0 ((n : Int) - 1) wx
                  rw [inB_yes (by omega)] at this; exact this
                rw [hze] at hcz
                have HZE := Lib.hid hze
                clear hze hz
                obtain ⟨q, hq⟩ : ∃ q, q = j * n := ⟨_, rfl⟩
                have hqm : q + z < m := by rw [hq, HMM.out]; exact idx_lt hjn hzn
                have hwq : IntKind.i64.wrap ((j : Int) * (n : Int)) = (q : Int) := by rw [← Int.natCast_mul, ← hq]; exact IntWalk.i64_in _ (by omega)
                have HQE := Lib.hid hq
                have hqmi : (q : Int) + (z : Int) < (m : Int) := by omega
                have hzni : (z : Int) < (n : Int) := by omega
                clear hq
                have c1 := hR.cell z (by rw [bl_len]; exact hzn)
                rw [bl_get g hzn] at c1
                have c2 := hC.cell (q + z) (by rw [bl_len]; exact hqm)
                rw [bl_get f' hqm] at c2
                have f1 := hR.frozen z
                have f2 := hC.frozen (q + z)
                have hG := HG.out z hzn
                have hF := HF2.out j z hjn hzn
                rw [← HQE.out] at hF
                have hst1 := hR.stored z (.bool true)
                rw [bl_set g hzn] at hst1
                have hC2 := hC.kept hst1.2 (.inr (by simp [Value.ownBlock]; omega))
                have hst2 := hC2.stored (q + z) (.bool true)
                rw [bl_set f' hqm] at hst2
                have hR2 := hst1.1.kept hst2.2 (.inr (by simp [Value.ownBlock]; omega))
                have hC3 := hst2.1
                clear hst1 hst2 hC2
                have HST := Lib.hid (And.intro hR2 hC3)
                have HFR := Lib.hid (And.intro hG hF)
                clear hR2 hC3 hG hF
                cases hg : g z
                · cases hf : f' (q + z)
                  · rw [hg] at c1
                    rw [hf] at c2
                    have HOK : Hid (QOk x k j) := by
                      refine ⟨⟨by rw [HZE.out]; omega, by rw [HZE.out, ← HNX.out]; omega⟩, fun c hc e => ?_, fun c hc e => ?_⟩
                      · have := HFR.out.1.2 ⟨c, hc, by rw [e]; exact HZE.out⟩
                        rw [hg] at this; cases this
                      · have := HFR.out.2.2 (.inl ⟨c, hc, by rw [e]; exact HZE.out⟩)
                        rw [hf] at this; cases this
                    clear hg hf HB
                    go_wp2_with (go_at_call 37; refine (HI2.out _).mono ?_; rintro e w' ⟨rfl, rfl⟩)
                    go_roundw
                    case rel =>
                      refine ⟨j + 1, _, _, by omega, by go_num, HST.out.2, HST.out.1, Lib.hid (fun y z' hy hz' => ?_), Lib.hid (fun z' hz' => ?_), Lib.hid (fun c hc => ?_), by simp; omega, (hb.setCell (by show w.heap.size ≤ wa.heap.size; omega) _).setCell (Nat.le_refl _) _⟩
                      · by_cases e : y * n + z' = q + z
                        · rw [if_pos e]
                          rw [HQE.out] at e
                          obtain ⟨rfl, rfl⟩ := idx_inj hz' hzn e
                          exact ⟨fun _ => .inr ⟨by omega, HZE.out⟩, fun _ => rfl⟩
                        · rw [if_neg e, HF2.out y z' hy hz']
                          constructor
                          · rintro (h | ⟨h1, h2⟩)
                            · exact .inl h
                            · exact .inr ⟨by omega, h2⟩
                          · rintro (h | ⟨h1, h2⟩)
                            · exact .inl h
                            · by_cases hyj : y = j
                              · subst hyj
                                rw [HZE.out] at h2
                                exact absurd (by rw [HQE.out, Int.ofNat_inj.1 h2]) e
                              · exact .inr ⟨by omega, h2⟩
                      · by_cases e : z' = z
                        · rw [if_pos e]; subst e
                          exact ⟨fun _ => ⟨j, by omega, HZE.out⟩, fun _ => rfl⟩
                        · rw [if_neg e, HG.out z' hz']
                          constructor
                          · rintro ⟨c, hc, h⟩; exact ⟨c, by omega, h⟩
                          · rintro ⟨c, hc, h⟩
                            by_cases hcj : c = j
                            · subst hcj
                              rw [HZE.out] at h
                              exact absurd (Int.ofNat_inj.1 h).symm e
                            · exact ⟨c, by omega, h⟩
                      · by_cases hcj : c = j
                        · subst hcj; exact HOK.out
                        · exact HQ2.out c (by omega)
                    case measure => first | (simp [intOf]; done) | (simp [intOf]; omega)
                  · rw [hg] at c1
                    rw [hf] at c2
                    have HR : Hid (qgB x = false) := HB.out fun h => by
                      obtain ⟨c, hc, e⟩ | ⟨hc, _⟩ := HFR.out.2.1 hf
                      · exact h.2.2 c hc (by rw [e]; exact HZE.out.symm)
                      · omega
                    clear hg hf HB
                    go_wp2_with (go_at_call 37; refine (HI2.out _).mono ?_; rintro e w' ⟨rfl, rfl⟩)
                    go_ret
                    exact ⟨ret_bool HR.out.symm, hb⟩
                · rw [hg] at c1
                  have HR : Hid (qgB x = false) := HB.out fun h => by
                    obtain ⟨c, hc, e⟩ := HFR.out.1.1 hg
                    exact h.2.1 c hc (by rw [e]; exact HZE.out.symm)
                  clear hg HB c2
                  go_wp2_with (go_at_call 37; refine (HI2.out _).mono ?_; rintro e w' ⟨rfl, rfl⟩)
                  go_ret
                  exact ⟨ret_bool HR.out.symm, hb⟩
              · have HR : Hid (qgB x = false) := HB.out fun h => hz (by have := h.1; rw [HNX.out]; exact this)
                have HI2 : Hid (∀ wx, Calls Try.prog 37 #[.int .i64 (tb x k j), .int .i64 0, .int .i64 ((n : Int) - 1)] wx fun e w' => e = .returned (.bool false) ∧ wx = w') := fun wx => by
                  have := l00In_any (tb x k j) 0 ((n : Int) - 1) wx
                  rw [inB_no (by omega)] at this; exact this
                clear hz HB
                generalize tb x k j = z at *
                go_wp2_with (go_at_call 37; refine (HI2.out _).mono ?_; rintro e w' ⟨rfl, rfl⟩)
                go_ret
                exact ⟨ret_bool HR.out.symm, hb⟩
            · obtain rfl : j = n := by omega
              go_wp2_with fail
              go_roundw
              case rel => exact ⟨k + 1, f', by omega, by go_num, hC, Lib.hid (fun y z hy hz => by
                rw [HF2.out y z hy hz]
                constructor
                · rintro (⟨i, hi, e⟩ | ⟨_, e⟩)
                  · exact ⟨i, by omega, e⟩
                  · exact ⟨k, by omega, e⟩
                · rintro ⟨i, hi, e⟩
                  by_cases h : i = k
                  · subst h; exact .inr ⟨hy, e⟩
                  · exact .inl ⟨i, by omega, e⟩), Lib.hid (fun i hi => by
                by_cases h : i = k
                · subst h; exact ⟨HL.out, HQ2.out⟩
                · exact HQ.out i (by omega)), by omega, hb⟩
              case measure => first | (simp [intOf]; done) | (simp [intOf]; omega)
        · have HR : Hid (qgB x = false) := qg_len k (by rw [← HNX.out]; exact hlt) (by rw [← HNX.out]; exact hl)
          clear hri
          generalize (rowAt x k).length = L at *
          go_wp2_with fail
          go_ret
          exact ⟨ret_bool HR.out.symm, hb⟩
      · obtain rfl : k = n := by omega
        have HR : Hid (qgB x = true) := qg_of_ok (by rw [← HNX.out]; omega) (fun i hi => by rw [← HNX.out]; exact (HQ.out i (by rw [HNX.out]; exact hi)).1) fun i j hi hj => (HQ.out i (by rw [HNX.out]; exact hi)).2 j (by rw [HNX.out]; exact hj)
        go_wp2_with fail
        go_ret
        exact ⟨ret_bool HR.out.symm, hb⟩
end Go.Proofs.Ythcnhkjiojeemaa
