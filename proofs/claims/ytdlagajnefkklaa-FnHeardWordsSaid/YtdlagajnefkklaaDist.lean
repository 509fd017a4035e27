/- The distance of two texts row by row, in the reference: for texts of at most 100 bytes. -/
import Derived.Test.YtdlagajnefkklaaEditM
import Derived.Deep.RegionLaw
import Derived.Test.YtdlagajnefkklaaLf
namespace Go.Proofs.Ytdlagajnefkklaa
open Go.RowKit

set_option maxHeartbeats 400000 in
theorem l00Min_any (a b : Int) (w : World) :
    Calls Try.prog 62 #[.int .i64 a, .int .i64 b] w fun e w' => e = .returned (.int .i64 (mn b a)) ∧ w = w' := by
  by_cases h : a < b
  all_goals
    have hm := Lib.hid (mn_eq b a)
    go_enter Try.func62, Try.ntmps62
    go_wp2
    all_goals (go_ret; exact ⟨ret_i64 (by rw [hm.out]; omega), rfl⟩)

theorem still_same {P : Program} {f : FuncId} {args : Array Value} {w : World} {v : Value} (h : Calls P f args w fun e w' => e = .returned v ∧ w = w') :
    Calls P f args w fun e w'' => e = .returned v ∧ w'' = w := h.mono fun _ _ ⟨he, hm⟩ => ⟨he, hm.symm⟩
theorem OK.lit1 {T : TypeId} {k : IntKind} {B : Nat} (w : World) (x : Int) (hb : B ≤ w.heap.size) : OK T k B (w.alloc (.cells #[.int k x] T)) (.slice (some ⟨w.heap.size, 0, none⟩) 1 1) [x] := OV.lit T w [.int k x] hb (by simp [maxLen])

theorem OK.drewN {T : TypeId} {k : IntKind} {B : Nat} {w : World} {v : Value} {xs : List Int} (h : OK T k B w v xs) (n : Nat) : OK T k B (w.drewN n) v xs := h
def pI (a b : ByteArray) (i k : Nat) : Int := (pAt (bz a) (bz b) i k : Int)
theorem pI_bd (a b : ByteArray) (i k : Nat) : 0 ≤ pI a b i k ∧ pI a b i k ≤ i + k := by
  have := pAt_le (bz a) (bz b) i k
  unfold pI; omega
theorem lf_snoc (n : Nat) (f : Nat → Int) : lf (n + 1) f = lf n f ++ [f n] := by simp [lf, List.range_succ]

set_option maxHeartbeats 4000000 in
set_option maxRecDepth 100000 in
theorem l07Distance_any (a b : ByteArray) (w : World) (ha : a.size ≤ 100) (hb : b.size ≤ 100) :
    Calls Try.prog 44 #[.string a, .string b] w fun e w' => e = .returned (.int .i64 (cAt false (bz a) (bz b) 0 0 : Nat)) ∧ Below w.heap.size w w' := by
  go_enter Try.func44, Try.ntmps44
  go_wp2_with fail
  have hown0 : OI w.heap.size (w.alloc (.cells #[] 2)) (.slice (some ⟨w.heap.size, 0, none⟩) 0 0) [] := OK.made _ _ _ (Nat.le_refl _)
  have hbl0 : Below w.heap.size w (w.alloc (.cells #[] 2)) := (Below.refl _ _).alloc (Nat.le_refl _) _
  generalize w.alloc (.cells #[] 2) = w2 at *
  generalize Value.slice (some ⟨w.heap.size, 0, none⟩) 0 0 = v0 at *
  go_loopw [5, 6] (fun out kv wr => ∃ k : Nat, k ≤ b.size + 1 ∧ kv = .int .i64 k ∧ OI w.heap.size wr out (lf k fun j => pI a b 0 j) ∧ Below w.heap.size w wr) (fun _ kv _ => b.size + 1 - (intOf kv).toNat)
  case atStart => exact ⟨0, Nat.zero_le _, rfl, hown0, hbl0⟩
  case round =>
    obtain ⟨k, hk, rfl, hown, hbw⟩ := hrel
    clear hown0 hbl0
    have hz := hbw.size
    by_cases hlt : k ≤ b.size
    · have HP : Hid (pI a b 0 k = k) := by unfold Hid pI; rw [pAt_zero_left _ _ _ (by rw [bz_len]; exact hlt)]
      have hl : (lf k fun j => pI a b 0 j).length ≤ 1099511627776 := by rw [lf_len]; omega
      go_wp2_with (at_builtin; refine wpl_app_i64 rfl _ _ rfl w.heap.size _ _ rfl (hown.alloc _) _ _ _ rfl (World.cell?_alloc_at _ _ _ _ rfl) hl (by simp; omega) ?_; intro v' w1 hown1 hgr)
      have hb1 : Below w.heap.size w w1 := own_below (hbw.alloc hz _) (hown.alloc _) hgr (by simp; omega)
      have hown2 : OI w.heap.size w1 v' (lf (k + 1) fun j => pI a b 0 j) := by rw [lf_snoc, HP.out]; exact hown1
      go_roundw
      case rel => exact ⟨k + 1, by omega, by go_num, hown2, hb1⟩
      case measure => first | (simp [intOf]; done) | (simp [intOf]; omega)
    · have hke : k = b.size + 1 := by omega
      rw [hke] at hown
      clear hk hke
      go_wp2_with fail
      clear hlt
      go_loopw [5, 7, 8, 9, 10] (fun row iv _ _ _ wr => ∃ i : Nat, i ≤ a.size ∧ iv = .int .i64 i ∧ OI w.heap.size wr row (lf (b.size + 1) fun j => pI a b i j) ∧ Below w.heap.size w wr) (fun _ iv _ _ _ _ => a.size - (intOf iv).toNat)
      case atStart => exact ⟨0, Nat.zero_le _, rfl, hown, hbw⟩
      case round =>
        obtain ⟨i, hi, rfl, hrow, hbw⟩ := hrel
        clear hown hz
        have hz := hbw.size
        obtain ⟨ra, rc, rfl⟩ := hrow.slice
        rw [lf_len] at *
        by_cases hia : i < a.size
        · go_wp2_with fail
          have hnext : OI wr.heap.size (wr.alloc (.cells #[.int .i64 (↑i + 1)] 2)) (.slice (some ⟨wr.heap.size, 0, none⟩) 1 1) (lf 1 fun j => pI a b (i + 1) j) := by
            have : (lf 1 fun j => pI a b (i + 1) j) = [(i : Int) + 1] := by
              simp only [lf, List.range_one, List.map_cons, List.map_nil]
              unfold pI
              rw [pAt_zero_right _ _ _ (by rw [bz_len]; omega)]
              rfl
            rw [this]; exact OK.lit1 wr _ (Nat.le_refl _)
          have hrow1 := hrow.alloc (.cells #[.int .i64 (↑i + 1)] 2)
          have hb1 : Below w.heap.size w (wr.alloc (.cells #[.int .i64 (↑i + 1)] 2)) := hbw.alloc hz _
          have hlr : ∀ q, (Value.slice ra (b.size + 1) rc).ownBlock = some q → q < wr.heap.size := fun q hq => (hrow.lt q hq).2
          have HLR := Lib.hid hlr
          have hS : wr.heap.size < (wr.alloc (.cells #[.int .i64 (↑i + 1)] 2)).heap.size := by simp
          clear hlr hrow hbw
          generalize wr.alloc (.cells #[.int .i64 (↑i + 1)] 2) = w3 at *
          generalize hnv : Value.slice (some ⟨wr.heap.size, 0, none⟩) 1 1 = nv at *
          clear hnv
          generalize wr.heap.size = S at *
          go_loopw [8, 9, 10] (fun nx kv _ wr => ∃ k : Nat, k ≤ b.size ∧ kv = .int .i64 k ∧ S < wr.heap.size ∧ OI S wr nx (lf (k + 1) fun j => pI a b (i + 1) j) ∧ OI w.heap.size wr (.slice ra (b.size + 1) rc) (lf (b.size + 1) fun j => pI a b i j) ∧ Below w.heap.size w wr) (fun _ kv _ _ => b.size - (intOf kv).toNat)
          case atStart => exact ⟨0, Nat.zero_le _, rfl, hS, hnext, hrow1, hb1⟩
          case round =>
            obtain ⟨k, hk, rfl, hSz, hnx, hrow, hbw⟩ := hrel
            clear hnext hrow1 hb1 hS
            have hz2 := hbw.size
            by_cases hkb : k < b.size
            · obtain ⟨na, nc, rfl⟩ := hnx.slice
              rw [lf_len] at *
              obtain ⟨g, rfl, hg, hc1⟩ := hrow.at k (by rw [lf_len]; omega)
              obtain ⟨g', he', _, hc2⟩ := hrow.at (k + 1) (by rw [lf_len]; omega)
              obtain ⟨h, rfl, hgh, hc3⟩ := hnx.at k (by rw [lf_len]; omega)
              simp only [Option.some.injEq, Addr.mk.injEq, and_true] at he'
              subst he'
              rw [lf_get _ _ _ (by omega)] at hc1 hc2 hc3
              have b1 := pI_bd a b i k
              have b2 := pI_bd a b i (k + 1)
              have b3 := pI_bd a b (i + 1) k
              have hps := pAt_succ (bz a) (bz b) i k (by rw [bz_len]; exact hia) (by rw [bz_len]; exact hkb)
              have hlg : g < S := HLR.out g rfl
              have HPS : Hid (pI a b (i + 1) (k + 1) = min (min (pI a b i (k + 1) + 1) (pI a b (i + 1) k + 1)) (pI a b i k + if (a[i].toNat : Int) = b[k].toNat then 0 else 1)) := by
                rw [bz_get a i hia, bz_get b k hkb] at hps
                unfold Hid pI
                rw [hps]
                split <;> omega
              clear hps
              generalize pI a b i k = d at *
              generalize pI a b i (k + 1) = r at *
              generalize hev : pI a b (i + 1) k = ev at *
              clear hev
              have f1 : (0 : Int) ≤ (k : Int) := by omega
              have f2 : (k : Int) < (b.size : Int) := by omega
              have f3 : (0 : Int) ≤ (k : Int) + 1 := by omega
              have f4 : (k : Int) + 1 < (b.size : Int) + 1 := by omega
              have f5 : ((k : Int) + 1).toNat = k + 1 := by omega
              have f6 : IntKind.i64.wrap ((k : Int) + 1) = (k : Int) + 1 := IntWalk.i64_in _ (by omega)
              have f7 : IntKind.i64.wrap (mn ev r + 1) = mn ev r + 1 := IntWalk.i64_in _ (by rw [mn_eq]; omega)
              have f8 : (k : Int) < (k : Int) + 1 := by omega
              have f9 : (0 : Int) ≤ (i : Int) := by omega
              have f10 : (i : Int) < (a.size : Int) := by omega
              have hne' : (Value.slice (some ⟨h, 0, none⟩) (k + 1) nc).ownBlock ≠ some g := fun e => by
                simp [Value.ownBlock] at e
                omega
              have hne2 : (Value.slice (some ⟨g, 0, none⟩) (b.size + 1) rc).ownBlock ≠ (Value.slice (some ⟨h, 0, none⟩) (k + 1) nc).ownBlock := fun e => by
                simp [Value.ownBlock] at e
                omega
              by_cases hxy : (a[i].toNat : Int) = b[k].toNat
              · have hne : ((a[i].toNat : Int) != b[k].toNat) = false := by simp [hxy]
                rw [if_pos hxy] at HPS
                have HV : Hid (mn (mn ev r + 1) d = pI a b (i + 1) (k + 1)) := by unfold Hid; rw [HPS.out]; simp only [mn_eq]; omega
                clear hxy HPS
                go_wp2_with fail
                go_quiet (fail)
                go_wp2_with fail
                go_region_law (first
                  | (go_simp; go_at_call 62; refine (l00Min_any _ _ _).mono ?_; rintro e w' ⟨rfl, rfl⟩; go_simp)
                  | (refine step_app_i64 (by rfl) _ _ (by rfl) S _ _ (by rfl) ((hnx.drewN (nq + 1)).alloc _) ⟨wr.heap.size, 0, none⟩ 1 (mn (mn ev r + 1) d) (by rfl) (World.cell?_alloc_at _ _ _ _ rfl) (by rw [lf_len]; omega) (by simp; omega) ?_; intro v' w1 hown1 hgr))
                all_goals
                  go_wp2_with fail
                  have hn2 : OI S w1 v' (lf (k + 1 + 1) fun j => pI a b (i + 1) j) := by rw [lf_snoc, ← HV.out]; exact hown1
                  have hr2 := ((hrow.drewN (nq + 1)).alloc (.cells #[.int .i64 (mn (mn ev r + 1) d)] 2)).kept hgr (.inr hne2)
                  have hsz1 := (own_below ((below_drewN (Below.refl S wr) (nq + 1)).alloc (Nat.le_of_lt hSz) _) ((hnx.drewN (nq + 1)).alloc _) hgr (by simp; omega)).size
                  have hb1 : Below w.heap.size w w1 := own_below ((below_drewN hbw (nq + 1)).alloc hz2 _) (((hnx.drewN (nq + 1)).alloc _).mono hz) hgr (by simp; omega)
                  go_roundw
                  case rel => exact ⟨k + 1, by omega, by go_num, by omega, hn2, hr2, hb1⟩
                  case measure => first | (simp [intOf]; done) | (simp [intOf]; omega)
              · have hne : ((a[i].toNat : Int) != b[k].toNat) = true := by simp; omega
                rw [if_neg hxy] at HPS
                have f11 : IntKind.i64.wrap (d + 1) = d + 1 := IntWalk.i64_in _ (by omega)
                have HV : Hid (mn (mn ev r + 1) (d + 1) = pI a b (i + 1) (k + 1)) := by unfold Hid; rw [HPS.out]; simp only [mn_eq]; omega
                clear hxy HPS
                go_wp2_with fail
                go_quiet (fail)
                go_wp2_with fail
                go_region_law (first
                  | (go_simp; go_at_call 62; refine (l00Min_any _ _ _).mono ?_; rintro e w' ⟨rfl, rfl⟩; go_simp)
                  | (refine step_app_i64 (by rfl) _ _ (by rfl) S _ _ (by rfl) ((hnx.drewN (nq + 1)).alloc _) ⟨wr.heap.size, 0, none⟩ 1 (mn (mn ev r + 1) (d + 1)) (by rfl) (World.cell?_alloc_at _ _ _ _ rfl) (by rw [lf_len]; omega) (by simp; omega) ?_; intro v' w1 hown1 hgr))
                all_goals
                  go_wp2_with fail
                  have hn2 : OI S w1 v' (lf (k + 1 + 1) fun j => pI a b (i + 1) j) := by rw [lf_snoc, ← HV.out]; exact hown1
                  have hr2 := ((hrow.drewN (nq + 1)).alloc (.cells #[.int .i64 (mn (mn ev r + 1) (d + 1))] 2)).kept hgr (.inr hne2)
                  have hsz1 := (own_below ((below_drewN (Below.refl S wr) (nq + 1)).alloc (Nat.le_of_lt hSz) _) ((hnx.drewN (nq + 1)).alloc _) hgr (by simp; omega)).size
                  have hb1 : Below w.heap.size w w1 := own_below ((below_drewN hbw (nq + 1)).alloc hz2 _) (((hnx.drewN (nq + 1)).alloc _).mono hz) hgr (by simp; omega)
                  go_roundw
                  case rel => exact ⟨k + 1, by omega, by go_num, by omega, hn2, hr2, hb1⟩
                  case measure => first | (simp [intOf]; done) | (simp [intOf]; omega)
            · obtain rfl : k = b.size := by omega
              go_wp2_with fail
              go_roundw
              case rel => exact ⟨i + 1, by omega, by go_num, hnx.mono (by omega), hbw⟩
              case measure => first | (simp [intOf]; done) | (simp [intOf]; omega)
        · have hcl := hrow.at b.size (by rw [lf_len]; omega)
          obtain ⟨g, rfl, _, hc⟩ := hcl
          rw [lf_get _ _ _ (by omega)] at hc
          obtain rfl : i = a.size := by omega
          have HR : Hid (pI a b a.size b.size = (cAt false (bz a) (bz b) 0 0 : Nat)) := by
            have := pAt_all (bz a) (bz b)
            rw [bz_len, bz_len] at this
            unfold Hid pI; rw [this]
          generalize pI a b a.size b.size = z at *
          go_wp2_with fail
          go_ret
          exact ⟨ret_i64 HR.out, hbw⟩
end Go.Proofs.Ytdlagajnefkklaa
