/- Both countings of patterns compute the same list of ways: for at most 1000 elements, modules and greatest elements. -/
import Derived.Test.YtjjohniabgamjaaLib
namespace Go.Proofs.Ytjjohniabgamjaa
open Go.RowKit

/-- One sum's ways added to the next list, the widths 1 to j. -/
def inn (ways : List Int) (s : Nat) : Nat → List Int → List Int
  | 0, nx => nx
  | j + 1, nx => (inn ways s j nx).set (s + (j + 1)) (wrap64 ((inn ways s j nx).getD (s + (j + 1)) 0 + ways.getD s 0))
def mid (ways : List Int) (most md : Nat) : Nat → List Int
  | 0 => List.replicate (md + 1) 0
  | s + 1 => inn ways s (min most (md - s)) (mid ways most md s)
def wayz (most md : Nat) : Nat → List Int
  | 0 => (List.replicate (md + 1) 0).set 0 1
  | i + 1 => mid (wayz most md i) most md (md + 1)
def cnt (e md most : Nat) : Int := (wayz most md e).getD md 0

theorem inn_len (ways : List Int) (s : Nat) (nx : List Int) : ∀ j, (inn ways s j nx).length = nx.length
  | 0 => rfl
  | j + 1 => by simp [inn, inn_len ways s nx j]
theorem mid_len (ways : List Int) (most md : Nat) : ∀ s, (mid ways most md s).length = md + 1
  | 0 => by simp [mid]
  | s + 1 => by rw [mid, inn_len, mid_len ways most md s]
theorem wayz_len (most md : Nat) : ∀ i, (wayz most md i).length = md + 1
  | 0 => by simp [wayz]
  | i + 1 => by rw [wayz, mid_len]

set_option maxHeartbeats 1000000 in
theorem l08Count_any (e md mo : Nat) (w : World) (he : e ≤ 1000) (hmd : md ≤ 1000) (hmo : mo ≤ 1000) :
    Calls Try.prog 36 #[.int .i64 e, .int .i64 md, .int .i64 mo] w fun r w' => r = .returned (.int .i64 (cnt e md mo)) ∧ Below w.heap.size w w' := by
  go_enter Try.func36, Try.ntmps36
  go_wp2_with (at_make; refine wpl_make_i64 rfl _ _ rfl w.heap.size .i64 .i64 _ _ (md + 1) rfl rfl (by omega) (by omega) (by omega) (Nat.le_refl _) ?_; intro w1 hown hgr hlt; have hcell := hown.cell 0 (by simp); have hfr := hown.frozen 0)
  clear hcell hfr
  obtain ⟨hown2, hgr2⟩ := hown.stored 0 1
  have hb2 : Below w.heap.size w (w1.setCell ⟨w.heap.size, 0, none⟩ (.int .i64 1)) := ((Below.refl _ _).grown hgr (Nat.le_refl _) (by simp)).setCell (Nat.le_refl _) _
  generalize w1.setCell ⟨w.heap.size, 0, none⟩ (.int .i64 1) = w2 at *
  clear hown hgr hlt hgr2
  go_loopw [7, 8] (fun v i wr => ∃ (k g : Nat), k ≤ e ∧ i = .int .i64 k ∧ v = .slice (some ⟨g, 0, none⟩) (md + 1) (md + 1) ∧ OI w.heap.size wr (.slice (some ⟨g, 0, none⟩) (md + 1) (md + 1)) (wayz mo md k) ∧ Below w.heap.size w wr) (fun _ i _ => e - (intOf i).toNat)
  case atStart => exact ⟨0, _, Nat.zero_le _, rfl, rfl, hown2, hb2⟩
  case round =>
    obtain ⟨k, g, hk, rfl, rfl, hown, hb⟩ := hrel
    clear hown2 hb2
    have hz := hb.size
    by_cases hlt : k < e
    · go_wp2_with (at_make; refine wpl_make_i64 rfl _ _ rfl w.heap.size .i64 .i64 _ _ (md + 1) rfl rfl (by omega) (by omega) (by omega) hz ?_; intro w1 hown1 hgr hlt1)
      have hownk := hown.kept hgr (.inr (by simp [Value.ownBlock]))
      have hb1 : Below w.heap.size w w1 := hb.grown hgr hz (by simp)
      have hne : g < wr.heap.size := (hown.lt g rfl).2
      generalize hG : wr.heap.size = G at *
      clear hown hgr hb hG
      go_loopw [10] (fun s wr => ∃ (s' : Nat), s' ≤ md + 1 ∧ s = .int .i64 s' ∧ OI w.heap.size wr (.slice (some ⟨g, 0, none⟩) (md + 1) (md + 1)) (wayz mo md k) ∧ OI w.heap.size wr (.slice (some ⟨G, 0, none⟩) (md + 1) (md + 1)) (mid (wayz mo md k) mo md s') ∧ Below w.heap.size w wr) (fun s _ => md + 1 - (intOf s).toNat)
      case atStart => exact ⟨0, Nat.zero_le _, rfl, hownk, hown1, hb1⟩
      case round =>
        obtain ⟨s, hs, rfl, hownk, hown1, hb1⟩ := hrel
        by_cases hls : s ≤ md
        · go_wp2_with fail
          go_loopw [11] (fun v wr => ∃ (j : Nat), j ≤ min mo (md - s) ∧ v = .int .i64 ↑(j + 1) ∧ OI w.heap.size wr (.slice (some ⟨g, 0, none⟩) (md + 1) (md + 1)) (wayz mo md k) ∧ OI w.heap.size wr (.slice (some ⟨G, 0, none⟩) (md + 1) (md + 1)) (inn (wayz mo md k) s j (mid (wayz mo md k) mo md s)) ∧ Below w.heap.size w wr) (fun v _ => mo + 1 - (intOf v).toNat)
          case atStart => exact ⟨0, Nat.zero_le _, rfl, hownk, hown1, hb1⟩
          case round =>
            obtain ⟨j, hj, rfl, hownk, hown1, hb1⟩ := hrel
            by_cases hlj : j < min mo (md - s)
            · have hc1 := hownk.cell s (by rw [wayz_len]; omega)
              have hc2 := hown1.cell (s + (j + 1)) (by rw [inn_len, mid_len]; omega)
              have hfz := hown1.frozen (s + (j + 1))
              go_wp2_with fail
              refine wp_region_qtail 12 (by kernel_rfl) (by kernel_rfl) ?_; simp only [List.take_succ_cons, List.take_zero, List.drop_succ_cons, List.drop_zero]; (repeat (go_big_quiet_step (fail))); refine wpQuiet_nil ?_
              go_wp2_with fail
              obtain ⟨hst, hgs⟩ := hown1.stored (s + (j + 1)) (wrap64 ((inn (wayz mo md k) s j (mid (wayz mo md k) mo md s)).getD (s + (j + 1)) 0 + (wayz mo md k).getD s 0))
              go_roundw
              case rel => exact ⟨j + 1, by omega, by go_num, (hownk.kept hgs (.inr (by simp [Value.ownBlock]; omega))).drew, hst.drew, (hb1.setCell hz _).drew⟩
              case measure => simp [intOf]; omega
            · go_wp2_with fail
              all_goals
                go_roundw
                case rel => exact ⟨s + 1, by omega, by go_num, hownk, by rw [mid]; exact (show j = min mo (md - s) by omega) ▸ hown1, hb1⟩
                case measure => simp [intOf]; omega
        · go_wp2_with fail
          go_roundw
          case rel => exact ⟨k + 1, G, by omega, by go_num, rfl, by rw [wayz]; exact (show s = md + 1 by omega) ▸ hown1, hb1⟩
          case measure => simp [intOf]; omega
    · have hcell := hown.cell md (by rw [wayz_len]; omega)
      go_wp2_with fail
      go_ret
      exact ⟨ret_i64 (by rw [show e = k by omega]; rfl), hb⟩

set_option maxHeartbeats 1000000 in
theorem countPatterns_any (e md mo : Nat) (w : World) (he : e ≤ 1000) (hmd : md ≤ 1000) (hmo : mo ≤ 1000) :
    Calls Try.prog 38 #[.int .i64 e, .int .i64 md, .int .i64 mo] w fun r w' => r = .returned (.int .i64 (cnt e md mo)) ∧ Below w.heap.size w w' := by
  go_enter Try.func38, Try.ntmps38
  go_wp2_with (at_make; refine wpl_make_i64 rfl _ _ rfl w.heap.size .i64 .i64 _ _ (md + 1) rfl rfl (by omega) (by omega) (by omega) (Nat.le_refl _) ?_; intro w1 hown hgr hlt; have hcell := hown.cell 0 (by simp); have hfr := hown.frozen 0)
  clear hcell hfr
  obtain ⟨hown2, hgr2⟩ := hown.stored 0 1
  have hb2 : Below w.heap.size w (w1.setCell ⟨w.heap.size, 0, none⟩ (.int .i64 1)) := ((Below.refl _ _).grown hgr (Nat.le_refl _) (by simp)).setCell (Nat.le_refl _) _
  generalize w1.setCell ⟨w.heap.size, 0, none⟩ (.int .i64 1) = w2 at *
  clear hown hgr hlt hgr2
  go_loopw [7, 18] (fun v i wr => ∃ (k g : Nat), k ≤ e ∧ i = .int .i64 k ∧ v = .slice (some ⟨g, 0, none⟩) (md + 1) (md + 1) ∧ OI w.heap.size wr (.slice (some ⟨g, 0, none⟩) (md + 1) (md + 1)) (wayz mo md k) ∧ Below w.heap.size w wr) (fun _ i _ => e - (intOf i).toNat)
  case atStart => exact ⟨0, _, Nat.zero_le _, rfl, rfl, hown2, hb2⟩
  case round =>
    obtain ⟨k, g, hk, rfl, rfl, hown, hb⟩ := hrel
    clear hown2 hb2
    have hz := hb.size
    by_cases hlt : k < e
    · go_wp2_with (at_make; refine wpl_make_i64 rfl _ _ rfl w.heap.size .i64 .i64 _ _ (md + 1) rfl rfl (by omega) (by omega) (by omega) hz ?_; intro w1 hown1 hgr hlt1)
      have hownk := hown.kept hgr (.inr (by simp [Value.ownBlock]))
      have hb1 : Below w.heap.size w w1 := hb.grown hgr hz (by simp)
      have hne : g < wr.heap.size := (hown.lt g rfl).2
      generalize hG : wr.heap.size = G at *
      clear hown hgr hb hG
      go_loopw [25] (fun s wr => ∃ (s' : Nat), s' ≤ md + 1 ∧ s = .int .i64 s' ∧ OI w.heap.size wr (.slice (some ⟨g, 0, none⟩) (md + 1) (md + 1)) (wayz mo md k) ∧ OI w.heap.size wr (.slice (some ⟨G, 0, none⟩) (md + 1) (md + 1)) (mid (wayz mo md k) mo md s') ∧ Below w.heap.size w wr) (fun s _ => md + 1 - (intOf s).toNat)
      case atStart => exact ⟨0, Nat.zero_le _, rfl, hownk, hown1, hb1⟩
      case round =>
        obtain ⟨s, hs, rfl, hownk, hown1, hb1⟩ := hrel
        by_cases hls : s < md + 1
        · have hd : decide ((s : Int) < (md : Int) + 1) = true := by simp; omega
          obtain ⟨z, HZ, hc1⟩ := hownk.cellv s (by rw [wayz_len]; omega)
          go_wp2_with fail
          clear hc1
          go_loopw [11] (fun v wr => ∃ (j : Nat), j ≤ min mo (md - s) ∧ v = .int .i64 ↑(j + 1) ∧ OI w.heap.size wr (.slice (some ⟨g, 0, none⟩) (md + 1) (md + 1)) (wayz mo md k) ∧ OI w.heap.size wr (.slice (some ⟨G, 0, none⟩) (md + 1) (md + 1)) (inn (wayz mo md k) s j (mid (wayz mo md k) mo md s)) ∧ Below w.heap.size w wr) (fun v _ => mo + 1 - (intOf v).toNat)
          case atStart => exact ⟨0, Nat.zero_le _, rfl, hownk, hown1, hb1⟩
          case round =>
            obtain ⟨j, hj, rfl, hownk, hown1, hb1⟩ := hrel
            by_cases hlj : j < min mo (md - s)
            · have hc2 := hown1.cell (s + (j + 1)) (by rw [inn_len, mid_len]; omega)
              have hfz := hown1.frozen (s + (j + 1))
              go_wp2_with fail
              obtain ⟨hst, hgs⟩ := hown1.stored (s + (j + 1)) (wrap64 ((inn (wayz mo md k) s j (mid (wayz mo md k) mo md s)).getD (s + (j + 1)) 0 + z))
              go_roundw
              case rel => exact ⟨j + 1, by omega, by go_num, hownk.kept hgs (.inr (by simp [Value.ownBlock]; omega)), by rw [inn, ← HZ.out]; exact hst, hb1.setCell hz _⟩
              case measure => simp [intOf]; omega
            · go_wp2_with fail
              all_goals
                go_roundw
                case rel => exact ⟨s + 1, by omega, by go_num, hownk, by rw [mid]; exact (show j = min mo (md - s) by omega) ▸ hown1, hb1⟩
                case measure => simp [intOf]; omega
        · go_wp2_with fail
          go_roundw
          case rel => exact ⟨k + 1, G, by omega, by go_num, rfl, by rw [wayz]; exact (show s = md + 1 by omega) ▸ hown1, hb1⟩
          case measure => simp [intOf]; omega
    · have hcell := hown.cell md (by rw [wayz_len]; omega)
      go_wp2_with fail
      go_ret
      exact ⟨ret_i64 (by rw [show e = k by omega]; rfl), hb⟩
end Go.Proofs.Ytjjohniabgamjaa
