/- slices.Grow of nothing, and slices.Concat of two lists of texts. -/
import Derived.Test.YtgagjmnmfgfpfaaNwM
import Derived.Test.YtgagjmnmfgfpfaaApps
import Derived.Test.YtgagjmnmfgfpfaaMat
import Derived.Lib.AppendZerosOnto
namespace Go.Proofs.Ytgagjmnmfgfpfaa
open Go.RowKit

/-- append(nil, make([]T, n)...). -/
theorem wpl_grow {S T : TypeId} {z : Value} {by_ : Nat} (hS : Try.prog.underlying S = some (.slice T)) (hinfo : (Try.prog.info? T).map (fun i => (i.zero, i.size, i.bytes)) = some (some z, 1, by_)) (hz1 : z.cells.size = 1) (hby : by_ ≤ 24)
    {w : World} {ops : Array Oper} {rest : List Oper} {o : Oper} {a : Act} {Q : Exit → Act → World → Prop} {tn : TypeId} {kn kq : IntKind} (htn : Try.prog.underlying tn = some (.int kn))
    (hg : o.guard = none) (s x : Operand) (hop : o.op = Op.call { callee := Callee.builtin Builtin.append, args := #[s, x], argTypes := #[S, tn] })
    (n : Nat) (hs : a.eval s = .slice none 0 0) (hx : a.eval x = .int kq n) (h0 : 0 < n) (hn : n ≤ 1099511627776)
    (hK : ∀ cap w', n ≤ cap → OV T w.heap.size w' (.slice (some ⟨w.heap.size, 0, none⟩) 0 cap) [] → w.grownBy w' none → wpList Try.prog ops Q rest (a.put o.dst (.slice (some ⟨w.heap.size, 0, none⟩) n cap)) w') :
    wpList Try.prog ops Q (o :: rest) a w := by
  obtain ⟨i, hi, hz0, hz1', hz2⟩ := info_parts hinfo
  have hbb : n * by_ ≤ 140737488355328 := Nat.le_trans (Nat.mul_le_mul hn hby) (by decide)
  have hfit : Builtin.nextslicecap (0 + n) 0 * i.bytes ≤ 281474976710656 := by rw [hz2]; exact growslice_fits (by omega) (by rw [Nat.zero_add]; exact hbb)
  have hr := fun ty => Lib.run_append_grow_zeros (P := Try.prog) w S tn ty T i z kq kn hS htn hi hz0 none 0 0 [] (by simp [Builtin.firstCells]) n h0 (by omega) (by omega) (by omega) (by rw [hz2]; omega) hfit
  rw [Nat.zero_add] at hr
  refine wpList_plain hg fun K hK' => ?_
  have hge := grownCap_ge w n 0 T
  have hcm : grownCap w n 0 T ≤ maxLen := grownCap_le_maxLen w n 0 T (by unfold maxLen; omega)
  unfold Oper.wp execOp
  simp only [hop, resolve, invoke, builtin, Sem.run_bind, Sem.run_pure, Result.andThen_ok, List.map_toArray, List.map_cons, List.map_nil, hs, hx, hr]
  refine hK' _ _ (hK (grownCap w n 0 T) _ hge ?_ ⟨rfl, rfl, rfl, by simp, fun k hk _ => Go.RowKit.Below.heap_alloc w.drew _ k hk⟩)
  unfold OV
  refine ⟨rfl, .inr ⟨w.heap.size, _, _, rfl, Nat.le_refl _, heap_alloc_new w.drew _, Nat.zero_le _, hcm, ?_, rfl⟩⟩
  simp only [Array.size_append, List.size_toArray, size_zeroCells, hz1, List.length_nil]
  omega
set_option maxHeartbeats 1000000 in
theorem growS_any (n : Nat) (w : World) (hn : n ≤ 1048576) :
    Calls Try.prog 83 #[.slice none 0 0, .int .i64 n] w fun e w' => ∃ v', e = .returned v' ∧ OV 9 w.heap.size w' v' [] ∧ Below w.heap.size w w' := by
  by_cases h0 : n = 0
  · subst h0
    go_enter Try.func83, Try.ntmps83
    go_wp2_with fail
    go_ret
    exact ⟨_, rfl, OV.nil _ _ _, Below.refl _ _⟩
  · have hp : (0 : Int) < (n : Int) := by omega
    go_enter Try.func83, Try.ntmps83
    go_wp2_with (at_builtin; refine wpl_grow Try.underlying32 info_str rfl (by omega) Try.underlying3 rfl _ _ rfl n rfl rfl (by omega) (by omega) ?_; intro cap w1 hcap ho hgr; have hci : (n : Int) ≤ (cap : Int) := by omega)
    go_ret
    exact ⟨_, rfl, ho, (Below.refl _ _).grown hgr (Nat.le_refl _) (by simp)⟩
set_option maxHeartbeats 1000000 in
theorem growI_any (n : Nat) (w : World) (hn : n ≤ 1048576) :
    Calls Try.prog 117 #[.slice none 0 0, .int .i64 n] w fun e w' => ∃ v', e = .returned v' ∧ OV 2 w.heap.size w' v' [] ∧ Below w.heap.size w w' := by
  by_cases h0 : n = 0
  · subst h0
    go_enter Try.func117, Try.ntmps117
    go_wp2_with fail
    go_ret
    exact ⟨_, rfl, OV.nil _ _ _, Below.refl _ _⟩
  · have hp : (0 : Int) < (n : Int) := by omega
    go_enter Try.func117, Try.ntmps117
    go_wp2_with (at_builtin; refine wpl_grow Try.underlying47 info_i64 rfl (by omega) Try.underlying3 rfl _ _ rfl n rfl rfl (by omega) (by omega) ?_; intro cap w1 hcap ho hgr; have hci : (n : Int) ≤ (cap : Int) := by omega)
    go_ret
    exact ⟨_, rfl, ho, (Below.refl _ _).grown hgr (Nat.le_refl _) (by simp)⟩

/-- How many cells the first lists have. -/
def tlC (css : List (List Value)) (i : Nat) : Nat := ((css.take i).map List.length).sum
theorem tlC_succ {css : List (List Value)} {i : Nat} (h : i < css.length) : tlC css (i + 1) = tlC css i + (css.getD i []).length := by
  unfold tlC
  rw [List.take_succ_eq_append_getElem h, List.map_append, List.sum_append]
  simp [h]
theorem flat_succ {css : List (List Value)} {i : Nat} (h : i < css.length) : (css.take (i + 1)).flatten = (css.take i).flatten ++ css.getD i [] := by
  rw [List.take_succ_eq_append_getElem h, List.flatten_append]
  simp [h]
theorem flat_len (css : List (List Value)) (i : Nat) : (css.take i).flatten.length = tlC css i := by
  unfold tlC; rw [List.length_flatten]
theorem tlC_mono (css : List (List Value)) (i : Nat) : tlC css i ≤ tlC css css.length := by
  unfold tlC
  rw [List.take_length]
  conv => rhs; rw [← List.take_append_drop i css]
  rw [List.map_append, List.sum_append]; omega
/-- v is a slice of slices that read as the lists css. -/
def RVV (w : World) (v : Value) (css : List (List Value)) : Prop := ∃ vs, RV w v vs ∧ vs.length = css.length ∧ ∀ j, j < css.length → RV w (vs.getD j nl) (css.getD j [])
set_option maxHeartbeats 4000000 in
theorem catS_any (v : Value) (css : List (List Value)) (w : World) (hv : RVV w v css) (hn : css.length ≤ 1000) (ht : tlC css css.length ≤ 1048576) (h1 : ∀ j, j < css.length → ∀ u ∈ css.getD j [], u.oneCell' = true) :
    Calls Try.prog 62 #[v] w fun e w' => ∃ v', e = .returned v' ∧ OV 9 w.heap.size w' v' css.flatten ∧ Below w.heap.size w w' := by
  obtain ⟨vs, r1, r2, r3⟩ := hv
  obtain ⟨a, c, rfl⟩ := r1.slice
  have R1 := Lib.hid r1
  have R3 := Lib.hid r3
  have H1 := Lib.hid h1
  have HT := Lib.hid (tlC_mono css)
  have HTT := Lib.hid ht
  rw [r2] at R1
  clear r1 r3 h1 ht
  rw [r2]
  go_enter Try.func62, Try.ntmps62
  go_wp2_with fail
  go_loop [3, 11] (fun sv iv => ∃ i : Nat, i ≤ css.length ∧ iv = .int .i64 i ∧ sv = .int .i64 (tlC css i)) (fun _ iv => css.length - (intOf iv).toNat)
  case atStart => exact ⟨0, Nat.zero_le _, rfl, by simp [tlC]⟩
  case round =>
    obtain ⟨i, hi, rfl, rfl⟩ := hrel
    by_cases hlt : i < css.length
    · obtain ⟨g, off, rfl, hg, hc⟩ := R1.out.at i (by omega)
      have hri := R3.out i hlt
      rw [List.getElem?_eq_getElem (by omega)] at hc
      have hget : vs.getD i nl = vs[i]'(by omega) := by simp [show i < vs.length by omega]
      rw [← hget] at hc
      obtain ⟨ra, rc, hra⟩ := hri.slice
      rw [hra] at hc
      have hts := tlC_succ hlt
      have HTS := Lib.hid hts
      have htm := HT.out (i + 1)
      have htt := HTT.out
      have hnn : ¬ ((tlC css i : Int) + ((css.getD i []).length : Int)) < 0 := by omega
      have hw : IntKind.i64.wrap ((tlC css i : Int) + ((css.getD i []).length : Int)) = (tlC css i : Int) + ((css.getD i []).length : Int) := IntWalk.i64_in _ (by omega)
      clear hts htm htt hri hget hra
      generalize (css.getD i []).length = m at *
      generalize htl : tlC css i = t at *
      have HTL := Lib.hid htl
      clear htl
      go_wp2_with fail
      clear hw
      go_round
      case rel => exact ⟨i + 1, by omega, by go_num, by rw [HTS.out]; go_num⟩
      case measure => first | (simp [intOf]; done) | (simp [intOf]; omega)
    · obtain rfl : i = css.length := by omega
      have HG := Lib.hid (growS_any (tlC css css.length) w HTT.out)
      obtain ⟨N, hN⟩ : ∃ N, N = tlC css css.length := ⟨_, rfl⟩
      rw [← hN] at HG ⊢
      have HN := Lib.hid hN
      clear hN
      go_wp2_with fail
      refine HG.out.mono ?_
      rintro e w1 ⟨v1, rfl, ho, hb⟩
      have ho0 : OV 9 w.heap.size w1 v1 (css.take 0).flatten := by simpa using ho
      clear ho
      go_wp2_with fail
      go_loopw [6, 27] (fun ov iv wr => ∃ i : Nat, i ≤ css.length ∧ iv = .int .i64 i ∧ OV 9 w.heap.size wr ov (css.take i).flatten ∧ Below w.heap.size w wr) (fun _ iv _ => css.length - (intOf iv).toNat)
      case atStart => exact ⟨0, Nat.zero_le _, rfl, ho0, hb⟩
      case round =>
        clear ho0 hb
        obtain ⟨i, hi, rfl, ho, hb⟩ := hrel
        by_cases hlt2 : i < css.length
        · obtain ⟨g, off, rfl, hg, hc⟩ := R1.out.at i (by omega)
          have hri := (R3.out i hlt2).later hb
          rw [List.getElem?_eq_getElem (by omega)] at hc
          have hget : vs.getD i nl = vs[i]'(by omega) := by simp [show i < vs.length by omega]
          rw [← hget] at hc
          replace hc := (hb.cell (p := ⟨g, off + i, none⟩) hg).trans hc
          obtain ⟨ra, rc, hra⟩ := hri.slice
          rw [hra] at hc hri
          obtain ⟨oa, oc, rfl⟩ := ho.slice
          have hls := flat_len css i
          have hlen : (css.take i).flatten.length + (css.getD i []).length ≤ 1099511627776 := by
            have := tlC_succ hlt2
            have := HT.out (i + 1)
            have := HTT.out
            omega
          have HFS := Lib.hid (flat_succ hlt2)
          have hone := H1.out i hlt2
          have hz := hb.size
          have HO := Lib.hid ho
          have HRI := Lib.hid hri
          clear ho hri hget hra hls
          obtain ⟨L1, hL1⟩ : ∃ L, L = (css.take i).flatten.length := ⟨_, rfl⟩
          obtain ⟨L2, hL2⟩ : ∃ L, L = (css.getD i []).length := ⟨_, rfl⟩
          rw [← hL1] at HO ⊢
          rw [← hL2] at HRI hc
          clear hL1 hL2
          go_wp2_with (at_builtin; refine wpl_apps Try.underlying32 info_str rfl (by omega) rfl _ _ rfl w.heap.size _ _ rfl HO.out _ _ rfl HRI.out hone hlen hz ?_; intro v' w2 ho2 hgr)
          have hb2 := own_below hb HO.out hgr hz
          rw [← HFS.out] at ho2
          go_roundw
          case rel => exact ⟨i + 1, by omega, by go_num, ho2, hb2⟩
          case measure => first | (simp [intOf]; done) | (simp [intOf]; omega)
        · obtain rfl : i = css.length := by omega
          rw [List.take_length] at ho
          go_wp2_with fail
          go_ret
          exact ⟨_, rfl, ho, hb⟩
set_option maxHeartbeats 4000000 in
theorem catI_any (v : Value) (css : List (List Value)) (w : World) (hv : RVV w v css) (hn : css.length ≤ 1000) (ht : tlC css css.length ≤ 1048576) (h1 : ∀ j, j < css.length → ∀ u ∈ css.getD j [], u.oneCell' = true) :
    Calls Try.prog 100 #[v] w fun e w' => ∃ v', e = .returned v' ∧ OV 2 w.heap.size w' v' css.flatten ∧ Below w.heap.size w w' := by
  obtain ⟨vs, r1, r2, r3⟩ := hv
  obtain ⟨a, c, rfl⟩ := r1.slice
  have R1 := Lib.hid r1
  have R3 := Lib.hid r3
  have H1 := Lib.hid h1
  have HT := Lib.hid (tlC_mono css)
  have HTT := Lib.hid ht
  rw [r2] at R1
  clear r1 r3 h1 ht
  rw [r2]
  go_enter Try.func100, Try.ntmps100
  go_wp2_with fail
  go_loop [3, 11] (fun sv iv => ∃ i : Nat, i ≤ css.length ∧ iv = .int .i64 i ∧ sv = .int .i64 (tlC css i)) (fun _ iv => css.length - (intOf iv).toNat)
  case atStart => exact ⟨0, Nat.zero_le _, rfl, by simp [tlC]⟩
  case round =>
    obtain ⟨i, hi, rfl, rfl⟩ := hrel
    by_cases hlt : i < css.length
    · obtain ⟨g, off, rfl, hg, hc⟩ := R1.out.at i (by omega)
      have hri := R3.out i hlt
      rw [List.getElem?_eq_getElem (by omega)] at hc
      have hget : vs.getD i nl = vs[i]'(by omega) := by simp [show i < vs.length by omega]
      rw [← hget] at hc
      obtain ⟨ra, rc, hra⟩ := hri.slice
      rw [hra] at hc
      have hts := tlC_succ hlt
      have HTS := Lib.hid hts
      have htm := HT.out (i + 1)
      have htt := HTT.out
      have hnn : ¬ ((tlC css i : Int) + ((css.getD i []).length : Int)) < 0 := by omega
      have hw : IntKind.i64.wrap ((tlC css i : Int) + ((css.getD i []).length : Int)) = (tlC css i : Int) + ((css.getD i []).length : Int) := IntWalk.i64_in _ (by omega)
      clear hts htm htt hri hget hra
      generalize (css.getD i []).length = m at *
      generalize htl : tlC css i = t at *
      have HTL := Lib.hid htl
      clear htl
      go_wp2_with fail
      clear hw
      go_round
      case rel => exact ⟨i + 1, by omega, by go_num, by rw [HTS.out]; go_num⟩
      case measure => first | (simp [intOf]; done) | (simp [intOf]; omega)
    · obtain rfl : i = css.length := by omega
      have HG := Lib.hid (growI_any (tlC css css.length) w HTT.out)
      obtain ⟨N, hN⟩ : ∃ N, N = tlC css css.length := ⟨_, rfl⟩
      rw [← hN] at HG ⊢
      have HN := Lib.hid hN
      clear hN
      go_wp2_with fail
      refine HG.out.mono ?_
      rintro e w1 ⟨v1, rfl, ho, hb⟩
      have ho0 : OV 2 w.heap.size w1 v1 (css.take 0).flatten := by simpa using ho
      clear ho
      go_wp2_with fail
      go_loopw [6, 27] (fun ov iv wr => ∃ i : Nat, i ≤ css.length ∧ iv = .int .i64 i ∧ OV 2 w.heap.size wr ov (css.take i).flatten ∧ Below w.heap.size w wr) (fun _ iv _ => css.length - (intOf iv).toNat)
      case atStart => exact ⟨0, Nat.zero_le _, rfl, ho0, hb⟩
      case round =>
        clear ho0 hb
        obtain ⟨i, hi, rfl, ho, hb⟩ := hrel
        by_cases hlt2 : i < css.length
        · obtain ⟨g, off, rfl, hg, hc⟩ := R1.out.at i (by omega)
          have hri := (R3.out i hlt2).later hb
          rw [List.getElem?_eq_getElem (by omega)] at hc
          have hget : vs.getD i nl = vs[i]'(by omega) := by simp [show i < vs.length by omega]
          rw [← hget] at hc
          replace hc := (hb.cell (p := ⟨g, off + i, none⟩) hg).trans hc
          obtain ⟨ra, rc, hra⟩ := hri.slice
          rw [hra] at hc hri
          obtain ⟨oa, oc, rfl⟩ := ho.slice
          have hls := flat_len css i
          have hlen : (css.take i).flatten.length + (css.getD i []).length ≤ 1099511627776 := by
            have := tlC_succ hlt2
            have := HT.out (i + 1)
            have := HTT.out
            omega
          have HFS := Lib.hid (flat_succ hlt2)
          have hone := H1.out i hlt2
          have hz := hb.size
          have HO := Lib.hid ho
          have HRI := Lib.hid hri
          clear ho hri hget hra hls
          obtain ⟨L1, hL1⟩ : ∃ L, L = (css.take i).flatten.length := ⟨_, rfl⟩
          obtain ⟨L2, hL2⟩ : ∃ L, L = (css.getD i []).length := ⟨_, rfl⟩
          rw [← hL1] at HO ⊢
          rw [← hL2] at HRI hc
          clear hL1 hL2
          go_wp2_with (at_builtin; refine wpl_apps Try.underlying47 info_i64 rfl (by omega) rfl _ _ rfl w.heap.size _ _ rfl HO.out _ _ rfl HRI.out hone hlen hz ?_; intro v' w2 ho2 hgr)
          have hb2 := own_below hb HO.out hgr hz
          rw [← HFS.out] at ho2
          go_roundw
          case rel => exact ⟨i + 1, by omega, by go_num, ho2, hb2⟩
          case measure => first | (simp [intOf]; done) | (simp [intOf]; omega)
        · obtain rfl : i = css.length := by omega
          rw [List.take_length] at ho
          go_wp2_with fail
          go_ret
          exact ⟨_, rfl, ho, hb⟩
end Go.Proofs.Ytgagjmnmfgfpfaa
