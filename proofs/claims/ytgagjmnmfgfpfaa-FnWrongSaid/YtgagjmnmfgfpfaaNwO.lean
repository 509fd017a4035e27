/- The program's ordered: a list of texts sorted, each once. -/
import Derived.Test.YtgagjmnmfgfpfaaNwM
import Derived.Test.YtgagjmnmfgfpfaaShSort
import Derived.Sort.OwnSorted
namespace Go.Proofs.Ytgagjmnmfgfpfaa
open Go.RowKit

theorem OV.short {T : TypeId} {B : Nat} {w : World} {g n cap : Nat} {cs : List Value} (h : OV T B w (.slice (some ⟨g, 0, none⟩) n cap) cs) (k : Nat) (hk : k ≤ cs.length) : OV T B w (.slice (some ⟨g, 0, none⟩) k cap) (cs.take k) := by
  unfold OV at *
  have hl : (cs.take k).length = k := by rw [List.length_take]; omega
  rw [hl]
  rcases h.2 with ⟨h', _⟩ | ⟨g', cap', cur, h', hB, hg, hn, hm, hc, ht⟩
  · simp at h'
  · simp only [Value.slice.injEq, Option.some.injEq, Addr.mk.injEq, and_true] at h'
    obtain ⟨rfl, rfl, rfl⟩ := h'
    refine ⟨by omega, .inr ⟨g, cap, cur, rfl, hB, hg, by omega, hm, hc, ?_⟩⟩
    rw [Nat.mul_one] at *
    rw [← ht, List.take_take, Nat.min_eq_left hk]
theorem encStr_bs (l : List ByteArray) : (l.map bs).map encStr = ss l := by
  unfold ss
  rw [List.map_map]
  exact List.map_congr_left fun s _ => rfl
theorem encStr_sb (l : List BS) : l.map encStr = ss (l.map sb) := by
  unfold ss
  rw [List.map_map]
  exact List.map_congr_left fun s _ => rfl
set_option maxRecDepth 100000 in
set_option maxHeartbeats 1000000 in
theorem ordered_any (v : Value) (l : List ByteArray) (B : Nat) (w : World) (ho : OS B w v l) (hm : l.length ≤ 1048576) (hB : B ≤ w.heap.size) :
    Calls Try.prog 65 #[v] w fun e w' => ∃ v', e = .returned v' ∧ OS B w' v' (ordS l) ∧ Below B w w' := by
  have hls := ss_length l
  have hsl : ((l.map bs).mergeSort fun x y => decide (x ≤ y)).length = l.length := by rw [List.length_mergeSort, List.length_map]
  unfold OS OV at ho
  rcases ho.2 with ⟨rfl, h0⟩ | ⟨g, cap, cur, rfl, hBg, hg, hn, hcm, hcs, htake⟩
  · have hl0 : l = [] := List.eq_nil_of_length_eq_zero (by omega)
    subst hl0
    have hE : ordS [] = [] := by simp [ordS, Lib.compact, Lib.compactUpTo]
    rw [hE]
    go_enter Try.func65, Try.ntmps65
    go_wp2_with fail
    refine (sh_slices_Sort_string_none none 0 w).mono ?_
    rintro e w1 ⟨rfl, rfl⟩
    go_wp2_with fail
    refine (sh_slices_Compact_string_empty none 0 w1).mono ?_
    rintro e w2 ⟨rfl, rfl⟩
    go_wp2_with fail
    go_ret
    exact ⟨_, rfl, OV.nil _ _ _, Below.refl _ _⟩
  · rw [hls] at hn htake
    rw [Nat.mul_one] at htake hcs
    have hH : Sort.Holds encStr w g 0 (l.map bs).toArray := holds_of_block hg (by rw [List.length_map, htake, encStr_bs])
    have hgl : g < w.heap.size := (Array.getElem?_eq_some_iff.1 hg).1
    have HS := Lib.hid (sh_slices_Sort_string g 0 cap (l.map bs) w hH hgl (by rw [List.length_map]; omega))
    rw [List.length_map] at HS
    obtain ⟨zs, hzs⟩ : ∃ zs, zs = (l.map bs).mergeSort fun x y => decide (x ≤ y) := ⟨_, rfl⟩
    rw [← hzs] at HS hsl
    have hOr : ordS l = (Lib.compact zs).map sb := by rw [hzs]; rfl
    have hcl : (Lib.compact zs).length ≤ zs.length := by
      unfold Lib.compact Lib.compactUpTo
      rw [List.length_map]
      exact Nat.le_trans (List.length_filter_le _ _) (by simp)
    rw [hOr, hls]
    have HH := Lib.hid (And.intro hBg hg)
    clear hH hOr ho hzs htake
    have hcap : l.length ≤ cap := hn
    go_enter Try.func65, Try.ntmps65
    go_wp2_with fail
    refine HS.out.mono ?_
    rintro e w1 ⟨rfl, n1, os, rfl⟩
    have ho1 := ownsRow_sorted (n := n1) (os := os) (ss := zs) (ts := zs) rfl HH.out.1 HH.out.2 (by omega) hcm (by omega)
    have hgr1 := grownBy_sorted (w := w) (g := g) (n := n1) (os := os) zs.toArray
    have hb1 : Below B w _ := (Below.refl B w).grown hgr1 hB (fun k hk => by simp at hk; omega)
    generalize Sort.grow (Sort.putRow encStr (Sort.ahead w n1) g 0 zs.toArray) os = w1 at *
    have ho1' : ∃ cur, w1.heap[g]? = some (.cells cur 9 (0, 0)) ∧ cur.size = cap ∧ cur.toList.take zs.length = zs.map encStr := by
      rcases ho1.2 with ⟨h', _⟩ | ⟨g', cap', cur', h', _, hg', _, _, hc', ht'⟩
      · simp at h'
      · simp only [Value.slice.injEq, Option.some.injEq, Addr.mk.injEq, and_true] at h'
        obtain ⟨rfl, _, rfl⟩ := h'
        rw [Nat.mul_one] at hc' ht'
        exact ⟨cur', hg', hc', ht'⟩
    obtain ⟨cur1, hg1, hc1, ht1⟩ := ho1'
    have hH1 : Sort.Holds encStr w1 g 0 zs.toArray := holds_of_block hg1 ht1
    have HC := Lib.hid (sh_slices_Compact_string g 0 cap zs w1 hH1 (by omega) (by omega))
    have HH1 := Lib.hid hg1
    rw [hsl] at HC
    clear hH1 ho1 ht1 hg1 HS
    go_wp2_with fail
    refine HC.out.mono ?_
    rintro e w2 ⟨rfl, q, rfl⟩
    have hln : (Lib.compact zs ++ List.replicate (l.length - (Lib.compact zs).length) []).length = zs.length := by simp; omega
    have ho2 := ownsRow_sorted (n := q) (os := #[]) (ss := zs) (ts := Lib.compact zs ++ List.replicate (l.length - (Lib.compact zs).length) []) hln HH.out.1 HH1.out (by omega) hcm (by omega)
    have hgr2 := grownBy_sorted (w := w1) (g := g) (n := q) (os := #[]) (Lib.compact zs ++ List.replicate (l.length - (Lib.compact zs).length) []).toArray
    rw [Sort.grow_empty] at ho2 hgr2
    have hb2 := hb1.grown hgr2 (Nat.le_trans hB hb1.size) (fun k hk => by simp at hk; omega)
    generalize Sort.putRow encStr (Sort.ahead w1 q) g 0 (Lib.compact zs ++ List.replicate (l.length - (Lib.compact zs).length) []).toArray = w2 at *
    have ho3 : OV 9 B w2 (.slice (some ⟨g, 0, none⟩) zs.length cap) ((Lib.compact zs ++ List.replicate (l.length - (Lib.compact zs).length) []).map encStr) := by
      unfold OV; rw [List.length_map, hln]; exact ho2
    have ho4 := ho3.short (Lib.compact zs).length (by rw [List.length_map, hln]; exact hcl)
    rw [← List.map_take, List.take_left, encStr_sb] at ho4
    go_wp2_with fail
    go_ret
    exact ⟨_, rfl, ho4, hb2⟩
end Go.Proofs.Ytgagjmnmfgfpfaa
