/- A text put into a sorted list: the reference's walk. -/
import Derived.Test.YtgagjmnmfgfpfaaNwM
import Derived.Test.YtgagjmnmfgfpfaaApps
import Derived.Deep.DeepCutAuto
namespace Go.Proofs.Ytgagjmnmfgfpfaa
open Go.RowKit

theorem RS.dropO {g off n cap : Nat} {w : World} {l : List ByteArray} (h : RS w (.slice (some ⟨g, off, none⟩) n cap) l) (k : Nat) (hk : k ≤ l.length) : RS w (.slice (some ⟨g, off + k, none⟩) (l.length - k) (cap - k)) (l.drop k) := by
  have hcap := h.cap
  refine ⟨some ⟨g, off + k, none⟩, cap - k, by rw [ss_length, List.length_drop], by rw [ss_length, List.length_drop]; omega, fun j hj => ?_⟩
  rw [ss_length, List.length_drop] at hj
  obtain ⟨g', off', h1, _, h3⟩ := h.at (k + j) (by omega)
  simp only [Option.some.injEq, Addr.mk.injEq, and_true] at h1
  obtain ⟨rfl, rfl⟩ := h1
  refine ⟨g, off + k, rfl, ?_⟩
  rw [Nat.add_assoc, h3]
  have e : k + j < l.length := by omega
  simp [ss, sAt, e]
def PutPost (B : Nat) (t : ByteArray) (l : List ByteArray) (w : World) (e : Ending) (w' : World) : Prop := ∃ v' l', e = .returned v' ∧ OS B w' v' l' ∧ AscS l' ∧ (∀ u, u ∈ l' ↔ u = t ∨ u ∈ l) ∧ l'.length ≤ l.length + 1 ∧ Below w.heap.size w w'
set_option maxHeartbeats 4000000 in
theorem l06Put_any (v : Value) (l : List ByteArray) (t : ByteArray) (B : Nat) (w : World) (ho : OS B w v l) (hA : AscS l) (hm : l.length ≤ 1048576) (hB : B ≤ w.heap.size) :
    Calls Try.prog 60 #[v, .string t] w (PutPost B t l w) := by
  obtain ⟨a, c, rfl⟩ := ho.read.slice
  have HO := Lib.hid ho
  have HA := Lib.hid hA
  clear ho hA
  go_enter Try.func60, Try.ntmps60
  go_wp2_with fail
  go_loop [5] (fun iv => ∃ k : Nat, k ≤ l.length ∧ iv = .int .i64 k ∧ Hid (∀ i, i < k → ltS (sAt l i) t)) (fun iv => l.length - (intOf iv).toNat)
  case atStart => exact ⟨0, Nat.zero_le _, rfl, Lib.hid (fun i hi => by omega)⟩
  case round =>
    obtain ⟨k, hk, rfl, HK⟩ := hrel
    by_cases hlt : k < l.length
    · obtain ⟨g, off, rfl, hg, hc⟩ := HO.out.read.at k hlt
      by_cases hls : ltS (sAt l k) t
      · have hl1 : Op.bytesLess (sAt l k).toList t.toList = true := by rw [lt_bytes]; exact decide_eq_true hls
        have HK1 := Lib.hid (fun i (hi : i < k + 1) => show ltS (sAt l i) t from if e : i = k then by rw [e]; exact hls else HK.out i (by omega))
        clear hls HK
        generalize sAt l k = s at *
        go_wp2_with fail
        go_round
        case rel => exact ⟨k + 1, by omega, by go_num, HK1⟩
        case measure => first | (simp [intOf]; done) | (simp [intOf]; omega)
      · have hl1 : Op.bytesLess (sAt l k).toList t.toList = false := by rw [lt_bytes]; exact decide_eq_false hls
        by_cases he : sAt l k = t
        · have HE : Hid (PutPost B t l w (.returned (.slice (some ⟨g, off, none⟩) l.length c)) w) := by
            refine ⟨_, l, rfl, HO.out, HA.out, fun u => ⟨.inr, fun h => ?_⟩, by omega, Below.refl _ _⟩
            rcases h with rfl | h
            · rw [← he]; unfold sAt; simp [hlt]
            · exact h
          have hq := str_eq t
          rw [he] at hc hl1
          clear he
          go_wp2_with fail
          go_ret
          exact HE.out
        · have hq := str_ne he
          have HP := Lib.hid (HA.out.put t k hk HK.out (fun _ => ltS.tri hls he))
          have HR := Lib.hid (HO.out.read.dropO k hk)
          clear he hls HK
          generalize sAt l k = s at *
          have hkc := HO.out.read.cap
          have hk0 : (0 : Int) ≤ (k : Int) := by omega
          have hkl : (k : Int) ≤ (l.length : Int) := by omega
          have hkcc : (k : Int) ≤ (c : Int) := by omega
          have H0 : Hid (OS w.heap.size (w.alloc (.cells #[] 9)) (.slice (some ⟨w.heap.size, 0, none⟩) 0 0) []) := OV.made _ _ (Nat.le_refl _)
          have hb0 : Below w.heap.size w (w.alloc (.cells #[] 9)) := (Below.refl _ _).alloc (Nat.le_refl _) _
          have HT := Lib.hid (HO.out.read.take k (c' := c) (by omega) (by omega))
          go_upto_region 7 with (at_builtin; refine wpl_apps Try.underlying32 info_str rfl (by omega) rfl _ _ rfl w.heap.size _ _ rfl H0.out _ _ rfl (HT.out.later hb0) one_str (by simp [ss_length]; omega) hb0.size ?_; intro v1 w1 h1 hg1)
          have hb1 := own_below hb0 H0.out hg1 hb0.size
          replace h1 : OV 9 w.heap.size w1 v1 (ss (l.take k)) := h1
          obtain ⟨a1, c1, rfl⟩ := h1.slice
          have hl1' : (ss (l.take k)).length ≤ 1099511627776 := by rw [ss_length, List.length_take]; omega
          have H1 := Lib.hid h1
          clear h1 hg1
          go_upto_region 8 with (at_builtin; refine wpl_app Try.underlying32 info_str rfl (by omega) rfl _ _ rfl w.heap.size _ _ rfl (H1.out.alloc _) _ _ _ rfl (World.cell?_alloc_at _ _ _ _ rfl) rfl hl1' (Nat.le_trans hb1.size (by simp)) ?_; intro v2 w2 h2 hg2)
          have hb2 := own_below (hb1.alloc hb1.size _) (H1.out.alloc _) hg2 (Nat.le_trans hb1.size (by simp))
          obtain ⟨a2, c2, rfl⟩ := h2.slice
          have H2 := Lib.hid h2
          clear h2 hg2
          go_wp2_with (at_builtin; refine wpl_apps Try.underlying32 info_str rfl (by omega) rfl _ _ rfl w.heap.size _ _ rfl H2.out _ _ rfl (RV.later HR.out hb2) one_str (by simp [ss_length]; omega) hb2.size ?_; intro v3 w3 h3 hg3)
          have hb3 := own_below hb2 H2.out hg3 hb2.size
          have HF : OS B w3 v3 (l.take k ++ [t] ++ l.drop k) := by
            unfold OS
            have e : ss (l.take k ++ [t] ++ l.drop k) = ss (l.take k) ++ [.string t] ++ ss (l.drop k) := by simp [ss]
            rw [e]; exact OV.mono h3 hB
          go_ret
          exact ⟨_, _, rfl, HF, HP.out.1, HP.out.2, by simp only [List.length_append, List.length_take, List.length_drop, List.length_singleton]; omega, hb3⟩
    · obtain rfl : k = l.length := by omega
      cases a with
      | none =>
        have hl0 : l = [] := by
          rcases OV.shape HO.out with ⟨_, h⟩ | ⟨g, cap, h, _⟩
          · exact List.map_eq_nil_iff.1 h
          · simp at h
        subst hl0
        have hc0 : c = 0 := by
          rcases OV.shape HO.out with ⟨h, _⟩ | ⟨g, cap, h, _⟩
          · simpa using h
          · simp at h
        subst hc0
        have HP := Lib.hid (HA.out.put t 0 (Nat.le_refl _) (fun i hi => by omega) (fun h => by simp at h))
        have HR : Hid (RS w (.slice none 0 0) (([] : List ByteArray).drop 0)) := RV.nil _ _ _ (by simp)
        have hkc := HO.out.read.cap
        clear HK
        simp only [List.length_nil] at *
        have H0 : Hid (OS w.heap.size (w.alloc (.cells #[] 9)) (.slice (some ⟨w.heap.size, 0, none⟩) 0 0) []) := OV.made _ _ (Nat.le_refl _)
        have hb0 : Below w.heap.size w (w.alloc (.cells #[] 9)) := (Below.refl _ _).alloc (Nat.le_refl _) _
        go_upto_region 7 with (at_builtin; refine wpl_apps Try.underlying32 info_str rfl (by omega) rfl _ _ rfl w.heap.size _ _ rfl H0.out _ _ rfl (HR.out.later hb0) one_str (by simp [ss_length]) hb0.size ?_; intro v1 w1 h1 hg1)
        have hb1 := own_below hb0 H0.out hg1 hb0.size
        obtain ⟨a1, c1, rfl⟩ := h1.slice
        have H1 := Lib.hid h1
        clear h1 hg1
        go_upto_region 8 with (at_builtin; refine wpl_app Try.underlying32 info_str rfl (by omega) rfl _ _ rfl w.heap.size _ _ rfl (H1.out.alloc _) _ _ _ rfl (World.cell?_alloc_at _ _ _ _ rfl) rfl (by simp [ss]) (Nat.le_trans hb1.size (by simp)) ?_; intro v2 w2 h2 hg2)
        have hb2 := own_below (hb1.alloc hb1.size _) (H1.out.alloc _) hg2 (Nat.le_trans hb1.size (by simp))
        obtain ⟨a2, c2, rfl⟩ := h2.slice
        have H2 := Lib.hid h2
        clear h2 hg2
        go_wp2_with (at_builtin; refine wpl_apps Try.underlying32 info_str rfl (by omega) rfl _ _ rfl w.heap.size _ _ rfl H2.out _ _ rfl (RV.later HR.out hb2) one_str (by simp [ss]) hb2.size ?_; intro v3 w3 h3 hg3)
        have hb3 := own_below hb2 H2.out hg3 hb2.size
        have HF : OS B w3 v3 [t] := by
          unfold OS
          have e : ss [t] = [] ++ ss (List.drop 0 []) ++ [.string t] ++ ss (List.drop 0 []) := by simp [ss]
          rw [e]; exact OV.mono h3 hB
        go_ret
        exact ⟨_, _, rfl, HF, List.pairwise_singleton _ _, fun u => by simp, by simp, hb3⟩
      | some ad =>
        obtain ⟨g, rfl⟩ : ∃ g, ad = ⟨g, 0, none⟩ := by
          rcases OV.shape HO.out with ⟨h, _⟩ | ⟨g, cap, h, _⟩
          · simp at h
          · simp at h; exact ⟨g, h.1⟩
        have HP := Lib.hid (HA.out.put t l.length (Nat.le_refl _) HK.out (fun h => by omega))
        have hcm := HO.out.read.cap
        have hkc := HO.out.read.cap
        have hkcc : (l.length : Int) ≤ (c : Int) := by omega
        have e : l.drop l.length = [] := List.drop_length
        clear HK
        by_cases hcl : c = l.length
        · subst hcl
          have HR : Hid (RS w (.slice (some ⟨g, 0, none⟩) 0 0) (l.drop l.length)) := by
            unfold Hid
            rw [e]
            exact RV.nil _ _ _ (by simp)
          clear e
          have H0 : Hid (OS w.heap.size (w.alloc (.cells #[] 9)) (.slice (some ⟨w.heap.size, 0, none⟩) 0 0) []) := OV.made _ _ (Nat.le_refl _)
          have hb0 : Below w.heap.size w (w.alloc (.cells #[] 9)) := (Below.refl _ _).alloc (Nat.le_refl _) _
          have HT := Lib.hid (HO.out.read.take l.length (c' := l.length) (by omega) (by omega))
          go_upto_region 7 with (at_builtin; refine wpl_apps Try.underlying32 info_str rfl (by omega) rfl _ _ rfl w.heap.size _ _ rfl H0.out _ _ rfl (HT.out.later hb0) one_str (by simp [ss_length]; omega) hb0.size ?_; intro v1 w1 h1 hg1)
          have hb1 := own_below hb0 H0.out hg1 hb0.size
          replace h1 : OV 9 w.heap.size w1 v1 (ss (l.take l.length)) := h1
          obtain ⟨a1, c1, rfl⟩ := h1.slice
          have hl1' : (ss (l.take l.length)).length ≤ 1099511627776 := by rw [ss_length, List.length_take]; omega
          have H1 := Lib.hid h1
          clear h1 hg1
          go_upto_region 8 with (at_builtin; refine wpl_app Try.underlying32 info_str rfl (by omega) rfl _ _ rfl w.heap.size _ _ rfl (H1.out.alloc _) _ _ _ rfl (World.cell?_alloc_at _ _ _ _ rfl) rfl hl1' (Nat.le_trans hb1.size (by simp)) ?_; intro v2 w2 h2 hg2)
          have hb2 := own_below (hb1.alloc hb1.size _) (H1.out.alloc _) hg2 (Nat.le_trans hb1.size (by simp))
          obtain ⟨a2, c2, rfl⟩ := h2.slice
          have H2 := Lib.hid h2
          clear h2 hg2
          go_wp2_with (at_builtin; refine wpl_apps Try.underlying32 info_str rfl (by omega) rfl _ _ rfl w.heap.size _ _ rfl H2.out _ _ rfl (RV.later HR.out hb2) one_str (by simp [ss_length]; omega) hb2.size ?_; intro v3 w3 h3 hg3)
          have hb3 := own_below hb2 H2.out hg3 hb2.size
          have HF : OS B w3 v3 (l.take l.length ++ [t] ++ l.drop l.length) := by
            unfold OS
            have e : ss (l.take l.length ++ [t] ++ l.drop l.length) = ss (l.take l.length) ++ [.string t] ++ ss (l.drop l.length) := by simp [ss]
            rw [e]; exact OV.mono h3 hB
          go_ret
          exact ⟨_, _, rfl, HF, HP.out.1, HP.out.2, by simp only [List.length_append, List.length_take, List.length_drop, List.length_singleton]; omega, hb3⟩
        · have HR : Hid (RS w (.slice (some ⟨g, l.length, none⟩) 0 (c - l.length)) (l.drop l.length)) := by
            unfold Hid
            rw [e]
            exact RV.nil _ _ _ (by omega)
          clear e
          have H0 : Hid (OS w.heap.size (w.alloc (.cells #[] 9)) (.slice (some ⟨w.heap.size, 0, none⟩) 0 0) []) := OV.made _ _ (Nat.le_refl _)
          have hb0 : Below w.heap.size w (w.alloc (.cells #[] 9)) := (Below.refl _ _).alloc (Nat.le_refl _) _
          have HT := Lib.hid (HO.out.read.take l.length (c' := c) (by omega) (by omega))
          go_upto_region 7 with (at_builtin; refine wpl_apps Try.underlying32 info_str rfl (by omega) rfl _ _ rfl w.heap.size _ _ rfl H0.out _ _ rfl (HT.out.later hb0) one_str (by simp [ss_length]; omega) hb0.size ?_; intro v1 w1 h1 hg1)
          have hb1 := own_below hb0 H0.out hg1 hb0.size
          replace h1 : OV 9 w.heap.size w1 v1 (ss (l.take l.length)) := h1
          obtain ⟨a1, c1, rfl⟩ := h1.slice
          have hl1' : (ss (l.take l.length)).length ≤ 1099511627776 := by rw [ss_length, List.length_take]; omega
          have H1 := Lib.hid h1
          clear h1 hg1
          go_upto_region 8 with (at_builtin; refine wpl_app Try.underlying32 info_str rfl (by omega) rfl _ _ rfl w.heap.size _ _ rfl (H1.out.alloc _) _ _ _ rfl (World.cell?_alloc_at _ _ _ _ rfl) rfl hl1' (Nat.le_trans hb1.size (by simp)) ?_; intro v2 w2 h2 hg2)
          have hb2 := own_below (hb1.alloc hb1.size _) (H1.out.alloc _) hg2 (Nat.le_trans hb1.size (by simp))
          obtain ⟨a2, c2, rfl⟩ := h2.slice
          have H2 := Lib.hid h2
          clear h2 hg2
          go_wp2_with (at_builtin; refine wpl_apps Try.underlying32 info_str rfl (by omega) rfl _ _ rfl w.heap.size _ _ rfl H2.out _ _ rfl (RV.later HR.out hb2) one_str (by simp [ss_length]; omega) hb2.size ?_; intro v3 w3 h3 hg3)
          have hb3 := own_below hb2 H2.out hg3 hb2.size
          have HF : OS B w3 v3 (l.take l.length ++ [t] ++ l.drop l.length) := by
            unfold OS
            have e : ss (l.take l.length ++ [t] ++ l.drop l.length) = ss (l.take l.length) ++ [.string t] ++ ss (l.drop l.length) := by simp [ss]
            rw [e]; exact OV.mono h3 hB
          go_ret
          exact ⟨_, _, rfl, HF, HP.out.1, HP.out.2, by simp only [List.length_append, List.length_take, List.length_drop, List.length_singleton]; omega, hb3⟩
end Go.Proofs.Ytgagjmnmfgfpfaa
