/- UngroupWord: plain facts. -/
import Derived.Test.YtdlagajnefkklaaDoorCut
import Derived.Test.YtdlagajnefkklaaDoorGw2
import Derived.Lib.Replace
namespace Go.Proofs.YtdlagajnefkklaaDoor
open Go.RowKit

theorem cutG_ne (p : List UInt8) : ∀ l, cutG p l ≠ []
  | [] => by simp [cutG]
  | c :: r => by
    by_cases hc : c = 45
    · rw [cutG_dash p r hc]; simp
    · rw [cutG_char p r hc]; exact cutG_ne _ r
theorem cutG_flat : ∀ (l p : List UInt8), (cutG p l).flatten = p ++ l.filter (fun c => decide (c ≠ 45))
  | [], p => by simp [cutG]
  | c :: r, p => by
    by_cases hc : c = 45
    · rw [cutG_dash p r hc, List.flatten_cons, cutG_flat r []]; simp [hc]
    · rw [cutG_char p r hc, cutG_flat r (p ++ [c])]; simp [hc]
theorem join_cons (x : List UInt8) {l : List (List UInt8)} (h : l ≠ []) : Lib.join (x :: l) [45] = x ++ 45 :: Lib.join l [45] := by
  cases l with
  | nil => exact absurd rfl h
  | cons y l => simp [Lib.join, List.intercalate, List.intersperse]
theorem cutG_join : ∀ (l p : List UInt8), Lib.join (cutG p l) [45] = p ++ l
  | [], p => by simp [cutG, Lib.join, List.intercalate]
  | c :: r, p => by
    by_cases hc : c = 45
    · rw [cutG_dash p r hc, join_cons p (cutG_ne [] r), cutG_join r [], hc]; simp
    · rw [cutG_char p r hc, cutG_join r (p ++ [c])]; simp
theorem cutG_skip : ∀ (x p r : List UInt8), (∀ c, c ∈ x → c ≠ 45) → cutG p (x ++ r) = cutG (p ++ x) r
  | [], p, r, _ => by simp
  | c :: x, p, r, h => by
    rw [List.cons_append, cutG_char p _ (h c (by simp)), cutG_skip x (p ++ [c]) r fun d hd => h d (by simp [hd])]
    simp
theorem cutG_of : ∀ (ps : List (List UInt8)), ps ≠ [] → (∀ x, x ∈ ps → ∀ c, c ∈ x → c ≠ 45) → cutG [] (Lib.join ps [45]) = ps
  | [], h, _ => absurd rfl h
  | [x], _, h => by
    have := cutG_skip x [] [] (h x (by simp))
    simp only [List.append_nil, List.nil_append] at this
    show cutG [] (Lib.join [x] [45]) = [x]
    rw [show Lib.join [x] [45] = x by simp [Lib.join, List.intercalate], this]
    rfl
  | x :: y :: l, _, h => by
    rw [join_cons x (by simp), cutG_skip x [] _ (h x (by simp)), List.nil_append, cutG_dash _ _ rfl, cutG_of (y :: l) (by simp) fun z hz => h z (by simp [hz])]
/-- The text without its marks. -/
def flatS (s : ByteArray) : ByteArray := ⟨(s.data.toList.filter (fun c => decide (c ≠ 45))).toArray⟩
theorem flatS_data (s : ByteArray) : (flatS s).data.toList = s.data.toList.filter (fun c => decide (c ≠ 45)) := rfl
theorem flatS_cut (s : ByteArray) : (flatS s).data.toList = ((cutS s).map (·.data.toList)).flatten := by
  rw [cutS_data, cutG_flat, flatS_data]; simp
theorem flatS_none (s : ByteArray) : ∀ c, c ∈ (flatS s).data.toList → c ≠ 45 := by
  intro c hc
  rw [flatS_data, List.mem_filter] at hc
  simpa using hc.2
def szL (s : ByteArray) : List Int := (cutS s).map fun t => (t.size : Int)
def unB (s : ByteArray) (xs : List Int) : Bool := szsB xs && (decide (szL s = xs) && digB (flatS s) 36 20)
theorem pt_data (s : ByteArray) (xs : List Int) (k : Nat) : (pt s xs k).data.toList = (s.data.toList.drop (oN xs k)).take (qN xs k) := by
  unfold pt
  rw [Lib.extract_data, oN_succ]
  congr 1; omega
/-- If the pieces have the sizes, the groups are the pieces. -/
theorem pts_cut {s : ByteArray} {xs : List Int} (h : szL s = xs) : ∀ k, k ≤ xs.length → pts (flatS s) xs k = (cutS s).take k ∧ (flatS s).data.toList.drop (oN xs k) = (((cutS s).drop k).map (·.data.toList)).flatten
  | 0, _ => by simp [pts, oN, flatS_cut]
  | k + 1, hk => by
    obtain ⟨h1, h2⟩ := pts_cut h k (by omega)
    have hl : (cutS s).length = xs.length := by rw [← h]; simp [szL]
    have hkl : k < (cutS s).length := by omega
    have hq : qN xs k = ((cutS s)[k]).data.toList.length := by
      unfold qN
      rw [← h, ← Lib.size_eq]
      simp [szL, hkl]
    rw [List.drop_eq_getElem_cons hkl, List.map_cons, List.flatten_cons] at h2
    refine ⟨?_, ?_⟩
    · rw [pts_succ, h1, List.take_succ_eq_append_getElem hkl]
      congr 2
      apply ba_ext
      rw [pt_data, h2, hq]
      exact List.take_left' rfl
    · rw [oN_succ, ← List.drop_drop, h2, hq]
      exact List.drop_left' rfl
theorem repl_split (old : List UInt8) : ∀ (k : Nat) (s : List UInt8), Lib.replaceK old [] k s = (Lib.splitK old 0 k s).flatten
  | 0, s => by simp [Lib.replaceK, Lib.splitK]
  | k + 1, s => by
    unfold Lib.replaceK Lib.splitK
    split
    · simp
    · rw [repl_split old k, List.flatten_cons]; simp
theorem repl_flat (s : ByteArray) : (⟨(Lib.replaceAll s.data.toList [45] []).toArray⟩ : ByteArray) = flatS s := by
  have h : Lib.replaceAll s.data.toList [45] [] = s.data.toList.filter (fun c => decide (c ≠ 45)) := by
    unfold Lib.replaceAll Lib.replace Lib.replaceNum
    rw [if_neg (by decide), if_pos (.inl (by decide)), repl_split, cutG_split _ _ (Nat.le_refl _), cutG_flat]
    simp
  rw [h]; rfl
theorem szL_sum (s : ByteArray) : (szL s).sum = ((flatS s).size : Int) := by
  rw [Lib.size_eq, flatS_cut, List.length_flatten]
  unfold szL
  generalize cutS s = l
  induction l with
  | nil => rfl
  | cons t l ih =>
    simp only [List.map_cons, List.sum_cons, ih]
    rw [← Lib.size_eq]; push_cast; rfl
theorem un_yes {s : ByteArray} {xs : List Int} (h : unB s xs = true) : gwB (flatS s) xs = true ∧ gwS (flatS s) xs = s ∧ s.size ≤ 40 := by
  unfold unB at h
  rw [Bool.and_eq_true, Bool.and_eq_true, decide_eq_true_eq] at h
  obtain ⟨h1, h2, h3⟩ := h
  have hg : gwB (flatS s) xs = true := gwB_yes h1 h3 (by rw [← h2]; exact szL_sum s)
  have hl : (cutS s).length = xs.length := by rw [← h2]; simp [szL]
  have hp := (pts_cut h2 xs.length (Nat.le_refl _)).1
  rw [List.take_of_length_le (by omega)] at hp
  refine ⟨hg, ?_, ?_⟩
  · rw [gwS_yes hg, ← join_gwT, hp]
    apply ba_ext
    show Lib.join ((cutS s).map (·.data.toList)) [45] = _
    rw [cutS_data, cutG_join]; rfl
  · have := cutS_sum s
    have h4 := digB_size h3
    have h5 := szL_sum s
    have h6 : ((szL s).sum : Int) = (((cutS s).map ByteArray.size).sum : Nat) := by
      unfold szL
      generalize cutS s = l
      induction l with
      | nil => rfl
      | cons t l ih => simp only [List.map_cons, List.sum_cons, ih]; push_cast; rfl
    have h7 := (szsB_iff.1 h1).1
    omega
theorem un_back {s : ByteArray} {xs : List Int} (h : gwB (flatS s) xs = true) (hs : gwS (flatS s) xs = s) : unB s xs = true := by
  have h0 := h
  unfold gwB at h
  rw [Bool.and_eq_true, Bool.and_eq_true, decide_eq_true_eq] at h
  obtain ⟨h1, h2, h3⟩ := h
  have hn := szsB_iff.1 h1
  have hf := oN_fit h1 h3
  rw [gwS_yes h0, ← join_gwT] at hs
  have hj : Lib.join ((pts (flatS s) xs xs.length).map (·.data.toList)) [45] = s.data.toList := by rw [← congrArg (·.data.toList) hs]
  have hc : cutS s = pts (flatS s) xs xs.length := by
    refine (cutS_of ?_).symm
    rw [← hj]
    refine (cutG_of _ ?_ ?_).symm
    · intro e
      have := congrArg List.length e
      rw [List.length_map, pts_len, List.length_nil] at this
      omega
    · intro x hx c hc
      obtain ⟨t, ht, rfl⟩ := List.mem_map.1 hx
      obtain ⟨k, hk, rfl⟩ := List.mem_map.1 ht
      rw [pt_data] at hc
      exact flatS_none s c (List.mem_of_mem_drop (List.mem_of_mem_take hc))
  have hz : szL s = xs := by
    unfold szL
    rw [hc]
    apply List.ext_getElem
    · simp [pts_len]
    · intro k hk1 hk2
      have := hn.2 k hk2
      have h5 : oN xs (k + 1) ≤ (flatS s).size := by rw [← hf]; exact oN_mono xs hk2
      have h6 := pt_size (flatS s) xs k h5
      simp only [pts, List.getElem_map, List.getElem_range]
      rw [h6]
      unfold qN
      rw [getD_eq hk2] at this ⊢
      omega
  unfold unB
  rw [h1, decide_eq_true hz, h2]; rfl
theorem un_no {s : ByteArray} {xs : List Int} (h : unB s xs = false) : gwB (flatS s) xs = false ∨ gwS (flatS s) xs ≠ s := by
  cases hg : gwB (flatS s) xs
  · exact .inl rfl
  · refine .inr fun e => ?_
    rw [un_back hg e] at h; cases h
end Go.Proofs.YtdlagajnefkklaaDoor
