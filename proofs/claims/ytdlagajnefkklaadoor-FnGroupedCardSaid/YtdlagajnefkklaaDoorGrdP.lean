/- FnGrouped: plain facts. -/
import Derived.Test.YtdlagajnefkklaaDoorUnP
import Derived.Test.YtdlagajnefkklaaDoorWof
namespace Go.Proofs.YtdlagajnefkklaaDoor
open Go.RowKit

theorem digB_no45 {s : ByteArray} {m : Int} (h : digB s 36 m = true) : ∀ c, c ∈ s.data.toList → c ≠ 45 := by
  intro c hc e
  unfold digB wdB at h
  rw [Bool.and_eq_true, List.all_eq_true] at h
  have h2 := h.2 (c.toNat : Int) (by unfold bz; exact List.mem_map.2 ⟨c, hc, rfl⟩)
  subst e
  revert h2
  decide
theorem cut_gwT {s : ByteArray} {xs : List Int} (h : gwB s xs = true) : cutS (gwT s xs xs.length) = pts s xs xs.length := by
  unfold gwB at h
  rw [Bool.and_eq_true, Bool.and_eq_true, decide_eq_true_eq] at h
  obtain ⟨h1, h2, h3⟩ := h
  have hn := szsB_iff.1 h1
  refine (cutS_of ?_).symm
  rw [gwT_join]
  refine (cutG_of _ ?_ ?_).symm
  · intro e
    have := congrArg List.length e
    rw [List.length_map, pts_len, List.length_nil] at this
    omega
  · intro x hx c hc
    obtain ⟨t, ht, rfl⟩ := List.mem_map.1 hx
    obtain ⟨k, hk, rfl⟩ := List.mem_map.1 ht
    rw [pt_data] at hc
    exact digB_no45 h2 c (List.mem_of_mem_drop (List.mem_of_mem_take hc))
theorem pts_flat (s : ByteArray) (xs : List Int) : ∀ k, ((pts s xs k).map (·.data.toList)).flatten = s.data.toList.take (oN xs k)
  | 0 => by simp [pts, oN]
  | k + 1 => by
    rw [pts_succ, List.map_append, List.flatten_append, pts_flat s xs k, oN_succ, List.take_add]
    congr 1
    simp [pt_data]
theorem flat_gwT {s : ByteArray} {xs : List Int} (h : gwB s xs = true) : flatS (gwT s xs xs.length) = s := by
  have hc := cut_gwT h
  unfold gwB at h
  rw [Bool.and_eq_true, Bool.and_eq_true, decide_eq_true_eq] at h
  apply ba_ext
  rw [flatS_cut, hc, pts_flat, oN_fit h.1 h.2.2, Lib.size_eq, List.take_length]
theorem szL_gwT {s : ByteArray} {xs : List Int} (h : gwB s xs = true) : szL (gwT s xs xs.length) = xs := by
  have hc := cut_gwT h
  unfold gwB at h
  rw [Bool.and_eq_true, Bool.and_eq_true, decide_eq_true_eq] at h
  have hn := szsB_iff.1 h.1
  have hf := oN_fit h.1 h.2.2
  unfold szL
  rw [hc]
  apply List.ext_getElem
  · simp [pts_len]
  · intro k hk1 hk2
    have := hn.2 k hk2
    have h5 : oN xs (k + 1) ≤ s.size := by rw [← hf]; exact oN_mono xs hk2
    have h6 := pt_size s xs k h5
    simp only [pts, List.getElem_map, List.getElem_range]
    rw [h6]
    unfold qN
    rw [getD_eq hk2] at this ⊢
    omega
theorem unB_gwT {s : ByteArray} {xs : List Int} (h : gwB s xs = true) : unB (gwT s xs xs.length) xs = true := by
  have h1 := szL_gwT h
  have h2 := flat_gwT h
  unfold gwB at h
  rw [Bool.and_eq_true, Bool.and_eq_true, decide_eq_true_eq] at h
  unfold unB
  rw [h.1, h1, h2, h.2.1, decide_eq_true rfl]; rfl
theorem unB_other {s : ByteArray} {xs ys : List Int} (h : gwB s xs = true) (hy : xs ≠ ys) : unB (gwT s xs xs.length) ys = false := by
  have h1 := szL_gwT h
  unfold unB
  rw [h1, decide_eq_false hy]; simp
theorem gwT_sz {s : ByteArray} {xs : List Int} (h : gwB s xs = true) : (gwT s xs xs.length).size + 1 = s.size + xs.length := by
  have h1 := cutS_sum (gwT s xs xs.length)
  have h2 := szL_sum (gwT s xs xs.length)
  have h3 := cut_gwT h
  have h4 := szL_gwT h
  rw [flat_gwT h] at h2
  have h6 : ((szL (gwT s xs xs.length)).sum : Int) = (((cutS (gwT s xs xs.length)).map ByteArray.size).sum : Nat) := by
    unfold szL
    generalize cutS (gwT s xs xs.length) = l
    induction l with
    | nil => rfl
    | cons t l ih => simp only [List.map_cons, List.sum_cons, ih]; push_cast; rfl
  have h7 : (cutS (gwT s xs xs.length)).length = xs.length := by rw [h3, pts_len]
  omega
theorem ext_succ (t : ByteArray) (i : Nat) (hi : i < t.size) : (t.extract 0 (i + 1)).data.toList = (t.extract 0 i).data.toList ++ [t[i]] := by
  rw [Lib.extract_data, Lib.extract_data]
  simp only [List.drop_zero, Nat.sub_zero]
  rw [List.take_succ_eq_append_getElem (by simpa using hi)]; rfl
theorem ext_one (t : ByteArray) (i : Nat) (hi : i < t.size) : (t.extract i (i + 1)).data.toList = [t[i]] := by
  rw [Lib.extract_data]
  have h : i < t.data.toList.length := by simpa using hi
  rw [List.drop_eq_getElem_cons h, show i + 1 - i = 1 by omega]; simp; rfl
theorem flat_skip {t : ByteArray} {i : Nat} (hi : i < t.size) (h : (t[i].toNat : Int) = 45) : flatS (t.extract 0 (i + 1)) = flatS (t.extract 0 i) := by
  have hc : t[i] = 45 := by apply UInt8.toNat_inj.1; show t[i].toNat = 45; omega
  apply ba_ext
  rw [flatS_data, flatS_data, ext_succ t i hi, List.filter_append, hc]; simp
theorem flat_more {t : ByteArray} {i : Nat} (hi : i < t.size) (h : (t[i].toNat : Int) ≠ 45) : flatS (t.extract 0 (i + 1)) = flatS (t.extract 0 i) ++ t.extract i (i + 1) := by
  have hc : t[i] ≠ 45 := fun e => h (by rw [e]; rfl)
  apply ba_ext
  rw [flatS_data, ext_succ t i hi, List.filter_append, ByteArray.data_append, Array.toList_append, ext_one t i hi, flatS_data]
  simp [hc]
theorem flat_zero (t : ByteArray) : flatS (t.extract 0 0) = ⟨#[]⟩ := by
  apply ba_ext
  rw [flatS_data, Lib.extract_data]; simp
theorem flat_all (t : ByteArray) : flatS (t.extract 0 t.size) = flatS t := by
  rw [ByteArray.extract_zero_size]
theorem wOf_snoc (ds : List Int) (d : Int) : wOf ds ++ wOf [d] = wOf (ds ++ [d]) := by
  apply ba_ext
  unfold wOf strOfNums
  simp
theorem sum_bd {xs : List Int} : (∀ z ∈ xs, 1 ≤ z ∧ z ≤ 4) → (xs.length : Int) ≤ xs.sum ∧ xs.sum ≤ 4 * xs.length := by
  induction xs with
  | nil => intro _; simp
  | cons x xs ih =>
    intro h
    have h1 := h x (by simp)
    have h2 := ih fun z hz => h z (by simp [hz])
    simp only [List.sum_cons, List.length_cons]
    omega
theorem szs_of {xs : List Int} (h : ∀ z ∈ xs, 1 ≤ z ∧ z ≤ 4) (hl : 1 ≤ xs.length ∧ xs.length ≤ 4) : szsB xs = true := by
  refine szsB_iff.2 ⟨⟨by omega, by omega⟩, fun i hi => ?_⟩
  have := h (xs.getD i 0) (getD_mem hi)
  omega
end Go.Proofs.YtdlagajnefkklaaDoor
