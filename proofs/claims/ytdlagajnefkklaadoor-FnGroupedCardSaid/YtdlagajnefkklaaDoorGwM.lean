/- Words in groups: plain lists. -/
import Derived.Test.YtdlagajnefkklaaDoorDig
import Derived.Test.YtdlagajnefkklaaDoorStrs
import Derived.Lib.Join
namespace Go.Proofs.YtdlagajnefkklaaDoor
open Go.RowKit

theorem inB_iff {n a b : Int} : inB n a b = true ↔ a ≤ n ∧ n ≤ b := by unfold inB; simp
def szsB (xs : List Int) : Bool := inB xs.length 1 10 && xs.all fun z => inB z 1 20
theorem szsB_iff {xs : List Int} : szsB xs = true ↔ (1 ≤ xs.length ∧ xs.length ≤ 10) ∧ ∀ i, i < xs.length → 1 ≤ xs.getD i 0 ∧ xs.getD i 0 ≤ 20 := by
  unfold szsB
  rw [Bool.and_eq_true, List.all_eq_true]
  have h0 : inB (xs.length : Int) 1 10 = true ↔ 1 ≤ xs.length ∧ xs.length ≤ 10 := by unfold inB; simp; omega
  rw [h0]
  refine and_congr Iff.rfl ⟨fun h i hi => ?_, fun h z hz => ?_⟩
  · have := h _ (getD_mem hi)
    rw [inB_iff] at this; exact this
  · obtain ⟨i, hi, rfl⟩ := List.getElem_of_mem hz
    have := h i hi
    rw [getD_eq hi] at this
    rw [inB_iff]; exact this
/-- How many symbols the i-th group has, and where it begins. -/
def qN (xs : List Int) (i : Nat) : Nat := (xs.getD i 0).toNat
def oN (xs : List Int) : Nat → Nat
  | 0 => 0
  | k + 1 => oN xs k + qN xs k
theorem oN_succ (xs : List Int) (k : Nat) : oN xs (k + 1) = oN xs k + qN xs k := rfl
theorem oN_mono (xs : List Int) {a b : Nat} (h : a ≤ b) : oN xs a ≤ oN xs b := by
  induction b with
  | zero => have : a = 0 := by omega
            subst this; exact Nat.le_refl _
  | succ b ih =>
    by_cases e : a = b + 1
    · subst e; exact Nat.le_refl _
    · have := ih (by omega); rw [oN_succ]; omega
theorem sum_take {xs : List Int} (k : Nat) (hk : k ≤ xs.length) (h : ∀ i, i < xs.length → 0 ≤ xs.getD i 0) : (xs.take k).sum = (oN xs k : Int) := by
  induction k with
  | zero => simp [oN]
  | succ k ih =>
    have h1 := h k (by omega)
    rw [List.take_succ_eq_append_getElem (by omega), List.sum_append, ih (by omega)]
    have e : xs[k] = (qN xs k : Int) := by unfold qN; rw [getD_eq (show k < xs.length by omega)] at *; omega
    simp [oN, e]
theorem oN_all {xs : List Int} (h : ∀ i, i < xs.length → 0 ≤ xs.getD i 0) : xs.sum = (oN xs xs.length : Int) := by
  rw [← sum_take xs.length (Nat.le_refl _) h, List.take_length]
theorem oN_le {xs : List Int} (h : ∀ i, i < xs.length → xs.getD i 0 ≤ 20) : ∀ k, k ≤ xs.length → oN xs k ≤ 20 * k
  | 0, _ => by simp [oN]
  | k + 1, hk => by
    have h1 := h k (by omega)
    have h2 := oN_le h k (by omega)
    rw [oN_succ]; unfold qN; omega
/-- What is left of the word behind k groups, and the next group. -/
def rst (s : ByteArray) (xs : List Int) : Nat → ByteArray
  | 0 => s
  | k + 1 => (rst s xs k).extract (qN xs k) (rst s xs k).size
def pc (s : ByteArray) (xs : List Int) (k : Nat) : ByteArray := (rst s xs k).extract 0 (qN xs k)
def pt (s : ByteArray) (xs : List Int) (k : Nat) : ByteArray := s.extract (oN xs k) (oN xs (k + 1))
theorem rst_bz (s : ByteArray) (xs : List Int) : ∀ k, bz (rst s xs k) = (bz s).drop (oN xs k)
  | 0 => by simp [rst, oN]
  | k + 1 => by
    show bz ((rst s xs k).extract (qN xs k) (rst s xs k).size) = _
    rw [bz_extract, ← bz_len, List.take_length, rst_bz s xs k, List.drop_drop]; rfl
theorem rst_size (s : ByteArray) (xs : List Int) (k : Nat) : (rst s xs k).size = s.size - oN xs k := by
  rw [← bz_len, rst_bz, List.length_drop, bz_len]
theorem pc_pt (s : ByteArray) (xs : List Int) (k : Nat) : pc s xs k = pt s xs k := by
  apply bz_inj
  unfold pc pt
  rw [bz_extract, bz_extract, rst_bz, List.drop_zero, List.take_drop]; rfl
theorem pt_size (s : ByteArray) (xs : List Int) (k : Nat) (h : oN xs (k + 1) ≤ s.size) : (pt s xs k).size = qN xs k := by
  unfold pt
  rw [← bz_len, bz_extract, List.length_drop, List.length_take, bz_len, Nat.min_eq_left h]
  rw [oN_succ]; omega
def pts (s : ByteArray) (xs : List Int) (k : Nat) : List ByteArray := (List.range k).map (pt s xs)
theorem pts_succ (s : ByteArray) (xs : List Int) (k : Nat) : pts s xs (k + 1) = pts s xs k ++ [pt s xs k] := by simp [pts, List.range_succ]
theorem pts_len (s : ByteArray) (xs : List Int) (k : Nat) : (pts s xs k).length = k := by simp [pts]
def dash : ByteArray := ⟨#[45]⟩
/-- The reference's text behind k groups. -/
def gwT (s : ByteArray) (xs : List Int) : Nat → ByteArray
  | 0 => ByteArray.empty
  | k + 1 => (if k = 0 then gwT s xs k else gwT s xs k ++ dash) ++ pt s xs k
theorem intercalate_snoc {α : Type} (sep : List α) : ∀ (l : List (List α)) (x : List α), l ≠ [] → sep.intercalate (l ++ [x]) = sep.intercalate l ++ sep ++ x
  | [], x, h => absurd rfl h
  | [a], x, _ => by simp [List.intercalate, List.intersperse]
  | a :: b :: l, x, _ => by
    have := intercalate_snoc sep (b :: l) x (by simp)
    simp only [List.intercalate, List.cons_append, List.intersperse, List.flatten_cons] at this ⊢
    rw [this]; simp
theorem gwT_join (s : ByteArray) (xs : List Int) : ∀ k, (gwT s xs k).data.toList = Lib.join ((pts s xs k).map (·.data.toList)) [45]
  | 0 => rfl
  | k + 1 => by
    have ih := gwT_join s xs k
    rw [pts_succ, List.map_append]
    by_cases h : k = 0
    · subst h
      simp [gwT, pts, Lib.join, List.intercalate]
    · show ((if k = 0 then gwT s xs k else gwT s xs k ++ dash) ++ pt s xs k).data.toList = _
      rw [if_neg h]
      unfold Lib.join at ih ⊢
      rw [List.map_singleton, intercalate_snoc _ _ _ (by
        intro e
        have := congrArg List.length e
        simp [pts_len] at this; exact h this), ← ih]
      simp [dash]
theorem join_gwT (s : ByteArray) (xs : List Int) (k : Nat) : (⟨(Lib.join ((pts s xs k).map (·.data.toList)) [45]).toArray⟩ : ByteArray) = gwT s xs k := by
  rw [← gwT_join]
theorem gwT_size (s : ByteArray) (xs : List Int) : ∀ k, oN xs k ≤ s.size → (gwT s xs k).size + 1 ≤ oN xs k + k + 1
  | 0, _ => by simp [gwT]
  | k + 1, h => by
    have h1 := gwT_size s xs k (by rw [oN_succ] at h; omega)
    have h2 := pt_size s xs k h
    show ((if k = 0 then gwT s xs k else gwT s xs k ++ dash) ++ pt s xs k).size + 1 ≤ _
    by_cases e : k = 0
    · rw [if_pos e, ByteArray.size_append, h2]; subst e; simp [oN, gwT]
    · rw [if_neg e, ByteArray.size_append, ByteArray.size_append, h2]
      have : dash.size = 1 := rfl
      rw [oN_succ]; omega
def gwB (s : ByteArray) (xs : List Int) : Bool := szsB xs && (digB s 36 20 && decide (xs.sum = (s.size : Int)))
def gwS (s : ByteArray) (xs : List Int) : ByteArray := if gwB s xs then gwT s xs xs.length else ByteArray.empty
end Go.Proofs.YtdlagajnefkklaaDoor
