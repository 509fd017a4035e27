/- ReadTable: plain facts. -/
import Derived.Test.YthcnhkjiojeemaaDoorCutQ
import Derived.Test.YthcnhkjiojeemaaDoorShSplit
import Derived.Test.YthcnhkjiojeemaaDoorQgM
import Derived.Test.YthcnhkjiojeemaaDoorWof
import Derived.Lib.Join
namespace Go.Proofs.YthcnhkjiojeemaaDoor
open Go.RowKit

theorem cutG_ne (p : List UInt8) : ∀ l, cutG p l ≠ []
  | [] => by simp [cutG]
  | c :: r => by
    by_cases hc : c = 47
    · rw [cutG_dash p r hc]; simp
    · rw [cutG_char p r hc]; exact cutG_ne _ r
theorem join_cons (x : List UInt8) {l : List (List UInt8)} (h : l ≠ []) : Lib.join (x :: l) [47] = x ++ 47 :: Lib.join l [47] := by
  cases l with
  | nil => exact absurd rfl h
  | cons y l => simp [Lib.join, List.intercalate, List.intersperse]
theorem cutG_join : ∀ (l p : List UInt8), Lib.join (cutG p l) [47] = p ++ l
  | [], p => by simp [cutG, Lib.join, List.intercalate]
  | c :: r, p => by
    by_cases hc : c = 47
    · rw [cutG_dash p r hc, join_cons p (cutG_ne [] r), cutG_join r [], hc]; simp
    · rw [cutG_char p r hc, cutG_join r (p ++ [c])]; simp
theorem join_snoc : ∀ (l : List (List UInt8)) (y : List UInt8), Lib.join (l ++ [y]) [47] = (if l = [] then y else Lib.join l [47] ++ 47 :: y)
  | [], y => by simp [Lib.join, List.intercalate]
  | [x], y => by simp [Lib.join, List.intercalate, List.intersperse]
  | x :: z :: l, y => by
    rw [List.cons_append, join_cons x (by simp), join_snoc (z :: l) y, if_neg (by simp), if_neg (by simp), join_cons x (by simp)]
    simp
/-- strings.Split at the mark. -/
theorem splitQ_any (s : ByteArray) (m : Int) (w : World) (hs : s.size ≤ 1048576) (hm : w.cell? ⟨0, 0, none⟩ = some (.int .i64 m)) :
    Calls Tryd.prog 22 #[.string s, .string ⟨#[47]⟩] w fun e w' => ∃ v, e = .returned v ∧ OS w.heap.size w' v (cutS s) ∧ Below w.heap.size w w' := by
  refine (sh_strings_Split s dashB m w (by omega) hm (by decide)).mono ?_
  rintro e w' ⟨rfl, rfl⟩
  have hl := cutS_len s
  have hc : Lib.countB s dashB ≤ s.size := Lib.countB_le dashB (by decide) s.size s (Nat.le_refl _)
  refine ⟨_, rfl, ?_, (Below.refl _ _).alloc (Nat.le_refl _) _⟩
  have h := OV.lit (B := w.heap.size) 9 w (ss (cutS s)) (Nat.le_refl _) (by rw [ss_length, hl]; unfold maxLen; omega)
  rw [ss_length, hl] at h
  exact h
theorem sy_dg {c : Int} (h : 0 ≤ dg c) : sy (dg c) = c := by
  unfold dg at *
  unfold sy
  split at h <;> rename_i h1
  · rw [if_pos h1, if_pos (by omega)]; omega
  · split at h <;> rename_i h2
    · rw [if_neg h1, if_pos h2, if_neg (by omega)]; omega
    · omega
theorem dig_mem {s : ByteArray} {b m : Int} (h : digB s b m = true) : (2 ≤ b ∧ b ≤ 36) ∧ (s.size : Int) ≤ m ∧ ∀ z ∈ dgs s, 0 ≤ z ∧ z < b := by
  unfold digB wdB at h
  rw [Bool.and_eq_true, Bool.and_eq_true, List.all_eq_true, decide_eq_true_eq] at h
  obtain ⟨⟨h1, h2⟩, h3⟩ := h
  unfold inB at h1
  simp only [Bool.and_eq_true, decide_eq_true_eq] at h1
  refine ⟨h1, h2, fun z hz => ?_⟩
  unfold dgs at hz
  obtain ⟨c, hc, rfl⟩ := List.mem_map.1 hz
  have := h3 c hc
  unfold inB at this
  simp only [Bool.and_eq_true, decide_eq_true_eq] at this
  omega
theorem wOf_dgs {s : ByteArray} {b m : Int} (h : digB s b m = true) : wOf (dgs s) = s := by
  obtain ⟨h1, h2, h3⟩ := dig_mem h
  refine bz_inj ?_
  rw [wOf_bz (fun z hz => by have := h3 z hz; omega)]
  unfold dgs
  rw [List.map_map]
  conv => rhs; rw [← List.map_id (bz s)]
  refine List.map_congr_left fun c hc => ?_
  have := h3 (dg c) (List.mem_map.2 ⟨c, hc, rfl⟩)
  exact sy_dg this.1
/-- The table of a text. -/
def rdT (s : ByteArray) : List (List Int) := (cutS s).map dgs
theorem rdT_len (s : ByteArray) : (rdT s).length = (cutS s).length := by unfold rdT; rw [List.length_map]
theorem rdT_row {s : ByteArray} {j : Nat} (h : j < (cutS s).length) : rowAt (rdT s) j = dgs (sAt (cutS s) j) := by
  unfold rowAt rdT sAt; simp [h]
theorem rt_dig {s : ByteArray} (h : qgB (rdT s) = true) {j : Nat} (hj : j < (cutS s).length) : digB (sAt (cutS s) j) 36 36 = true := by
  obtain ⟨⟨h1, h2⟩, h3, q⟩ := qgB_iff.1 h
  rw [rdT_len] at h1 h2 h3 q
  have hl := h3 j hj
  rw [rdT_row hj, dgs_len] at hl
  unfold digB wdB
  rw [Bool.and_eq_true, Bool.and_eq_true, List.all_eq_true]
  refine ⟨⟨by decide, decide_eq_true (by omega)⟩, fun c hc => ?_⟩
  obtain ⟨k, hk, rfl⟩ := List.mem_iff_getElem.1 hc
  have hk' := hk
  rw [bz_len] at hk'
  have hb := q.bd j k hj (by omega)
  have e : tb (rdT s) j k = dg ((bz (sAt (cutS s) j))[k]) := by
    unfold tb
    rw [rdT_row hj]
    have key : ∀ (L : List Int) (k : Nat) (hk : k < L.length), (L.map dg).getD k 0 = dg L[k] := fun L k hk => by simp [hk]
    exact key _ k hk
  rw [e] at hb
  exact inB_iff.2 (by omega)
theorem rt_bad {s : ByteArray} {j : Nat} (hj : j < (cutS s).length) (h : digB (sAt (cutS s) j) 36 36 = false) : qgB (rdT s) = false := by
  cases hq : qgB (rdT s)
  · rfl
  · rw [rt_dig hq hj] at h; cases h
theorem rt_many {s : ByteArray} (h : 36 < (cutS s).length) : qgB (rdT s) = false := by
  cases hq : qgB (rdT s)
  · rfl
  · obtain ⟨⟨_, h2⟩, _⟩ := qgB_iff.1 hq
    rw [rdT_len] at h2; omega
theorem sum_same : ∀ (l : List Nat) (n : Nat), (∀ x ∈ l, x = n) → l.sum = l.length * n
  | [], n, _ => by simp
  | x :: l, n, h => by
    rw [List.sum_cons, sum_same l n fun y hy => h y (by simp [hy]), h x (by simp), List.length_cons, Nat.succ_mul]; omega
theorem rt_size {s : ByteArray} (h : qgB (rdT s) = true) : s.size ≤ 1332 := by
  obtain ⟨⟨h1, h2⟩, h3, q⟩ := qgB_iff.1 h
  rw [rdT_len] at h1 h2 h3 q
  have hs := cutS_sum s
  have he : ((cutS s).map ByteArray.size).sum = (cutS s).length * (cutS s).length := by
    have := sum_same ((cutS s).map ByteArray.size) (cutS s).length fun x hx => by
      obtain ⟨t, ht, rfl⟩ := List.mem_map.1 hx
      obtain ⟨j, hj, rfl⟩ := List.mem_iff_getElem.1 ht
      have hl := h3 j hj
      rw [rdT_row hj, dgs_len] at hl
      unfold sAt at hl
      simpa [hj] using hl
    rw [List.length_map] at this; exact this
  rw [he] at hs
  have := Nat.mul_le_mul h2 h2
  omega
theorem rt_big {s : ByteArray} (h : 1332 < s.size) : qgB (rdT s) = false := by
  cases hq : qgB (rdT s)
  · rfl
  · have := rt_size hq; omega
/-- The text of the first rows. -/
def txT (x : List (List Int)) (k : Nat) : ByteArray := ⟨(Lib.join ((x.take k).map fun r => (wOf r).data.toList) [47]).toArray⟩
theorem txT_data (x : List (List Int)) (k : Nat) : (txT x k).data.toList = Lib.join ((x.take k).map fun r => (wOf r).data.toList) [47] := rfl
theorem txT_zero (x : List (List Int)) : txT x 0 = ByteArray.empty := ba_ext (by rw [txT_data]; simp [Lib.join, List.intercalate])
theorem txT_one {x : List (List Int)} (h : 0 < x.length) : txT x 0 ++ wOf (rowAt x 0) = txT x 1 := by
  apply ba_ext
  rw [ByteArray.data_append, Array.toList_append, txT_data, txT_data, List.take_succ_eq_append_getElem h]
  simp [Lib.join, List.intercalate, rowAt, h]
theorem txT_succ {x : List (List Int)} {k : Nat} (h : k < x.length) (h0 : 0 < k) : txT x k ++ ⟨#[47]⟩ ++ wOf (rowAt x k) = txT x (k + 1) := by
  apply ba_ext
  rw [ByteArray.data_append, Array.toList_append, ByteArray.data_append, Array.toList_append, txT_data, txT_data, List.take_succ_eq_append_getElem h, List.map_append]
  have hne : (x.take k).map (fun r => (wOf r).data.toList) ≠ [] := by
    intro e
    have := congrArg List.length e
    rw [List.length_map, List.length_take, List.length_nil] at this; omega
  show _ = Lib.join (_ ++ [_]) [47]
  rw [join_snoc, if_neg hne]
  simp [rowAt, h]
theorem txT_len (x : List (List Int)) {k : Nat} (hk : k ≤ x.length) : (∀ i, i < x.length → (rowAt x i).length ≤ 36) → (txT x k).size ≤ k * 37 := by
  intro h
  induction k with
  | zero => rw [txT_zero]; simp
  | succ k ih =>
    have h1 := ih (by omega)
    have h2 := h k (by omega)
    by_cases h0 : k = 0
    · subst h0
      rw [← txT_one (by omega), ByteArray.size_append, wOf_size]; omega
    · rw [← txT_succ (by omega) (by omega), ByteArray.size_append, ByteArray.size_append, wOf_size]
      have : (⟨#[47]⟩ : ByteArray).size = 1 := rfl
      omega
theorem rt_text {s : ByteArray} (h : qgB (rdT s) = true) : txT (rdT s) (rdT s).length = s := by
  apply ba_ext
  rw [txT_data, List.take_length]
  have e : (rdT s).map (fun r => (wOf r).data.toList) = (cutS s).map (·.data.toList) := by
    unfold rdT
    rw [List.map_map]
    refine List.map_congr_left fun t ht => ?_
    obtain ⟨j, hj, rfl⟩ := List.mem_iff_getElem.1 ht
    have hd := rt_dig h hj
    have e2 : sAt (cutS s) j = (cutS s)[j] := by unfold sAt; simp [hj]
    rw [e2] at hd
    show (wOf (dgs _)).data.toList = _
    rw [wOf_dgs hd]
  rw [e, cutS_data, cutG_join]; rfl
theorem dgs_snoc (s : ByteArray) {f k : Nat} (hf : f ≤ k) (hk : k < s.size) : dgs (s.extract f (k + 1)) = dgs (s.extract f k) ++ [dg (s[k].toNat : Int)] := by
  unfold dgs
  rw [bz_extract, bz_extract, List.take_succ_eq_append_getElem (by rw [bz_len]; exact hk), List.drop_append_of_le_length (by rw [List.length_take, bz_len]; omega), List.map_append]
  have : (bz s)[k]'(by rw [bz_len]; exact hk) = (s[k].toNat : Int) := by rw [← bz_get s k hk, getD_eq]
  rw [this]; rfl
theorem dgs_none (s : ByteArray) (f : Nat) : dgs (s.extract f f) = [] := by
  unfold dgs
  rw [bz_extract, List.drop_eq_nil_of_le (by rw [List.length_take]; omega)]; rfl
end Go.Proofs.YthcnhkjiojeemaaDoor
