/- Quasigroups in plain numbers, and how a square table lies in memory. -/
import Derived.Test.YthcnhkjiojeemaaOrd
namespace Go.Proofs.Ythcnhkjiojeemaa
open Go.RowKit

abbrev Small (x : List (List Int)) : Prop := Hid (∀ j, j < x.length → (rowAt x j).length ≤ 1048576)
theorem RT.sqn {w : World} {v : Value} {x : List (List Int)} (h : RT w v x) (h1 : 1 ≤ x.length) (h2 : ∀ i, i < x.length → (rowAt x i).length = x.length) :
    ∃ G O C H F P, v = .slice (some ⟨G, O, none⟩) x.length C ∧ SqAt G O H F P x w := by
  obtain ⟨a, C, rfl⟩ := h.slice
  obtain ⟨G, O, _, rfl, _⟩ := h.at 0 (by omega)
  have hrow : ∀ i : Nat, ∃ q : Nat × Nat × Nat, i < x.length → w.cell? ⟨G, O + i, none⟩ = some (.slice (some ⟨q.1, q.2.1, none⟩) x.length q.2.2) ∧ ∀ j, j < x.length → w.cell? ⟨q.1, q.2.1 + j, none⟩ = some (.int .i64 (tb x i j)) := by
    intro i
    by_cases hi : i < x.length
    · obtain ⟨g, off, r, e, _, hc, hr⟩ := h.at i hi
      simp only [Option.some.injEq, Addr.mk.injEq, and_true] at e
      obtain ⟨rfl, rfl⟩ := e
      obtain ⟨ra, rc, rfl⟩ := hr.slice
      have hl := h2 i hi
      obtain ⟨g', o', rfl, _, _⟩ := hr.at 0 (by omega)
      refine ⟨(g', o', rc), fun _ => ⟨by rw [hc, hl], fun j hj => ?_⟩⟩
      obtain ⟨g2, o2, e2, _, hc2⟩ := hr.at j (by omega)
      simp only [Option.some.injEq, Addr.mk.injEq, and_true] at e2
      obtain ⟨rfl, rfl⟩ := e2
      exact hc2
    · exact ⟨(0, 0, 0), fun h => absurd h hi⟩
  obtain ⟨q, hq⟩ := Classical.axiomOfChoice hrow
  exact ⟨G, O, C, fun i => (q i).1, fun i => (q i).2.1, fun i => (q i).2.2, rfl, fun i hi => (hq i hi).1, fun i j hi hj => (hq i hi).2 j hj⟩

/-- The column y. -/
def colAt (x : List (List Int)) (y : Nat) : List Int := (List.range x.length).map fun i => tb x i y
theorem colAt_len (x : List (List Int)) (y : Nat) : (colAt x y).length = x.length := by simp [colAt]
theorem colAt_take {x : List (List Int)} {y i : Nat} (h : i < x.length) : (colAt x y).take (i + 1) = (colAt x y).take i ++ [tb x i y] := by
  rw [List.take_succ_eq_append_getElem (by rw [colAt_len]; exact h)]; simp [colAt]
theorem colAt_get {x : List (List Int)} {y i : Nat} (h : i < x.length) : (colAt x y).getD i 0 = tb x i y := by simp [colAt, h]
def qRow (x : List (List Int)) (i : Nat) : Bool := decide ((rowAt x i).length = x.length) && ordAt x.length (rowAt x i)
def qCol (x : List (List Int)) (y : Nat) : Bool := ordAt x.length (colAt x y)
def qgB (x : List (List Int)) : Bool := inB x.length 1 36 && (allN x.length (qRow x) && allN x.length (qCol x))
theorem qgB_size {x : List (List Int)} (h : inB x.length 1 36 = false) : qgB x = false := by unfold qgB; rw [h]; rfl
theorem qgB_row {x : List (List Int)} (i : Nat) (hi : i < x.length) (h : qRow x i = false) : qgB x = false := by unfold qgB; rw [allN_no i hi h]; simp
theorem qgB_col {x : List (List Int)} (i : Nat) (hi : i < x.length) (h : qCol x i = false) : qgB x = false := by unfold qgB; rw [allN_no i hi h]; simp
theorem qgB_yes {x : List (List Int)} (h1 : inB x.length 1 36 = true) (h2 : ∀ i, i < x.length → qRow x i = true) (h3 : ∀ i, i < x.length → qCol x i = true) : qgB x = true := by
  unfold qgB; rw [h1, allN_yes h2, allN_yes h3]; rfl
theorem qRow_len {x : List (List Int)} {i : Nat} (h : ¬ (rowAt x i).length = x.length) : qRow x i = false := by unfold qRow; rw [decide_eq_false h]; rfl
theorem qRow_ord {x : List (List Int)} {i : Nat} (h : (rowAt x i).length = x.length) : qRow x i = ordAt x.length (rowAt x i) := by unfold qRow; rw [decide_eq_true h]; rfl
/-- A list that has each number below n once, in plain numbers. -/
theorem ordAt_iff {n : Int} {xs : List Int} : ordAt n xs = true ↔ (∀ k, k < xs.length → 0 ≤ xs.getD k 0 ∧ xs.getD k 0 < n) ∧ ∀ i k, i < k → k < xs.length → xs.getD i 0 ≠ xs.getD k 0 := by
  unfold ordAt
  rw [diffB_iff]
  constructor
  · rintro ⟨h1, h2⟩
    refine ⟨fun k hk => by have := inB_iff.1 (h1 k hk); omega, fun i k hik hk e => h2 k hk ?_⟩
    rw [← e, getD_eq (show i < xs.length by omega)]
    rw [List.mem_take_iff_getElem]
    exact ⟨i, by omega, rfl⟩
  · rintro ⟨h1, h2⟩
    refine ⟨fun k hk => by have := h1 k hk; exact inB_iff.2 (by omega), fun k hk hm => ?_⟩
    rw [List.mem_take_iff_getElem] at hm
    obtain ⟨i, hi, e⟩ := hm
    refine h2 i k (by omega) hk ?_
    rw [getD_eq (show i < xs.length by omega)]; exact e
/-- A quasigroup: its numbers are below n, rows and columns have no number twice. -/
structure Qg (n : Nat) (t : Nat → Nat → Int) : Prop where
  bd : ∀ i j, i < n → j < n → 0 ≤ t i j ∧ t i j < n
  row : ∀ i j k, i < n → j < k → k < n → t i j ≠ t i k
  col : ∀ i j k, i < n → j < k → k < n → t j i ≠ t k i
theorem qgB_iff {x : List (List Int)} : qgB x = true ↔ (1 ≤ x.length ∧ x.length ≤ 36) ∧ (∀ i, i < x.length → (rowAt x i).length = x.length) ∧ Qg x.length (tb x) := by
  unfold qgB
  rw [Bool.and_eq_true, Bool.and_eq_true, inB_iff, allN_iff, allN_iff]
  constructor
  · rintro ⟨h1, h2, h3⟩
    have hl : ∀ i, i < x.length → (rowAt x i).length = x.length := fun i hi => by
      have := h2 i hi
      unfold qRow at this
      rw [Bool.and_eq_true, decide_eq_true_eq] at this; exact this.1
    refine ⟨by omega, hl, ?_⟩
    have hr : ∀ i, i < x.length → _ := fun i hi => ordAt_iff.1 (by rw [← qRow_ord (hl i hi)]; exact h2 i hi)
    have hc : ∀ i, i < x.length → _ := fun i hi => ordAt_iff.1 (h3 i hi)
    refine ⟨fun i j hi hj => (hr i hi).1 j (by rw [hl i hi]; exact hj), fun i j k hi hj hk => (hr i hi).2 j k hj (by rw [hl i hi]; exact hk), fun i j k hi hj hk => ?_⟩
    have := (hc i hi).2 j k hj (by rw [colAt_len]; exact hk)
    rwa [colAt_get (by omega), colAt_get hk] at this
  · rintro ⟨h1, hl, q⟩
    refine ⟨by omega, fun i hi => ?_, fun i hi => ?_⟩
    · rw [qRow_ord (hl i hi)]
      exact ordAt_iff.2 ⟨fun k hk => q.bd i k hi (by rw [← hl i hi]; exact hk), fun j k hj hk => q.row i j k hi hj (by rw [← hl i hi]; exact hk)⟩
    · refine ordAt_iff.2 ⟨fun k hk => ?_, fun j k hj hk => ?_⟩
      · rw [colAt_len] at hk
        rw [colAt_get hk]; exact q.bd k i hk hi
      · rw [colAt_len] at hk
        rw [colAt_get (by omega), colAt_get hk]; exact q.col i j k hi hj hk
end Go.Proofs.Ythcnhkjiojeemaa
