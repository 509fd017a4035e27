/- Tables of groups in plain numbers: shape, identity, inverses, and how a square table lies in memory. -/
import Derived.Test.YthcnhkjiojeemaaMat
namespace Go.Proofs.Ythcnhkjiojeemaa
open Go.RowKit

/-- The first number below n that fits, or -1. -/
def fst1 (n : Nat) (p : Nat → Bool) : Int := match (List.range n).find? p with | some k => (k : Int) | none => -1
theorem fst1_yes {n : Nat} {p : Nat → Bool} (k : Nat) (hk : k < n) (hp : p k = true) (h : ∀ i, i < k → p i = false) : fst1 n p = k := by
  have : (List.range n).find? p = some k := by
    rw [List.find?_range_eq_some]
    exact ⟨hp, List.mem_range.2 hk, fun j hj => by simp [h j hj]⟩
  unfold fst1; rw [this]
theorem fst1_no {n : Nat} {p : Nat → Bool} (h : ∀ i, i < n → p i = false) : fst1 n p = -1 := by
  have : (List.range n).find? p = none := by
    rw [List.find?_eq_none]
    intro x hx
    rw [h x (List.mem_range.1 hx)]; simp
  unfold fst1; rw [this]
theorem fst1_cases (n : Nat) (p : Nat → Bool) : (∃ k : Nat, k < n ∧ p k = true ∧ fst1 n p = k ∧ ∀ i, i < k → p i = false) ∨ (fst1 n p = -1 ∧ ∀ i, i < n → p i = false) := by
  unfold fst1
  cases h : (List.range n).find? p with
  | some k =>
    left
    rw [List.find?_range_eq_some] at h
    exact ⟨k, List.mem_range.1 h.2.1, h.1, rfl, fun i hi => by have := h.2.2 i hi; simpa using this⟩
  | none =>
    right
    rw [List.find?_eq_none] at h
    exact ⟨rfl, fun i hi => by have := h i (List.mem_range.2 hi); simpa using this⟩
theorem fst1_bd (n : Nat) (p : Nat → Bool) : -1 ≤ fst1 n p ∧ fst1 n p < n ∨ fst1 n p = -1 := by
  rcases fst1_cases n p with ⟨k, h1, _, h2, _⟩ | ⟨h, _⟩ <;> omega
theorem fst1_ok {n : Nat} {p : Nat → Bool} (h : 0 ≤ fst1 n p) : ∃ k : Nat, k < n ∧ p k = true ∧ fst1 n p = k := by
  rcases fst1_cases n p with ⟨k, h1, h2, h3, _⟩ | ⟨h1, _⟩
  · exact ⟨k, h1, h2, h3⟩
  · omega
theorem fst1_congr {n : Nat} {p q : Nat → Bool} (h : ∀ i, i < n → p i = q i) : fst1 n p = fst1 n q := by
  rcases fst1_cases n p with ⟨k, h1, h2, h3, h4⟩ | ⟨h1, h2⟩
  · rw [h3, fst1_yes k h1 (by rw [← h k h1]; exact h2) fun i hi => by rw [← h i (by omega)]; exact h4 i hi]
  · rw [h1]; exact (fst1_no fun i hi => by rw [← h i hi]; exact h2 i hi).symm
/-- All numbers below n fit. -/
def allN (n : Nat) (p : Nat → Bool) : Bool := (List.range n).all p
theorem allN_iff {n : Nat} {p : Nat → Bool} : allN n p = true ↔ ∀ i, i < n → p i = true := by
  unfold allN; rw [List.all_eq_true]; simp [List.mem_range]
theorem allN_yes {n : Nat} {p : Nat → Bool} (h : ∀ i, i < n → p i = true) : allN n p = true := allN_iff.2 h
theorem allN_no {n : Nat} {p : Nat → Bool} (k : Nat) (hk : k < n) (h : p k = false) : allN n p = false := by
  cases e : allN n p with
  | false => rfl
  | true => have := allN_iff.1 e k hk; rw [h] at this; cases this
theorem allN_zero (p : Nat → Bool) : allN 0 p = true := rfl
theorem allN_succ (n : Nat) (p : Nat → Bool) : allN (n + 1) p = (allN n p && p n) := by unfold allN; simp [List.range_succ]
theorem allN_congr {n : Nat} {p q : Nat → Bool} (h : ∀ i, i < n → p i = q i) : allN n p = allN n q := by
  rw [Bool.eq_iff_iff, allN_iff, allN_iff]
  exact ⟨fun hp i hi => by rw [← h i hi]; exact hp i hi, fun hq i hi => by rw [h i hi]; exact hq i hi⟩

/-- The number in row i and column j. -/
def tb (x : List (List Int)) (i j : Nat) : Int := (rowAt x i).getD j 0
def rowB (n : Int) (r : List Int) : Bool := r.all fun z => inB z 0 (n - 1)
def sqB (x : List (List Int)) : Bool := inB x.length 1 10 && x.all fun r => decide (r.length = x.length) && rowB x.length r
theorem inB_iff {n a b : Int} : inB n a b = true ↔ a ≤ n ∧ n ≤ b := by unfold inB; simp
theorem inB_yes {n a b : Int} (h : a ≤ n ∧ n ≤ b) : inB n a b = true := inB_iff.2 h
theorem inB_no {n a b : Int} (h : ¬ (a ≤ n ∧ n ≤ b)) : inB n a b = false := by
  cases e : inB n a b with
  | false => rfl
  | true => exact absurd (inB_iff.1 e) h
theorem rowB_no {n : Int} {r : List Int} (k : Nat) (hk : k < r.length) (h : inB (r.getD k 0) 0 (n - 1) = false) : rowB n r = false := by
  cases e : rowB n r with
  | false => rfl
  | true =>
    unfold rowB at e
    rw [List.all_eq_true] at e
    have := e (r.getD k 0) (by simp [hk])
    rw [h] at this; cases this
theorem rowB_yes {n : Int} {r : List Int} (h : ∀ k, k < r.length → inB (r.getD k 0) 0 (n - 1) = true) : rowB n r = true := by
  unfold rowB
  rw [List.all_eq_true]
  intro z hz
  obtain ⟨k, hk, rfl⟩ := List.getElem_of_mem hz
  have := h k hk
  simpa [hk] using this
theorem sqB_iff {x : List (List Int)} : sqB x = true ↔ (1 ≤ x.length ∧ x.length ≤ 10) ∧ ∀ i, i < x.length → (rowAt x i).length = x.length ∧ rowB x.length (rowAt x i) = true := by
  unfold sqB
  rw [Bool.and_eq_true, inB_iff, List.all_eq_true]
  constructor
  · rintro ⟨h1, h2⟩
    refine ⟨by omega, fun i hi => ?_⟩
    have := h2 (rowAt x i) (by rw [rowAt_lt hi]; simp)
    simpa using this
  · rintro ⟨h1, h2⟩
    refine ⟨by omega, fun r hr => ?_⟩
    obtain ⟨i, hi, rfl⟩ := List.getElem_of_mem hr
    have := h2 i hi
    rw [rowAt_lt hi] at this
    simpa using this
theorem sqB_no {x : List (List Int)} (i : Nat) (hi : i < x.length) (h : ¬ ((rowAt x i).length = x.length ∧ rowB x.length (rowAt x i) = true)) : sqB x = false := by
  cases e : sqB x with
  | false => rfl
  | true => exact absurd ((sqB_iff.1 e).2 i hi) h
theorem sqB_size {x : List (List Int)} (h : ¬ (1 ≤ x.length ∧ x.length ≤ 10)) : sqB x = false := by
  cases e : sqB x with
  | false => rfl
  | true => exact absurd (sqB_iff.1 e).1 h
theorem tb_bd {x : List (List Int)} (h : sqB x = true) (i j : Nat) (hi : i < x.length) (hj : j < x.length) : 0 ≤ tb x i j ∧ tb x i j < x.length := by
  obtain ⟨h1, h2⟩ := (sqB_iff.1 h).2 i hi
  unfold rowB at h2
  rw [List.all_eq_true] at h2
  have := h2 (tb x i j) (by unfold tb; simp [h1, hj])
  rw [inB_iff] at this
  omega

def idAt (x : List (List Int)) (e k : Nat) : Bool := decide (tb x e k = (k : Int)) && decide (tb x k e = (k : Int))
def idn (x : List (List Int)) : Int := fst1 x.length fun e => allN x.length (idAt x e)
def invAt (x : List (List Int)) (e : Int) (k y : Nat) : Bool := decide (tb x k y = e) && decide (tb x y k = e)
def inv (x : List (List Int)) (e : Int) (k : Nat) : Int := fst1 x.length (invAt x e k)
def asc (x : List (List Int)) (i j k : Nat) : Bool := decide (tb x (tb x i j).toNat k = tb x i (tb x j k).toNat)
def ascR (x : List (List Int)) (i j : Nat) : Bool := allN x.length (asc x i j)
def grpR (x : List (List Int)) (i : Nat) : Bool := decide (0 ≤ inv x (idn x) i) && allN x.length (ascR x i)
def grpB (x : List (List Int)) : Bool := sqB x && (decide (0 ≤ idn x) && allN x.length (grpR x))
theorem idn_bd (x : List (List Int)) : -1 ≤ idn x ∧ (idn x < x.length ∨ idn x = -1) := by
  have := fst1_bd x.length fun e => allN x.length (idAt x e)
  unfold idn
  omega
theorem inv_bd (x : List (List Int)) (e : Int) (k : Nat) : -1 ≤ inv x e k ∧ (inv x e k < x.length ∨ inv x e k = -1) := by
  have := fst1_bd x.length (invAt x e k)
  unfold inv
  omega

/-- A square table with the numbers of x lies in memory: its rows from ⟨G, O⟩ on, the row i from ⟨H i, F i⟩ on. -/
structure SqAt (G O : Nat) (H F P : Nat → Nat) (x : List (List Int)) (w : World) : Prop where
  row : ∀ i, i < x.length → w.cell? ⟨G, O + i, none⟩ = some (.slice (some ⟨H i, F i, none⟩) x.length (P i))
  cell : ∀ i j, i < x.length → j < x.length → w.cell? ⟨H i, F i + j, none⟩ = some (.int .i64 (tb x i j))
theorem SqAt.later {G O : Nat} {H F P : Nat → Nat} {x : List (List Int)} {w w' : World} (h : SqAt G O H F P x w) (hb : Below w.heap.size w w') : SqAt G O H F P x w' := by
  refine ⟨fun i hi => ?_, fun i j hi hj => ?_⟩
  · have h1 := h.row i hi
    rw [hb.cell (p := ⟨G, O + i, none⟩) (World.block_lt_of_cell? w _ h1)]; exact h1
  · have h1 := h.cell i j hi hj
    rw [hb.cell (p := ⟨H i, F i + j, none⟩) (World.block_lt_of_cell? w _ h1)]; exact h1
theorem SqAt.drewN {G O : Nat} {H F P : Nat → Nat} {x : List (List Int)} {w : World} (h : SqAt G O H F P x w) (n : Nat) : SqAt G O H F P x (w.drewN n) := h.later (below_drewN (Below.refl _ _) n)
theorem RT.sq {w : World} {v : Value} {x : List (List Int)} (h : RT w v x) (hs : sqB x = true) :
    ∃ G O C H F P, v = .slice (some ⟨G, O, none⟩) x.length C ∧ SqAt G O H F P x w := by
  obtain ⟨a, C, rfl⟩ := h.slice
  obtain ⟨⟨h1, _⟩, h2⟩ := sqB_iff.1 hs
  obtain ⟨G, O, _, rfl, _⟩ := h.at 0 (by omega)
  have hrow : ∀ i : Nat, ∃ q : Nat × Nat × Nat, i < x.length → w.cell? ⟨G, O + i, none⟩ = some (.slice (some ⟨q.1, q.2.1, none⟩) x.length q.2.2) ∧ ∀ j, j < x.length → w.cell? ⟨q.1, q.2.1 + j, none⟩ = some (.int .i64 (tb x i j)) := by
    intro i
    by_cases hi : i < x.length
    · obtain ⟨g, off, r, e, _, hc, hr⟩ := h.at i hi
      simp only [Option.some.injEq, Addr.mk.injEq, and_true] at e
      obtain ⟨rfl, rfl⟩ := e
      obtain ⟨ra, rc, rfl⟩ := hr.slice
      have hl := (h2 i hi).1
      obtain ⟨g', o', rfl, _, _⟩ := hr.at 0 (by omega)
      refine ⟨(g', o', rc), fun _ => ⟨by rw [hc, hl], fun j hj => ?_⟩⟩
      obtain ⟨g2, o2, e2, _, hc2⟩ := hr.at j (by omega)
      simp only [Option.some.injEq, Addr.mk.injEq, and_true] at e2
      obtain ⟨rfl, rfl⟩ := e2
      exact hc2
    · exact ⟨(0, 0, 0), fun h => absurd h hi⟩
  obtain ⟨q, hq⟩ := Classical.axiomOfChoice hrow
  exact ⟨G, O, C, fun i => (q i).1, fun i => (q i).2.1, fun i => (q i).2.2, rfl, fun i hi => (hq i hi).1, fun i j hi hj => (hq i hi).2 j hj⟩
end Go.Proofs.Ythcnhkjiojeemaa
