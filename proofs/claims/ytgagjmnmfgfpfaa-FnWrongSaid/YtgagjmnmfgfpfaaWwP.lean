/- Errors of a kind: the plain law. -/
import Derived.Test.YtgagjmnmfgfpfaaWwB
import Derived.Test.YtgagjmnmfgfpfaaWof
namespace Go.Proofs.Ytgagjmnmfgfpfaa
open Go.RowKit

theorem sy_dg {c : Int} (h : 0 ≤ dg c) : sy (dg c) = c := by
  unfold dg at *
  unfold sy
  split at h <;> rename_i h1
  · rw [if_pos h1, if_pos (by omega)]; omega
  · split at h <;> rename_i h2
    · rw [if_neg h1, if_pos h2, if_neg (by omega)]; omega
    · omega
/-- The digits of a base. -/
def dgB (b : Int) : List Int := (List.range b.toNat).map fun (d : Nat) => (d : Int)
theorem dgB_mem {b d : Int} : d ∈ dgB b ↔ 0 ≤ d ∧ d < b := by
  unfold dgB
  rw [List.mem_map]
  constructor
  · rintro ⟨n, hn, rfl⟩
    rw [List.mem_range] at hn
    omega
  · intro h
    exact ⟨d.toNat, List.mem_range.2 (by omega), by omega⟩
/-- What errors of a kind make of some digits: the program's order. -/
def chs (k b : Int) (f : List Int) : List (List Int) :=
  if k = 0 then ((dgB b).filter fun d => decide (d ≠ f.getD 0 0)).map fun d => [d]
  else if k = 1 ∨ k = 2 then (if f.getD 0 0 ≠ f.getD (f.length - 1) 0 then [(f.set 0 (f.getD (f.length - 1) 0)).set (f.length - 1) (f.getD 0 0)] else [])
  else if k = 3 ∨ k = 4 then (if f.getD 0 0 = f.getD (f.length - 1) 0 then ((dgB b).filter fun d => decide (d ≠ f.getD 0 0)).map fun d => (f.set 0 d).set (f.length - 1) d else [])
  else if f.getD 1 0 = 0 ∧ 2 ≤ f.getD 0 0 ∧ f.getD 0 0 ≤ 9 then [[1, f.getD 0 0]]
  else if f.getD 0 0 = 1 ∧ 2 ≤ f.getD 1 0 ∧ f.getD 1 0 ≤ 9 then [[f.getD 1 0, 0]] else []
/-- A digit of a base. -/
def Dg (b d : Int) : Prop := 0 ≤ d ∧ d < b
/-- The pairs of the reference. -/
def Pr (k b : Int) (f t : List Int) : Prop :=
  (k = 0 ∧ ∃ a c, Dg b a ∧ Dg b c ∧ a ≠ c ∧ f = [a] ∧ t = [c]) ∨
  (k = 1 ∧ ∃ a c, Dg b a ∧ Dg b c ∧ a ≠ c ∧ f = [a, c] ∧ t = [c, a]) ∨
  (k = 2 ∧ ∃ a m c, Dg b a ∧ Dg b m ∧ Dg b c ∧ a ≠ c ∧ f = [a, m, c] ∧ t = [c, m, a]) ∨
  (k = 3 ∧ ∃ a c, Dg b a ∧ Dg b c ∧ a ≠ c ∧ f = [a, a] ∧ t = [c, c]) ∨
  (k = 4 ∧ ∃ a m c, Dg b a ∧ Dg b m ∧ Dg b c ∧ a ≠ c ∧ f = [a, m, a] ∧ t = [c, m, c]) ∨
  (k = 5 ∧ ((∃ c, 2 ≤ c ∧ c ≤ 9 ∧ f = [1, c] ∧ t = [c, 0]) ∨ ∃ a, 2 ≤ a ∧ a ≤ 9 ∧ f = [a, 0] ∧ t = [1, a]))
theorem Pr.len {k b : Int} {f t : List Int} (h : Pr k b f t) : f.length = kL k ∧ t.length = kL k := by
  unfold kL
  rcases h with ⟨rfl, a, c, _, _, _, rfl, rfl⟩ | ⟨rfl, a, c, _, _, _, rfl, rfl⟩ | ⟨rfl, a, m, c, _, _, _, _, rfl, rfl⟩ | ⟨rfl, a, c, _, _, _, rfl, rfl⟩ | ⟨rfl, a, m, c, _, _, _, _, rfl, rfl⟩ | ⟨rfl, ⟨c, _, _, rfl, rfl⟩ | ⟨a, _, _, rfl, rfl⟩⟩ <;> simp
theorem Pr.dig {k b : Int} {f t : List Int} (hb : k = 5 → 10 ≤ b) (h : Pr k b f t) : ∀ z ∈ t, 0 ≤ z ∧ z < b := by
  unfold Pr Dg at h
  rcases h with ⟨rfl, a, c, h1, h2, _, rfl, rfl⟩ | ⟨rfl, a, c, h1, h2, _, rfl, rfl⟩ | ⟨rfl, a, m, c, h1, h2, h3, _, rfl, rfl⟩ | ⟨rfl, a, c, h1, h2, _, rfl, rfl⟩ | ⟨rfl, a, m, c, h1, h2, h3, _, rfl, rfl⟩ | ⟨rfl, ⟨c, h1, h2, rfl, rfl⟩ | ⟨a, h1, h2, rfl, rfl⟩⟩
  all_goals (intro z hz; simp only [List.mem_cons, List.not_mem_nil, or_false] at hz)
  all_goals first | omega | (have := hb rfl; omega)
theorem Pr.ne {k b : Int} {f t : List Int} (h : Pr k b f t) : f ≠ t := by
  rcases h with ⟨rfl, a, c, h1, h2, hn, rfl, rfl⟩ | ⟨rfl, a, c, h1, h2, hn, rfl, rfl⟩ | ⟨rfl, a, m, c, h1, h2, h3, hn, rfl, rfl⟩ | ⟨rfl, a, c, h1, h2, hn, rfl, rfl⟩ | ⟨rfl, a, m, c, h1, h2, h3, hn, rfl, rfl⟩ | ⟨rfl, ⟨c, h1, h2, rfl, rfl⟩ | ⟨a, h1, h2, rfl, rfl⟩⟩
  all_goals (intro e; simp at e; try omega)
  all_goals first | exact hn e | exact hn e.1 | skip
theorem Pr.symm {k b : Int} {f t : List Int} (h : Pr k b f t) : Pr k b t f := by
  rcases h with ⟨rfl, a, c, h1, h2, hn, rfl, rfl⟩ | ⟨rfl, a, c, h1, h2, hn, rfl, rfl⟩ | ⟨rfl, a, m, c, h1, h2, h3, hn, rfl, rfl⟩ | ⟨rfl, a, c, h1, h2, hn, rfl, rfl⟩ | ⟨rfl, a, m, c, h1, h2, h3, hn, rfl, rfl⟩ | ⟨rfl, ⟨c, h1, h2, rfl, rfl⟩ | ⟨a, h1, h2, rfl, rfl⟩⟩
  · exact .inl ⟨rfl, c, a, h2, h1, Ne.symm hn, rfl, rfl⟩
  · exact .inr (.inl ⟨rfl, c, a, h2, h1, Ne.symm hn, rfl, rfl⟩)
  · exact .inr (.inr (.inl ⟨rfl, c, m, a, h3, h2, h1, Ne.symm hn, rfl, rfl⟩))
  · exact .inr (.inr (.inr (.inl ⟨rfl, c, a, h2, h1, Ne.symm hn, rfl, rfl⟩)))
  · exact .inr (.inr (.inr (.inr (.inl ⟨rfl, c, m, a, h3, h2, h1, Ne.symm hn, rfl, rfl⟩))))
  · exact .inr (.inr (.inr (.inr (.inr ⟨rfl, .inr ⟨c, h1, h2, rfl, rfl⟩⟩))))
  · exact .inr (.inr (.inr (.inr (.inr ⟨rfl, .inl ⟨a, h1, h2, rfl, rfl⟩⟩))))
theorem chs_iff {k b : Int} {f t : List Int} (hk : kOk k b = true) (hl : f.length = kL k) (hd : ∀ z ∈ f, Dg b z) : t ∈ chs k b f ↔ Pr k b f t := by
  obtain ⟨hk1, hk5⟩ := kOk_parts hk
  unfold chs Pr
  unfold kL at hl
  rcases hk1 with rfl | rfl | rfl | rfl | rfl | rfl
  · rw [if_pos rfl] at hl ⊢
    match f, hl with
    | [x], _ =>
      have hx := hd x (by simp)
      rw [List.mem_map]
      constructor
      · rintro ⟨d, hd, rfl⟩
        rw [List.mem_filter, dgB_mem] at hd
        have h3 : ¬ d = x := by simpa using hd.2
        exact .inl ⟨rfl, x, d, hx, hd.1, fun e => h3 e.symm, rfl, rfl⟩
      · rintro (⟨_, a, c, h1, h2, hn, h3, rfl⟩ | ⟨h, _⟩ | ⟨h, _⟩ | ⟨h, _⟩ | ⟨h, _⟩ | ⟨h, _⟩)
        · simp only [List.cons.injEq, and_true] at h3
          subst h3
          exact ⟨c, List.mem_filter.2 ⟨dgB_mem.2 h2, by simpa using Ne.symm hn⟩, rfl⟩
        all_goals omega
  · match f, hl with
    | [x, y], _ =>
      have hx := hd x (by simp)
      have hy := hd y (by simp)
      show t ∈ (if x ≠ y then [[y, x]] else []) ↔ _
      constructor
      · intro h
        by_cases hn : x ≠ y
        · rw [if_pos hn, List.mem_singleton] at h
          exact .inr (.inl ⟨rfl, x, y, hx, hy, hn, rfl, h⟩)
        · rw [if_neg hn] at h; cases h
      · rintro (⟨h, _⟩ | ⟨_, a, c, h1, h2, hn, h3, rfl⟩ | ⟨h, _⟩ | ⟨h, _⟩ | ⟨h, _⟩ | ⟨h, _⟩)
        · omega
        · simp only [List.cons.injEq, and_true] at h3
          obtain ⟨rfl, rfl⟩ := h3
          rw [if_pos hn]; simp
        all_goals omega
  · match f, hl with
    | [x, m, y], _ =>
      have hx := hd x (by simp)
      have hm := hd m (by simp)
      have hy := hd y (by simp)
      show t ∈ (if x ≠ y then [[y, m, x]] else []) ↔ _
      constructor
      · intro h
        by_cases hn : x ≠ y
        · rw [if_pos hn, List.mem_singleton] at h
          exact .inr (.inr (.inl ⟨rfl, x, m, y, hx, hm, hy, hn, rfl, h⟩))
        · rw [if_neg hn] at h; cases h
      · rintro (⟨h, _⟩ | ⟨h, _⟩ | ⟨_, a, q, c, h1, h2, h4, hn, h3, rfl⟩ | ⟨h, _⟩ | ⟨h, _⟩ | ⟨h, _⟩)
        · omega
        · omega
        · simp only [List.cons.injEq, and_true] at h3
          obtain ⟨rfl, rfl, rfl⟩ := h3
          rw [if_pos hn]; simp
        all_goals omega
  · match f, hl with
    | [x, y], _ =>
      have hx := hd x (by simp)
      have hy := hd y (by simp)
      show t ∈ (if x = y then ((dgB b).filter fun d => decide (d ≠ x)).map fun d => [d, d] else []) ↔ _
      constructor
      · intro h
        by_cases hn : x = y
        · rw [if_pos hn, List.mem_map] at h
          obtain ⟨d, h, rfl⟩ := h
          rw [List.mem_filter, dgB_mem] at h
          have h3 : ¬ d = x := by simpa using h.2
          exact .inr (.inr (.inr (.inl ⟨rfl, x, d, hx, h.1, fun e => h3 e.symm, by rw [hn], rfl⟩)))
        · rw [if_neg hn] at h; cases h
      · rintro (⟨h, _⟩ | ⟨h, _⟩ | ⟨h, _⟩ | ⟨_, a, c, h1, h2, hn, h3, rfl⟩ | ⟨h, _⟩ | ⟨h, _⟩)
        · omega
        · omega
        · omega
        · simp only [List.cons.injEq, and_true] at h3
          obtain ⟨rfl, rfl⟩ := h3
          rw [if_pos rfl, List.mem_map]
          exact ⟨c, List.mem_filter.2 ⟨dgB_mem.2 h2, by simpa using Ne.symm hn⟩, rfl⟩
        all_goals omega
  · match f, hl with
    | [x, m, y], _ =>
      have hx := hd x (by simp)
      have hm := hd m (by simp)
      have hy := hd y (by simp)
      show t ∈ (if x = y then ((dgB b).filter fun d => decide (d ≠ x)).map fun d => [d, m, d] else []) ↔ _
      constructor
      · intro h
        by_cases hn : x = y
        · rw [if_pos hn, List.mem_map] at h
          obtain ⟨d, h, rfl⟩ := h
          rw [List.mem_filter, dgB_mem] at h
          have h3 : ¬ d = x := by simpa using h.2
          exact .inr (.inr (.inr (.inr (.inl ⟨rfl, x, m, d, hx, hm, h.1, fun e => h3 e.symm, by rw [hn], rfl⟩))))
        · rw [if_neg hn] at h; cases h
      · rintro (⟨h, _⟩ | ⟨h, _⟩ | ⟨h, _⟩ | ⟨h, _⟩ | ⟨_, a, q, c, h1, h2, h4, hn, h3, rfl⟩ | ⟨h, _⟩)
        · omega
        · omega
        · omega
        · omega
        · simp only [List.cons.injEq, and_true] at h3
          obtain ⟨rfl, rfl, rfl⟩ := h3
          rw [if_pos rfl, List.mem_map]
          exact ⟨c, List.mem_filter.2 ⟨dgB_mem.2 h4, by simpa using Ne.symm hn⟩, rfl⟩
        all_goals omega
  · match f, hl with
    | [x, y], _ =>
      have hb := hk5 rfl
      show t ∈ (if y = 0 ∧ 2 ≤ x ∧ x ≤ 9 then [[1, x]] else if x = 1 ∧ 2 ≤ y ∧ y ≤ 9 then [[y, 0]] else []) ↔ _
      constructor
      · intro h
        by_cases h1 : y = 0 ∧ 2 ≤ x ∧ x ≤ 9
        · rw [if_pos h1, List.mem_singleton] at h
          exact .inr (.inr (.inr (.inr (.inr ⟨rfl, .inr ⟨x, h1.2.1, h1.2.2, by rw [h1.1], h⟩⟩))))
        · rw [if_neg h1] at h
          by_cases h2 : x = 1 ∧ 2 ≤ y ∧ y ≤ 9
          · rw [if_pos h2, List.mem_singleton] at h
            exact .inr (.inr (.inr (.inr (.inr ⟨rfl, .inl ⟨y, h2.2.1, h2.2.2, by rw [h2.1], h⟩⟩))))
          · rw [if_neg h2] at h; cases h
      · rintro (⟨h, _⟩ | ⟨h, _⟩ | ⟨h, _⟩ | ⟨h, _⟩ | ⟨h, _⟩ | ⟨_, ⟨c, h1, h2, h3, rfl⟩ | ⟨a, h1, h2, h3, rfl⟩⟩)
        · omega
        · omega
        · omega
        · omega
        · omega
        · simp only [List.cons.injEq, and_true] at h3
          obtain ⟨rfl, rfl⟩ := h3
          rw [if_neg (by omega), if_pos ⟨rfl, h1, h2⟩]; simp
        · simp only [List.cons.injEq, and_true] at h3
          obtain ⟨rfl, rfl⟩ := h3
          rw [if_pos ⟨rfl, h1, h2⟩]; simp
end Go.Proofs.Ytgagjmnmfgfpfaa
