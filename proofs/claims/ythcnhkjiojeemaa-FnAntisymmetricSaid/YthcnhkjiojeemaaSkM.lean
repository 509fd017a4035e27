/- The program's search, in plain numbers: clashes of what is known so far, the first table in order. -/
import Derived.Test.YthcnhkjiojeemaaSchM
namespace Go.Proofs.Ythcnhkjiojeemaa
open Go.RowKit

/-- Two numbers that are known clash. -/
def ClA (n : Nat) (t : Nat → Nat → Int) (x y c : Nat) : Prop := 0 ≤ t c x ∧ 0 ≤ t c y ∧ 0 ≤ t (t c x).toNat y ∧ t (t c x).toNat y = t (t c y).toNat x
def ClS (t : Nat → Nat → Int) (x y : Nat) : Prop := 0 ≤ t x y ∧ t x y = t y x
def Clash (n : Nat) (t : Nat → Nat → Int) : Prop := ∃ x y, x < n ∧ y < x ∧ (ClS t x y ∨ ∃ c, c < n ∧ ClA n t x y c)
/-- The first p numbers are known and fit, the others are unknown, and there is no clash. -/
structure Vq (n p : Nat) (t : Nat → Nat → Int) : Prop where
  v : Vp n p t
  un : ∀ i j, i < n → j < n → p ≤ i * n + j → t i j = -1
  nc : ¬ Clash n t
theorem Vq.bd {n p : Nat} {t : Nat → Nat → Int} (h : Vp n p t) (hu : ∀ i j, i < n → j < n → p ≤ i * n + j → t i j = -1) {i j : Nat} (hi : i < n) (hj : j < n) : -1 ≤ t i j ∧ t i j < n := by
  by_cases hp : i * n + j < p
  · have := (h i j hi hj hp).1; omega
  · have := hu i j hi hj (by omega); omega
theorem Vq.full {n : Nat} {t : Nat → Nat → Int} (h : Vq n (n * n) t) : Ta n t := by
  have q := h.v.full
  refine ⟨q, fun i j hi hj e => h.nc ⟨i, j, hi, hj, .inl ⟨(q.bd i j hi (by omega)).1, e⟩⟩, fun r i j hr hi hj e => h.nc ⟨i, j, hi, hj, .inr ⟨r, hr, (q.bd r i hr hi).1, (q.bd r j hr (by omega)).1, (q.bd _ j (q.nat hr hi) (by omega)).1, e⟩⟩⟩
theorem Vq.zero (n : Nat) (hn : 1 ≤ n) : Vq n 0 (fun _ _ => -1) := by
  refine ⟨Vp.zero _ _, fun _ _ _ _ _ => rfl, ?_⟩
  rintro ⟨x, y, hx, hy, ⟨h, _⟩ | ⟨c, hc, h, _⟩⟩
  · have h' : (0 : Int) ≤ -1 := h
    omega
  · have h' : (0 : Int) ≤ -1 := h
    omega
/-- What is known of a right table has no clash. -/
theorem clash_ta {n p : Nat} {t u : Nat → Nat → Int} (hu : ∀ i j, i < n → j < n → p ≤ i * n + j → t i j = -1) (ha : Agr n p t u) (h : Ta n u) : ¬ Clash n t := by
  have key : ∀ i j, i < n → j < n → 0 ≤ t i j → t i j = u i j := fun i j hi hj h0 => by
    by_cases hp : i * n + j < p
    · exact ha i j hi hj hp
    · have := hu i j hi hj (by omega); omega
  rintro ⟨x, y, hx, hy, ⟨h1, h2⟩ | ⟨c, hc, h1, h2, h3, h4⟩⟩
  · have e1 := key x y hx (by omega) h1
    have e2 := key y x (by omega) hx (by omega)
    exact h.sw x y hx hy (by omega)
  · have e1 := key c x hc hx h1
    have e2 := key c y hc (by omega) h2
    rw [e1] at h3
    rw [e1, e2] at h4
    have e3 := key _ y (h.q.nat hc hx) (by omega) h3
    have e4 := key _ x (h.q.nat hc (show y < n by omega)) hx (by omega)
    exact h.ch c x y hc hx hy (by omega)
theorem un_upd {n p x y : Nat} {t : Nat → Nat → Int} (hy : y < n) (hp : p = x * n + y) (hu : ∀ i j, i < n → j < n → p ≤ i * n + j → t i j = -1) (z : Int) : ∀ i j, i < n → j < n → p + 1 ≤ i * n + j → upd t x y z i j = -1 := fun i j hi hj h => by
  rw [upd_other _ _ (by rintro ⟨rfl, rfl⟩; omega)]
  exact hu i j hi hj (by omega)
/-- F comes first. -/
def LexLe (n : Nat) (F u : Nat → Nat → Int) : Prop := (∀ i j, i < n → j < n → F i j = u i j) ∨ ∃ x y, x < n ∧ y < n ∧ F x y < u x y ∧ Agr n (x * n + y) F u
structure Lex (n p : Nat) (t F : Nat → Nat → Int) : Prop where
  c : Compl n p t F
  le : ∀ u, Compl n p t u → LexLe n F u
theorem Lex.full {n : Nat} {t : Nat → Nat → Int} (h : Ta n t) : Lex n (n * n) t t := ⟨⟨h, Agr.refl _ _ _⟩, fun u hu => .inl fun i j hi hj => hu.ag i j hi hj (pos_lt hi hj)⟩
theorem Lex.step {n x y k : Nat} {t F : Nat → Nat → Int} (hx : x < n) (hy : y < n) (h : Lex n (x * n + y + 1) (upd t x y (k : Int)) F) (hk : ∀ u, Compl n (x * n + y) t u → (k : Int) ≤ u x y) : Lex n (x * n + y) t F := by
  obtain ⟨h1, h2⟩ := (compl_step hx hy).1 h.c
  refine ⟨h1, fun u hu => ?_⟩
  by_cases e : u x y = (k : Int)
  · exact h.le u ((compl_step hx hy).2 ⟨hu, e⟩)
  · have := hk u hu
    exact .inr ⟨x, y, hx, hy, by omega, h1.ag.symm.trans hu.ag⟩
/-- The first number in which a table differs from the first one is greater. -/
theorem lex_diff {n x y : Nat} {F u : Nat → Nat → Int} (h : LexLe n F u) (hx : x < n) (hy : y < n) (ha : Agr n (x * n + y) F u) (hne : u x y ≠ F x y) : F x y < u x y := by
  rcases h with h | ⟨a, b, hA, hB, hlt, hag⟩
  · exact absurd (h x y hx hy).symm hne
  · rcases Nat.lt_trichotomy (x * n + y) (a * n + b) with h1 | h1 | h1
    · exact absurd (hag x y hx hy h1).symm hne
    · obtain ⟨rfl, rfl⟩ := pos_inj hy hB h1
      exact hlt
    · have := ha a b hA hB h1; omega
end Go.Proofs.Ythcnhkjiojeemaa
