/- The search for totally antisymmetric tables, in plain numbers. -/
import Derived.Test.YthcnhkjiojeemaaTb
namespace Go.Proofs.Ythcnhkjiojeemaa
open Go.RowKit

structure Ta (n : Nat) (t : Nat → Nat → Int) : Prop where
  q : Qg n t
  sw : ∀ i j, i < n → j < i → t i j ≠ t j i
  ch : ∀ r i j, r < n → i < n → j < i → t (t r i).toNat j ≠ t (t r j).toNat i
theorem Qg.congr {n : Nat} {t u : Nat → Nat → Int} (h : Qg n t) (e : ∀ i j, i < n → j < n → t i j = u i j) : Qg n u :=
  ⟨fun i j hi hj => by rw [← e i j hi hj]; exact h.bd i j hi hj, fun i j k hi hj hk => by rw [← e i j hi (by omega), ← e i k hi hk]; exact h.row i j k hi hj hk,
   fun i j k hi hj hk => by rw [← e j i (by omega) hi, ← e k i hk hi]; exact h.col i j k hi hj hk⟩
theorem Qg.nat {n : Nat} {t : Nat → Nat → Int} (h : Qg n t) {i j : Nat} (hi : i < n) (hj : j < n) : (t i j).toNat < n := by have := h.bd i j hi hj; omega
theorem Ta.congr {n : Nat} {t u : Nat → Nat → Int} (h : Ta n t) (e : ∀ i j, i < n → j < n → t i j = u i j) : Ta n u :=
  ⟨h.q.congr e, fun i j hi hj => by rw [← e i j hi (by omega), ← e j i (by omega) hi]; exact h.sw i j hi hj,
   fun r i j hr hi hj => by
    have h1 := h.q.nat hr hi
    have h2 := h.q.nat hr (show j < n by omega)
    rw [← e r i hr hi, ← e r j hr (by omega), ← e _ j h1 (by omega), ← e _ i h2 hi]; exact h.ch r i j hr hi hj⟩
theorem qgB_mk {n : Nat} {t : Nat → Nat → Int} : qgB (mkT n t) = true ↔ (1 ≤ n ∧ n ≤ 36) ∧ Qg n t := by
  rw [qgB_iff, mkT_len]
  constructor
  · rintro ⟨h1, _, h2⟩
    exact ⟨h1, h2.congr fun i j hi hj => tb_mk hi hj⟩
  · rintro ⟨h1, h2⟩
    exact ⟨h1, fun i hi => mkT_rowlen n t i hi, h2.congr fun i j hi hj => (tb_mk hi hj).symm⟩
theorem ta_tb {x : List (List Int)} (hq : Qg x.length (tb x)) : (swB x && chB x) = true ↔ Ta x.length (tb x) := by
  rw [Bool.and_eq_true, swB_iff, chB_iff]
  exact ⟨fun h => ⟨hq, h.1, h.2⟩, fun h => ⟨h.sw, h.ch⟩⟩
theorem taB_iff {x : List (List Int)} : taB x = true ↔ (1 ≤ x.length ∧ x.length ≤ 36) ∧ (∀ i, i < x.length → (rowAt x i).length = x.length) ∧ Ta x.length (tb x) := by
  unfold taB
  rw [Bool.and_eq_true, qgB_iff]
  constructor
  · rintro ⟨⟨h1, h2, h3⟩, h4⟩; exact ⟨h1, h2, (ta_tb h3).1 h4⟩
  · rintro ⟨h1, h2, h3⟩; exact ⟨⟨h1, h2, h3.q⟩, (ta_tb h3.q).2 h3⟩
theorem taB_mk {n : Nat} {t : Nat → Nat → Int} : taB (mkT n t) = true ↔ (1 ≤ n ∧ n ≤ 36) ∧ Ta n t := by
  rw [taB_iff, mkT_len]
  constructor
  · rintro ⟨h1, _, h2⟩
    exact ⟨h1, h2.congr fun i j hi hj => tb_mk hi hj⟩
  · rintro ⟨h1, h2⟩
    exact ⟨h1, fun i hi => mkT_rowlen n t i hi, h2.congr fun i j hi hj => (tb_mk hi hj).symm⟩
theorem ta_mk {n : Nat} {t : Nat → Nat → Int} (hq : Qg n t) : (swB (mkT n t) && chB (mkT n t)) = true ↔ Ta n t := by
  have hq' : Qg (mkT n t).length (tb (mkT n t)) := by rw [mkT_len]; exact hq.congr fun i j hi hj => (tb_mk hi hj).symm
  rw [ta_tb hq', mkT_len]
  exact ⟨fun h => h.congr fun i j hi hj => tb_mk hi hj, fun h => h.congr fun i j hi hj => (tb_mk hi hj).symm⟩
/-- The first p numbers, row by row, are the same. -/
def Agr (n p : Nat) (t u : Nat → Nat → Int) : Prop := ∀ i j, i < n → j < n → i * n + j < p → t i j = u i j
theorem Agr.refl (n p : Nat) (t : Nat → Nat → Int) : Agr n p t t := fun _ _ _ _ _ => rfl
theorem Agr.symm {n p : Nat} {t u : Nat → Nat → Int} (h : Agr n p t u) : Agr n p u t := fun i j a b c => (h i j a b c).symm
theorem Agr.trans {n p : Nat} {t u v : Nat → Nat → Int} (h : Agr n p t u) (k : Agr n p u v) : Agr n p t v := fun i j a b c => (h i j a b c).trans (k i j a b c)
theorem Agr.mono {n p q : Nat} {t u : Nat → Nat → Int} (h : Agr n p t u) (hq : q ≤ p) : Agr n q t u := fun i j a b c => h i j a b (by omega)
structure Compl (n p : Nat) (t u : Nat → Nat → Int) : Prop where
  ta : Ta n u
  ag : Agr n p t u
theorem pos_lt {n x y : Nat} (hx : x < n) (hy : y < n) : x * n + y < n * n := by
  have := Nat.mul_le_mul_right n (show x + 1 ≤ n from hx)
  rw [Nat.succ_mul] at this; omega
theorem pos_inj {n y z j q : Nat} (hz : z < n) (hq : q < n) (h : y * n + z = j * n + q) : y = j ∧ z = q := by
  rcases Nat.lt_trichotomy y j with h1 | h1 | h1
  · have := Nat.mul_le_mul_right n (show y + 1 ≤ j from h1)
    rw [Nat.succ_mul] at this; omega
  · subst h1; omega
  · have := Nat.mul_le_mul_right n (show j + 1 ≤ y from h1)
    rw [Nat.succ_mul] at this; omega
/-- What lies before (x, y): the rows above, and the numbers to the left. -/
theorem pos_before {n x y i j : Nat} (hj : j < n) (hy : y < n) : i * n + j < x * n + y ↔ i < x ∨ (i = x ∧ j < y) := by
  rcases Nat.lt_trichotomy i x with h1 | h1 | h1
  · have := Nat.mul_le_mul_right n (show i + 1 ≤ x from h1)
    rw [Nat.succ_mul] at this; omega
  · subst h1; omega
  · have := Nat.mul_le_mul_right n (show x + 1 ≤ i from h1)
    rw [Nat.succ_mul] at this; omega
theorem Agr.full {n : Nat} {t u : Nat → Nat → Int} (h : Agr n (n * n) t u) : ∀ i j, i < n → j < n → t i j = u i j := fun i j hi hj => h i j hi hj (pos_lt hi hj)
theorem agr_upd {n x y : Nat} (t : Nat → Nat → Int) (z : Int) (hy : y < n) : Agr n (x * n + y) t (upd t x y z) := fun i j hi hj h => by
  rw [upd_other]
  rw [pos_before hj hy] at h; omega
/-- One number more. -/
theorem compl_step {n x y : Nat} {t u : Nat → Nat → Int} {z : Int} (hx : x < n) (hy : y < n) : Compl n (x * n + y + 1) (upd t x y z) u ↔ Compl n (x * n + y) t u ∧ u x y = z := by
  constructor
  · intro h
    refine ⟨⟨h.ta, (agr_upd t z hy).trans (h.ag.mono (Nat.le_succ _))⟩, ?_⟩
    have := h.ag x y hx hy (Nat.lt_succ_self _)
    rw [upd_same] at this; exact this.symm
  · rintro ⟨h, e⟩
    refine ⟨h.ta, fun i j hi hj hp => ?_⟩
    by_cases hp2 : i * n + j = x * n + y
    · obtain ⟨rfl, rfl⟩ := pos_inj hj hy hp2
      rw [upd_same, e]
    · have hlt : i * n + j < x * n + y := by omega
      rw [← agr_upd t z hy i j hi hj hlt]
      exact h.ag i j hi hj hlt
theorem Compl.of_agr {n p : Nat} {t t' u : Nat → Nat → Int} (h : Compl n p t u) (a : Agr n p t t') : Compl n p t' u := ⟨h.ta, a.symm.trans h.ag⟩
/-- The first p numbers are below n, none twice in a row or a column. -/
def Vp (n p : Nat) (t : Nat → Nat → Int) : Prop := ∀ i j, i < n → j < n → i * n + j < p → (0 ≤ t i j ∧ t i j < n) ∧ (∀ c, c < j → t i c ≠ t i j) ∧ ∀ c, c < i → t c j ≠ t i j
theorem Vp.zero (n : Nat) (t : Nat → Nat → Int) : Vp n 0 t := fun _ _ _ _ h => by omega
theorem Vp.full {n : Nat} {t : Nat → Nat → Int} (h : Vp n (n * n) t) : Qg n t :=
  ⟨fun i j hi hj => (h i j hi hj (pos_lt hi hj)).1, fun i j k hi hj hk => (h i k hi hk (pos_lt hi hk)).2.1 j hj, fun i j k hi hj hk => (h k i hk hi (pos_lt hk hi)).2.2 j hj⟩
theorem Vp.agr {n p : Nat} {t u : Nat → Nat → Int} (h : Vp n p t) (a : Agr n p t u) : Vp n p u := fun i j hi hj hp => by
  obtain ⟨h1, h2, h3⟩ := h i j hi hj hp
  have hl : ∀ c, c < j → i * n + c < p := fun c hc => by omega
  have hu : ∀ c, c < i → c * n + j < p := fun c hc => by
    have := Nat.mul_le_mul_right n (Nat.le_of_lt hc); omega
  rw [← a i j hi hj hp]
  exact ⟨h1, fun c hc => by rw [← a i c hi (by omega) (hl c hc)]; exact h2 c hc, fun c hc => by rw [← a c j (by omega) hj (hu c hc)]; exact h3 c hc⟩
/-- z may stand at (x, y). -/
def Free (n : Nat) (t : Nat → Nat → Int) (x y : Nat) (z : Int) : Prop := (∀ c, c < x → t c y ≠ z) ∧ (∀ c, c < y → t x c ≠ z) ∧ (y < x → t y x ≠ z)
theorem Vp.step {n x y : Nat} {t : Nat → Nat → Int} {z : Int} (hx : x < n) (hy : y < n) (h : Vp n (x * n + y) t) (hz : 0 ≤ z ∧ z < n) (h1 : ∀ c, c < x → t c y ≠ z) (h2 : ∀ c, c < y → t x c ≠ z) : Vp n (x * n + y + 1) (upd t x y z) := by
  have h' := h.agr (agr_upd t z hy)
  intro i j hi hj hp
  by_cases e : i * n + j = x * n + y
  · obtain ⟨rfl, rfl⟩ := pos_inj hj hy e
    rw [upd_same]
    exact ⟨hz, fun c hc => by rw [upd_other _ _ (by omega)]; exact h2 c hc, fun c hc => by rw [upd_other _ _ (by omega)]; exact h1 c hc⟩
  · exact h' i j hi hj (by omega)
theorem Compl.free {n x y : Nat} {t u : Nat → Nat → Int} (hx : x < n) (hy : y < n) (h : Compl n (x * n + y) t u) : Free n t x y (u x y) := by
  refine ⟨fun c hc => ?_, fun c hc => ?_, fun hyx => ?_⟩
  · rw [h.ag c y (by omega) hy ((pos_before hy hy).2 (.inl hc))]; exact h.ta.q.col y c x hy hc hx
  · rw [h.ag x c hx (by omega) ((pos_before (by omega) hy).2 (.inr ⟨rfl, hc⟩))]; exact h.ta.q.row x c y hx hc hy
  · rw [h.ag y x hy hx ((pos_before hx hy).2 (.inl hyx))]; exact fun e => h.ta.sw x y hx hyx e.symm
theorem pw_bd {n q : Nat} (hn : n ≤ 5) (hq : q ≤ n * n) : n ^ q ≤ 298023223876953125 := by
  have h25 : n * n ≤ 25 := Nat.le_trans (Nat.mul_le_mul hn hn) (by decide)
  calc n ^ q ≤ 5 ^ q := Nat.pow_le_pow_left hn q
    _ ≤ 5 ^ 25 := Nat.pow_le_pow_right (by decide) (by omega)
    _ = 298023223876953125 := by decide
theorem pw_succ {n p : Nat} (h : p < n * n) : n ^ (n * n - p) = n * n ^ (n * n - (p + 1)) := by
  rw [show n * n - p = (n * n - (p + 1)) + 1 by omega, Nat.pow_succ, Nat.mul_comm]
end Go.Proofs.Ythcnhkjiojeemaa
