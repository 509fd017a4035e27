/- Products of quasigroups, in plain numbers. -/
import Derived.Test.YthcnhkjiojeemaaSchM
namespace Go.Proofs.Ythcnhkjiojeemaa
open Go.RowKit

structure QN (n : Nat) (a : Nat → Nat → Nat) : Prop where
  bd : ∀ i j, i < n → j < n → a i j < n
  row : ∀ i j k, i < n → j < n → k < n → a i j = a i k → j = k
  col : ∀ i j k, i < n → j < n → k < n → a j i = a k i → j = k
structure TN (n : Nat) (a : Nat → Nat → Nat) : Prop where
  sw : ∀ i j, i < n → j < n → a i j = a j i → i = j
  ch : ∀ r i j, r < n → i < n → j < n → a (a r i) j = a (a r j) i → i = j
def nf (t : Nat → Nat → Int) : Nat → Nat → Nat := fun i j => (t i j).toNat
theorem Qg.eq {n : Nat} {t : Nat → Nat → Int} (h : Qg n t) {i j : Nat} (hi : i < n) (hj : j < n) : t i j = (nf t i j : Int) := by
  have := h.bd i j hi hj
  unfold nf; omega
theorem Qg.qn {n : Nat} {t : Nat → Nat → Int} (h : Qg n t) : QN n (nf t) := by
  refine ⟨fun i j hi hj => h.nat hi hj, fun i j k hi hj hk e => ?_, fun i j k hi hj hk e => ?_⟩
  · have e1 : t i j = t i k := by rw [h.eq hi hj, h.eq hi hk, e]
    rcases Nat.lt_trichotomy j k with h1 | h1 | h1
    · exact absurd e1 (h.row i j k hi h1 hk)
    · exact h1
    · exact absurd e1.symm (h.row i k j hi h1 hj)
  · have e1 : t j i = t k i := by rw [h.eq hj hi, h.eq hk hi, e]
    rcases Nat.lt_trichotomy j k with h1 | h1 | h1
    · exact absurd e1 (h.col i j k hi h1 hk)
    · exact h1
    · exact absurd e1.symm (h.col i k j hi h1 hj)
theorem QN.qg {n : Nat} {t : Nat → Nat → Int} (he : ∀ i j, i < n → j < n → t i j = (nf t i j : Int)) (h : QN n (nf t)) : Qg n t := by
  refine ⟨fun i j hi hj => ?_, fun i j k hi hj hk e => ?_, fun i j k hi hj hk e => ?_⟩
  · have := h.bd i j hi hj
    rw [he i j hi hj]; omega
  · have := h.row i j k hi (by omega) hk (by unfold nf; rw [e])
    omega
  · have := h.col i j k hi (by omega) hk (by unfold nf; rw [e])
    omega
theorem ta_tn {n : Nat} {t : Nat → Nat → Int} (q : Qg n t) : Ta n t ↔ TN n (nf t) := by
  have qn := q.qn
  constructor
  · intro h
    refine ⟨fun i j hi hj e => ?_, fun r i j hr hi hj e => ?_⟩
    · have e1 : t i j = t j i := by rw [q.eq hi hj, q.eq hj hi, e]
      rcases Nat.lt_trichotomy i j with h1 | h1 | h1
      · exact absurd e1.symm (h.sw j i hj h1)
      · exact h1
      · exact absurd e1 (h.sw i j hi h1)
    · have e1 : t (t r i).toNat j = t (t r j).toNat i := by
        have b1 := qn.bd r i hr hi
        have b2 := qn.bd r j hr hj
        show t (nf t r i) j = t (nf t r j) i
        rw [q.eq b1 hj, q.eq b2 hi, e]
      rcases Nat.lt_trichotomy i j with h1 | h1 | h1
      · exact absurd e1.symm (h.ch r j i hr hj h1)
      · exact h1
      · exact absurd e1 (h.ch r i j hr hi h1)
  · intro h
    refine ⟨q, fun i j hi hj e => ?_, fun r i j hr hi hj e => ?_⟩
    · have := h.sw i j hi (by omega) (by unfold nf; rw [e])
      omega
    · have e2 : t (nf t r i) j = t (nf t r j) i := e
      have := h.ch r i j hr hi (by omega) (by
        show (t (nf t r i) j).toNat = (t (nf t r j) i).toNat
        rw [e2])
      omega
/-- The product. -/
def prd (m : Nat) (a b : Nat → Nat → Nat) : Nat → Nat → Nat := fun i j => a (i / m) (j / m) * m + b (i % m) (j % m)
section
variable {n m : Nat} {a b : Nat → Nat → Nat}
theorem pr_div (p : Nat) {q : Nat} (hq : q < m) : (p * m + q) / m = p := by
  rw [Nat.mul_comm, Nat.mul_add_div (by omega), Nat.div_eq_of_lt hq, Nat.add_zero]
theorem pr_mod (p : Nat) {q : Nat} (hq : q < m) : (p * m + q) % m = q := by
  rw [Nat.mul_comm, Nat.mul_add_mod, Nat.mod_eq_of_lt hq]
theorem pr_lt {p q : Nat} (hp : p < n) (hq : q < m) : p * m + q < n * m := by
  have := Nat.mul_le_mul_right m (show p + 1 ≤ n from hp)
  rw [Nat.succ_mul] at this; omega
theorem pr_ext {i j : Nat} (h1 : i / m = j / m) (h2 : i % m = j % m) : i = j := by
  have e1 := Nat.div_add_mod i m
  have e2 := Nat.div_add_mod j m
  rw [h1, h2] at e1; omega
theorem pr_parts (hm : 1 ≤ m) {i : Nat} (hi : i < n * m) : i / m < n ∧ i % m < m := ⟨(Nat.div_lt_iff_lt_mul (by omega)).2 hi, Nat.mod_lt _ (by omega)⟩
theorem prd_parts (hm : 1 ≤ m) (ha : QN n a) (hb : QN m b) {i j : Nat} (hi : i < n * m) (hj : j < n * m) : prd m a b i j < n * m ∧ prd m a b i j / m = a (i / m) (j / m) ∧ prd m a b i j % m = b (i % m) (j % m) := by
  obtain ⟨i1, i2⟩ := pr_parts hm hi
  obtain ⟨j1, j2⟩ := pr_parts hm hj
  have h1 := ha.bd _ _ i1 j1
  have h2 := hb.bd _ _ i2 j2
  exact ⟨pr_lt h1 h2, pr_div _ h2, pr_mod _ h2⟩
theorem prd_qn (hm : 1 ≤ m) (ha : QN n a) (hb : QN m b) : QN (n * m) (prd m a b) := by
  refine ⟨fun i j hi hj => (prd_parts hm ha hb hi hj).1, fun i j k hi hj hk e => ?_, fun i j k hi hj hk e => ?_⟩
  · obtain ⟨_, d1, d2⟩ := prd_parts hm ha hb hi hj
    obtain ⟨_, d3, d4⟩ := prd_parts hm ha hb hi hk
    rw [e] at d1 d2
    obtain ⟨i1, i2⟩ := pr_parts hm hi
    obtain ⟨j1, j2⟩ := pr_parts hm hj
    obtain ⟨k1, k2⟩ := pr_parts hm hk
    exact pr_ext (ha.row _ _ _ i1 j1 k1 (d1.symm.trans d3)) (hb.row _ _ _ i2 j2 k2 (d2.symm.trans d4))
  · obtain ⟨_, d1, d2⟩ := prd_parts hm ha hb hj hi
    obtain ⟨_, d3, d4⟩ := prd_parts hm ha hb hk hi
    rw [e] at d1 d2
    obtain ⟨i1, i2⟩ := pr_parts hm hi
    obtain ⟨j1, j2⟩ := pr_parts hm hj
    obtain ⟨k1, k2⟩ := pr_parts hm hk
    exact pr_ext (ha.col _ _ _ i1 j1 k1 (d1.symm.trans d3)) (hb.col _ _ _ i2 j2 k2 (d2.symm.trans d4))
theorem prd_tn (hn : 1 ≤ n) (hm : 1 ≤ m) (ha : QN n a) (hb : QN m b) : TN (n * m) (prd m a b) ↔ TN n a ∧ TN m b := by
  have ev : ∀ {p q p' q' : Nat}, q < m → q' < m → prd m a b (p * m + q) (p' * m + q') = a p p' * m + b q q' := fun hq hq' => by
    unfold prd; rw [pr_div _ hq, pr_div _ hq', pr_mod _ hq, pr_mod _ hq']
  constructor
  · intro h
    have hz : 0 < m := hm
    have hzn : 0 < n := hn
    have b0 : b 0 0 < m := hb.bd 0 0 hz hz
    refine ⟨⟨fun i j hi hj e => ?_, fun r i j hr hi hj e => ?_⟩, ⟨fun i j hi hj e => ?_, fun r i j hr hi hj e => ?_⟩⟩
    · have x1 := ev (p := i) (p' := j) hz hz
      have x2 := ev (p := j) (p' := i) hz hz
      have := h.sw (i * m + 0) (j * m + 0) (pr_lt hi hz) (pr_lt hj hz) (by rw [x1, x2, e])
      have h2 : (i * m + 0) / m = (j * m + 0) / m := by rw [this]
      rwa [pr_div _ hz, pr_div _ hz] at h2
    · have x1 := ev (p := r) (p' := i) hz hz
      have x2 := ev (p := r) (p' := j) hz hz
      have x3 := ev (p := a r i) (p' := j) b0 hz
      have x4 := ev (p := a r j) (p' := i) b0 hz
      have := h.ch (r * m + 0) (i * m + 0) (j * m + 0) (pr_lt hr hz) (pr_lt hi hz) (pr_lt hj hz) (by rw [x1, x2, x3, x4, e])
      have h2 : (i * m + 0) / m = (j * m + 0) / m := by rw [this]
      rwa [pr_div _ hz, pr_div _ hz] at h2
    · have x1 := ev (p := 0) (p' := 0) hi hj
      have x2 := ev (p := 0) (p' := 0) hj hi
      have := h.sw (0 * m + i) (0 * m + j) (pr_lt hzn hi) (pr_lt hzn hj) (by rw [x1, x2, e])
      have h2 : (0 * m + i) % m = (0 * m + j) % m := by rw [this]
      rwa [pr_mod _ hi, pr_mod _ hj] at h2
    · have b1 := hb.bd r i hr hi
      have b2 := hb.bd r j hr hj
      have x1 := ev (p := 0) (p' := 0) hr hi
      have x2 := ev (p := 0) (p' := 0) hr hj
      have x3 := ev (p := a 0 0) (p' := 0) b1 hj
      have x4 := ev (p := a 0 0) (p' := 0) b2 hi
      have := h.ch (0 * m + r) (0 * m + i) (0 * m + j) (pr_lt hzn hr) (pr_lt hzn hi) (pr_lt hzn hj) (by rw [x1, x2, x3, x4, e])
      have h2 : (0 * m + i) % m = (0 * m + j) % m := by rw [this]
      rwa [pr_mod _ hi, pr_mod _ hj] at h2
  · rintro ⟨h1, h2⟩
    refine ⟨fun i j hi hj e => ?_, fun r i j hr hi hj e => ?_⟩
    · obtain ⟨_, d1, d2⟩ := prd_parts hm ha hb hi hj
      obtain ⟨_, d3, d4⟩ := prd_parts hm ha hb hj hi
      rw [e] at d1 d2
      obtain ⟨i1, i2⟩ := pr_parts hm hi
      obtain ⟨j1, j2⟩ := pr_parts hm hj
      exact pr_ext (h1.sw _ _ i1 j1 (d1.symm.trans d3)) (h2.sw _ _ i2 j2 (d2.symm.trans d4))
    · obtain ⟨b1, d1, d2⟩ := prd_parts hm ha hb hr hi
      obtain ⟨b2, d3, d4⟩ := prd_parts hm ha hb hr hj
      obtain ⟨_, d5, d6⟩ := prd_parts hm ha hb b1 hj
      obtain ⟨_, d7, d8⟩ := prd_parts hm ha hb b2 hi
      rw [e] at d5 d6
      rw [d1] at d5
      rw [d2] at d6
      rw [d3] at d7
      rw [d4] at d8
      obtain ⟨i1, i2⟩ := pr_parts hm hi
      obtain ⟨j1, j2⟩ := pr_parts hm hj
      obtain ⟨r1, r2⟩ := pr_parts hm hr
      exact pr_ext (h1.ch _ _ _ r1 i1 j1 (d5.symm.trans d7)) (h2.ch _ _ _ r2 i2 j2 (d6.symm.trans d8))
end
/-- The product's numbers, as the program reckons them. -/
def prI (m : Nat) (s t : Nat → Nat → Int) : Nat → Nat → Int := fun i j => s (i / m) (j / m) * m + t (i % m) (j % m)
theorem prI_eq {n m : Nat} {s t : Nat → Nat → Int} (hm : 1 ≤ m) (hs : Qg n s) (ht : Qg m t) {i j : Nat} (hi : i < n * m) (hj : j < n * m) : prI m s t i j = (prd m (nf s) (nf t) i j : Int) := by
  obtain ⟨i1, i2⟩ := pr_parts hm hi
  obtain ⟨j1, j2⟩ := pr_parts hm hj
  unfold prI prd
  rw [hs.eq i1 j1, ht.eq i2 j2]; push_cast; rfl
theorem prI_qg {n m : Nat} {s t : Nat → Nat → Int} (hn : 1 ≤ n) (hm : 1 ≤ m) (hs : Qg n s) (ht : Qg m t) : Qg (n * m) (prI m s t) ∧ (Ta (n * m) (prI m s t) ↔ Ta n s ∧ Ta m t) := by
  have q0 : QN (n * m) (prd m (nf s) (nf t)) := prd_qn hm hs.qn ht.qn
  have e0 : ∀ i j, i < n * m → j < n * m → nf (prI m s t) i j = prd m (nf s) (nf t) i j := fun i j hi hj => by
    unfold nf at *
    have := prI_eq hm hs ht hi hj
    unfold nf at this
    rw [this]; simp
  have q1 : QN (n * m) (nf (prI m s t)) := ⟨fun i j hi hj => by rw [e0 i j hi hj]; exact q0.bd i j hi hj, fun i j k hi hj hk e => by rw [e0 i j hi hj, e0 i k hi hk] at e; exact q0.row i j k hi hj hk e,
    fun i j k hi hj hk e => by rw [e0 j i hj hi, e0 k i hk hi] at e; exact q0.col i j k hi hj hk e⟩
  have qg : Qg (n * m) (prI m s t) := QN.qg (fun i j hi hj => by rw [prI_eq hm hs ht hi hj, e0 i j hi hj]) q1
  refine ⟨qg, ?_⟩
  rw [ta_tn qg, ta_tn hs, ta_tn ht, ← prd_tn hn hm hs.qn ht.qn]
  constructor
  · intro h
    refine ⟨fun i j hi hj e => h.sw i j hi hj (by rw [e0 i j hi hj, e0 j i hj hi, e]), fun r i j hr hi hj e => h.ch r i j hr hi hj ?_⟩
    rw [e0 r i hr hi, e0 r j hr hj, e0 _ j (q0.bd r i hr hi) hj, e0 _ i (q0.bd r j hr hj) hi, e]
  · intro h
    refine ⟨fun i j hi hj e => h.sw i j hi hj (by rw [← e0 i j hi hj, ← e0 j i hj hi, e]), fun r i j hr hi hj e => h.ch r i j hr hi hj ?_⟩
    rw [e0 r i hr hi, e0 r j hr hj, e0 _ j (q0.bd r i hr hi) hj, e0 _ i (q0.bd r j hr hj) hi] at e
    exact e
end Go.Proofs.Ythcnhkjiojeemaa
