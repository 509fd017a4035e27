/- Groups in plain numbers: powers, orders. -/
import Derived.Test.YtghmpaegmicheaaGrp3
namespace Go.Proofs.Ytghmpaegmicheaa
open Go.RowKit

/-- The product of two elements. -/
def mul (x : List (List Int)) (a b : Nat) : Nat := (tb x a b).toNat
def one (x : List (List Int)) : Nat := (idn x).toNat
/-- What is known of a group. -/
structure Gp (x : List (List Int)) : Prop where
  sq : sqB x = true
  n : 1 ≤ x.length ∧ x.length ≤ 10
  one_lt : one x < x.length
  idn_eq : idn x = (one x : Int)
  tb_eq : ∀ a b, a < x.length → b < x.length → tb x a b = (mul x a b : Int)
  lt : ∀ a b, a < x.length → b < x.length → mul x a b < x.length
  one_mul : ∀ a, a < x.length → mul x (one x) a = a
  mul_one : ∀ a, a < x.length → mul x a (one x) = a
  assoc : ∀ a b c, a < x.length → b < x.length → c < x.length → mul x (mul x a b) c = mul x a (mul x b c)
  inv : ∀ a, a < x.length → ∃ b, b < x.length ∧ mul x a b = one x ∧ mul x b a = one x ∧ inv x (idn x) a = (b : Int)
theorem Gp.of {x : List (List Int)} (h : grpB x = true) : Gp x := by
  obtain ⟨hs, hi, hr⟩ := grpB_iff.1 h
  obtain ⟨hn, _⟩ := sqB_iff.1 hs
  obtain ⟨e, he, hea, hee⟩ := fst1_ok (n := x.length) (p := fun e => allN x.length (idAt x e)) hi
  have hee' : idn x = (e : Int) := hee
  have h1 : one x = e := by unfold one; rw [hee']; simp
  have hea' := allN_iff.1 hea
  have htb : ∀ a b, a < x.length → b < x.length → tb x a b = (mul x a b : Int) := fun a b ha hb => by
    have := tb_bd hs a b ha hb
    unfold mul; omega
  have hlt : ∀ a b, a < x.length → b < x.length → mul x a b < x.length := fun a b ha hb => by
    have := tb_bd hs a b ha hb
    unfold mul; omega
  have hid : ∀ a, a < x.length → tb x e a = (a : Int) ∧ tb x a e = (a : Int) := fun a ha => by
    have := hea' a ha
    unfold idAt at this
    simpa using this
  refine ⟨hs, hn, by omega, by rw [h1, hee'], htb, hlt, fun a ha => ?_, fun a ha => ?_, fun a b c ha hb hc => ?_, fun a ha => ?_⟩
  · rw [h1]; unfold mul; rw [(hid a ha).1]; simp
  · rw [h1]; unfold mul; rw [(hid a ha).2]; simp
  · have h2 := hr a ha
    unfold grpR at h2
    rw [Bool.and_eq_true, allN_iff] at h2
    have h3 := h2.2 b hb
    unfold ascR at h3
    rw [allN_iff] at h3
    have h4 := h3 c hc
    unfold asc at h4
    have h5 := of_decide_eq_true h4
    show (tb x (mul x a b) c).toNat = (tb x a (mul x b c)).toNat
    unfold mul; rw [h5]
  · have h2 := hr a ha
    unfold grpR at h2
    rw [Bool.and_eq_true, decide_eq_true_eq] at h2
    obtain ⟨b, hb, hba, hbe⟩ := fst1_ok (n := x.length) (p := invAt x (idn x) a) h2.1
    unfold invAt at hba
    simp only [Bool.and_eq_true, decide_eq_true_eq] at hba
    refine ⟨b, hb, ?_, ?_, hbe⟩
    · unfold mul; rw [hba.1]; rfl
    · unfold mul; rw [hba.2]; rfl
/-- The power of an element. -/
def pw (x : List (List Int)) (a : Nat) : Nat → Nat
  | 0 => one x
  | m + 1 => mul x (pw x a m) a
theorem pigeon (f : Nat → Nat) (n : Nat) (hf : ∀ i, f i < n) : ∃ i j, i < j ∧ j ≤ n ∧ f i = f j := by
  induction n generalizing f with
  | zero => exact absurd (hf 0) (by omega)
  | succ n ih =>
    by_cases h : ∃ i, i < n + 1 ∧ f i = f (n + 1)
    · obtain ⟨i, hi, he⟩ := h
      exact ⟨i, n + 1, hi, by omega, he⟩
    · have hne : ∀ i, i < n + 1 → f i ≠ f (n + 1) := fun i hi he => h ⟨i, hi, he⟩
      have hl := hf (n + 1)
      obtain ⟨i, j, hij, hj, he⟩ := ih (fun i => if i < n + 1 then (if f i = n then f (n + 1) else f i) else 0) (fun i => by
        by_cases hi : i < n + 1
        · have h1 := hne i hi
          have h2 := hf i
          simp only [hi, if_true]
          split <;> omega
        · simp only [hi, if_false]
          by_cases hn : n = 0
          · subst hn
            have h1 := hne 0 (by omega)
            have h2 := hf 0
            omega
          · omega)
      refine ⟨i, j, hij, by omega, ?_⟩
      have hi : i < n + 1 := by omega
      have hj' : j < n + 1 := by omega
      simp only [hi, hj', if_true] at he
      have h1 := hne i hi
      have h2 := hne j hj'
      split at he <;> split at he <;> omega
section
variable {x : List (List Int)} (G : Gp x)
include G
theorem Gp.cancel (a b c : Nat) (ha : a < x.length) (hb : b < x.length) (hc : c < x.length) (h : mul x a c = mul x b c) : a = b := by
  obtain ⟨d, hd, h1, _⟩ := G.inv c hc
  have h2 : mul x (mul x a c) d = mul x (mul x b c) d := by rw [h]
  rw [G.assoc a c d ha hc hd, G.assoc b c d hb hc hd, h1, G.mul_one a ha, G.mul_one b hb] at h2
  exact h2
theorem Gp.pw_lt (a : Nat) (ha : a < x.length) : ∀ m, pw x a m < x.length
  | 0 => G.one_lt
  | m + 1 => G.lt _ _ (Gp.pw_lt a ha m) ha
theorem Gp.pw_one (a : Nat) (ha : a < x.length) : pw x a 1 = a := G.one_mul a ha
theorem Gp.pw_add (a : Nat) (ha : a < x.length) (i : Nat) : ∀ j, pw x a (i + j) = mul x (pw x a i) (pw x a j)
  | 0 => (G.mul_one _ (G.pw_lt a ha i)).symm
  | j + 1 => by
    show mul x (pw x a (i + j)) a = mul x (pw x a i) (mul x (pw x a j) a)
    rw [Gp.pw_add a ha i j, G.assoc _ _ _ (G.pw_lt a ha i) (G.pw_lt a ha j) ha]
theorem Gp.pw_sub (a : Nat) (ha : a < x.length) : ∀ i d, pw x a i = pw x a (i + d) → pw x a d = one x
  | 0, d, h => by rw [Nat.zero_add] at h; exact h.symm
  | i + 1, d, h => by
    refine Gp.pw_sub a ha i d ?_
    rw [show i + 1 + d = (i + d) + 1 by omega] at h
    exact G.cancel _ _ a (G.pw_lt a ha _) (G.pw_lt a ha _) ha h
theorem Gp.pw_back (a : Nat) (ha : a < x.length) : ∃ d, 1 ≤ d ∧ d ≤ x.length ∧ pw x a d = one x := by
  obtain ⟨i, j, h1, h2, h3⟩ := pigeon (pw x a) x.length (G.pw_lt a ha)
  refine ⟨j - i, by omega, by omega, G.pw_sub a ha i (j - i) ?_⟩
  rw [h3]; congr 1; omega
omit G
/-- The order of an element, one less. -/
def ordP (x : List (List Int)) (a : Nat) : Int := fst1 x.length fun d => decide (pw x a (d + 1) = one x)
def ord (x : List (List Int)) (a : Nat) : Nat := (ordP x a).toNat + 1
include G
theorem Gp.ord_is (a : Nat) (ha : a < x.length) : 1 ≤ ord x a ∧ ord x a ≤ x.length ∧ pw x a (ord x a) = one x ∧ ∀ d, 1 ≤ d → d < ord x a → pw x a d ≠ one x := by
  obtain ⟨d, h1, h2, h3⟩ := G.pw_back a ha
  rcases fst1_cases x.length (fun d => decide (pw x a (d + 1) = one x)) with ⟨k, k1, k2, k3, k4⟩ | ⟨_, k⟩
  · have e : ord x a = k + 1 := by unfold ord ordP; rw [k3]; simp
    rw [e]
    refine ⟨by omega, by omega, by simpa using k2, fun q q1 q2 => ?_⟩
    have := k4 (q - 1) (by omega)
    rw [show q - 1 + 1 = q by omega] at this
    simpa using this
  · have := k (d - 1) (by omega)
    rw [show d - 1 + 1 = d by omega] at this
    simp [h3] at this
theorem Gp.pw_mul_ord (a : Nat) (ha : a < x.length) : ∀ q, pw x a (ord x a * q) = one x
  | 0 => rfl
  | q + 1 => by
    rw [Nat.mul_succ, G.pw_add a ha, Gp.pw_mul_ord a ha q, (G.ord_is a ha).2.2.1, G.one_mul _ G.one_lt]
theorem Gp.pw_mod (a : Nat) (ha : a < x.length) (m : Nat) : pw x a (m % ord x a) = pw x a m := by
  conv => rhs; rw [← Nat.div_add_mod m (ord x a), G.pw_add a ha, G.pw_mul_ord a ha, G.one_mul _ (G.pw_lt a ha _)]
theorem Gp.pw_sq (a : Nat) (ha : a < x.length) : ∀ m, pw x (mul x a a) m = pw x a (2 * m)
  | 0 => rfl
  | m + 1 => by
    show mul x (pw x (mul x a a) m) (mul x a a) = pw x a (2 * m + 2)
    have h2 : pw x a 2 = mul x a a := by show mul x (pw x a 1) a = _; rw [G.pw_one a ha]
    rw [Gp.pw_sq a ha m, G.pw_add a ha (2 * m) 2, h2]
end
end Go.Proofs.Ytghmpaegmicheaa
