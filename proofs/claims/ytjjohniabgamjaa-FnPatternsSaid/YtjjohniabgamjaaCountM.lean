/- How many patterns there are, in plain numbers: for at most 10 elements and greatest elements up to 4. -/
import Derived.Test.YtjjohniabgamjaaCount
namespace Go.Proofs.Ytjjohniabgamjaa
open Go.RowKit

/-- A list as a function of its indices. -/
def lf (n : Nat) (f : Nat → Int) : List Int := (List.range n).map f
theorem lf_len (n : Nat) (f : Nat → Int) : (lf n f).length = n := by simp [lf]
theorem lf_get (n : Nat) (f : Nat → Int) (i : Nat) (h : i < n) : (lf n f).getD i 0 = f i := by simp [lf, h]
theorem lf_ext {n : Nat} {f g : Nat → Int} (h : ∀ i, i < n → f i = g i) : lf n f = lf n g := by
  unfold lf; exact List.map_congr_left fun i hi => h i (List.mem_range.1 hi)
theorem lf_set (n : Nat) (f : Nat → Int) (p : Nat) (v : Int) (hp : p < n) : (lf n f).set p v = lf n fun i => if i = p then v else f i := by
  apply List.ext_getElem?
  intro i
  by_cases hi : i < n
  · simp only [List.getElem?_set, lf, List.length_map, List.length_range, List.getElem?_map]
    by_cases h : p = i
    · subst h; simp [hi]
    · rw [if_neg h]
      simp [hi, Ne.symm h]
  · simp only [List.getElem?_set, lf, List.length_map, List.length_range, List.getElem?_map]
    by_cases h : p = i
    · omega
    · simp [hi, h]
theorem lf_rep (n : Nat) : List.replicate n (0 : Int) = lf n fun _ => 0 := by
  unfold lf; apply List.ext_getElem?; intro i; by_cases hi : i < n <;> simp [hi]

/-- The number of lists of l numbers from 1 to k with the sum m. -/
def cN (k : Nat) : Nat → Nat → Nat
  | 0, m => if m = 0 then 1 else 0
  | l + 1, m => ((List.range k).map fun j => if j + 1 ≤ m then cN k l (m - (j + 1)) else 0).sum

theorem sum_le {l : List Nat} {f : Nat → Nat} {b : Nat} (h : ∀ j ∈ l, f j ≤ b) : (l.map f).sum ≤ l.length * b := by
  induction l with
  | nil => simp
  | cons a l ih =>
    simp only [List.map_cons, List.sum_cons, List.length_cons, Nat.add_mul, Nat.one_mul]
    have h1 := h a (by simp)
    have h2 := ih fun j hj => h j (by simp [hj])
    omega
theorem cN_le (k : Nat) : ∀ l m, cN k l m ≤ k ^ l
  | 0, m => by unfold cN; split <;> simp
  | l + 1, m => by
    unfold cN
    refine Nat.le_trans (sum_le (b := k ^ l) ?_) ?_
    · intro j _
      split
      · exact cN_le k l _
      · omega
    · simp [Nat.pow_succ, Nat.mul_comm]

/-- The sum over all s' below s of f s' where s' < i ≤ s' + most. -/
def win (f : Nat → Nat) (most i : Nat) : Nat → Nat
  | 0 => 0
  | s + 1 => win f most i s + if s < i ∧ i ≤ s + most then f s else 0
theorem win_le (f : Nat → Nat) (most i b : Nat) (hf : ∀ s, f s ≤ b) : ∀ s, win f most i s ≤ s * b
  | 0 => by simp [win]
  | s + 1 => by
    have h1 := win_le f most i b hf s
    have h2 := hf s
    unfold win
    rw [Nat.add_mul, Nat.one_mul]
    split <;> omega
theorem win_past (f : Nat → Nat) (most i : Nat) : ∀ s, i ≤ s → win f most i s = win f most i i := by
  intro s h
  obtain ⟨d, rfl⟩ := Nat.exists_eq_add_of_le h
  induction d with
  | zero => rfl
  | succ d ih =>
    have h' := ih (by omega)
    rw [show i + (d + 1) = (i + d) + 1 by omega, win, if_neg (by omega), h']
    omega
/-- As a sum over widths. -/
theorem win_widths (f : Nat → Nat) (most i : Nat) : ∀ s, s ≤ i → win f most i s = ((List.range most).map fun j => if j + 1 ≤ i ∧ i - (j + 1) < s then f (i - (j + 1)) else 0).sum := by
  intro s
  induction s with
  | zero => intro _; simp [win, List.map_const', List.sum_replicate_nat]
  | succ s ih =>
    intro hs
    rw [win, ih (by omega)]
    by_cases hc : i ≤ s + most
    · rw [if_pos ⟨by omega, hc⟩]
      -- the width i - s - 1 comes in
      have hj : i - s - 1 < most := by omega
      have split : ∀ (g : Nat → Nat) (n p : Nat), p < n → ((List.range n).map g).sum = g p + ((List.range n).map fun j => if j = p then 0 else g j).sum := by
        intro g n
        induction n with
        | zero => intro p hp; omega
        | succ n ihn =>
          intro p hp
          rw [List.range_succ, List.map_append, List.map_append, List.sum_append, List.sum_append]
          by_cases hpn : p = n
          · subst hpn
            have : (List.map (fun j => if j = p then 0 else g j) (List.range p)) = List.map g (List.range p) :=
              List.map_congr_left fun j hj => by have := List.mem_range.1 hj; rw [if_neg (by omega)]
            rw [this]; simp; omega
          · rw [ihn p (by omega)]; simp [Ne.symm hpn]; omega
      rw [split _ most (i - s - 1) hj, split (fun j => if j + 1 ≤ i ∧ i - (j + 1) < s + 1 then f (i - (j + 1)) else 0) most (i - s - 1) hj]
      have e1 : (if i - s - 1 + 1 ≤ i ∧ i - (i - s - 1 + 1) < s then f (i - (i - s - 1 + 1)) else 0) = 0 := if_neg (by omega)
      have e2 : (if i - s - 1 + 1 ≤ i ∧ i - (i - s - 1 + 1) < s + 1 then f (i - (i - s - 1 + 1)) else 0) = f s := by
        rw [if_pos (by omega), show i - (i - s - 1 + 1) = s by omega]
      rw [e1, e2]
      have e3 : (List.map (fun j => if j = i - s - 1 then 0 else if j + 1 ≤ i ∧ i - (j + 1) < s then f (i - (j + 1)) else 0) (List.range most)) =
          (List.map (fun j => if j = i - s - 1 then 0 else if j + 1 ≤ i ∧ i - (j + 1) < s + 1 then f (i - (j + 1)) else 0) (List.range most)) :=
        List.map_congr_left fun j _ => by
          by_cases h : j = i - s - 1
          · simp [h]
          · rw [if_neg h, if_neg h]
            by_cases h2 : j + 1 ≤ i
            · by_cases h3 : i - (j + 1) < s
              · rw [if_pos ⟨h2, h3⟩, if_pos ⟨h2, by omega⟩]
              · rw [if_neg (by omega), if_neg (by omega)]
            · rw [if_neg (by omega), if_neg (by omega)]
      rw [e3]; omega
    · rw [if_neg (by omega), Nat.add_zero]
      congr 1
      refine List.map_congr_left fun j hj => ?_
      have := List.mem_range.1 hj
      by_cases h3 : i - (j + 1) < s
      · by_cases h2 : j + 1 ≤ i
        · rw [if_pos ⟨h2, h3⟩, if_pos ⟨h2, by omega⟩]
        · rw [if_neg (by omega), if_neg (by omega)]
      · rw [if_neg (by omega), if_neg (by omega)]
theorem cN_win (k l m s : Nat) (h : m ≤ s) : cN k (l + 1) m = win (cN k l) k m s := by
  rw [win_past _ _ _ _ h, win_widths _ _ _ m (Nat.le_refl _), cN]
  congr 1
  refine List.map_congr_left fun j _ => ?_
  by_cases h2 : j + 1 ≤ m
  · rw [if_pos h2, if_pos ⟨h2, by omega⟩]
  · rw [if_neg h2, if_neg (by omega)]

theorem inn_lf (n : Nat) (f : Nat → Nat) (s : Nat) (g : Nat → Nat) (hs : s < n) (hb : ∀ i, g i + f s < 9223372036854775808) :
    ∀ j, s + j < n → inn (lf n fun i => (f i : Int)) s j (lf n fun i => (g i : Int)) = lf n fun i => ((g i + if s < i ∧ i ≤ s + j then f s else 0 : Nat) : Int)
  | 0, _ => by
    rw [inn]; refine lf_ext fun i _ => ?_
    rw [if_neg (by omega)]; simp
  | j + 1, hj => by
    rw [inn, inn_lf n f s g hs hb j (by omega), lf_get _ _ _ hj, lf_get _ _ _ hs, lf_set _ _ _ _ hj]
    refine lf_ext fun i _ => ?_
    by_cases hi : i = s + (j + 1)
    · subst hi
      rw [if_pos rfl, if_neg (by omega), if_pos (by omega)]
      have := hb (s + (j + 1))
      rw [IntWalk.wrap64_in _ (by omega)]
      omega
    · rw [if_neg hi]
      by_cases h2 : s < i ∧ i ≤ s + j
      · rw [if_pos h2, if_pos (by omega)]
      · rw [if_neg h2, if_neg (by omega)]
theorem mid_lf (md most : Nat) (f : Nat → Nat) (b : Nat) (hf : ∀ s, f s ≤ b) (hb : (md + 2) * b < 9223372036854775808) :
    ∀ s, s ≤ md + 1 → mid (lf (md + 1) fun i => (f i : Int)) most md s = lf (md + 1) fun i => (win f most i s : Int)
  | 0, _ => by rw [mid, lf_rep]; rfl
  | s + 1, hs => by
    rw [mid, mid_lf md most f b hf hb s (by omega), inn_lf (md + 1) f s (fun i => win f most i s) (by omega) ?_ _ (by omega)]
    · refine lf_ext fun i hi => ?_
      rw [win]
      by_cases h : s < i ∧ i ≤ s + most
      · rw [if_pos (by omega), if_pos h]
      · rw [if_neg (by omega), if_neg h]
    · intro i
      have h1 := win_le f most i b hf s
      have h2 := hf s
      have h3 : s * b + b ≤ (md + 2) * b := by rw [show s * b + b = (s + 1) * b by rw [Nat.add_mul, Nat.one_mul]]; exact Nat.mul_le_mul_right _ (by omega)
      omega
theorem wayz_lf (md most : Nat) (hm : md ≤ 20) (hk : most ≤ 4) : ∀ l, l ≤ 10 → wayz most md l = lf (md + 1) fun i => (cN most l i : Int)
  | 0, _ => by
    rw [wayz, lf_rep, lf_set _ _ _ _ (by omega)]
    refine lf_ext fun i _ => ?_
    unfold cN; split <;> simp
  | l + 1, hl => by
    rw [wayz, wayz_lf md most hm hk l (by omega), mid_lf md most (cN most l) (4 ^ 10) ?_ ?_ _ (Nat.le_refl _)]
    · refine lf_ext fun i hi => ?_
      rw [cN_win most l i (md + 1) (by omega)]
    · intro s
      exact Nat.le_trans (cN_le most l s) (Nat.le_trans (Nat.pow_le_pow_left hk l) (Nat.pow_le_pow_right (by decide) (by omega)))
    · refine Nat.lt_of_le_of_lt (Nat.mul_le_mul_right _ (show md + 2 ≤ 22 by omega)) (by decide)
theorem cnt_cN (e md most : Nat) (he : e ≤ 10) (hm : md ≤ 20) (hk : most ≤ 4) : cnt e md most = (cN most e md : Int) := by
  rw [cnt, wayz_lf md most hm hk e he, lf_get _ _ _ (by omega)]
end Go.Proofs.Ytjjohniabgamjaa
