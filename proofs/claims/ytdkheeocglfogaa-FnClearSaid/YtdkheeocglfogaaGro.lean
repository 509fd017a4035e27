/- The greatest choice of clear symbols: plain facts on the search. -/
import Derived.Test.YtdkheeocglfogaaPop
namespace Go.Proofs.Ytdkheeocglfogaa

/-- The best choice from the number n - k on behind t, where b is the best so far. -/
def gro (al : Nat → Nat → Bool) (n : Nat) : Nat → List Nat → List Nat → List Nat
  | 0, t, b => if t.length ≤ b.length then b else t
  | k + 1, t, b => if t.length + (k + 1) ≤ b.length then b else gro al n k t (if t.all (fun j => !al (n - (k + 1)) j) then gro al n k (t ++ [n - (k + 1)]) b else b)
def Asc (m : Nat) (t : List Nat) : Prop := t.Pairwise (· < ·) ∧ ∀ j, j ∈ t → j < m
theorem Asc.nil (m : Nat) : Asc m [] := ⟨List.Pairwise.nil, by simp⟩
theorem Asc.mono {m n : Nat} {t : List Nat} (h : Asc m t) (hm : m ≤ n) : Asc n t := ⟨h.1, fun j hj => by have := h.2 j hj; omega⟩
theorem Asc.snoc {m : Nat} {t : List Nat} (h : Asc m t) : Asc (m + 1) (t ++ [m]) := by
  refine ⟨List.pairwise_append.2 ⟨h.1, by simp, fun a ha b hb => ?_⟩, fun j hj => ?_⟩
  · simp at hb; subst hb; exact h.2 a ha
  · simp at hj; rcases hj with hj | hj
    · have := h.2 j hj; omega
    · omega
theorem Asc.nodup {m : Nat} {t : List Nat} (h : Asc m t) : t.Nodup := h.1.imp fun hab => by omega
theorem Asc.filter {n : Nat} {t : List Nat} (h : Asc n t) : (List.range n).filter (fun j => decide (j ∈ t)) = t := by
  have h1 : ((List.range n).filter (fun j => decide (j ∈ t))).Pairwise (· < ·) := List.Pairwise.filter _ List.pairwise_lt_range
  have h2 : ((List.range n).filter (fun j => decide (j ∈ t))).Perm t := by
    refine (List.perm_ext_iff_of_nodup (h1.imp fun hab => by omega) h.nodup).2 fun a => ?_
    simp only [List.mem_filter, List.mem_range, decide_eq_true_eq]
    exact ⟨fun q => q.2, fun q => ⟨h.2 a q, q⟩⟩
  exact List.Perm.eq_of_pairwise (le := (· < ·)) (fun a b _ _ h3 h4 => by omega) h1 h.1 h2
/-- The set of the chosen. -/
def mt (n : Nat) (t : List Nat) : Nat := msk n fun j => decide (j ∈ t)
theorem cnt_mt {n : Nat} {t : List Nat} (h : Asc n t) : cnt n (fun j => decide (j ∈ t)) = t.length := by unfold cnt; rw [h.filter]
theorem mt_nil (n : Nat) : mt n [] = 0 := by
  unfold mt
  rw [← msk_none n]
  exact msk_congr fun j _ => by simp
theorem mt_snoc {n m : Nat} (t : List Nat) (h : m < n) : mt n t ||| 2 ^ m = mt n (t ++ [m]) := by
  unfold mt
  rw [msk_one h, msk_or]
  refine msk_congr fun j _ => ?_
  by_cases e : m = j
  · subst e; simp
  · have : ¬ j = m := fun q => e q.symm
    simp [e, this]
theorem mt_and {n m : Nat} {t : List Nat} (al : Nat → Bool) (h : Asc m t) (hm : m ≤ n) : (msk n al &&& mt n t = 0) ↔ (t.all fun j => !al j) = true := by
  unfold mt
  rw [msk_and, ← msk_none n, List.all_eq_true]
  constructor
  · intro e j hj
    have := msk_inj e j (by have := h.2 j hj; omega)
    simp only [hj, decide_true, Bool.and_true] at this
    simp [this]
  · intro e
    refine msk_congr fun j _ => ?_
    by_cases hj : j ∈ t
    · have := e j hj
      simp at this
      simp [this]
    · simp [hj]
theorem gro_asc (al : Nat → Nat → Bool) (n : Nat) : ∀ (k : Nat) (t b : List Nat), k ≤ n → Asc (n - k) t → Asc n b → Asc n (gro al n k t b)
  | 0, t, b, _, ht, hb => by
    unfold gro
    split
    · exact hb
    · exact ht.mono (by omega)
  | k + 1, t, b, hk, ht, hb => by
    unfold gro
    split
    · exact hb
    · refine gro_asc al n k t _ (by omega) (ht.mono (by omega)) ?_
      split
      · refine gro_asc al n k _ b (by omega) ?_ hb
        have := ht.snoc
        rw [show n - (k + 1) + 1 = n - k by omega] at this
        exact this
      · exact hb
theorem gro_cut (al : Nat → Nat → Bool) (n k : Nat) (t b : List Nat) (h : t.length + k ≤ b.length) : gro al n k t b = b := by
  cases k <;> simp only [gro] <;> rw [if_pos (by omega)]
theorem gro_end (al : Nat → Nat → Bool) (n : Nat) (t b : List Nat) (h : ¬ t.length ≤ b.length) : gro al n 0 t b = t := by
  simp only [gro]; rw [if_neg h]
theorem gro_yes (al : Nat → Nat → Bool) (n k : Nat) (t b : List Nat) (h : ¬ t.length + (k + 1) ≤ b.length) (hf : (t.all fun j => !al (n - (k + 1)) j) = true) : gro al n (k + 1) t b = gro al n k t (gro al n k (t ++ [n - (k + 1)]) b) := by
  simp only [gro]; rw [if_neg h, hf]; rfl
theorem gro_no (al : Nat → Nat → Bool) (n k : Nat) (t b : List Nat) (h : ¬ t.length + (k + 1) ≤ b.length) (hf : (t.all fun j => !al (n - (k + 1)) j) = false) : gro al n (k + 1) t b = gro al n k t b := by
  simp only [gro]; rw [if_neg h, hf]; rfl
/-- A choice that fits: no two alike. -/
def Fit (al : Nat → Nat → Bool) (t : List Nat) : Prop := ∀ i j, i ∈ t → j ∈ t → j < i → al i j = false
theorem Fit.snoc {al : Nat → Nat → Bool} {m : Nat} {t : List Nat} (h : Fit al t) (ht : Asc m t) (hf : (t.all fun j => !al m j) = true) : Fit al (t ++ [m]) := by
  intro i j hi hj hl
  simp at hi hj
  rcases hi with hi | hi <;> rcases hj with hj | hj
  · exact h i j hi hj hl
  · have := ht.2 i hi; omega
  · subst hi
    have := List.all_eq_true.1 hf j hj
    simpa using this
  · omega
theorem gro_fit (al : Nat → Nat → Bool) (n : Nat) : ∀ (k : Nat) (t b : List Nat), k ≤ n → Asc (n - k) t → Fit al t → Fit al b → Fit al (gro al n k t b)
  | 0, t, b, _, _, h1, h2 => by
    unfold gro
    split
    · exact h2
    · exact h1
  | k + 1, t, b, hk, ht, h1, h2 => by
    unfold gro
    split
    · exact h2
    · refine gro_fit al n k t _ (by omega) (ht.mono (by omega)) h1 ?_
      split
      · rename_i hf
        refine gro_fit al n k _ b (by omega) ?_ (h1.snoc ht hf) h2
        have := ht.snoc
        rw [show n - (k + 1) + 1 = n - k by omega] at this
        exact this
      · exact h2
theorem asc_len : ∀ (u : List Nat) (lo n : Nat), u.Pairwise (· < ·) → (∀ j, j ∈ u → lo ≤ j ∧ j < n) → u.length ≤ n - lo
  | [], _, _, _, _ => by simp
  | x :: u, lo, n, hp, h => by
    have h1 := List.pairwise_cons.1 hp
    have h2 := h x (by simp)
    have := asc_len u (x + 1) n h1.2 fun j hj => ⟨by have := h1.1 j hj; omega, (h j (by simp [hj])).2⟩
    simp; omega
/-- No choice that fits is longer. -/
theorem gro_ge (al : Nat → Nat → Bool) (n : Nat) : ∀ (k : Nat) (t b u : List Nat), k ≤ n → Asc (n - k) t → Asc n (t ++ u) → (∀ j, j ∈ u → n - k ≤ j) → Fit al (t ++ u) → b.length ≤ (gro al n k t b).length ∧ (t ++ u).length ≤ (gro al n k t b).length
  | 0, t, b, u, _, ht, hu, hl, _ => by
    have : u = [] := by
      cases u with
      | nil => rfl
      | cons x u => have h1 := hl x (by simp); have h2 := hu.2 x (by simp); omega
    subst this
    unfold gro
    split
    · simp; omega
    · simp; omega
  | k + 1, t, b, u, hk, ht, hu, hl, hf => by
    have ha : Asc (n - k) (t ++ [n - (k + 1)]) := by
      have := ht.snoc
      rw [show n - (k + 1) + 1 = n - k by omega] at this
      exact this
    unfold gro
    split
    · refine ⟨Nat.le_refl _, ?_⟩
      have : u.length ≤ k + 1 := by
        have h3 := asc_len u (n - (k + 1)) n (List.pairwise_append.1 hu.1).2.1 fun j hj => ⟨hl j hj, hu.2 j (by simp [hj])⟩
        omega
      simp; omega
    · by_cases e : n - (k + 1) ∈ u
      · cases u with
        | nil => simp at e
        | cons x u =>
          have hx : x = n - (k + 1) := by
            have h1 := hl x (by simp)
            rcases List.mem_cons.1 e with h2 | h2
            · exact h2.symm
            · have := List.pairwise_cons.1 (List.pairwise_append.1 hu.1).2.1
              have := this.1 _ h2
              omega
          subst hx
          have h5 : t ++ (n - (k + 1)) :: u = (t ++ [n - (k + 1)]) ++ u := by simp
          have hall : (t.all fun j => !al (n - (k + 1)) j) = true := List.all_eq_true.2 fun j hj => by
            have := hf (n - (k + 1)) j (by simp) (by simp [hj]) (ht.2 j hj)
            simp [this]
          rw [hall]
          simp only [if_true]
          rw [h5] at hu hf ⊢
          have hu2 : ∀ j, j ∈ u → n - k ≤ j := fun j hj => by
            have := (List.pairwise_append.1 hu.1).2.2 (n - (k + 1)) (by simp) j hj
            omega
          have h6 := gro_ge al n k (t ++ [n - (k + 1)]) b u (by omega) ha hu hu2 hf
          have h7 := gro_ge al n k t (gro al n k (t ++ [n - (k + 1)]) b) [] (by omega) (ht.mono (by omega)) (by simpa using ht.mono (by omega)) (by simp) (fun i j hi hj hl => hf i j (by simp at hi; simp [hi]) (by simp at hj; simp [hj]) hl)
          exact ⟨Nat.le_trans h6.1 h7.1, Nat.le_trans h6.2 h7.1⟩
      · have hu2 : ∀ j, j ∈ u → n - k ≤ j := fun j hj => by
          have h1 := hl j hj
          have h2 : ¬ j = n - (k + 1) := fun q => e (q ▸ hj)
          omega
        have h7 := fun b' => gro_ge al n k t b' u (by omega) (ht.mono (by omega)) hu hu2 hf
        split
        · rename_i hall
          have h6 := gro_ge al n k (t ++ [n - (k + 1)]) b [] (by omega) ha (by simpa using ha.mono (by omega)) (by simp) (by
            have h8 : Fit al t := fun i j hi hj hl => hf i j (by simp [hi]) (by simp [hj]) hl
            have := h8.snoc ht hall
            simpa using this)
          exact ⟨Nat.le_trans h6.1 (h7 _).1, (h7 _).2⟩
        · exact h7 b
end Go.Proofs.Ytdkheeocglfogaa
