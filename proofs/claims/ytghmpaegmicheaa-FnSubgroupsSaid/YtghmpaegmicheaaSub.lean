/- The products of some elements of a group: what is reached, and the one rising list of it: plain lists. -/
import Derived.Test.YtghmpaegmicheaaGrpC
import Derived.Test.YtghmpaegmicheaaOrd
namespace Go.Proofs.Ytghmpaegmicheaa
open Go.RowKit

/-- What is reached from the identity by the elements. -/
inductive Rch (x : List (List Int)) (es : List Int) : Nat → Prop where
  | one : Rch x es (one x)
  | step (a k : Nat) : Rch x es a → k < es.length → Rch x es (mul x a (es.getD k 0).toNat)
/-- Rising. -/
def Inc (l : List Int) : Prop := ∀ i j, i < j → j < l.length → l.getD i 0 < l.getD j 0
/-- The rising list of what is reached. -/
def SubP (x : List (List Int)) (es : List Int) (l : List Int) : Prop := Inc l ∧ ∀ z : Int, z ∈ l ↔ ∃ a : Nat, z = (a : Int) ∧ Rch x es a
theorem inc_head {a : Int} {l : List Int} (h : Inc (a :: l)) : ∀ z ∈ l, a < z := by
  intro z hz
  obtain ⟨i, hi, rfl⟩ := List.getElem_of_mem hz
  have := h 0 (i + 1) (by omega) (by simp; omega)
  simpa [hi] using this
theorem inc_tail {a : Int} {l : List Int} (h : Inc (a :: l)) : Inc l := fun i j h1 h2 => by
  have := h (i + 1) (j + 1) (by omega) (by simp; omega)
  simpa using this
theorem inc_ext : ∀ {l m : List Int}, Inc l → Inc m → (∀ z, z ∈ l ↔ z ∈ m) → l = m
  | [], [], _, _, _ => rfl
  | [], b :: m, _, _, h => by have := (h b).2 (by simp); simp at this
  | a :: l, [], _, _, h => by have := (h a).1 (by simp); simp at this
  | a :: l, b :: m, hl, hm, h => by
    have h1 : a = b := by
      have ha := (h a).1 (by simp)
      have hb := (h b).2 (by simp)
      rcases List.mem_cons.1 ha with e | ha
      · exact e
      · rcases List.mem_cons.1 hb with e | hb
        · exact e.symm
        · have h2 := inc_head hm a ha
          have h3 := inc_head hl b hb
          omega
    subst h1
    congr 1
    refine inc_ext (inc_tail hl) (inc_tail hm) fun z => ⟨fun hz => ?_, fun hz => ?_⟩
    · have h2 := inc_head hl z hz
      rcases List.mem_cons.1 ((h z).1 (by simp [hz])) with e | h3
      · omega
      · exact h3
    · have h2 := inc_head hm z hz
      rcases List.mem_cons.1 ((h z).2 (by simp [hz])) with e | h3
      · omega
      · exact h3
theorem SubP.uniq {x : List (List Int)} {es l m : List Int} (h1 : SubP x es l) (h2 : SubP x es m) : l = m :=
  inc_ext h1.1 h2.1 fun z => (h1.2 z).trans (h2.2 z).symm
theorem inc_snoc {l : List Int} {y : Int} (h : Inc l) (hy : ∀ z ∈ l, z < y) : Inc (l ++ [y]) := by
  intro i j h1 h2
  simp at h2
  by_cases hj : j < l.length
  · have e1 : (l ++ [y]).getD i 0 = l.getD i 0 := by rw [List.getD_eq_getElem?_getD, List.getElem?_append_left (by omega), ← List.getD_eq_getElem?_getD]
    have e2 : (l ++ [y]).getD j 0 = l.getD j 0 := by rw [List.getD_eq_getElem?_getD, List.getElem?_append_left (by omega), ← List.getD_eq_getElem?_getD]
    rw [e1, e2]; exact h i j h1 hj
  · have hj' : j = l.length := by omega
    subst hj'
    have e1 : (l ++ [y]).getD i 0 = l.getD i 0 := by rw [List.getD_eq_getElem?_getD, List.getElem?_append_left (by omega), ← List.getD_eq_getElem?_getD]
    have e2 : (l ++ [y]).getD l.length 0 = y := by simp
    rw [e1, e2]; exact hy _ (getD_mem h1)
theorem subP_ex (x : List (List Int)) (es : List Int) (N : Nat) (hN : ∀ a, Rch x es a → a < N) : ∃ l, SubP x es l := by
  have h : ∀ n, ∃ l : List Int, Inc l ∧ ∀ z : Int, z ∈ l ↔ ∃ a : Nat, z = (a : Int) ∧ a < n ∧ Rch x es a := by
    intro n
    induction n with
    | zero => exact ⟨[], fun i j _ h2 => by simp at h2, fun z => by simp⟩
    | succ n ih =>
      obtain ⟨l, h1, h2⟩ := ih
      by_cases hr : Rch x es n
      · refine ⟨l ++ [(n : Int)], inc_snoc h1 fun z hz => ?_, fun z => ?_⟩
        · obtain ⟨a, rfl, ha, _⟩ := (h2 z).1 hz
          omega
        · rw [List.mem_append, List.mem_singleton, h2 z]
          constructor
          · rintro (⟨a, e, ha, hra⟩ | e)
            · exact ⟨a, e, by omega, hra⟩
            · exact ⟨n, e, by omega, hr⟩
          · rintro ⟨a, e, ha, hra⟩
            by_cases han : a = n
            · subst han; exact .inr e
            · exact .inl ⟨a, e, by omega, hra⟩
      · refine ⟨l, h1, fun z => ?_⟩
        rw [h2 z]
        constructor
        · rintro ⟨a, e, ha, hra⟩; exact ⟨a, e, by omega, hra⟩
        · rintro ⟨a, e, ha, hra⟩
          have : a ≠ n := fun h => hr (h ▸ hra)
          exact ⟨a, e, by omega, hra⟩
  obtain ⟨l, h1, h2⟩ := h N
  exact ⟨l, h1, fun z => (h2 z).trans ⟨fun ⟨a, e, _, hr⟩ => ⟨a, e, hr⟩, fun ⟨a, e, hr⟩ => ⟨a, e, hN a hr, hr⟩⟩⟩
/-- The elements are numbers below n. -/
def esB (n : Nat) (es : List Int) : Bool := decide (es.length ≤ 10) && rowB n es
theorem esB_at {n : Nat} {es : List Int} (h : esB n es = true) (k : Nat) (hk : k < es.length) : ∃ q : Nat, q < n ∧ es.getD k 0 = (q : Int) := by
  unfold esB at h
  rw [Bool.and_eq_true] at h
  have h2 := h.2
  unfold rowB at h2
  rw [List.all_eq_true] at h2
  have := inB_iff.1 (h2 _ (getD_mem hk))
  exact ⟨(es.getD k 0).toNat, by omega, by omega⟩
theorem Rch.lt {x : List (List Int)} {es : List Int} (G : Gp x) (he : esB x.length es = true) {a : Nat} (h : Rch x es a) : a < x.length := by
  induction h with
  | one => exact G.one_lt
  | step a k _ hk ih =>
    obtain ⟨q, hq, e⟩ := esB_at he k hk
    rw [e]
    exact G.lt a q ih hq
/-- The numbers of a list are reached, each once. -/
structure Got (x : List (List Int)) (es : List Int) (o : List Int) : Prop where
  in_ : ∀ z ∈ o, ∃ a : Nat, z = (a : Int) ∧ Rch x es a
  nd : o.Nodup
  one_ : ((one x : Nat) : Int) ∈ o
theorem nodup_le : ∀ (n : Nat) (o : List Int), o.Nodup → (∀ z ∈ o, 0 ≤ z ∧ z < n) → o.length ≤ n
  | 0, o, _, h => by
    cases o with
    | nil => simp
    | cons a l => have := h a (by simp); omega
  | n + 1, o, hd, h => by
    have h1 : (o.filter fun z => z ≠ (n : Int)).length ≤ n := nodup_le n _ (hd.filter _) fun z hz => by
      rw [List.mem_filter] at hz
      have h2 := h z hz.1
      have h3 : z ≠ (n : Int) := by simpa using hz.2
      omega
    have h2 : o.length ≤ (o.filter fun z => z ≠ (n : Int)).length + 1 := by
      clear h h1
      induction o with
      | nil => simp
      | cons a l ih =>
        have hl := (List.nodup_cons.1 hd)
        by_cases e : a = (n : Int)
        · subst e
          have h4 : l.filter (fun z => z ≠ (n : Int)) = l := List.filter_eq_self.2 fun z hz => by
            have : z ≠ (n : Int) := fun e2 => hl.1 (e2 ▸ hz)
            simpa using this
          simp only [List.filter_cons]
          rw [if_neg (by simp), h4]; simp
        · simp only [List.filter_cons]
          rw [if_pos (by simpa using e)]
          have := ih hl.2
          simp only [List.length_cons]; omega
    omega
theorem Got.le {x : List (List Int)} {es o : List Int} (h : Got x es o) (G : Gp x) (he : esB x.length es = true) : o.length ≤ x.length :=
  nodup_le x.length o h.nd fun z hz => by
    obtain ⟨a, rfl, ha⟩ := h.in_ z hz
    have := ha.lt G he
    omega
theorem Got.start (x : List (List Int)) (es : List Int) : Got x es [((one x : Nat) : Int)] :=
  ⟨fun z hz => ⟨one x, by simpa using hz, Rch.one⟩, by simp, by simp⟩
theorem Got.more {x : List (List Int)} {es o : List Int} (h : Got x es o) {a : Nat} (ha : Rch x es a) (hn : ¬ (a : Int) ∈ o) : Got x es (o ++ [(a : Int)]) := by
  refine ⟨fun z hz => ?_, ?_, by simp [h.one_]⟩
  · rcases List.mem_append.1 hz with hz | hz
    · exact h.in_ z hz
    · exact ⟨a, by simpa using hz, ha⟩
  · rw [List.nodup_append]
    refine ⟨h.nd, by simp, fun y hy z hz => ?_⟩
    have : z = (a : Int) := by simpa using hz
    subst this
    exact fun e => hn (e ▸ hy)
/-- A closed list has all that is reached. -/
theorem Got.all {x : List (List Int)} {es o : List Int} (h : Got x es o) (hc : ∀ a : Nat, (a : Int) ∈ o → ∀ k, k < es.length → ((mul x a (es.getD k 0).toNat : Nat) : Int) ∈ o) {a : Nat} (ha : Rch x es a) : (a : Int) ∈ o := by
  induction ha with
  | one => exact h.one_
  | step a k _ hk ih => exact hc a ih k hk
end Go.Proofs.Ytghmpaegmicheaa
