/- Complete mappings and antisymmetric orders: what is found is one; one is found if there is one; in a commutative group there are both or none. -/
import Derived.Test.YtghmpaegmicheaaLstL
import Derived.Test.YtghmpaegmicheaaAo
import Derived.Test.YtghmpaegmicheaaGrpZL
import Derived.Test.YtghmpaegmicheaaInv
import Derived.Test.YtghmpaegmicheaaLagr
namespace Go.Proofs.Ytghmpaegmicheaa
open Go.RowKit

theorem ordAt_perm {o : List Int} {n : Nat} (h : o.Perm (upN n)) : ordAt n o = true := by
  refine diffB_iff.2 ⟨fun i hi => ?_, fun i hi hm => ?_⟩
  · have := perm_bd h (i := i) (by have := perm_len h; omega)
    exact inB_yes (by omega)
  · obtain ⟨j, hj, e⟩ := List.getElem_of_mem hm
    rw [List.length_take] at hj
    rw [List.getElem_take] at e
    have hl := perm_len h
    have := perm_inj h (i := j) (j := i) (by omega) (by omega) (by simp [show j < o.length by omega, show i < o.length by omega, e])
    omega
theorem aoB_perm {cm : Bool} {x : List (List Int)} {o : List Int} (hg : grpB x = true) (h : o.Perm (upN x.length)) : aoB cm x o = allN x.length (fitK cm x o) := by
  rw [aoB_all hg (perm_len h) (ordAt_perm h), perm_len h]
theorem okL_take {cm : Bool} {x : List (List Int)} {o : List Int} {j : Nat} (hj : j < o.length) : okL cm x (o.take (j + 1)) = fitL cm x o j := by
  unfold okL
  rw [take_len hj, Nat.add_sub_cancel, fitL_take]
/-- An order whose beginnings are all right. -/
def Good (cm : Bool) (x : List (List Int)) (o : List Int) : Prop := o.length = x.length ∧ Elems x.length o ∧ ∀ j, j < x.length → fitL cm x o j = true
theorem fitL_iff {cm : Bool} {x : List (List Int)} {o : List Int} {k : Nat} : fitL cm x o k = true ↔ ∀ a, a < k → o.getD a 0 ≠ o.getD k 0 ∧ fitEq cm x o a k = false := by
  unfold fitL; rw [allN_iff]
  constructor
  · intro h a ha
    have := h a ha
    rw [Bool.and_eq_true, Bool.not_eq_true', Bool.not_eq_true', decide_eq_false_iff_not] at this
    exact this
  · intro h a ha
    have := h a ha
    rw [Bool.and_eq_true, Bool.not_eq_true', Bool.not_eq_true', decide_eq_false_iff_not]
    exact this
theorem lst_good {cm : Bool} {x : List (List Int)} {r : List Int} (h : lstO cm x = some r) : Good cm x r := by
  obtain ⟨t, h1, h2, h3, h4⟩ := lexF_some h
  simp only [List.nil_append] at h1
  subst h1
  refine ⟨h2, fun i hi => h3 _ (getD_mem hi), fun j hj => ?_⟩
  have := h4 j hj
  rw [List.length_nil, Nat.zero_add, okL_take (by omega)] at this
  exact this
theorem good_ao {cm : Bool} {x : List (List Int)} {r : List Int} (hg : grpB x = true) (h : Good cm x r) : aoB cm x r = true := by
  obtain ⟨h1, h2, h3⟩ := h
  have ho : ordAt x.length r = true := by
    refine diffB_iff.2 ⟨fun i hi => inB_yes (by have := h2 i hi; omega), fun i hi hm => ?_⟩
    obtain ⟨j, hj, e⟩ := List.getElem_of_mem hm
    rw [List.length_take] at hj
    rw [List.getElem_take] at e
    exact (fitL_iff.1 (h3 i (by omega)) j (by omega)).1 (by simp [show j < r.length by omega, show i < r.length by omega, e])
  rw [aoB_all hg h1 ho, allN_iff]
  intro i hi
  rw [← fitL_ord ho hi]
  exact h3 i (by omega)
/-- The search finds a list if there is one. -/
theorem lexF_none {n : Nat} {ok : List Int → Bool} : ∀ {f : Nat} {pre t : List Int}, lexF n ok f pre = none → t.length = f → (∀ z ∈ t, 0 ≤ z ∧ z < n) → (∀ j, j < f → ok ((pre ++ t).take (pre.length + j + 1)) = true) → False
  | 0, pre, t, h, _, _, _ => by simp [lexF] at h
  | f + 1, pre, [], _, h, _, _ => by simp at h
  | f + 1, pre, z :: t, h, hl, hz, hk => by
    rw [lexF_succ] at h
    obtain ⟨h0, h1⟩ := hz z (by simp)
    obtain ⟨k, rfl⟩ := Int.eq_ofNat_of_zero_le h0
    have hc := fsm_no h k (Nat.zero_le _) (by omega)
    have hok : ok (pre ++ [(k : Int)]) = true := by
      have := hk 0 (by omega)
      have e : (pre ++ (k : Int) :: t).take (pre.length + 0 + 1) = pre ++ [(k : Int)] := by simp [List.take_append, List.take_of_length_le]
      rw [e] at this; exact this
    rw [cand_yes hok] at hc
    refine lexF_none (t := t) hc (by simpa using hl) (fun y hy => hz y (by simp [hy])) fun j hj => ?_
    have := hk (j + 1) (by omega)
    rw [List.length_append, List.length_singleton, List.append_assoc, List.singleton_append, show pre.length + 1 + j + 1 = pre.length + (j + 1) + 1 by omega]
    exact this
theorem good_lst {cm : Bool} {x : List (List Int)} {r : List Int} (h : Good cm x r) : (lstO cm x).isSome = true := by
  cases e : lstO cm x with
  | some q => rfl
  | none =>
    exfalso
    refine lexF_none (t := r) e h.1 (fun z hz => ?_) fun j hj => ?_
    · obtain ⟨i, hi, rfl⟩ := List.getElem_of_mem hz
      have := h.2.1 i hi
      simpa [hi] using this
    · rw [List.nil_append, List.length_nil, Nat.zero_add, okL_take (by rw [h.1]; exact hj)]
      exact h.2.2 j hj
/-- The inverse of an element. -/
def iv (x : List (List Int)) (a : Nat) : Nat := (inv x (idn x) a).toNat
theorem Gp.iv {x : List (List Int)} (G : Gp x) {a : Nat} (ha : a < x.length) : iv x a < x.length ∧ mul x a (iv x a) = one x ∧ mul x (iv x a) a = one x := by
  obtain ⟨b, h1, h2, h3, h4⟩ := G.inv a ha
  have : Go.Proofs.Ytghmpaegmicheaa.iv x a = b := by unfold Go.Proofs.Ytghmpaegmicheaa.iv; rw [h4]; simp
  rw [this]; exact ⟨h1, h2, h3⟩
theorem Gp.iviv {x : List (List Int)} (G : Gp x) {a : Nat} (ha : a < x.length) : Go.Proofs.Ytghmpaegmicheaa.iv x (Go.Proofs.Ytghmpaegmicheaa.iv x a) = a := by
  obtain ⟨h1, h2, h3⟩ := G.iv ha
  obtain ⟨h4, h5, h6⟩ := G.iv h1
  refine G.cancel _ _ (Go.Proofs.Ytghmpaegmicheaa.iv x a) h4 ha h1 ?_
  rw [h6, h2]
def Com (x : List (List Int)) : Prop := ∀ a b, a < x.length → b < x.length → mul x a b = mul x b a
/-- In a commutative group a f(b) = b f(a) exactly if the products with the inverses are equal. -/
theorem Gp.cross {x : List (List Int)} (G : Gp x) (hc : Com x) {a b p q : Nat} (ha : a < x.length) (hb : b < x.length) (hp : p < x.length) (hq : q < x.length) :
    mul x a q = mul x b p ↔ mul x a (Go.Proofs.Ytghmpaegmicheaa.iv x p) = mul x b (Go.Proofs.Ytghmpaegmicheaa.iv x q) := by
  obtain ⟨p1, p2, p3⟩ := G.iv hp
  obtain ⟨q1, q2, q3⟩ := G.iv hq
  -- a = (a p') p, b = (b q') q
  have ea : mul x (mul x a (Go.Proofs.Ytghmpaegmicheaa.iv x p)) p = a := by rw [G.assoc a _ p ha p1 hp, p3, G.mul_one a ha]
  have eb : mul x (mul x b (Go.Proofs.Ytghmpaegmicheaa.iv x q)) q = b := by rw [G.assoc b _ q hb q1 hq, q3, G.mul_one b hb]
  have la := G.lt a _ ha p1
  have lb := G.lt b _ hb q1
  -- a q = (a p') (p q), b p = (b q') (q p)
  have e1 : mul x a q = mul x (mul x a (Go.Proofs.Ytghmpaegmicheaa.iv x p)) (mul x p q) := by rw [← G.assoc _ p q la hp hq, ea]
  have e2 : mul x b p = mul x (mul x b (Go.Proofs.Ytghmpaegmicheaa.iv x q)) (mul x p q) := by rw [hc p q hp hq, ← G.assoc _ q p lb hq hp, eb]
  rw [e1, e2]
  exact ⟨fun h => G.cancel _ _ _ la lb (G.lt p q hp hq) h, fun h => by rw [h]⟩
/-- The inverses of an order's elements. -/
def ivL (x : List (List Int)) (o : List Int) : List Int := o.map fun z => (Go.Proofs.Ytghmpaegmicheaa.iv x z.toNat : Int)
theorem ivL_get {x : List (List Int)} {o : List Int} {i : Nat} (hi : i < o.length) : (ivL x o).getD i 0 = (iv x (nt o i) : Int) := by
  unfold ivL nt; simp [hi]
theorem fitEq_true {x : List (List Int)} (G : Gp x) {o : List Int} (he : Elems x.length o) (hl : o.length = x.length) {a k : Nat} (ha : a < x.length) (hk : k < x.length) : fitEq true x o a k = decide (mul x a (nt o a) = mul x k (nt o k)) := by
  obtain ⟨p, hp, _, hp2⟩ := he.nt a (by omega)
  obtain ⟨q, hq, _, hq2⟩ := he.nt k (by omega)
  unfold fitEq
  rw [if_pos rfl, hp2, hq2, G.tb_eq a p ha hp, G.tb_eq k q hk hq]
  exact decide_eq_decide.2 ⟨fun h => by omega, fun h => by rw [h]⟩
theorem fitEq_false {x : List (List Int)} (G : Gp x) {o : List Int} (he : Elems x.length o) (hl : o.length = x.length) {a k : Nat} (ha : a < x.length) (hk : k < x.length) : fitEq false x o a k = decide (mul x a (nt o k) = mul x k (nt o a)) := by
  obtain ⟨p, hp, _, hp2⟩ := he.nt a (by omega)
  obtain ⟨q, hq, _, hq2⟩ := he.nt k (by omega)
  unfold fitEq
  simp only [Bool.false_eq_true, if_false]
  rw [hp2, hq2, G.tb_eq a q ha hq, G.tb_eq k p hk hp]
  exact decide_eq_decide.2 ⟨fun h => by omega, fun h => by rw [h]⟩
theorem good_inv {cm : Bool} {x : List (List Int)} {o : List Int} (G : Gp x) (hc : Com x) (h : Good cm x o) : Good (!cm) x (ivL x o) := by
  obtain ⟨h1, h2, h3⟩ := h
  have hl : (ivL x o).length = x.length := by unfold ivL; rw [List.length_map, h1]
  have hn : ∀ i, i < x.length → nt o i < x.length := fun i hi => by
    obtain ⟨q, hq, _, h⟩ := h2.nt i (by omega)
    rw [h]; exact hq
  have he : Elems x.length (ivL x o) := fun i hi => by
    rw [ivL_get (by omega)]
    have := (G.iv (hn i (by omega))).1
    omega
  have hni : ∀ i, i < x.length → nt (ivL x o) i = iv x (nt o i) := fun i hi => by
    unfold nt; rw [ivL_get (by omega)]; rfl
  refine ⟨hl, he, fun k hk => fitL_iff.2 fun a ha => ?_⟩
  have hak : a < x.length := by omega
  obtain ⟨d1, d2⟩ := fitL_iff.1 (h3 k hk) a ha
  constructor
  · rw [ivL_get (by omega), ivL_get (by omega)]
    intro e
    apply d1
    have e2 : iv x (nt o a) = iv x (nt o k) := by omega
    have e3 : nt o a = nt o k := by rw [← G.iviv (hn a hak), ← G.iviv (hn k hk), e2]
    obtain ⟨p, _, hp1, hp2⟩ := h2.nt a (by omega)
    obtain ⟨q, _, hq1, hq2⟩ := h2.nt k (by omega)
    rw [hp1, hq1, ← hp2, ← hq2, e3]
  · cases cm
    · rw [fitEq_false G h2 h1 hak hk, decide_eq_false_iff_not] at d2
      show fitEq true x (ivL x o) a k = false
      rw [fitEq_true G he hl hak hk, decide_eq_false_iff_not, hni a hak, hni k hk]
      exact fun e => d2 ((G.cross hc hak hk (hn a hak) (hn k hk)).2 e)
    · rw [fitEq_true G h2 h1 hak hk, decide_eq_false_iff_not] at d2
      show fitEq false x (ivL x o) a k = false
      rw [fitEq_false G he hl hak hk, decide_eq_false_iff_not, hni a hak, hni k hk]
      intro e
      apply d2
      have := (G.cross hc hak hk (G.iv (hn a hak)).1 (G.iv (hn k hk)).1).1 e
      rw [G.iviv (hn a hak), G.iviv (hn k hk)] at this
      exact this
theorem comB_com {x : List (List Int)} (h : comB x = true) : Com x := by
  unfold comB at h
  rw [Bool.and_eq_true, decide_eq_true_eq] at h
  obtain ⟨hg, hl⟩ := h
  have G := Gp.of hg
  intro a b ha hb
  have hf : ((List.range x.length).filter (cenB x)).length = (List.range x.length).length := by
    unfold cenL cenP at hl
    rw [List.length_map] at hl
    rw [hl]; simp
  have hall : cenB x a = true := by
    have h1 := split_len (cenB x) (List.range x.length)
    have h2 : (List.range x.length).filter (fun a => !cenB x a) = [] := List.eq_nil_of_length_eq_zero (by omega)
    rw [List.filter_eq_nil_iff] at h2
    simpa using h2 a (List.mem_range.2 ha)
  have := allN_iff.1 hall b hb
  unfold comAt at this
  rw [decide_eq_true_eq] at this
  unfold mul; rw [this]
theorem both {x : List (List Int)} (h : comB x = true) : (lstO true x).isSome = (lstO false x).isSome := by
  have hg : grpB x = true := by unfold comB at h; rw [Bool.and_eq_true] at h; exact h.1
  have G := Gp.of hg
  have hc := comB_com h
  rw [Bool.eq_iff_iff]
  constructor
  · intro e
    obtain ⟨r, hr⟩ := Option.isSome_iff_exists.1 e
    exact good_lst (good_inv G hc (lst_good hr))
  · intro e
    obtain ⟨r, hr⟩ := Option.isSome_iff_exists.1 e
    exact good_lst (good_inv G hc (lst_good hr))
end Go.Proofs.Ytghmpaegmicheaa
