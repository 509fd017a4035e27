/- Least lists, looked for number by number: what the search answers, and the walk forwards and back that finds the same: plain lists. -/
import Derived.Test.YtghmpaegmicheaaFit
namespace Go.Proofs.Ytghmpaegmicheaa
open Go.RowKit

/-- The first of c candidates from k on that gives something. -/
def fsm {α : Type} (g : Nat → Option α) : Nat → Nat → Option α
  | 0, _ => none
  | c + 1, k => match g k with
    | some r => some r
    | none => fsm g c (k + 1)
theorem fsm_some {α : Type} {g : Nat → Option α} {c k : Nat} {r : α} (h : g k = some r) : fsm g (c + 1) k = some r := by simp [fsm, h]
theorem fsm_none {α : Type} {g : Nat → Option α} {c k : Nat} (h : g k = none) : fsm g (c + 1) k = fsm g c (k + 1) := by simp [fsm, h]
theorem fsm_ok {α : Type} {g : Nat → Option α} : ∀ {c k : Nat} {r : α}, fsm g c k = some r → ∃ j, k ≤ j ∧ j < k + c ∧ g j = some r ∧ ∀ i, k ≤ i → i < j → g i = none
  | 0, k, r, h => by simp [fsm] at h
  | c + 1, k, r, h => by
    cases e : g k with
    | some q =>
      rw [fsm_some e] at h
      exact ⟨k, Nat.le_refl _, by omega, by rw [e]; exact h, fun i h1 h2 => by omega⟩
    | none =>
      rw [fsm_none e] at h
      obtain ⟨j, h1, h2, h3, h4⟩ := fsm_ok h
      refine ⟨j, by omega, by omega, h3, fun i h5 h6 => ?_⟩
      by_cases hi : i = k
      · subst hi; exact e
      · exact h4 i (by omega) h6
theorem fsm_no {α : Type} {g : Nat → Option α} : ∀ {c k : Nat}, fsm g c k = none → ∀ i, k ≤ i → i < k + c → g i = none
  | 0, k, _, i, h1, h2 => by omega
  | c + 1, k, h, i, h1, h2 => by
    cases e : g k with
    | some q => rw [fsm_some e] at h; simp at h
    | none =>
      rw [fsm_none e] at h
      by_cases hi : i = k
      · subst hi; exact e
      · exact fsm_no h i (by omega) (by omega)
/-- The least list that begins with pre, has f numbers below n more, and all whose beginnings beyond pre are right. -/
def lexF (n : Nat) (ok : List Int → Bool) : Nat → List Int → Option (List Int)
  | 0, pre => some pre
  | f + 1, pre => fsm (fun k => if ok (pre ++ [(k : Int)]) then lexF n ok f (pre ++ [(k : Int)]) else none) n 0
def cand (n : Nat) (ok : List Int → Bool) (f : Nat) (pre : List Int) (k : Nat) : Option (List Int) := if ok (pre ++ [(k : Int)]) then lexF n ok f (pre ++ [(k : Int)]) else none
theorem lexF_succ (n : Nat) (ok : List Int → Bool) (f : Nat) (pre : List Int) : lexF n ok (f + 1) pre = fsm (cand n ok f pre) n 0 := rfl
theorem cand_no {n : Nat} {ok : List Int → Bool} {f : Nat} {pre : List Int} {k : Nat} (h : ok (pre ++ [(k : Int)]) = false) : cand n ok f pre k = none := by unfold cand; rw [h]; rfl
theorem cand_yes {n : Nat} {ok : List Int → Bool} {f : Nat} {pre : List Int} {k : Nat} (h : ok (pre ++ [(k : Int)]) = true) : cand n ok f pre k = lexF n ok f (pre ++ [(k : Int)]) := by unfold cand; rw [h]; rfl
/-- What is still to be found behind k: the candidates from k on. -/
def tryK (n : Nat) (ok : List Int → Bool) (f : Nat) (pre : List Int) (k : Nat) : Option (List Int) := fsm (cand n ok f pre) (n - k) k
theorem tryK_zero (n : Nat) (ok : List Int → Bool) (f : Nat) (pre : List Int) : tryK n ok f pre 0 = lexF n ok (f + 1) pre := rfl
theorem tryK_end {n : Nat} {ok : List Int → Bool} {f : Nat} {pre : List Int} {k : Nat} (h : n ≤ k) : tryK n ok f pre k = none := by unfold tryK; rw [show n - k = 0 by omega]; rfl
theorem tryK_none {n : Nat} {ok : List Int → Bool} {f : Nat} {pre : List Int} {k : Nat} (hk : k < n) (h : cand n ok f pre k = none) : tryK n ok f pre k = tryK n ok f pre (k + 1) := by
  unfold tryK; rw [show n - k = (n - (k + 1)) + 1 by omega, fsm_none h]
theorem tryK_some {n : Nat} {ok : List Int → Bool} {f : Nat} {pre : List Int} {k : Nat} {r : List Int} (hk : k < n) (h : cand n ok f pre k = some r) : tryK n ok f pre k = some r := by
  unfold tryK; rw [show n - k = (n - (k + 1)) + 1 by omega, fsm_some h]
/-- What the walk still finds: its list, from the end; the candidates behind the last number, then those behind the one before it .. -/
def contR (n : Nat) (ok : List Int → Bool) : List Int → Option (List Int)
  | [] => none
  | y :: rv => match tryK n ok (n - 1 - rv.length) rv.reverse (y + 1).toNat with
    | some r => some r
    | none => contR n ok rv
def cont (n : Nat) (ok : List Int → Bool) (o : List Int) : Option (List Int) := contR n ok o.reverse
theorem cont_nil (n : Nat) (ok : List Int → Bool) : cont n ok [] = none := rfl
theorem cont_snoc (n : Nat) (ok : List Int → Bool) (pre : List Int) (y : Int) : cont n ok (pre ++ [y]) = match tryK n ok (n - 1 - pre.length) pre (y + 1).toNat with | some r => some r | none => cont n ok pre := by
  unfold cont
  rw [List.reverse_append]
  simp only [List.reverse_cons, List.reverse_nil, List.nil_append, List.cons_append, contR, List.length_reverse, List.reverse_reverse]
theorem cont_start {n : Nat} {ok : List Int → Bool} (hn : 1 ≤ n) : cont n ok [-1] = lexF n ok n [] := by
  have h := cont_snoc n ok [] (-1)
  rw [List.nil_append] at h
  have e : ((-1 : Int) + 1).toNat = 0 := by decide
  rw [h, e, tryK_zero, List.length_nil, show n - 1 - 0 + 1 = n by omega]
  cases lexF n ok n [] <;> rfl
theorem cont_pop {n : Nat} {ok : List Int → Bool} {pre : List Int} {y : Int} (h : (n : Int) ≤ y + 1) : cont n ok (pre ++ [y]) = cont n ok pre := by
  rw [cont_snoc, tryK_end (by omega)]
theorem cont_step {n : Nat} {ok : List Int → Bool} {pre : List Int} {y : Int} (k : Nat) (hy : y + 1 = (k : Int)) (hk : k < n) (h : cand n ok (n - 1 - pre.length) pre k = none) : cont n ok (pre ++ [y]) = cont n ok (pre ++ [(k : Int)]) := by
  rw [cont_snoc, cont_snoc, hy, Int.toNat_natCast, tryK_none hk h]
  rfl
theorem cont_push {n : Nat} {ok : List Int → Bool} {pre : List Int} {y : Int} (k : Nat) (hy : y + 1 = (k : Int)) (hk : k < n) (hok : ok (pre ++ [(k : Int)]) = true) (hl : pre.length + 1 < n) : cont n ok (pre ++ [y]) = cont n ok ((pre ++ [(k : Int)]) ++ [-1]) := by
  have e : ((-1 : Int) + 1).toNat = 0 := by decide
  have hf : n - 1 - (pre ++ [(k : Int)]).length + 1 = n - 1 - pre.length := by simp; omega
  have hc : cand n ok (n - 1 - pre.length) pre k = lexF n ok (n - 1 - pre.length) (pre ++ [(k : Int)]) := cand_yes hok
  rw [cont_snoc, cont_snoc n ok (pre ++ [(k : Int)]) (-1), hy, Int.toNat_natCast, e, tryK_zero, hf, ← hc]
  cases hq : cand n ok (n - 1 - pre.length) pre k with
  | some r => rw [tryK_some hk hq]
  | none => rw [tryK_none hk hq, cont_snoc]; rfl
theorem cont_done {n : Nat} {ok : List Int → Bool} {pre : List Int} {y : Int} (k : Nat) (hy : y + 1 = (k : Int)) (hk : k < n) (hok : ok (pre ++ [(k : Int)]) = true) (hl : pre.length + 1 = n) : cont n ok (pre ++ [y]) = some (pre ++ [(k : Int)]) := by
  have hf : n - 1 - pre.length = 0 := by omega
  rw [cont_snoc, hy, Int.toNat_natCast, hf, tryK_some hk (r := pre ++ [(k : Int)]) (by rw [cand_yes hok]; rfl)]
/-- What the walk has still to do, as a number: for at most 10 elements. -/
def wgt (n : Nat) : Nat → List Int → Nat
  | _, [] => 0
  | l, y :: o => (n - 1 - y).toNat * 12 ^ (10 - l) + 1 + wgt n (l + 1) o
theorem wgt_snoc (n : Nat) : ∀ (l : Nat) (o : List Int) (y : Int), wgt n l (o ++ [y]) = wgt n l o + ((n - 1 - y).toNat * 12 ^ (10 - (l + o.length)) + 1)
  | l, [], y => by simp [wgt]
  | l, x :: o, y => by
    simp only [List.cons_append, wgt, wgt_snoc n (l + 1) o y, List.length_cons]
    rw [show l + 1 + o.length = l + (o.length + 1) by omega]; omega
theorem wgt_pop (n : Nat) (pre : List Int) (y : Int) : wgt n 0 pre < wgt n 0 (pre ++ [y]) := by rw [wgt_snoc]; omega
theorem wgt_step (n : Nat) (pre : List Int) (y : Int) (k : Nat) (hy : y + 1 = (k : Int)) (hk : k < n) : wgt n 0 (pre ++ [(k : Int)]) < wgt n 0 (pre ++ [y]) := by
  rw [wgt_snoc, wgt_snoc]
  have e : ((n : Int) - 1 - y).toNat = ((n : Int) - 1 - (k : Int)).toNat + 1 := by omega
  rw [e, Nat.succ_mul]
  have : 0 < 12 ^ (10 - (0 + pre.length)) := Nat.pow_pos (by decide)
  omega
theorem wgt_push (n : Nat) (pre : List Int) (y : Int) (k : Nat) (hy : y + 1 = (k : Int)) (hk : k < n) (hn : n ≤ 10) (hl : pre.length + 1 < n) : wgt n 0 ((pre ++ [(k : Int)]) ++ [-1]) < wgt n 0 (pre ++ [y]) := by
  rw [wgt_snoc, wgt_snoc, wgt_snoc]
  have e : ((n : Int) - 1 - y).toNat = ((n : Int) - 1 - (k : Int)).toNat + 1 := by omega
  have e2 : ((n : Int) - 1 - (-1)).toNat = n := by omega
  have e3 : 10 - (0 + pre.length) = (10 - (0 + (pre ++ [(k : Int)]).length)) + 1 := by simp; omega
  rw [e, e2, e3, Nat.succ_mul, Nat.pow_succ]
  generalize 10 - (0 + (pre ++ [(k : Int)]).length) = q
  have hq : 0 < 12 ^ q := Nat.pow_pos (by decide)
  generalize 12 ^ q = p at *
  have h1 : n * p ≤ 10 * p := Nat.mul_le_mul_right _ hn
  omega

/-- A list is right so far: its last number is new and fits. -/
def okL (cm : Bool) (x : List (List Int)) (o : List Int) : Bool := fitL cm x o (o.length - 1)
/-- The least right order of the elements of a group. -/
def lstO (cm : Bool) (x : List (List Int)) : Option (List Int) := lexF x.length (okL cm x) x.length []
theorem okL_snoc {cm : Bool} {x : List (List Int)} {pre : List Int} {y : Int} : okL cm x (pre ++ [y]) = (!decide (y ∈ pre) && fitK cm x (pre ++ [y]) pre.length) := by
  unfold okL
  have hl : (pre ++ [y]).length - 1 = pre.length := by simp
  have hy : (pre ++ [y]).getD pre.length 0 = y := by simp
  rw [hl, Bool.eq_iff_iff]
  unfold fitL fitK
  rw [allN_iff, Bool.and_eq_true, allN_iff, hy]
  constructor
  · intro h
    refine ⟨?_, fun i hi => by have := h i hi; rw [Bool.and_eq_true] at this; exact this.2⟩
    rw [Bool.not_eq_true', decide_eq_false_iff_not]
    intro hm
    obtain ⟨i, hi, e⟩ := List.getElem_of_mem hm
    have := h i hi
    rw [Bool.and_eq_true, Bool.not_eq_true', decide_eq_false_iff_not] at this
    apply this.1
    rw [List.getD_eq_getElem?_getD, List.getElem?_append_left hi]
    simp [hi, e]
  · rintro ⟨h1, h2⟩ i hi
    rw [Bool.and_eq_true]
    refine ⟨?_, h2 i hi⟩
    rw [Bool.not_eq_true', decide_eq_false_iff_not] at h1 ⊢
    intro e
    apply h1
    rw [← e, List.getD_eq_getElem?_getD, List.getElem?_append_left hi]
    simp [hi]
/-- A found list begins with pre and has the numbers below n, each beginning right. -/
theorem lexF_some {n : Nat} {ok : List Int → Bool} : ∀ {f : Nat} {pre r : List Int}, lexF n ok f pre = some r → ∃ t, r = pre ++ t ∧ t.length = f ∧ (∀ z ∈ t, 0 ≤ z ∧ z < n) ∧ ∀ j, j < f → ok (r.take (pre.length + j + 1)) = true
  | 0, pre, r, h => by
    simp [lexF] at h
    exact ⟨[], by simp [h], rfl, by simp, fun j hj => by omega⟩
  | f + 1, pre, r, h => by
    rw [lexF_succ] at h
    obtain ⟨k, _, hk, hc, _⟩ := fsm_ok h
    unfold cand at hc
    by_cases ho : ok (pre ++ [(k : Int)]) = true
    · rw [if_pos ho] at hc
      obtain ⟨t, h1, h2, h3, h4⟩ := lexF_some hc
      refine ⟨(k : Int) :: t, by rw [h1]; simp, by simp [h2], fun z hz => ?_, fun j hj => ?_⟩
      · rcases List.mem_cons.1 hz with rfl | hz
        · omega
        · exact h3 z hz
      · cases j with
        | zero =>
          have : r.take (pre.length + 0 + 1) = pre ++ [(k : Int)] := by
            rw [h1]; simp [List.take_append, List.take_of_length_le]
          rw [this]; exact ho
        | succ j =>
          have := h4 j (by omega)
          rw [List.length_append, List.length_singleton, show pre.length + 1 + j + 1 = pre.length + (j + 1) + 1 by omega] at this
          exact this
    · rw [if_neg ho] at hc; simp at hc
end Go.Proofs.Ytghmpaegmicheaa
