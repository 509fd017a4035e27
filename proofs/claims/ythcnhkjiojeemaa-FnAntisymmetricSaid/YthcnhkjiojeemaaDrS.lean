/- l04Rename, l04DrawSized: drawn quasigroups. -/
import Derived.Test.YthcnhkjiojeemaaRow
import Derived.Test.YthcnhkjiojeemaaSchM
import Derived.Test.YthcnhkjiojeemaaDrawQ
import Derived.Test.YthcnhkjiojeemaaPrm
import Derived.Test.YthcnhkjiojeemaaDrA
import Derived.Test.YthcnhkjiojeemaaQgS
import Derived.Deep.QuietTactic
import Derived.BigQuiet
namespace Go.Proofs.Ythcnhkjiojeemaa
open Go.RowKit

/-- f before (i, j), g behind. -/
def upG (f g : Nat → Nat → Int) (i j : Nat) : Nat → Nat → Int := fun a b => if a < i ∨ (a = i ∧ b < j) then f a b else g a b
theorem upG_step (f g : Nat → Nat → Int) (i j a b : Nat) : upd (upG f g i j) i j (f i j) a b = upG f g i (j + 1) a b := by
  unfold upd upG
  by_cases h : a = i ∧ b = j
  · obtain ⟨rfl, rfl⟩ := h
    rw [if_pos ⟨rfl, rfl⟩, if_pos (.inr ⟨rfl, by omega⟩)]
  · rw [if_neg h]
    by_cases h2 : a < i ∨ (a = i ∧ b < j)
    · rw [if_pos h2, if_pos (by omega)]
    · rw [if_neg h2, if_neg (by omega)]
theorem upG_row {n : Nat} (f g : Nat → Nat → Int) (i a b : Nat) (hb : b < n) : upG f g i n a b = upG f g (i + 1) 0 a b := by
  unfold upG
  by_cases h : a < i ∨ (a = i ∧ b < n)
  · rw [if_pos h, if_pos (by omega)]
  · rw [if_neg h, if_neg (by omega)]
theorem upG_all {n : Nat} (f g : Nat → Nat → Int) (a b : Nat) (ha : a < n) : upG f g n 0 a b = f a b := by unfold upG; rw [if_pos (.inl ha)]
theorem upG_none (f g : Nat → Nat → Int) (a b : Nat) : upG f g 0 0 a b = g a b := by unfold upG; rw [if_neg (by omega)]
theorem rep_mk (n : Nat) : List.replicate n (List.replicate n (0 : Int)) = mkT n (fun _ _ => 0) := by
  unfold mkT
  apply List.ext_getElem (by simp)
  intro i h1 h2
  simp
  apply List.ext_getElem (by simp)
  intro j h3 h4
  simp
/-- u is t with rows, columns and numbers named anew. -/
def Ren (n : Nat) (t u : Nat → Nat → Int) (rs cs vs : List Int) : Prop := ∀ i j, i < n → j < n → u (rs.getD i 0).toNat (cs.getD j 0).toNat = vs.getD (t i j).toNat 0
theorem ren_qg {n : Nat} {t u : Nat → Nat → Int} {rs cs vs : List Int} (hr : rs.Perm (upN n)) (hc : cs.Perm (upN n)) (hv : vs.Perm (upN n)) (h : Ren n t u rs cs vs) (q : Qg n t) : Qg n u := by
  have key : ∀ a b, a < n → b < n → ∃ i j, i < n ∧ j < n ∧ rs.getD i 0 = (a : Int) ∧ cs.getD j 0 = (b : Int) ∧ u a b = vs.getD (t i j).toNat 0 := fun a b ha hb => by
    obtain ⟨i, hi, e1⟩ := perm_sur hr (z := a) (by omega)
    obtain ⟨j, hj, e2⟩ := perm_sur hc (z := b) (by omega)
    have := h i j hi hj
    rw [e1, e2] at this
    exact ⟨i, j, hi, hj, e1, e2, by simpa using this⟩
  have hinj : ∀ i j i' j', i < n → j < n → i' < n → j' < n → vs.getD (t i j).toNat 0 = vs.getD (t i' j').toNat 0 → t i j = t i' j' := fun i j i' j' hi hj hi' hj' e => by
    have h1 := q.bd i j hi hj
    have h2 := q.bd i' j' hi' hj'
    have := perm_inj hv (q.nat hi hj) (q.nat hi' hj') e
    omega
  refine ⟨fun a b ha hb => ?_, fun a b c ha hbc hcn => ?_, fun a b c ha hbc hcn => ?_⟩
  · obtain ⟨i, j, hi, hj, _, _, e⟩ := key a b ha hb
    rw [e]
    exact perm_bd hv (q.nat hi hj)
  · obtain ⟨i, j, hi, hj, e1, e2, e3⟩ := key a b ha (by omega)
    obtain ⟨i', j', hi', hj', e4, e5, e6⟩ := key a c ha hcn
    intro e
    rw [e3, e6] at e
    have ht := hinj i j i' j' hi hj hi' hj' e
    obtain rfl : i = i' := perm_inj hr hi hi' (by rw [e1, e4])
    rcases Nat.lt_trichotomy j j' with h1 | h1 | h1
    · exact q.row i j j' hi h1 hj' ht
    · subst h1; omega
    · exact q.row i j' j hi h1 hj ht.symm
  · obtain ⟨i, j, hi, hj, e1, e2, e3⟩ := key b a (by omega) ha
    obtain ⟨i', j', hi', hj', e4, e5, e6⟩ := key c a hcn ha
    intro e
    rw [e3, e6] at e
    have ht := hinj i j i' j' hi hj hi' hj' e
    obtain rfl : j = j' := perm_inj hc hj hj' (by rw [e2, e5])
    rcases Nat.lt_trichotomy i i' with h1 | h1 | h1
    · exact q.col j i i' hj h1 hi' ht
    · subst h1; omega
    · exact q.col j i' i hj h1 hi ht.symm
end Go.Proofs.Ythcnhkjiojeemaa
