/- Patterns as texts: their widths, in plain numbers. -/
import Derived.Test.YtjjohniabgamjaaRead
namespace Go.Proofs.Ytjjohniabgamjaa
open Go.RowKit

def isum : List Int → Int
  | [] => 0
  | x :: xs => x + isum xs
theorem isum_append (xs ys : List Int) : isum (xs ++ ys) = isum xs + isum ys := by
  induction xs with
  | nil => simp [isum]
  | cons x xs ih => simp only [List.cons_append, isum, ih]; omega
theorem isum_bd (b : Int) : ∀ xs : List Int, (∀ x ∈ xs, 0 ≤ x ∧ x ≤ b) → 0 ≤ isum xs ∧ isum xs ≤ xs.length * b
  | [], _ => by simp [isum]
  | x :: xs, h => by
    have h1 := h x (by simp)
    have h2 := isum_bd b xs fun y hy => h y (by simp [hy])
    have h3 : ((xs.length + 1 : Nat) : Int) * b = xs.length * b + b := by rw [Int.natCast_add, Int.add_mul]; simp
    simp only [isum, List.length_cons, h3]
    omega
theorem isum_snoc (xs : List Int) (k : Nat) (h : k < xs.length) : isum (xs.take (k + 1)) = isum (xs.take k) + xs.getD k 0 := by
  rw [List.take_succ_eq_append_getElem h, isum_append]
  simp [isum, h]
theorem take_snoc (xs : List Int) (k : Nat) (h : k < xs.length) : xs.take (k + 1) = xs.take k ++ [xs.getD k 0] := by
  rw [List.take_succ_eq_append_getElem h]; simp [h]
theorem isum_take_bd (b : Int) (xs : List Int) (k : Nat) (hb : 0 ≤ b) (h : ∀ x ∈ xs, 0 ≤ x ∧ x ≤ b) : 0 ≤ isum (xs.take k) ∧ isum (xs.take k) ≤ k * b := by
  have h1 := isum_bd b (xs.take k) fun x hx => h x (List.mem_of_mem_take hx)
  have h2 : ((xs.take k).length : Int) * b ≤ k * b := Int.mul_le_mul_of_nonneg_right (by simp; omega) hb
  omega

/-- The widths of a pattern's text. -/
def pw (p : ByteArray) : List Int := p.data.toList.map fun b => (b.toNat : Int) - 48
theorem pw_len (p : ByteArray) : (pw p).length = p.size := by simp [pw]
theorem pw_get (p : ByteArray) (i : Nat) (h : i < p.size) : (pw p).getD i 0 = (p[i].toNat : Int) - 48 := by
  have h' : i < p.data.toList.length := by simpa using h
  have e : (pw p).getD i 0 = ((p.data.toList[i]'h').toNat : Int) - 48 := by
    unfold pw
    rw [List.getD_eq_getElem?_getD, List.getElem?_map, List.getElem?_eq_getElem h']
    rfl
  rw [e]
  simp [Array.getElem_toList]
  rfl
def okB (p : ByteArray) : Bool := p.data.toList.all fun b => decide (49 ≤ b.toNat) && decide (b.toNat ≤ 52)
theorem okB_iff (p : ByteArray) : okB p = true ↔ ∀ i (h : i < p.size), 49 ≤ p[i].toNat ∧ p[i].toNat ≤ 52 := by
  unfold okB
  rw [List.all_eq_true]
  constructor
  · intro h i hi
    have := h p[i] (by show p.data[i] ∈ _; simp)
    simpa using this
  · intro h b hb
    obtain ⟨i, hi, rfl⟩ := List.getElem_of_mem hb
    have := h i (by simpa using hi)
    simp only [Array.getElem_toList, Bool.and_eq_true, decide_eq_true_eq]
    exact this
/-- The text is a pattern. -/
def pok (p : ByteArray) : Bool := okB p && (inB p.size 1 10 && decide (isum (pw p) ≤ 20))
theorem pw_in (p : ByteArray) (h : okB p = true) : ∀ x ∈ pw p, 1 ≤ x ∧ x ≤ 4 := by
  intro x hx
  unfold pw at hx
  unfold okB at h
  rw [List.all_eq_true] at h
  obtain ⟨b, hb, rfl⟩ := List.mem_map.1 hx
  have := h b hb
  simp only [Bool.and_eq_true, decide_eq_true_eq] at this
  omega
theorem pok_okB {p : ByteArray} (h : pok p = true) : okB p = true := by unfold pok at h; simp only [Bool.and_eq_true] at h; exact h.1
theorem pok_size {p : ByteArray} (h : pok p = true) : 1 ≤ p.size ∧ p.size ≤ 10 := by
  unfold pok inB at h
  simp only [Bool.and_eq_true, decide_eq_true_eq] at h
  omega
end Go.Proofs.Ytjjohniabgamjaa
