/- l01DrawOrder, B10Order: a drawn order of n things is a permutation of 0..n-1. -/
import Derived.Test.YthcnhkjiojeemaaFrom
namespace Go.Proofs.Ythcnhkjiojeemaa
open Go.RowKit

def upN (n : Nat) : List Int := (List.range n).map fun (i : Nat) => (i : Int)
theorem upN_len (n : Nat) : (upN n).length = n := by simp [upN]
theorem upN_snoc (n : Nat) : upN n ++ [(n : Int)] = upN (n + 1) := by simp [upN, List.range_succ]
theorem mem_upN {n : Nat} {z : Int} : z ∈ upN n ↔ 0 ≤ z ∧ z < n := by
  unfold upN
  rw [List.mem_map]
  constructor
  · rintro ⟨i, hi, rfl⟩; rw [List.mem_range] at hi; omega
  · rintro ⟨h1, h2⟩; exact ⟨z.toNat, by rw [List.mem_range]; omega, by omega⟩
def swq (l : List Int) (i k : Nat) : List Int := (l.set i (l.getD k 0)).set k (l.getD i 0)
theorem swq_perm (l : List Int) (i k : Nat) (hi : i < l.length) (hk : k < l.length) : (swq l i k).Perm l := by
  have h := List.set_set_perm hi hk
  unfold swq
  rw [show l.getD k 0 = l[k] by simp [hk], show l.getD i 0 = l[i] by simp [hi]]
  exact h
theorem swq_len (l : List Int) (i k : Nat) : (swq l i k).length = l.length := by simp [swq]

def DrawPost (p m n : Nat) (w : World) (e : Ending) (w' : World) : Prop := ∃ v' xs, e = .returned v' ∧ OI w.heap.size w' v' xs ∧ xs.Perm (upN n) ∧ Src p (m + n) w' ∧ Chg [p] w w'
end Go.Proofs.Ythcnhkjiojeemaa
