/- Permutations of 0..n-1, in plain numbers. -/
import Derived.Test.YthcnhkjiojeemaaDrawO
namespace Go.Proofs.Ythcnhkjiojeemaa
open Go.RowKit

theorem perm_len {xs : List Int} {n : Nat} (h : xs.Perm (upN n)) : xs.length = n := by rw [h.length_eq, upN_len]
theorem perm_bd {xs : List Int} {n : Nat} (h : xs.Perm (upN n)) {i : Nat} (hi : i < n) : 0 ≤ xs.getD i 0 ∧ xs.getD i 0 < n := by
  have hl := perm_len h
  have : xs.getD i 0 ∈ xs := by rw [show xs.getD i 0 = xs[i] by simp [show i < xs.length by omega]]; exact List.getElem_mem _
  exact mem_upN.1 (h.mem_iff.1 this)
theorem upN_nodup (n : Nat) : (upN n).Nodup := by
  unfold upN
  exact List.pairwise_map.2 (List.nodup_range.imp fun h e => h (Int.ofNat.inj e))
theorem perm_inj {xs : List Int} {n : Nat} (h : xs.Perm (upN n)) {i j : Nat} (hi : i < n) (hj : j < n) (e : xs.getD i 0 = xs.getD j 0) : i = j := by
  have hl := perm_len h
  have hn : xs.Nodup := h.nodup_iff.2 (upN_nodup n)
  rw [show xs.getD i 0 = xs[i]'(by omega) by simp [show i < xs.length by omega], show xs.getD j 0 = xs[j]'(by omega) by simp [show j < xs.length by omega]] at e
  exact (List.getElem_inj hn).1 e
theorem perm_sur {xs : List Int} {n : Nat} (h : xs.Perm (upN n)) {z : Int} (hz : 0 ≤ z ∧ z < n) : ∃ i, i < n ∧ xs.getD i 0 = z := by
  have hl := perm_len h
  have := h.mem_iff.2 (mem_upN.2 hz)
  obtain ⟨i, hi, e⟩ := List.getElem_of_mem this
  exact ⟨i, by omega, by simp [hi, e]⟩
end Go.Proofs.Ythcnhkjiojeemaa
