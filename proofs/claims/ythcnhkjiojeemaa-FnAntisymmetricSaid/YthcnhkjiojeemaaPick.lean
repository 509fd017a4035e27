/- The source of choices, as a predicate of its box that every call keeps: next, pick, one. -/
import Derived.Test.YthcnhkjiojeemaaSrc
namespace Go.Proofs.Ythcnhkjiojeemaa
open Go.RowKit

/-- Block p is a source over some code in blocks below p, that has given at most m numbers. -/
def Src (p m : Nat) (w : World) : Prop := ∃ (xs : List Int) (a : Option Addr) (c n : Nat) (q : Int), xs.length ≤ 1048576 ∧ n ≤ m ∧
  (∀ j, j < xs.length → ∃ g off, a = some ⟨g, off, none⟩ ∧ g < p ∧ w.cell? ⟨g, off + j, none⟩ = some (.int .u8 (xs.getD j 0)) ∧ 0 ≤ xs.getD j 0 ∧ xs.getD j 0 ≤ 255) ∧
  w.cell? ⟨p, 0, none⟩ = some (.slice a xs.length c) ∧ w.cell? ⟨p, 1, none⟩ = some (.int .i64 n) ∧ w.cell? ⟨p, 2, none⟩ = some (.int .u64 q) ∧
  w.frozen? ⟨p, 1, none⟩ = false ∧ w.frozen? ⟨p, 2, none⟩ = false ∧ p < w.heap.size
theorem cell_keep {w w' : World} {k o : Nat} (h : w'.heap[k]? = w.heap[k]?) : w'.cell? ⟨k, o, none⟩ = w.cell? ⟨k, o, none⟩ := by
  unfold World.cell?; simp only [h]
theorem frozen_keep {w w' : World} {k o : Nat} (h : w'.heap[k]? = w.heap[k]?) : w'.frozen? ⟨k, o, none⟩ = w.frozen? ⟨k, o, none⟩ := by
  unfold World.frozen?; simp only [h]
theorem Src.lt {p m : Nat} {w : World} (h : Src p m w) : p < w.heap.size := by
  obtain ⟨_, _, _, _, _, _, _, _, _, _, _, _, _, h⟩ := h; exact h
theorem Src.mono {p m m' : Nat} {w : World} (h : Src p m w) (hm : m ≤ m') : Src p m' w := by
  obtain ⟨xs, a, c, n, q, h1, h2, h3⟩ := h; exact ⟨xs, a, c, n, q, h1, by omega, h3⟩
theorem Src.keep {p m : Nat} {w w' : World} (h : Src p m w) (hk : ∀ k, k ≤ p → w'.heap[k]? = w.heap[k]?) (hs : w.heap.size ≤ w'.heap.size) : Src p m w' := by
  obtain ⟨xs, a, c, n, q, h1, h2, h3, h4, h5, h6, h7, h8, h9⟩ := h
  refine ⟨xs, a, c, n, q, h1, h2, fun j hj => ?_, by rw [cell_keep (hk p (Nat.le_refl _))]; exact h4, by rw [cell_keep (hk p (Nat.le_refl _))]; exact h5, by rw [cell_keep (hk p (Nat.le_refl _))]; exact h6, by rw [frozen_keep (hk p (Nat.le_refl _))]; exact h7, by rw [frozen_keep (hk p (Nat.le_refl _))]; exact h8, by omega⟩
  obtain ⟨g, off, e, hg, hc, hb⟩ := h3 j hj
  exact ⟨g, off, e, hg, by rw [cell_keep (hk g (by omega))]; exact hc, hb⟩
theorem Src.later {p m : Nat} {w w' : World} (h : Src p m w) (hb : Below w.heap.size w w') : Src p m w' :=
  h.keep (fun k hk => hb.block k (by have := h.lt; omega)) hb.size
theorem Src.below {p m B : Nat} {w w' : World} (h : Src p m w) (hb : Below B w w') (hB : p < B) : Src p m w' :=
  h.keep (fun k hk => hb.block k (by omega)) hb.size

def NxPost (p m : Nat) (w : World) (e : Ending) (w' : World) : Prop := ∃ z : Int, e = .returned (.int .i64 z) ∧ (0 ≤ z ∧ z ≤ 255) ∧ Src p (m + 1) w' ∧ Chg [p] w w'
theorem next_any (p m : Nat) (w : World) (h : Src p m w) (hm : m ≤ 1048576) :
    Calls Try.prog 57 #[.pointer (some ⟨p, 0, none⟩)] w (NxPost p m w) := by
  obtain ⟨xs, a, c, n, q, h1, h2, h3, h4, h5, h6, h7, h8, h9⟩ := h
  have key : Calls Try.prog 57 #[.pointer (some ⟨p, 0, none⟩)] w (NextPost n p w) := by
    by_cases hn : n < xs.length
    · obtain ⟨g, off, rfl, hg, hc, hb⟩ := h3 n hn
      exact next_near g off xs.length c n _ q p w h1 hn h4 h5 h6 h7 h8 hb hc
    · exact next_far a xs.length c n q p w h1 (by omega) h4 h5 h6 h7 h8
  refine key.mono ?_
  rintro e w' ⟨z, q', d, d', rfl, hz, rfl⟩
  have hh : ∀ k, k ≠ p → ((((w.drewN d).setCell ⟨p, 1, none⟩ (.int .i64 ((n : Int) + 1))).setCell ⟨p, 2, none⟩ (.int .u64 q')).drewN d').heap[k]? = w.heap[k]? := fun k hk => by
    show (((w.drewN d).setCell ⟨p, 1, none⟩ (.int .i64 ((n : Int) + 1))).setCell ⟨p, 2, none⟩ (.int .u64 q')).heap[k]? = _
    rw [heap_setCell_other _ _ _ _ hk, heap_setCell_other _ _ _ _ hk]; rfl
  have hs : w.heap.size ≤ ((((w.drewN d).setCell ⟨p, 1, none⟩ (.int .i64 ((n : Int) + 1))).setCell ⟨p, 2, none⟩ (.int .u64 q')).drewN d').heap.size := by simp
  refine ⟨z, rfl, hz, ⟨xs, a, c, n + 1, q', h1, by omega, fun j hj => ?_, ?_, ?_, ?_, ?_, ?_, by omega⟩, ?_⟩
  · obtain ⟨g, off, e, hg, hc, hb⟩ := h3 j hj
    exact ⟨g, off, e, hg, by rw [cell_keep (hh g (by omega))]; exact hc, hb⟩
  · rw [World.cell?_drewN, World.cell?_setCell_other (h := by simp), World.cell?_setCell_other (h := by simp)]; exact h4
  · rw [World.cell?_drewN, World.cell?_setCell_other (h := by simp), World.cell?_setCell_same (u := .int .i64 n) (h := by simpa using h5)]; simp
  · rw [World.cell?_drewN, World.cell?_setCell_same (u := .int .u64 q) (h := by rw [World.cell?_setCell_other (h := by simp)]; exact h6)]
  · simpa using h7
  · simpa using h8
  · exact ⟨rfl, rfl, rfl, hs, fun k hk hn => hh k (by simpa using hn)⟩

def PickPost (p m : Nat) (n : Int) (w : World) (e : Ending) (w' : World) : Prop := ∃ z : Int, e = .returned (.int .i64 z) ∧ (0 ≤ z ∧ z < n) ∧ Src p (m + 1) w' ∧ Chg [p] w w'
theorem pick_any (p m : Nat) (n : Int) (w : World) (h : Src p m w) (hm : m ≤ 1048576) (hn : 1 ≤ n ∧ n ≤ 200) :
    Calls Try.prog 30 #[.pointer (some ⟨p, 0, none⟩), .int .i64 n] w (PickPost p m n w) := by
  by_cases h1 : n ≤ 1
  · go_enter Try.func30, Try.ntmps30
    go_wp2_with fail
    go_ret
    exact ⟨0, rfl, by omega, h.mono (by omega), Chg.refl _ _⟩
  · have h2 : ¬ n > 200 := by omega
    have h3 : ¬ n = 0 := by omega
    go_enter Try.func30, Try.ntmps30
    go_wp2_with fail
    refine (next_any p m _ h hm).mono ?_
    rintro e w' ⟨z, rfl, hz, hs, hc⟩
    go_wp2_with fail
    go_ret
    exact ⟨_, rfl, ⟨Int.emod_nonneg _ (by omega), Int.emod_lt_of_pos _ (by omega)⟩, hs, hc⟩
end Go.Proofs.Ythcnhkjiojeemaa
