/- A square table that the call owns, by the numbers of its blocks and a function. -/
import Derived.Test.YthcnhkjiojeemaaTotM
import Derived.Test.YthcnhkjiojeemaaMade
namespace Go.Proofs.Ythcnhkjiojeemaa
open Go.RowKit

structure TbAt (B S G : Nat) (H P : Nat → Nat) (C n : Nat) (t : Nat → Nat → Int) (w : World) : Prop where
  gb : B ≤ G ∧ G < S
  hb : ∀ i, i < n → B ≤ H i ∧ H i < S ∧ H i ≠ G
  inj : ∀ i j, i < n → j < n → i ≠ j → H i ≠ H j
  row : ∀ i, i < n → w.cell? ⟨G, i, none⟩ = some (.slice (some ⟨H i, 0, none⟩) n (P i))
  cell : ∀ i j, i < n → j < n → w.cell? ⟨H i, j, none⟩ = some (.int .i64 (t i j))
  fr : ∀ i j, i < n → j < n → w.frozen? ⟨H i, j, none⟩ = false
  sz : S ≤ w.heap.size
  cap : (n ≤ C ∧ C ≤ maxLen) ∧ ∀ i, i < n → n ≤ P i ∧ P i ≤ maxLen
def upd (t : Nat → Nat → Int) (x y : Nat) (z : Int) : Nat → Nat → Int := fun i j => if i = x ∧ j = y then z else t i j
theorem upd_same (t : Nat → Nat → Int) (x y : Nat) (z : Int) : upd t x y z x y = z := by unfold upd; rw [if_pos ⟨rfl, rfl⟩]
theorem upd_other (t : Nat → Nat → Int) {x y i j : Nat} (z : Int) (h : ¬ (i = x ∧ j = y)) : upd t x y z i j = t i j := by unfold upd; rw [if_neg h]
theorem upd_upd (t : Nat → Nat → Int) (x y : Nat) (z z' : Int) : upd (upd t x y z) x y z' = upd t x y z' := by
  funext i j; unfold upd; split <;> rfl
theorem tb_mk {n : Nat} {t : Nat → Nat → Int} {i j : Nat} (hi : i < n) (hj : j < n) : tb (mkT n t) i j = t i j := mkT_get n t i j hi hj
theorem mkT_tb {x : List (List Int)} (h : ∀ i, i < x.length → (rowAt x i).length = x.length) : mkT x.length (tb x) = x := by
  refine ext_rows (mkT_len _ _) fun i hi => ?_
  rw [mkT_len] at hi
  rw [mkT_row _ _ _ hi]
  apply List.ext_getElem (by simp [h i hi])
  intro j h1 h2
  simp [tb, h2]
section
variable {B S G : Nat} {H P : Nat → Nat} {C n : Nat} {t : Nat → Nat → Int} {w w' : World}
theorem TbAt.sq (h : TbAt B S G H P C n t w) : SqAt G 0 H (fun _ => 0) P (mkT n t) w := by
  refine ⟨fun i hi => ?_, fun i j hi hj => ?_⟩
  · rw [mkT_len] at hi ⊢
    rw [Nat.zero_add]; exact h.row i hi
  · rw [mkT_len] at hi hj
    rw [Nat.zero_add, tb_mk hi hj]; exact h.cell i j hi hj
theorem TbAt.read (h : TbAt B S G H P C n t w) : RT w (.slice (some ⟨G, 0, none⟩) n C) (mkT n t) := by
  refine ⟨(List.range n).map fun i => .slice (some ⟨H i, 0, none⟩) n (P i), ⟨some ⟨G, 0, none⟩, C, by simp, by simp; exact h.cap.1, fun j hj => ?_⟩, by simp [mkT_len], fun j hj => ?_⟩
  · have hj' : j < n := by simpa using hj
    exact ⟨G, 0, rfl, by rw [Nat.zero_add, h.row j hj']; simp [hj']⟩
  · rw [mkT_len] at hj
    have e : ((List.range n).map fun i => Value.slice (some ⟨H i, 0, none⟩) n (P i)).getD j nl = .slice (some ⟨H j, 0, none⟩) n (P j) := by simp [hj]
    rw [e]
    have hl := mkT_rowlen n t j hj
    refine ⟨some ⟨H j, 0, none⟩, P j, by simp [hl], by simp [hl]; exact h.cap.2 j hj, fun i hi => ?_⟩
    have hi' : i < n := by simpa [hl] using hi
    refine ⟨H j, 0, rfl, ?_⟩
    rw [Nat.zero_add, h.cell j i hj hi']
    simp [mkT_row n t j hj, hi']
theorem TbAt.rowRead (h : TbAt B S G H P C n t w) (j : Nat) (hj : j < n) : RI w (.slice (some ⟨H j, 0, none⟩) n (P j)) (rowAt (mkT n t) j) := by
  have hl := mkT_rowlen n t j hj
  refine ⟨some ⟨H j, 0, none⟩, P j, by simp [hl], by simp [hl]; exact h.cap.2 j hj, fun i hi => ?_⟩
  have hi' : i < n := by simpa [hl] using hi
  refine ⟨H j, 0, rfl, ?_⟩
  rw [Nat.zero_add, h.cell j i hj hi']
  simp [mkT_row n t j hj, hi']
theorem TbAt.keep (h : TbAt B S G H P C n t w) (hk : ∀ k, B ≤ k → k < S → w'.heap[k]? = w.heap[k]?) (hs : S ≤ w'.heap.size) : TbAt B S G H P C n t w' := by
  have e : ∀ k o, B ≤ k → k < S → w'.cell? ⟨k, o, none⟩ = w.cell? ⟨k, o, none⟩ := fun k o h1 h2 => by unfold World.cell?; simp only [hk k h1 h2]
  have f : ∀ k o, B ≤ k → k < S → w'.frozen? ⟨k, o, none⟩ = w.frozen? ⟨k, o, none⟩ := fun k o h1 h2 => by unfold World.frozen?; simp only [hk k h1 h2]
  exact ⟨h.gb, h.hb, h.inj, fun i hi => (e _ _ h.gb.1 h.gb.2).trans (h.row i hi), fun i j hi hj => (e _ _ (h.hb i hi).1 (h.hb i hi).2.1).trans (h.cell i j hi hj), fun i j hi hj => (f _ _ (h.hb i hi).1 (h.hb i hi).2.1).trans (h.fr i j hi hj), hs, h.cap⟩
theorem TbAt.later (h : TbAt B S G H P C n t w) (hb : Below w.heap.size w w') : TbAt B S G H P C n t w' :=
  h.keep (fun k _ h2 => hb.block k (Nat.lt_of_lt_of_le h2 h.sz)) (Nat.le_trans h.sz hb.size)
theorem TbAt.chgR {B0 S0 : Nat} (h : TbAt B S G H P C n t w) (hc : ChgR B0 S0 w w') (hd : S0 ≤ B ∨ S ≤ B0) : TbAt B S G H P C n t w' :=
  h.keep (fun k h1 h2 => hc.block k (Nat.lt_of_lt_of_le h2 h.sz) (by omega)) (Nat.le_trans h.sz hc.size)
theorem TbAt.chg {l : List Nat} (h : TbAt B S G H P C n t w) (hc : Chg l w w') (hd : ∀ k ∈ l, k < B ∨ S ≤ k) : TbAt B S G H P C n t w' :=
  h.keep (fun k h1 h2 => hc.block k (Nat.lt_of_lt_of_le h2 h.sz) (fun hm => by have := hd k hm; omega)) (Nat.le_trans h.sz hc.size)
theorem TbAt.congr {t' : Nat → Nat → Int} (h : TbAt B S G H P C n t w) (e : ∀ i j, i < n → j < n → t i j = t' i j) : TbAt B S G H P C n t' w :=
  ⟨h.gb, h.hb, h.inj, h.row, fun i j hi hj => by rw [← e i j hi hj]; exact h.cell i j hi hj, h.fr, h.sz, h.cap⟩
theorem TbAt.store (h : TbAt B S G H P C n t w) (x y : Nat) (hx : x < n) (hy : y < n) (z : Int) :
    TbAt B S G H P C n (upd t x y z) (w.setCell ⟨H x, y, none⟩ (.int .i64 z)) ∧ ChgR B S w (w.setCell ⟨H x, y, none⟩ (.int .i64 z)) := by
  have hbx := h.hb x hx
  have hsz : (w.setCell ⟨H x, y, none⟩ (.int .i64 z)).heap.size = w.heap.size := by simp
  have hot : ∀ k, k ≠ H x → (w.setCell ⟨H x, y, none⟩ (.int .i64 z)).heap[k]? = w.heap[k]? := fun k hk => heap_setCell_other _ _ _ _ hk
  refine ⟨⟨h.gb, h.hb, h.inj, fun i hi => ?_, fun i j hi hj => ?_, fun i j hi hj => ?_, by rw [hsz]; exact h.sz, h.cap⟩, ?_⟩
  · have := hot G (fun e => hbx.2.2 e.symm)
    rw [← h.row i hi]
    unfold World.cell?
    simp only [this]
  · by_cases e : i = x
    · subst e
      by_cases ey : j = y
      · subst ey
        rw [upd_same]
        exact World.cell?_setCell_same (h := h.cell i j hi hj) ..
      · rw [upd_other _ _ (by omega), ← h.cell i j hi hj]
        exact World.cell?_setCell_other (h := by intro e2; simp only [Addr.mk.injEq, and_true] at e2; omega) ..
    · rw [upd_other _ _ (by omega), ← h.cell i j hi hj]
      have := hot (H i) (h.inj i x hi hx e)
      unfold World.cell?
      simp only [this]
  · rw [World.frozen?_setCell]; exact h.fr i j hi hj
  · refine ⟨rfl, rfl, rfl, by rw [hsz]; exact Nat.le_refl _, fun k hk hn => hot k (fun e => by subst e; omega)⟩
end
theorem OT.tbl {B S : Nat} {w : World} {v : Value} {n : Nat} {t : Nat → Nat → Int} (h : OT B S w v (mkT n t)) (hn : 1 ≤ n) (hS : S ≤ w.heap.size) :
    ∃ G H P C, v = .slice (some ⟨G, 0, none⟩) n C ∧ TbAt B S G H P C n t w := by
  obtain ⟨rs, h1, h2, hl, h3⟩ := h
  rw [mkT_len] at hl h3
  have hcap1 := h1.capOk
  obtain ⟨a, C, rfl⟩ := h1.slice
  obtain ⟨G, rfl, hBG, _⟩ := h1.at 0 (by omega)
  have hrow : ∀ i : Nat, ∃ q : Nat × Nat, i < n → rs.getD i nl = .slice (some ⟨q.1, 0, none⟩) n q.2 ∧ B ≤ q.1 ∧ q.1 < S ∧ q.1 ≠ G ∧ (n ≤ q.2 ∧ q.2 ≤ maxLen) ∧
      (∀ j, j < n → w.cell? ⟨q.1, j, none⟩ = some (.int .i64 (t i j)) ∧ w.frozen? ⟨q.1, j, none⟩ = false) ∧ ∀ k, k < i → (rs.getD k nl).ownBlock ≠ some q.1 := by
    intro i
    by_cases hi : i < n
    · obtain ⟨ho, hk, hne⟩ := h3 i hi
      have hlen := mkT_rowlen n t i hi
      have hcap2 := ho.capOk
      obtain ⟨ra, rc, hr⟩ := ho.slice
      rw [hlen] at hr
      rw [hr] at ho hk hne hcap2
      obtain ⟨g, rfl, hBg, _⟩ := ho.at 0 (by omega)
      have hk2 := hk g rfl
      refine ⟨(g, rc), fun _ => ⟨hr, hBg, hk2.1, fun e => hk2.2 (by simp [Value.ownBlock]; exact e.symm), ?_, fun j hj => ⟨?_, ho.frozen j⟩, fun k hki => hne k hki g rfl⟩⟩
      · have := hcap2 _ _ _ rfl
        simpa [hlen] using this
      · obtain ⟨g', e, _, hc⟩ := ho.at j (by omega)
        simp only [Option.some.injEq, Addr.mk.injEq, and_true] at e
        subst e
        rw [hc]
        have : (rowAt (mkT n t) i).getD j 0 = t i j := mkT_get n t i j hi hj
        rw [this]
    · exact ⟨(0, 0), fun h => absurd h hi⟩
  obtain ⟨q, hq⟩ := Classical.axiomOfChoice hrow
  refine ⟨G, fun i => (q i).1, fun i => (q i).2, C, by rw [hl], ⟨⟨hBG, h2 G rfl⟩, fun i hi => ⟨(hq i hi).2.1, (hq i hi).2.2.1, (hq i hi).2.2.2.1⟩, fun i j hi hj hij => ?_, fun i hi => ?_, fun i j hi hj => ((hq i hi).2.2.2.2.2.1 j hj).1, fun i j hi hj => ((hq i hi).2.2.2.2.2.1 j hj).2, hS, ?_, fun i hi => (hq i hi).2.2.2.2.1⟩⟩
  · rcases Nat.lt_or_gt_of_ne hij with h | h
    · have := (hq j hj).2.2.2.2.2.2 i h
      rw [(hq i hi).1] at this
      simpa [Value.ownBlock] using this
    · have := (hq i hi).2.2.2.2.2.2 j h
      rw [(hq j hj).1] at this
      intro e; exact this (by simp [Value.ownBlock, e])
  · obtain ⟨g', e, _, hc⟩ := h1.at i (by omega)
    simp only [Option.some.injEq, Addr.mk.injEq, and_true] at e
    subst e
    rw [hc, List.getElem?_eq_getElem (by omega), ← (hq i hi).1]
    simp [show i < rs.length by omega]
  · have := hcap1 _ _ _ rfl
    omega
end Go.Proofs.Ythcnhkjiojeemaa
