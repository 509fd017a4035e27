/- Chains: helpers that speak of no table in particular (seat F). -/
import Derived.Test.YtghmpaegmicheaaChL
import Derived.Test.YtghmpaegmicheaaLoc
import Derived.Deep.RegionHeld3
namespace Go.Proofs.Ytghmpaegmicheaa
open Go.RowKit

theorem OV.typ {T : TypeId} {B : Nat} {w : World} {v : Value} {cs : List Value} (h : OV T B w v cs) (k : Nat) (hk : v.ownBlock = some k) : ∃ cur, w.heap[k]? = some (.cells cur T) := by
  rcases h.2 with ⟨rfl, _⟩ | ⟨g, cap, cur, rfl, _, hg, _⟩
  · simp [Value.ownBlock] at hk
  · simp [Value.ownBlock] at hk
    subst hk
    exact ⟨_, hg⟩
abbrev q5 (w' w : World) (q : Nat) : Prop := w'.heap[q]? = w.heap[q]?
theorem cellH {w w' : World} {k : Nat} (h : q5 w' w k) (o : Nat) : w'.cell? ⟨k, o, none⟩ = w.cell? ⟨k, o, none⟩ := by
  unfold q5 at h; unfold World.cell?; simp only [h]
theorem frozenH {w w' : World} {k : Nat} (h : q5 w' w k) (o : Nat) : w'.frozen? ⟨k, o, none⟩ = w.frozen? ⟨k, o, none⟩ := by
  unfold q5 at h; unfold World.frozen?; simp only [h]
theorem ChAt.heap {p : Nat} {b n s e : Int} {tv pv : Value} {w w' : World} (h : ChAt p b n s e tv pv w) (he : q5 w' w p) (hs : w.heap.size ≤ w'.heap.size) : ChAt p b n s e tv pv w' :=
  ⟨Nat.lt_of_lt_of_le h.lt hs, (cellH he 0).trans h.c0, (cellH he 1).trans h.c1, (cellH he 2).trans h.c2, (cellH he 3).trans h.c3, (cellH he 4).trans h.c4, (cellH he 5).trans h.c5⟩
theorem set6 {r : Nat} {w : World} (a0 a1 a2 a3 a4 a5 : Value) :
    (∀ q, q ≠ r → q5 ((((((w.setCell ⟨r, 0, none⟩ a0).setCell ⟨r, 1, none⟩ a1).setCell ⟨r, 2, none⟩ a2).setCell ⟨r, 3, none⟩ a3).setCell ⟨r, 4, none⟩ a4).setCell ⟨r, 5, none⟩ a5) w q) ∧
    ∀ w0 B, B ≤ r → Below B w0 w → Below B w0 ((((((w.setCell ⟨r, 0, none⟩ a0).setCell ⟨r, 1, none⟩ a1).setCell ⟨r, 2, none⟩ a2).setCell ⟨r, 3, none⟩ a3).setCell ⟨r, 4, none⟩ a4).setCell ⟨r, 5, none⟩ a5) := by
  refine ⟨fun q hq => ?_, fun w0 B hB hb => ?_⟩
  · exact (heap_setCell_other _ _ _ _ hq).trans ((heap_setCell_other _ _ _ _ hq).trans ((heap_setCell_other _ _ _ _ hq).trans ((heap_setCell_other _ _ _ _ hq).trans ((heap_setCell_other _ _ _ _ hq).trans (heap_setCell_other _ _ _ _ hq)))))
  · exact (((((hb.setCell hB _).setCell hB _).setCell hB _).setCell hB _).setCell hB _).setCell hB _
abbrev zch : Obj := .cells #[.int .i64 0, .int .i64 0, .int .i64 0, .int .i64 0, .slice none 0 0, .slice none 0 0] 56
/-- A blank chain lies in the box p. -/
structure AF (p : Nat) (w : World) : Prop where
  ch : ChAt p 0 0 0 0 (.slice none 0 0) (.slice none 0 0) w
  fz : ∀ o, w.frozen? ⟨p, o, none⟩ = false
theorem AF.later {p : Nat} {w w' : World} (h : AF p w) (hb : Below w.heap.size w w') : AF p w' :=
  ⟨h.ch.later hb, fun o => (hb.frozen (p := ⟨p, o, none⟩) h.ch.lt).trans (h.fz o)⟩
theorem AF.fresh (w : World) : AF w.heap.size (w.alloc zch) :=
  ⟨⟨by simp, World.cell?_alloc_at _ _ _ _ rfl, World.cell?_alloc_at _ _ _ _ rfl, World.cell?_alloc_at _ _ _ _ rfl, World.cell?_alloc_at _ _ _ _ rfl, World.cell?_alloc_at _ _ _ _ rfl, World.cell?_alloc_at _ _ _ _ rfl⟩, fun o => by simp [go_sem]⟩
theorem evNil {w0 w : World} (hb : Below w0.heap.size w0 w) : ChP 0 0 0 0 [] [] false w0 (.returned (.tuple #[.agg #[.int .i64 0, .int .i64 0, .int .i64 0, .int .i64 0, .slice none 0 0, .slice none 0 0], .bool false])) w :=
  ⟨_, _, rfl, O3.nil _ _ _ _, OK.nil _ _ _ _, hb⟩
theorem crNil {w0 w : World} (hb : Below w0.heap.size w0 w) : ChR 0 0 0 0 [] [] false w0 (.returned (.tuple #[.agg #[.int .i64 0, .int .i64 0, .int .i64 0, .int .i64 0, .slice none 0 0, .slice none 0 0], .bool false])) w :=
  ⟨_, _, rfl, (O3.nil none 0 0 w).read, OK.read (OK.nil 2 _ 0 _), hb⟩
theorem tot_rows (x : List (List Int)) (m : Nat) (h : ∀ i, i < x.length → (rowAt x i).length ≤ m) : tot x ≤ x.length * m := by
  have : ∀ k, k ≤ x.length → tot (x.take k) ≤ k * m := by
    intro k
    induction k with
    | zero => intro _; simp [tot]
    | succ k ih =>
      intro hk
      rw [tot_take _ _ (by omega), Nat.succ_mul]
      have := ih (by omega)
      have := h k (by omega)
      omega
  have h1 := this x.length (Nat.le_refl _)
  rwa [List.take_of_length_le (Nat.le_refl _)] at h1
/-- A chain that a callee made, stored into the result's box. -/
theorem chStore {w0 w2 w3 : World} {b n s e0 : Int} {tv pv : Value} {x : List (List (List Int))} {ys : List Int} {ok : Bool} (ho : O3 pv.ownBlock w2.heap.size w3.heap.size w3 tv x) (hy : OI w2.heap.size w3 pv ys) (hb3 : Below w2.heap.size w2 w3) (hb : Below w0.heap.size w0 w2) (hr : w0.heap.size < w2.heap.size) (a0 a1 a2 a3 a4 a5 : Value) :
    ChP b n s e0 x ys ok w0 (.returned (.tuple #[.agg #[.int .i64 b, .int .i64 n, .int .i64 s, .int .i64 e0, tv, pv], .bool ok]))
      ((((((w3.setCell ⟨w0.heap.size, 0, none⟩ a0).setCell ⟨w0.heap.size, 1, none⟩ a1).setCell ⟨w0.heap.size, 2, none⟩ a2).setCell ⟨w0.heap.size, 3, none⟩ a3).setCell ⟨w0.heap.size, 4, none⟩ a4).setCell ⟨w0.heap.size, 5, none⟩ a5) := by
  obtain ⟨s1, s2⟩ := set6 (r := w0.heap.size) (w := w3) a0 a1 a2 a3 a4 a5
  have hz : ((((((w3.setCell ⟨w0.heap.size, 0, none⟩ a0).setCell ⟨w0.heap.size, 1, none⟩ a1).setCell ⟨w0.heap.size, 2, none⟩ a2).setCell ⟨w0.heap.size, 3, none⟩ a3).setCell ⟨w0.heap.size, 4, none⟩ a4).setCell ⟨w0.heap.size, 5, none⟩ a5).heap.size = w3.heap.size := by simp
  refine ⟨_, _, rfl, ?_, (OV.heap hy fun k hk => s1 k (by have := hy.lt k hk; omega)).mono (by omega), s2 _ _ (Nat.le_refl _) (hb.trans (hb3.mono hb.size))⟩
  rw [hz]
  exact (ho.keep fun k k1 _ => s1 k (by omega)).monoB (by omega)

theorem O3.parts {p : Option Nat} {B S : Nat} {w : World} {v : Value} {x : List (List (List Int))} (h : O3 p B S w v x) (hS : S ≤ w.heap.size) :
    ∃ ts, OV 22 B w v ts ∧ ts.length = x.length ∧ ∀ (w2 : World) (u : Value) (lo hi : Nat) (y : List (List Int)) (v' : Value) (w5 : World), Below w.heap.size w w2 → w.heap.size ≤ lo → lo ≤ hi → hi ≤ w2.heap.size → OT lo hi w2 u y → (∀ k, p = some k → k < w.heap.size) →
      OV 22 B w5 v' (ts ++ [u]) → (w2.alloc (.cells #[u] 22)).grownBy w5 v.ownBlock → Loc (w2.alloc (.cells #[u] 22)) v v' → B ≤ w.heap.size → O3 p B w5.heap.size w5 v' (x ++ [y]) ∧ Below B w w5 := by
  obtain ⟨ts, lo, hi, h1, h2, h3, h4⟩ := h
  refine ⟨ts, h1, h3, fun w2 u l0 r0 y v' w5 hb hl hlr hr hu hp hv hg hL hB => ?_⟩
  have hba : Below w2.heap.size w2 (w2.alloc (.cells #[u] 22)) := (Below.refl _ _).alloc (Nat.le_refl _) _
  have hsz2 := hb.size
  have hvlt : ∀ k, v.ownBlock = some k → k < S := h2
  have hsz5 : w2.heap.size < w5.heap.size := by have := hg.size; simp at this; omega
  have hall : Below w.heap.size w (w2.alloc (.cells #[u] 22)) := hb.trans (hba.mono hsz2)
  have hBl : Below B w w5 := own_below (hall.mono hB) (h1.later hall) hg (by simp; omega)
  have hkeep : ∀ k, k < w2.heap.size → v.ownBlock ≠ some k → w5.heap[k]? = w2.heap[k]? := fun k hk hn => (hg.block k (by simp; omega) (fun e => hn e.symm)).trans (hba.block k hk)
  refine ⟨⟨ts ++ [u], fun j => if j < x.length then lo j else l0, fun j => if j < x.length then hi j else r0, hv, fun k hk => (hv.lt k hk).2, by simp [h3], fun j hj => ?_⟩, hBl⟩
  have hloc : ∀ k, v'.ownBlock = some k → v.ownBlock = some k ∨ w2.heap.size < k := fun k hk => by
    rcases hL with e | ⟨g, e, hg⟩
    · exact .inl (by rw [← e]; exact hk)
    · rw [hk] at e
      simp at hg
      have : k = g := by simpa using e
      exact .inr (by omega)
  by_cases hjx : j < x.length
  · obtain ⟨a1, a2, a3, a4, a5⟩ := h4 j hjx
    have e1 : (ts ++ [u]).getD j nl = ts.getD j nl := by rw [List.getD_eq_getElem?_getD, List.getElem?_append_left (by omega), ← List.getD_eq_getElem?_getD]
    have e2 : tabAt (x ++ [y]) j = tabAt x j := by
      unfold tabAt
      rw [List.getD_eq_getElem?_getD, List.getElem?_append_left (by omega), ← List.getD_eq_getElem?_getD]
    rw [e1, e2]
    simp only [if_pos hjx]
    refine ⟨(a1.later hb (by omega)).keep fun k k1 k2 => hkeep k (by omega) (fun e => by have := a4 k (.inl e); omega), a2, by omega, fun k hk => ?_, fun i hij => ?_⟩
    · rcases hk with hk | hk
      · rcases hloc k hk with h | h
        · exact a4 k (.inl h)
        · exact .inr (by omega)
      · exact a4 k (.inr hk)
    · rw [if_pos (by omega)]; exact a5 i hij
  · have hj' : j = x.length := by simp at hj; omega
    subst hj'
    have e1 : (ts ++ [u]).getD x.length nl = u := by rw [← h3]; simp
    have e2 : tabAt (x ++ [y]) x.length = y := by simp [tabAt]
    rw [e1, e2]
    simp only [if_neg hjx]
    refine ⟨hu.keep fun k k1 k2 => hkeep k (by omega) (fun e => by have := hvlt k e; omega), by omega, by omega, fun k hk => ?_, fun i hij => ?_⟩
    · rcases hk with hk | hk
      · rcases hloc k hk with h | h
        · exact .inl (by have := hvlt k h; omega)
        · exact .inr (by omega)
      · exact .inl (by have := hp k hk; omega)
    · rw [if_pos hij]
      have := (h4 i hij).2.2.1
      omega
/-- A number more in the places. -/
theorem O3.pushP {B B' S : Nat} {w w5 : World} {v pv pv' u : Value} {x : List (List (List Int))} {ys : List Int} {T : TypeId} (h : O3 pv.ownBlock B S w v x) (hy : OI B' w pv ys) (hS : S ≤ w.heap.size)
    (hg : (w.alloc (.cells #[u] T)).grownBy w5 pv.ownBlock) (hL : Loc (w.alloc (.cells #[u] T)) pv pv') : O3 pv'.ownBlock B S w5 v x := by
  obtain ⟨ts, lo, hi, h1, h2, h3, h4⟩ := h
  have hT : (22 : TypeId) ≠ 2 := by decide
  have hba : Below w.heap.size w (w.alloc (.cells #[u] T)) := (Below.refl _ _).alloc (Nat.le_refl _) _
  have hkeep : ∀ k, k < w.heap.size → pv.ownBlock ≠ some k → w5.heap[k]? = w.heap[k]? := fun k hk hn => (hg.block k (by simp; omega) (fun e => hn e.symm)).trans (hba.block k hk)
  refine ⟨ts, lo, hi, h1.heap fun k hk => hkeep k (h1.lt k hk).2 (fun e => OV.ne h1 hy hT k hk e), h2, h3, fun j hj => ?_⟩
  obtain ⟨a1, a2, a3, a4, a5⟩ := h4 j hj
  refine ⟨a1.keep fun k k1 k2 => hkeep k (by omega) (fun e => by have := a4 k (.inr e); omega), a2, a3, fun k hk => ?_, a5⟩
  rcases hk with hk | hk
  · exact a4 k (.inl hk)
  · rcases hL with e | ⟨g, e, hg'⟩
    · exact a4 k (.inr (by rw [← e]; exact hk))
    · rw [hk] at e
      simp at hg'
      have : k = g := by simpa using e
      exact .inr (by omega)
end Go.Proofs.Ytghmpaegmicheaa
