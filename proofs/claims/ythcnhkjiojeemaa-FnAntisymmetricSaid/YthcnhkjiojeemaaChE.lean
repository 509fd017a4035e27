/- Even chains: the reference's chain with one table at all places. -/
import Derived.Test.YthcnhkjiojeemaaChn
import Derived.Test.YthcnhkjiojeemaaRow
import Derived.Deep.RegionHeld3
namespace Go.Proofs.Ythcnhkjiojeemaa
open Go.RowKit

theorem OV.typ {T : TypeId} {B : Nat} {w : World} {v : Value} {cs : List Value} (h : OV T B w v cs) (k : Nat) (hk : v.ownBlock = some k) : ∃ cur, w.heap[k]? = some (.cells cur T) := by
  rcases h.2 with ⟨rfl, _⟩ | ⟨g, cap, cur, rfl, _, hg, _⟩
  · simp [Value.ownBlock] at hk
  · simp [Value.ownBlock] at hk
    subst hk
    exact ⟨_, hg⟩
/-- A table that the call owns stays where only a block of another type turns. -/
theorem OT.keepT {B S q : Nat} {w w' : World} {v : Value} {x : List (List Int)} {cur : Array Value} {T : TypeId} (h : OT B S w v x) (hq : w.heap[q]? = some (.cells cur T)) (h1 : T ≠ 29) (h2 : T ≠ 2)
    (hk : ∀ k, B ≤ k → k < S → k ≠ q → w'.heap[k]? = w.heap[k]?) : OT B S w' v x := by
  obtain ⟨rs, o1, o2, o3, o4⟩ := h
  have key : ∀ {T' : TypeId} {B' : Nat} {u : Value} {cs : List Value}, OV T' B' w u cs → T ≠ T' → ∀ k, u.ownBlock = some k → k ≠ q := fun {T' B' u cs} ho hne k hb e => by
    obtain ⟨cur', hc⟩ := ho.typ k hb
    rw [e, hq] at hc
    simp only [Option.some.injEq, Obj.cells.injEq] at hc
    exact hne hc.2.1
  refine ⟨rs, o1.heap fun k hb => hk k (o1.lt k hb).1 (o2 k hb) (key o1 h1 k hb), o2, o3, fun j hj => ⟨(o4 j hj).1.heap fun k hb => hk k ((o4 j hj).1.lt k hb).1 ((o4 j hj).2.1 k hb).1 (key (o4 j hj).1 h2 k hb), (o4 j hj).2⟩⟩

/-- The reference's chain while its table is made: the result's box r, the table's first block, the tables' block, the places' block, the chain's box X. -/
structure EvSt (r X n : Nat) (s e : Int) (p k S : Nat) (x : List (List Int)) (tv : Value) (w0 w : World) : Prop where
  sz : r + 4 ≤ X ∧ X + 1 ≤ w.heap.size ∧ r + 1 ≤ S ∧ S ≤ w.heap.size
  ch : ChAt X 0 n s e (.slice (some ⟨r + 2, 0, none⟩) 1 1) (.slice (some ⟨r + 3, 0, none⟩) p p) w
  fx : ∀ o, w.frozen? ⟨X, o, none⟩ = false
  tx : ∃ cur, w.heap[X]? = some (.cells cur 35)
  ct : w.cell? ⟨r + 2, 0, none⟩ = some tv
  ft : w.frozen? ⟨r + 2, 0, none⟩ = false
  tt : ∃ cur, w.heap[r + 2]? = some (.cells cur 24)
  cr : ChAt r 0 0 0 0 (.slice none 0 0) (.slice none 0 0) w
  fr : ∀ o, w.frozen? ⟨r, o, none⟩ = false
  pl : OI (r + 3) w (.slice (some ⟨r + 3, 0, none⟩) p p) (List.replicate p 0)
  t : OT (r + 1) S w tv (x.take k)
  b : Below r w0 w
abbrev q5 (w' w : World) (q : Nat) : Prop := w'.heap[q]? = w.heap[q]?
theorem cellH {w w' : World} {k : Nat} (h : q5 w' w k) (o : Nat) : w'.cell? ⟨k, o, none⟩ = w.cell? ⟨k, o, none⟩ := by
  unfold q5 at h; unfold World.cell?; simp only [h]
theorem frozenH {w w' : World} {k : Nat} (h : q5 w' w k) (o : Nat) : w'.frozen? ⟨k, o, none⟩ = w.frozen? ⟨k, o, none⟩ := by
  unfold q5 at h; unfold World.frozen?; simp only [h]
theorem ChAt.heap {p : Nat} {b n s e : Int} {tv pv : Value} {w w' : World} (h : ChAt p b n s e tv pv w) (he : q5 w' w p) (hs : w.heap.size ≤ w'.heap.size) : ChAt p b n s e tv pv w' :=
  ⟨Nat.lt_of_lt_of_le h.lt hs, (cellH he 0).trans h.c0, (cellH he 1).trans h.c1, (cellH he 2).trans h.c2, (cellH he 3).trans h.c3, (cellH he 4).trans h.c4, (cellH he 5).trans h.c5⟩
theorem evEnd {r X n p S : Nat} {s e : Int} {x : List (List Int)} {tv : Value} {w0 w : World} (h : EvSt r X n s e p x.length S x tv w0 w) :
    ∀ w', (∀ q, r ≤ q → q < w.heap.size → q ≠ X → q ≠ r → w'.heap[q]? = w.heap[q]?) → R3 w' (.slice (some ⟨r + 2, 0, none⟩) 1 1) [x] ∧ RI w' (.slice (some ⟨r + 3, 0, none⟩) p p) (List.replicate p 0) := by
  intro w' ho
  obtain ⟨z1, z2, z3, z4⟩ := h.sz
  obtain ⟨cx, hx⟩ := h.tx
  have hT : (35 : TypeId) ≠ 29 ∧ (35 : TypeId) ≠ 2 := by decide
  have hl := h.t
  rw [List.take_length] at hl
  constructor
  · refine ⟨[tv], ⟨_, 1, rfl, ⟨Nat.le_refl _, by unfold maxLen; decide⟩, fun j hj => ?_⟩, rfl, fun j hj => ?_⟩
    · obtain rfl : j = 0 := by simp at hj; omega
      exact ⟨r + 2, 0, rfl, (cellH (ho (r + 2) (by omega) (by omega) (by omega) (by omega)) 0).trans h.ct⟩
    · obtain rfl : j = 0 := by simp at hj; omega
      exact (hl.keepT hx hT.1 hT.2 (fun k hk hk2 hkX => ho k (by omega) (by omega) hkX (by omega))).read
  · refine (OV.heap h.pl fun k hk => ?_).read
    have : k = r + 3 := by simpa [Value.ownBlock] using hk.symm
    exact ho k (by omega) (by omega) (by omega) (by omega)
theorem set6 {r : Nat} {w : World} (a0 a1 a2 a3 a4 a5 : Value) :
    (∀ q, q ≠ r → q5 ((((((w.setCell ⟨r, 0, none⟩ a0).setCell ⟨r, 1, none⟩ a1).setCell ⟨r, 2, none⟩ a2).setCell ⟨r, 3, none⟩ a3).setCell ⟨r, 4, none⟩ a4).setCell ⟨r, 5, none⟩ a5) w q) ∧
    ∀ w0 B, B ≤ r → Below B w0 w → Below B w0 ((((((w.setCell ⟨r, 0, none⟩ a0).setCell ⟨r, 1, none⟩ a1).setCell ⟨r, 2, none⟩ a2).setCell ⟨r, 3, none⟩ a3).setCell ⟨r, 4, none⟩ a4).setCell ⟨r, 5, none⟩ a5) := by
  refine ⟨fun q hq => ?_, fun w0 B hB hb => ?_⟩
  · exact (heap_setCell_other _ _ _ _ hq).trans ((heap_setCell_other _ _ _ _ hq).trans ((heap_setCell_other _ _ _ _ hq).trans ((heap_setCell_other _ _ _ _ hq).trans ((heap_setCell_other _ _ _ _ hq).trans (heap_setCell_other _ _ _ _ hq)))))
  · exact (((((hb.setCell hB _).setCell hB _).setCell hB _).setCell hB _).setCell hB _).setCell hB _
/-- What stands ahead of the places. -/
structure EvW (r : Nat) (w0 w : World) : Prop where
  sz : w.heap.size = r + 3
  ct : w.cell? ⟨r + 2, 0, none⟩ = some (.slice (some ⟨r + 1, 0, none⟩) 0 0)
  ft : w.frozen? ⟨r + 2, 0, none⟩ = false
  tt : ∃ cur, w.heap[r + 2]? = some (.cells cur 24)
  cr : ChAt r 0 0 0 0 (.slice none 0 0) (.slice none 0 0) w
  fr : ∀ o, w.frozen? ⟨r, o, none⟩ = false
  t : OT (r + 1) (r + 2) w (.slice (some ⟨r + 1, 0, none⟩) 0 0) []
  b : Below r w0 w
theorem evW (w : World) : EvW w.heap.size w (((w.alloc (.cells #[.int .i64 0, .int .i64 0, .int .i64 0, .int .i64 0, .slice none 0 0, .slice none 0 0] 35)).alloc (.cells #[] 29)).alloc (.cells #[.slice (some ⟨w.heap.size + 1, 0, none⟩) 0 0] 24)) := by
  have hz : (w.alloc (.cells #[.int .i64 0, .int .i64 0, .int .i64 0, .int .i64 0, .slice none 0 0, .slice none 0 0] 35)).heap.size = w.heap.size + 1 := by simp
  have hc : ChAt w.heap.size 0 0 0 0 (.slice none 0 0) (.slice none 0 0) (w.alloc (.cells #[.int .i64 0, .int .i64 0, .int .i64 0, .int .i64 0, .slice none 0 0, .slice none 0 0] 35)) :=
    ⟨by simp, World.cell?_alloc_at _ _ _ _ rfl, World.cell?_alloc_at _ _ _ _ rfl, World.cell?_alloc_at _ _ _ _ rfl, World.cell?_alloc_at _ _ _ _ rfl, World.cell?_alloc_at _ _ _ _ rfl, World.cell?_alloc_at _ _ _ _ rfl⟩
  have hb : Below w.heap.size w (w.alloc (.cells #[.int .i64 0, .int .i64 0, .int .i64 0, .int .i64 0, .slice none 0 0, .slice none 0 0] 35)) := (Below.refl _ _).alloc (Nat.le_refl _) _
  have hf : ∀ o, (w.alloc (.cells #[.int .i64 0, .int .i64 0, .int .i64 0, .int .i64 0, .slice none 0 0, .slice none 0 0] 35)).frozen? ⟨w.heap.size, o, none⟩ = false := fun o => by simp [go_sem]
  generalize w.alloc (.cells #[.int .i64 0, .int .i64 0, .int .i64 0, .int .i64 0, .slice none 0 0, .slice none 0 0] 35) = w1 at *
  rw [← hz]
  have h1 : Below w1.heap.size w1 (w1.alloc (.cells #[] 29)) := (Below.refl _ _).alloc (Nat.le_refl _) _
  have h2 : Below (w1.alloc (.cells #[] 29)).heap.size (w1.alloc (.cells #[] 29)) ((w1.alloc (.cells #[] 29)).alloc (.cells #[.slice (some ⟨w1.heap.size, 0, none⟩) 0 0] 24)) := (Below.refl _ _).alloc (Nat.le_refl _) _
  have hz2 : (w1.alloc (.cells #[] 29)).heap.size = w.heap.size + 2 := by simp; omega
  have hb2 := h1.trans (h2.mono (by simp))
  refine ⟨by simp; omega, ?_, ?_, ?_, hc.later hb2, fun o => (hb2.frozen (p := ⟨w.heap.size, o, none⟩) (by show w.heap.size < _; omega)).trans (hf o), ?_, hb.trans (hb2.mono (by omega))⟩
  · rw [← hz2, ← hz]; exact World.cell?_alloc_at _ _ _ _ rfl
  · rw [← hz2]; simp [go_sem]
  · have e := heap_alloc_new (w1.alloc (.cells #[] 29)) (.cells #[.slice (some ⟨w1.heap.size, 0, none⟩) 0 0] 24)
    rw [hz2] at e
    exact ⟨_, e⟩
  · refine ⟨[], by rw [← hz]; exact (OV.made 29 w1 (Nat.le_refl _)).alloc _, fun k hk => by simp [Value.ownBlock] at hk; omega, Rows.nil _ _ _ _⟩
theorem evStart {r n p : Nat} {s e : Int} {x : List (List Int)} {w0 w w1 : World} (h : EvW r w0 w) (hg : w.grownBy w1 none) (hlt : r + 3 < w1.heap.size) (ho : OI (r + 3) w1 (.slice (some ⟨r + 3, 0, none⟩) p p) (List.replicate p 0)) :
    EvSt r w1.heap.size n s e p 0 (r + 2) x (.slice (some ⟨r + 1, 0, none⟩) 0 0) w0 (w1.alloc (.cells #[.int .i64 0, .int .i64 n, .int .i64 s, .int .i64 e, .slice (some ⟨r + 2, 0, none⟩) 1 1, .slice (some ⟨r + 3, 0, none⟩) p p] 35)) := by
  have hb1 : Below w.heap.size w w1 := (Below.refl _ _).grown hg (Nat.le_refl _) (by simp)
  have hb2 : Below w1.heap.size w1 (w1.alloc (.cells #[.int .i64 0, .int .i64 n, .int .i64 s, .int .i64 e, .slice (some ⟨r + 2, 0, none⟩) 1 1, .slice (some ⟨r + 3, 0, none⟩) p p] 35)) := (Below.refl _ _).alloc (Nat.le_refl _) _
  have hb := hb1.trans (hb2.mono hb1.size)
  have hz := h.sz
  obtain ⟨cur, hcur⟩ := h.tt
  refine ⟨by simp; omega, ⟨by simp, World.cell?_alloc_at _ _ _ _ rfl, World.cell?_alloc_at _ _ _ _ rfl, World.cell?_alloc_at _ _ _ _ rfl, World.cell?_alloc_at _ _ _ _ rfl, World.cell?_alloc_at _ _ _ _ rfl, World.cell?_alloc_at _ _ _ _ rfl⟩, fun o => by simp [go_sem], ⟨_, heap_alloc_new _ _⟩,
    (hb.cell (p := ⟨r + 2, 0, none⟩) (by show r + 2 < _; omega)).trans h.ct, (hb.frozen (p := ⟨r + 2, 0, none⟩) (by show r + 2 < _; omega)).trans h.ft, ⟨cur, (hb.block (r + 2) (by omega)).trans hcur⟩, h.cr.later hb, fun o => (hb.frozen (p := ⟨r, o, none⟩) (by show r < _; omega)).trans (h.fr o), ho.later hb2, h.t.later hb (by omega), h.b.trans (hb.mono (by omega))⟩
theorem EvSt.later {r X n p k S : Nat} {s e : Int} {x : List (List Int)} {tv : Value} {w0 w w' : World} (h : EvSt r X n s e p k S x tv w0 w) (hb : Below w.heap.size w w') : EvSt r X n s e p k S x tv w0 w' := by
  obtain ⟨z1, z2, z3, z4⟩ := h.sz
  obtain ⟨c1, h1⟩ := h.tt
  obtain ⟨c2, h2⟩ := h.tx
  have := hb.size
  exact ⟨by omega, h.ch.later hb, fun o => (hb.frozen (p := ⟨X, o, none⟩) (by show X < _; omega)).trans (h.fx o), ⟨c2, (hb.block X (by omega)).trans h2⟩, (hb.cell (p := ⟨r + 2, 0, none⟩) (by show r + 2 < _; omega)).trans h.ct, (hb.frozen (p := ⟨r + 2, 0, none⟩) (by show r + 2 < _; omega)).trans h.ft, ⟨c1, (hb.block (r + 2) (by omega)).trans h1⟩,
    h.cr.later hb, fun o => (hb.frozen (p := ⟨r, o, none⟩) (by show r < _; omega)).trans (h.fr o), h.pl.later hb, h.t.later hb z4, h.b.trans (hb.mono (by omega))⟩
/-- A row more. -/
theorem evPush {r X n p k S : Nat} {s e : Int} {x : List (List Int)} {tv v' u : Value} {rs : List Value} {w0 w w5 : World} (h : EvSt r X n s e p k S x tv w0 w) (hk : k < x.length)
    (h1 : OV 29 (r + 1) w tv rs) (h3 : Rows (r + 1) S w tv.ownBlock rs (x.take k)) (hu : OI S w u (rowAt x k)) (hv : OV 29 (r + 1) w5 v' (rs ++ [u])) (hg : (w.alloc (.cells #[u] 29)).grownBy w5 tv.ownBlock) :
    ChAt X 0 n s e (.slice (some ⟨r + 2, 0, none⟩) 1 1) (.slice (some ⟨r + 3, 0, none⟩) p p) w5 ∧ w5.cell? ⟨r + 2, 0, none⟩ = some tv ∧ w5.frozen? ⟨r + 2, 0, none⟩ = false ∧ Below r w0 w5 ∧ EvSt r X n s e p (k + 1) w5.heap.size x v' w0 (w5.setCell ⟨r + 2, 0, none⟩ v') := by
  obtain ⟨z1, z2, z3, z4⟩ := h.sz
  obtain ⟨ct, ht⟩ := h.tt
  obtain ⟨cx, hx⟩ := h.tx
  have hba : Below w.heap.size w (w.alloc (.cells #[u] 29)) := (Below.refl _ _).alloc (Nat.le_refl _) _
  have hh := h.later hba
  obtain ⟨hp, hbl⟩ := OT.push h1 h3 z4 z3 hu hv hg
  have hsz := hbl.size
  have hT : (29 : TypeId) ≠ 24 ∧ (29 : TypeId) ≠ 35 ∧ (29 : TypeId) ≠ 2 ∧ (24 : TypeId) ≠ 2 ∧ (24 : TypeId) ≠ 35 := by decide
  have hch : Chg (vb tv) (w.alloc (.cells #[u] 29)) w5 := by
    unfold vb
    cases hb : tv.ownBlock with
    | none => rw [hb] at hg; exact Go.Proofs.Ythcnhkjiojeemaa.Below.chg ((Below.refl _ _).grown hg (Nat.le_refl _) (by simp))
    | some g => rw [hb] at hg; exact chg_grown hg
  have hne : ∀ q cur T, w.heap[q]? = some (.cells cur T) → (29 : TypeId) ≠ T → q ∉ vb tv := fun q cur T hq hTT hm => by
    obtain ⟨cur', hc⟩ := h1.typ q (mem_vb.1 hm)
    rw [hq] at hc
    simp only [Option.some.injEq, Obj.cells.injEq] at hc
    exact hTT hc.2.1.symm
  have ha : ∀ q, q < w.heap.size → q ∉ vb tv → w5.heap[q]? = w.heap[q]? := fun q hq hn => (hch.block q (by simp; omega) hn).trans (hba.block q hq)
  have nX : q5 w5 w X := ha X (by omega) (hne X cx _ hx hT.2.1)
  have n2 : q5 w5 w (r + 2) := ha (r + 2) (by omega) (hne (r + 2) ct _ ht hT.1)
  have nr : q5 w5 w r := ha r (by omega) (fun hm => by have := h1.vb r hm; omega)
  have hpl5 : OI (r + 3) w5 (.slice (some ⟨r + 3, 0, none⟩) p p) (List.replicate p 0) := (h.pl.alloc _).chg hch (fun k hk hm => by
    have a1 := OV.typ h.pl k (mem_vb.1 hk)
    obtain ⟨cur, a1⟩ := a1
    exact hne k cur _ a1 hT.2.2.1 hm)
  have k2 : w5.cell? ⟨r + 2, 0, none⟩ = some tv := (cellH n2 0).trans h.ct
  have f2 : w5.frozen? ⟨r + 2, 0, none⟩ = false := (frozenH n2 0).trans h.ft
  have hc5 : ChAt X 0 n s e (.slice (some ⟨r + 2, 0, none⟩) 1 1) (.slice (some ⟨r + 3, 0, none⟩) p p) w5 := h.ch.heap nX hsz
  refine ⟨hc5, k2, f2, h.b.trans (hbl.mono (by omega)), ?_⟩
  have o : ∀ q, q ≠ r + 2 → q5 (w5.setCell ⟨r + 2, 0, none⟩ v') w5 q := fun q hq => heap_setCell_other _ _ _ _ hq
  refine ⟨by simp; omega, hc5.heap (o X (by omega)) (by simp), fun i => (World.frozen?_setCell ..).trans ((frozenH nX i).trans (h.fx i)), ⟨cx, (o X (by omega)).trans (nX.trans hx)⟩, World.cell?_setCell_same (h := k2) .., (World.frozen?_setCell ..).trans f2, ?_,
    (h.cr.heap nr hsz).heap (o r (by omega)) (by simp), fun i => (World.frozen?_setCell ..).trans ((frozenH nr i).trans (h.fr i)), ?_, ?_, ?_⟩
  · exact ⟨_, heap_setCell_same _ _ _ _ _ _ (n2.trans ht)⟩
  · exact OV.heap hpl5 fun k hk => by
      refine o k fun e => ?_
      obtain ⟨cur, a1⟩ := OV.typ hpl5 k hk
      rw [e, n2, ht] at a1
      simp only [Option.some.injEq, Obj.cells.injEq] at a1
      exact hT.2.2.2.1 a1.2.1
  · rw [take_snocT hk]
    exact hp.keepT (n2.trans ht) hT.1.symm hT.2.2.2.1 fun k _ _ hk => o k hk
  · exact (h.b.trans (hbl.mono (by omega))).setCell (by show r ≤ r + 2; omega) _
set_option maxHeartbeats 4000000 in
set_option maxRecDepth 100000 in
theorem l02Even_any (v : Value) (x : List (List Int)) (p : Nat) (s e0 : Int) (w : World) (hx : RT w v x) (hm : 1 ≤ x.length ∧ x.length ≤ 1000) (hr : Small x) (hp : p ≤ 1000) :
    Calls Try.prog 48 #[v, .int .i64 p, .int .i64 s, .int .i64 e0] w fun e w' => ∃ tv pv, e = .returned (.agg #[.int .i64 (rowAt x 0).length, .int .i64 x.length, .int .i64 s, .int .i64 e0, tv, pv]) ∧ (∀ w'', (∀ q, w.heap.size ≤ q → q < w'.heap.size → q5 w'' w' q) → R3 w'' tv [x] ∧ RI w'' pv (List.replicate p 0)) ∧ Below w.heap.size w w' := by
  obtain ⟨a, c, rfl⟩ := hx.slice
  have HZ := Lib.hid (evW w)
  go_enter Try.func48, Try.ntmps48
  go_wp2_with (at_make; refine wpl_make_i64 rfl _ _ rfl (w.heap.size + 3) .i64 .i64 _ _ p rfl rfl rfl rfl (by omega) (by simp) ?_; intro w1 hown hgr hlt; rw [HZ.out.sz] at *)
  have hX : EvSt w.heap.size w1.heap.size x.length s e0 p 0 (w.heap.size + 2) x (.slice (some ⟨w.heap.size + 1, 0, none⟩) 0 0) w (w1.alloc (.cells #[.int .i64 0, .int .i64 x.length, .int .i64 s, .int .i64 e0, .slice (some ⟨w.heap.size + 2, 0, none⟩) 1 1, .slice (some ⟨w.heap.size + 3, 0, none⟩) p p] 35)) :=
    evStart HZ.out hgr hlt hown
  clear hgr hlt hown HZ
  generalize w1.alloc (.cells #[.int .i64 0, .int .i64 x.length, .int .i64 s, .int .i64 e0, .slice (some ⟨w.heap.size + 2, 0, none⟩) 1 1, .slice (some ⟨w.heap.size + 3, 0, none⟩) p p] 35) = w2 at *
  generalize w1.heap.size = X at *
  go_loopw [10] (fun iv wr => ∃ (k S : Nat) (tv : Value), k ≤ x.length ∧ iv = .int .i64 k ∧ EvSt w.heap.size X x.length s e0 p k S x tv w wr) (fun iv _ => x.length - (intOf iv).toNat)
  case atStart => exact ⟨0, _, _, Nat.zero_le _, rfl, hX⟩
  case round =>
    clear hX
    obtain ⟨k, S, tv, hk, rfl, hX⟩ := hrel
    have c4 := hX.ch.c4
    by_cases hlt : k < x.length
    · obtain ⟨g, off, r, rfl, hg, hc, hri⟩ := hx.at k hlt
      have hcr := (hX.b.cell (p := ⟨g, off + k, none⟩) hg).trans hc
      have hrk := hr.out k hlt
      have ct := hX.ct
      obtain ⟨rs, h1, h3, hl⟩ := hX.t.parts
      obtain ⟨ta, tc, rfl⟩ := h1.read.slice
      rw [List.length_take] at hl
      have hrl : rs.length ≤ 1099511627776 := by omega
      have HX := Lib.hid hX
      have H1 := Lib.hid h1
      have H3 := Lib.hid h3
      have HRI := Lib.hid (l00Own_any _ _ _ (hri.later hX.b.drew) hrk)
      clear hX h1 h3 hl hri
      go_wp2_with fail
      refine wp_region_held_drew (S := fun w' => w'.cell? ⟨X, 4, none⟩ = some (.slice (some ⟨w.heap.size + 2, 0, none⟩) 1 1) ∧ w'.cell? ⟨g, off + k, none⟩ = some r) (by kernel_rfl) (by (try dsimp only); go_keep) (fun hHeld => ?_)
      refine wpAnyH_take (i := 0) (oi := ⟨some 26, _, _, _, _, _⟩) (v := ?va0) rfl (by kernel_rfl) (by kernel_rfl) (by kernel_rfl) (fun _ _ _ h => h) (Or.inl ⟨by rfl, ?ya0⟩) hHeld ?ra0
      case ya0 => (intro w hSw; (try dsimp only at hSw); go_simp; all_goals (with_reducible rfl))
      try simp only [Act.put, List.setIfInBounds_toArray, List.set_cons_zero, List.set_cons_succ]
      refine wpAnyH_take (i := 1) (oi := ⟨some 27, _, _, _, _, _⟩) (v := ?va1) rfl (by kernel_rfl) (by kernel_rfl) (by kernel_rfl) (fun _ _ _ h => h) (Or.inl ⟨by rfl, ?ya1⟩) hHeld ?ra1
      case ya1 => (intro w hSw; (try dsimp only at hSw); go_simp; all_goals (with_reducible rfl))
      try simp only [Act.put, List.setIfInBounds_toArray, List.set_cons_zero, List.set_cons_succ]
      refine wpAnyH_take (i := 2) (oi := ⟨some 28, _, _, _, _, _⟩) (v := ?va2) rfl (by kernel_rfl) (by kernel_rfl) (by kernel_rfl) (fun _ _ _ h => h) (Or.inl ⟨by rfl, ?ya2⟩) hHeld ?ra2
      case ya2 => (intro w hSw; (try dsimp only at hSw); go_simp; all_goals (with_reducible rfl))
      try simp only [Act.put, List.setIfInBounds_toArray, List.set_cons_zero, List.set_cons_succ]
      refine wpAnyH_take (i := 3) (oi := ⟨some 29, _, _, _, _, _⟩) (v := ?va3) rfl (by kernel_rfl) (by kernel_rfl) (by kernel_rfl) (fun _ _ _ h => h) (Or.inl ⟨by rfl, ?ya3⟩) hHeld ?ra3
      case ya3 => (intro w hSw; (try dsimp only at hSw); go_simp; all_goals (with_reducible rfl))
      try simp only [Act.put, List.setIfInBounds_toArray, List.set_cons_zero, List.set_cons_succ]
      refine wpAnyH_take (i := 4) (oi := ⟨some 30, _, _, _, _, _⟩) (v := ?va4) rfl (by kernel_rfl) (by kernel_rfl) (by kernel_rfl) (fun _ _ _ h => h) (Or.inl ⟨by rfl, ?ya4⟩) hHeld ?ra4
      case ya4 => (intro w hSw; (try dsimp only at hSw); go_simp; all_goals (with_reducible rfl))
      try simp only [Act.put, List.setIfInBounds_toArray, List.set_cons_zero, List.set_cons_succ]
      refine wpAnyH_take (i := 6) (oi := ⟨some 32, _, _, _, _, _⟩) (v := ?va6) rfl (by kernel_rfl) (by kernel_rfl) (by kernel_rfl) (fun _ _ _ h => h) (Or.inl ⟨by rfl, ?ya6⟩) hHeld ?ra6
      case ya6 => (intro w hSw; (try dsimp only at hSw); go_simp; all_goals (with_reducible rfl))
      try simp only [Act.put, List.setIfInBounds_toArray, List.set_cons_zero, List.set_cons_succ]
      refine wpAnyH_take (i := 7) (oi := ⟨some 33, _, _, _, _, _⟩) (v := ?va7) rfl (by kernel_rfl) (by kernel_rfl) (by kernel_rfl) (fun _ _ _ h => h) (Or.inl ⟨by rfl, ?ya7⟩) hHeld ?ra7
      case ya7 => (intro w hSw; (try dsimp only at hSw); go_simp; all_goals (with_reducible rfl))
      try simp only [Act.put, List.setIfInBounds_toArray, List.set_cons_zero, List.set_cons_succ]
      refine wpAnyH_take (i := 8) (oi := ⟨some 34, _, _, _, _, _⟩) (v := ?va8) rfl (by kernel_rfl) (by kernel_rfl) (by kernel_rfl) (fun _ _ _ h => h) (Or.inl ⟨by rfl, ?ya8⟩) hHeld ?ra8
      case ya8 => (intro w hSw; (try dsimp only at hSw); go_simp; all_goals (with_reducible rfl))
      try simp only [Act.put, List.setIfInBounds_toArray, List.set_cons_zero, List.set_cons_succ]
      refine wpAnyH_take (i := 9) (oi := ⟨some 35, _, _, _, _, _⟩) (v := ?va9) rfl (by kernel_rfl) (by kernel_rfl) (by kernel_rfl) (fun _ _ _ h => h) (Or.inl ⟨by rfl, ?ya9⟩) hHeld ?ra9
      case ya9 => (intro w hSw; (try dsimp only at hSw); go_simp; all_goals (with_reducible rfl))
      try simp only [Act.put, List.setIfInBounds_toArray, List.set_cons_zero, List.set_cons_succ]
      refine wpAnyH_ready (rs := [5, 10]) (by kernel_rfl) (by simp) ?_
      refine AllReadyH.cons rfl (fun K hK => ?cb) (AllReadyH.cons rfl (fun K hK => ?ab) AllReadyH.nil)
      case cb =>
        go_simp
        clear hHeld
        refine hK.out _ _ (by (try dsimp only); go_keep) (fun hHeld => ?_)
        clear hK K
        try simp only [Act.put, List.setIfInBounds_toArray, List.set_cons_zero, List.set_cons_succ]
        refine wpAnyH_ready (rs := [10]) (by kernel_rfl) (by simp) ?_
        refine AllReadyH.cons rfl (fun K hK => ?_) AllReadyH.nil
        go_simp
        go_at_call 65
        refine HRI.out.mono ?_
        rintro e w4 ⟨u, rfl, hou, hb4⟩
        replace hb4 : Below wr.heap.size wr w4 := (Below.refl _ _).drew.trans hb4
        have HX4 := Lib.hid (HX.out.later hb4)
        have h1 := H1.out.later hb4
        have h3 : Rows (w.heap.size + 1) S w4 (Value.ownBlock (.slice ta rs.length tc)) rs (x.take k) := H3.out.keep (fun q _ h2 _ => hb4.block q (by have := HX.out.sz; omega))
        replace hou : OI S w4 u (rowAt x k) := hou.mono HX.out.sz.2.2.2
        have d4 := HX4.out.ch.c4
        have dt := HX4.out.ct
        have dr := (HX4.out.b.cell (p := ⟨g, off + k, none⟩) hg).trans hc
        obtain ⟨ua, uc, rfl⟩ := hou.slice
        clear c4 ct hHeld
        refine hK.out _ _ (by (try dsimp only); go_keep) (fun hHeld => ?_)
        clear hK K
        try simp only [Act.put, List.setIfInBounds_toArray, List.set_cons_zero, List.set_cons_succ]
        refine wpAnyH_ready (rs := [11]) (by kernel_rfl) (by simp) ?_
        refine AllReadyH.cons rfl (fun K hK => ?_) AllReadyH.nil
        go_simp
        clear hHeld
        refine hK.out _ _ (by (try dsimp only); go_keep) (fun hHeld => ?_)
        clear hK K
        try simp only [Act.put, List.setIfInBounds_toArray, List.set_cons_zero, List.set_cons_succ]
        have ct2 : (w4.alloc (.cells #[.slice ua (rowAt x k).length uc] 29)).cell? ⟨w.heap.size + 2, 0, none⟩ = some (.slice ta rs.length tc) := (World.cell?_alloc_lt _ _ _ (World.block_lt_of_cell? w4 _ dt)).trans dt
        have hsz4 : w.heap.size + 1 ≤ (w4.alloc (.cells #[.slice ua (rowAt x k).length uc] 29)).heap.size := by have := HX4.out.sz; simp; omega
        refine wpAnyH_ready (rs := [12]) (by kernel_rfl) (by simp) ?_
        refine AllReadyH.cons rfl (fun K hK => ?_) AllReadyH.nil
        refine step_app Try.underlying24 info_row rfl (by omega) (by rfl) _ _ (by rfl) (w.heap.size + 1) _ _ (by rfl) (h1.alloc _) ⟨w4.heap.size, 0, none⟩ 1 (.slice ua (rowAt x k).length uc) (by rfl) (World.cell?_alloc_at _ _ _ _ rfl) rfl hrl hsz4 ?_
        intro v' w5 hv hgr
        have HP := Lib.hid (evPush HX4.out hlt h1 h3 hou hv hgr)
        obtain ⟨va, vc, hv'⟩ := hv.read.slice
        rw [List.length_append, List.length_singleton] at hv'
        subst hv'
        clear d4 dt dr hHeld
        have d4 := HP.out.1.c4
        have dt := HP.out.2.1
        have df := HP.out.2.2.1
        have dr := (HP.out.2.2.2.1.cell (p := ⟨g, off + k, none⟩) hg).trans hc
        refine hK.out _ _ (by (try dsimp only); go_keep) (fun hHeld => ?_)
        clear hK K
        try simp only [Act.put, List.setIfInBounds_toArray, List.set_cons_zero, List.set_cons_succ]
        refine wpAnyH_take (i := 13) (oi := ⟨some 39, _, _, _, _, _⟩) (v := ?vc13) rfl (by kernel_rfl) (by kernel_rfl) (by kernel_rfl) (fun _ _ _ h => h) (Or.inl ⟨by rfl, ?yc13⟩) hHeld ?rc13
        case yc13 => (intro w hSw; (try dsimp only at hSw); go_simp; all_goals (with_reducible rfl))
        try simp only [Act.put, List.setIfInBounds_toArray, List.set_cons_zero, List.set_cons_succ]
        refine wpAnyH_ready (rs := [14]) (by kernel_rfl) (by simp) ?_
        refine AllReadyH.cons rfl (fun K hK => ?_) AllReadyH.nil
        go_simp
        have HE := Lib.hid HP.out.2.2.2.2
        have ex := (HE.out.b.cell (p := ⟨g, off + k, none⟩) hg).trans hc
        have e4 := HE.out.ch.c4
        clear hHeld
        refine hK.out _ _ ⟨e4, ex⟩ (fun hHeld => ?_)
        clear hK K
        try simp only [Act.put, List.setIfInBounds_toArray, List.set_cons_zero, List.set_cons_succ]
        refine wpAnyH_done (by kernel_rfl) ?_ _
        clear d4 dt df dr e4 ex hHeld HP
        go_wp2_with fail
        go_roundw
        case rel => exact ⟨k + 1, _, _, by omega, by go_num, HE.out⟩
        case measure => first | (simp [intOf]; done) | (simp [intOf]; omega)
      case ab =>
        go_simp
        go_at_call 65
        refine HRI.out.mono ?_
        rintro e w4 ⟨u, rfl, hou, hb4⟩
        replace hb4 : Below wr.heap.size wr w4 := (Below.refl _ _).drew.trans hb4
        have HX4 := Lib.hid (HX.out.later hb4)
        have h1 := H1.out.later hb4
        have h3 : Rows (w.heap.size + 1) S w4 (Value.ownBlock (.slice ta rs.length tc)) rs (x.take k) := H3.out.keep (fun q _ h2 _ => hb4.block q (by have := HX.out.sz; omega))
        replace hou : OI S w4 u (rowAt x k) := hou.mono HX.out.sz.2.2.2
        have d4 := HX4.out.ch.c4
        have dt := HX4.out.ct
        have dr := (HX4.out.b.cell (p := ⟨g, off + k, none⟩) hg).trans hc
        obtain ⟨ua, uc, rfl⟩ := hou.slice
        clear c4 ct hHeld
        refine hK.out _ _ (by (try dsimp only); go_keep) (fun hHeld => ?_)
        clear hK K
        try simp only [Act.put, List.setIfInBounds_toArray, List.set_cons_zero, List.set_cons_succ]
        refine wpAnyH_ready (rs := [5, 11]) (by kernel_rfl) (by simp) ?_
        refine AllReadyH.cons rfl (fun K hK => ?cd) (AllReadyH.cons rfl (fun K hK => ?ad) AllReadyH.nil)
        case cd =>
          go_simp
          clear hHeld
          refine hK.out _ _ (by (try dsimp only); go_keep) (fun hHeld => ?_)
          clear hK K
          try simp only [Act.put, List.setIfInBounds_toArray, List.set_cons_zero, List.set_cons_succ]
          refine wpAnyH_ready (rs := [11]) (by kernel_rfl) (by simp) ?_
          refine AllReadyH.cons rfl (fun K hK => ?_) AllReadyH.nil
          go_simp
          clear hHeld
          refine hK.out _ _ (by (try dsimp only); go_keep) (fun hHeld => ?_)
          clear hK K
          try simp only [Act.put, List.setIfInBounds_toArray, List.set_cons_zero, List.set_cons_succ]
          have ct2 : (w4.alloc (.cells #[.slice ua (rowAt x k).length uc] 29)).cell? ⟨w.heap.size + 2, 0, none⟩ = some (.slice ta rs.length tc) := (World.cell?_alloc_lt _ _ _ (World.block_lt_of_cell? w4 _ dt)).trans dt
          have hsz4 : w.heap.size + 1 ≤ (w4.alloc (.cells #[.slice ua (rowAt x k).length uc] 29)).heap.size := by have := HX4.out.sz; simp; omega
          refine wpAnyH_ready (rs := [12]) (by kernel_rfl) (by simp) ?_
          refine AllReadyH.cons rfl (fun K hK => ?_) AllReadyH.nil
          refine step_app Try.underlying24 info_row rfl (by omega) (by rfl) _ _ (by rfl) (w.heap.size + 1) _ _ (by rfl) (h1.alloc _) ⟨w4.heap.size, 0, none⟩ 1 (.slice ua (rowAt x k).length uc) (by rfl) (World.cell?_alloc_at _ _ _ _ rfl) rfl hrl hsz4 ?_
          intro v' w5 hv hgr
          have HP := Lib.hid (evPush HX4.out hlt h1 h3 hou hv hgr)
          obtain ⟨va, vc, hv'⟩ := hv.read.slice
          rw [List.length_append, List.length_singleton] at hv'
          subst hv'
          clear d4 dt dr hHeld
          have d4 := HP.out.1.c4
          have dt := HP.out.2.1
          have df := HP.out.2.2.1
          have dr := (HP.out.2.2.2.1.cell (p := ⟨g, off + k, none⟩) hg).trans hc
          refine hK.out _ _ (by (try dsimp only); go_keep) (fun hHeld => ?_)
          clear hK K
          try simp only [Act.put, List.setIfInBounds_toArray, List.set_cons_zero, List.set_cons_succ]
          refine wpAnyH_take (i := 13) (oi := ⟨some 39, _, _, _, _, _⟩) (v := ?ve13) rfl (by kernel_rfl) (by kernel_rfl) (by kernel_rfl) (fun _ _ _ h => h) (Or.inl ⟨by rfl, ?ye13⟩) hHeld ?re13
          case ye13 => (intro w hSw; (try dsimp only at hSw); go_simp; all_goals (with_reducible rfl))
          try simp only [Act.put, List.setIfInBounds_toArray, List.set_cons_zero, List.set_cons_succ]
          refine wpAnyH_ready (rs := [14]) (by kernel_rfl) (by simp) ?_
          refine AllReadyH.cons rfl (fun K hK => ?_) AllReadyH.nil
          go_simp
          have HE := Lib.hid HP.out.2.2.2.2
          have ex := (HE.out.b.cell (p := ⟨g, off + k, none⟩) hg).trans hc
          have e4 := HE.out.ch.c4
          clear hHeld
          refine hK.out _ _ ⟨e4, ex⟩ (fun hHeld => ?_)
          clear hK K
          try simp only [Act.put, List.setIfInBounds_toArray, List.set_cons_zero, List.set_cons_succ]
          refine wpAnyH_done (by kernel_rfl) ?_ _
          clear d4 dt df dr e4 ex hHeld HP
          go_wp2_with fail
          go_roundw
          case rel => exact ⟨k + 1, _, _, by omega, by go_num, HE.out⟩
          case measure => first | (simp [intOf]; done) | (simp [intOf]; omega)
        case ad =>
          go_simp
          clear hHeld
          refine hK.out _ _ (by (try dsimp only); go_keep) (fun hHeld => ?_)
          clear hK K
          try simp only [Act.put, List.setIfInBounds_toArray, List.set_cons_zero, List.set_cons_succ]
          have ct2 : (w4.alloc (.cells #[.slice ua (rowAt x k).length uc] 29)).cell? ⟨w.heap.size + 2, 0, none⟩ = some (.slice ta rs.length tc) := (World.cell?_alloc_lt _ _ _ (World.block_lt_of_cell? w4 _ dt)).trans dt
          refine wpAnyH_ready (rs := [5]) (by kernel_rfl) (by simp) ?_
          refine AllReadyH.cons rfl (fun K hK => ?_) AllReadyH.nil
          go_simp
          clear hHeld
          refine hK.out _ _ (by (try dsimp only); go_keep) (fun hHeld => ?_)
          clear hK K
          try simp only [Act.put, List.setIfInBounds_toArray, List.set_cons_zero, List.set_cons_succ]
          have hsz4 : w.heap.size + 1 ≤ (w4.alloc (.cells #[.slice ua (rowAt x k).length uc] 29)).heap.size := by have := HX4.out.sz; simp; omega
          refine wpAnyH_ready (rs := [12]) (by kernel_rfl) (by simp) ?_
          refine AllReadyH.cons rfl (fun K hK => ?_) AllReadyH.nil
          refine step_app Try.underlying24 info_row rfl (by omega) (by rfl) _ _ (by rfl) (w.heap.size + 1) _ _ (by rfl) (h1.alloc _) ⟨w4.heap.size, 0, none⟩ 1 (.slice ua (rowAt x k).length uc) (by rfl) (World.cell?_alloc_at _ _ _ _ rfl) rfl hrl hsz4 ?_
          intro v' w5 hv hgr
          have HP := Lib.hid (evPush HX4.out hlt h1 h3 hou hv hgr)
          obtain ⟨va, vc, hv'⟩ := hv.read.slice
          rw [List.length_append, List.length_singleton] at hv'
          subst hv'
          clear d4 dt dr hHeld
          have d4 := HP.out.1.c4
          have dt := HP.out.2.1
          have df := HP.out.2.2.1
          have dr := (HP.out.2.2.2.1.cell (p := ⟨g, off + k, none⟩) hg).trans hc
          refine hK.out _ _ (by (try dsimp only); go_keep) (fun hHeld => ?_)
          clear hK K
          try simp only [Act.put, List.setIfInBounds_toArray, List.set_cons_zero, List.set_cons_succ]
          refine wpAnyH_take (i := 13) (oi := ⟨some 39, _, _, _, _, _⟩) (v := ?vf13) rfl (by kernel_rfl) (by kernel_rfl) (by kernel_rfl) (fun _ _ _ h => h) (Or.inl ⟨by rfl, ?yf13⟩) hHeld ?rf13
          case yf13 => (intro w hSw; (try dsimp only at hSw); go_simp; all_goals (with_reducible rfl))
          try simp only [Act.put, List.setIfInBounds_toArray, List.set_cons_zero, List.set_cons_succ]
          refine wpAnyH_ready (rs := [14]) (by kernel_rfl) (by simp) ?_
          refine AllReadyH.cons rfl (fun K hK => ?_) AllReadyH.nil
          go_simp
          have HE := Lib.hid HP.out.2.2.2.2
          have ex := (HE.out.b.cell (p := ⟨g, off + k, none⟩) hg).trans hc
          have e4 := HE.out.ch.c4
          clear hHeld
          refine hK.out _ _ ⟨e4, ex⟩ (fun hHeld => ?_)
          clear hK K
          try simp only [Act.put, List.setIfInBounds_toArray, List.set_cons_zero, List.set_cons_succ]
          refine wpAnyH_done (by kernel_rfl) ?_ _
          clear d4 dt df dr e4 ex hHeld HP
          go_wp2_with fail
          go_roundw
          case rel => exact ⟨k + 1, _, _, by omega, by go_num, HE.out⟩
          case measure => first | (simp [intOf]; done) | (simp [intOf]; omega)
    · obtain rfl : k = x.length := by omega
      obtain ⟨g, off, r, rfl, hg, hc, hri⟩ := hx.at 0 (by omega)
      obtain ⟨ra, rc, rfl⟩ := hri.slice
      have hcr : wr.cell? ⟨g, off, none⟩ = some (.slice ra (rowAt x 0).length rc) := (hX.b.cell (p := ⟨g, off, none⟩) hg).trans hc
      have HE := Lib.hid (evEnd hX)
      have hne : ¬ w.heap.size = X := by have := hX.sz; omega
      have hne' : ¬ X = w.heap.size := by have := hX.sz; omega
      have hgX : ¬ g = X := by have := hX.sz; omega
      have c0 := hX.ch.c0
      have c1 := hX.ch.c1
      have c2 := hX.ch.c2
      have c3 := hX.ch.c3
      have c5 := hX.ch.c5
      have f0 := hX.fx 0
      have k0 := hX.cr.c0
      have k1 := hX.cr.c1
      have k2 := hX.cr.c2
      have k3 := hX.cr.c3
      have k4 := hX.cr.c4
      have k5 := hX.cr.c5
      have g0 := hX.fr 0
      have g1 := hX.fr 1
      have g2 := hX.fr 2
      have g3 := hX.fr 3
      have g4 := hX.fr 4
      have g5 := hX.fr 5
      have HB := Lib.hid hX.b
      have hXX := hX.sz.1
      clear hX hc
      go_wp2_with fail
      obtain ⟨s1, s2⟩ := set6 (r := w.heap.size) (w := wr.setCell ⟨X, 0, none⟩ (.int .i64 (rowAt x 0).length)) (.int .i64 (rowAt x 0).length) (.int .i64 x.length) (.int .i64 s) (.int .i64 e0) (.slice (some ⟨w.heap.size + 2, 0, none⟩) 1 1) (.slice (some ⟨w.heap.size + 3, 0, none⟩) p p)
      have HS : Hid (∀ w'', (∀ q, w.heap.size ≤ q → q < wr.heap.size → q5 w'' (((((((wr.setCell ⟨X, 0, none⟩ (.int .i64 (rowAt x 0).length)).setCell ⟨w.heap.size, 0, none⟩ (.int .i64 (rowAt x 0).length)).setCell ⟨w.heap.size, 1, none⟩ (.int .i64 x.length)).setCell ⟨w.heap.size, 2, none⟩ (.int .i64 s)).setCell ⟨w.heap.size, 3, none⟩ (.int .i64 e0)).setCell ⟨w.heap.size, 4, none⟩ (.slice (some ⟨w.heap.size + 2, 0, none⟩) 1 1)).setCell ⟨w.heap.size, 5, none⟩ (.slice (some ⟨w.heap.size + 3, 0, none⟩) p p)) q) → R3 w'' (.slice (some ⟨w.heap.size + 2, 0, none⟩) 1 1) [x] ∧ RI w'' (.slice (some ⟨w.heap.size + 3, 0, none⟩) p p) (List.replicate p 0)) :=
        fun w'' hw => HE.out w'' (fun q q0 q3 q1 q2 => (hw q q0 q3).trans ((s1 q q2).trans (heap_setCell_other _ _ _ _ q1)))
      have hsz : (((((((wr.setCell ⟨X, 0, none⟩ (.int .i64 (rowAt x 0).length)).setCell ⟨w.heap.size, 0, none⟩ (.int .i64 (rowAt x 0).length)).setCell ⟨w.heap.size, 1, none⟩ (.int .i64 x.length)).setCell ⟨w.heap.size, 2, none⟩ (.int .i64 s)).setCell ⟨w.heap.size, 3, none⟩ (.int .i64 e0)).setCell ⟨w.heap.size, 4, none⟩ (.slice (some ⟨w.heap.size + 2, 0, none⟩) 1 1)).setCell ⟨w.heap.size, 5, none⟩ (.slice (some ⟨w.heap.size + 3, 0, none⟩) p p)).heap.size = wr.heap.size := by simp
      rw [← hsz] at HS
      clear hsz
      have HB2 := Lib.hid (s2 _ _ (Nat.le_refl _) (HB.out.setCell (by show w.heap.size ≤ X; omega) _))
      clear s1 s2
      exact bodyPost_ret (v := .agg #[.int .i64 (rowAt x 0).length, .int .i64 x.length, .int .i64 s, .int .i64 e0, .slice (some ⟨w.heap.size + 2, 0, none⟩) 1 1, .slice (some ⟨w.heap.size + 3, 0, none⟩) p p]) (by simp [results, Try.results48, go_sem, k0, k1, k2, k3, k4, k5]) rfl ⟨_, _, rfl, HS.out, HB2.out⟩
end Go.Proofs.Ythcnhkjiojeemaa
