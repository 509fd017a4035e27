/- GroupChain: its tables, the state while it is made, and the closure. -/
import Derived.Test.YtghmpaegmicheaaChB
import Derived.Test.YtghmpaegmicheaaGrpC
import Derived.Test.YtghmpaegmicheaaOrd
namespace Go.Proofs.Ytghmpaegmicheaa
open Go.RowKit

/-- The table of a map into a group. -/
def gT (x : List (List Int)) (m : List Int) : List (List Int) := mkT x.length fun i d => tb x (m.getD d 0).toNat i
def tabs (x : List (List Int)) (ms : List (List Int)) : List (List (List Int)) := ms.map (gT x)
def idx (k : Nat) : List Int := (List.range k).map fun (i : Nat) => (i : Int)
theorem idx_succ (k : Nat) : idx (k + 1) = idx k ++ [(k : Int)] := by unfold idx; rw [List.range_succ, List.map_append]; rfl
theorem idx_len (k : Nat) : (idx k).length = k := by simp [idx]
theorem idx_get {k i : Nat} (h : i < k) : (idx k).getD i 0 = i := by simp [idx, h]
theorem tabs_len (x : List (List Int)) (ms : List (List Int)) : (tabs x ms).length = ms.length := by simp [tabs]
theorem tabs_take {x ms : List (List Int)} {k : Nat} (h : k < ms.length) : tabs x (ms.take (k + 1)) = tabs x (ms.take k) ++ [gT x (rowAt ms k)] := by
  unfold tabs
  rw [take_snocT h, List.map_append]; rfl
theorem tabs_at {x ms : List (List Int)} {k : Nat} (h : k < ms.length) : tabAt (tabs x ms) k = gT x (rowAt ms k) := by
  unfold tabAt tabs rowAt
  simp [h]
def mOk (n : Nat) (m : List Int) : Bool := decide (m.length = n) && ordAt n m
theorem mOk_iff {n : Nat} {m : List Int} : mOk n m = true ↔ m.length = n ∧ ordAt n m = true := by unfold mOk; simp
def gcOk (x : List (List Int)) (ms : List (List Int)) (e : Int) : Bool := hasB x e && (decide (2 ≤ x.length) && (inB ms.length 1 20 && (allN ms.length (fun i => mOk x.length (rowAt ms i)) && powB x.length ms.length)))
theorem mOk_bd {n : Nat} {m : List Int} (h : mOk n m = true) (i : Nat) (hi : i < n) : 0 ≤ m.getD i 0 ∧ m.getD i 0 < n := by
  obtain ⟨h1, h2⟩ := mOk_iff.1 h
  have := (diffB_iff.1 h2).1 i (by omega)
  have := inB_iff.1 this
  omega
theorem gc_good {x ms : List (List Int)} {e : Nat} (hg : grpB x = true) (he : e < x.length) (h2 : 2 ≤ x.length) (hm : 1 ≤ ms.length ∧ ms.length ≤ 20) (ho : ∀ i, i < ms.length → mOk x.length (rowAt ms i) = true) {s : Nat} (hs : s < x.length) :
    GoodC x.length x.length s e (tabs x ms) (idx ms.length) := by
  have hsq := grpB_iff.1 hg
  have h10 := (sqB_iff.1 hsq.1).1
  refine ⟨⟨h2, by omega⟩, ⟨by omega, by omega⟩, hs, he, by rw [tabs_len]; exact hm, by rw [idx_len]; exact hm, fun t ht => ?_, fun i hi => ?_⟩
  · rw [tabs_len] at ht
    rw [tabs_at ht]
    refine ⟨mkT_len _ _, fun i hi => ⟨mkT_rowlen _ _ _ hi, fun d hd => ?_⟩⟩
    unfold gT
    rw [mkT_get _ _ _ _ hi hd]
    have := mOk_bd (ho t ht) d hd
    have := tb_bd hsq.1 ((rowAt ms t).getD d 0).toNat i (by omega) hi
    exact inB_yes (by omega)
  · rw [idx_len] at hi
    rw [idx_get hi, tabs_len]
    exact inB_yes (by omega)

/-- The chain while it is made: the group's box at w0's end, the result's box r, the chain's box X. -/
structure GcSt (pg r X n : Nat) (s e : Int) (gv : Value) (xs : List (List (List Int))) (ys : List Int) (tv pv : Value) (w0 w : World) : Prop where
  g : w.cell? ⟨pg, 0, none⟩ = some gv
  cr : AF r w
  rX : pg < X ∧ pg ≠ r ∧ w0.heap.size ≤ r ∧ r < X
  ch : ChAt X n n s e tv pv w
  fx : ∀ o, w.frozen? ⟨X, o, none⟩ = false
  o : O3 pv.ownBlock (X + 1) w.heap.size w tv xs
  pl : OI (X + 1) w pv ys
  b : Below w0.heap.size w0 w
section
variable {pg r X n : Nat} {s e : Int} {gv : Value} {xs : List (List (List Int))} {ys : List Int} {tv pv : Value} {w0 w w' : World}
theorem GcSt.later (h : GcSt pg r X n s e gv xs ys tv pv w0 w) (hb : Below w.heap.size w w') : GcSt pg r X n s e gv xs ys tv pv w0 w' :=
  ⟨(hb.cell (p := ⟨pg, 0, none⟩) (World.block_lt_of_cell? w _ h.g)).trans h.g, h.cr.later hb, h.rX, h.ch.later hb, fun o => (hb.frozen (p := ⟨X, o, none⟩) h.ch.lt).trans (h.fx o), (h.o.later hb (Nat.le_refl _)).mono hb.size, OV.later h.pl hb, h.b.trans (hb.mono h.b.size)⟩
/-- One field of the chain's box is written. -/
theorem GcSt.tab {w2 w5 : World} {u v' : Value} {ts : List Value} {y : List (List Int)} (h : GcSt pg r X n s e gv xs ys tv pv w0 w) (hp : O3 pv.ownBlock (X + 1) w5.heap.size w5 v' (xs ++ [y]) ∧ Below (X + 1) w w5) (hb : Below w.heap.size w w2)
    (hown : OV 22 (X + 1) w2 tv ts) (hg : (w2.alloc (.cells #[u] 22)).grownBy w5 tv.ownBlock) :
    ChAt X n n s e tv pv w5 ∧ w5.frozen? ⟨X, 4, none⟩ = false ∧ GcSt pg r X n s e gv (xs ++ [y]) ys v' pv w0 (w5.setCell ⟨X, 4, none⟩ v') := by
  obtain ⟨hp1, hp2⟩ := hp
  have hT : (22 : TypeId) ≠ 2 := by decide
  have hrX := h.rX
  have hXl := h.ch.lt
  have hz := hp2.size
  have nq : ∀ q, q < X + 1 → q < w.heap.size → q5 w5 w q := fun q hq hq2 => hp2.block q hq
  have k4 : w5.cell? ⟨X, 4, none⟩ = some tv := (cellH (nq X (by omega) hXl) 4).trans h.ch.c4
  have f4 : w5.frozen? ⟨X, 4, none⟩ = false := (frozenH (nq X (by omega) hXl) 4).trans (h.fx 4)
  have hc5 := h.ch.heap (nq X (by omega) hXl) hz
  have o : ∀ q, q ≠ X → q5 (w5.setCell ⟨X, 4, none⟩ v') w5 q := fun q hq => heap_setCell_other _ _ _ _ hq
  have hgl := World.block_lt_of_cell? w _ h.g
  have hpl5 : OI (X + 1) w5 pv ys := by
    refine OV.heap (OV.later h.pl hb) fun k hk => ?_
    have hlt := h.pl.lt k hk
    have hnt : tv.ownBlock ≠ some k := fun e => OV.ne hown (OV.later h.pl hb) hT k e hk
    exact (hg.block k (by have := hb.size; simp; omega) (fun e => hnt e.symm)).trans (((Below.refl w2.heap.size w2).alloc (Nat.le_refl _) (.cells #[u] 22)).block k (by have := hb.size; omega))
  refine ⟨hc5, f4, ?_, ?_, hrX, ?_, fun i => (World.frozen?_setCell ..).trans ((frozenH (nq X (by omega) hXl) i).trans (h.fx i)), ?_, OV.heap hpl5 fun k hk => o k (by have := (hpl5.lt k hk).1; omega), (h.b.trans (hp2.mono (by omega))).setCell (by show w0.heap.size ≤ X; omega) _⟩
  · exact (cellH (o pg (by omega)) 0).trans ((cellH (nq pg (by omega) hgl) 0).trans h.g)
  · have hr := nq r (by omega) h.cr.ch.lt
    exact ⟨(h.cr.ch.heap hr hz).heap (o r (by omega)) (by simp), fun i => (World.frozen?_setCell ..).trans ((frozenH hr i).trans (h.cr.fz i))⟩
  · exact ⟨by simp; exact hc5.lt, (World.cell?_setCell_other (h := by simp) ..).trans hc5.c0, (World.cell?_setCell_other (h := by simp) ..).trans hc5.c1, (World.cell?_setCell_other (h := by simp) ..).trans hc5.c2, (World.cell?_setCell_other (h := by simp) ..).trans hc5.c3, World.cell?_setCell_same (h := k4) .., (World.cell?_setCell_other (h := by simp) ..).trans hc5.c5⟩
  · have hz2 : (w5.setCell ⟨X, 4, none⟩ v').heap.size = w5.heap.size := by simp
    rw [hz2]
    exact hp1.keep fun k k1 _ => o k (by omega)
theorem GcSt.plc {w5 : World} {u pv' : Value} {z : Int} {T : TypeId} (h : GcSt pg r X n s e gv xs ys tv pv w0 w) (hv : OI (X + 1) w5 pv' (ys ++ [z])) (hg : (w.alloc (.cells #[u] T)).grownBy w5 pv.ownBlock) (hL : Loc (w.alloc (.cells #[u] T)) pv pv') :
    ChAt X n n s e tv pv w5 ∧ w5.frozen? ⟨X, 5, none⟩ = false ∧ GcSt pg r X n s e gv xs (ys ++ [z]) tv pv' w0 (w5.setCell ⟨X, 5, none⟩ pv') := by
  have hrX := h.rX
  have hXl := h.ch.lt
  have hp1 := h.o.pushP h.pl (Nat.le_refl _) hg hL
  have hba : Below w.heap.size w (w.alloc (.cells #[u] T)) := (Below.refl _ _).alloc (Nat.le_refl _) _
  have hp2 : Below (X + 1) w w5 := own_below ((Below.refl (X + 1) w).alloc (by omega) _) (OV.alloc h.pl _) hg (by simp; omega)
  have hz := hp2.size
  have nq : ∀ q, q < X + 1 → q < w.heap.size → q5 w5 w q := fun q hq hq2 => hp2.block q hq
  have k5 : w5.cell? ⟨X, 5, none⟩ = some pv := (cellH (nq X (by omega) hXl) 5).trans h.ch.c5
  have f5 : w5.frozen? ⟨X, 5, none⟩ = false := (frozenH (nq X (by omega) hXl) 5).trans (h.fx 5)
  have hc5 := h.ch.heap (nq X (by omega) hXl) hz
  have o : ∀ q, q ≠ X → q5 (w5.setCell ⟨X, 5, none⟩ pv') w5 q := fun q hq => heap_setCell_other _ _ _ _ hq
  have hgl := World.block_lt_of_cell? w _ h.g
  refine ⟨hc5, f5, ?_, ?_, hrX, ?_, fun i => (World.frozen?_setCell ..).trans ((frozenH (nq X (by omega) hXl) i).trans (h.fx i)), ?_, OV.heap hv fun k hk => o k (by have := (hv.lt k hk).1; omega), (h.b.trans (hp2.mono (by omega))).setCell (by show w0.heap.size ≤ X; omega) _⟩
  · exact (cellH (o pg (by omega)) 0).trans ((cellH (nq pg (by omega) hgl) 0).trans h.g)
  · have hr := nq r (by omega) h.cr.ch.lt
    exact ⟨(h.cr.ch.heap hr hz).heap (o r (by omega)) (by simp), fun i => (World.frozen?_setCell ..).trans ((frozenH hr i).trans (h.cr.fz i))⟩
  · exact ⟨by simp; exact hc5.lt, (World.cell?_setCell_other (h := by simp) ..).trans hc5.c0, (World.cell?_setCell_other (h := by simp) ..).trans hc5.c1, (World.cell?_setCell_other (h := by simp) ..).trans hc5.c2, (World.cell?_setCell_other (h := by simp) ..).trans hc5.c3, (World.cell?_setCell_other (h := by simp) ..).trans hc5.c4, World.cell?_setCell_same (h := k5) ..⟩
  · have hz2 : (w5.setCell ⟨X, 5, none⟩ pv').heap.size = w5.heap.size := by simp
    rw [hz2]
    exact (hp1.mono hz).keep fun k k1 _ => o k (by omega)
end
set_option maxRecDepth 100000 in
set_option maxHeartbeats 4000000 in
theorem gc1_any (x : List (List Int)) (m : List Int) (mv : Value) (p3 p11 C : Nat) (i d : Nat) (w : World) {G O : Nat} {H F P : Nat → Nat} (hsq : sqB x = true) (hm : mOk x.length m = true)
    (hs : SqAt G O H F P x w) (c3 : w.cell? ⟨p3, 0, none⟩ = some (.slice (some ⟨G, O, none⟩) x.length C)) (c11 : w.cell? ⟨p11, 0, none⟩ = some mv) (hmv : RI w mv m) (hi : i < x.length) (hd : d < x.length) :
    Calls Try.prog 84 #[.int .i64 (i : Nat), .int .i64 (d : Nat), .pointer (some ⟨p3, 0, none⟩), .pointer (some ⟨p11, 0, none⟩)] w fun e w' => e = .returned (.int .i64 (tb x (m.getD d 0).toNat i)) ∧ Drw w w' := by
  obtain ⟨ma, mc, rfl⟩ := hmv.slice
  have hml := (mOk_iff.1 hm).1
  obtain ⟨mg, mo, rfl, hgl, hmc⟩ := hmv.at d (by omega)
  obtain ⟨h1, h2⟩ := mOk_bd hm d hd
  obtain ⟨q, hq⟩ := Int.eq_ofNat_of_zero_le h1
  rw [hq] at hmc h2 ⊢
  rw [Int.toNat_natCast]
  have hq2 : q < x.length := by omega
  have r1 := hs.row q hq2
  have r2 := hs.cell q i hq2 hi
  have k1 : (q : Int) < (x.length : Int) := by omega
  have k2 : (i : Int) < (x.length : Int) := by omega
  have k3 : (d : Int) < (x.length : Int) := by omega
  have k4 : (0 : Int) ≤ (q : Int) := by omega
  have k5 : (0 : Int) ≤ (i : Int) := by omega
  have k6 : (0 : Int) ≤ (d : Int) := by omega
  rw [hml] at c11
  generalize tb x q i = z at *
  clear hs hsq hm hmv hq h1
  go_enter Try.func84, Try.ntmps84
  go_wp2_with fail
  go_quiet (fail)
  go_wp2_with fail
  go_ret
  exact ⟨rfl, by first | exact Drw.refl _ | exact (Drw.refl _).more _⟩
end Go.Proofs.Ytghmpaegmicheaa
