/- Small laws for slices of int64 that the call itself owns, and worlds that only grow: no condition. -/
import Derived.Test.YthcnhkjiojeemaaRows
import Derived.WalkKit
import Derived.WalkSpells
import Derived.WalkLawsBesides
import Derived.Lib.Hide
import Derived.Deep.LoopGhost
import Derived.Deep.QuietTactic
import Derived.BigQuiet
import Derived.StillTailTactics
import Derived.Laws.BytesArg
import Derived.Deep.RegionHeld3
namespace Go.Proofs.Ythcnhkjiojeemaa
open Go.RowKit

/-- n lies between a and b. -/
def inB (n a b : Int) : Bool := decide (a ≤ n) && decide (n ≤ b)

theorem info_i64 : (Try.prog.info? 2).map (fun i => (i.zero, i.size, i.bytes)) = some (some (.int .i64 0), 1, 8) := by kernel_rfl

/-- From block B on the call owns the row of v, whose elements (one cell each, of type T) are the cells cs. -/
def OV (T : TypeId) (B : Nat) (w : World) (v : Value) (cs : List Value) : Prop := w.ownsRow B T 1 v cs.length cs

section
variable {T : TypeId} {B : Nat} {w : World} {v : Value} {cs : List Value}
theorem OV.nil (T : TypeId) (B : Nat) (w : World) : OV T B w (.slice none 0 0) [] := World.ownsRow_nil w B _ 1
theorem OV.alloc (h : OV T B w v cs) (o : Obj) : OV T B (w.alloc o) v cs := World.ownsRow.alloc h o
theorem OV.drew (h : OV T B w v cs) : OV T B w.drew v cs := World.ownsRow.drew h
theorem OV.lt (h : OV T B w v cs) : ∀ k, v.ownBlock = some k → B ≤ k ∧ k < w.heap.size := World.ownsRow.lt h
theorem OV.below {B' : Nat} {w' : World} (h : OV T B w v cs) (hb : Below B' w w') (hk : ∀ k, v.ownBlock = some k → k < B') : OV T B w' v cs := by
  refine ⟨h.1, ?_⟩
  rcases h.2 with hn | ⟨g, cap, cur, rfl, hB, hg, r⟩
  · exact .inl hn
  · exact .inr ⟨g, cap, cur, rfl, hB, by rw [hb.block g (hk g rfl)]; exact hg, r⟩
theorem OV.later {w' : World} (h : OV T B w v cs) (hb : Below w.heap.size w w') : OV T B w' v cs :=
  h.below hb fun k hk => (h.lt k hk).2
theorem OV.mono {B' : Nat} (h : OV T B w v cs) (hB : B' ≤ B) : OV T B' w v cs := by
  refine ⟨h.1, ?_⟩
  rcases h.2 with hn | ⟨g, cap, cur, rfl, hB, hg, r⟩
  · exact .inl hn
  · exact .inr ⟨g, cap, cur, rfl, by omega, hg, r⟩
theorem OV.kept {w' : World} {row : Option Nat} (h : OV T B w v cs) (hg : w.grownBy w' row) (hne : v.ownBlock = none ∨ v.ownBlock ≠ row) : OV T B w' v cs :=
  World.ownsRow.kept h hg hne
/-- The shape: nil and empty, or at the head of a block. -/
theorem OV.shape (h : OV T B w v cs) :
    (v = .slice none 0 0 ∧ cs = []) ∨ ∃ g cap, v = .slice (some ⟨g, 0, none⟩) cs.length cap ∧ B ≤ g ∧ g < w.heap.size := by
  rcases h.2 with ⟨rfl, h0⟩ | ⟨g, cap, cur, rfl, hB, hg, _⟩
  · exact .inl ⟨rfl, List.eq_nil_of_length_eq_zero h0⟩
  · exact .inr ⟨g, cap, rfl, hB, (Array.getElem?_eq_some_iff.1 hg).1⟩
theorem OV.slice (h : OV T B w v cs) : ∃ a cap, v = .slice a cs.length cap := by
  rcases h.shape with ⟨rfl, rfl⟩ | ⟨g, cap, rfl, _⟩
  · exact ⟨_, _, rfl⟩
  · exact ⟨_, _, rfl⟩
theorem OV.capOk (h : OV T B w v cs) : ∀ a n cap, v = .slice a n cap → cs.length ≤ cap ∧ cap ≤ maxLen := by
  intro a n cap he
  rcases h.2 with ⟨h', h0⟩ | ⟨g', cap', cur, h', _, _, h1, h2, _⟩
  · rw [h'] at he; simp only [Value.slice.injEq] at he; obtain ⟨_, _, rfl⟩ := he; omega
  · rw [h'] at he; simp only [Value.slice.injEq] at he; obtain ⟨_, _, rfl⟩ := he; exact ⟨h1, h2⟩
theorem OV.len {ad : Addr} {n cap : Nat} (h : OV T B w (.slice (some ad) n cap) cs) : n = cs.length := by
  rcases h.2 with ⟨h', _⟩ | ⟨g', cap', cur, h', _⟩
  · simp at h'
  · simp only [Value.slice.injEq] at h'; exact h'.2.1
theorem OV.cell {g n cap : Nat} (h : OV T B w (.slice (some ⟨g, 0, none⟩) n cap) cs) (j : Nat) (hj : j < cs.length) : w.cell? ⟨g, j, none⟩ = cs[j]? := by
  have hn := h.len; subst hn
  exact World.ownsRow.cellAt h j (by omega)
theorem OV.frozen {g n cap : Nat} (h : OV T B w (.slice (some ⟨g, 0, none⟩) n cap) cs) (j : Nat) : w.frozen? ⟨g, j, none⟩ = false := by
  have hn := h.len; subst hn; exact World.ownsRow.frozenAt h j
theorem OV.stored {g n cap : Nat} (h : OV T B w (.slice (some ⟨g, 0, none⟩) n cap) cs) (j : Nat) (u : Value) :
    OV T B (w.setCell ⟨g, j, none⟩ u) (.slice (some ⟨g, 0, none⟩) n cap) (cs.set j u) ∧ w.grownBy (w.setCell ⟨g, j, none⟩ u) (some g) := by
  have hn := h.len; subst hn
  have := World.ownsRow.stored h j u
  unfold OV
  rw [List.length_set]
  exact this
theorem OV.lit (T : TypeId) (w : World) (cur : List Value) (hb : B ≤ w.heap.size) (hm : cur.length ≤ maxLen) :
    OV T B (w.alloc (.cells cur.toArray T)) (.slice (some ⟨w.heap.size, 0, none⟩) cur.length cur.length) cur :=
  World.ownsRow_lit w cur.toArray cur.length hb hm (by simp)
theorem OV.made (T : TypeId) (w : World) (hb : B ≤ w.heap.size) : OV T B (w.alloc (.cells #[] T)) (.slice (some ⟨w.heap.size, 0, none⟩) 0 0) [] :=
  OV.lit T w [] hb (by simp)
theorem OV.at {a : Option Addr} {n cap : Nat} (h : OV T B w (.slice a n cap) cs) (j : Nat) (hj : j < cs.length) : ∃ g, a = some ⟨g, 0, none⟩ ∧ B ≤ g ∧ w.cell? ⟨g, j, none⟩ = cs[j]? := by
  rcases h.shape with ⟨_, rfl⟩ | ⟨g, cap', h', hB, _⟩
  · simp at hj
  · simp only [Value.slice.injEq] at h'
    obtain ⟨rfl, rfl, rfl⟩ := h'
    exact ⟨g, rfl, hB, h.cell j hj⟩
end

/-- The row owned holds the integers xs of kind k. -/
def OK (T : TypeId) (k : IntKind) (B : Nat) (w : World) (v : Value) (xs : List Int) : Prop := OV T B w v (xs.map (Value.int k))
abbrev OI := OK 2 .i64

section
variable {T : TypeId} {k : IntKind} {B : Nat} {w : World} {v : Value} {xs : List Int}
theorem OK.nil (T : TypeId) (k : IntKind) (B : Nat) (w : World) : OK T k B w (.slice none 0 0) [] := OV.nil T B w
theorem OK.made (T : TypeId) (k : IntKind) (w : World) (hb : B ≤ w.heap.size) : OK T k B (w.alloc (.cells #[] T)) (.slice (some ⟨w.heap.size, 0, none⟩) 0 0) [] := OV.made T w hb
theorem OK.alloc (h : OK T k B w v xs) (o : Obj) : OK T k B (w.alloc o) v xs := OV.alloc h o
theorem OK.drew (h : OK T k B w v xs) : OK T k B w.drew v xs := OV.drew h
theorem OK.lt (h : OK T k B w v xs) : ∀ k, v.ownBlock = some k → B ≤ k ∧ k < w.heap.size := OV.lt h
theorem OK.below {B' : Nat} {w' : World} (h : OK T k B w v xs) (hb : Below B' w w') (hk : ∀ k, v.ownBlock = some k → k < B') : OK T k B w' v xs := OV.below h hb hk
theorem OK.later {w' : World} (h : OK T k B w v xs) (hb : Below w.heap.size w w') : OK T k B w' v xs := OV.later h hb
theorem OK.mono {B' : Nat} (h : OK T k B w v xs) (hB : B' ≤ B) : OK T k B' w v xs := OV.mono h hB
theorem OK.kept {w' : World} {row : Option Nat} (h : OK T k B w v xs) (hg : w.grownBy w' row) (hne : v.ownBlock = none ∨ v.ownBlock ≠ row) : OK T k B w' v xs := OV.kept h hg hne
theorem OK.shape (h : OK T k B w v xs) :
    (v = .slice none 0 0 ∧ xs = []) ∨ ∃ g cap, v = .slice (some ⟨g, 0, none⟩) xs.length cap ∧ B ≤ g ∧ g < w.heap.size := by
  have := OV.shape h
  simpa using this
theorem OK.slice (h : OK T k B w v xs) : ∃ a cap, v = .slice a xs.length cap := by simpa using OV.slice h
theorem OK.len {ad : Addr} {n cap : Nat} (h : OK T k B w (.slice (some ad) n cap) xs) : n = xs.length := by simpa using OV.len h
theorem OK.cell {g n cap : Nat} (h : OK T k B w (.slice (some ⟨g, 0, none⟩) n cap) xs) (j : Nat) (hj : j < xs.length) :
    w.cell? ⟨g, j, none⟩ = some (.int k (xs.getD j 0)) := by
  rw [OV.cell h j (by simpa using hj)]
  simp [hj]
theorem OK.cellv {g n cap : Nat} (h : OK T k B w (.slice (some ⟨g, 0, none⟩) n cap) xs) (j : Nat) (hj : j < xs.length) :
    ∃ z, Hid (z = xs.getD j 0) ∧ w.cell? ⟨g, j, none⟩ = some (.int k z) := ⟨_, rfl, h.cell j hj⟩
theorem OK.at {a : Option Addr} {n cap : Nat} (h : OK T k B w (.slice a n cap) xs) (j : Nat) (hj : j < xs.length) :
    ∃ g, a = some ⟨g, 0, none⟩ ∧ B ≤ g ∧ w.cell? ⟨g, j, none⟩ = some (.int k (xs.getD j 0)) := by
  obtain ⟨g, h1, h2, h3⟩ := OV.at h j (by simpa using hj)
  exact ⟨g, h1, h2, by rw [h3]; simp [hj]⟩
theorem OK.frozen {g n cap : Nat} (h : OK T k B w (.slice (some ⟨g, 0, none⟩) n cap) xs) (j : Nat) : w.frozen? ⟨g, j, none⟩ = false := OV.frozen h j
theorem OK.stored {g n cap : Nat} (h : OK T k B w (.slice (some ⟨g, 0, none⟩) n cap) xs) (j : Nat) (u : Int) :
    OK T k B (w.setCell ⟨g, j, none⟩ (.int k u)) (.slice (some ⟨g, 0, none⟩) n cap) (xs.set j u) ∧ w.grownBy (w.setCell ⟨g, j, none⟩ (.int k u)) (some g) := by
  have := OV.stored h j (.int k u)
  unfold OK
  rw [List.map_set]
  exact this
end

/-- make([]T, n) of a type of one cell: n zeros at the head of a new block. -/
theorem wpl_make {S T : TypeId} {z : Value} {by_ : Nat} (hS : Try.prog.underlying S = some (.slice T)) (hinfo : (Try.prog.info? T).map (fun i => (i.zero, i.size, i.bytes)) = some (some z, 1, by_)) (hz1 : z.cells = #[z]) (hby : by_ ≤ 24)
    {w : World} {ops : Array Oper} {rest : List Oper} {o : Oper} {a : Act} {Q : Exit → Act → World → Prop}
    (hg : o.guard = none) (l c : Operand) (hop : o.op = Op.makeSlice S l c) (B : Nat) (kl kc : IntKind) (L C : Int) (n : Nat)
    (hl : a.eval l = .int kl L) (hc : a.eval c = .int kc C) (hL : L = (n : Int)) (hC : C = (n : Int)) (hn : n ≤ 1099511627776) (hB : B ≤ w.heap.size)
    (hK : ∀ w', OV T B w' (.slice (some ⟨w.heap.size, 0, none⟩) n n) (List.replicate n z) → w.grownBy w' none → w.heap.size < w'.heap.size →
      wpList Try.prog ops Q rest (a.put o.dst (.slice (some ⟨w.heap.size, 0, none⟩) n n)) w') :
    wpList Try.prog ops Q (o :: rest) a w := by
  obtain ⟨i, hi, hz0, hz1', hz2⟩ := info_parts hinfo
  refine wpList_make_full w hg l c _ hop B _ i z 1 hS hi hz0 hz1' kl kc L C n hl hc hL hC ?_ (by unfold maxLen; omega) hB ?_
  · rw [hz2]
    exact Nat.le_trans (Nat.mul_le_mul hby hn) (by decide)
  · intro w' hown hgr
    have hown' : OV T B w' (.slice (some ⟨w.heap.size, 0, none⟩) n n) (List.replicate n z) := by
      unfold OV
      rw [List.length_replicate]
      have e : (madeCells z.cells (n * 1)).toList = List.replicate n z := by
        rw [Nat.mul_one, hz1]; exact toList_madeCells_one _ _
      rw [← e]; exact hown
    exact hK w' hown' hgr ((hown'.lt w.heap.size rfl).2)
theorem wpl_make_i64 {w : World} {ops : Array Oper} {rest : List Oper} {o : Oper} {a : Act} {Q : Exit → Act → World → Prop}
    (hg : o.guard = none) (l c : Operand) (hop : o.op = Op.makeSlice 29 l c) (B : Nat) (kl kc : IntKind) (L C : Int) (n : Nat)
    (hl : a.eval l = .int kl L) (hc : a.eval c = .int kc C) (hL : L = (n : Int)) (hC : C = (n : Int)) (hn : n ≤ 1099511627776) (hB : B ≤ w.heap.size)
    (hK : ∀ w', OI B w' (.slice (some ⟨w.heap.size, 0, none⟩) n n) (List.replicate n 0) → w.grownBy w' none → w.heap.size < w'.heap.size →
      wpList Try.prog ops Q rest (a.put o.dst (.slice (some ⟨w.heap.size, 0, none⟩) n n)) w') :
    wpList Try.prog ops Q (o :: rest) a w :=
  wpl_make Try.underlying29 info_i64 rfl (by omega) hg l c hop B kl kc L C n hl hc hL hC hn hB fun w' h => hK w' (by unfold OI OK; rw [List.map_replicate]; exact h)

/-- append(v, u) onto a row that the call owns, of a type of one cell. -/
theorem wpl_app {S T : TypeId} {z : Value} {by_ : Nat} (hS : Try.prog.underlying S = some (.slice T)) (hinfo : (Try.prog.info? T).map (fun i => (i.zero, i.size, i.bytes)) = some (some z, 1, by_)) (hz1 : z.cells.size = 1) (hby : by_ ≤ 24)
    {w : World} {ops : Array Oper} {rest : List Oper} {o : Oper} {a : Act} {Q : Exit → Act → World → Prop}
    (hg : o.guard = none) (s x : Operand) (hop : o.op = Op.call { callee := Callee.builtin Builtin.append, args := #[s, x], argTypes := #[S, S] })
    (B : Nat) (v : Value) (cs : List Value) (hs : a.eval s = v) (hown : OV T B w v cs) (ad : Addr) (c : Nat) (u : Value) (hx : a.eval x = .slice (some ad) 1 c)
    (hu : w.cell? ad = some u) (hu1 : u.oneCell' = true) (hn : cs.length ≤ 1099511627776) (hB : B ≤ w.heap.size)
    (hK : ∀ v' w', OV T B w' v' (cs ++ [u]) → w.grownBy w' v.ownBlock → wpList Try.prog ops Q rest (a.put o.dst v') w') :
    wpList Try.prog ops Q (o :: rest) a w := by
  obtain ⟨i, hi, hz0, hz1', hz2⟩ := info_parts hinfo
  refine wpList_append_own w hg s x S hop B T i z 1 by_ hS hi hz0 hz1' hz2 hz1 (by decide) v cs.length cs hs hown
    ad 1 c [u] hx rfl ?_ ?_ (by unfold maxLen; omega) ?_ hB ?_
  · intro j w' hj
    cases j with
    | zero =>
      simp at hj; subst hj
      have : ad.add 0 = ad := by unfold Addr.add; split <;> simp_all
      rw [this]; exact hu
    | succ j => simp at hj
  · intro u' hu'
    simp at hu'; subst hu'; exact hu1
  · exact Nat.le_trans (Nat.mul_le_mul (show cs.length + 1 ≤ 1099511627777 by omega) hby) (by decide)
  · intro v' w' hown' hgr _
    refine hK v' w' ?_ hgr
    unfold OV
    rw [List.length_append]
    exact hown'
theorem wpl_app_i64 {w : World} {ops : Array Oper} {rest : List Oper} {o : Oper} {a : Act} {Q : Exit → Act → World → Prop}
    (hg : o.guard = none) (s x : Operand) (hop : o.op = Op.call { callee := Callee.builtin Builtin.append, args := #[s, x], argTypes := #[29, 29] })
    (B : Nat) (v : Value) (xs : List Int) (hs : a.eval s = v) (hown : OI B w v xs) (ad : Addr) (c : Nat) (u : Int) (hx : a.eval x = .slice (some ad) 1 c)
    (hu : w.cell? ad = some (.int .i64 u)) (hn : xs.length ≤ 1099511627776) (hB : B ≤ w.heap.size)
    (hK : ∀ v' w', OI B w' v' (xs ++ [u]) → w.grownBy w' v.ownBlock → wpList Try.prog ops Q rest (a.put o.dst v') w') :
    wpList Try.prog ops Q (o :: rest) a w :=
  wpl_app Try.underlying29 info_i64 rfl (by omega) hg s x hop B v _ hs hown ad c _ hx hu rfl (by simpa using hn) hB fun v' w' h => hK v' w' (by unfold OI OK; rw [List.map_append]; exact h)
/-- append(v, u) as one step of a region that draws its order. -/
theorem step_app {S T : TypeId} {z : Value} {by_ : Nat} (hS : Try.prog.underlying S = some (.slice T)) (hinfo : (Try.prog.info? T).map (fun i => (i.zero, i.size, i.bytes)) = some (some z, 1, by_)) (hz1 : z.cells.size = 1) (hby : by_ ≤ 24)
    {w : World} {ops : Array Oper} {o : Oper} {a : Act} {K : Act → World → Prop} {Q : Exit → Act → World → Prop} {E : Prop}
    (hg : o.guard = none) (s x : Operand) (hop : o.op = Op.call { callee := Callee.builtin Builtin.append, args := #[s, x], argTypes := #[S, S] })
    (B : Nat) (v : Value) (cs : List Value) (hs : a.eval s = v) (hown : OV T B w v cs) (ad : Addr) (c : Nat) (u : Value) (hx : a.eval x = .slice (some ad) 1 c)
    (hu : w.cell? ad = some u) (hu1 : u.oneCell' = true) (hn : cs.length ≤ 1099511627776) (hB : B ≤ w.heap.size)
    (hK : ∀ v' w', OV T B w' v' (cs ++ [u]) → w.grownBy w' v.ownBlock → K (a.put o.dst v') w') :
    if Region.wanted o (yielded ops a.tmps) = true then Oper.wp Try.prog o a w K Q else E := by
  rw [if_pos (by simp [Region.wanted, hg])]
  obtain ⟨i, hi, hz0, hz1', hz2⟩ := info_parts hinfo
  refine wp_append_own (P := Try.prog) w s x S hop B T i z 1 by_ hS hi hz0 hz1' hz2 hz1 (by decide) v cs.length cs hs hown
    ad 1 c [u] hx rfl ?_ ?_ (by unfold maxLen; omega) ?_ hB ?_
  · intro j w' hj
    cases j with
    | zero =>
      simp at hj; subst hj
      have : ad.add 0 = ad := by unfold Addr.add; split <;> simp_all
      rw [this]; exact hu
    | succ j => simp at hj
  · intro u' hu'
    simp at hu'; subst hu'; exact hu1
  · exact Nat.le_trans (Nat.mul_le_mul (show cs.length + 1 ≤ 1099511627777 by omega) hby) (by decide)
  · intro v' w' hown' hgr _
    refine hK v' w' ?_ hgr
    unfold OV
    rw [List.length_append]
    exact hown'
theorem step_app_i64 {w : World} {ops : Array Oper} {o : Oper} {a : Act} {K : Act → World → Prop} {Q : Exit → Act → World → Prop} {E : Prop}
    (hg : o.guard = none) (s x : Operand) (hop : o.op = Op.call { callee := Callee.builtin Builtin.append, args := #[s, x], argTypes := #[29, 29] })
    (B : Nat) (v : Value) (xs : List Int) (hs : a.eval s = v) (hown : OI B w v xs) (ad : Addr) (c : Nat) (u : Int) (hx : a.eval x = .slice (some ad) 1 c)
    (hu : w.cell? ad = some (.int .i64 u)) (hn : xs.length ≤ 1099511627776) (hB : B ≤ w.heap.size)
    (hK : ∀ v' w', OI B w' v' (xs ++ [u]) → w.grownBy w' v.ownBlock → K (a.put o.dst v') w') :
    if Region.wanted o (yielded ops a.tmps) = true then Oper.wp Try.prog o a w K Q else E :=
  step_app Try.underlying29 info_i64 rfl (by omega) hg s x hop B v _ hs hown ad c _ hx hu rfl (by simpa using hn) hB fun v' w' h => hK v' w' (by unfold OI OK; rw [List.map_append]; exact h)

theorem own_below {T : TypeId} {B : Nat} {w0 w w' : World} {v : Value} {cs : List Value} (hb : Below B w0 w) (hown : OV T B w v cs) (hg : w.grownBy w' v.ownBlock) (hB : B ≤ w.heap.size) : Below B w0 w' :=
  hb.grown hg hB fun k hk => (hown.lt k hk).1

theorem bcell {W w1 : World} (hb : Below W.heap.size W w1) : (∀ b o, b < W.heap.size → w1.cell? ⟨b, o, none⟩ = W.cell? ⟨b, o, none⟩) ∧ (∀ b o, b < W.heap.size → w1.frozen? ⟨b, o, none⟩ = W.frozen? ⟨b, o, none⟩) :=
  ⟨fun b o h => hb.cell (p := ⟨b, o, none⟩) h, fun b o h => hb.frozen (p := ⟨b, o, none⟩) h⟩

theorem ret_i64 {a b : Int} (h : a = b) : Ending.returned (.int .i64 a) = .returned (.int .i64 b) := by rw [h]
theorem ret_bool {a b : Bool} (h : a = b) : Ending.returned (.bool a) = .returned (.bool b) := by rw [h]
theorem ret_ib {a b : Int} {c d : Bool} (h : a = b) (h' : c = d) : Ending.returned (.tuple #[.int .i64 a, .bool c]) = .returned (.tuple #[.int .i64 b, .bool d]) := by rw [h, h']

theorem quiet_same {P : Program} {f : FuncId} {args : Array Value} {w : World} {n : Nat} {v : Value} (h : Calls P f args (w.drewN n) fun e w' => e = .returned v ∧ w.drewN n = w') :
    Calls P f args (w.drewN n) fun e w'' => e = .returned v ∧ ∃ m, w'' = w.drewN m := h.mono fun _ _ ⟨he, hm⟩ => ⟨he, n, hm.symm⟩
section
variable {P : Program} {ops : Array Oper}
theorem still_of_quiet {o : Oper} {a : Act} {w : World} {K : Act → Prop} (h : o.quiet P a (fun w' => w' = w) K) : o.still P a w K := by
  obtain ⟨v, h1, h2⟩ := h
  have h3 := h1 w rfl
  unfold Oper.quietAt at h3
  unfold Oper.still
  generalize (execOp a.eval o).run P w = r at *
  unfold Oper.quietUpon at h3
  unfold Oper.stillUpon
  split at h3
  · obtain ⟨rfl, rfl⟩ := h3; exact ⟨rfl, h2⟩
  · obtain ⟨rfl, rfl⟩ := h3; exact ⟨rfl, h2⟩
  · obtain ⟨rfl, h4⟩ := h3; exact ⟨rfl, v, h4, h2⟩
  · exact h3.elim
theorem wpStill_of_quiet {w : World} {Q : Act → Prop} : ∀ (l : List Oper) (a : Act), wpQuiet P ops (fun w' => w' = w) Q l a → wpStill P ops w Q l a
  | [], _, h => h
  | o :: l, a, h => by
    unfold wpQuiet at h
    unfold wpStill
    split
    · rename_i hw
      rw [if_pos hw] at h
      have h' := still_of_quiet h
      unfold Oper.still at *
      generalize (execOp a.eval o).run P w = r at *
      unfold Oper.stillUpon at *
      split at h'
      · exact ⟨h'.1, wpStill_of_quiet l _ h'.2⟩
      · exact ⟨h'.1, wpStill_of_quiet l _ h'.2⟩
      · obtain ⟨h1, v, h2, h3⟩ := h'; exact ⟨h1, v, h2, wpStill_of_quiet l _ h3⟩
      · exact h'.elim
    · rename_i hw
      rw [if_neg hw] at h
      exact wpStill_of_quiet l _ h
/-- A region that draws its order: all operations but the last ones only read; the last ones are forced. -/
theorem wp_region_qtail {id : Nat} {Q : Exit → Act → World → Prop} {a : Act} {w : World} {l : List Oper} (n : Nat) (hm : P.follows .mixedOrders = true) (hB : Region.lexTailB .any l.toArray n = true)
    (h : wpQuiet P l.toArray (fun w' => w' = w.drew) (fun a' => wpList P l.toArray Q (l.drop n) a' w.drew) (l.take n) a) : (Code.region id l.toArray true).wp P Q a w :=
  wp_region_still_tail n hm hB (wpStill_of_quiet _ _ h)
end
end Go.Proofs.Ythcnhkjiojeemaa
