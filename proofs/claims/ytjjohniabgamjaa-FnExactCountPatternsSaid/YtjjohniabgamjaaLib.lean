/- Small laws for slices of int64 that the call itself owns, and worlds that only grow: no condition. -/
import Derived.Test.YtjjohniabgamjaaRows
import Derived.WalkKit
import Derived.WalkSpells
import Derived.WalkLawsBesides
import Derived.Lib.Hide
import Derived.Deep.LoopGhost
import Derived.Deep.QuietTactic
import Derived.BigQuiet
import Derived.StillTailTactics
namespace Go.Proofs.Ytjjohniabgamjaa
open Go.RowKit

/-- n lies between a and b. -/
def inB (n a b : Int) : Bool := decide (a ≤ n) && decide (n ≤ b)

theorem info_i64 : (Try.prog.info? 2).map (fun i => (i.zero, i.size, i.bytes)) = some (some (.int .i64 0), 1, 8) := by kernel_rfl

/-- The ints as cells. -/
def ic (xs : List Int) : List Value := xs.map (Value.int .i64)

theorem ic_length (xs : List Int) : (ic xs).length = xs.length := by simp [ic]

/-- From block B on the call owns the row of v, which holds the int64s xs. -/
def OI (B : Nat) (w : World) (v : Value) (xs : List Int) : Prop := w.ownsRow B 2 1 v xs.length (ic xs)

theorem OI.nil (B : Nat) (w : World) : OI B w (.slice none 0 0) [] := World.ownsRow_nil w B _ 1
theorem OI.alloc {B : Nat} {w : World} {v : Value} {xs : List Int} (h : OI B w v xs) (o : Obj) : OI B (w.alloc o) v xs := World.ownsRow.alloc h o
theorem OI.drew {B : Nat} {w : World} {v : Value} {xs : List Int} (h : OI B w v xs) : OI B w.drew v xs := World.ownsRow.drew h
theorem OI.lt {B : Nat} {w : World} {v : Value} {xs : List Int} (h : OI B w v xs) : ∀ k, v.ownBlock = some k → B ≤ k ∧ k < w.heap.size := World.ownsRow.lt h
theorem OI.below {B B' : Nat} {w w' : World} {v : Value} {xs : List Int} (h : OI B w v xs) (hb : Below B' w w') (hk : ∀ k, v.ownBlock = some k → k < B') : OI B w' v xs := by
  refine ⟨h.1, ?_⟩
  rcases h.2 with hn | ⟨g, cap, cur, rfl, hB, hg, r⟩
  · exact .inl hn
  · exact .inr ⟨g, cap, cur, rfl, hB, by rw [hb.block g (hk g rfl)]; exact hg, r⟩
theorem OI.later {B : Nat} {w w' : World} {v : Value} {xs : List Int} (h : OI B w v xs) (hb : Below w.heap.size w w') : OI B w' v xs :=
  h.below hb fun k hk => (h.lt k hk).2
theorem OI.mono {B B' : Nat} {w : World} {v : Value} {xs : List Int} (h : OI B w v xs) (hB : B' ≤ B) : OI B' w v xs := by
  refine ⟨h.1, ?_⟩
  rcases h.2 with hn | ⟨g, cap, cur, rfl, hB, hg, r⟩
  · exact .inl hn
  · exact .inr ⟨g, cap, cur, rfl, by omega, hg, r⟩
theorem OI.kept {B : Nat} {w w' : World} {row : Option Nat} {v : Value} {xs : List Int} (h : OI B w v xs) (hg : w.grownBy w' row) (hne : v.ownBlock = none ∨ v.ownBlock ≠ row) : OI B w' v xs :=
  World.ownsRow.kept h hg hne
/-- The shape: nil and empty, or at the head of a block. -/
theorem OI.shape {B : Nat} {w : World} {v : Value} {xs : List Int} (h : OI B w v xs) :
    (v = .slice none 0 0 ∧ xs = []) ∨ ∃ g cap, v = .slice (some ⟨g, 0, none⟩) xs.length cap ∧ B ≤ g ∧ g < w.heap.size := by
  rcases h.2 with ⟨rfl, h0⟩ | ⟨g, cap, cur, rfl, hB, hg, _⟩
  · exact .inl ⟨rfl, List.eq_nil_of_length_eq_zero h0⟩
  · exact .inr ⟨g, cap, rfl, hB, (Array.getElem?_eq_some_iff.1 hg).1⟩
theorem OI.len {B : Nat} {w : World} {ad : Addr} {n cap : Nat} {xs : List Int} (h : OI B w (.slice (some ad) n cap) xs) : n = xs.length := by
  rcases h.2 with ⟨h', _⟩ | ⟨g', cap', cur, h', _⟩
  · simp at h'
  · simp only [Value.slice.injEq] at h'; exact h'.2.1
theorem OI.cell {B : Nat} {w : World} {g n cap : Nat} {xs : List Int} (h : OI B w (.slice (some ⟨g, 0, none⟩) n cap) xs) (j : Nat) (hj : j < xs.length) :
    w.cell? ⟨g, j, none⟩ = some (.int .i64 (xs.getD j 0)) := by
  have hn := h.len; subst hn
  rw [World.ownsRow.cellAt h j (by omega)]
  simp [ic, hj]
theorem OI.cellv {B : Nat} {w : World} {g n cap : Nat} {xs : List Int} (h : OI B w (.slice (some ⟨g, 0, none⟩) n cap) xs) (j : Nat) (hj : j < xs.length) :
    ∃ z, Hid (z = xs.getD j 0) ∧ w.cell? ⟨g, j, none⟩ = some (.int .i64 z) := ⟨_, rfl, h.cell j hj⟩
theorem OI.frozen {B : Nat} {w : World} {g n cap : Nat} {xs : List Int} (h : OI B w (.slice (some ⟨g, 0, none⟩) n cap) xs) (j : Nat) :
    w.frozen? ⟨g, j, none⟩ = false := by have hn := h.len; subst hn; exact World.ownsRow.frozenAt h j
theorem OI.stored {B : Nat} {w : World} {g n cap : Nat} {xs : List Int} (h : OI B w (.slice (some ⟨g, 0, none⟩) n cap) xs) (j : Nat) (u : Int) :
    OI B (w.setCell ⟨g, j, none⟩ (.int .i64 u)) (.slice (some ⟨g, 0, none⟩) n cap) (xs.set j u) ∧ w.grownBy (w.setCell ⟨g, j, none⟩ (.int .i64 u)) (some g) := by
  have hn := h.len; subst hn
  have := World.ownsRow.stored h j (.int .i64 u)
  unfold OI ic
  rw [List.map_set, List.length_set]
  exact this

/-- make([]int64, n): n zeros at the head of a new block. -/
theorem wpl_make_i64 {w : World} {ops : Array Oper} {rest : List Oper} {o : Oper} {a : Act} {Q : Exit → Act → World → Prop}
    (hg : o.guard = none) (l c : Operand) (hop : o.op = Op.makeSlice 34 l c) (B : Nat) (kl kc : IntKind) (L C : Int) (n : Nat)
    (hl : a.eval l = .int kl L) (hc : a.eval c = .int kc C) (hL : L = (n : Int)) (hC : C = (n : Int)) (hn : n ≤ 1099511627776) (hB : B ≤ w.heap.size)
    (hK : ∀ w', OI B w' (.slice (some ⟨w.heap.size, 0, none⟩) n n) (List.replicate n 0) → w.grownBy w' none → w.heap.size < w'.heap.size →
      wpList Try.prog ops Q rest (a.put o.dst (.slice (some ⟨w.heap.size, 0, none⟩) n n)) w') :
    wpList Try.prog ops Q (o :: rest) a w := by
  obtain ⟨i, hi, hz0, hz1, hz2⟩ := info_parts info_i64
  refine wpList_make_full w hg l c _ hop B _ i (.int .i64 0) 1 Try.underlying34 hi hz0 hz1 kl kc L C n hl hc hL hC (by rw [hz2]; omega) (by unfold maxLen; omega) hB ?_
  intro w' hown hgr
  have hown' : OI B w' (.slice (some ⟨w.heap.size, 0, none⟩) n n) (List.replicate n 0) := by
    unfold OI ic
    rw [List.map_replicate, List.length_replicate]
    have e : (madeCells (Value.int IntKind.i64 0).cells (n * 1)).toList = List.replicate n (Value.int .i64 0) := by
      rw [Nat.mul_one]; exact toList_madeCells_one _ _
    rw [← e]; exact hown
  exact hK w' hown' hgr ((hown'.lt w.heap.size rfl).2)

/-- append(v, u) onto a row that the call owns. -/
theorem wpl_app_i64 {w : World} {ops : Array Oper} {rest : List Oper} {o : Oper} {a : Act} {Q : Exit → Act → World → Prop}
    (hg : o.guard = none) (s x : Operand) (hop : o.op = Op.call { callee := Callee.builtin Builtin.append, args := #[s, x], argTypes := #[34, 34] })
    (B : Nat) (v : Value) (xs : List Int) (hs : a.eval s = v) (hown : OI B w v xs) (ad : Addr) (c : Nat) (u : Int) (hx : a.eval x = .slice (some ad) 1 c)
    (hu : w.cell? ad = some (.int .i64 u)) (hn : xs.length ≤ 1099511627776) (hB : B ≤ w.heap.size)
    (hK : ∀ v' w', OI B w' v' (xs ++ [u]) → w.grownBy w' v.ownBlock → wpList Try.prog ops Q rest (a.put o.dst v') w') :
    wpList Try.prog ops Q (o :: rest) a w := by
  obtain ⟨i, hi, hz0, hz1, hz2⟩ := info_parts info_i64
  refine wpList_append_own w hg s x 34 hop B 2 i (.int .i64 0) 1 8 Try.underlying34 hi hz0 hz1 hz2 rfl (by decide) v xs.length (ic xs) hs hown
    ad 1 c [.int .i64 u] hx rfl ?_ ?_ (by unfold maxLen; omega) (by omega) hB ?_
  · intro j w' hj
    cases j with
    | zero =>
      simp at hj; subst hj
      have : ad.add 0 = ad := by unfold Addr.add; split <;> simp_all
      rw [this]; exact hu
    | succ j => simp at hj
  · intro u' hu'
    simp at hu'; subst hu'; rfl
  · intro v' w' hown' hgr _
    refine hK v' w' ?_ hgr
    unfold OI ic
    rw [List.map_append, List.length_append]
    exact hown'

theorem grown_below {B : Nat} {w0 w w' : World} {v : Value} {xs : List Int} (hb : Below B w0 w) (hown : OI B w v xs) (hg : w.grownBy w' v.ownBlock) (hB : B ≤ w.heap.size) : Below B w0 w' :=
  hb.grown hg hB fun k hk => (hown.lt k hk).1

theorem bcell {W w1 : World} (hb : Below W.heap.size W w1) : (∀ b o, b < W.heap.size → w1.cell? ⟨b, o, none⟩ = W.cell? ⟨b, o, none⟩) ∧ (∀ b o, b < W.heap.size → w1.frozen? ⟨b, o, none⟩ = W.frozen? ⟨b, o, none⟩) :=
  ⟨fun b o h => hb.cell (p := ⟨b, o, none⟩) h, fun b o h => hb.frozen (p := ⟨b, o, none⟩) h⟩

theorem ret_i64 {a b : Int} (h : a = b) : Ending.returned (.int .i64 a) = .returned (.int .i64 b) := by rw [h]
theorem ret_bool {a b : Bool} (h : a = b) : Ending.returned (.bool a) = .returned (.bool b) := by rw [h]
theorem ret_ib {a b : Int} {c d : Bool} (h : a = b) (h' : c = d) : Ending.returned (.tuple #[.int .i64 a, .bool c]) = .returned (.tuple #[.int .i64 b, .bool d]) := by rw [h, h']

section
variable {P : Program} {ops : Array Oper}
theorem still_of_quiet {o : Oper} {a : Act} {w : World} {K : Act → Prop} (h : o.quiet P a (fun w' => w' = w) K) : o.still P a w K := by
  obtain ⟨v, h1, h2⟩ := h
  have h3 := h1 w rfl
  unfold Oper.quietAt at h3
  unfold Oper.still
  generalize (execOp a.eval o).run P w = r at *
  unfold Oper.quietUpon at h3
  unfold Oper.stillUpon
  split at h3
  · obtain ⟨rfl, rfl⟩ := h3; exact ⟨rfl, h2⟩
  · obtain ⟨rfl, rfl⟩ := h3; exact ⟨rfl, h2⟩
  · obtain ⟨rfl, h4⟩ := h3; exact ⟨rfl, v, h4, h2⟩
  · exact h3.elim
theorem wpStill_of_quiet {w : World} {Q : Act → Prop} : ∀ (l : List Oper) (a : Act), wpQuiet P ops (fun w' => w' = w) Q l a → wpStill P ops w Q l a
  | [], _, h => h
  | o :: l, a, h => by
    unfold wpQuiet at h
    unfold wpStill
    split
    · rename_i hw
      rw [if_pos hw] at h
      have h' := still_of_quiet h
      unfold Oper.still at *
      generalize (execOp a.eval o).run P w = r at *
      unfold Oper.stillUpon at *
      split at h'
      · exact ⟨h'.1, wpStill_of_quiet l _ h'.2⟩
      · exact ⟨h'.1, wpStill_of_quiet l _ h'.2⟩
      · obtain ⟨h1, v, h2, h3⟩ := h'; exact ⟨h1, v, h2, wpStill_of_quiet l _ h3⟩
      · exact h'.elim
    · rename_i hw
      rw [if_neg hw] at h
      exact wpStill_of_quiet l _ h
/-- A region that draws its order: all operations but the last ones only read; the last ones are forced. -/
theorem wp_region_qtail {id : Nat} {Q : Exit → Act → World → Prop} {a : Act} {w : World} {l : List Oper} (n : Nat) (hm : P.follows .mixedOrders = true) (hB : Region.lexTailB .any l.toArray n = true)
    (h : wpQuiet P l.toArray (fun w' => w' = w.drew) (fun a' => wpList P l.toArray Q (l.drop n) a' w.drew) (l.take n) a) : (Code.region id l.toArray true).wp P Q a w :=
  wp_region_still_tail n hm hB (wpStill_of_quiet _ _ h)
end
end Go.Proofs.Ytjjohniabgamjaa
