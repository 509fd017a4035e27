/- The laws' helpers over slices of int64: toInt64S, eqInt64S, markInt64S, heldInt64S. -/
import Derived.Test.YtdkheeocglfogaaRead
namespace Go.Proofs.Ytdkheeocglfogaa
open Go.RowKit

/-- Only the blocks of the list may have turned; there may be new ones. -/
structure Chg (l : List Nat) (w w' : World) : Prop where
  os : w'.os = w.os
  tape : w'.tape = w.tape
  output : w'.output = w.output
  size : w.heap.size ≤ w'.heap.size
  block : ∀ k, k < w.heap.size → k ∉ l → w'.heap[k]? = w.heap[k]?
theorem Chg.refl (l : List Nat) (w : World) : Chg l w w := ⟨rfl, rfl, rfl, Nat.le_refl _, fun _ _ _ => rfl⟩
theorem Chg.trans {l : List Nat} {a b c : World} (h : Chg l a b) (k : Chg l b c) : Chg l a c :=
  ⟨k.os.trans h.os, k.tape.trans h.tape, k.output.trans h.output, Nat.le_trans h.size k.size, fun i hi hn => (k.block i (Nat.lt_of_lt_of_le hi h.size) hn).trans (h.block i hi hn)⟩
theorem Chg.mono {l l' : List Nat} {w w' : World} (h : Chg l w w') (hl : ∀ x ∈ l, x ∈ l') : Chg l' w w' :=
  ⟨h.os, h.tape, h.output, h.size, fun k hk hn => h.block k hk fun hh => hn (hl k hh)⟩
theorem Below.chg {w w' : World} (h : Below w.heap.size w w') : Chg [] w w' := ⟨h.os, h.tape, h.output, h.size, fun k hk _ => h.block k hk⟩
theorem chg_grown {w w' : World} {g : Nat} (h : w.grownBy w' (some g)) : Chg [g] w w' :=
  ⟨h.os, h.tape, h.output, h.size, fun k hk hn => h.block k hk (by simpa using hn)⟩
theorem Chg.below {l : List Nat} {B : Nat} {w0 w w' : World} (h : Chg l w w') (hb : Below B w0 w) (hl : ∀ k ∈ l, B ≤ k) (hB : B ≤ w.heap.size) : Below B w0 w' :=
  hb.trans ⟨h.os, h.tape, h.output, h.size, fun k hk => h.block k (by omega) fun hh => by have := hl k hh; omega⟩
/-- The blocks of a value. -/
def vb (v : Value) : List Nat := match v.ownBlock with | some k => [k] | none => []
theorem mem_vb {v : Value} {k : Nat} : k ∈ vb v ↔ v.ownBlock = some k := by
  unfold vb; cases h : v.ownBlock <;> simp [eq_comm]
theorem OV.chg {T : TypeId} {B : Nat} {w w' : World} {v : Value} {cs : List Value} {l : List Nat} (h : OV T B w v cs) (hc : Chg l w w') (hn : ∀ k ∈ vb v, k ∉ l) : OV T B w' v cs := by
  refine ⟨h.1, ?_⟩
  have hlt := h.lt
  rcases h.2 with hn' | ⟨g, cap, cur, rfl, hB, hg, r⟩
  · exact .inl hn'
  · exact .inr ⟨g, cap, cur, rfl, hB, by rw [hc.block g (hlt g rfl).2 (hn g (mem_vb.2 rfl))]; exact hg, r⟩
theorem OK.chg {T : TypeId} {k : IntKind} {B : Nat} {w w' : World} {v : Value} {xs : List Int} {l : List Nat} (h : OK T k B w v xs) (hc : Chg l w w') (hn : ∀ k ∈ vb v, k ∉ l) : OK T k B w' v xs := OV.chg h hc hn
theorem OK.vb {T : TypeId} {k : IntKind} {B : Nat} {w : World} {v : Value} {xs : List Int} (h : OK T k B w v xs) : ∀ b ∈ vb v, B ≤ b ∧ b < w.heap.size := fun b hb => h.lt b (mem_vb.1 hb)
theorem OV.vb {T : TypeId} {B : Nat} {w : World} {v : Value} {cs : List Value} (h : OV T B w v cs) : ∀ b ∈ vb v, B ≤ b ∧ b < w.heap.size := fun b hb => h.lt b (mem_vb.1 hb)

/-- k, k + 1, .. : n numbers. -/
def ups (k : Int) (n : Nat) : List Int := (List.range n).map fun (i : Nat) => k + (i : Int)
theorem ups_length (k : Int) (n : Nat) : (ups k n).length = n := by simp [ups]
theorem ups_getD (k : Int) (n i : Nat) (h : i < n) : (ups k n).getD i 0 = k + i := by simp [ups, h]

end Go.Proofs.Ytdkheeocglfogaa
