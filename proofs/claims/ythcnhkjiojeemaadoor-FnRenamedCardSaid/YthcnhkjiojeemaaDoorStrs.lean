/- Helpers over slices of texts: toStringS, eqStringS, szStringS, slices.Index and slices.Contains. -/
import Derived.Test.YthcnhkjiojeemaaDoorInts
namespace Go.Proofs.YthcnhkjiojeemaaDoor
open Go.RowKit

def ss (l : List ByteArray) : List Value := l.map Value.string
theorem ss_length (l : List ByteArray) : (ss l).length = l.length := by simp [ss]
def RS (w : World) (v : Value) (l : List ByteArray) : Prop := RV w v (ss l)
def OS (B : Nat) (w : World) (v : Value) (l : List ByteArray) : Prop := OV 9 B w v (ss l)
abbrev sAt (l : List ByteArray) (k : Nat) : ByteArray := l.getD k ByteArray.empty
theorem info_str : (Tryd.prog.info? 9).map (fun i => (i.zero, i.size, i.bytes)) = some (some (.string ByteArray.empty), 1, 16) := by kernel_rfl

section
variable {w : World} {v : Value} {l : List ByteArray} {B : Nat}
theorem RS.slice (h : RS w v l) : ∃ a cap, v = .slice a l.length cap := by have := RV.slice h; rwa [ss_length] at this
theorem RS.at {a : Option Addr} {n cap : Nat} (h : RS w (.slice a n cap) l) (j : Nat) (hj : j < l.length) : ∃ g off, a = some ⟨g, off, none⟩ ∧ g < w.heap.size ∧ w.cell? ⟨g, off + j, none⟩ = some (.string (sAt l j)) := by
  obtain ⟨g, off, h1, h2, h3⟩ := RV.at h j (by rw [ss_length]; exact hj)
  exact ⟨g, off, h1, h2, by rw [h3]; simp [ss, hj]⟩
theorem RS.len {a : Option Addr} {n cap : Nat} (h : RS w (.slice a n cap) l) : n = l.length := by have := RV.len h; rwa [ss_length] at this
theorem RS.cap {a : Option Addr} {n cap : Nat} (h : RS w (.slice a n cap) l) : l.length ≤ cap ∧ cap ≤ maxLen := by have := RV.cap h; rwa [ss_length] at this
theorem RS.later {w' : World} (h : RS w v l) (hb : Below w.heap.size w w') : RS w' v l := RV.later h hb
theorem OS.read (h : OS B w v l) : RS w v l := OV.read h
theorem OS.later {w' : World} (h : OS B w v l) (hb : Below w.heap.size w w') : OS B w' v l := OV.later h hb
theorem OS.mono {B' : Nat} (h : OS B w v l) (hB : B' ≤ B) : OS B' w v l := OV.mono h hB
theorem OS.vb (h : OS B w v l) : ∀ b ∈ vb v, B ≤ b ∧ b < w.heap.size := OV.vb h
theorem OS.chg {w' : World} {ks : List Nat} (h : OS B w v l) (hc : Chg ks w w') (hn : ∀ k ∈ Go.Proofs.YthcnhkjiojeemaaDoor.vb v, k ∉ ks) : OS B w' v l := OV.chg h hc hn
theorem RS.take {a : Option Addr} {n cap c' : Nat} (h : RS w (.slice a n cap) l) (k : Nat) (hk : k ≤ l.length) (hc' : k ≤ c' ∧ c' ≤ maxLen) : RS w (.slice a k c') (l.take k) := by
  refine ⟨a, c', by rw [ss_length, List.length_take, Nat.min_eq_left hk], by rw [ss_length, List.length_take, Nat.min_eq_left hk]; exact hc', fun j hj => ?_⟩
  rw [ss_length, List.length_take, Nat.min_eq_left hk] at hj
  obtain ⟨g, off, h1, _, h3⟩ := h.at j (by omega)
  refine ⟨g, off, h1, ?_⟩
  rw [h3]
  simp [ss, hj, List.getElem?_take, show j < l.length by omega]
end
theorem ba_ext {s t : ByteArray} (h : s.data.toList = t.data.toList) : s = t := by
  cases s; cases t
  simp at h
  rw [h]
/-- The text is in the list. -/
def hasS (l : List ByteArray) (s : ByteArray) : Bool := l.any fun t => s.data.toList == t.data.toList
theorem hasS_iff {l : List ByteArray} {s : ByteArray} : hasS l s = true ↔ s ∈ l := by
  unfold hasS
  rw [List.any_eq_true]
  constructor
  · rintro ⟨t, ht, he⟩
    have : s = t := ba_ext (beq_iff_eq.1 he)
    rw [this]; exact ht
  · exact fun h => ⟨s, h, by simp⟩
theorem hasS_no {l : List ByteArray} {s : ByteArray} (h : ¬ s ∈ l) : hasS l s = false := by
  rw [← Bool.not_eq_true, hasS_iff]; exact h
theorem str_eq (s : ByteArray) : (s.toList == s.toList) = true := by simp
theorem str_ne {s t : ByteArray} (h : s ≠ t) : (s.toList == t.toList) = false := by
  rw [beq_eq_false_iff_ne]
  intro e
  rw [ByteArray.toList_eq, ByteArray.toList_eq] at e
  cases s; cases t
  simp at e
  exact h (by rw [e])


/-- How much the texts take: their number, and their bytes. -/
def szS (l : List ByteArray) : Nat := (l.map fun s => s.size).sum
theorem szS_take (l : List ByteArray) (k : Nat) (h : k < l.length) : szS (l.take (k + 1)) = szS (l.take k) + (sAt l k).size := by
  unfold szS
  rw [List.take_succ_eq_append_getElem h, List.map_append, List.sum_append]
  simp [h]
theorem szS_le (l : List ByteArray) (k : Nat) : szS (l.take k) ≤ szS l := by
  unfold szS
  conv => rhs; rw [← List.take_append_drop k l]
  rw [List.map_append, List.sum_append]; omega
theorem szS_at (l : List ByteArray) (k : Nat) (h : k < l.length) : (sAt l k).size ≤ szS l := by
  have h1 := szS_take l k h
  have h2 := szS_le l (k + 1)
  omega


end Go.Proofs.YthcnhkjiojeemaaDoor
