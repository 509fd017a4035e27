/- FoldWord, in plain numbers: the families are apart; the family of a symbol; the folded word. -/
import Derived.Test.YtdkheeocglfogaaFamQ
namespace Go.Proofs.Ytdkheeocglfogaa
open Go.RowKit

/-- The first numbers of the families below k. -/
noncomputable def reps (A : Nat → Nat → Bool) (n k : Nat) : List Nat := (List.range k).filter fun i => !dn A n i i
theorem fams_reps (s : ByteArray) (A : Nat → Nat → Bool) : ∀ k, fams s A k = (reps A s.size k).map fun i => ctx s (cmp A s.size i)
  | 0 => rfl
  | k + 1 => by
    have ih := fams_reps s A k
    unfold reps at ih ⊢
    rw [List.range_succ, List.filter_append, List.map_append]
    cases h : dn A s.size k k
    · rw [fams_new h, ih]; simp [h]
    · rw [fams_skip h, ih]; simp [h]
theorem reps_mem {A : Nat → Nat → Bool} {n k i : Nat} : i ∈ reps A n k ↔ i < k ∧ dn A n i i = false := by
  unfold reps
  rw [List.mem_filter, List.mem_range]; simp
theorem reps_apart {A : Nat → Nat → Bool} {n k i i' j : Nat} (hs : ∀ a b, A a b = A b a) (hkn : k ≤ n) (h1 : i ∈ reps A n k) (h2 : i' ∈ reps A n k) (h3 : cmp A n i j = true) (h4 : cmp A n i' j = true) : i = i' := by
  have key : ∀ i i', i < i' → i ∈ reps A n k → i' ∈ reps A n k → cmp A n i j = true → cmp A n i' j = true → False := fun i i' hlt h1 h2 h3 h4 => by
    have h5 := (reps_mem.1 h2).2
    have h6 := (reps_mem.1 h2).1
    have : dn A n i' i' = true := dn_iff.2 ⟨i, hlt, (cmp_iff.1 h3).trans ((cmp_iff.1 h4).symm hs (by omega))⟩
    rw [this] at h5; cases h5
  rcases Nat.lt_trichotomy i i' with h | h | h
  · exact (key i i' h h1 h2 h3 h4).elim
  · exact h
  · exact (key i' i h h2 h1 h4 h3).elim
theorem ctB_mem {s : ByteArray} {p : Nat → Bool} {c : Int} {k : Nat} : c ∈ ctB s k p ↔ ∃ j, j < k ∧ p j = true ∧ bI s j = c := by
  unfold ctB
  rw [List.mem_map]
  constructor
  · rintro ⟨j, h1, h2⟩
    rw [List.mem_filter, List.mem_range] at h1
    exact ⟨j, h1.1, h1.2, h2⟩
  · rintro ⟨j, h1, h2, h3⟩
    exact ⟨j, List.mem_filter.2 ⟨List.mem_range.2 h1, h2⟩, h3⟩
theorem ctx_bz (s : ByteArray) (p : Nat → Bool) : bz (ctx s p) = ctB s s.size p := by
  unfold ctx
  exact str_bz fun z hz => by
    unfold ctB at hz
    obtain ⟨j, _, rfl⟩ := List.mem_map.1 hz
    exact bI_in s j
/-- The families of a likeness. -/
structure FA (s : ByteArray) (F : List ByteArray) : Prop where
  len : F.length ≤ 18
  sz : ∀ q, q < F.length → 1 ≤ (sAt F q).size ∧ (sAt F q).size ≤ 18
  uniq : ∀ q r c, q < F.length → r < F.length → c ∈ bz (sAt F q) → c ∈ bz (sAt F r) → q = r
theorem fams_at {s : ByteArray} {A : Nat → Nat → Bool} {k q : Nat} (hq : q < (fams s A k).length) : sAt (fams s A k) q = ctx s (cmp A s.size ((reps A s.size k).getD q 0)) ∧ q < (reps A s.size k).length := by
  have hl : (fams s A k).length = (reps A s.size k).length := by rw [fams_reps, List.length_map]
  refine ⟨?_, by omega⟩
  unfold sAt
  rw [fams_reps]
  simp [show q < (reps A s.size k).length by omega]
theorem reps_nodup (A : Nat → Nat → Bool) (n k : Nat) : (reps A n k).Nodup := List.nodup_range.filter _
theorem FA.of {s : ByteArray} {A : Nat → Nat → Bool} (hs : ∀ a b, A a b = A b a) (h18 : s.size ≤ 18) (hd : Dis s) : FA s (fams s A s.size) := by
  refine ⟨by have := fams_len s A s.size; omega, fun q hq => ?_, fun q r c hq hr h1 h2 => ?_⟩
  · obtain ⟨e, hl⟩ := fams_at hq
    have hm : (reps A s.size s.size).getD q 0 ∈ reps A s.size s.size := by
      rw [show (reps A s.size s.size).getD q 0 = (reps A s.size s.size)[q] by simp [hl]]; exact List.getElem_mem _
    rw [e, ← bz_len, ctx_bz]
    have := ctB_len s s.size (cmp A s.size ((reps A s.size s.size).getD q 0))
    refine ⟨List.length_pos_of_mem (ctB_mem.2 ⟨(reps A s.size s.size).getD q 0, (reps_mem.1 hm).1, cmp_iff.2 .refl, rfl⟩), by omega⟩
  · obtain ⟨e1, hl1⟩ := fams_at hq
    obtain ⟨e2, hl2⟩ := fams_at hr
    rw [e1, ctx_bz] at h1
    rw [e2, ctx_bz] at h2
    obtain ⟨j, hj, hc, ej⟩ := ctB_mem.1 h1
    obtain ⟨j', hj', hc', ej'⟩ := ctB_mem.1 h2
    obtain rfl := hd j j' hj hj' (by rw [ej, ej'])
    have hm1 : (reps A s.size s.size).getD q 0 ∈ reps A s.size s.size := by
      rw [show (reps A s.size s.size).getD q 0 = (reps A s.size s.size)[q] by simp [hl1]]; exact List.getElem_mem _
    have hm2 : (reps A s.size s.size).getD r 0 ∈ reps A s.size s.size := by
      rw [show (reps A s.size s.size).getD r 0 = (reps A s.size s.size)[r] by simp [hl2]]; exact List.getElem_mem _
    have e := reps_apart hs (Nat.le_refl _) hm1 hm2 hc hc'
    rw [show (reps A s.size s.size).getD q 0 = (reps A s.size s.size)[q] by simp [hl1], show (reps A s.size s.size).getD r 0 = (reps A s.size s.size)[r] by simp [hl2]] at e
    exact (List.getElem_inj (reps_nodup A s.size s.size)).1 e
/-- The place of the family of a symbol. -/
def fd (F : List ByteArray) (c : Int) : Option Nat := (List.range F.length).find? fun q => decide (c ∈ bz (sAt F q))
theorem fd_some {s : ByteArray} {F : List ByteArray} (h : FA s F) {c : Int} {q : Nat} (hq : q < F.length) (hc : c ∈ bz (sAt F q)) : fd F c = some q := by
  unfold fd
  rw [List.find?_range_eq_some]
  refine ⟨decide_eq_true hc, List.mem_range.2 hq, fun j hj => ?_⟩
  have : c ∉ bz (sAt F j) := fun h2 => by have := h.uniq q j c hq (by omega) hc h2; omega
  simpa using this
theorem fd_none {F : List ByteArray} {c : Int} (h : ∀ q, q < F.length → c ∉ bz (sAt F q)) : fd F c = none := by
  unfold fd
  rw [List.find?_eq_none]
  intro q hq
  simpa using h q (List.mem_range.1 hq)
/-- The symbol in the stead of c. -/
def stead (F : List ByteArray) (c : Int) : Int := match fd F c with | some q => (bz (sAt F q)).getD 0 0 | none => 0
def fdB (F : List ByteArray) (c : Int) : Bool := (fd F c).isSome
/-- The folded word, and whether there is one. -/
def foB (F : List ByteArray) (t : ByteArray) : Bool := (bz t).all (fdB F)
def foX (F : List ByteArray) (t : ByteArray) : List Int := (bz t).map (stead F)
theorem stead_of {s : ByteArray} {F : List ByteArray} (h : FA s F) {c : Int} {q : Nat} (hq : q < F.length) (hc : c ∈ bz (sAt F q)) : stead F c = (bz (sAt F q)).getD 0 0 ∧ fdB F c = true := by
  unfold stead fdB; rw [fd_some h hq hc]; exact ⟨rfl, rfl⟩
theorem fdB_none {F : List ByteArray} {c : Int} (h : ∀ q, q < F.length → c ∉ bz (sAt F q)) : fdB F c = false := by unfold fdB; rw [fd_none h]; rfl
theorem foB_no {F : List ByteArray} {t : ByteArray} (k : Nat) (hk : k < t.size) (h : fdB F ((bz t).getD k 0) = false) : foB F t = false := by
  rw [← Bool.not_eq_true]
  unfold foB
  rw [List.all_eq_true]
  intro hh
  have := hh ((bz t).getD k 0) (getD_mem (by rw [bz_len]; exact hk))
  rw [h] at this; cases this
theorem foB_yes {F : List ByteArray} {t : ByteArray} (h : ∀ k, k < t.size → fdB F ((bz t).getD k 0) = true) : foB F t = true := by
  unfold foB
  rw [List.all_eq_true]
  intro x hx
  obtain ⟨k, hk, rfl⟩ := List.mem_iff_getElem.1 hx
  have hk' := hk
  rw [bz_len] at hk'
  rw [← getD_eq hk]; exact h k hk'
theorem foX_succ {F : List ByteArray} {t : ByteArray} {k : Nat} (hk : k < t.size) : (foX F t).take (k + 1) = (foX F t).take k ++ [stead F ((bz t).getD k 0)] := by
  have hb : k < (bz t).length := by rw [bz_len]; exact hk
  unfold foX
  rw [← List.map_take, ← List.map_take, List.take_succ_eq_append_getElem hb, List.map_append, getD_eq hb]
  rfl
theorem foX_len (F : List ByteArray) (t : ByteArray) : (foX F t).length = t.size := by unfold foX; rw [List.length_map, bz_len]
def fwV (s : ByteArray) (l : List ByteArray) (F : List ByteArray) (t : ByteArray) (b : Bool) : Value := if (b && decide (t.size ≤ 20)) && foB F t then .tuple #[.string (strOfNums (foX F t)), .bool true] else .tuple #[.string ByteArray.empty, .bool false]
end Go.Proofs.Ytdkheeocglfogaa
