/- Families of symbols as the reference finds them: lists of numbers that grow: plain facts. -/
import Derived.Test.YtdkheeocglfogaaFamP
import Derived.Test.YtdkheeocglfogaaDrA
namespace Go.Proofs.Ytdkheeocglfogaa
open Go.RowKit

theorem nat_nodup_le : ∀ (n : Nat) (L : List Nat), L.Nodup → (∀ a ∈ L, a < n) → L.length ≤ n
  | 0, L, _, h => by
    cases L with
    | nil => simp
    | cons a L => have := h a (by simp); omega
  | n + 1, L, hn, h => by
    have h1 := nat_nodup_le n (L.erase n) (hn.erase n) fun a ha => by
      have h2 := h a (List.mem_of_mem_erase ha)
      have h3 : a ≠ n := fun e => by
        subst e
        exact (List.Nodup.not_mem_erase hn) ha
      omega
    by_cases hm : n ∈ L
    · have := List.length_erase_of_mem hm; omega
    · rw [List.erase_of_not_mem hm] at h1; omega
/-- The list L of numbers, reached from i; those before place j have all theirs in it. -/
structure BF (A : Nat → Nat → Bool) (n i : Nat) (L : List Nat) (j : Nat) : Prop where
  nd : L.Nodup
  rc : ∀ a ∈ L, a < n ∧ Rc A n i a
  self : i ∈ L
  cl : ∀ p, p < j → p < L.length → ∀ m, m < n → A (L.getD p 0) m = true → m ∈ L
/-- .. and the number at place j has all its below m. -/
structure BM (A : Nat → Nat → Bool) (n i : Nat) (L : List Nat) (j m : Nat) : Prop extends BF A n i L j where
  lt : j < L.length
  at_ : ∀ q, q < m → A (L.getD j 0) q = true → q ∈ L
theorem BF.start (A : Nat → Nat → Bool) (n i : Nat) (hi : i < n) : BF A n i [i] 0 :=
  ⟨by simp, fun a ha => by rw [List.mem_singleton] at ha; subst ha; exact ⟨hi, .refl⟩, by simp, fun p hp => by omega⟩
theorem BF.len {A : Nat → Nat → Bool} {n i : Nat} {L : List Nat} {j : Nat} (h : BF A n i L j) : L.length ≤ n := nat_nodup_le n L h.nd fun a ha => (h.rc a ha).1
theorem BM.start {A : Nat → Nat → Bool} {n i : Nat} {L : List Nat} {j : Nat} (h : BF A n i L j) (hj : j < L.length) : BM A n i L j 0 := ⟨h, hj, fun q hq => by omega⟩
theorem BM.skip {A : Nat → Nat → Bool} {n i : Nat} {L : List Nat} {j m : Nat} (h : BM A n i L j m) (hm : A (L.getD j 0) m = true → m ∈ L) : BM A n i L j (m + 1) :=
  ⟨h.toBF, h.lt, fun q hq ha => by
    by_cases e : q = m
    · subst e; exact hm ha
    · exact h.at_ q (by omega) ha⟩
theorem getD_app {L : List Nat} {p m : Nat} (h : p < L.length) : (L ++ [m]).getD p 0 = L.getD p 0 := by
  rw [List.getD_eq_getElem?_getD, List.getElem?_append_left h, ← List.getD_eq_getElem?_getD]
theorem BM.add {A : Nat → Nat → Bool} {n i : Nat} {L : List Nat} {j m : Nat} (h : BM A n i L j m) (hm : m < n) (ha : A (L.getD j 0) m = true) (hn : m ∉ L) : BM A n i (L ++ [m]) j (m + 1) := by
  have hL : L.getD j 0 ∈ L := by
    have hl := h.lt
    rw [show L.getD j 0 = L[j] by simp [hl]]; exact List.getElem_mem _
  refine ⟨⟨?_, fun a hm2 => ?_, by simp [h.self], fun p hp hp2 q hq ha2 => ?_⟩, by simp; have := h.lt; omega, fun q hq ha2 => ?_⟩
  · rw [List.nodup_append]
    exact ⟨h.nd, by simp, fun a hA b hB e => hn (by rw [List.mem_singleton] at hB; rw [← hB, ← e]; exact hA)⟩
  · rcases List.mem_append.1 hm2 with h1 | h1
    · exact h.rc a h1
    · rw [List.mem_singleton] at h1; subst h1
      exact ⟨hm, .step _ _ (h.rc _ hL).2 hm ha⟩
  · have hl := h.lt
    rw [getD_app (by omega)] at ha2
    exact List.mem_append.2 (.inl (h.cl p hp (by omega) q hq ha2))
  · rw [getD_app h.lt] at ha2
    by_cases e : q = m
    · subst e; simp
    · exact List.mem_append.2 (.inl (h.at_ q (by omega) ha2))
theorem BM.done {A : Nat → Nat → Bool} {n i : Nat} {L : List Nat} {j : Nat} (h : BM A n i L j n) : BF A n i L (j + 1) :=
  ⟨h.nd, h.rc, h.self, fun p hp hp2 m hm ha => by
    by_cases e : p = j
    · subst e; exact h.at_ m hm ha
    · exact h.cl p (by omega) hp2 m hm ha⟩
theorem BF.fam {A : Nat → Nat → Bool} {n i : Nat} {L : List Nat} {j : Nat} (h : BF A n i L j) (hi : i < n) (hj : L.length ≤ j) : ∀ a, a < n → decide (a ∈ L) = cmp A n i a :=
  cmp_of (P := fun a => decide (a ∈ L)) hi (decide_eq_true h.self) (fun a m ha hm hp ham => by
    obtain ⟨p, hp1, hp2⟩ := List.getElem_of_mem (of_decide_eq_true hp)
    exact decide_eq_true (h.cl p (by omega) hp1 m hm (by rw [show L.getD p 0 = L[p] by simp [hp1], hp2]; exact ham))) fun a ha hp => (h.rc a (of_decide_eq_true hp)).2
/-- The number of the symbol j. -/
def bI (s : ByteArray) (j : Nat) : Int := ((bAt s j).toNat : Int)
theorem bI_in (s : ByteArray) (j : Nat) : 0 ≤ bI s j ∧ bI s j ≤ 255 := by
  unfold bI
  have := (bAt s j).toNat_lt
  omega
theorem bI_bz (s : ByteArray) (j : Nat) (h : j < s.size) : (bz s).getD j 0 = bI s j := by unfold bI; rw [bz_get s j h, bAt_get s j h]
/-- All symbols are different. -/
def Dis (s : ByteArray) : Prop := ∀ i j, i < s.size → j < s.size → bI s i = bI s j → i = j
theorem dis_of {s : ByteArray} {p : Int → Bool} (h : diffB p (bz s) = true) : Dis s := by
  have key : ∀ i j, i < j → j < s.size → bI s i ≠ bI s j := fun i j hij hj e => by
    have h2 := (diffB_iff.1 h).2 j (by rw [bz_len]; exact hj)
    apply h2
    rw [bI_bz s j hj, ← e, ← bI_bz s i (by omega)]
    have hi : i < (bz s).length := by rw [bz_len]; omega
    rw [getD_eq hi]
    exact List.mem_iff_getElem.2 ⟨i, by rw [List.length_take]; omega, by simp⟩
  intro i j hi hj e
  rcases Nat.lt_trichotomy i j with h1 | h1 | h1
  · exact absurd e (key i j h1 hj)
  · exact h1
  · exact absurd e.symm (key j i h1 hi)
theorem mem_bI {s : ByteArray} (hd : Dis s) {L : List Nat} (hL : ∀ a ∈ L, a < s.size) {j : Nat} (hj : j < s.size) : bI s j ∈ L.map (bI s) ↔ j ∈ L := by
  constructor
  · intro h
    obtain ⟨a, ha, e⟩ := List.mem_map.1 h
    rw [← hd a j (hL a ha) hj e]; exact ha
  · exact fun h => List.mem_map.2 ⟨j, h, rfl⟩
theorem bz_one (s : ByteArray) (j : Nat) (h : j < s.size) : bz (s.extract j (j + 1)) = [bI s j] := by
  rw [bz_extract]
  have hl : j < (bz s).length := by rw [bz_len]; exact h
  rw [List.take_succ_eq_append_getElem hl, List.drop_append_of_le_length (by rw [List.length_take]; omega), List.drop_of_length_le (by rw [List.length_take]; omega), ← getD_eq hl, bI_bz s j h]
  rfl
theorem ctB_bI (s : ByteArray) (k : Nat) (p : Nat → Bool) : ctB s (k + 1) p = if p k then ctB s k p ++ [bI s k] else ctB s k p := ctB_succ s k p
theorem ctx_of {s t : ByteArray} {p : Nat → Bool} (h : bz t = ctB s s.size p) : t = ctx s p := by
  apply bz_inj
  unfold ctx
  rw [str_bz fun z hz => ?_, h]
  unfold ctB at hz
  obtain ⟨j, _, rfl⟩ := List.mem_map.1 hz
  exact bI_in s j
end Go.Proofs.Ytdkheeocglfogaa
