/- Lists of texts in strictly ascending order: each is known by its elements; a text put into one; a sorted list without its repetitions. -/
import Derived.Test.YtgagjmnmfgfpfaaStrs
import Derived.Lib.SlicesCompact
import Derived.Lib.Strings
namespace Go.Proofs.Ytgagjmnmfgfpfaa
open Go.RowKit

theorem one_str {l : List ByteArray} : ∀ u ∈ ss l, u.oneCell' = true := fun u hu => by
  obtain ⟨s, _, rfl⟩ := List.mem_map.1 hu; rfl
abbrev BS := List UInt8
def bs (s : ByteArray) : BS := s.data.toList
def sb (l : BS) : ByteArray := ⟨l.toArray⟩
theorem bs_sb (l : BS) : bs (sb l) = l := rfl
theorem sb_bs (s : ByteArray) : sb (bs s) = s := rfl
theorem bs_inj {a b : ByteArray} (h : bs a = bs b) : a = b := ba_ext h
def ltS (a b : ByteArray) : Prop := bs a < bs b
instance (a b : ByteArray) : Decidable (ltS a b) := inferInstanceAs (Decidable (bs a < bs b))
def AscS (l : List ByteArray) : Prop := l.Pairwise ltS
theorem ltS.trans {a b c : ByteArray} (h : ltS a b) (k : ltS b c) : ltS a c := List.lt_trans h k
theorem ltS.irrefl (a : ByteArray) : ¬ ltS a a := List.lt_irrefl _
theorem ltS.tri {a b : ByteArray} (h : ¬ ltS a b) (h2 : a ≠ b) : ltS b a := by
  rcases List.le_total (bs a) (bs b) with h' | h'
  · exact absurd (bs_inj (List.le_antisymm h' (List.not_lt.1 h))) h2
  · exact Decidable.byContradiction fun h3 => h2 (bs_inj (List.le_antisymm (List.not_lt.1 h3) (List.not_lt.1 h)))
theorem AscS.eq : ∀ {l l' : List ByteArray}, AscS l → AscS l' → (∀ u, u ∈ l ↔ u ∈ l') → l = l'
  | [], [], _, _, _ => rfl
  | [], y :: l', _, _, h => absurd ((h y).2 (List.mem_cons_self ..)) (by simp)
  | x :: l, [], _, _, h => absurd ((h x).1 (List.mem_cons_self ..)) (by simp)
  | x :: l, y :: l', h1, h2, h => by
    obtain ⟨a1, a2⟩ := List.pairwise_cons.1 h1
    obtain ⟨b1, b2⟩ := List.pairwise_cons.1 h2
    have e : x = y := by
      have hx := (h x).1 (List.mem_cons_self ..)
      have hy := (h y).2 (List.mem_cons_self ..)
      rcases List.mem_cons.1 hx with e | hx
      · exact e
      · rcases List.mem_cons.1 hy with e | hy
        · exact e.symm
        · exact absurd ((b1 x hx).trans (a1 y hy)) (ltS.irrefl _)
    subst e
    congr 1
    refine AscS.eq a2 b2 fun u => ⟨fun hu => ?_, fun hu => ?_⟩
    · rcases List.mem_cons.1 ((h u).1 (List.mem_cons_of_mem _ hu)) with e | h'
      · subst e; exact absurd (a1 u hu) (ltS.irrefl _)
      · exact h'
    · rcases List.mem_cons.1 ((h u).2 (List.mem_cons_of_mem _ hu)) with e | h'
      · subst e; exact absurd (b1 u hu) (ltS.irrefl _)
      · exact h'
theorem AscS.nil : AscS [] := List.Pairwise.nil
theorem AscS.get {l : List ByteArray} (h : AscS l) {i j : Nat} (hij : i < j) (hj : j < l.length) : ltS (sAt l i) (sAt l j) := by
  have := List.pairwise_iff_getElem.1 h i j (by omega) hj hij
  unfold sAt; simpa [show i < l.length by omega, hj] using this
/-- A text that is put where it belongs. -/
theorem AscS.put {l : List ByteArray} (h : AscS l) (t : ByteArray) (k : Nat) (hk : k ≤ l.length) (h1 : ∀ i, i < k → ltS (sAt l i) t) (h2 : k < l.length → ltS t (sAt l k)) :
    AscS (l.take k ++ [t] ++ l.drop k) ∧ ∀ u, u ∈ l.take k ++ [t] ++ l.drop k ↔ u = t ∨ u ∈ l := by
  have g1 : ∀ u ∈ l.take k, ltS u t := fun u hu => by
    obtain ⟨i, hi, e⟩ := List.mem_iff_getElem.1 hu
    rw [List.length_take] at hi
    have := h1 i (by omega)
    rw [← e]
    unfold sAt at this; simpa [show i < l.length by omega] using this
  have g2 : ∀ u ∈ l.drop k, ltS t u := fun u hu => by
    obtain ⟨i, hi, e⟩ := List.mem_iff_getElem.1 hu
    rw [List.length_drop] at hi
    have hkl := h2 (by omega)
    rw [← e, List.getElem_drop]
    have e2 : sAt l (k + i) = l[k + i]'(by omega) := by unfold sAt; simp [show k + i < l.length by omega]
    rw [← e2]
    by_cases hi0 : i = 0
    · subst hi0; exact hkl
    · exact hkl.trans (h.get (by omega) (by omega))
  constructor
  · refine List.pairwise_append.2 ⟨List.pairwise_append.2 ⟨List.Pairwise.sublist (List.take_sublist _ _) h, List.pairwise_singleton _ _, fun a ha b hb => ?_⟩, List.Pairwise.sublist (List.drop_sublist _ _) h, fun a ha b hb => ?_⟩
    · simp at hb; subst hb; exact g1 a ha
    · rcases List.mem_append.1 ha with ha | ha
      · exact (g1 a ha).trans (g2 b hb)
      · simp at ha; subst ha; exact g2 b hb
  · intro u
    conv => rhs; rw [← List.take_append_drop k l]
    simp only [List.mem_append, List.mem_singleton]
    constructor
    · rintro ((h | h) | h)
      · exact .inr (.inl h)
      · exact .inl h
      · exact .inr (.inr h)
    · rintro (h | h | h)
      · exact .inl (.inr h)
      · exact .inl (.inl h)
      · exact .inr h
/-- A sorted list without its repetitions. -/
theorem compact_asc (zs : List BS) (h : zs.Pairwise (fun a b => decide (a ≤ b) = true)) : (Lib.compact zs).Pairwise (· < ·) ∧ ∀ u, u ∈ Lib.compact zs ↔ u ∈ zs := by
  have hle : ∀ i j, i ≤ j → j < zs.length → zs.toArray[i]! ≤ zs.toArray[j]! := fun i j hij hj => by
    rcases Nat.lt_or_eq_of_le hij with hlt | rfl
    · have := List.pairwise_iff_getElem.1 h i j (by omega) hj hlt
      simpa [show i < zs.length by omega, hj] using this
    · exact List.le_refl _
  have key : ∀ m, m ≤ zs.length → (Lib.compactUpTo zs.toArray m).Pairwise (· < ·) ∧ ∀ u, u ∈ Lib.compactUpTo zs.toArray m ↔ ∃ j, j < m ∧ zs.toArray[j]! = u := by
    intro m
    induction m with
    | zero => intro _; exact ⟨by simp [Lib.compactUpTo], by simp [Lib.compactUpTo]⟩
    | succ m ih =>
      intro hm
      obtain ⟨i1, i2⟩ := ih (by omega)
      rw [Lib.compactUpTo_succ]
      cases hk : Lib.keeps zs.toArray m
      · simp only [Bool.false_eq_true, if_false, List.append_nil]
        refine ⟨i1, fun u => (i2 u).trans ⟨fun ⟨j, hj, e⟩ => ⟨j, by omega, e⟩, fun ⟨j, hj, e⟩ => ?_⟩⟩
        by_cases hjm : j = m
        · subst hjm
          have hj0 : j ≠ 0 := fun e0 => by subst e0; rw [Lib.keeps_lt_one _ 0 (by omega)] at hk; cases hk
          refine ⟨j - 1, by omega, ?_⟩
          rw [← e]
          exact Decidable.byContradiction fun hne => by
            rw [Lib.keeps_pos (fun e' => hne e'.symm)] at hk; cases hk
        · exact ⟨j, by omega, e⟩
      · simp only [if_true]
        refine ⟨List.pairwise_append.2 ⟨i1, List.pairwise_singleton _ _, fun a ha b hb => ?_⟩, fun u => ?_⟩
        · simp only [List.mem_singleton] at hb
          subst hb
          obtain ⟨j, hj, rfl⟩ := (i2 a).1 ha
          have h1 := hle j (m - 1) (by omega) (by omega)
          have h2 := hle (m - 1) m (by omega) (by omega)
          have hne : zs.toArray[m]! ≠ zs.toArray[m - 1]! := fun e => by
            rw [Lib.keeps_neg (by omega) e] at hk; cases hk
          have h3 : zs.toArray[m - 1]! < zs.toArray[m]! := Decidable.byContradiction fun h' => hne (List.le_antisymm (List.not_lt.1 h') h2)
          exact List.lt_of_le_of_lt h1 h3
        · rw [List.mem_append, i2, List.mem_singleton]
          constructor
          · rintro (⟨j, hj, e⟩ | e)
            · exact ⟨j, by omega, e⟩
            · exact ⟨m, by omega, e.symm⟩
          · rintro ⟨j, hj, e⟩
            by_cases hjm : j = m
            · subst hjm; exact .inr e.symm
            · exact .inl ⟨j, by omega, e⟩
  obtain ⟨k1, k2⟩ := key zs.length (Nat.le_refl _)
  refine ⟨k1, fun u => (k2 u).trans ⟨fun ⟨j, hj, e⟩ => ?_, fun hu => ?_⟩⟩
  · rw [← e]; simp [hj]
  · obtain ⟨j, hj, e⟩ := List.mem_iff_getElem.1 hu
    exact ⟨j, hj, by simp [hj, e]⟩
/-- The words of a list, sorted, each once. -/
def ordS (l : List ByteArray) : List ByteArray := (Lib.compact ((l.map bs).mergeSort fun x y => decide (x ≤ y))).map sb
theorem ordS_asc (l : List ByteArray) : AscS (ordS l) ∧ ∀ u, u ∈ ordS l ↔ u ∈ l := by
  have hs := List.pairwise_mergeSort (le := fun (x y : BS) => decide (x ≤ y)) (fun a b c h1 h2 => by
    simp only [decide_eq_true_eq] at *; exact List.le_trans h1 h2) (fun a b => by
    simp only [Bool.or_eq_true, decide_eq_true_eq]; exact List.le_total a b) (l.map bs)
  obtain ⟨h1, h2⟩ := compact_asc _ hs
  constructor
  · unfold AscS ordS
    rw [List.pairwise_map]
    exact h1
  · intro u
    unfold ordS
    constructor
    · intro hu
      obtain ⟨b, hb, rfl⟩ := List.mem_map.1 hu
      have := (List.mem_mergeSort).1 ((h2 b).1 hb)
      obtain ⟨a, ha, rfl⟩ := List.mem_map.1 this
      exact ha
    · intro hu
      exact List.mem_map.2 ⟨bs u, (h2 _).2 (List.mem_mergeSort.2 (List.mem_map.2 ⟨u, hu, rfl⟩)), sb_bs u⟩
theorem bl_eq : ∀ x y : BS, Op.bytesLess x y = decide (x < y)
  | [], [] => by simp [Op.bytesLess]
  | _ :: _, [] => by simp [Op.bytesLess]
  | [], _ :: _ => by simp [Op.bytesLess]
  | a :: x, b :: y => by
    rw [Op.bytesLess, bl_eq x y]
    by_cases h : a < b
    · simp [h, List.cons_lt_cons_iff]
    · by_cases e : a = b
      · subst e; simp [List.cons_lt_cons_iff]
      · simp [h, e, List.cons_lt_cons_iff]
theorem lt_bytes (a b : ByteArray) : Op.bytesLess a.toList b.toList = decide (ltS a b) := by
  rw [bl_eq, Lib.toList_data, Lib.toList_data]; rfl
end Go.Proofs.Ytgagjmnmfgfpfaa
