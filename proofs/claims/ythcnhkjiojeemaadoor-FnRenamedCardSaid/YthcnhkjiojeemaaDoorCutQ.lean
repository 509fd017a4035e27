/- A text cut at its marks: plain facts; at a stroke. -/
import Derived.Test.YthcnhkjiojeemaaDoorStrs
import Derived.Test.YthcnhkjiojeemaaDoorBytesM
import Derived.Lib.SplitLaws
import Derived.Lib.IndexBytes
namespace Go.Proofs.YthcnhkjiojeemaaDoor
open Go.RowKit

/-- The pieces of l between its marks, where p stands ahead of the first. -/
def cutG (p : List UInt8) : List UInt8 → List (List UInt8)
  | [] => [p]
  | c :: r => if c = 47 then p :: cutG [] r else cutG (p ++ [c]) r
theorem cutG_dash {c : UInt8} (p r : List UInt8) (h : c = 47) : cutG p (c :: r) = p :: cutG [] r := by
  show (if c = 47 then p :: cutG [] r else cutG (p ++ [c]) r) = _
  rw [if_pos h]
theorem cutG_char {c : UInt8} (p r : List UInt8) (h : ¬ c = 47) : cutG p (c :: r) = cutG (p ++ [c]) r := by
  show (if c = 47 then p :: cutG [] r else cutG (p ++ [c]) r) = _
  rw [if_neg h]
theorem cutG_none : ∀ (l p : List UInt8), Lib.indexByte l 47 = -1 → cutG p l = [p ++ l]
  | [], p, _ => by simp [cutG]
  | c :: r, p, h => by
    unfold Lib.indexByte at h
    by_cases hc : c = 47
    · rw [if_pos (by simp [hc])] at h; cases h
    · rw [if_neg (by simp [hc])] at h
      have h2 : Lib.indexByte r 47 = -1 := by
        by_cases h3 : Lib.indexByte r 47 = -1
        · exact h3
        · rw [if_neg (by simp [h3])] at h
          have := Lib.indexByte_ge r 47
          omega
      rw [cutG_char p r hc, cutG_none r (p ++ [c]) h2]
      simp
theorem cutG_hit : ∀ (l p : List UInt8) (i : Nat), Lib.indexByte l 47 = i → cutG p l = (p ++ l.take i) :: cutG [] (l.drop (i + 1))
  | [], p, i, h => by unfold Lib.indexByte at h; omega
  | c :: r, p, i, h => by
    unfold Lib.indexByte at h
    by_cases hc : c = 47
    · rw [if_pos (by simp [hc])] at h
      obtain rfl : i = 0 := by omega
      rw [cutG_dash p r hc]; simp
    · rw [if_neg (by simp [hc])] at h
      by_cases h3 : Lib.indexByte r 47 = -1
      · rw [if_pos (by simp [h3])] at h; omega
      · rw [if_neg (by simp [h3])] at h
        have := Lib.indexByte_ge r 47
        obtain ⟨j, rfl⟩ : ∃ j, i = j + 1 := ⟨i - 1, by omega⟩
        rw [cutG_char p r hc, cutG_hit r (p ++ [c]) j (by omega)]
        simp
theorem cutG_split : ∀ (m : Nat) (l : List UInt8), l.length ≤ m → Lib.splitK [47] 0 (Lib.count l [47]) l = cutG [] l
  | m, l, hm => by
    have hge := Lib.indexByte_ge l 47
    by_cases h : Lib.indexByte l 47 = -1
    · have h1 : Lib.index l [47] = -1 := by rw [Lib.index_one]; exact h
      rw [Lib.count_miss h1, cutG_none l [] h]
      rfl
    · obtain ⟨i, hi⟩ : ∃ i : Nat, Lib.indexByte l 47 = i := ⟨(Lib.indexByte l 47).toNat, by omega⟩
      have h1 : Lib.index l [47] = i := by rw [Lib.index_one]; exact hi
      have hl : i < l.length := by
        have := Lib.index_room l [47] (by omega)
        simp at this; omega
      cases m with
      | zero => omega
      | succ m =>
        have h2 : Lib.count l [47] = Lib.count (l.drop (i + 1)) [47] + 1 := by
          have := Lib.count_hit (s := l) (sub := [47]) (i := i) (by simp) h1
          simp only [List.length_singleton] at this
          omega
        rw [h2, cutG_hit l [] i hi]
        unfold Lib.splitK
        rw [if_neg (by rw [h1]; simp), h1]
        have := cutG_split m (l.drop (i + 1)) (by simp; omega)
        simpa using this
def dashB : ByteArray := ⟨#[47]⟩
def cutS (s : ByteArray) : List ByteArray := Lib.splitB dashB 0 (Lib.countB s dashB) s
theorem cutS_data (s : ByteArray) : (cutS s).map (·.data.toList) = cutG [] s.data.toList := by
  unfold cutS
  rw [Lib.splitB_data]
  exact cutG_split _ _ (Nat.le_refl _)
theorem cutS_len (s : ByteArray) : (cutS s).length = Lib.countB s dashB + 1 := Lib.splitB_all dashB (by decide) 0 _ s rfl
theorem cutS_of {s : ByteArray} {o : List ByteArray} (h : o.map (·.data.toList) = cutG [] s.data.toList) : o = cutS s := by
  rw [← cutS_data] at h
  have hi : Function.Injective (fun t : ByteArray => t.data.toList) := fun a b h => ba_ext h
  exact (List.map_inj_right (fun a b => hi.eq_iff.1)).1 h
/-- The pieces and the marks together are the text. -/
theorem cutG_sum : ∀ (l p : List UInt8), ((cutG p l).map List.length).sum + (cutG p l).length = p.length + l.length + 1
  | [], p => by simp [cutG]
  | c :: r, p => by
    unfold cutG
    split
    · have := cutG_sum r []
      simp at this ⊢; omega
    · have := cutG_sum r (p ++ [c])
      simp at this ⊢; omega
theorem cutS_sum (s : ByteArray) : ((cutS s).map ByteArray.size).sum + (cutS s).length = s.size + 1 := by
  have h := cutG_sum s.data.toList []
  have h2 := cutS_data s
  have h3 : (cutS s).map ByteArray.size = (cutG [] s.data.toList).map List.length := by
    rw [← h2, List.map_map]
    exact List.map_congr_left fun t _ => by simp
  have h4 : (cutS s).length = (cutG [] s.data.toList).length := by rw [← h2, List.length_map]
  rw [h3, h4, h]
  simp
/-- What the reference's walk knows: the pieces so far, the start of the next, the place. -/
def CutI (s : ByteArray) (o : List ByteArray) (f k : Nat) : Prop := o.map (·.data.toList) ++ cutG ((s.data.toList.take k).drop f) (s.data.toList.drop k) = cutG [] s.data.toList
theorem CutI.start (s : ByteArray) : CutI s [] 0 0 := by unfold CutI; simp
theorem CutI.end {s : ByteArray} {o : List ByteArray} {f : Nat} (h : CutI s o f s.size) : o ++ [s.extract f s.size] = cutS s := by
  refine cutS_of ?_
  unfold CutI at h
  have e : s.data.toList.length = s.size := (Lib.size_eq s).symm
  rw [List.drop_eq_nil_of_le (show s.data.toList.length ≤ s.size by omega), List.take_of_length_le (show s.data.toList.length ≤ s.size by omega)] at h
  rw [← h, List.map_append]
  show _ ++ [(s.extract f s.size).data.toList] = _ ++ [_]
  rw [Lib.extract_data, List.take_of_length_le (by rw [List.length_drop]; omega)]
theorem CutI.cut {s : ByteArray} {o : List ByteArray} {f k : Nat} (h : CutI s o f k) (hk : k < s.size) (hc : s[k] = 47) : CutI s (o ++ [s.extract f k]) (k + 1) (k + 1) := by
  unfold CutI at h ⊢
  have e : k < s.data.toList.length := by rw [← Lib.size_eq]; exact hk
  have e2 : s.data.toList[k] = s[k] := rfl
  rw [List.drop_eq_getElem_cons e, e2] at h
  rw [cutG_dash _ _ hc] at h
  rw [← h, List.map_append, List.append_assoc]
  show _ ++ ([(s.extract f k).data.toList] ++ _) = _
  rw [Lib.extract_data, List.drop_take, List.drop_take, Nat.sub_self, List.take_zero]
  rfl
theorem CutI.step {s : ByteArray} {o : List ByteArray} {f k : Nat} (h : CutI s o f k) (hf : f ≤ k) (hk : k < s.size) (hc : ¬ s[k] = 47) : CutI s o f (k + 1) := by
  unfold CutI at h ⊢
  have e : k < s.data.toList.length := by rw [← Lib.size_eq]; exact hk
  have e2 : s.data.toList[k] = s[k] := rfl
  rw [List.drop_eq_getElem_cons e, e2] at h
  rw [cutG_char _ _ hc] at h
  rw [← h, List.take_succ_eq_append_getElem e, List.drop_append_of_le_length (by simp; omega), e2]
end Go.Proofs.YthcnhkjiojeemaaDoor
