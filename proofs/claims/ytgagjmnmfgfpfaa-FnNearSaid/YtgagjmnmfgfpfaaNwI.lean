/- Words near a word: the program's lists. -/
import Derived.Test.YtgagjmnmfgfpfaaNwO
import Derived.Test.YtgagjmnmfgfpfaaApps
import Derived.Deep.RegionHeld3
namespace Go.Proofs.Ytgagjmnmfgfpfaa
open Go.RowKit

/-- The symbol of a digit, as a text. -/
def symS (d : Nat) : ByteArray := (⟨#[48, 49, 50, 51, 52, 53, 54, 55, 56, 57, 65, 66, 67, 68, 69, 70, 71, 72, 73, 74, 75, 76, 77, 78, 79, 80, 81, 82, 83, 84, 85, 86, 87, 88, 89, 90]⟩ : ByteArray).extract d (d + 1)
def insW (w : ByteArray) (i : Nat) (s : ByteArray) : ByteArray := w.extract 0 i ++ s ++ w.extract i w.size
def subW (w : ByteArray) (i : Nat) (s : ByteArray) : ByteArray := w.extract 0 i ++ s ++ w.extract (i + 1) w.size
def delW (w : ByteArray) (i : Nat) : ByteArray := w.extract 0 i ++ w.extract (i + 1) w.size
def swpW (w : ByteArray) (i : Nat) : ByteArray := w.extract 0 i ++ w.extract (i + 1) (i + 2) ++ w.extract i (i + 1) ++ w.extract (i + 2) w.size
theorem symS_size {d : Nat} (h : d < 36) : (symS d).size = 1 := by
  unfold symS
  rw [ByteArray.size_extract]
  show min (d + 1) 36 - d = 1
  omega
theorem ext_le (w : ByteArray) (i j : Nat) : (w.extract i j).size ≤ w.size := by rw [ByteArray.size_extract]; omega
def InsP (s : ByteArray) (b : Nat) (t : ByteArray) : Prop := ∃ i d, i < s.size + 1 ∧ d < b ∧ t = insW s i (symS d)
def DelP (s : ByteArray) (t : ByteArray) : Prop := ∃ i, i < s.size ∧ t = delW s i
/-- A list of texts of the callee's own, known by its elements. -/
def LsPost (w : World) (P : ByteArray → Prop) (m : Nat) (e : Ending) (w' : World) : Prop := ∃ v' l, e = .returned v' ∧ OS w.heap.size w' v' l ∧ (∀ t, t ∈ l ↔ P t) ∧ l.length ≤ m ∧ Below w.heap.size w w'
set_option maxRecDepth 100000 in
set_option maxHeartbeats 4000000 in
theorem inserted_any (s : ByteArray) (b : Nat) (w : World) (hs : s.size ≤ 20) (hb0 : b ≤ 36) :
    Calls Try.prog 63 #[.string s, .int .i64 b] w (LsPost w (InsP s b) ((s.size + 1) * 36)) := by
  go_enter Try.func63, Try.ntmps63
  go_wp2_with fail
  have hb : Below w.heap.size w (w.alloc (.cells #[] 9)) := (Below.refl _ _).alloc (Nat.le_refl _) _
  have ho : OS w.heap.size (w.alloc (.cells #[] 9)) (.slice (some ⟨w.heap.size, 0, none⟩) 0 0) [] := OV.made _ _ (Nat.le_refl _)
  generalize w.alloc (.cells #[] 9) = w1 at *
  generalize Value.slice (some ⟨w.heap.size, 0, none⟩) 0 0 = v0 at *
  go_loopw [5, 12] (fun ov iv wr => ∃ (i : Nat) (l : List ByteArray), i ≤ s.size + 1 ∧ iv = .int .i64 i ∧ OS w.heap.size wr ov l ∧ Hid (∀ t, t ∈ l ↔ ∃ j d, j < i ∧ d < b ∧ t = insW s j (symS d)) ∧ l.length ≤ i * 36 ∧ Below w.heap.size w wr) (fun _ iv _ => s.size + 1 - (intOf iv).toNat)
  case atStart => exact ⟨0, [], Nat.zero_le _, rfl, ho, Lib.hid (fun t => by simp), by simp, hb⟩
  case round =>
    clear ho hb
    obtain ⟨i, l, hi, rfl, ho, HL, hll, hb⟩ := hrel
    by_cases hlt : i < s.size + 1
    · have hli : (i : Int) < (s.size : Int) + 1 := by omega
      go_wp2_with fail
      have HL0 : Hid (∀ t, t ∈ l ↔ (∃ j d, j < i ∧ d < b ∧ t = insW s j (symS d)) ∨ ∃ e, e < 0 ∧ t = insW s i (symS e)) := fun t => by rw [HL.out t]; simp
      go_loopw [5, 16] (fun ov dv wr => ∃ (d : Nat) (l : List ByteArray), d ≤ b ∧ dv = .int .i64 d ∧ OS w.heap.size wr ov l ∧ Hid (∀ t, t ∈ l ↔ (∃ j d, j < i ∧ d < b ∧ t = insW s j (symS d)) ∨ ∃ e, e < d ∧ t = insW s i (symS e)) ∧ l.length ≤ i * 36 + d ∧ Below w.heap.size w wr) (fun _ dv _ => b - (intOf dv).toNat)
      case atStart => exact ⟨0, l, Nat.zero_le _, rfl, ho, HL0, by omega, hb⟩
      case round =>
        clear ho hb HL HL0 hll l
        obtain ⟨d, l, hd, rfl, ho, HL, hll, hb⟩ := hrel
        have hz := hb.size
        by_cases hld : d < b
        · obtain ⟨Y, hY⟩ : ∃ Y, Y = symS d := ⟨_, rfl⟩
          have hY1 : Y.size ≤ 1 := by rw [hY]; exact Nat.le_of_eq (symS_size (by omega))
          have hYe : (⟨#[48, 49, 50, 51, 52, 53, 54, 55, 56, 57, 65, 66, 67, 68, 69, 70, 71, 72, 73, 74, 75, 76, 77, 78, 79, 80, 81, 82, 83, 84, 85, 86, 87, 88, 89, 90]⟩ : ByteArray).extract d (d + 1) = Y := hY.symm
          obtain ⟨A, hA⟩ : ∃ A, s.extract 0 i = A := ⟨_, rfl⟩
          obtain ⟨C, hC⟩ : ∃ C, s.extract i s.size = C := ⟨_, rfl⟩
          have HIN : Hid (A ++ Y ++ C = insW s i (symS d)) := by unfold Hid insW; rw [hY, hA, hC]
          have h1 : A.size ≤ 20 := by rw [← hA]; have := ext_le s 0 i; omega
          have h2 : C.size ≤ 20 := by rw [← hC]; have := ext_le s i s.size; omega
          have h3 : ¬ 9223372036854775807 < A.size + Y.size := by omega
          have h4 : ¬ 9223372036854775807 < A.size + Y.size + C.size := by omega
          have hls : (ss l).length ≤ 1099511627776 := by rw [ss_length]; omega
          have k1 : (i : Int) ≤ (s.size : Int) := by omega
          have k2 : (d : Int) < 36 := by omega
          have k3 : (d : Int) + 1 ≤ 36 := by omega
          have hw1 : IntKind.i64.wrap ((d : Int) + 1) = (d : Int) + 1 := IntWalk.i64_in _ (by omega)
          have hw2 : (0 : Int) ≤ (d : Int) + 1 := by omega
          have hw3 : ((d : Int) + 1).toNat = d + 1 := by omega
          have hw4 : (d : Int) ≤ (d : Int) + 1 := by omega
          have hlsz : ((ss l).length : Int) ≤ 1099511627776 := by omega
          clear hY
          go_wp2_with fail
          go_region_held3 (fun _ => True) (trivial)
            ((refine step_app Try.underlying32 info_str rfl (by omega) (by rfl) _ _ (by rfl) w.heap.size _ _ (by rfl) ((OV.alloc ho _).drew) ⟨wr.heap.size, 0, none⟩ 1 (.string (A ++ Y ++ C)) (by rfl) (World.cell?_alloc_at _ _ _ _ rfl) rfl hls (by simp; omega) ?_; intro v' w5 ho5 hgr))
          have hbn := own_below ((hb.alloc hz _).drew) ((OV.alloc ho _).drew) hgr (by simp; omega)
          have ho6 : OS w.heap.size w5 v' (l ++ [insW s i (symS d)]) := by
            unfold OS
            rw [← HIN.out]
            simpa [ss] using ho5
          have HL2 : Hid (∀ t, t ∈ l ++ [insW s i (symS d)] ↔ (∃ j d, j < i ∧ d < b ∧ t = insW s j (symS d)) ∨ ∃ e, e < d + 1 ∧ t = insW s i (symS e)) := fun t => by
            rw [List.mem_append, HL.out t, List.mem_singleton]
            constructor
            · rintro ((h | ⟨e, he, h⟩) | h)
              · exact .inl h
              · exact .inr ⟨e, by omega, h⟩
              · exact .inr ⟨d, by omega, h⟩
            · rintro (h | ⟨e, he, h⟩)
              · exact .inl (.inl h)
              · by_cases hed : e = d
                · subst hed; exact .inr h
                · exact .inl (.inr ⟨e, by omega, h⟩)
          clear ho5 hgr hYe hw1 hw2 hw3 hw4 hA hC
          go_wp2_with fail
          go_roundw
          case rel => exact ⟨d + 1, _, by omega, by go_num, ho6, HL2, by rw [List.length_append]; simp; omega, hbn⟩
          case measure => first | (simp [intOf]; done) | (simp [intOf]; omega)
        · obtain rfl : d = b := by omega
          have HL2 : Hid (∀ t, t ∈ l ↔ ∃ j e, j < i + 1 ∧ e < d ∧ t = insW s j (symS e)) := fun t => by
            rw [HL.out t]
            constructor
            · rintro (⟨j, e, hj, he, h⟩ | ⟨e, he, h⟩)
              · exact ⟨j, e, by omega, he, h⟩
              · exact ⟨i, e, by omega, he, h⟩
            · rintro ⟨j, e, hj, he, h⟩
              by_cases hji : j = i
              · subst hji; exact .inr ⟨e, he, h⟩
              · exact .inl ⟨j, e, by omega, he, h⟩
          go_wp2_with fail
          go_roundw
          case rel => exact ⟨i + 1, _, by omega, by go_num, ho, HL2, by omega, hb⟩
          case measure => first | (simp [intOf]; done) | (simp [intOf]; omega)
    · obtain rfl : i = s.size + 1 := by omega
      have hli : ¬ ((s.size + 1 : Nat) : Int) < (s.size : Int) + 1 := by omega
      go_wp2_with fail
      go_ret
      exact ⟨_, _, rfl, ho, HL.out, by omega, hb⟩
set_option maxRecDepth 100000 in
set_option maxHeartbeats 4000000 in
theorem shortened_any (s : ByteArray) (w : World) (hs : s.size ≤ 20) :
    Calls Try.prog 64 #[.string s] w (LsPost w (DelP s) s.size) := by
  go_enter Try.func64, Try.ntmps64
  go_wp2_with fail
  have hb : Below w.heap.size w (w.alloc (.cells #[] 9)) := (Below.refl _ _).alloc (Nat.le_refl _) _
  have ho : OS w.heap.size (w.alloc (.cells #[] 9)) (.slice (some ⟨w.heap.size, 0, none⟩) 0 0) [] := OV.made _ _ (Nat.le_refl _)
  generalize w.alloc (.cells #[] 9) = w1 at *
  generalize Value.slice (some ⟨w.heap.size, 0, none⟩) 0 0 = v0 at *
  go_loopw [3, 8] (fun ov iv wr => ∃ (i : Nat) (l : List ByteArray), i ≤ s.size ∧ iv = .int .i64 i ∧ OS w.heap.size wr ov l ∧ Hid (∀ t, t ∈ l ↔ ∃ j, j < i ∧ t = delW s j) ∧ l.length ≤ i ∧ Below w.heap.size w wr) (fun _ iv _ => s.size - (intOf iv).toNat)
  case atStart => exact ⟨0, [], Nat.zero_le _, rfl, ho, Lib.hid (fun t => by simp), by simp, hb⟩
  case round =>
    clear ho hb
    obtain ⟨i, l, hi, rfl, ho, HL, hll, hb⟩ := hrel
    have hz := hb.size
    by_cases hlt : i < s.size
    · obtain ⟨A, hA⟩ : ∃ A, s.extract 0 i = A := ⟨_, rfl⟩
      obtain ⟨C, hC⟩ : ∃ C, s.extract (i + 1) s.size = C := ⟨_, rfl⟩
      have HIN : Hid (A ++ C = delW s i) := by unfold Hid delW; rw [hA, hC]
      have h1 : A.size ≤ 20 := by rw [← hA]; have := ext_le s 0 i; omega
      have h2 : C.size ≤ 20 := by rw [← hC]; have := ext_le s (i + 1) s.size; omega
      have h3 : ¬ 9223372036854775807 < A.size + C.size := by omega
      have hw2 : (0 : Int) ≤ (i : Int) + 1 := by omega
      have hw3 : ((i : Int) + 1).toNat = i + 1 := by omega
      have hls : (ss l).length ≤ 1099511627776 := by rw [ss_length]; omega
      have k1 : (i : Int) ≤ (s.size : Int) := by omega
      have k3 : (i : Int) + 1 ≤ (s.size : Int) := by omega
      have hw1 : IntKind.i64.wrap ((i : Int) + 1) = (i : Int) + 1 := IntWalk.i64_in _ (by omega)
      go_wp2_with fail
      go_region_held3 (fun _ => True) (trivial)
        ((refine step_app Try.underlying32 info_str rfl (by omega) (by rfl) _ _ (by rfl) w.heap.size _ _ (by rfl) ((OV.alloc ho _).drew) ⟨wr.heap.size, 0, none⟩ 1 (.string (A ++ C)) (by rfl) (World.cell?_alloc_at _ _ _ _ rfl) rfl hls (by simp; omega) ?_; intro v' w5 ho5 hgr))
      have hbn := own_below ((hb.alloc hz _).drew) ((OV.alloc ho _).drew) hgr (by simp; omega)
      have ho6 : OS w.heap.size w5 v' (l ++ [delW s i]) := by
        unfold OS
        rw [← HIN.out]
        simpa [ss] using ho5
      have HL2 : Hid (∀ t, t ∈ l ++ [delW s i] ↔ ∃ j, j < i + 1 ∧ t = delW s j) := fun t => by
        rw [List.mem_append, HL.out t, List.mem_singleton]
        constructor
        · rintro (⟨e, he, h⟩ | h)
          · exact ⟨e, by omega, h⟩
          · exact ⟨i, by omega, h⟩
        · rintro ⟨e, he, h⟩
          by_cases hed : e = i
          · subst hed; exact .inr h
          · exact .inl ⟨e, by omega, h⟩
      clear ho5 hgr hw1 hw2 hw3 hA hC
      go_wp2_with fail
      go_roundw
      case rel => exact ⟨i + 1, _, by omega, by go_num, ho6, HL2, by rw [List.length_append]; simp; omega, hbn⟩
      case measure => first | (simp [intOf]; done) | (simp [intOf]; omega)
    · obtain rfl : i = s.size := by omega
      go_wp2_with fail
      go_ret
      exact ⟨_, _, rfl, ho, HL.out, by omega, hb⟩
end Go.Proofs.Ytgagjmnmfgfpfaa
