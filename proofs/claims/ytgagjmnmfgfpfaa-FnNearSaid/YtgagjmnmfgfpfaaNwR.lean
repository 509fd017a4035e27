/- NearWords: the order of the reference. -/
import Derived.Test.YtgagjmnmfgfpfaaNwN
import Derived.Test.YtgagjmnmfgfpfaaWof
namespace Go.Proofs.Ytgagjmnmfgfpfaa
open Go.RowKit

theorem symS_wOf' : ∀ d : Fin 36, (symS d.val).data.toList = (wOf [((d.val : Nat) : Int)]).data.toList := by decide
theorem symS_wOf {d : Nat} (h : d < 36) : symS d = wOf [(d : Int)] := ba_ext (symS_wOf' ⟨d, h⟩)
/-- As far as the reference's list goes at a place and a digit. -/
def RwQ (s : ByteArray) (b i d : Nat) (t : ByteArray) : Prop :=
  (∃ j e, (j < i ∨ j = i ∧ e < d) ∧ j < s.size + 1 ∧ e < b ∧ t = insW s j (symS e)) ∨
  (∃ j e, (j < i ∨ j = i ∧ e < d) ∧ j < s.size ∧ e < b ∧ SubC s j e ∧ t = subW s j (symS e)) ∨
  (∃ j, j < i ∧ j < s.size ∧ t = delW s j) ∨
  (∃ j, j < i ∧ j + 1 < s.size ∧ SwpC s j ∧ t = swpW s j)
theorem RwQ.start {s : ByteArray} {b : Nat} {t : ByteArray} : ¬ RwQ s b 0 0 t := by
  rintro (⟨j, e, h, _⟩ | ⟨j, e, h, _⟩ | ⟨j, h, _⟩ | ⟨j, h, _⟩) <;> omega
theorem RwQ.put {s : ByteArray} {b i d : Nat} {t : ByteArray} (hi : i < s.size + 1) (hd : d < b) : RwQ s b i (d + 1) t ↔ (i < s.size ∧ SubC s i d ∧ t = subW s i (symS d)) ∨ t = insW s i (symS d) ∨ RwQ s b i d t := by
  unfold RwQ
  constructor
  · rintro (⟨j, e, h1, h2, h3, h4⟩ | ⟨j, e, h1, h2, h3, h4, h5⟩ | h | h)
    · by_cases hq : j = i ∧ e = d
      · obtain ⟨rfl, rfl⟩ := hq; exact .inr (.inl h4)
      · exact .inr (.inr (.inl ⟨j, e, by omega, h2, h3, h4⟩))
    · by_cases hq : j = i ∧ e = d
      · obtain ⟨rfl, rfl⟩ := hq; exact .inl ⟨h2, h4, h5⟩
      · exact .inr (.inr (.inr (.inl ⟨j, e, by omega, h2, h3, h4, h5⟩)))
    · exact .inr (.inr (.inr (.inr (.inl h))))
    · exact .inr (.inr (.inr (.inr (.inr h))))
  · rintro (⟨h1, h2, h3⟩ | h | ⟨j, e, h1, h2, h3, h4⟩ | ⟨j, e, h1, h2, h3, h4, h5⟩ | h | h)
    · exact .inr (.inl ⟨i, d, by omega, h1, hd, h2, h3⟩)
    · exact .inl ⟨i, d, by omega, hi, hd, h⟩
    · exact .inl ⟨j, e, by omega, h2, h3, h4⟩
    · exact .inr (.inl ⟨j, e, by omega, h2, h3, h4, h5⟩)
    · exact .inr (.inr (.inl h))
    · exact .inr (.inr (.inr h))
theorem RwQ.next {s : ByteArray} {b i : Nat} {t : ByteArray} : RwQ s b (i + 1) 0 t ↔ (i + 1 < s.size ∧ SwpC s i ∧ t = swpW s i) ∨ (i < s.size ∧ t = delW s i) ∨ RwQ s b i b t := by
  unfold RwQ
  constructor
  · rintro (⟨j, e, h1, h2, h3, h4⟩ | ⟨j, e, h1, h2, h3, h4, h5⟩ | ⟨j, h1, h2⟩ | ⟨j, h1, h2, h3⟩)
    · exact .inr (.inr (.inl ⟨j, e, by omega, h2, h3, h4⟩))
    · exact .inr (.inr (.inr (.inl ⟨j, e, by omega, h2, h3, h4, h5⟩)))
    · by_cases hq : j = i
      · subst hq; exact .inr (.inl h2)
      · exact .inr (.inr (.inr (.inr (.inl ⟨j, by omega, h2⟩))))
    · by_cases hq : j = i
      · subst hq; exact .inl ⟨h2, h3⟩
      · exact .inr (.inr (.inr (.inr (.inr ⟨j, by omega, h2, h3⟩))))
  · rintro (⟨h1, h2⟩ | ⟨h1, h2⟩ | ⟨j, e, h1, h2, h3, h4⟩ | ⟨j, e, h1, h2, h3, h4, h5⟩ | ⟨j, h1, h2⟩ | ⟨j, h1, h2, h3⟩)
    · exact .inr (.inr (.inr ⟨i, by omega, h1, h2⟩))
    · exact .inr (.inr (.inl ⟨i, by omega, h1, h2⟩))
    · exact .inl ⟨j, e, by omega, h2, h3, h4⟩
    · exact .inr (.inl ⟨j, e, by omega, h2, h3, h4, h5⟩)
    · exact .inr (.inr (.inl ⟨j, by omega, h2⟩))
    · exact .inr (.inr (.inr ⟨j, by omega, h2, h3⟩))
theorem RwQ.stop {s : ByteArray} {b : Nat} {t : ByteArray} : RwQ s b (s.size + 1) 0 t ↔ NwP s b t := by
  unfold RwQ NwP InsP DelP
  constructor
  · rintro (⟨j, e, h1, h2, h3, h4⟩ | ⟨j, e, h1, h2, h3, h4, h5⟩ | ⟨j, h1, h2⟩ | ⟨j, h1, h2, h3⟩)
    · exact .inl ⟨j, e, h2, h3, h4⟩
    · exact .inr (.inr (.inl ⟨j, e, h2, h3, h4, h5⟩))
    · exact .inr (.inl ⟨j, h2⟩)
    · exact .inr (.inr (.inr ⟨j, h2, h3⟩))
  · rintro (⟨j, e, h2, h3, h4⟩ | ⟨j, h2⟩ | ⟨j, e, h2, h3, h4, h5⟩ | ⟨j, h2, h3⟩)
    · exact .inl ⟨j, e, by omega, h2, h3, h4⟩
    · exact .inr (.inr (.inl ⟨j, by have := h2.1; omega, h2⟩))
    · exact .inr (.inl ⟨j, e, by omega, h2, h3, h4, h5⟩)
    · exact .inr (.inr (.inr ⟨j, by omega, h2, h3⟩))
theorem digB_parts {s : ByteArray} {b : Int} (h : digB s b 12 = true) : (2 ≤ b ∧ b ≤ 36) ∧ s.size ≤ 12 := by
  unfold digB inB at h
  simp only [Bool.and_eq_true, decide_eq_true_eq] at h
  omega
theorem implNw_any (s : ByteArray) (b : Int) (w : World) (hs : s.size ≤ 1048576) :
    Calls Try.prog 32 #[.string s, .int .i64 b] w (NwPost s b w) := by
  by_cases hd : digB s b 12 = true
  · obtain ⟨hb, h12⟩ := digB_parts hd
    obtain ⟨n, rfl⟩ := Int.eq_ofNat_of_zero_le (show 0 ≤ b by omega)
    exact implNw_go s n w hd (by omega) h12
  · exact implNw_no s b w hs (by simpa using hd)
end Go.Proofs.Ytgagjmnmfgfpfaa
