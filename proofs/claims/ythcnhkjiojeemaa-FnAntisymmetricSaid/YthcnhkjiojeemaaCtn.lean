/- slices.Index and slices.Contains at numbers; a row of numbers of the call's own, shortened: no condition. -/
import Derived.Test.YthcnhkjiojeemaaInts
namespace Go.Proofs.Ythcnhkjiojeemaa
open Go.RowKit

theorem OK.dropLast {T : TypeId} {k : IntKind} {B : Nat} {w : World} {g n c : Nat} {xs : List Int} {z : Int} (h : OK T k B w (.slice (some ⟨g, 0, none⟩) n c) (xs ++ [z])) : OK T k B w (.slice (some ⟨g, 0, none⟩) xs.length c) xs := by
  have hn := h.len
  unfold OK OV at *
  obtain ⟨h1, h2⟩ := h
  refine ⟨by simp, ?_⟩
  rcases h2 with ⟨he, _⟩ | ⟨g', cap', cur, he, hB, hg, hc1, hc2, hc3, hc4⟩
  · simp at he
  · simp only [Value.slice.injEq, Option.some.injEq, Addr.mk.injEq, and_true] at he
    obtain ⟨rfl, _, rfl⟩ := he
    refine .inr ⟨g, c, cur, by simp, hB, hg, ?_, hc2, hc3, ?_⟩
    · simp at hc1 ⊢; omega
    · have e : (cur.toList.take ((xs.length + 1) * 1)).take (xs.length * 1) = cur.toList.take (xs.length * 1) := by rw [List.take_take, Nat.min_eq_left (by omega)]
      have hc5 : cur.toList.take ((xs.length + 1) * 1) = (xs ++ [z]).map (Value.int k) := by simpa using hc4
      rw [hc5] at e
      simp only [List.length_map]
      rw [← e]
      simp
set_option maxHeartbeats 1000000 in
theorem indexI_any (v : Value) (xs : List Int) (s : Int) (w : World) (hx : RI w v xs) (hm : xs.length ≤ 1099511627776) :
    Calls Try.prog 73 #[v, .int .i64 s] w fun e w' => ∃ r : Int, e = .returned (.int .i64 r) ∧ Hid (decide (0 ≤ r) = decide (s ∈ xs)) ∧ w = w' := by
  obtain ⟨a, c, rfl⟩ := hx.slice
  go_enter Try.func73, Try.ntmps73
  go_wp2_with fail
  go_loop [8] (fun iv => ∃ k : Nat, k ≤ xs.length ∧ iv = .int .i64 k ∧ Hid (∀ i, i < k → xs.getD i 0 ≠ s)) (fun iv => xs.length - (intOf iv).toNat)
  case atStart => exact ⟨0, Nat.zero_le _, rfl, fun i hi => by omega⟩
  case round =>
    obtain ⟨k, hk, rfl, HK⟩ := hrel
    by_cases hlt : k < xs.length
    · obtain ⟨g, off, rfl, hg, hc⟩ := hx.at k hlt
      by_cases he : xs.getD k 0 = s
      · have HM : Hid (s ∈ xs) := by unfold Hid; rw [← he]; simp [hlt]
        have h0 : (0 : Int) ≤ (k : Int) := by omega
        rw [he] at hc
        clear he
        go_wp2_with fail
        go_ret
        exact ⟨_, rfl, by have := HM.out; simp [Hid, this], rfl⟩
      · have HK2 : Hid (∀ i, i < k + 1 → xs.getD i 0 ≠ s) := fun i hi => by
          by_cases e : i = k
          · subst e; exact he
          · exact HK.out i (by omega)
        have hne : (s == xs.getD k 0) = false := by rw [beq_eq_false_iff_ne]; exact fun e => he e.symm
        have hne2 : (xs.getD k 0 == s) = false := by rw [beq_eq_false_iff_ne]; exact he
        clear he
        generalize xs.getD k 0 = x at *
        go_wp2_with fail
        go_round
        case rel => exact ⟨k + 1, by omega, by go_num, HK2⟩
        case measure => first | (simp [intOf]; done) | (simp [intOf]; omega)
    · have HM : Hid (¬ s ∈ xs) := fun hmem => by
        obtain ⟨i, hi, rfl⟩ := List.getElem_of_mem hmem
        exact HK.out i (by omega) (by simp [hi])
      go_wp2_with fail
      go_ret
      exact ⟨_, rfl, by have := HM.out; simp [Hid, this], rfl⟩
set_option maxHeartbeats 400000 in
theorem containsI_any (v : Value) (xs : List Int) (s : Int) (w : World) (hx : RI w v xs) (hm : xs.length ≤ 1099511627776) :
    Calls Try.prog 61 #[v, .int .i64 s] w fun e w' => e = .returned (.bool (decide (s ∈ xs))) ∧ w = w' := by
  go_enter Try.func61, Try.ntmps61
  go_wp2_with fail
  refine (indexI_any _ _ _ _ hx hm).mono ?_
  rintro e w' ⟨r, rfl, HR, rfl⟩
  go_wp2_with fail
  go_ret
  exact ⟨ret_bool (by have := HR.out; exact this), rfl⟩
end Go.Proofs.Ythcnhkjiojeemaa
