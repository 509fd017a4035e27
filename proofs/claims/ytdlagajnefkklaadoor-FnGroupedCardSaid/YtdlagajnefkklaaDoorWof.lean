/- Words of digits: the symbols, l01Symbol, l01From. -/
import Derived.Test.YtdlagajnefkklaaDoorDig
import Derived.Test.YtdlagajnefkklaaDoorStrB
namespace Go.Proofs.YtdlagajnefkklaaDoor
open Go.RowKit

/-- The symbol of a digit. -/
def sy (d : Int) : Int := if d < 10 then 48 + d else 55 + d
theorem sy_in {d : Int} (h : 0 ≤ d ∧ d ≤ 35) : 48 ≤ sy d ∧ sy d ≤ 90 := by unfold sy; split <;> omega
theorem dg_sy {d : Int} (h : 0 ≤ d ∧ d ≤ 35) : dg (sy d) = d := by
  unfold dg sy
  by_cases h1 : d < 10
  · rw [if_pos h1, if_pos (by omega)]; omega
  · rw [if_neg h1, if_neg (by omega), if_pos (by omega)]; omega
/-- The word of some digits. -/
def wOf (xs : List Int) : ByteArray := strOfNums (xs.map sy)
theorem wOf_size (xs : List Int) : (wOf xs).size = xs.length := by unfold wOf; rw [str_size, List.length_map]
theorem wOf_bz {xs : List Int} (h : ∀ z ∈ xs, 0 ≤ z ∧ z ≤ 35) : bz (wOf xs) = xs.map sy := by
  unfold wOf
  exact str_bz fun z hz => by
    obtain ⟨d, hd, rfl⟩ := List.mem_map.1 hz
    have := sy_in (h d hd); omega
theorem wOf_dig {xs : List Int} {b m : Int} (hb : 2 ≤ b ∧ b ≤ 36) (h : ∀ z ∈ xs, 0 ≤ z ∧ z < b) (hm : (xs.length : Int) ≤ m) : digB (wOf xs) b m = true := by
  have h35 : ∀ z ∈ xs, 0 ≤ z ∧ z ≤ 35 := fun z hz => by have := h z hz; omega
  unfold digB wdB
  rw [wOf_bz h35, wOf_size, Bool.and_eq_true, Bool.and_eq_true, List.all_eq_true]
  refine ⟨⟨by unfold inB; simp; omega, decide_eq_true hm⟩, fun z hz => ?_⟩
  obtain ⟨d, hd, rfl⟩ := List.mem_map.1 hz
  rw [dg_sy (h35 d hd)]
  have := h d hd
  unfold inB; simp; omega
theorem digB_mono {s : ByteArray} {b m : Int} (h : digB s b m = true) (hm : m ≤ 20) : digB s 36 20 = true := by
  unfold digB wdB at h ⊢
  rw [Bool.and_eq_true, Bool.and_eq_true, List.all_eq_true, decide_eq_true_eq] at h
  obtain ⟨⟨h1, h2⟩, h3⟩ := h
  rw [Bool.and_eq_true, Bool.and_eq_true, List.all_eq_true]
  unfold inB at h1
  simp only [Bool.and_eq_true, decide_eq_true_eq] at h1
  refine ⟨⟨by unfold inB; simp, decide_eq_true (by omega)⟩, fun z hz => ?_⟩
  have := h3 z hz
  unfold inB at this ⊢
  simp only [Bool.and_eq_true, decide_eq_true_eq] at this ⊢
  omega
set_option maxHeartbeats 400000 in
theorem l01Symbol_any (d : Int) (w : World) (hd : 0 ≤ d ∧ d ≤ 35) :
    Calls Tryd.prog 26 #[.int .i64 d] w fun e w' => e = .returned (.int .u8 (sy d)) ∧ w = w' := by
  by_cases h : d < 10
  · have hs : Hid (48 + d = sy d) := by unfold Hid sy; rw [if_pos h]
    have f1 : IntKind.u8.wrap (48 + d) = 48 + d := IntWalk.u8_in _ (by omega)
    go_enter Tryd.func26, Tryd.ntmps26
    go_wp2_with fail
    go_ret
    exact ⟨by rw [hs.out]; rfl, rfl⟩
  · have hs : Hid (65 + d - 10 = sy d) := by unfold Hid sy; rw [if_neg h]; omega
    have f1 : IntKind.u8.wrap (65 + d - 10) = 65 + d - 10 := IntWalk.u8_in _ (by omega)
    go_enter Tryd.func26, Tryd.ntmps26
    go_wp2_with fail
    go_ret
    exact ⟨by rw [hs.out]; rfl, rfl⟩
end Go.Proofs.YtdlagajnefkklaaDoor
