import Derived.Test.YthcnhkjiojeemaaDoorDig
import Derived.Test.YthcnhkjiojeemaaDoorStrB
namespace Go.Proofs.YthcnhkjiojeemaaDoor
open Go.RowKit

/-- The symbol of a digit. -/
def sy (d : Int) : Int := if d < 10 then 48 + d else 55 + d
theorem sy_in {d : Int} (h : 0 ≤ d ∧ d ≤ 35) : 48 ≤ sy d ∧ sy d ≤ 90 := by unfold sy; split <;> omega
theorem dg_sy {d : Int} (h : 0 ≤ d ∧ d ≤ 35) : dg (sy d) = d := by
  unfold dg sy
  by_cases h1 : d < 10
  · rw [if_pos h1, if_pos (by omega)]; omega
  · rw [if_neg h1, if_neg (by omega), if_pos (by omega)]; omega
/-- The word of some digits. -/
def wOf (xs : List Int) : ByteArray := strOfNums (xs.map sy)
theorem wOf_size (xs : List Int) : (wOf xs).size = xs.length := by unfold wOf; rw [str_size, List.length_map]
theorem wOf_bz {xs : List Int} (h : ∀ z ∈ xs, 0 ≤ z ∧ z ≤ 35) : bz (wOf xs) = xs.map sy := by
  unfold wOf
  exact str_bz fun z hz => by
    obtain ⟨d, hd, rfl⟩ := List.mem_map.1 hz
    have := sy_in (h d hd); omega
theorem wOf_dig {xs : List Int} {b m : Int} (hb : 2 ≤ b ∧ b ≤ 36) (h : ∀ z ∈ xs, 0 ≤ z ∧ z < b) (hm : (xs.length : Int) ≤ m) : digB (wOf xs) b m = true := by
  have h35 : ∀ z ∈ xs, 0 ≤ z ∧ z ≤ 35 := fun z hz => by have := h z hz; omega
  unfold digB wdB
  rw [wOf_bz h35, wOf_size, Bool.and_eq_true, Bool.and_eq_true, List.all_eq_true]
  refine ⟨⟨by unfold inB; simp; omega, decide_eq_true hm⟩, fun z hz => ?_⟩
  obtain ⟨d, hd, rfl⟩ := List.mem_map.1 hz
  rw [dg_sy (h35 d hd)]
  have := h d hd
  unfold inB; simp; omega
theorem digB_mono {s : ByteArray} {b m : Int} (h : digB s b m = true) (hm : m ≤ 20) : digB s 36 20 = true := by
  unfold digB wdB at h ⊢
  rw [Bool.and_eq_true, Bool.and_eq_true, List.all_eq_true, decide_eq_true_eq] at h
  obtain ⟨⟨h1, h2⟩, h3⟩ := h
  rw [Bool.and_eq_true, Bool.and_eq_true, List.all_eq_true]
  unfold inB at h1
  simp only [Bool.and_eq_true, decide_eq_true_eq] at h1
  refine ⟨⟨by unfold inB; simp, decide_eq_true (by omega)⟩, fun z hz => ?_⟩
  have := h3 z hz
  unfold inB at this ⊢
  simp only [Bool.and_eq_true, decide_eq_true_eq] at this ⊢
  omega
set_option maxHeartbeats 400000 in
theorem l01Symbol_any (d : Int) (w : World) (hd : 0 ≤ d ∧ d ≤ 35) :
    Calls Tryd.prog 52 #[.int .i64 d] w fun e w' => e = .returned (.int .u8 (sy d)) ∧ w = w' := by
  by_cases h : d < 10
  · have hs : Hid (48 + d = sy d) := by unfold Hid sy; rw [if_pos h]
    have f1 : IntKind.u8.wrap (48 + d) = 48 + d := IntWalk.u8_in _ (by omega)
    go_enter Tryd.func52, Tryd.ntmps52
    go_wp2_with fail
    go_ret
    exact ⟨by rw [hs.out]; rfl, rfl⟩
  · have hs : Hid (65 + d - 10 = sy d) := by unfold Hid sy; rw [if_neg h]; omega
    have f1 : IntKind.u8.wrap (65 + d - 10) = 65 + d - 10 := IntWalk.u8_in _ (by omega)
    go_enter Tryd.func52, Tryd.ntmps52
    go_wp2_with fail
    go_ret
    exact ⟨by rw [hs.out]; rfl, rfl⟩
set_option maxHeartbeats 1000000 in
theorem l01From_any (v : Value) (xs : List Int) (w : World) (hx : RI w v xs) (hd : ∀ z ∈ xs, 0 ≤ z ∧ z ≤ 35) (hm : xs.length ≤ 1048576) :
    Calls Tryd.prog 40 #[v] w fun e w' => e = .returned (.string (wOf xs)) ∧ Below w.heap.size w w' := by
  obtain ⟨a, c, rfl⟩ := hx.slice
  have HD := Lib.hid hd
  clear hd
  go_enter Tryd.func40, Tryd.ntmps40
  go_wp2_with fail
  have hb : Below w.heap.size w (w.alloc (.cells #[] 5)) := (Below.refl _ _).alloc (Nat.le_refl _) _
  have ho : OB w.heap.size (w.alloc (.cells #[] 5)) (.slice (some ⟨w.heap.size, 0, none⟩) 0 0) ((xs.map sy).take 0) := OK.made _ _ _ (Nat.le_refl _)
  generalize w.alloc (.cells #[] 5) = w1 at *
  generalize Value.slice (some ⟨w.heap.size, 0, none⟩) 0 0 = v0 at *
  go_loopw [3, 4] (fun ov iv wr => ∃ k : Nat, k ≤ xs.length ∧ iv = .int .i64 k ∧ OB w.heap.size wr ov ((xs.map sy).take k) ∧ Below w.heap.size w wr) (fun _ iv _ => xs.length - (intOf iv).toNat)
  case atStart => exact ⟨0, Nat.zero_le _, rfl, ho, hb⟩
  case round =>
    clear ho hb
    obtain ⟨k, hk, rfl, ho, hb⟩ := hrel
    have hz := hb.size
    by_cases hlt : k < xs.length
    · obtain ⟨g, off, rfl, hg, hc⟩ := (hx.later hb).at k hlt
      have hbd := HD.out (xs.getD k 0) (getD_mem hlt)
      have HT : Hid ((xs.map sy).take (k + 1) = (xs.map sy).take k ++ [sy (xs.getD k 0)]) := by
        unfold Hid
        rw [List.take_succ_eq_append_getElem (by simpa using hlt)]
        simp [hlt]
      have hll : ((xs.map sy).take k).length ≤ 1099511627776 := by rw [List.length_take]; omega
      generalize xs.getD k 0 = d at *
      go_wp2_with (first | (go_at_call 52; refine (l01Symbol_any _ _ hbd).mono ?_; rintro e w' ⟨rfl, rfl⟩) | (at_builtin; refine wpl_app_u8 rfl _ _ rfl w.heap.size _ _ rfl (ho.alloc _) _ _ _ rfl (World.cell?_alloc_at _ _ _ _ rfl) hll (by simp; omega) ?_; intro v' w5 ho5 hgr))
      have hb5 : Below w.heap.size w w5 := own_below (hb.alloc hz _) (ho.alloc _) hgr (by simp; omega)
      go_roundw
      case rel => exact ⟨k + 1, by omega, by go_num, by rw [HT.out]; exact ho5, hb5⟩
      case measure => first | (simp [intOf]; done) | (simp [intOf]; omega)
    · obtain rfl : k = xs.length := by omega
      rw [List.take_of_length_le (by simp)] at ho
      have hst := ho.str
      have HW : Hid (strOfNums (xs.map sy) = wOf xs) := rfl
      rw [HW.out] at hst
      go_wp2_with fail
      go_ret
      exact ⟨rfl, hb⟩
end Go.Proofs.YthcnhkjiojeemaaDoor
