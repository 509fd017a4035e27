/- Drawn words: l01Symbol, l01From, l06DrawWord, R8Word. -/
import Derived.Test.YtgagjmnmfgfpfaaDrA
import Derived.Test.YtgagjmnmfgfpfaaDig
namespace Go.Proofs.Ytgagjmnmfgfpfaa
open Go.RowKit

/-- The symbol of a digit. -/
def sy (d : Int) : Int := if d < 10 then 48 + d else 55 + d
theorem sy_in {d : Int} (h : 0 ≤ d ∧ d ≤ 35) : 48 ≤ sy d ∧ sy d ≤ 90 := by unfold sy; split <;> omega
theorem dg_sy {d : Int} (h : 0 ≤ d ∧ d ≤ 35) : dg (sy d) = d := by
  unfold dg sy
  by_cases h1 : d < 10
  · rw [if_pos h1, if_pos (by omega)]; omega
  · rw [if_neg h1, if_neg (by omega), if_pos (by omega)]; omega
/-- The word of some digits. -/
def wOf (xs : List Int) : ByteArray := strOfNums (xs.map sy)
theorem wOf_size (xs : List Int) : (wOf xs).size = xs.length := by unfold wOf; rw [str_size, List.length_map]
theorem wOf_bz {xs : List Int} (h : ∀ z ∈ xs, 0 ≤ z ∧ z ≤ 35) : bz (wOf xs) = xs.map sy := by
  unfold wOf
  exact str_bz fun z hz => by
    obtain ⟨d, hd, rfl⟩ := List.mem_map.1 hz
    have := sy_in (h d hd); omega
theorem wOf_dig {xs : List Int} {b m : Int} (hb : 2 ≤ b ∧ b ≤ 36) (h : ∀ z ∈ xs, 0 ≤ z ∧ z < b) (hm : (xs.length : Int) ≤ m) : digB (wOf xs) b m = true := by
  have h35 : ∀ z ∈ xs, 0 ≤ z ∧ z ≤ 35 := fun z hz => by have := h z hz; omega
  unfold digB wdB
  rw [wOf_bz h35, wOf_size, Bool.and_eq_true, Bool.and_eq_true, List.all_eq_true]
  refine ⟨⟨by unfold inB; simp; omega, decide_eq_true hm⟩, fun z hz => ?_⟩
  obtain ⟨d, hd, rfl⟩ := List.mem_map.1 hz
  rw [dg_sy (h35 d hd)]
  have := h d hd
  unfold inB; simp; omega
theorem digB_mono {s : ByteArray} {b m : Int} (h : digB s b m = true) (hm : m ≤ 20) : digB s 36 20 = true := by
  unfold digB wdB at h ⊢
  rw [Bool.and_eq_true, Bool.and_eq_true, List.all_eq_true, decide_eq_true_eq] at h
  obtain ⟨⟨h1, h2⟩, h3⟩ := h
  rw [Bool.and_eq_true, Bool.and_eq_true, List.all_eq_true]
  unfold inB at h1
  simp only [Bool.and_eq_true, decide_eq_true_eq] at h1
  refine ⟨⟨by unfold inB; simp, decide_eq_true (by omega)⟩, fun z hz => ?_⟩
  have := h3 z hz
  unfold inB at this ⊢
  simp only [Bool.and_eq_true, decide_eq_true_eq] at this ⊢
  omega
set_option maxHeartbeats 400000 in
theorem l01Symbol_any (d : Int) (w : World) (hd : 0 ≤ d ∧ d ≤ 35) :
    Calls Try.prog 59 #[.int .i64 d] w fun e w' => e = .returned (.int .u8 (sy d)) ∧ w = w' := by
  by_cases h : d < 10
  · have hs : Hid (48 + d = sy d) := by unfold Hid sy; rw [if_pos h]
    have f1 : IntKind.u8.wrap (48 + d) = 48 + d := IntWalk.u8_in _ (by omega)
    go_enter Try.func59, Try.ntmps59
    go_wp2_with fail
    go_ret
    exact ⟨by rw [hs.out]; rfl, rfl⟩
  · have hs : Hid (65 + d - 10 = sy d) := by unfold Hid sy; rw [if_neg h]; omega
    have f1 : IntKind.u8.wrap (65 + d - 10) = 65 + d - 10 := IntWalk.u8_in _ (by omega)
    go_enter Try.func59, Try.ntmps59
    go_wp2_with fail
    go_ret
    exact ⟨by rw [hs.out]; rfl, rfl⟩
set_option maxHeartbeats 1000000 in
theorem l01From_any (v : Value) (xs : List Int) (w : World) (hx : RI w v xs) (hd : ∀ z ∈ xs, 0 ≤ z ∧ z ≤ 35) (hm : xs.length ≤ 1048576) :
    Calls Try.prog 78 #[v] w fun e w' => e = .returned (.string (wOf xs)) ∧ Below w.heap.size w w' := by
  obtain ⟨a, c, rfl⟩ := hx.slice
  have HD := Lib.hid hd
  clear hd
  go_enter Try.func78, Try.ntmps78
  go_wp2_with fail
  have hb : Below w.heap.size w (w.alloc (.cells #[] 5)) := (Below.refl _ _).alloc (Nat.le_refl _) _
  have ho : OB w.heap.size (w.alloc (.cells #[] 5)) (.slice (some ⟨w.heap.size, 0, none⟩) 0 0) ((xs.map sy).take 0) := OK.made _ _ _ (Nat.le_refl _)
  generalize w.alloc (.cells #[] 5) = w1 at *
  generalize Value.slice (some ⟨w.heap.size, 0, none⟩) 0 0 = v0 at *
  go_loopw [3, 4] (fun ov iv wr => ∃ k : Nat, k ≤ xs.length ∧ iv = .int .i64 k ∧ OB w.heap.size wr ov ((xs.map sy).take k) ∧ Below w.heap.size w wr) (fun _ iv _ => xs.length - (intOf iv).toNat)
  case atStart => exact ⟨0, Nat.zero_le _, rfl, ho, hb⟩
  case round =>
    clear ho hb
    obtain ⟨k, hk, rfl, ho, hb⟩ := hrel
    have hz := hb.size
    by_cases hlt : k < xs.length
    · obtain ⟨g, off, rfl, hg, hc⟩ := (hx.later hb).at k hlt
      have hbd := HD.out (xs.getD k 0) (getD_mem hlt)
      have HT : Hid ((xs.map sy).take (k + 1) = (xs.map sy).take k ++ [sy (xs.getD k 0)]) := by
        unfold Hid
        rw [List.take_succ_eq_append_getElem (by simpa using hlt)]
        simp [hlt]
      have hll : ((xs.map sy).take k).length ≤ 1099511627776 := by rw [List.length_take]; omega
      generalize xs.getD k 0 = d at *
      go_wp2_with (first | (go_at_call 59; refine (l01Symbol_any _ _ hbd).mono ?_; rintro e w' ⟨rfl, rfl⟩) | (at_builtin; refine wpl_app_u8 rfl _ _ rfl w.heap.size _ _ rfl (ho.alloc _) _ _ _ rfl (World.cell?_alloc_at _ _ _ _ rfl) hll (by simp; omega) ?_; intro v' w5 ho5 hgr))
      have hb5 : Below w.heap.size w w5 := own_below (hb.alloc hz _) (ho.alloc _) hgr (by simp; omega)
      go_roundw
      case rel => exact ⟨k + 1, by omega, by go_num, by rw [HT.out]; exact ho5, hb5⟩
      case measure => first | (simp [intOf]; done) | (simp [intOf]; omega)
    · obtain rfl : k = xs.length := by omega
      rw [List.take_of_length_le (by simp)] at ho
      have hst := ho.str
      have HW : Hid (strOfNums (xs.map sy) = wOf xs) := rfl
      rw [HW.out] at hst
      go_wp2_with fail
      go_ret
      exact ⟨rfl, hb⟩
def DwPost (p m : Nat) (b : Int) (most : Nat) (w : World) (e : Ending) (w' : World) : Prop := ∃ xs : List Int, e = .returned (.string (wOf xs)) ∧ Hid (∀ z ∈ xs, 0 ≤ z ∧ z < b) ∧ xs.length ≤ most ∧ Src p (m + 1 + most) w' ∧ Chg [p] w w'
set_option maxHeartbeats 1000000 in
theorem drawWord_any (p m : Nat) (b : Int) (most : Nat) (w : World) (h : Src p m w) (hm : m ≤ 1000000) (hb : 2 ≤ b ∧ b ≤ 36) (hmo : most ≤ 100) :
    Calls Try.prog 51 #[.pointer (some ⟨p, 0, none⟩), .int .i64 b, .int .i64 most] w (DwPost p m b most w) := by
  have hpl := h.lt
  go_enter Try.func51, Try.ntmps51
  go_wp2_with fail
  have hb1 : Below w.heap.size w (w.alloc (.cells #[] 2)) := (Below.refl _ _).alloc (Nat.le_refl _) _
  have ho : OI w.heap.size (w.alloc (.cells #[] 2)) (.slice (some ⟨w.heap.size, 0, none⟩) 0 0) [] := OK.made _ _ _ (Nat.le_refl _)
  have hs := h.later hb1
  have hch : Chg [p] w (w.alloc (.cells #[] 2)) := (Below.chg hb1).mono (by simp)
  have hz1 := hb1.size
  clear hb1 h
  generalize w.alloc (.cells #[] 2) = w1 at *
  generalize Value.slice (some ⟨w.heap.size, 0, none⟩) 0 0 = v0 at *
  refine (pick_any p _ _ _ hs (by omega) (by omega)).mono ?_
  rintro e w2 ⟨z, rfl, hz, hs2, hc⟩
  obtain ⟨n, rfl⟩ := Int.eq_ofNat_of_zero_le hz.1
  replace ho := ho.chgP hc hpl
  have hz2 := hc.size
  replace hch := hch.trans hc
  have hn7 : n ≤ most := by omega
  clear hs hc hz
  go_wp2_with fail
  go_loopw [7, 8] (fun ov nv wr => ∃ (k : Nat) (xs : List Int), nv = .int .i64 k ∧ OI w.heap.size wr ov xs ∧ Hid (∀ z ∈ xs, 0 ≤ z ∧ z < b) ∧ xs.length + k ≤ most ∧ Src p (m + 1 + (most - k)) wr ∧ w.heap.size ≤ wr.heap.size ∧ Chg [p] w wr) (fun _ nv _ => (intOf nv).toNat)
  case atStart => exact ⟨n, [], rfl, ho, fun z hz => by simp at hz, by simp; omega, hs2.mono (by omega), by omega, hch⟩
  case round =>
    clear hs2 ho hch
    obtain ⟨k, xs, rfl, ho, HX, hlen, hs, hzr, hch⟩ := hrel
    by_cases hk : 0 < k
    · go_wp2_with fail
      refine (pick_any p _ b _ hs (by omega) (by omega)).mono ?_
      rintro e w3 ⟨z, rfl, hz, hs4, hc⟩
      replace ho := ho.chgP hc hpl
      have hz8 := hc.size
      replace hch := hch.trans hc
      clear hs hc
      have HX2 : Hid (∀ y ∈ xs ++ [z], 0 ≤ y ∧ y < b) := fun y hy => by
        rcases List.mem_append.1 hy with h | h
        · exact HX.out y h
        · have := List.mem_singleton.1 h; omega
      go_wp2_with (at_builtin; refine wpl_app_i64 rfl _ _ rfl w.heap.size _ _ rfl (ho.alloc _) _ _ _ rfl (World.cell?_alloc_at _ _ _ _ rfl) (by omega) (by simp; omega) ?_; intro v' w9 ho5 hgr)
      have hbs : Below w.heap.size w3 w9 := own_below ((Below.refl w.heap.size w3).alloc (by omega) _) (ho.alloc _) hgr (by simp; omega)
      have hs5 : Src p (m + 1 + (most - (k - 1))) w9 := (hs4.below hbs hpl).mono (by omega)
      have hz5 := hbs.size
      go_roundw
      case rel => exact ⟨k - 1, _, by rw [show ((k - 1 : Nat) : Int) = (k : Int) - 1 by omega], ho5, HX2, by simp; omega, hs5, by omega, chg_below hch (Nat.le_refl _) hbs⟩
      case measure => first | (simp [intOf]; done) | (simp [intOf]; omega)
    · go_wp2_with fail
      refine (l01From_any _ xs _ ho.read (fun z hz => by have := HX.out z hz; omega) (by omega)).mono ?_
      rintro e w3 ⟨rfl, hbf⟩
      go_wp2_with fail
      go_ret
      exact ⟨xs, rfl, HX, by omega, (hs.below hbf (by omega)).mono (by omega), chg_below hch hzr hbf⟩
def RwPost (b : Int) (most : Nat) (w : World) (e : Ending) (w' : World) : Prop := ∃ xs : List Int, e = .returned (.string (wOf xs)) ∧ Hid (∀ z ∈ xs, 0 ≤ z ∧ z < b) ∧ xs.length ≤ most ∧ Below w.heap.size w w'
theorem r8Word_any (v : Value) (cs : List Int) (b : Int) (most : Nat) (w : World) (hx : RK .u8 w v cs) (hw : ∀ x ∈ cs, (Lit.int .u8 x).wf = true) (hm : cs.length ≤ 1048576) (hb : 2 ≤ b ∧ b ≤ 36) (hmo : most ≤ 100) :
    Calls Try.prog 23 #[v, .int .i64 b, .int .i64 most] w (RwPost b most w) := by
  go_enter Try.func23, Try.ntmps23
  go_wp2_with fail
  refine (from_any v cs _ hx hw hm).mono ?_
  rintro e w1 ⟨rfl, hs, hb1⟩
  go_wp2_with fail
  refine (drawWord_any _ _ b most _ hs (by omega) hb hmo).mono ?_
  rintro e w2 ⟨xs, rfl, HX, hl, hs2, hc⟩
  go_wp2_with fail
  go_ret
  exact ⟨xs, rfl, HX, hl, hc.below hb1 (by simp) hb1.size⟩
end Go.Proofs.Ytgagjmnmfgfpfaa
