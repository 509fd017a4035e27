/- FnProduct: the law. -/
import Derived.Test.YthcnhkjiojeemaaPrT
import Derived.Test.YthcnhkjiojeemaaSml
import Derived.Test.YthcnhkjiojeemaaR8
namespace Go.Proofs.Ythcnhkjiojeemaa
open Go.RowKit

theorem small_mk (n : Nat) (t : Nat → Nat → Int) (h : n ≤ 1048576) : Small (mkT n t) := fun j hj => by rw [mkT_len] at hj; rw [mkT_rowlen _ _ _ hj]; exact h
set_option maxRecDepth 100000 in
set_option maxHeartbeats 4000000 in
theorem lawProduct_any (v0 v1 : Value) (xs ys : List Int) (w : World) (hx : RK .u8 w v0 xs ∧ (∀ x ∈ xs, (Lit.int .u8 x).wf = true) ∧ xs.length ≤ maxLen)
    (hy : RK .u8 w v1 ys ∧ (∀ x ∈ ys, (Lit.int .u8 x).wf = true) ∧ ys.length ≤ maxLen) :
    Calls Try.prog 5 #[v0, v1] w fun x w' => x = .returned (.bool true) ∧ Below w.heap.size w w' := by
  obtain ⟨hx, hxw, _⟩ := hx
  obtain ⟨hy, hyw, _⟩ := hy
  obtain ⟨a, c, rfl⟩ := hx.slice
  obtain ⟨b, d, rfl⟩ := hy.slice
  cases hs : long8 xs.length ys.length
  case true =>
    have HS := Lib.hid hs
    clear hx hy hs
    go_enter Try.func5, Try.ntmps5
    go_wp2_with fail
    refine (r8Long_any _ _ _ _ _ _ _).mono ?_
    rintro e w' ⟨rfl, rfl⟩
    rw [HS.out]
    go_wp2_with fail
    go_ret
    exact ⟨rfl, Below.refl _ _⟩
  have hm48 : xs.length ≤ 48 ∧ ys.length ≤ 48 := by unfold long8 at hs; simp at hs; omega
  obtain ⟨hxm, hym⟩ := hm48
  have HS := Lib.hid hs
  clear hs
  have hb := Below.refl w.heap.size w
  have HX : Hid (∀ wr, Below w.heap.size w wr → RK .u8 wr (.slice a xs.length c) xs) := fun wr h => hx.later h
  have HY : Hid (∀ wr, Below w.heap.size w wr → RK .u8 wr (.slice b ys.length d) ys) := fun wr h => hy.later h
  clear hx hy
  go_enter Try.func5, Try.ntmps5
  go_wp2_with fail
  refine (r8Long_any _ _ _ _ _ _ _).mono ?_
  rintro e w' ⟨rfl, rfl⟩
  rw [HS.out]
  go_wp2_with fail
  refine (r8Small_any _ xs _ (HX.out _ hb) hxw (by omega)).mono ?_
  rintro e w1 ⟨v1, n, s, rfl, hn, h1, hs, hb1⟩
  replace hb := hb.trans (hb1.mono hb.size)
  clear hb1
  go_wp2_with fail
  refine (r8Small_any _ ys _ (HY.out _ hb) hyw (by omega)).mono ?_
  rintro e w2 ⟨v2, m, t, rfl, hm, h2, ht, hb1⟩
  replace hb := hb.trans (hb1.mono hb.size)
  replace h1 := h1.later hb1
  clear hb1 HX HY
  have hnm : n * m ≤ 25 := Nat.le_trans (Nat.mul_le_mul hn.2 hm.2) (by decide)
  have hnm1 : 1 ≤ n * m := Nat.mul_pos hn.1 hm.1
  obtain ⟨hq, hta⟩ := prI_qg hn.1 hm.1 hs ht
  have HPR := Lib.hid (implPr_any n m s t v1 v2 w2 hn hm hs ht h1 h2)
  have HQP : Hid (∀ wx v, RT wx v (mkT (n * m) (prI m s t)) → Calls Try.prog 18 #[v] wx fun e w' => e = .returned (.bool true) ∧ Below wx.heap.size wx w') := fun wx v h => by
    have := implQg_any v _ wx h (by rw [mkT_len]; omega) (small_mk _ _ (by omega))
    rw [qgB_mk.2 ⟨by omega, hq⟩] at this; exact this
  obtain ⟨b1, hb1⟩ : ∃ b, b = taB (mkT n s) := ⟨_, rfl⟩
  obtain ⟨b2, hb2⟩ : ∃ b, b = taB (mkT m t) := ⟨_, rfl⟩
  have hb3 : taB (mkT (n * m) (prI m s t)) = (b1 && b2) := by
    rw [Bool.eq_iff_iff, Bool.and_eq_true, hb1, hb2, taB_mk, taB_mk, taB_mk, hta]
    constructor
    · rintro ⟨_, h3, h4⟩; exact ⟨⟨by omega, h3⟩, by omega, h4⟩
    · rintro ⟨⟨_, h3⟩, _, h4⟩; exact ⟨by omega, h3, h4⟩
  have HT3 : Hid (∀ wx v, RT wx v (mkT (n * m) (prI m s t)) → Calls Try.prog 11 #[v] wx fun e w' => e = .returned (.bool (b1 && b2)) ∧ Below wx.heap.size wx w') := fun wx v h => by
    have := implTot_any v _ wx h (by rw [mkT_len]; omega) (small_mk _ _ (by omega))
    rw [hb3] at this; exact this
  have HT1 : Hid (∀ wx v, RT wx v (mkT n s) → Calls Try.prog 11 #[v] wx fun e w' => e = .returned (.bool b1) ∧ Below wx.heap.size wx w') := fun wx v h => by
    have := implTot_any v _ wx h (by rw [mkT_len]; omega) (small_mk _ _ (by omega))
    rw [← hb1] at this; exact this
  have HT2 : Hid (∀ wx v, RT wx v (mkT m t) → Calls Try.prog 11 #[v] wx fun e w' => e = .returned (.bool b2) ∧ Below wx.heap.size wx w') := fun wx v h => by
    have := implTot_any v _ wx h (by rw [mkT_len]; omega) (small_mk _ _ (by omega))
    rw [← hb2] at this; exact this
  obtain ⟨q, hqe⟩ : ∃ q, q = n * m := ⟨_, rfl⟩
  have hwr : IntKind.i64.wrap ((n : Int) * (m : Int)) = (q : Int) := by rw [← Int.natCast_mul, ← hqe]; exact IntWalk.i64_in _ (by omega)
  rw [← hqe] at HPR HQP HT3
  obtain ⟨a1, C1, e1⟩ := h1.slice
  obtain ⟨a2, C2, e2⟩ := h2.slice
  rw [mkT_len] at e1 e2
  subst e1 e2
  have H1 := Lib.hid h1
  have H2 := Lib.hid h2
  clear hqe hb1 hb2 hb3 hta hq hs ht h1 h2 hnm hnm1
  go_wp2_with fail
  refine HPR.out.mono ?_
  rintro e w3 ⟨v3, rfl, ho, hc1⟩
  have h3 := ho.read
  obtain ⟨a3, C3, rfl⟩ := ho.slice
  rw [mkT_len] at *
  replace hb := hb.trans (hc1.mono hb.size)
  have H13 := Lib.hid (H1.out.later hc1)
  have H23 := Lib.hid (H2.out.later hc1)
  clear hc1 ho H1 H2
  go_wp2_with fail
  refine (HQP.out _ _ h3).mono ?_
  rintro e w4 ⟨rfl, hc1⟩
  replace h3 := h3.later hc1
  replace hb := hb.trans (hc1.mono hb.size)
  have H1 := Lib.hid (H13.out.later hc1)
  have H2 := Lib.hid (H23.out.later hc1)
  clear hc1 H13 H23
  go_wp2_with fail
  refine (HT3.out _ _ h3).mono ?_
  rintro e w5 ⟨rfl, hc1⟩
  replace hb := hb.trans (hc1.mono hb.size)
  have H13 := Lib.hid (H1.out.later hc1)
  have H23 := Lib.hid (H2.out.later hc1)
  clear hc1 H1 H2 h3
  go_wp2_with fail
  refine (HT1.out _ _ H13.out).mono ?_
  rintro e w6 ⟨rfl, hc1⟩
  replace hb := hb.trans (hc1.mono hb.size)
  have H2 := Lib.hid (H23.out.later hc1)
  clear hc1 H13 H23
  cases b1
  · go_wp2_with fail
    go_ret
    exact ⟨rfl, hb⟩
  · go_wp2_with fail
    refine (HT2.out _ _ H2.out).mono ?_
    rintro e w7 ⟨rfl, hc1⟩
    replace hb := hb.trans (hc1.mono hb.size)
    clear hc1 H2
    cases b2
    all_goals
      go_wp2_with fail
      go_ret
      exact ⟨rfl, hb⟩
end Go.Proofs.Ythcnhkjiojeemaa
