/- l04Search: the reference's. -/
import Derived.Test.YthcnhkjiojeemaaSchM
import Derived.Test.YthcnhkjiojeemaaRow
import Derived.Test.YthcnhkjiojeemaaTotS
namespace Go.Proofs.Ythcnhkjiojeemaa
open Go.RowKit

def Res (n p : Nat) (t : Nat → Nat → Int) (B0 : Nat) (w : World) (fv : Value) (c : Nat) : Prop := (c = 0 ∧ ∀ u, ¬ Compl n p t u) ∨ (0 < c ∧ ∃ F, OT B0 w.heap.size w fv (mkT n F) ∧ Compl n p t F)
def Part (n p x y : Nat) (t : Nat → Nat → Int) (B0 : Nat) (w : World) (fv : Value) (c k : Nat) : Prop := (c = 0 ∧ ∀ u, Compl n p t u → (k : Int) ≤ u x y) ∨ (0 < c ∧ ∃ F, OT B0 w.heap.size w fv (mkT n F) ∧ Compl n p t F)
section
variable {n p x y B0 c k m B S : Nat} {t t' : Nat → Nat → Int} {w w' : World} {fv fv2 : Value}
theorem Part.start (fv : Value) : Part n p x y t B0 w fv 0 0 ∨ True := .inr trivial
theorem Part.skip (h : Part n p x y t B0 w fv c k) (hc : ChgR B S w w') (hS : S ≤ B0) (hu : ∀ u, Compl n p t u → u x y ≠ (k : Int)) : Part n p x y t B0 w' fv c (k + 1) := by
  rcases h with ⟨h1, h2⟩ | ⟨h1, F, h2, h3⟩
  · exact .inl ⟨h1, fun u hc => by have := h2 u hc; have := hu u hc; omega⟩
  · exact .inr ⟨h1, F, (h2.chgR hc (Nat.le_refl _) (.inl hS)).mono hc.size, h3⟩
theorem Part.more (h : Part n p x y t B0 w fv c k) (hc : ChgR B S w w') (hS : S ≤ B0) (h0 : 0 < c) (m k' : Nat) : Part n p x y t B0 w' fv (c + m) k' := by
  rcases h with ⟨h1, h2⟩ | ⟨h1, F, h2, h3⟩
  · omega
  · exact .inr ⟨by omega, F, (h2.chgR hc (Nat.le_refl _) (.inl hS)).mono hc.size, h3⟩
theorem Res.none (hx : x < n) (hy : y < n) (h : Res n (x * n + y + 1) (upd t' x y k) B0 w fv 0) (ha : Agr n (x * n + y) t t') : ∀ u, Compl n (x * n + y) t u → u x y ≠ (k : Int) := by
  rcases h with ⟨_, h⟩ | ⟨h, _⟩
  · exact fun u hu e => h u ((compl_step hx hy).2 ⟨hu.of_agr ha, e⟩)
  · omega
theorem Res.some (hx : x < n) (hy : y < n) (hm : 0 < m) (h : Res n (x * n + y + 1) (upd t' x y k) B0 w fv m) (ha : Agr n (x * n + y) t t') {B1 : Nat} (hB : B1 ≤ B0) (k' : Nat) : Part n (x * n + y) x y t B1 w fv (0 + m) k' := by
  rcases h with ⟨h, _⟩ | ⟨_, F, h1, h2⟩
  · omega
  · exact .inr ⟨by omega, F, h1.monoB hB, ((compl_step hx hy).1 h2).1.of_agr ha.symm⟩
theorem Part.res (hx : x < n) (hy : y < n) (h : Part n p x y t B0 w fv c n) : Res n p t B0 w fv c := by
  rcases h with ⟨h1, h2⟩ | h
  · exact .inl ⟨h1, fun u hu => by have := h2 u hu; have := (hu.ta.q.bd x y hx hy).2; omega⟩
  · exact .inr h
theorem Part.res2 (h0 : 0 < c) (h : Part n p x y t B0 w fv c k) : Res n p t B0 w fv c := by
  rcases h with ⟨h1, h2⟩ | h
  · omega
  · exact .inr h
end
def SPost (B S G : Nat) (H P : Nat → Nat) (C n p : Nat) (t : Nat → Nat → Int) (w : World) (e : Ending) (w' : World) : Prop :=
  ∃ (c : Nat) (fv : Value) (t' : Nat → Nat → Int), e = .returned (.tuple #[.int .i64 c, fv]) ∧ TbAt B S G H P C n t' w' ∧ Hid (Agr n p t t') ∧ ChgR B S w w' ∧ Hid (c ≤ n ^ (n * n - p)) ∧ Hid (Res n p t w.heap.size w' fv c)
theorem SPost.mk {B S G : Nat} {H P : Nat → Nat} {C n p : Nat} {t : Nat → Nat → Int} {w w' : World} (c : Nat) (fv : Value) (t' : Nat → Nat → Int) (h1 : TbAt B S G H P C n t' w') (h2 : Agr n p t t') (h3 : ChgR B S w w') (h4 : c ≤ n ^ (n * n - p)) (h5 : Res n p t w.heap.size w' fv c) :
    SPost B S G H P C n p t w (.returned (.tuple #[.int .i64 c, fv])) w' := ⟨c, fv, t', rfl, h1, h2, h3, h4, h5⟩
set_option maxRecDepth 100000 in
set_option maxHeartbeats 4000000 in
theorem search_end (n : Nat) (hn : 1 ≤ n ∧ n ≤ 5) (fb : Bool) (B S G : Nat) (H P : Nat → Nat) (C : Nat) (t : Nat → Nat → Int) (w : World) (ht : TbAt B S G H P C n t w) (hv : Vp n (n * n) t) :
    Calls Try.prog 38 #[.slice (some ⟨G, 0, none⟩) n C, .int .i64 (n * n : Nat), .bool fb] w (SPost B S G H P C n (n * n) t w) := by
  obtain ⟨m, hm⟩ : ∃ m, m = n * n := ⟨_, rfl⟩
  have hm25 : m ≤ 25 := by rw [hm]; exact Nat.le_trans (Nat.mul_le_mul hn.2 hn.2) (by decide)
  have hwm : IntKind.i64.wrap ((n : Int) * (n : Int)) = (m : Int) := by rw [← Int.natCast_mul, ← hm]; exact IntWalk.i64_in _ (by omega)
  have HV := Lib.hid hv.full
  rw [← hm]
  have HM := Lib.hid hm
  clear hm hv
  obtain ⟨hn1, hn5⟩ := hn
  have HT : Hid (Calls Try.prog 64 #[.slice (some ⟨G, 0, none⟩) n C] w fun e w' => e = .returned (.bool (swB (mkT n t) && chB (mkT n t))) ∧ Drw w w') := by
    have := l04Tot_any (mkT n t) C w (by rw [mkT_len]; omega) ht.sq (by
      rw [mkT_len]; intro i j hi hj
      rw [tb_mk hi hj]; exact HV.out.bd i j hi hj)
    rw [mkT_len] at this; exact this
  have HTA := Lib.hid (ta_mk HV.out)
  generalize (swB (mkT n t) && chB (mkT n t)) = b at *
  cases b
  · have HN : Hid (∀ u, ¬ Compl n m t u) := fun u hu => by
      have h1 := HTA.out.2 (hu.ta.congr fun i j hi hj => (hu.ag i j hi hj (by rw [HM.out]; exact pos_lt hi hj)).symm)
      cases h1
    go_enter Try.func38, Try.ntmps38
    go_wp2_with fail
    refine HT.out.mono ?_
    rintro e w2 ⟨rfl, hd⟩
    have hb1 := hd.below
    have ht2 := ht.later hb1
    have hb2 : Below w.heap.size w (w2.alloc (.cells #[] 29)) := hb1.alloc hb1.size _
    go_wp2_with fail
    go_ret2
    exact SPost.mk 0 _ t (ht.later hb2) (Agr.refl _ _ _) (Below.chgR hb2) (Nat.zero_le _) (.inl ⟨rfl, HN.out⟩)
  · have HY : Hid (Compl n m t t) := ⟨HTA.out.1 rfl, Agr.refl _ _ _⟩
    go_enter Try.func38, Try.ntmps38
    go_wp2_with fail
    refine HT.out.mono ?_
    rintro e w2 ⟨rfl, hd⟩
    have hb1 := hd.below
    clear hd hwm
    go_wp2_with fail
    have hb : Below w.heap.size w (w2.alloc (.cells #[] 29)) := hb1.alloc hb1.size _
    have ho : OT w.heap.size (w2.heap.size + 1) (w2.alloc (.cells #[] 29)) (.slice (some ⟨w2.heap.size, 0, none⟩) 0 0) ((mkT n t).take 0) := ⟨[], OV.made _ _ hb1.size, fun k hk => by simp [Value.ownBlock] at hk; omega, Rows.nil _ _ _ _⟩
    have hsz : w2.heap.size + 1 ≤ (w2.alloc (.cells #[] 29)).heap.size := by simp
    have hsz0 : w.heap.size ≤ w2.heap.size + 1 := by have := hb1.size; omega
    generalize w2.alloc (.cells #[] 29) = w3 at *
    generalize Value.slice (some ⟨w2.heap.size, 0, none⟩) 0 0 = v0 at *
    clear hb1
    go_loopw [9, 10] (fun ov iv wr => ∃ k S1 : Nat, k ≤ n ∧ iv = .int .i64 k ∧ w.heap.size ≤ S1 ∧ S1 ≤ wr.heap.size ∧ OT w.heap.size S1 wr ov ((mkT n t).take k) ∧ Below w.heap.size w wr) (fun _ iv _ => n - (intOf iv).toNat)
    case atStart => exact ⟨0, _, Nat.zero_le _, rfl, hsz0, hsz, ho, hb⟩
    case round =>
      clear ho hb hsz hsz0
      obtain ⟨k, S1, hk, rfl, hS1, hS2, ho, hb⟩ := hrel
      by_cases hlt : k < n
      · obtain ⟨rs, h1, h3, hl⟩ := ho.parts
        rw [List.length_take, mkT_len] at hl
        have hrl : rs.length ≤ 1099511627776 := by omega
        have hki : (k : Int) < (n : Int) := by omega
        have ht2 := ht.later hb
        have hri := ht2.rowRead k hlt
        have r1 := ht2.row k hlt
        have HRL := Lib.hid (mkT_rowlen n t k hlt)
        have HTK : Hid ((mkT n t).take (k + 1) = (mkT n t).take k ++ [rowAt (mkT n t) k]) := take_snocT (by rw [mkT_len]; exact hlt)
        have H3 := Lib.hid h3
        have H1 := Lib.hid h1
        have HRI := Lib.hid hri
        clear ho hl h1 h3 hri ht2
        go_wp2_with (first | (go_at_call 65; refine (l00Own_any _ _ _ HRI.out (by rw [HRL.out]; omega)).mono ?_; rintro e w4 ⟨u, rfl, hou, hb4⟩; obtain ⟨ua, uc, rfl⟩ := hou.slice; have h1 := H1.out.later hb4; have h3 : Rows w.heap.size S1 w4 _ rs _ := H3.out.keep (fun q _ h2 _ => hb4.block q (by omega)); have hz4 := hb4.size) | (at_builtin; refine wpl_app Try.underlying24 info_row rfl (by omega) rfl _ _ rfl w.heap.size _ _ rfl (h1.alloc _) _ _ _ rfl (World.cell?_alloc_at _ _ _ _ rfl) rfl (by omega) (by simp; omega) ?_; intro v' w5 hv hgr))
        have hp := OT.push h1 h3 (by omega) hS1 (hou.mono hS2) hv hgr
        rw [← HTK.out] at hp
        have hb5 : Below w.heap.size w w5 := (hb.trans (hb4.mono hb.size)).trans hp.2
        go_roundw
        case rel => exact ⟨k + 1, _, by omega, by go_num, by have := hp.2.size; omega, Nat.le_refl _, hp.1, hb5⟩
        case measure => first | (simp [intOf]; done) | (simp [intOf]; omega)
      · obtain rfl : k = n := by omega
        rw [List.take_of_length_le (by rw [mkT_len]; omega)] at ho
        go_wp2_with fail
        go_ret2
        exact SPost.mk 1 _ t (ht.later hb) (Agr.refl _ _ _) (Below.chgR hb) (Nat.pow_pos (by omega)) (.inr ⟨by omega, t, ho.mono hS2, HY.out⟩)
end Go.Proofs.Ythcnhkjiojeemaa
