/- l04DrawOrder: a drawn order of n things is a permutation of 0..n-1. -/
import Derived.Test.YthcnhkjiojeemaaDrawO
namespace Go.Proofs.Ythcnhkjiojeemaa
open Go.RowKit

set_option maxHeartbeats 1000000 in
theorem drawOrderQ_any (p m n : Nat) (w : World) (h : Src p m w) (hm : m + n ≤ 1048576) (hn : 1 ≤ n ∧ n ≤ 200) :
    Calls Try.prog 58 #[.pointer (some ⟨p, 0, none⟩), .int .i64 n] w (DrawPost p m n w) := by
  have hp := h.lt
  go_enter Try.func58, Try.ntmps58
  go_wp2_with fail
  go_loopw [5, 6] (fun ov iv wr => ∃ i : Nat, i ≤ n ∧ iv = .int .i64 i ∧ OI w.heap.size wr ov (upN i) ∧ Below w.heap.size w wr) (fun _ iv _ => n - (intOf iv).toNat)
  case atStart => exact ⟨0, Nat.zero_le _, rfl, OK.made _ _ _ (Nat.le_refl _), (Below.refl _ _).alloc (Nat.le_refl _) _⟩
  case round =>
    obtain ⟨i, hi, rfl, ho, hb⟩ := hrel
    by_cases hlt : i < n
    · have hl : (upN i).length ≤ 1099511627776 := by rw [upN_len]; omega
      have hz := hb.size
      go_wp2_with (at_builtin; refine wpl_app_i64 rfl _ _ rfl w.heap.size _ _ rfl (ho.alloc _) _ _ _ rfl (World.cell?_alloc_at _ _ _ _ rfl) hl (by simp; omega) ?_; intro v' w5 ho5 hgr)
      rw [upN_snoc] at ho5
      go_wp2_with fail
      go_roundw
      case rel => exact ⟨i + 1, by omega, by go_num, ho5, own_below (hb.alloc hz _) (ho.alloc _) hgr (by simp; omega)⟩
      case measure => first | (simp [intOf]; done) | (simp [intOf]; omega)
    · have hin : i = n := by omega
      subst hin
      have hs := h.below hb hp
      clear h
      obtain ⟨a, c, rfl⟩ := ho.slice
      have hz0 : Hid (∀ b ∈ vb (.slice a (upN i).length c), w.heap.size ≤ b) := fun b hb => (ho.vb b hb).1
      have HN := Lib.hid (upN_len i)
      have hz := hb.size
      have HC : Hid (Chg [p] w wr) := (Below.chg hb).mono (by simp)
      clear hb hlt hi
      go_wp2_with fail
      go_loopw [7] (fun jv wr2 => ∃ (j : Nat) (l : List Int), j < i ∧ jv = .int .i64 j ∧ Hid (l.length = i) ∧ Hid (l.Perm (upN i)) ∧ OI w.heap.size wr2 (.slice a (upN i).length c) l ∧ Src p (m + (i - j)) wr2 ∧ Hid (Chg [p] w wr2)) (fun jv _ => (intOf jv).toNat)
      case atStart => exact ⟨i - 1, upN i, by omega, by rw [show ((i - 1 : Nat) : Int) = (i : Int) - 1 by omega], HN, List.Perm.refl _, ho, hs.mono (by omega), HC⟩
      case round =>
        clear ho hs HC hz
        obtain ⟨j, l, hj, rfl, HL, HP, ho, hs, HC⟩ := hrel
        have hz := HC.out.size
        by_cases h0 : j = 0
        · subst h0
          go_wp2_with fail
          go_ret
          exact ⟨_, l, rfl, ho, HP.out, hs.mono (by omega), HC.out⟩
        · go_wp2_with fail
          refine (pick_any p _ ((j : Int) + 1) _ hs (by omega) (by omega)).mono ?_
          rintro e w3 ⟨z, rfl, hzz, hs3, hc⟩
          obtain ⟨k, rfl⟩ := Int.eq_ofNat_of_zero_le hzz.1
          have ho3 := ho.chg hc fun b hb hb2 => by
            have := hz0.out b hb
            have : b = p := by simpa using hb2
            omega
          have HC3 : Hid (Chg [p] w w3) := HC.out.trans hc
          have hz3 := HC3.out.size
          clear ho hs HC hc
          have hkl : k < l.length := by have := HL.out; omega
          have hjl : j < l.length := by have := HL.out; omega
          obtain ⟨g, e1, _, hc1⟩ := ho3.at j hjl
          obtain ⟨g', e2, _, hc2⟩ := ho3.at k hkl
          subst e1
          simp only [Option.some.injEq, Addr.mk.injEq, and_true] at e2
          subst e2
          have hz1 := ho3.frozen j
          have hz2 := ho3.frozen k
          have hst := ho3.stored k (l.getD j 0)
          have hst2 := hst.1.stored j (l.getD k 0)
          have HG : Hid (w.heap.size ≤ g) := (hz0.out g (by simp [vb, Value.ownBlock]))
          have HST : Hid (OI w.heap.size ((w3.setCell ⟨g, k, none⟩ (.int .i64 (l.getD j 0))).setCell ⟨g, j, none⟩ (.int .i64 (l.getD k 0))) (.slice (some ⟨g, 0, none⟩) (upN i).length c) (swq l k j)) := hst2.1
          have HPM := Lib.hid (swq_perm l k j hkl hjl)
          have HLN := Lib.hid (swq_len l k j)
          have HK : Hid (Src p (m + (i - j) + 1) ((w3.setCell ⟨g, k, none⟩ (.int .i64 (l.getD j 0))).setCell ⟨g, j, none⟩ (.int .i64 (l.getD k 0)))) := hs3.keep (fun b hb => by
            have := HG.out
            rw [heap_setCell_other _ _ _ _ (by show b ≠ g; omega), heap_setCell_other _ _ _ _ (by show b ≠ g; omega)]) (by simp)
          have HC4 : Hid (Chg [p] w ((w3.setCell ⟨g, k, none⟩ (.int .i64 (l.getD j 0))).setCell ⟨g, j, none⟩ (.int .i64 (l.getD k 0)))) :=
            ⟨HC3.out.os, HC3.out.tape, HC3.out.output, by simpa using hz3, fun b hb hn => by
              have := HG.out
              rw [heap_setCell_other _ _ _ _ (by show b ≠ g; omega), heap_setCell_other _ _ _ _ (by show b ≠ g; omega)]
              exact HC3.out.block b hb hn⟩
          have hc5 : (w3.setCell ⟨g, k, none⟩ (.int .i64 (l.getD j 0))).cell? ⟨g, j, none⟩ = some (.int .i64 ((l.set k (l.getD j 0)).getD j 0)) := by
            obtain ⟨g', e, _, h⟩ := hst.1.at j (by simpa using hjl)
            simp only [Option.some.injEq, Addr.mk.injEq, and_true] at e
            subst e; exact h
          generalize (l.set k (l.getD j 0)).getD j 0 = zz at hc5
          clear hst hst2 hs3
          generalize l.getD k 0 = zk at *
          generalize l.getD j 0 = zj at *
          have i1 : (k : Int) < ((upN i).length : Int) := by rw [HN.out]; omega
          have i2 : (j : Int) < ((upN i).length : Int) := by rw [HN.out]; omega
          go_wp2_with fail
          go_roundw
          case rel => exact ⟨j - 1, swq l k j, by omega, by rw [show ((j - 1 : Nat) : Int) = (j : Int) - 1 by omega], HLN.out.trans HL.out, HPM.out.trans HP.out, HST.out, HK.out.mono (by omega), HC4⟩
          case measure => first | (simp [intOf]; done) | (simp [intOf]; omega)
end Go.Proofs.Ythcnhkjiojeemaa
