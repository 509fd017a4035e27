/- A text cut at its marks: the reference's l01Cut. -/
import Derived.Test.YtdlagajnefkklaaDoorCut
import Derived.Test.YtdlagajnefkklaaDoorStrs
namespace Go.Proofs.YtdlagajnefkklaaDoor
open Go.RowKit

theorem u8_45t {c : UInt8} (h : c = 45) : ((c.toNat : Int) == 45) = true := by subst h; rfl
theorem u8_45f {c : UInt8} (h : ¬ c = 45) : ((c.toNat : Int) == 45) = false := by
  rw [beq_eq_false_iff_ne]; exact fun e => h (UInt8.toNat_inj.1 (by show c.toNat = 45; omega))
def CutPost (s : ByteArray) (w : World) (e : Ending) (w' : World) : Prop := ∃ v, e = .returned v ∧ OS w.heap.size w' v (cutS s) ∧ Below w.heap.size w w'
set_option maxHeartbeats 2000000 in
theorem l01Cut_any (s : ByteArray) (w : World) (hs : s.size ≤ 1048576) :
    Calls Tryd.prog 22 #[.string s, .int .u8 45] w (CutPost s w) := by
  have hb1 : Below w.heap.size w (w.alloc (.cells #[] 9)) := (Below.refl _ _).alloc (Nat.le_refl _) _
  have ho1 : OS w.heap.size (w.alloc (.cells #[] 9)) (.slice (some ⟨w.heap.size, 0, none⟩) 0 0) [] := OV.made _ _ (Nat.le_refl _)
  go_enter Tryd.func22, Tryd.ntmps22
  go_wp2_with fail
  generalize w.alloc (.cells #[] 9) = w1 at *
  generalize Value.slice (some ⟨w.heap.size, 0, none⟩) 0 0 = v1 at *
  go_loopw [5, 6, 7] (fun ov fv kv wr => ∃ (o : List ByteArray) (f k : Nat), f ≤ k ∧ k ≤ s.size + 1 ∧ fv = .int .i64 f ∧ kv = .int .i64 k ∧ o.length ≤ k ∧ Hid (if k ≤ s.size then CutI s o f k else o = cutS s) ∧ OS w.heap.size wr ov o ∧ Below w.heap.size w wr) (fun _ _ kv _ => s.size + 1 - (intOf kv).toNat)
  case atStart => exact ⟨[], 0, 0, Nat.le_refl _, by omega, rfl, rfl, Nat.le_refl _, (by unfold Hid; rw [if_pos (by omega)]; exact CutI.start s), ho1, hb1⟩
  case round =>
    clear ho1 hb1
    obtain ⟨o, f, k, hf, hk, rfl, rfl, hol, HI, ho, hb⟩ := hrel
    by_cases hlt : k ≤ s.size
    · have HC : Hid (CutI s o f k) := by have := HI.out; rw [if_pos hlt] at this; exact this
      have hsz := hb.size
      have hfl : (ss o).length ≤ 1099511627776 := by rw [ss_length]; omega
      clear HI
      by_cases hke : k = s.size
      · subst hke
        have HE : Hid (ss (cutS s) = ss o ++ [.string (s.extract f s.size)]) := by unfold Hid; rw [← HC.out.end]; unfold ss; rw [List.map_append]; rfl
        have HE2 : Hid ((cutS s).length = o.length + 1) := by unfold Hid; rw [← HC.out.end]; simp
        go_wp2_with (at_builtin; refine wpl_app Tryd.underlying43 info_str rfl (by omega) rfl _ _ rfl w.heap.size _ (ss o) rfl (OV.alloc ho _) _ _ _ rfl (World.cell?_alloc_at _ _ _ _ rfl) rfl hfl (by simp; omega) ?_; intro v' w5 ho5 hgr)
        have hbs : Below w.heap.size w w5 := own_below (hb.alloc hsz _) (OV.alloc ho _) hgr (by simp; omega)
        go_roundw
        case rel => exact ⟨cutS s, s.size + 1, s.size + 1, Nat.le_refl _, Nat.le_refl _, by go_num, by go_num, by rw [HE2.out]; omega, (by unfold Hid; rw [if_neg (by omega)]), by unfold OS; rw [HE.out]; exact ho5, hbs⟩
        case measure => first | (simp [intOf]; done) | (simp [intOf]; omega)
      · have hks : k < s.size := by omega
        have f0 : (k : Int) < (s.size : Int) := by omega
        have b0 : ((k : Int) == s.size) = false := by simp; omega
        by_cases hc : s[k] = 45
        · have b1 := u8_45t hc
          have HE : Hid (ss (o ++ [s.extract f k]) = ss o ++ [.string (s.extract f k)]) := by unfold Hid ss; rw [List.map_append]; rfl
          have HN := Lib.hid (HC.out.cut hks hc)
          clear hc
          go_wp2_with (at_builtin; refine wpl_app Tryd.underlying43 info_str rfl (by omega) rfl _ _ rfl w.heap.size _ (ss o) rfl (OV.alloc ho _) _ _ _ rfl (World.cell?_alloc_at _ _ _ _ rfl) rfl hfl (by simp; omega) ?_; intro v' w5 ho5 hgr)
          have hbs : Below w.heap.size w w5 := own_below (hb.alloc hsz _) (OV.alloc ho _) hgr (by simp; omega)
          go_roundw
          case rel => exact ⟨o ++ [s.extract f k], k + 1, k + 1, Nat.le_refl _, by omega, by go_num, by go_num, by simp; omega, (by unfold Hid; rw [if_pos (by omega)]; exact HN.out), by unfold OS; rw [HE.out]; exact ho5, hbs⟩
          case measure => first | (simp [intOf]; done) | (simp [intOf]; omega)
        · have b1 := u8_45f hc
          have HN := Lib.hid (HC.out.step hf hks hc)
          clear hc
          go_wp2_with fail
          go_roundw
          case rel => exact ⟨o, f, k + 1, by omega, by omega, rfl, by go_num, by omega, (by unfold Hid; rw [if_pos (by omega)]; exact HN.out), ho, hb⟩
          case measure => first | (simp [intOf]; done) | (simp [intOf]; omega)
    · have HE : Hid (o = cutS s) := by have := HI.out; rw [if_neg hlt] at this; exact this
      go_wp2_with fail
      go_ret
      exact ⟨_, rfl, by rw [← HE.out]; exact ho, hb⟩
end Go.Proofs.YtdlagajnefkklaaDoor
