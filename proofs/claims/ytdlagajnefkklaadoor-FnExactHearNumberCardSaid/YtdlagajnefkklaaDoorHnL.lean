/- HearNumber: the law. -/
import Derived.Test.YtdlagajnefkklaaDoorHn
import Derived.Test.YtdlagajnefkklaaDoorFrameS
namespace Go.Proofs.YtdlagajnefkklaaDoor
open Go.RowKit

set_option maxHeartbeats 2000000 in
theorem lawHn_any (a b t : ByteArray) (w : World) (ha : a.size ≤ maxLen) (hb : b.size ≤ maxLen) (ht : t.size ≤ maxLen) (hM : ∃ m, w.cell? ⟨0, 0, none⟩ = some (.int .i64 m)) :
    Calls Tryd.prog 5 #[.agg #[.string a, .string b], .string t] w fun e w' => e = .returned (.bool true) ∧ Below w.heap.size w w' := by
  have hb0 : Below w.heap.size w (w.alloc (.cells #[.string a, .string b] 33)) := (Below.refl _ _).alloc (Nat.le_refl _) _
  have c0 : (w.alloc (.cells #[.string a, .string b] 33)).cell? ⟨w.heap.size, 0, none⟩ = some (.string a) := World.cell?_alloc_at _ _ _ _ rfl
  have c1 : (w.alloc (.cells #[.string a, .string b] 33)).cell? ⟨w.heap.size, 1, none⟩ = some (.string b) := World.cell?_alloc_at _ _ _ _ rfl
  have hlt : w.heap.size < (w.alloc (.cells #[.string a, .string b] 33)).heap.size := by simp
  by_cases hts : t.size ≤ 1048576
  case neg =>
    have b0 : (1048576 : Int) < (t.size : Int) := by omega
    go_enter Tryd.func5, Tryd.ntmps5
    go_wp2_with fail
    go_ret
    exact ⟨rfl, hb0⟩
  by_cases hs : a.size + b.size ≤ 1048576
  · obtain ⟨n, r, hV⟩ : ∃ (n : Nat) (r : Bool), hnV (hnO a b t) = .tuple #[.int .i64 n, .bool r] := ⟨_, _, rfl⟩
    have HM : Hid (∀ wx, Below w.heap.size w wx → ∃ m, wx.cell? ⟨0, 0, none⟩ = some (.int .i64 m)) := fun wx h => by
      obtain ⟨m, hm⟩ := hM
      exact ⟨m, (h.cell (p := ⟨0, 0, none⟩) (World.block_lt_of_cell? w _ hm)).trans hm⟩
    have HI : Hid (∀ wx, Below w.heap.size w wx → Calls Tryd.prog 18 #[.agg #[.string a, .string b], .string t] wx fun e w' => e = .returned (.tuple #[.int .i64 n, .bool r]) ∧ Below wx.heap.size wx w') := fun wx h => by rw [← hV]; exact implHn_any a b t wx hs hts (HM.out wx h)
    have HP : Hid (∀ wx, Calls Tryd.prog 16 #[.agg #[.string a, .string b], .string t] wx fun e w' => e = .returned (.tuple #[.int .i64 n, .bool r]) ∧ Below wx.heap.size wx w') := fun wx => by rw [← hV]; exact specHn_any a b t wx hs hts
    have b0 : ¬ (1048576 : Int) < (t.size : Int) := by omega
    clear hV hM
    go_enter Tryd.func5, Tryd.ntmps5
    go_wp2_with fail
    generalize w.alloc (.cells #[.string a, .string b] 33) = w0 at *
    refine (szSpeech_yes _ _ _ hs).mono ?_
    rintro e w1 ⟨rfl, hb1⟩
    rw [← hb1.cell (p := ⟨w.heap.size, 0, none⟩) hlt] at c0
    rw [← hb1.cell (p := ⟨w.heap.size, 1, none⟩) hlt] at c1
    have hb := hb0.trans (hb1.mono (by omega))
    have hlt1 : w.heap.size < w1.heap.size := by have := hb1.size; omega
    clear hb0 hb1 hlt
    go_wp2_with fail
    refine (toSpeech_any _ _ _).mono ?_
    rintro e w2 ⟨rfl, hb1⟩
    rw [← hb1.cell (p := ⟨w.heap.size, 0, none⟩) hlt1] at c0
    rw [← hb1.cell (p := ⟨w.heap.size, 1, none⟩) hlt1] at c1
    have hb := hb.trans (hb1.mono (by omega))
    have hlt2 : w.heap.size < w2.heap.size := by have := hb1.size; omega
    clear hb1 hlt1
    go_wp2_with fail
    refine (HP.out _).mono ?_
    rintro e w3 ⟨rfl, hb1⟩
    rw [← hb1.cell (p := ⟨w.heap.size, 0, none⟩) hlt2] at c0
    rw [← hb1.cell (p := ⟨w.heap.size, 1, none⟩) hlt2] at c1
    have hb := hb.trans (hb1.mono (by omega))
    have hlt3 : w.heap.size < w3.heap.size := by have := hb1.size; omega
    clear hb1 hlt2
    go_wp2_with fail
    refine (toSpeech_any _ _ _).mono ?_
    rintro e w4 ⟨rfl, hb1⟩
    have hb := hb.trans (hb1.mono (by omega))
    have hlt4 : w.heap.size < w4.heap.size := by have := hb1.size; omega
    clear hb1 hlt3
    go_wp2_with fail
    refine (HI.out _ hb).mono ?_
    rintro e w5 ⟨rfl, hb1⟩
    have hb := hb.trans (hb1.mono (by omega))
    clear hb1
    go_wp2_with fail
    go_ret
    exact ⟨rfl, hb⟩
  · go_enter Tryd.func5, Tryd.ntmps5
    go_wp2_with fail
    generalize w.alloc (.cells #[.string a, .string b] 33) = w0 at *
    refine (szSpeech_no _ _ _ ha hb hs).mono ?_
    rintro e w1 ⟨rfl, hb1⟩
    have hb := hb0.trans (hb1.mono (by omega))
    go_wp2_with fail
    go_ret
    exact ⟨rfl, hb⟩
end Go.Proofs.YtdlagajnefkklaaDoor
