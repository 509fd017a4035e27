/- The law of SpeakNumber, for all arguments. -/
import Derived.Test.YtdlagajnefkklaaSpkS
namespace Go.Proofs.Ytdlagajnefkklaa
open Go.RowKit

theorem wf_bd {z : Int} (h : (Lit.int .i64 z).wf = true) : -9223372036854775808 ≤ z ∧ z ≤ 9223372036854775807 := by
  simp [Lit.wf, IntKind.min, IntKind.max, IntKind.bits, IntKind.signed] at h; omega
set_option maxHeartbeats 2000000 in
theorem lawSpk_any (a b : ByteArray) (n k : Int) (w : World) (ha : a.size ≤ maxLen) (hb : b.size ≤ maxLen) (hn : -9223372036854775808 ≤ n ∧ n ≤ 9223372036854775807) (hk : -9223372036854775808 ≤ k ∧ k ≤ 9223372036854775807) :
    Calls Try.prog 10 #[.agg #[.string a, .string b], .int .i64 n, .int .i64 k] w fun e w' => e = .returned (.bool true) ∧ Below w.heap.size w w' := by
  have hb0 : Below w.heap.size w (w.alloc (.cells #[.string a, .string b] 23)) := (Below.refl _ _).alloc (Nat.le_refl _) _
  have c0 : (w.alloc (.cells #[.string a, .string b] 23)).cell? ⟨w.heap.size, 0, none⟩ = some (.string a) := World.cell?_alloc_at _ _ _ _ rfl
  have c1 : (w.alloc (.cells #[.string a, .string b] 23)).cell? ⟨w.heap.size, 1, none⟩ = some (.string b) := World.cell?_alloc_at _ _ _ _ rfl
  have hlt : w.heap.size < (w.alloc (.cells #[.string a, .string b] 23)).heap.size := by simp
  by_cases hs : a.size + b.size ≤ 1048576
  · obtain ⟨t, ht⟩ : ∃ t, t = spS a b n k := ⟨_, rfl⟩
    obtain ⟨r, hr⟩ : ∃ r, r = spB a b n k := ⟨_, rfl⟩
    have HI : Hid (∀ wx, Calls Try.prog 35 #[.agg #[.string a, .string b], .int .i64 n, .int .i64 k] wx fun e w' => e = .returned (.tuple #[.string t, .bool r]) ∧ Below wx.heap.size wx w') := fun wx => by rw [ht, hr]; exact implSp_any a b n k wx hs hn hk
    have HP : Hid (∀ wx, Calls Try.prog 34 #[.agg #[.string a, .string b], .int .i64 n, .int .i64 k] wx fun e w' => e = .returned (.tuple #[.string t, .bool r]) ∧ Below wx.heap.size wx w') := fun wx => by rw [ht, hr]; exact specSp_any a b n k wx hs hn hk
    have e1 := str_eq t
    clear ht hr
    go_enter Try.func10, Try.ntmps10
    go_wp2_with fail
    generalize w.alloc (.cells #[.string a, .string b] 23) = w0 at *
    refine (szSpeech_yes _ _ _ hs).mono ?_
    rintro e w1 ⟨rfl, hb1⟩
    rw [← hb1.cell (p := ⟨w.heap.size, 0, none⟩) hlt] at c0
    rw [← hb1.cell (p := ⟨w.heap.size, 1, none⟩) hlt] at c1
    have hb := hb0.trans (hb1.mono (by omega))
    have hlt1 : w.heap.size < w1.heap.size := by have := hb1.size; omega
    clear hb0 hb1 hlt
    go_wp2_with fail
    refine (toSpeech_any _ _ _).mono ?_
    rintro e w2 ⟨rfl, hb1⟩
    rw [← hb1.cell (p := ⟨w.heap.size, 0, none⟩) hlt1] at c0
    rw [← hb1.cell (p := ⟨w.heap.size, 1, none⟩) hlt1] at c1
    have hb := hb.trans (hb1.mono (by omega))
    have hlt2 : w.heap.size < w2.heap.size := by have := hb1.size; omega
    clear hb1 hlt1
    go_wp2_with fail
    refine (HP.out _).mono ?_
    rintro e w3 ⟨rfl, hb1⟩
    rw [← hb1.cell (p := ⟨w.heap.size, 0, none⟩) hlt2] at c0
    rw [← hb1.cell (p := ⟨w.heap.size, 1, none⟩) hlt2] at c1
    have hb := hb.trans (hb1.mono (by omega))
    have hlt3 : w.heap.size < w3.heap.size := by have := hb1.size; omega
    clear hb1 hlt2
    go_wp2_with fail
    refine (toSpeech_any _ _ _).mono ?_
    rintro e w4 ⟨rfl, hb1⟩
    have hb := hb.trans (hb1.mono (by omega))
    have hlt4 : w.heap.size < w4.heap.size := by have := hb1.size; omega
    clear hb1 hlt3
    go_wp2_with fail
    refine (HI.out _).mono ?_
    rintro e w5 ⟨rfl, hb1⟩
    have hb := hb.trans (hb1.mono (by omega))
    clear hb1
    go_wp2_with fail
    go_ret
    exact ⟨rfl, hb⟩
  · go_enter Try.func10, Try.ntmps10
    go_wp2_with fail
    generalize w.alloc (.cells #[.string a, .string b] 23) = w0 at *
    refine (szSpeech_no _ _ _ ha hb hs).mono ?_
    rintro e w1 ⟨rfl, hb1⟩
    have hb := hb0.trans (hb1.mono (by omega))
    go_wp2_with fail
    go_ret
    exact ⟨rfl, hb⟩
end Go.Proofs.Ytdlagajnefkklaa
