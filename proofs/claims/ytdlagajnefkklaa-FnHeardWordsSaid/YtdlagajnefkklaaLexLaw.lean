/- The law of IsLexicon: for all arguments. -/
import Derived.Test.YtdlagajnefkklaaLex
namespace Go.Proofs.Ytdlagajnefkklaa
open Go.RowKit
set_option maxHeartbeats 400000 in
theorem specLex_any (v : Value) (l : List ByteArray) (w : World) (hx : RS w v l) (hm : l.length ≤ 1048576) (hz : ∀ k, k < l.length → (sAt l k).size ≤ 1048576) :
    Calls Try.prog 16 #[v] w fun e w' => e = .returned (.bool (lexB l)) ∧ Below w.heap.size w w' := by
  go_enter Try.func16, Try.ntmps16
  go_wp2_with (go_at_call 40; refine (l07Lexicon_any _ _ _ hx hm hz).mono ?_; rintro e w1 ⟨rfl, hb1⟩)
  go_ret
  exact ⟨rfl, hb1⟩
set_option maxHeartbeats 1000000 in
theorem lawLex_any (v : Value) (l : List ByteArray) (w : World) (hx : RS w v l) (hm : l.length ≤ maxLen) (hz : ∀ k, k < l.length → (sAt l k).size ≤ maxLen) :
    Calls Try.prog 4 #[v] w fun e w' => e = .returned (.bool true) ∧ Below w.heap.size w w' := by
  by_cases hs : ((l.length + szS l : Nat) : Int) ≤ 1048576
  · have hm' : l.length ≤ 1048576 := by omega
    have hz' : Hid (∀ k, k < l.length → (sAt l k).size ≤ 1048576) := fun k hk => by have := szS_at l k hk; omega
    have HS := Lib.hid hs
    have HZ := Lib.hid hz
    clear hs hz hm
    go_enter Try.func4, Try.ntmps4
    go_wp2_with fail
    refine (szStringS_yes _ _ _ _ hx (by omega) HS.out).mono ?_
    rintro e w' ⟨r, rfl, HR, hr, rfl⟩
    go_wp2_with fail
    refine (toStringS_any _ _ _ hx hm').mono ?_
    rintro e w1 ⟨t0, rfl, o, hb⟩
    go_wp2_with fail
    refine (specLex_any _ _ _ o.read hm' hz'.out).mono ?_
    rintro e w2 ⟨rfl, hb2⟩
    have hb := hb.trans (hb2.mono hb.size)
    clear hb2 o
    go_wp2_with fail
    refine (toStringS_any _ _ _ (hx.later hb) hm').mono ?_
    rintro e w3 ⟨x0, rfl, ox, hb2⟩
    have hb := hb.trans (hb2.mono hb.size)
    clear hb2
    go_wp2_with fail
    refine (implLex_any _ _ _ ox.read hm' hz'.out).mono ?_
    rintro e w' ⟨rfl, rfl⟩
    go_wp2_with fail
    refine (toStringS_any _ _ _ (hx.later hb) hm').mono ?_
    rintro e w4 ⟨t1, rfl, ot, hb2⟩
    have ox := ox.later hb2
    have hb := hb.trans (hb2.mono hb.size)
    clear hb2
    go_wp2_with fail
    refine (eqStringS_yes _ _ _ _ ox.read ot.read (by omega)).mono ?_
    rintro e w5 ⟨rfl, hb2⟩
    have hb := hb.trans (hb2.mono hb.size)
    clear hb2
    go_wp2_with fail
    go_ret
    exact ⟨rfl, hb⟩
  · go_enter Try.func4, Try.ntmps4
    go_wp2_with fail
    refine (szStringS_no _ _ _ _ hx (by omega) hm hz (by omega)).mono ?_
    rintro e w' ⟨rfl, rfl⟩
    go_wp2_with fail
    go_ret
    exact ⟨rfl, Below.refl _ _⟩
end Go.Proofs.Ytdlagajnefkklaa
