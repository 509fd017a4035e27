/- bits.OnesCount of a small set. -/
import Derived.Test.YtdkheeocglfogaaPop
import Derived.Test.YtdkheeocglfogaaRead
namespace Go.Proofs.Ytdkheeocglfogaa
open Go.RowKit

theorem and_k (x c : Nat) (d : Int) (hx : x < 1000000000000) (hc : c < 18446744073709551616) (e : (c : Int) = d) : bits .and .u64 (x : Int) d = ((Nat.land x c : Nat) : Int) := by
  rw [← e]; exact bits_and_u64_nat x c (by omega) hc
theorem wrap_add (a b : Nat) (ha : a < 1000000000000) (hb : b < 1000000000000) : IntKind.u64.wrap ((a : Int) + (b : Int)) = ((a + b : Nat) : Int) := by
  rw [IntKind.wrap_u64]; omega
theorem land_le (a b : Nat) : Nat.land a b ≤ a := Nat.and_le_left
theorem stA (x : Nat) (h : x < 1000000) : IntKind.u64.wrap (bits .and .u64 ((x : Int) / 2) 6148914691236517205 + bits .and .u64 (x : Int) 6148914691236517205) = (pcA x : Nat) ∧ pcA x < 2000000 := by
  have h1 := land_le (x / 2) 6148914691236517205
  have h2 := land_le x 6148914691236517205
  have e : ((x : Int) / 2) = ((x / 2 : Nat) : Int) := by omega
  rw [e, and_k (x / 2) 6148914691236517205 6148914691236517205 (by omega) (by omega) rfl, and_k x 6148914691236517205 6148914691236517205 (by omega) (by omega) rfl, wrap_add _ _ (by omega) (by omega)]
  exact ⟨rfl, by unfold pcA; omega⟩
theorem stB (x : Nat) (h : x < 2000000) : IntKind.u64.wrap (bits .and .u64 ((x : Int) / 4) 3689348814741910323 + bits .and .u64 (x : Int) 3689348814741910323) = (pcB x : Nat) ∧ pcB x < 4000000 := by
  have h1 := land_le (x / 4) 3689348814741910323
  have h2 := land_le x 3689348814741910323
  have e : ((x : Int) / 4) = ((x / 4 : Nat) : Int) := by omega
  rw [e, and_k (x / 4) 3689348814741910323 3689348814741910323 (by omega) (by omega) rfl, and_k x 3689348814741910323 3689348814741910323 (by omega) (by omega) rfl, wrap_add _ _ (by omega) (by omega)]
  exact ⟨rfl, by unfold pcB; omega⟩
theorem stC (x : Nat) (h : x < 4000000) : bits .and .u64 (IntKind.u64.wrap ((x : Int) / 16 + (x : Int))) 1085102592571150095 = (pcC x : Nat) ∧ pcC x < 8000000 := by
  have h1 := land_le (x / 16 + x) 1085102592571150095
  have e : ((x : Int) / 16) = ((x / 16 : Nat) : Int) := by omega
  rw [e, wrap_add _ _ (by omega) (by omega), and_k (x / 16 + x) 1085102592571150095 1085102592571150095 (by omega) (by omega) rfl]
  exact ⟨rfl, by unfold pcC; omega⟩
theorem stD (x : Nat) (h : x < 8000000) : IntKind.u64.wrap ((x : Int) + (x : Int) / 256) = (pcD x : Nat) ∧ pcD x < 16000000 := by
  have e : ((x : Int) / 256) = ((x / 256 : Nat) : Int) := by omega
  rw [e, wrap_add _ _ (by omega) (by omega)]
  exact ⟨rfl, by unfold pcD; omega⟩
theorem stE (x : Nat) (h : x < 16000000) : IntKind.u64.wrap ((x : Int) + (x : Int) / 65536) = (pcE x : Nat) ∧ pcE x < 32000000 := by
  have e : ((x : Int) / 65536) = ((x / 65536 : Nat) : Int) := by omega
  rw [e, wrap_add _ _ (by omega) (by omega)]
  exact ⟨rfl, by unfold pcE; omega⟩
theorem stF (x : Nat) (h : x < 32000000) : IntKind.u64.wrap ((x : Int) + (x : Int) / 4294967296) = (pcF x : Nat) ∧ pcF x < 64000000 := by
  have e : ((x : Int) / 4294967296) = ((x / 4294967296 : Nat) : Int) := by omega
  rw [e, wrap_add _ _ (by omega) (by omega)]
  exact ⟨rfl, by unfold pcF; omega⟩
theorem stC2 (x : Nat) (h : x < 4000000) : bits .and .u64 ((x : Int) / 16 + (x : Int)) 1085102592571150095 = (pcC x : Nat) := by
  have h1 := stC x h
  have e : ((x : Int) / 16) = ((x / 16 : Nat) : Int) := by omega
  rw [e, wrap_add _ _ (by omega) (by omega)] at h1
  rw [e, show ((x / 16 : Nat) : Int) + (x : Int) = ((x / 16 + x : Nat) : Int) by omega]
  exact h1.1
theorem stG (x : Nat) (h : x < 64000000) : bits .and .i64 (x : Int) 127 = (x % 128 : Nat) := by
  have := bits_mask .i64 32 (by decide) (fun n h0 h1 => by rw [IntKind.wrap_i64]; have : (2 : Int) ^ 32 = 4294967296 := by decide
                                                           omega) 7 (by decide) (x : Int) (by omega) (by have : (2 : Int) ^ 32 = 4294967296 := by decide
                                                                                                         omega)
  rw [show (2 : Int) ^ 7 - 1 = 127 by decide, show (2 : Int) ^ 7 = 128 by decide] at this
  rw [this]; omega
set_option maxRecDepth 100000 in
set_option maxHeartbeats 2000000 in
theorem ones64_any (n : Nat) (p : Nat → Bool) (w : World) (hn : n ≤ 18) :
    Calls Try.prog 64 #[.int .u64 (msk n p : Nat)] w fun e w' => e = .returned (.int .i64 (cnt n p : Nat)) ∧ w = w' := by
  have hm := msk_20 hn p
  have hp := pc_msk n p hn
  generalize msk n p = m at *
  go_enter Try.func64, Try.ntmps64
  have a1 := stA m (by omega)
  have a2 := stB _ a1.2
  have a3 := stC _ a2.2
  have a7 := stC2 _ a2.2
  have a4 := stD _ a3.2
  have a5 := stE _ a4.2
  have a6 := stF _ a5.2
  have a8 := stG _ a6.2
  go_wp2_with fail
  go_ret
  rw [← hp]
  exact ⟨by show Ending.returned (.int .i64 _) = _; unfold pcN; rw [Int.natCast_emod]; rfl, rfl⟩
set_option maxHeartbeats 2000000 in
theorem ones_any (n : Nat) (p : Nat → Bool) (w : World) (hn : n ≤ 18) :
    Calls Try.prog 49 #[.int .u64 (msk n p : Nat)] w fun e w' => e = .returned (.int .i64 (cnt n p : Nat)) ∧ w = w' := by
  have HO := Lib.hid (ones64_any n p w hn)
  have hm := msk_20 hn p
  generalize msk n p = m at *
  go_enter Try.func49, Try.ntmps49
  go_wp2_with fail
  refine HO.out.mono ?_
  rintro e w' ⟨rfl, rfl⟩
  go_wp2_with fail
  go_ret
  exact ⟨rfl, rfl⟩
end Go.Proofs.Ytdkheeocglfogaa
