/- strings.IndexByte, in plain numbers. -/
import Derived.Test.YtdkheeocglfogaaBytesM
import Derived.Lib.Walk
namespace Go.Proofs.Ytdkheeocglfogaa
open Go.RowKit

set_option maxHeartbeats 1000000 in
set_option maxRecDepth 100000 in
theorem slIndexByte (s : ByteArray) (c : Int) (w : World) :
    Calls Try.prog 62 #[.string s, .int .u8 c] w fun e w' => e = .returned (.int .i64 (Lib.indexByte s.data.toList c.toNat.toUInt8)) ∧ w = w' := by
  go_enter Try.func62, Try.ntmps62
  go_wp2
  rw [run_callFunc_extern Try.func70 (by kernel_rfl) (by kernel_rfl) (by kernel_rfl) (e := Extern.BytealgIndexByte.indexByte) (by kernel_rfl), Lib.run_indexByteString]
  simp only [Result.andThen]
  rw [Oper.upon_value]
  go_wp2
  go_ret
  exact ⟨rfl, rfl⟩
set_option maxHeartbeats 400000 in
theorem indexByte_any (s : ByteArray) (c : Int) (w : World) (hc : 0 ≤ c ∧ c ≤ 255) :
    Calls Try.prog 45 #[.string s, .int .u8 c] w fun e w' => e = .returned (.int .i64 (ix (bz s) c)) ∧ w = w' := by
  have e : Lib.indexByte s.data.toList c.toNat.toUInt8 = ix (bz s) c := by
    rw [indexByte_ix]
    unfold bz
    congr 1
    have : c.toNat.toUInt8.toNat = c.toNat := by
      rw [Nat.toUInt8_eq, UInt8.toNat_ofNat']; omega
    rw [this]; omega
  have HE := Lib.hid e
  clear e
  go_enter Try.func45, Try.ntmps45
  go_wp2_with (go_at_call 62; refine (slIndexByte _ _ _).mono ?_; rintro e w' ⟨rfl, rfl⟩)
  go_ret
  exact ⟨ret_i64 HE.out, rfl⟩
end Go.Proofs.Ytdkheeocglfogaa
