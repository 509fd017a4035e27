/- strings.IndexByte, in plain numbers. -/
import Derived.Test.YthcnhkjiojeemaaDoorBytesM
import Derived.Lib.Walk
namespace Go.Proofs.YthcnhkjiojeemaaDoor
open Go.RowKit

set_option maxHeartbeats 1000000 in
set_option maxRecDepth 100000 in
theorem slIndexByte (s : ByteArray) (c : Int) (w : World) :
    Calls Tryd.prog 56 #[.string s, .int .u8 c] w fun e w' => e = .returned (.int .i64 (Lib.indexByte s.data.toList c.toNat.toUInt8)) ∧ w = w' := by
  go_enter Tryd.func56, Tryd.ntmps56
  go_wp2
  rw [run_callFunc_extern Tryd.func63 (by kernel_rfl) (by kernel_rfl) (by kernel_rfl) (e := Extern.BytealgIndexByte.indexByte) (by kernel_rfl), Lib.run_indexByteString]
  simp only [Result.andThen]
  rw [Oper.upon_value]
  go_wp2
  go_ret
  exact ⟨rfl, rfl⟩
set_option maxHeartbeats 400000 in
theorem indexByte_any (s : ByteArray) (c : Int) (w : World) (hc : 0 ≤ c ∧ c ≤ 255) :
    Calls Tryd.prog 43 #[.string s, .int .u8 c] w fun e w' => e = .returned (.int .i64 (ix (bz s) c)) ∧ w = w' := by
  have e : Lib.indexByte s.data.toList c.toNat.toUInt8 = ix (bz s) c := by
    rw [indexByte_ix]
    unfold bz
    congr 1
    have : c.toNat.toUInt8.toNat = c.toNat := by
      rw [Nat.toUInt8_eq, UInt8.toNat_ofNat']; omega
    rw [this]; omega
  have HE := Lib.hid e
  clear e
  go_enter Tryd.func43, Tryd.ntmps43
  go_wp2_with (go_at_call 56; refine (slIndexByte _ _ _).mono ?_; rintro e w' ⟨rfl, rfl⟩)
  go_ret
  exact ⟨ret_i64 HE.out, rfl⟩
end Go.Proofs.YthcnhkjiojeemaaDoor
