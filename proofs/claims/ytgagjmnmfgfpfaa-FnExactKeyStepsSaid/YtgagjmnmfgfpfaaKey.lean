/- KeySteps: the program's, the reference's, and the law, for all arguments. -/
import Derived.Test.YtgagjmnmfgfpfaaDig
import Derived.Test.YtgagjmnmfgfpfaaLf
namespace Go.Proofs.Ytgagjmnmfgfpfaa
open Go.RowKit

def kr (d : Int) : Int := if d = 0 then 3 else 2 - (d - 1) / 3
def kc (d : Int) : Int := if d = 0 then 0 else (d - 1) % 3
theorem kr_bd (d : Int) (h : 0 ≤ d ∧ d ≤ 9) : 0 ≤ kr d ∧ kr d ≤ 3 := by unfold kr; split <;> omega
theorem kc_bd (d : Int) (h : 0 ≤ d ∧ d ≤ 9) : 0 ≤ kc d ∧ kc d ≤ 2 := by unfold kc; split <;> omega
def ab (n : Int) : Int := if n < 0 then -n else n
theorem ab_bd (n : Int) (h : -3 ≤ n ∧ n ≤ 3) : 0 ≤ ab n ∧ ab n ≤ 3 := by unfold ab; split <;> omega
/-- The steps at the first k places. -/
def kst (x y : List Int) : Nat → Int
  | 0 => 0
  | k + 1 => kst x y k + (ab (kr (x.getD k 0) - kr (y.getD k 0)) + ab (kc (x.getD k 0) - kc (y.getD k 0)))
/-- Digits below ten. -/
def tenB (x : List Int) : Prop := ∀ k, k < x.length → 0 ≤ x.getD k 0 ∧ x.getD k 0 ≤ 9
theorem kst_bd {x y : List Int} (hx : tenB x) (hy : tenB y) (hl : x.length = y.length) : ∀ k, k ≤ x.length → 0 ≤ kst x y k ∧ kst x y k ≤ 10 * k
  | 0, _ => by simp [kst]
  | k + 1, hk => by
    have h := kst_bd hx hy hl k (by omega)
    have a1 := kr_bd _ (hx k (by omega))
    have a2 := kr_bd _ (hy k (by omega))
    have a3 := kc_bd _ (hx k (by omega))
    have a4 := kc_bd _ (hy k (by omega))
    have b1 := ab_bd (kr (x.getD k 0) - kr (y.getD k 0)) (by omega)
    have b2 := ab_bd (kc (x.getD k 0) - kc (y.getD k 0)) (by omega)
    unfold kst
    omega
set_option maxHeartbeats 400000 in
theorem keyAt_any (d : Int) (w : World) (hd : 0 ≤ d ∧ d ≤ 9) :
    Calls Try.prog 73 #[.int .i64 d] w fun e w' => e = .returned (.tuple #[.int .i64 (kr d), .int .i64 (kc d)]) ∧ w = w' := by
  by_cases h : d = 0
  · subst h
    go_enter Try.func73, Try.ntmps73
    go_wp2
    go_ret2
    exact ⟨rfl, rfl⟩
  · have H := Lib.hid h
    have b1 : (d == (0 : Int)) = false := by simp [h]
    have hd1 : 1 ≤ d := by omega
    clear h
    go_enter Try.func73, Try.ntmps73
    go_wp2
    go_ret2
    refine ⟨?_, rfl⟩
    unfold kr kc
    rw [if_neg H.out, if_neg H.out]
    rfl
set_option maxHeartbeats 400000 in
theorem l06Key_any (c : Int) (w : World) (hd : 48 ≤ c ∧ c ≤ 57) :
    Calls Try.prog 71 #[.int .u8 c] w fun e w' => e = .returned (.tuple #[.int .i64 (kc (c - 48)), .int .i64 (kr (c - 48))]) ∧ w = w' := by
  by_cases h : c = 48
  · subst h
    go_enter Try.func71, Try.ntmps71
    go_wp2
    go_ret2
    exact ⟨rfl, rfl⟩
  · have H : Hid (¬ c - 48 = 0) := by unfold Hid; omega
    have b1 : (c - 48 == (0 : Int)) = false := by simp; omega
    have hd1 : 49 ≤ c := by omega
    clear h
    go_enter Try.func71, Try.ntmps71
    go_wp2
    go_ret2
    refine ⟨?_, rfl⟩
    unfold kr kc
    rw [if_neg H.out, if_neg H.out]
    first | rfl | (congr 2 <;> omega)
set_option maxHeartbeats 400000 in
theorem size_any (n : Int) (w : World) (hn : -1000 ≤ n ∧ n ≤ 1000) :
    Calls Try.prog 74 #[.int .i64 n] w fun e w' => e = .returned (.int .i64 (ab n)) ∧ w = w' := by
  have H : Hid (ab n = max n (-n)) := by unfold Hid ab; split <;> omega
  by_cases h : n < 0
  all_goals
    go_enter Try.func74, Try.ntmps74
    go_wp2
    all_goals (go_ret; exact ⟨ret_i64 (by have := H.out; first | omega | (rw [this]; omega)), rfl⟩)
set_option maxHeartbeats 400000 in
theorem l00MaxAb (n m : Int) (w : World) (h : m = -n) :
    Calls Try.prog 72 #[.int .i64 n, .int .i64 m] w fun e w' => e = .returned (.int .i64 (ab n)) ∧ w = w' := by
  have H : Hid (ab n = if n > m then n else m) := by unfold Hid ab; split <;> split <;> omega
  clear h
  by_cases h2 : n > m
  all_goals
    go_enter Try.func72, Try.ntmps72
    go_wp2
    all_goals (go_ret; refine ⟨ret_i64 ?_, rfl⟩; rw [H.out]; split <;> omega)

theorem ret_ii {a b c d : Int} (h : a = b) (h' : c = d) : Ending.returned (.tuple #[.int .i64 a, .int .i64 c]) = .returned (.tuple #[.int .i64 b, .int .i64 d]) := by rw [h, h']
set_option maxHeartbeats 1000000 in
theorem keySteps_any (u v : Value) (x y : List Int) (w : World) (hx : RI w u x) (hy : RI w v y) (hl : x.length = y.length) (h20 : x.length ≤ 20) (tx : Hid (tenB x)) (ty : Hid (tenB y)) :
    Calls Try.prog 43 #[u, v] w fun e w' => e = .returned (.int .i64 (kst x y x.length)) ∧ w = w' := by
  obtain ⟨a, c, rfl⟩ := hx.slice
  obtain ⟨b, d, rfl⟩ := hy.slice
  have HL := Lib.hid hl
  have h20' : y.length ≤ 20 := by omega
  clear hl
  go_enter Try.func43, Try.ntmps43
  go_wp2_with fail
  go_loop [5, 13] (fun sv iv => ∃ (k : Nat) (s : Int), k ≤ x.length ∧ iv = .int .i64 k ∧ sv = .int .i64 s ∧ 0 ≤ s ∧ s ≤ 10 * (k : Int) ∧ Hid (s = kst x y k)) (fun _ iv => x.length - (intOf iv).toNat)
  case atStart => exact ⟨0, 0, Nat.zero_le _, rfl, rfl, by omega, by omega, rfl⟩
  case round =>
    obtain ⟨k, s, hk, rfl, rfl, hs0, hs1, HS⟩ := hrel
    by_cases hlt : k < x.length
    · have hlt2 : k < y.length := by have := HL.out; omega
      obtain ⟨g, off, rfl, hg, hc⟩ := hx.at k hlt
      obtain ⟨g', off', rfl, hg', hc'⟩ := hy.at k hlt2
      have hz1 := tx.out k hlt
      have hz2 := ty.out k hlt2
      have HB := Lib.hid (kst_bd tx.out ty.out HL.out (k + 1) (by omega))
      have HN : Hid (kst x y (k + 1) = s + (ab (kr (x.getD k 0) - kr (y.getD k 0)) + ab (kc (x.getD k 0) - kc (y.getD k 0)))) := by unfold Hid; rw [HS.out]; rfl
      generalize x.getD k 0 = z1 at *
      generalize y.getD k 0 = z2 at *
      go_wp2_with fail
      refine (keyAt_any _ _ hz1).mono ?_
      rintro e w' ⟨rfl, rfl⟩
      go_wp2_with fail
      refine (keyAt_any _ _ hz2).mono ?_
      rintro e w' ⟨rfl, rfl⟩
      have a1 := kr_bd z1 (by omega)
      have a2 := kr_bd z2 (by omega)
      have a3 := kc_bd z1 (by omega)
      have a4 := kc_bd z2 (by omega)
      generalize kr z1 = r1 at *
      generalize kr z2 = r2 at *
      generalize kc z1 = q1 at *
      generalize kc z2 = q2 at *
      have b1 := ab_bd (r1 - r2) (by omega)
      have b2 := ab_bd (q1 - q2) (by omega)
      go_wp2_with (go_at_call 74; refine (size_any _ _ (by omega)).mono ?_; rintro e w' ⟨rfl, rfl⟩)
      go_round
      case rel => exact ⟨k + 1, _, by omega, by go_num, rfl, by omega, by omega, by unfold Hid; rw [HN.out]⟩
      case measure => first | (simp [intOf]; done) | (simp [intOf]; omega)
    · obtain rfl : k = x.length := by omega
      go_wp2_with fail
      go_ret
      exact ⟨ret_i64 HS.out, rfl⟩
set_option maxHeartbeats 1000000 in
theorem l06Steps_any (a b : ByteArray) (w : World) (hl : a.size = b.size) (h20 : a.size ≤ 20) (tx : Hid (∀ k, (h : k < a.size) → 48 ≤ (a[k].toNat : Int) ∧ (a[k].toNat : Int) ≤ 57)) (ty : Hid (∀ k, (h : k < b.size) → 48 ≤ (b[k].toNat : Int) ∧ (b[k].toNat : Int) ≤ 57))
    (ex : Hid (∀ k, (h : k < a.size) → (dgs a).getD k 0 = (a[k].toNat : Int) - 48)) (ey : Hid (∀ k, (h : k < b.size) → (dgs b).getD k 0 = (b[k].toNat : Int) - 48)) :
    Calls Try.prog 41 #[.string a, .string b] w fun e w' => e = .returned (.int .i64 (kst (dgs a) (dgs b) a.size)) ∧ w = w' := by
  have HL := Lib.hid hl
  have h20' : b.size ≤ 20 := by omega
  clear hl
  go_enter Try.func41, Try.ntmps41
  go_wp2_with fail
  go_loop [5, 6] (fun sv iv => ∃ (k : Nat) (s : Int), k ≤ a.size ∧ iv = .int .i64 k ∧ sv = .int .i64 s ∧ 0 ≤ s ∧ s ≤ 10 * (k : Int) ∧ Hid (s = kst (dgs a) (dgs b) k)) (fun _ iv => a.size - (intOf iv).toNat)
  case atStart => exact ⟨0, 0, Nat.zero_le _, rfl, rfl, by omega, by omega, rfl⟩
  case round =>
    obtain ⟨k, s, hk, rfl, rfl, hs0, hs1, HS⟩ := hrel
    by_cases hlt : k < a.size
    · have hlt2 : k < b.size := by have := HL.out; omega
      have hz1 := tx.out k hlt
      have hz2 := ty.out k hlt2
      have HN : Hid (kst (dgs a) (dgs b) (k + 1) = s + (ab (kr ((a[k].toNat : Int) - 48) - kr ((b[k].toNat : Int) - 48)) + ab (kc ((a[k].toNat : Int) - 48) - kc ((b[k].toNat : Int) - 48)))) := by
        unfold Hid; rw [HS.out, ← ex.out k hlt, ← ey.out k hlt2]; rfl
      have HK1 : Hid (∀ wx, Calls Try.prog 71 #[.int .u8 (a[k].toNat : Int)] wx fun e w' => e = .returned (.tuple #[.int .i64 (kc ((a[k].toNat : Int) - 48)), .int .i64 (kr ((a[k].toNat : Int) - 48))]) ∧ wx = w') := fun wx => l06Key_any _ wx hz1
      have HK2 : Hid (∀ wx, Calls Try.prog 71 #[.int .u8 (b[k].toNat : Int)] wx fun e w' => e = .returned (.tuple #[.int .i64 (kc ((b[k].toNat : Int) - 48)), .int .i64 (kr ((b[k].toNat : Int) - 48))]) ∧ wx = w') := fun wx => l06Key_any _ wx hz2
      generalize hz1' : (a[k].toNat : Int) - 48 = z1 at *
      generalize hz2' : (b[k].toNat : Int) - 48 = z2 at *
      have g1 : 0 ≤ z1 ∧ z1 ≤ 9 := by omega
      have g2 : 0 ≤ z2 ∧ z2 ≤ 9 := by omega
      clear hz1' hz2'
      have a1 := kr_bd z1 (by omega)
      have a2 := kr_bd z2 (by omega)
      have a3 := kc_bd z1 (by omega)
      have a4 := kc_bd z2 (by omega)
      generalize kr z1 = r1 at *
      generalize kr z2 = r2 at *
      generalize kc z1 = q1 at *
      generalize kc z2 = q2 at *
      have b1 := ab_bd (r1 - r2) (by omega)
      have b2 := ab_bd (q1 - q2) (by omega)
      go_wp2_with fail
      refine (HK1.out _).mono ?_
      rintro e w' ⟨rfl, rfl⟩
      go_wp2_with fail
      refine (HK2.out _).mono ?_
      rintro e w' ⟨rfl, rfl⟩
      go_wp2_with (go_at_call 72; refine (l00MaxAb _ _ _ (by omega)).mono ?_; rintro e w' ⟨rfl, rfl⟩)
      go_round
      case rel => exact ⟨k + 1, _, by omega, by go_num, rfl, by omega, by omega, by unfold Hid; rw [HN.out]; omega⟩
      case measure => first | (simp [intOf]; done) | (simp [intOf]; omega)
    · obtain rfl : k = a.size := by omega
      go_wp2_with fail
      go_ret
      exact ⟨ret_i64 HS.out, rfl⟩
end Go.Proofs.Ytgagjmnmfgfpfaa
