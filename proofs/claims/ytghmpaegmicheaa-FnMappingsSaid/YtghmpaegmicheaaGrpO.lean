/- Orders and powers in groups: the program's and the reference's. -/
import Derived.Test.YtghmpaegmicheaaGrpC
namespace Go.Proofs.Ytghmpaegmicheaa
open Go.RowKit


/-- The order of an element, and whether it is one. -/
def ordV (x : List (List Int)) (k : Int) : Value := if hasB x k then .tuple #[.int .i64 (ord x k.toNat : Nat), .bool true] else .tuple #[.int .i64 0, .bool false]
theorem ordV_shape (x : List (List Int)) (k : Int) : ∃ (n : Int) (c : Bool), ordV x k = .tuple #[.int .i64 n, .bool c] := by
  unfold ordV; split <;> exact ⟨_, _, rfl⟩
set_option maxHeartbeats 1000000 in
theorem implOrd_any (v : Value) (x : List (List Int)) (k : Int) (w : World) (hx : RT w v x) (hm : x.length ≤ 1048576) (hr : Small x) :
    Calls Try.prog 32 #[.agg #[v], .int .i64 k] w fun e w' => e = .returned (ordV x k) ∧ Below w.heap.size w w' := by
  by_cases hh : hasB x k = true
  · obtain ⟨hg, hk0, hk1⟩ := hasB_iff.1 hh
    have HH := Lib.hid hh
    obtain ⟨q, rfl⟩ := Int.eq_ofNat_of_zero_le hk0
    have hq : q < x.length := by omega
    clear hh hk0 hk1
    have GP := Lib.hid (Gp.of hg)
    have hn := (Gp.of hg).n
    have hs : Hid (sqB x = true) := (Gp.of hg).sq
    obtain ⟨G, O, C, H, F, P, rfl, hat⟩ := hx.sq (Gp.of hg).sq
    have HSQ := Lib.hid hat
    have HG := Lib.hid hg
    have hb : Below w.heap.size w (w.alloc (.cells #[.slice (some ⟨G, O, none⟩) x.length C] 29)) := (Below.refl _ _).alloc (Nat.le_refl _) _
    have c0 : (w.alloc (.cells #[.slice (some ⟨G, O, none⟩) x.length C] 29)).cell? ⟨w.heap.size, 0, none⟩ = some (.slice (some ⟨G, O, none⟩) x.length C) := World.cell?_alloc_at _ _ _ _ rfl
    have hlt : w.heap.size < (w.alloc (.cells #[.slice (some ⟨G, O, none⟩) x.length C] 29)).heap.size := by simp
    replace hx := hx.later hb
    clear hat hg
    have HI := Lib.hid (GP.out.idn_eq)
    have hol := GP.out.one_lt
    have HO := Lib.hid (GP.out.ord_is q hq)
    have hob : ord x q ≤ 10 := by have := HO.out; omega
    have HID : Hid (∀ w1, Below w.heap.size w w1 → Calls Try.prog 61 #[.slice (some ⟨G, O, none⟩) x.length C] w1 fun e w' => e = .returned (.int .i64 (one x : Nat)) ∧ w1 = w') := fun w1 h => by
      have := identity_any (C := C) x w1 hs (HSQ.out.later h)
      rw [HI.out] at this; exact this
    go_enter Try.func32, Try.ntmps32
    go_wp2_with fail
    generalize w.alloc (.cells #[.slice (some ⟨G, O, none⟩) x.length C] 29) = w0 at *
    refine (has_is _ x _ _ _ true HH c0 hx hm hr).mono ?_
    rintro e w1 ⟨rfl, hb1⟩
    replace c0 := (hb1.cell (p := ⟨w.heap.size, 0, none⟩) hlt).trans c0
    replace hx := hx.later hb1
    replace hb := hb.trans (hb1.mono (Nat.le_of_lt hlt))
    replace hlt := Nat.lt_of_lt_of_le hlt hb1.size
    clear hb1
    go_wp2_with fail
    have HC0 : Hid (∀ wr, Below w1.heap.size w1 wr → wr.cell? ⟨w.heap.size, 0, none⟩ = some (.slice (some ⟨G, O, none⟩) x.length C)) := fun wr h => (h.cell (p := ⟨w.heap.size, 0, none⟩) hlt).trans c0
    have HB := Lib.hid hb
    have hlt' := Nat.le_of_lt hlt
    go_loopw [6, 7] (fun nv yv wr => ∃ (m p : Nat), nv = .int .i64 m ∧ yv = .int .i64 p ∧ 1 ≤ m ∧ m ≤ ord x q ∧ p < x.length ∧ Hid (p = pw x q m) ∧ Below w1.heap.size w1 wr) (fun nv _ _ => ord x q - (intOf nv).toNat)
    case atStart => exact ⟨1, q, rfl, rfl, by omega, HO.out.1, hq, (GP.out.pw_one q hq).symm, Below.refl _ _⟩
    case round =>
      obtain ⟨m, p, rfl, rfl, hm1, hm2, hp, HP, hw⟩ := hrel
      clear c0 hx hb hlt
      have c0 := HC0.out wr hw
      have hb : Below w.heap.size w wr := HB.out.trans (hw.mono hlt')
      by_cases he : (p : Int) = (one x : Nat)
      · have b1 : ((p : Int) != (one x : Nat)) = false := by simp [he]
        have HM : Hid (ord x q = m) := by
          unfold Hid
          by_cases h : m = ord x q
          · exact h.symm
          · exact absurd (HP.out.symm.trans (by omega)) (HO.out.2.2.2 m hm1 (by omega))
        clear he
        go_wp2_with (go_at_call 61; refine (HID.out _ hb).mono ?_; rintro e w' ⟨rfl, rfl⟩)
        go_ret2
        exact ⟨by unfold ordV; rw [if_pos HH.out]; show _ = Ending.returned (.tuple #[.int .i64 (ord x q : Nat), .bool true]); rw [HM.out]; rfl, hb⟩
      · have b1 : ((p : Int) != (one x : Nat)) = true := by simp; omega
        have hm3 : m < ord x q := by
          by_cases h : m = ord x q
          · refine absurd ?_ he
            rw [HP.out, h, HO.out.2.2.1]
          · omega
        have hsq := HSQ.out.later hb
        have r1 := hsq.row p hp
        have c1 := hsq.cell p q hp hq
        rw [GP.out.tb_eq p q hp hq] at c1
        have hl := GP.out.lt p q hp hq
        have HM : Hid (mul x p q = pw x q (m + 1)) := by unfold Hid; rw [HP.out]; rfl
        clear he hsq
        generalize mul x p q = z at *
        go_wp2_with (go_at_call 61; refine (HID.out _ hb).mono ?_; rintro e w' ⟨rfl, rfl⟩)
        have f1 : IntKind.i64.wrap ((m : Int) + 1) = (m : Int) + 1 := IntWalk.i64_in _ (by omega)
        go_quiet (fail)
        go_wp2_with fail
        go_roundw
        case rel => exact ⟨m + 1, z, by go_num, rfl, by omega, by omega, hl, HM, below_drewN hw _⟩
        case measure => first | (simp [intOf]; done) | (simp [intOf]; omega)
  · simp only [Bool.not_eq_true] at hh
    have HH := Lib.hid hh
    clear hh
    obtain ⟨a, c, rfl⟩ := hx.slice
    have hb : Below w.heap.size w (w.alloc (.cells #[.slice a x.length c] 29)) := (Below.refl _ _).alloc (Nat.le_refl _) _
    have c0 : (w.alloc (.cells #[.slice a x.length c] 29)).cell? ⟨w.heap.size, 0, none⟩ = some (.slice a x.length c) := World.cell?_alloc_at _ _ _ _ rfl
    have hlt : w.heap.size < (w.alloc (.cells #[.slice a x.length c] 29)).heap.size := by simp
    replace hx := hx.later hb
    go_enter Try.func32, Try.ntmps32
    go_wp2_with fail
    generalize w.alloc (.cells #[.slice a x.length c] 29) = w0 at *
    refine (has_is _ x _ _ _ false HH c0 hx hm hr).mono ?_
    rintro e w1 ⟨rfl, hb1⟩
    replace c0 := (hb1.cell (p := ⟨w.heap.size, 0, none⟩) hlt).trans c0
    replace hx := hx.later hb1
    replace hb := hb.trans (hb1.mono (Nat.le_of_lt hlt))
    replace hlt := Nat.lt_of_lt_of_le hlt hb1.size
    clear hb1
    go_wp2_with fail
    go_ret2
    exact ⟨by unfold ordV; rw [HH.out]; rfl, hb⟩

/-- The power of an element, and whether it is one. -/
def powV (x : List (List Int)) (k n : Int) : Value := if hasB x k && inB n 0 1000000000000000 then .tuple #[.int .i64 (pw x k.toNat n.toNat : Nat), .bool true] else .tuple #[.int .i64 0, .bool false]
theorem powV_shape (x : List (List Int)) (k n : Int) : ∃ (m : Int) (c : Bool), powV x k n = .tuple #[.int .i64 m, .bool c] := by
  unfold powV; split <;> exact ⟨_, _, rfl⟩
theorem powV_no1 {x : List (List Int)} {k n : Int} (h : hasB x k = false) : powV x k n = .tuple #[.int .i64 0, .bool false] := by unfold powV; rw [h]; rfl
theorem powV_no2 {x : List (List Int)} {k n : Int} (h : inB n 0 1000000000000000 = false) : powV x k n = .tuple #[.int .i64 0, .bool false] := by unfold powV; rw [h]; simp
theorem powV_yes {x : List (List Int)} {k n : Nat} (h : hasB x k = true) (h2 : inB n 0 1000000000000000 = true) : powV x k n = .tuple #[.int .i64 (pw x k n : Nat), .bool true] := by unfold powV; rw [h, h2]; rfl
set_option maxHeartbeats 1000000 in
theorem implPow_any (v : Value) (x : List (List Int)) (k n : Int) (w : World) (hx : RT w v x) (hm : x.length ≤ 1048576) (hr : Small x) :
    Calls Try.prog 31 #[.agg #[v], .int .i64 k, .int .i64 n] w fun e w' => e = .returned (powV x k n) ∧ Below w.heap.size w w' := by
  by_cases hh : hasB x k = true
  · by_cases hin : inB n 0 1000000000000000 = true
    · obtain ⟨hn0, hn1⟩ := inB_iff.1 hin
      have HIN := Lib.hid hin
      have HII : Hid (∀ w1, Calls Try.prog 64 #[.int .i64 n, .int .i64 0, .int .i64 1000000000000000] w1 fun e w' => e = .returned (.bool true) ∧ w1 = w') := fun w1 => by
        have := in_any n 0 1000000000000000 w1
        rw [hin] at this; exact this
      obtain ⟨N, rfl⟩ := Int.eq_ofNat_of_zero_le hn0
      clear hin hn0
      obtain ⟨hg, hk0, hk1⟩ := hasB_iff.1 hh
      have HH := Lib.hid hh
      obtain ⟨q, rfl⟩ := Int.eq_ofNat_of_zero_le hk0
      have hq : q < x.length := by omega
      clear hh hk0 hk1
      have GP := Lib.hid (Gp.of hg)
      have hn := (Gp.of hg).n
      have hs : Hid (sqB x = true) := (Gp.of hg).sq
      obtain ⟨G, O, C, H, F, P, rfl, hat⟩ := hx.sq (Gp.of hg).sq
      have HSQ := Lib.hid hat
      have HG := Lib.hid hg
      have hb : Below w.heap.size w (w.alloc (.cells #[.slice (some ⟨G, O, none⟩) x.length C] 29)) := (Below.refl _ _).alloc (Nat.le_refl _) _
      have c0 : (w.alloc (.cells #[.slice (some ⟨G, O, none⟩) x.length C] 29)).cell? ⟨w.heap.size, 0, none⟩ = some (.slice (some ⟨G, O, none⟩) x.length C) := World.cell?_alloc_at _ _ _ _ rfl
      have hlt : w.heap.size < (w.alloc (.cells #[.slice (some ⟨G, O, none⟩) x.length C] 29)).heap.size := by simp
      replace hx := hx.later hb
      clear hat hg
      have HI := Lib.hid (GP.out.idn_eq)
      have hol := GP.out.one_lt
      have HID : Hid (∀ w1, Below w.heap.size w w1 → Calls Try.prog 61 #[.slice (some ⟨G, O, none⟩) x.length C] w1 fun e w' => e = .returned (.int .i64 (one x : Nat)) ∧ w1 = w') := fun w1 h => by
        have := identity_any (C := C) x w1 hs (HSQ.out.later h)
        rw [HI.out] at this; exact this
      go_enter Try.func31, Try.ntmps31
      go_wp2_with fail
      generalize w.alloc (.cells #[.slice (some ⟨G, O, none⟩) x.length C] 29) = w0 at *
      refine (has_is _ x _ _ _ true HH c0 hx hm hr).mono ?_
      rintro e w1 ⟨rfl, hb1⟩
      replace c0 := (hb1.cell (p := ⟨w.heap.size, 0, none⟩) hlt).trans c0
      replace hx := hx.later hb1
      replace hb := hb.trans (hb1.mono (Nat.le_of_lt hlt))
      replace hlt := Nat.lt_of_lt_of_le hlt hb1.size
      clear hb1
      have hsq := HSQ.out.later hb
      have HSA := Lib.hid hsq
      clear hsq
      go_wp2_with (first
        | (go_at_call 64; refine (HII.out _).mono ?_; rintro e w' ⟨rfl, rfl⟩)
        | (go_at_call 61; refine (HID.out _ hb).mono ?_; rintro e w' ⟨rfl, rfl⟩))
      go_loop [1, 2, 8] (fun xv nv ov => ∃ (X M o : Nat), xv = .int .i64 X ∧ nv = .int .i64 M ∧ ov = .int .i64 o ∧ X < x.length ∧ o < x.length ∧ (M : Int) ≤ 1000000000000000 ∧ Hid (mul x o (pw x X M) = pw x q N)) (fun _ nv _ => (intOf nv).toNat)
      case atStart => exact ⟨q, N, one x, rfl, rfl, rfl, hq, hol, hn1, GP.out.one_mul _ (GP.out.pw_lt q hq N)⟩
      case round =>
        obtain ⟨X, M, o, rfl, rfl, rfl, hX, ho, hM, HE⟩ := hrel
        by_cases hm0 : 0 < M
        · have r1 := HSA.out.row o ho
          have r2 := HSA.out.row X hX
          have c1 := HSA.out.cell o X ho hX
          have c2 := HSA.out.cell X X hX hX
          rw [GP.out.tb_eq o X ho hX] at c1
          rw [GP.out.tb_eq X X hX hX] at c2
          have hl1 := GP.out.lt o X ho hX
          have hl2 := GP.out.lt X X hX hX
          have HSQ2 := Lib.hid (GP.out.pw_sq X hX (M / 2))
          by_cases hodd : M % 2 = 1
          · have b1 : ((M : Int) % 2 == 1) = true := by rw [beq_iff_eq]; omega
            have HN : Hid (mul x (mul x o X) (pw x (mul x X X) (M / 2)) = pw x q N) := by
              unfold Hid
              rw [HSQ2.out, GP.out.assoc o X _ ho hX (GP.out.pw_lt X hX _), ← HE.out]
              congr 1
              have h1 : M = 1 + 2 * (M / 2) := by omega
              conv => rhs; rw [h1, GP.out.pw_add X hX 1, GP.out.pw_one X hX]
            have HD : Hid (((M / 2 : Nat) : Int) = (M : Int) / 2) := by unfold Hid; omega
            clear hodd
            generalize mul x o X = z1 at *
            generalize mul x X X = z2 at *
            go_wp2_with fail
            go_round
            case rel => exact ⟨z2, M / 2, z1, rfl, congrArg (Value.int .i64) (by omega), rfl, hl2, hl1, by omega, HN⟩
            case measure => first | (simp [intOf]; done) | (simp [intOf]; omega)
          · have b1 : ((M : Int) % 2 == 1) = false := by rw [beq_eq_false_iff_ne]; omega
            have HN : Hid (mul x o (pw x (mul x X X) (M / 2)) = pw x q N) := by
              unfold Hid
              rw [HSQ2.out, ← HE.out]
              congr 2
              omega
            clear hodd
            generalize mul x o X = z1 at *
            generalize mul x X X = z2 at *
            go_wp2_with fail
            go_round
            case rel => exact ⟨z2, M / 2, o, rfl, congrArg (Value.int .i64) (by omega), rfl, hl2, ho, by omega, HN⟩
            case measure => first | (simp [intOf]; done) | (simp [intOf]; omega)
        · have HE2 : Hid (o = pw x q N) := by
            have h0 : M = 0 := by omega
            have := HE.out
            rw [h0] at this
            exact (GP.out.mul_one o ho).symm.trans this
          go_wp2_with fail
          go_ret2
          exact ⟨by rw [powV_yes HH.out HIN.out, ← HE2.out]; rfl, hb⟩
    · simp only [Bool.not_eq_true] at hin
      have HIN := Lib.hid hin
      have HII : Hid (∀ w1, Calls Try.prog 64 #[.int .i64 n, .int .i64 0, .int .i64 1000000000000000] w1 fun e w' => e = .returned (.bool false) ∧ w1 = w') := fun w1 => by
        have := in_any n 0 1000000000000000 w1
        rw [hin] at this; exact this
      clear hin
      have HH := Lib.hid hh
      clear hh
      obtain ⟨a, c, rfl⟩ := hx.slice
      have hb : Below w.heap.size w (w.alloc (.cells #[.slice a x.length c] 29)) := (Below.refl _ _).alloc (Nat.le_refl _) _
      have c0 : (w.alloc (.cells #[.slice a x.length c] 29)).cell? ⟨w.heap.size, 0, none⟩ = some (.slice a x.length c) := World.cell?_alloc_at _ _ _ _ rfl
      have hlt : w.heap.size < (w.alloc (.cells #[.slice a x.length c] 29)).heap.size := by simp
      replace hx := hx.later hb
      go_enter Try.func31, Try.ntmps31
      go_wp2_with fail
      generalize w.alloc (.cells #[.slice a x.length c] 29) = w0 at *
      refine (has_is _ x _ _ _ true HH c0 hx hm hr).mono ?_
      rintro e w1 ⟨rfl, hb1⟩
      replace c0 := (hb1.cell (p := ⟨w.heap.size, 0, none⟩) hlt).trans c0
      replace hx := hx.later hb1
      replace hb := hb.trans (hb1.mono (Nat.le_of_lt hlt))
      replace hlt := Nat.lt_of_lt_of_le hlt hb1.size
      clear hb1
      go_wp2_with (go_at_call 64; refine (HII.out _).mono ?_; rintro e w' ⟨rfl, rfl⟩)
      go_ret2
      exact ⟨by rw [powV_no2 HIN.out]; rfl, hb⟩
  · simp only [Bool.not_eq_true] at hh
    have HH := Lib.hid hh
    clear hh
    obtain ⟨a, c, rfl⟩ := hx.slice
    have hb : Below w.heap.size w (w.alloc (.cells #[.slice a x.length c] 29)) := (Below.refl _ _).alloc (Nat.le_refl _) _
    have c0 : (w.alloc (.cells #[.slice a x.length c] 29)).cell? ⟨w.heap.size, 0, none⟩ = some (.slice a x.length c) := World.cell?_alloc_at _ _ _ _ rfl
    have hlt : w.heap.size < (w.alloc (.cells #[.slice a x.length c] 29)).heap.size := by simp
    replace hx := hx.later hb
    go_enter Try.func31, Try.ntmps31
    go_wp2_with fail
    generalize w.alloc (.cells #[.slice a x.length c] 29) = w0 at *
    refine (has_is _ x _ _ _ false HH c0 hx hm hr).mono ?_
    rintro e w1 ⟨rfl, hb1⟩
    replace c0 := (hb1.cell (p := ⟨w.heap.size, 0, none⟩) hlt).trans c0
    replace hx := hx.later hb1
    replace hb := hb.trans (hb1.mono (Nat.le_of_lt hlt))
    replace hlt := Nat.lt_of_lt_of_le hlt hb1.size
    clear hb1
    go_wp2_with fail
    go_ret2
    exact ⟨by rw [powV_no1 HH.out]; rfl, hb⟩
end Go.Proofs.Ytghmpaegmicheaa
