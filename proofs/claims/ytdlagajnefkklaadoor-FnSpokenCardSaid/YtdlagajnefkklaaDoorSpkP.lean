/- How many texts of syllables there are: the program's and the reference's. -/
import Derived.Test.YtdlagajnefkklaaDoorSpkM
namespace Go.Proofs.YtdlagajnefkklaaDoor
open Go.RowKit

/-- A speech in memory. -/
structure SX (X : Nat) (a b : ByteArray) (w : World) : Prop where
  c0 : w.cell? ⟨X, 0, none⟩ = some (.string a)
  c1 : w.cell? ⟨X, 1, none⟩ = some (.string b)
theorem SX.lt {X : Nat} {a b : ByteArray} {w : World} (h : SX X a b w) : X < w.heap.size := World.block_lt_of_cell? w _ h.c0
theorem SX.later {X : Nat} {a b : ByteArray} {w w' : World} (h : SX X a b w) (hb : Below w.heap.size w w') : SX X a b w' :=
  ⟨(hb.cell (p := ⟨X, 0, none⟩) h.lt).trans h.c0, (hb.cell (p := ⟨X, 1, none⟩) h.lt).trans h.c1⟩
/-- Only draws lie between two worlds. -/
def DrS (w w' : World) : Prop := ∃ n, w' = w.drewN n
theorem DrS.refl (w : World) : DrS w w := ⟨0, rfl⟩
theorem DrS.more {w w' : World} (h : DrS w w') (n : Nat) : DrS w (w'.drewN n) := by
  obtain ⟨m, rfl⟩ := h
  exact ⟨m + n, World.drewN_drewN _ _ _⟩
theorem DrS.trans {w w' w'' : World} (h : DrS w w') (h' : DrS w' w'') : DrS w w'' := by
  obtain ⟨n, rfl⟩ := h'
  exact h.more n
theorem DrS.below {w w' : World} (h : DrS w w') : Below w.heap.size w w' := by
  obtain ⟨n, rfl⟩ := h
  exact below_drewN (Below.refl _ _) _
set_option maxHeartbeats 400000 in
theorem base_any (X : Nat) (a b : ByteArray) (w : World) (h : SX X a b w) (hv : vsB a b = true) :
    Calls Tryd.prog 36 #[.pointer (some ⟨X, 0, none⟩)] w fun e w' => e = .returned (.int .i64 ((a.size * b.size : Nat) : Int)) ∧ DrS w w' := by
  obtain ⟨⟨h1, h2⟩, h3, h4⟩ := vsB_sz hv
  have hB := (vsB_base hv).2
  have c0 := h.c0
  have c1 := h.c1
  have e1 : (a.size : Int) * (b.size : Int) = ((a.size * b.size : Nat) : Int) := by push_cast; rfl
  have f1 : IntKind.i64.wrap ((a.size : Int) * (b.size : Int)) = ((a.size * b.size : Nat) : Int) := by rw [e1]; exact IntWalk.i64_in _ (by omega)
  clear e1
  generalize ((a.size * b.size : Nat) : Int) = q at *
  go_enter Tryd.func36, Tryd.ntmps36
  go_wp2_with fail
  go_quiet (fail)
  go_wp2_with fail
  go_ret
  exact ⟨ret_i64 (by first | rfl | exact f1), ⟨_, rfl⟩⟩
set_option maxHeartbeats 1000000 in
theorem powerOk_any (B k : Nat) (w : World) (hB : 1 ≤ B ∧ B ≤ 120) (hk : 1 ≤ k ∧ k ≤ 8) :
    Calls Tryd.prog 50 #[.int .i64 B, .int .i64 k, .int .i64 1000000000000000] w fun e w' => e = .returned (.bool (pwB B k)) ∧ w = w' := by
  go_enter Tryd.func50, Tryd.ntmps50
  go_wp2_with fail
  go_loop [7, 9] (fun pv iv => ∃ (i p : Nat), i ≤ k ∧ iv = .int .i64 i ∧ pv = .int .i64 p ∧ p ≤ 1000000000000000 ∧ Hid (p = B ^ i)) (fun _ iv => k - (intOf iv).toNat)
  case atStart => exact ⟨0, 1, Nat.zero_le _, rfl, rfl, by omega, by simp [Hid]⟩
  case round =>
    obtain ⟨i, p, hi, rfl, rfl, hp, HP⟩ := hrel
    by_cases hlt : i < k
    · have HN : Hid (1000000000000000 / B < p → pwB B k = false) := fun h => pwB_no hB.1 (show i + 1 ≤ k by omega) (by rw [← HP.out]; exact h)
      have HY : Hid (¬ 1000000000000000 / B < p → B ^ (i + 1) ≤ 1000000000000000) := fun h => pwB_step hB.1 (by rw [← HP.out]; exact h)
      have HM : Hid (p * B = B ^ (i + 1)) := by unfold Hid; rw [Nat.pow_succ, HP.out]
      have hB0 : ¬ B = 0 := by omega
      by_cases hc : 1000000000000000 / B < p
      · have HR := Lib.hid (HN.out hc)
        have hc2 : (1000000000000000 : Int) / (B : Int) < (p : Int) := by have := Int.ofNat_lt.2 hc; rw [Int.natCast_ediv] at this; exact this
        clear HN HY hc
        go_wp2_with fail
        go_ret
        exact ⟨ret_bool HR.out.symm, rfl⟩
      · have HQ : Hid (p * B ≤ 1000000000000000) := by unfold Hid; rw [HM.out]; exact HY.out hc
        have hc2 : ¬ (1000000000000000 : Int) / (B : Int) < (p : Int) := by
          intro h; apply hc; have h2 : ((1000000000000000 / B : Nat) : Int) < (p : Int) := by rw [Int.natCast_ediv]; exact h
          exact Int.ofNat_lt.1 h2
        have hq := HQ.out
        have e1 : (p : Int) * (B : Int) = ((p * B : Nat) : Int) := by push_cast; rfl
        have f1 : IntKind.i64.wrap ((p : Int) * (B : Int)) = ((p * B : Nat) : Int) := by rw [e1]; exact IntWalk.i64_in _ (by omega)
        have HF := Lib.hid f1
        clear HN HY hc e1
        generalize p * B = pb at *
        go_wp2_with fail
        go_round
        case rel => exact ⟨i + 1, pb, by omega, by go_num, by first | rfl | (rw [← HF.out]; rfl) | (congr 1), hq, HM⟩
        case measure => first | (simp [intOf]; done) | (simp [intOf]; omega)
    · obtain rfl : i = k := by omega
      have HR : Hid (pwB B i = true) := by unfold Hid pwB; rw [← HP.out]; exact decide_eq_true hp
      go_wp2_with fail
      go_ret
      exact ⟨ret_bool (by rw [HR.out]; exact decide_eq_true (by omega)), rfl⟩
/-- The number of texts, if there are not too many. -/
def PwPost (B k : Nat) (b : Bool) (w : World) (e : Ending) (w' : World) : Prop := ∃ r : Int, e = .returned (.tuple #[.int .i64 r, .bool b]) ∧ Hid (b = true → r = ((B ^ k : Nat) : Int)) ∧ DrS w w'
theorem PwPost.no {B k : Nat} {b : Bool} {w w' : World} (hb : b = false) (hd : DrS w w') : PwPost B k b w (.returned (.tuple #[.int .i64 0, .bool false])) w' := ⟨0, by rw [hb], (fun h => by rw [hb] at h; cases h), hd⟩
theorem PwPost.yes {B k p : Nat} {b : Bool} {w w' : World} (hb : b = true) (hp : p = B ^ k) (hd : DrS w w') : PwPost B k b w (.returned (.tuple #[.int .i64 (p : Int), .bool true])) w' := ⟨p, by rw [hb], (fun _ => by rw [hp]), hd⟩
def pkB (B : Nat) (k : Int) : Bool := inB k 1 8 && pwB B k.toNat
set_option maxHeartbeats 1000000 in
theorem power_any (X : Nat) (a b : ByteArray) (k : Int) (w : World) (h : SX X a b w) (hv : vsB a b = true) :
    Calls Tryd.prog 34 #[.pointer (some ⟨X, 0, none⟩), .int .i64 k] w (PwPost (a.size * b.size) k.toNat (pkB (a.size * b.size) k) w) := by
  have hB := vsB_base hv
  have HB : Hid (∀ wx, DrS w wx → Calls Tryd.prog 36 #[.pointer (some ⟨X, 0, none⟩)] wx fun e w' => e = .returned (.int .i64 ((a.size * b.size : Nat) : Int)) ∧ DrS w w') := fun wx hd =>
    (base_any X a b wx (h.later hd.below) hv).mono fun e w' ⟨h1, h2⟩ => ⟨h1, hd.trans h2⟩
  clear hv h
  generalize a.size * b.size = B at *
  have hI : ∀ wx, Calls Tryd.prog 37 #[.int .i64 k, .int .i64 1, .int .i64 8] wx fun e w' => e = .returned (.bool (inB k 1 8)) ∧ wx = w' := fun wx => in_any _ _ _ _
  have HI := Lib.hid hI
  clear hI
  cases h1 : inB k 1 8
  · have HR : Hid (pkB B k = false) := by unfold Hid pkB; rw [h1]; rfl
    rw [h1] at HI
    clear h1
    go_enter Tryd.func34, Tryd.ntmps34
    go_wp2_with (go_at_call 37; refine (HI.out _).mono ?_; rintro e w' ⟨rfl, rfl⟩)
    go_ret2
    exact PwPost.no HR.out (DrS.refl _)
  · rw [inB_iff] at h1
    obtain ⟨q, rfl⟩ : ∃ q : Nat, k = (q : Int) := ⟨k.toNat, by omega⟩
    rw [show inB (q : Int) 1 8 = true by rw [inB_iff]; omega] at HI
    have HT : Hid (((q : Int)).toNat = q) := by unfold Hid; omega
    have HPK : Hid (pkB B (q : Int) = pwB B q) := by unfold Hid pkB; rw [show inB (q : Int) 1 8 = true by rw [inB_iff]; omega, HT.out]; rfl
    rw [HT.out, HPK.out]
    have HPO : Hid (∀ b, pwB B q = b → ∀ wx, Calls Tryd.prog 50 #[.int .i64 B, .int .i64 q, .int .i64 1000000000000000] wx fun e w' => e = .returned (.bool b) ∧ wx = w') := fun b e wx => by
      have := powerOk_any B q wx hB (by omega)
      rw [e] at this; exact this
    cases h2 : pwB B q
    · have HP := Lib.hid (HPO.out _ h2)
      clear h2 HPO HPK HT
      go_enter Tryd.func34, Tryd.ntmps34
      go_wp2_with (first | (go_at_call 37; refine (HI.out _).mono ?_; rintro e w' ⟨rfl, rfl⟩) | (go_at_call 36; refine (HB.out _ (DrS.refl _)).mono ?_; rintro e w1 ⟨rfl, hd⟩) | (go_at_call 50; refine (HP.out _).mono ?_; rintro e w' ⟨rfl, rfl⟩))
      go_ret2
      exact PwPost.no rfl hd
    · have HP := Lib.hid (HPO.out _ h2)
      have HM : Hid (B ^ q ≤ 1000000000000000) := by unfold pwB at h2; have h3 : B ^ q ≤ maxV := of_decide_eq_true h2; exact h3
      have HMI : Hid (∀ i, i ≤ q → B ^ i ≤ 1000000000000000) := fun i hi => Nat.le_trans (Nat.pow_le_pow_right hB.1 hi) HM.out
      clear h2 HPO HPK HT
      go_enter Tryd.func34, Tryd.ntmps34
      go_wp2_with (first | (go_at_call 37; refine (HI.out _).mono ?_; rintro e w' ⟨rfl, rfl⟩) | (go_at_call 36; refine (HB.out _ (DrS.refl _)).mono ?_; rintro e w1 ⟨rfl, hd⟩) | (go_at_call 50; refine (HP.out _).mono ?_; rintro e w' ⟨rfl, rfl⟩))
      go_loopw [6, 18] (fun pv iv wr => ∃ (i p : Nat), i ≤ q ∧ iv = .int .i64 i ∧ pv = .int .i64 p ∧ Hid (p = B ^ i) ∧ DrS w wr) (fun _ iv _ => q - (intOf iv).toNat)
      case atStart => exact ⟨0, 1, Nat.zero_le _, rfl, rfl, by simp [Hid], hd⟩
      case round =>
        obtain ⟨i, p, hi, rfl, rfl, HPW, hd⟩ := hrel
        by_cases hlt : i < q
        · have HM2 : Hid (p * B = B ^ (i + 1)) := by unfold Hid; rw [Nat.pow_succ, HPW.out]
          have hq : p * B ≤ 1000000000000000 := by rw [HM2.out]; exact HMI.out (i + 1) (by omega)
          have e1 : (p : Int) * (B : Int) = ((p * B : Nat) : Int) := by push_cast; rfl
          have f1 : IntKind.i64.wrap ((p : Int) * (B : Int)) = ((p * B : Nat) : Int) := by rw [e1]; exact IntWalk.i64_in _ (by omega)
          have HF := Lib.hid f1
          clear e1
          generalize p * B = pb at *
          go_wp2_with (go_at_call 36; refine (HB.out _ (by assumption)).mono ?_; rintro e w1 ⟨rfl, hd2⟩)
          go_roundw
          case rel => exact ⟨i + 1, pb, by omega, by go_num, by first | rfl | (rw [← HF.out]; rfl) | (congr 1), HM2, hd2⟩
          case measure => first | (simp [intOf]; done) | (simp [intOf]; omega)
        · obtain rfl : i = q := by omega
          go_wp2_with fail
          go_ret2
          exact PwPost.yes rfl HPW.out hd
set_option maxHeartbeats 1000000 in
theorem l07Power_any (B k : Nat) (w : World) (hB : 1 ≤ B ∧ B ≤ 120) (hk : k ≤ 1048576) :
    Calls Tryd.prog 31 #[.int .i64 B, .int .i64 k] w (PwPost B k (pwB B k) w) := by
  go_enter Tryd.func31, Tryd.ntmps31
  go_wp2_with fail
  go_loop [1, 6] (fun kv pv => ∃ (i p : Nat), i ≤ k ∧ kv = .int .i64 ((k - i : Nat) : Int) ∧ pv = .int .i64 p ∧ p ≤ 1000000000000000 ∧ Hid (p = B ^ i)) (fun kv _ => (intOf kv).toNat)
  case atStart => exact ⟨0, 1, Nat.zero_le _, rfl, rfl, by omega, by simp [Hid]⟩
  case round =>
    obtain ⟨i, p, hi, rfl, rfl, hp, HP⟩ := hrel
    by_cases hlt : i < k
    · have HN : Hid (1000000000000000 / B < p → pwB B k = false) := fun h => pwB_no hB.1 (show i + 1 ≤ k by omega) (by rw [← HP.out]; exact h)
      have HY : Hid (¬ 1000000000000000 / B < p → B ^ (i + 1) ≤ 1000000000000000) := fun h => pwB_step hB.1 (by rw [← HP.out]; exact h)
      have HM : Hid (p * B = B ^ (i + 1)) := by unfold Hid; rw [Nat.pow_succ, HP.out]
      have hB0 : ¬ B = 0 := by omega
      have hki : 0 < k - i := by omega
      have HK : Hid (k - i - 1 = k - (i + 1)) := by unfold Hid; omega
      have hk1 : k - i ≤ 1048576 := by omega
      generalize k - i = r at *
      have hk2 : ((r : Int) - 1) = ((r - 1 : Nat) : Int) := by omega
      have HK2 := Lib.hid hk2
      clear hk2
      by_cases hc : 1000000000000000 / B < p
      · have HR := Lib.hid (HN.out hc)
        have hc2 : (1000000000000000 : Int) / (B : Int) < (p : Int) := by have := Int.ofNat_lt.2 hc; rw [Int.natCast_ediv] at this; exact this
        clear HN HY hc
        go_wp2_with fail
        go_ret2
        exact PwPost.no HR.out (DrS.refl _)
      · have HQ : Hid (p * B ≤ 1000000000000000) := by unfold Hid; rw [HM.out]; exact HY.out hc
        have hc2 : ¬ (1000000000000000 : Int) / (B : Int) < (p : Int) := by
          intro h; apply hc; have h2 : ((1000000000000000 / B : Nat) : Int) < (p : Int) := by rw [Int.natCast_ediv]; exact h
          exact Int.ofNat_lt.1 h2
        have hq := HQ.out
        have e1 : (p : Int) * (B : Int) = ((p * B : Nat) : Int) := by push_cast; rfl
        have f1 : IntKind.i64.wrap ((p : Int) * (B : Int)) = ((p * B : Nat) : Int) := by rw [e1]; exact IntWalk.i64_in _ (by omega)
        have HF := Lib.hid f1
        clear HN HY hc e1
        generalize p * B = pb at *
        go_wp2_with fail
        go_round
        case rel => exact ⟨i + 1, pb, by omega, by rw [← HK.out, ← HK2.out], by first | rfl | (rw [← HF.out]; rfl) | (congr 1), hq, HM⟩
        case measure => first | (simp [intOf]; done) | (simp [intOf]; omega)
    · obtain rfl : i = k := by omega
      have HR : Hid (pwB B i = true) := by unfold Hid pwB; rw [← HP.out]; exact decide_eq_true hp
      rw [Nat.sub_self]
      go_wp2_with fail
      go_ret2
      exact PwPost.yes HR.out HP.out (DrS.refl _)
end Go.Proofs.YtdlagajnefkklaaDoor
