/- FnAntisymmetric: UndetectedIn, IsCaught, the law. -/
import Derived.Test.YthcnhkjiojeemaaUdA
import Derived.Test.YthcnhkjiojeemaaChI
import Derived.Test.YthcnhkjiojeemaaChT
import Derived.Test.YthcnhkjiojeemaaTot
import Derived.Test.YthcnhkjiojeemaaSml
import Derived.Test.YthcnhkjiojeemaaR8
namespace Go.Proofs.Ythcnhkjiojeemaa
open Go.RowKit

/-- A chain of four places, as a value, into its box. -/
theorem ce_box (n : Nat) (T : Nat → Nat → Nat) (tv pv : Value) (w : World) (h3 : R3 w tv [mkT n (iF T)]) (hp : RI w pv (List.replicate 4 0)) (hn : 1 ≤ n) :
    ∃ ta tc pa pc, tv = .slice ta 1 tc ∧ pv = .slice pa 4 pc ∧ CE w.heap.size n T (w.alloc (.cells #[.int .i64 n, .int .i64 n, .int .i64 0, .int .i64 0, .slice ta 1 tc, .slice pa 4 pc] 35)) ∧
      ChAt w.heap.size n n 0 0 (.slice ta 1 tc) (.slice pa 4 pc) (w.alloc (.cells #[.int .i64 n, .int .i64 n, .int .i64 0, .int .i64 0, .slice ta 1 tc, .slice pa 4 pc] 35)) := by
  obtain ⟨ta, tc, rfl⟩ := h3.slice
  obtain ⟨pa, pc, rfl⟩ := hp.slice
  rw [List.length_replicate] at hp ⊢
  have hb : Below w.heap.size w (w.alloc (.cells #[.int .i64 n, .int .i64 n, .int .i64 0, .int .i64 0, .slice ta 1 tc, .slice pa 4 pc] 35)) := (Below.refl _ _).alloc (Nat.le_refl _) _
  have hch : ChAt w.heap.size n n 0 0 (.slice ta 1 tc) (.slice pa 4 pc) (w.alloc (.cells #[.int .i64 n, .int .i64 n, .int .i64 0, .int .i64 0, .slice ta 1 tc, .slice pa 4 pc] 35)) :=
    ⟨by simp, World.cell?_alloc_at _ _ _ _ rfl, World.cell?_alloc_at _ _ _ _ rfl, World.cell?_alloc_at _ _ _ _ rfl, World.cell?_alloc_at _ _ _ _ rfl, World.cell?_alloc_at _ _ _ _ rfl, World.cell?_alloc_at _ _ _ _ rfl⟩
  refine ⟨ta, tc, pa, pc, rfl, rfl, ?_, hch⟩
  obtain ⟨g1, o1, r, rfl, _, hc1, hrt⟩ := h3.at 0 (by simp)
  obtain ⟨g2, o2, rfl, _, _⟩ := hp.at 0 (by simp)
  have hrt' : RT w r (mkT n (iF T)) := hrt
  obtain ⟨G, O, C, H, F, P, rfl, hsq⟩ := hrt'.sqn (by rw [mkT_len]; exact hn) (fun i hi => by rw [mkT_len] at *; exact mkT_rowlen _ _ _ hi)
  rw [mkT_len] at hc1
  refine ⟨g1, o1, tc, g2, o2, pc, G, O, C, H, F, P, hch, cell_lat hc1 hb, fun i hi => ?_, hsq.later hb⟩
  obtain ⟨g', o', he, _, hc⟩ := hp.at i (by simpa using hi)
  simp only [Option.some.injEq, Addr.mk.injEq, and_true] at he
  obtain ⟨rfl, rfl⟩ := he
  refine cell_lat (hc.trans ?_) hb
  rw [List.getD_eq_getElem?_getD, List.getElem?_replicate, if_pos hi]; rfl
set_option maxHeartbeats 1000000 in
theorem kindOk_any (K : Nat) (hK : K ≤ 1) (b : Int) (w : World) :
    Calls Try.prog 67 #[.int .i64 K, .int .i64 b] w fun e w' => e = .returned (.bool true) ∧ w = w' := by
  have HI : Hid (∀ wx, Calls Try.prog 32 #[.int .i64 K, .int .i64 0, .int .i64 5] wx fun e w' => e = .returned (.bool true) ∧ wx = w') := fun wx => by
    have := in_any K 0 5 wx
    rw [inB_yes (by omega)] at this; exact this
  have h5 : ((K : Int) != 5) = true := by simp; omega
  go_enter Try.func67, Try.ntmps67
  go_wp2_with (go_at_call 32; refine (HI.out _).mono ?_; rintro e w' ⟨rfl, rfl⟩)
  go_ret
  exact ⟨rfl, rfl⟩
set_option maxHeartbeats 1000000 in
theorem lastPl_any (K L : Nat) (h : K = 0 ∧ L = 1 ∨ K = 1 ∧ L = 2) (w : World) :
    Calls Try.prog 68 #[.int .i64 4, .int .i64 K] w fun e w' => e = .returned (.int .i64 ((4 - L : Nat) : Int)) ∧ w = w' := by
  have HE := Lib.hid (errLen_any K L h)
  have hw : IntKind.i64.wrap ((4 : Int) - (L : Int)) = ((4 - L : Nat) : Int) := by rw [IntWalk.i64_in _ (by omega)]; omega
  obtain ⟨m, hm⟩ : ∃ m : Nat, m = 4 - L := ⟨_, rfl⟩
  rw [← hm] at hw ⊢
  clear hm h
  go_enter Try.func68, Try.ntmps68
  go_wp2_with (go_at_call 81; refine (HE.out _).mono ?_; rintro e w' ⟨rfl, rfl⟩)
  go_ret
  exact ⟨rfl, rfl⟩
/-- The sum over the first places. -/
def SwP (n p : Nat) (T : Nat → Nat → Nat) (x : Int) : Prop := (0 ≤ x ∧ x ≤ 3000000 * p) ∧ (NoCl n T → x = 0) ∧ (2 ≤ p → ¬ NoCl n T → 1 ≤ x)
theorem SwP.step {n p : Nat} {T : Nat → Nat → Nat} {x z : Int} (h : SwP n p T x) (k : SwQ n p T z) : SwP n (p + 1) T (x + z) := by
  obtain ⟨h1, h2, h3⟩ := h
  obtain ⟨k1, k2, k3⟩ := k
  refine ⟨by omega, fun hN => by rw [h2 hN, k2 hN]; rfl, fun hp hN => ?_⟩
  by_cases e : p = 1
  · have := k3 e hN; omega
  · have := h3 (by omega) hN; omega
theorem SwP.zero (n : Nat) (T : Nat → Nat → Nat) : SwP n 0 T 0 := ⟨by omega, fun _ => rfl, fun h => by omega⟩
theorem powB4 {n : Nat} (h : n ≤ 5) : powB n 4 = true := by
  unfold powB
  have : n ^ 4 ≤ 5 ^ 4 := Nat.pow_le_pow_left h 4
  have e : (5 : Nat) ^ 4 = 625 := by decide
  exact decide_eq_true (by omega)
theorem chgood (n : Nat) (T : Nat → Nat → Nat) (q : QN n T) (h : 2 ≤ n ∧ n ≤ 5) : GoodC n n 0 0 [mkT n (iF T)] (List.replicate 4 0) := by
  have hq : qgB (mkT n (iF T)) = true := qgB_iff.2 ⟨by rw [mkT_len]; omega, fun i hi => by rw [mkT_len] at *; exact mkT_rowlen _ _ _ hi, by
    rw [mkT_len]
    have hQ := q.qgI
    refine ⟨fun i j hi hj => ?_, fun i j k hi hj hk e => ?_, fun i j k hi hj hk e => ?_⟩
    · rw [tb_mk hi hj]; exact hQ.bd i j hi hj
    · rw [tb_mk hi (by omega), tb_mk hi hk] at e; exact hQ.row i j k hi hj hk e
    · rw [tb_mk (by omega) hi, tb_mk hk hi] at e; exact hQ.col i j k hi hj hk e⟩
  have := goodEven hq (by rw [mkT_len]; exact h.1) (p := 4) (by omega)
  rw [mkT_len] at this; exact this
set_option maxRecDepth 100000 in
set_option maxHeartbeats 4000000 in
theorem ui0_any (n : Nat) (T : Nat → Nat → Nat) (q : QN n T) (tv pv : Value) (w : World) (h3 : R3 w tv [mkT n (iF T)]) (hp : RI w pv (List.replicate 4 0)) (hn : 2 ≤ n ∧ n ≤ 5) :
    Calls Try.prog 42 #[.agg #[.int .i64 n, .int .i64 n, .int .i64 0, .int .i64 0, tv, pv], .int .i64 0] w fun e w' => ∃ x y, e = .returned (.tuple #[.int .i64 x, .int .i64 y, .bool true]) ∧ Hid (x = 0) ∧ Below w.heap.size w w' := by
  obtain ⟨ta, tc, pa, pc, rfl, rfl, hce, hch⟩ := ce_box n T tv pv w h3 hp (by omega)
  have hb0 : Below w.heap.size w (w.alloc (.cells #[.int .i64 n, .int .i64 n, .int .i64 0, .int .i64 0, .slice ta 1 tc, .slice pa 4 pc] 35)) := (Below.refl _ _).alloc (Nat.le_refl _) _
  have HV : Hid (∀ wx, Below w.heap.size w wx → Calls Try.prog 66 #[.agg #[.int .i64 n, .int .i64 n, .int .i64 0, .int .i64 0, .slice ta 1 tc, .slice pa 4 pc]] wx fun e w' => e = .returned (.bool true) ∧ Below wx.heap.size wx w') := fun wx hb => by
    have := validC_good n n 0 0 _ _ _ _ wx (h3.later hb) (hp.later hb) (chgood n T q hn)
    rw [List.length_replicate, powB4 hn.2] at this; exact this
  have HK := Lib.hid (kindOk_any 0 (by omega))
  have HLP := Lib.hid (lastPl_any 0 1 (by omega))
  have HUA : Hid (∀ wx p, CE w.heap.size n T wx → p + 1 ≤ 4 → Calls Try.prog 69 #[.pointer (some ⟨w.heap.size, 0, none⟩), .int .i64 0, .int .i64 (p : Nat)] wx fun e w' => ∃ x y, e = .returned (.tuple #[.int .i64 x, .int .i64 y]) ∧ Hid (x = 0) ∧ Below wx.heap.size wx w') := fun wx p h hpl =>
    ua0_any w.heap.size n T q wx h (by omega) p hpl
  clear h3 hp q
  go_enter Try.func42, Try.ntmps42
  go_upto_region 1 with fail
  generalize w.alloc (.cells #[.int .i64 n, .int .i64 n, .int .i64 0, .int .i64 0, .slice ta 1 tc, .slice pa 4 pc] 35) = w1 at *
  have HCE : Hid (∀ wx, Below w1.heap.size w1 wx → CE w.heap.size n T wx ∧ ChAt w.heap.size n n 0 0 (.slice ta 1 tc) (.slice pa 4 pc) wx) := fun wx hb => ⟨hce.later hb, hch.later hb⟩
  have c0 := hch.c0
  have c1 := hch.c1
  have c2 := hch.c2
  have c3 := hch.c3
  have c4 := hch.c4
  have c5 := hch.c5
  clear hce hch
  go_wp2_with (first
    | (go_at_call 66; refine (HV.out w1 hb0).mono ?_; rintro e w2 ⟨rfl, hb2⟩; have e0 := (HCE.out _ hb2).2.c0)
    | (go_at_call 67; refine (HK.out _ _).mono ?_; rintro e w' ⟨rfl, rfl⟩))
  clear c0 c1 c2 c3 c4 c5 e0
  go_loopw [7, 8, 9] (fun xv yv pv wr => ∃ (p : Nat) (x y : Int), p + 1 ≤ 5 ∧ xv = .int .i64 x ∧ yv = .int .i64 y ∧ pv = .int .i64 p ∧ Hid (x = 0) ∧ Below w1.heap.size w1 wr) (fun _ _ pv _ => 5 - (intOf pv).toNat)
  case atStart => exact ⟨0, 0, 0, by omega, rfl, rfl, rfl, rfl, hb2⟩
  case round =>
    clear hb2
    obtain ⟨p, x, y, hp, rfl, rfl, rfl, HX, hb⟩ := hrel
    obtain ⟨wo, rfl⟩ : ∃ x, x = wr := ⟨_, rfl⟩
    have d5 := (HCE.out _ hb).2.c5
    have HB := Lib.hid hb
    have hz := hb.size
    clear hb
    by_cases hle : p + 1 ≤ 4
    · have hlt : (p : Int) ≤ ((4 - 1 : Nat) : Int) := by omega
      have HU2 := Lib.hid (HUA.out wo p (HCE.out _ HB.out).1 hle)
      go_wp2_with (go_at_call 68; refine (HLP.out _).mono ?_; rintro e w' ⟨rfl, rfl⟩)
      refine HU2.out.mono ?_
      rintro e w3 ⟨z, y2, rfl, HZ, hb3⟩
      have HBB := Lib.hid (HB.out.trans (hb3.mono hz))
      have HXZ : Hid (x + z = 0) := (by unfold Hid; rw [HX.out, HZ.out]; rfl)
      have hwx : IntKind.i64.wrap (x + z) = x + z := IntWalk.i64_in _ (by (have h1 := HX.out; have h2 := HZ.out; omega))
      obtain ⟨xz, hxz⟩ : ∃ v, v = x + z := ⟨_, rfl⟩
      obtain ⟨yz, hyz⟩ : ∃ v, IntKind.i64.wrap (y + y2) = v := ⟨_, rfl⟩
      rw [← hxz] at HXZ
      have HWX : Hid (wrap64 (x + z) = xz) := ((IntWalk.i64_left _).symm.trans hwx).trans hxz.symm
      have HWY : Hid (wrap64 (y + y2) = yz) := (IntWalk.i64_left _).symm.trans hyz
      clear hxz d5 hb3 hlt hwx hyz
      go_wp2_with fail
      go_roundw
      case rel => exact ⟨p + 1, xz, yz, by omega, congrArg (Value.int .i64) HWX.out, congrArg (Value.int .i64) HWY.out, by go_num, HXZ, HBB.out⟩
      case measure => first | (simp [intOf]; done) | (simp [intOf]; omega)
    · have hlt : ¬ (p : Int) ≤ ((4 - 1 : Nat) : Int) := by omega
      have HF : Hid (x = 0) := HX
      have HBF := Lib.hid (hb0.trans (HB.out.mono hb0.size))
      go_wp2_with (go_at_call 68; refine (HLP.out _).mono ?_; rintro e w' ⟨rfl, rfl⟩)
      exact bodyPost_ret (v := .tuple #[.int .i64 x, .int .i64 y, .bool true]) (by simp [results, Try.results42, go_sem]) rfl ⟨x, y, rfl, HF, HBF.out⟩
set_option maxRecDepth 100000 in
set_option maxHeartbeats 4000000 in
theorem ui1_any (n : Nat) (T : Nat → Nat → Nat) (q : QN n T) (tv pv : Value) (w : World) (h3 : R3 w tv [mkT n (iF T)]) (hp : RI w pv (List.replicate 4 0)) (hn : 2 ≤ n ∧ n ≤ 5) :
    Calls Try.prog 42 #[.agg #[.int .i64 n, .int .i64 n, .int .i64 0, .int .i64 0, tv, pv], .int .i64 1] w fun e w' => ∃ x y, e = .returned (.tuple #[.int .i64 x, .int .i64 y, .bool true]) ∧ Hid (x = 0 ↔ NoCl n T) ∧ Below w.heap.size w w' := by
  obtain ⟨ta, tc, pa, pc, rfl, rfl, hce, hch⟩ := ce_box n T tv pv w h3 hp (by omega)
  have hb0 : Below w.heap.size w (w.alloc (.cells #[.int .i64 n, .int .i64 n, .int .i64 0, .int .i64 0, .slice ta 1 tc, .slice pa 4 pc] 35)) := (Below.refl _ _).alloc (Nat.le_refl _) _
  have HV : Hid (∀ wx, Below w.heap.size w wx → Calls Try.prog 66 #[.agg #[.int .i64 n, .int .i64 n, .int .i64 0, .int .i64 0, .slice ta 1 tc, .slice pa 4 pc]] wx fun e w' => e = .returned (.bool true) ∧ Below wx.heap.size wx w') := fun wx hb => by
    have := validC_good n n 0 0 _ _ _ _ wx (h3.later hb) (hp.later hb) (chgood n T q hn)
    rw [List.length_replicate, powB4 hn.2] at this; exact this
  have HK := Lib.hid (kindOk_any 1 (by omega))
  have HLP := Lib.hid (lastPl_any 1 2 (by omega))
  have HUA : Hid (∀ wx p, CE w.heap.size n T wx → p + 2 ≤ 4 → Calls Try.prog 69 #[.pointer (some ⟨w.heap.size, 0, none⟩), .int .i64 1, .int .i64 (p : Nat)] wx fun e w' => ∃ x y, e = .returned (.tuple #[.int .i64 x, .int .i64 y]) ∧ Hid (SwQ n p T x) ∧ Below wx.heap.size wx w') := fun wx p h hpl =>
    ua1_any w.heap.size n T q wx h (by omega) p hpl
  clear h3 hp q
  go_enter Try.func42, Try.ntmps42
  go_upto_region 1 with fail
  generalize w.alloc (.cells #[.int .i64 n, .int .i64 n, .int .i64 0, .int .i64 0, .slice ta 1 tc, .slice pa 4 pc] 35) = w1 at *
  have HCE : Hid (∀ wx, Below w1.heap.size w1 wx → CE w.heap.size n T wx ∧ ChAt w.heap.size n n 0 0 (.slice ta 1 tc) (.slice pa 4 pc) wx) := fun wx hb => ⟨hce.later hb, hch.later hb⟩
  have c0 := hch.c0
  have c1 := hch.c1
  have c2 := hch.c2
  have c3 := hch.c3
  have c4 := hch.c4
  have c5 := hch.c5
  clear hce hch
  go_wp2_with (first
    | (go_at_call 66; refine (HV.out w1 hb0).mono ?_; rintro e w2 ⟨rfl, hb2⟩; have e0 := (HCE.out _ hb2).2.c0)
    | (go_at_call 67; refine (HK.out _ _).mono ?_; rintro e w' ⟨rfl, rfl⟩))
  clear c0 c1 c2 c3 c4 c5 e0
  go_loopw [7, 8, 9] (fun xv yv pv wr => ∃ (p : Nat) (x y : Int), p + 2 ≤ 5 ∧ xv = .int .i64 x ∧ yv = .int .i64 y ∧ pv = .int .i64 p ∧ Hid (SwP n p T x) ∧ Below w1.heap.size w1 wr) (fun _ _ pv _ => 5 - (intOf pv).toNat)
  case atStart => exact ⟨0, 0, 0, by omega, rfl, rfl, rfl, (SwP.zero n T), hb2⟩
  case round =>
    clear hb2
    obtain ⟨p, x, y, hp, rfl, rfl, rfl, HX, hb⟩ := hrel
    obtain ⟨wo, rfl⟩ : ∃ x, x = wr := ⟨_, rfl⟩
    have d5 := (HCE.out _ hb).2.c5
    have HB := Lib.hid hb
    have hz := hb.size
    clear hb
    by_cases hle : p + 2 ≤ 4
    · have hlt : (p : Int) ≤ ((4 - 2 : Nat) : Int) := by omega
      have HU2 := Lib.hid (HUA.out wo p (HCE.out _ HB.out).1 hle)
      go_wp2_with (go_at_call 68; refine (HLP.out _).mono ?_; rintro e w' ⟨rfl, rfl⟩)
      refine HU2.out.mono ?_
      rintro e w3 ⟨z, y2, rfl, HZ, hb3⟩
      have HBB := Lib.hid (HB.out.trans (hb3.mono hz))
      have HXZ : Hid (SwP n (p + 1) T (x + z)) := SwP.step HX.out HZ.out
      have hwx : IntKind.i64.wrap (x + z) = x + z := IntWalk.i64_in _ (by (have h1 := HX.out.1; have h2 := HZ.out.1; omega))
      obtain ⟨xz, hxz⟩ : ∃ v, v = x + z := ⟨_, rfl⟩
      obtain ⟨yz, hyz⟩ : ∃ v, IntKind.i64.wrap (y + y2) = v := ⟨_, rfl⟩
      rw [← hxz] at HXZ
      have HWX : Hid (wrap64 (x + z) = xz) := ((IntWalk.i64_left _).symm.trans hwx).trans hxz.symm
      have HWY : Hid (wrap64 (y + y2) = yz) := (IntWalk.i64_left _).symm.trans hyz
      clear hxz d5 hb3 hlt hwx hyz
      go_wp2_with fail
      go_roundw
      case rel => exact ⟨p + 1, xz, yz, by omega, congrArg (Value.int .i64) HWX.out, congrArg (Value.int .i64) HWY.out, by go_num, HXZ, HBB.out⟩
      case measure => first | (simp [intOf]; done) | (simp [intOf]; omega)
    · have hlt : ¬ (p : Int) ≤ ((4 - 2 : Nat) : Int) := by omega
      have HF : Hid (x = 0 ↔ NoCl n T) := (⟨fun h => Classical.byContradiction fun hN => (by have := HX.out.2.2 (by omega) hN; omega), fun hN => HX.out.2.1 hN⟩)
      have HBF := Lib.hid (hb0.trans (HB.out.mono hb0.size))
      go_wp2_with (go_at_call 68; refine (HLP.out _).mono ?_; rintro e w' ⟨rfl, rfl⟩)
      exact bodyPost_ret (v := .tuple #[.int .i64 x, .int .i64 y, .bool true]) (by simp [results, Try.results42, go_sem]) rfl ⟨x, y, rfl, HF, HBF.out⟩
set_option maxRecDepth 100000 in
set_option maxHeartbeats 2000000 in
theorem ic0_any (n : Nat) (T : Nat → Nat → Nat) (q : QN n T) (tv pv : Value) (w : World) (h3 : R3 w tv [mkT n (iF T)]) (hp : RI w pv (List.replicate 4 0)) (hn : 2 ≤ n ∧ n ≤ 5) (cb : Bool) (hcb : cb = true) :
    Calls Try.prog 16 #[.agg #[.int .i64 n, .int .i64 n, .int .i64 0, .int .i64 0, tv, pv], .int .i64 0] w fun e w' => e = .returned (.bool cb) ∧ Below w.heap.size w w' := by
  obtain ⟨ta, tc, pa, pc, rfl, rfl, hce, hch⟩ := ce_box n T tv pv w h3 hp (by omega)
  have hb0 : Below w.heap.size w (w.alloc (.cells #[.int .i64 n, .int .i64 n, .int .i64 0, .int .i64 0, .slice ta 1 tc, .slice pa 4 pc] 35)) := (Below.refl _ _).alloc (Nat.le_refl _) _
  have HU : Hid (∀ wx, Below w.heap.size w wx → Calls Try.prog 42 #[.agg #[.int .i64 n, .int .i64 n, .int .i64 0, .int .i64 0, .slice ta 1 tc, .slice pa 4 pc], .int .i64 0] wx fun e w' => ∃ x y, e = .returned (.tuple #[.int .i64 x, .int .i64 y, .bool true]) ∧ ((x == 0) = cb) ∧ Below wx.heap.size wx w') := fun wx hb => by
    refine (ui0_any n T q _ _ wx (h3.later hb) (hp.later hb) hn).mono ?_
    rintro e w' ⟨x, y, rfl, hx, hb2⟩
    exact ⟨x, y, rfl, (by rw [hx.out, hcb]; rfl), hb2⟩
  clear h3 hp q hce hcb
  go_enter Try.func16, Try.ntmps16
  go_upto_region 1 with fail
  generalize w.alloc (.cells #[.int .i64 n, .int .i64 n, .int .i64 0, .int .i64 0, .slice ta 1 tc, .slice pa 4 pc] 35) = w1 at *
  have c0 := hch.c0
  have c1 := hch.c1
  have c2 := hch.c2
  have c3 := hch.c3
  have c4 := hch.c4
  have c5 := hch.c5
  clear hch
  go_wp2_with fail
  refine (HU.out w1 hb0).mono ?_
  rintro e w2 ⟨x, y, rfl, hx, hb2⟩
  have HBF := Lib.hid (hb0.trans (hb2.mono hb0.size))
  clear c0 c1 c2 c3 c4 c5 HU hb0 hb2
  go_wp2_with fail
  go_ret
  exact ⟨rfl, HBF.out⟩
set_option maxRecDepth 100000 in
set_option maxHeartbeats 2000000 in
theorem ic1_any (n : Nat) (T : Nat → Nat → Nat) (q : QN n T) (tv pv : Value) (w : World) (h3 : R3 w tv [mkT n (iF T)]) (hp : RI w pv (List.replicate 4 0)) (hn : 2 ≤ n ∧ n ≤ 5) (cb : Bool) (hcb : cb = true ↔ NoCl n T) :
    Calls Try.prog 16 #[.agg #[.int .i64 n, .int .i64 n, .int .i64 0, .int .i64 0, tv, pv], .int .i64 1] w fun e w' => e = .returned (.bool cb) ∧ Below w.heap.size w w' := by
  obtain ⟨ta, tc, pa, pc, rfl, rfl, hce, hch⟩ := ce_box n T tv pv w h3 hp (by omega)
  have hb0 : Below w.heap.size w (w.alloc (.cells #[.int .i64 n, .int .i64 n, .int .i64 0, .int .i64 0, .slice ta 1 tc, .slice pa 4 pc] 35)) := (Below.refl _ _).alloc (Nat.le_refl _) _
  have HU : Hid (∀ wx, Below w.heap.size w wx → Calls Try.prog 42 #[.agg #[.int .i64 n, .int .i64 n, .int .i64 0, .int .i64 0, .slice ta 1 tc, .slice pa 4 pc], .int .i64 1] wx fun e w' => ∃ x y, e = .returned (.tuple #[.int .i64 x, .int .i64 y, .bool true]) ∧ ((x == 0) = cb) ∧ Below wx.heap.size wx w') := fun wx hb => by
    refine (ui1_any n T q _ _ wx (h3.later hb) (hp.later hb) hn).mono ?_
    rintro e w' ⟨x, y, rfl, hx, hb2⟩
    exact ⟨x, y, rfl, (by rw [Bool.eq_iff_iff, hcb, ← hx.out, beq_iff_eq]), hb2⟩
  clear h3 hp q hce hcb
  go_enter Try.func16, Try.ntmps16
  go_upto_region 1 with fail
  generalize w.alloc (.cells #[.int .i64 n, .int .i64 n, .int .i64 0, .int .i64 0, .slice ta 1 tc, .slice pa 4 pc] 35) = w1 at *
  have c0 := hch.c0
  have c1 := hch.c1
  have c2 := hch.c2
  have c3 := hch.c3
  have c4 := hch.c4
  have c5 := hch.c5
  clear hch
  go_wp2_with fail
  refine (HU.out w1 hb0).mono ?_
  rintro e w2 ⟨x, y, rfl, hx, hb2⟩
  have HBF := Lib.hid (hb0.trans (hb2.mono hb0.size))
  clear c0 c1 c2 c3 c4 c5 HU hb0 hb2
  go_wp2_with fail
  go_ret
  exact ⟨rfl, HBF.out⟩
theorem mkT_eqF {n : Nat} {t u : Nat → Nat → Int} (h : ∀ i j, i < n → j < n → t i j = u i j) : mkT n t = mkT n u := by
  unfold mkT
  refine List.map_congr_left fun i hi => List.map_congr_left fun j hj => ?_
  exact h i j (List.mem_range.1 hi) (List.mem_range.1 hj)
theorem qg_mk {n : Nat} {T : Nat → Nat → Nat} (q : QN n T) (h : 1 ≤ n ∧ n ≤ 36) : qgB (mkT n (iF T)) = true := qgB_iff.2 ⟨by rw [mkT_len]; omega, fun i hi => by rw [mkT_len] at *; exact mkT_rowlen _ _ _ hi, by
  rw [mkT_len]
  have hQ := q.qgI
  refine ⟨fun i j hi hj => ?_, fun i j k hi hj hk e => ?_, fun i j k hi hj hk e => ?_⟩
  · rw [tb_mk hi hj]; exact hQ.bd i j hi hj
  · rw [tb_mk hi (by omega), tb_mk hi hk] at e; exact hQ.row i j k hi hj hk e
  · rw [tb_mk (by omega) hi, tb_mk hk hi] at e; exact hQ.col i j k hi hj hk e⟩
theorem chB_noCl {n : Nat} {T : Nat → Nat → Nat} (q : QN n T) : chB (mkT n (iF T)) = true ↔ NoCl n T := by
  rw [chB_iff, mkT_len]
  have key : ∀ r i j, r < n → i < n → j < n → tb (mkT n (iF T)) (tb (mkT n (iF T)) r i).toNat j = ((T (T r i) j : Nat) : Int) := fun r i j hr hi hj => by
    rw [tb_mk hr hi, show (iF T r i).toNat = T r i from rfl, tb_mk (q.bd r i hr hi) hj]; rfl
  constructor
  · intro h s a b hs ha hb hab e
    rcases Nat.lt_or_gt_of_ne hab with hlt | hlt
    · exact h s b a hs hb hlt (by rw [key s b a hs hb ha, key s a b hs ha hb, e])
    · exact h s a b hs ha hlt (by rw [key s a b hs ha hb, key s b a hs hb ha, e])
  · intro h r i j hr hi hji e
    rw [key r i j hr hi (by omega), key r j i hr (by omega) hi] at e
    exact h r i j hr hi (by omega) (by omega) (by omega)
theorem small_mkA (n : Nat) (t : Nat → Nat → Int) (h : n ≤ 1048576) : Small (mkT n t) := fun j hj => by rw [mkT_len] at hj; rw [mkT_rowlen _ _ _ hj]; exact h
set_option maxRecDepth 100000 in
set_option maxHeartbeats 8000000 in
theorem lawAnti_any (v0 v1 : Value) (xs ys : List Int) (w : World) (hx : RK .u8 w v0 xs ∧ (∀ x ∈ xs, (Lit.int .u8 x).wf = true) ∧ xs.length ≤ maxLen)
    (hy : RK .u8 w v1 ys ∧ (∀ x ∈ ys, (Lit.int .u8 x).wf = true) ∧ ys.length ≤ maxLen) :
    Calls Try.prog 4 #[v0, v1] w fun x w' => x = .returned (.bool true) ∧ Below w.heap.size w w' := by
  obtain ⟨hx, hxw, _⟩ := hx
  obtain ⟨hy, hyw, _⟩ := hy
  obtain ⟨a, c, rfl⟩ := hx.slice
  obtain ⟨b, d, rfl⟩ := hy.slice
  cases hs : long8 xs.length ys.length
  case true =>
    have HS := Lib.hid hs
    clear hx hy hs
    go_enter Try.func4, Try.ntmps4
    go_wp2_with fail
    refine (r8Long_any _ _ _ _ _ _ _).mono ?_
    rintro e w' ⟨rfl, rfl⟩
    rw [HS.out]
    go_wp2_with fail
    go_ret
    exact ⟨rfl, Below.refl _ _⟩
  have hm48 : xs.length ≤ 48 ∧ ys.length ≤ 48 := by unfold long8 at hs; simp at hs; omega
  obtain ⟨hxm, hym⟩ := hm48
  have HS := Lib.hid hs
  clear hs
  have hb := Below.refl w.heap.size w
  have HX : Hid (∀ wr, Below w.heap.size w wr → RK .u8 wr (.slice a xs.length c) xs) := fun wr h => hx.later h
  clear hx hy
  go_enter Try.func4, Try.ntmps4
  go_wp2_with fail
  refine (r8Long_any _ _ _ _ _ _ _).mono ?_
  rintro e w' ⟨rfl, rfl⟩
  rw [HS.out]
  go_wp2_with fail
  refine (r8Small_any _ xs _ (HX.out _ hb) hxw (by omega)).mono ?_
  rintro e w1 ⟨v1, n, t, rfl, hn, h1, hs, hb1⟩
  replace hb := hb.trans (hb1.mono hb.size)
  clear hb1 HX
  rw [mkT_eqF (u := iF (nf t)) (fun i j hi hj => hs.eq hi hj)] at h1
  have q := hs.qn
  generalize nf t = T at *
  have hq : qgB (mkT n (iF T)) = true := qg_mk q (by omega)
  have htot : taB (mkT n (iF T)) = (swB (mkT n (iF T)) && chB (mkT n (iF T))) := by unfold taB; rw [hq]; rfl
  have hcn := chB_noCl q
  obtain ⟨X, hX⟩ : ∃ X, X = mkT n (iF T) := ⟨_, rfl⟩
  have hXl : X.length = n := by rw [hX, mkT_len]
  have hXm : X.length ≤ 1048576 := by omega
  have hXs : Small X := by rw [hX]; exact small_mkA _ _ (by omega)
  have HXE := Lib.hid hX
  rw [← hX] at h1 hq htot hcn
  clear hX hs
  obtain ⟨bs, hbs⟩ : ∃ b, b = swB X := ⟨_, rfl⟩
  obtain ⟨bc, hbc⟩ : ∃ b, b = chB X := ⟨_, rfl⟩
  have HSW : Hid (∀ wx v, RT wx v X → Calls Try.prog 13 #[v] wx (ClPost bs wx)) := fun wx v h => by rw [hbs]; exact swap_any v X wx h hXm hXs hq
  have HCH : Hid (∀ wx v, RT wx v X → Calls Try.prog 14 #[v] wx (ClPost bc wx)) := fun wx v h => by rw [hbc]; exact chain_any v X wx h hXm hXs hq
  have HTT : Hid (∀ wx v, RT wx v X → Calls Try.prog 11 #[v] wx fun e w' => e = .returned (.bool (bs && bc)) ∧ Below wx.heap.size wx w') := fun wx v h => by rw [hbs, hbc, ← htot]; exact implTot_any v X wx h hXm hXs
  have HTC : Hid (∀ wx v, RT wx v X → Calls Try.prog 15 #[v, .int .i64 4] wx (TcP X 4 wx)) := fun wx v h => implTc_any v X 4 wx h hXm hXs
  have HI0 : Hid (∀ tv pv wx, 2 ≤ n → R3 wx tv [X] → RI wx pv (List.replicate 4 0) → Calls Try.prog 16 #[.agg #[.int .i64 n, .int .i64 n, .int .i64 0, .int .i64 0, tv, pv], .int .i64 0] wx fun e w' => e = .returned (.bool true) ∧ Below wx.heap.size wx w') := fun tv pv wx h2 h3 h4 =>
    ic0_any n T q tv pv wx (by rw [← HXE.out]; exact h3) h4 (by omega) true rfl
  have HI1 : Hid (∀ tv pv wx, 2 ≤ n → R3 wx tv [X] → RI wx pv (List.replicate 4 0) → Calls Try.prog 16 #[.agg #[.int .i64 n, .int .i64 n, .int .i64 0, .int .i64 0, tv, pv], .int .i64 1] wx fun e w' => e = .returned (.bool bc) ∧ Below wx.heap.size wx w') := fun tv pv wx h2 h3 h4 =>
    ic1_any n T q tv pv wx (by rw [← HXE.out]; exact h3) h4 (by omega) bc (by rw [hbc]; exact hcn)
  have HTK : Hid (tcOk X 4 = decide (2 ≤ n)) := by
    unfold Hid tcOk
    rw [hq, hXl, inB_yes (by omega), show (4 : Int).toNat = 4 from rfl, powB4 (by omega)]; simp
  obtain ⟨va, vc, rfl⟩ := h1.slice
  rw [hXl] at h1 ⊢
  clear hbs hbc htot hcn q hq HXE
  go_wp2_with fail
  refine (HSW.out _ _ h1).mono ?_
  rintro e w2 ⟨c1, rfl, HC1, hb1⟩
  replace h1 := h1.later hb1
  replace hb := hb.trans (hb1.mono hb.size)
  clear hb1
  go_wp2_with fail
  refine (HCH.out _ _ h1).mono ?_
  rintro e w3 ⟨c2, rfl, HC2, hb1⟩
  replace h1 := h1.later hb1
  replace hb := hb.trans (hb1.mono hb.size)
  clear hb1
  have hc1 : ((c1 : Int) == 0) = bs := HC1.out.bool
  have hc2 : ((c2 : Int) == 0) = bc := HC2.out.bool
  have HT3 := Lib.hid (HTT.out w3 _ h1)
  have HB3 := Lib.hid hb
  have H13 := Lib.hid h1
  have hz3 := hb.size
  clear h1 hb HC1 HC2 HSW HCH HTT
  by_cases h2 : 2 ≤ n
  · have HT2 : Hid (∀ wx v, RT wx v X → Calls Try.prog 15 #[v, .int .i64 4] wx (ChP n n 0 0 [X] (List.replicate 4 0) true wx)) := fun wx v h => by
      have := HTC.out wx v h
      have hk := HTK.out
      rw [decide_eq_true h2] at hk
      unfold TcP tcN tcX tcY at this
      rw [hk, hXl] at this
      simpa using this
    have h2i : (1 : Int) < (n : Int) := by omega
    have h2n : 1 < n := by omega
    clear HTC HTK
    cases bs <;> cases bc
    case false.false =>
      go_wp2_with fail
      refine HT3.out.mono ?_
      rintro e w4 ⟨rfl, hb1⟩
      have HB4 := Lib.hid (HB3.out.trans (hb1.mono hz3))
      have H14 := Lib.hid (H13.out.later hb1)
      clear hb1 HT3
      go_wp2_with fail
      refine (HT2.out w4 _ H14.out).mono ?_
      rintro e w5 ⟨tv, pv, rfl, ho, hy, hb2⟩
      have hr3 := ho.read
      have hrp := hy.read
      obtain ⟨ta, tc, rfl⟩ := hr3.slice
      obtain ⟨pa, pc, rfl⟩ := hrp.slice
      rw [List.length_replicate] at hrp
      have HB5 := Lib.hid (HB4.out.trans (hb2.mono HB4.out.size))
      have hch : ChAt w5.heap.size n n 0 0 (.slice ta 1 tc) (.slice pa 4 pc) (w5.alloc (.cells #[.int .i64 n, .int .i64 n, .int .i64 0, .int .i64 0, .slice ta 1 tc, .slice pa 4 pc] 35)) :=
        ⟨by simp, World.cell?_alloc_at _ _ _ _ rfl, World.cell?_alloc_at _ _ _ _ rfl, World.cell?_alloc_at _ _ _ _ rfl, World.cell?_alloc_at _ _ _ _ rfl, World.cell?_alloc_at _ _ _ _ rfl, World.cell?_alloc_at _ _ _ _ rfl⟩
      have hb6 : Below w5.heap.size w5 (w5.alloc (.cells #[.int .i64 n, .int .i64 n, .int .i64 0, .int .i64 0, .slice ta 1 tc, .slice pa 4 pc] 35)) := (Below.refl _ _).alloc (Nat.le_refl _) _
      have HR6 : Hid (∀ wx, Below w5.heap.size w5 wx → R3 wx (.slice ta 1 tc) [X] ∧ RI wx (.slice pa 4 pc) (List.replicate 4 0) ∧ Below w.heap.size w wx) := fun wx h => ⟨hr3.later h, hrp.later h, HB5.out.trans (h.mono HB5.out.size)⟩
      clear ho hy hb2 hr3 hrp
      go_upto_region 13 with fail
      generalize w5.alloc (.cells #[.int .i64 n, .int .i64 n, .int .i64 0, .int .i64 0, .slice ta 1 tc, .slice pa 4 pc] 35) = w6 at *
      have k0 := hch.c0
      have k1 := hch.c1
      have k2 := hch.c2
      have k3 := hch.c3
      have k4 := hch.c4
      have k5 := hch.c5
      have HC6 := Lib.hid hch
      have HB6 := Lib.hid hb6
      have HI02 := Lib.hid (HI0.out _ _ w6 h2 (HR6.out _ hb6).1 (HR6.out _ hb6).2.1)
      clear hch hb6 HI0
      go_wp2_with fail
      refine HI02.out.mono ?_
      rintro e w7 ⟨rfl, hb7⟩
      clear k0 k1 k2 k3 k4 k5 HI02
      have hch := HC6.out.later hb7
      have hb7' := HB6.out.trans (hb7.mono HB6.out.size)
      have k0 := hch.c0
      have k1 := hch.c1
      have k2 := hch.c2
      have k3 := hch.c3
      have k4 := hch.c4
      have k5 := hch.c5
      have HB7 := Lib.hid hb7'
      have HI12 := Lib.hid (HI1.out _ _ w7 h2 (HR6.out _ hb7').1 (HR6.out _ hb7').2.1)
      clear hch hb7 hb7' HI1
      go_wp2_with fail
      refine HI12.out.mono ?_
      rintro e w8 ⟨rfl, hb8⟩
      have HB8 := Lib.hid (HR6.out _ (HB7.out.trans (hb8.mono HB7.out.size))).2.2
      clear k0 k1 k2 k3 k4 k5 HI12 hb8
      go_wp2_with fail
      go_ret
      exact ⟨rfl, HB8.out⟩
    case false.true =>
      go_wp2_with fail
      refine HT3.out.mono ?_
      rintro e w4 ⟨rfl, hb1⟩
      have HB4 := Lib.hid (HB3.out.trans (hb1.mono hz3))
      have H14 := Lib.hid (H13.out.later hb1)
      clear hb1 HT3
      go_wp2_with fail
      refine (HT2.out w4 _ H14.out).mono ?_
      rintro e w5 ⟨tv, pv, rfl, ho, hy, hb2⟩
      have hr3 := ho.read
      have hrp := hy.read
      obtain ⟨ta, tc, rfl⟩ := hr3.slice
      obtain ⟨pa, pc, rfl⟩ := hrp.slice
      rw [List.length_replicate] at hrp
      have HB5 := Lib.hid (HB4.out.trans (hb2.mono HB4.out.size))
      have hch : ChAt w5.heap.size n n 0 0 (.slice ta 1 tc) (.slice pa 4 pc) (w5.alloc (.cells #[.int .i64 n, .int .i64 n, .int .i64 0, .int .i64 0, .slice ta 1 tc, .slice pa 4 pc] 35)) :=
        ⟨by simp, World.cell?_alloc_at _ _ _ _ rfl, World.cell?_alloc_at _ _ _ _ rfl, World.cell?_alloc_at _ _ _ _ rfl, World.cell?_alloc_at _ _ _ _ rfl, World.cell?_alloc_at _ _ _ _ rfl, World.cell?_alloc_at _ _ _ _ rfl⟩
      have hb6 : Below w5.heap.size w5 (w5.alloc (.cells #[.int .i64 n, .int .i64 n, .int .i64 0, .int .i64 0, .slice ta 1 tc, .slice pa 4 pc] 35)) := (Below.refl _ _).alloc (Nat.le_refl _) _
      have HR6 : Hid (∀ wx, Below w5.heap.size w5 wx → R3 wx (.slice ta 1 tc) [X] ∧ RI wx (.slice pa 4 pc) (List.replicate 4 0) ∧ Below w.heap.size w wx) := fun wx h => ⟨hr3.later h, hrp.later h, HB5.out.trans (h.mono HB5.out.size)⟩
      clear ho hy hb2 hr3 hrp
      go_upto_region 13 with fail
      generalize w5.alloc (.cells #[.int .i64 n, .int .i64 n, .int .i64 0, .int .i64 0, .slice ta 1 tc, .slice pa 4 pc] 35) = w6 at *
      have k0 := hch.c0
      have k1 := hch.c1
      have k2 := hch.c2
      have k3 := hch.c3
      have k4 := hch.c4
      have k5 := hch.c5
      have HC6 := Lib.hid hch
      have HB6 := Lib.hid hb6
      have HI02 := Lib.hid (HI0.out _ _ w6 h2 (HR6.out _ hb6).1 (HR6.out _ hb6).2.1)
      clear hch hb6 HI0
      go_wp2_with fail
      refine HI02.out.mono ?_
      rintro e w7 ⟨rfl, hb7⟩
      clear k0 k1 k2 k3 k4 k5 HI02
      have hch := HC6.out.later hb7
      have hb7' := HB6.out.trans (hb7.mono HB6.out.size)
      have k0 := hch.c0
      have k1 := hch.c1
      have k2 := hch.c2
      have k3 := hch.c3
      have k4 := hch.c4
      have k5 := hch.c5
      have HB7 := Lib.hid hb7'
      have HI12 := Lib.hid (HI1.out _ _ w7 h2 (HR6.out _ hb7').1 (HR6.out _ hb7').2.1)
      clear hch hb7 hb7' HI1
      go_wp2_with fail
      refine HI12.out.mono ?_
      rintro e w8 ⟨rfl, hb8⟩
      have HB8 := Lib.hid (HR6.out _ (HB7.out.trans (hb8.mono HB7.out.size))).2.2
      clear k0 k1 k2 k3 k4 k5 HI12 hb8
      go_wp2_with fail
      go_ret
      exact ⟨rfl, HB8.out⟩
    case true.false =>
      go_wp2_with fail
      refine HT3.out.mono ?_
      rintro e w4 ⟨rfl, hb1⟩
      have HB4 := Lib.hid (HB3.out.trans (hb1.mono hz3))
      have H14 := Lib.hid (H13.out.later hb1)
      clear hb1 HT3
      go_wp2_with fail
      refine (HT2.out w4 _ H14.out).mono ?_
      rintro e w5 ⟨tv, pv, rfl, ho, hy, hb2⟩
      have hr3 := ho.read
      have hrp := hy.read
      obtain ⟨ta, tc, rfl⟩ := hr3.slice
      obtain ⟨pa, pc, rfl⟩ := hrp.slice
      rw [List.length_replicate] at hrp
      have HB5 := Lib.hid (HB4.out.trans (hb2.mono HB4.out.size))
      have hch : ChAt w5.heap.size n n 0 0 (.slice ta 1 tc) (.slice pa 4 pc) (w5.alloc (.cells #[.int .i64 n, .int .i64 n, .int .i64 0, .int .i64 0, .slice ta 1 tc, .slice pa 4 pc] 35)) :=
        ⟨by simp, World.cell?_alloc_at _ _ _ _ rfl, World.cell?_alloc_at _ _ _ _ rfl, World.cell?_alloc_at _ _ _ _ rfl, World.cell?_alloc_at _ _ _ _ rfl, World.cell?_alloc_at _ _ _ _ rfl, World.cell?_alloc_at _ _ _ _ rfl⟩
      have hb6 : Below w5.heap.size w5 (w5.alloc (.cells #[.int .i64 n, .int .i64 n, .int .i64 0, .int .i64 0, .slice ta 1 tc, .slice pa 4 pc] 35)) := (Below.refl _ _).alloc (Nat.le_refl _) _
      have HR6 : Hid (∀ wx, Below w5.heap.size w5 wx → R3 wx (.slice ta 1 tc) [X] ∧ RI wx (.slice pa 4 pc) (List.replicate 4 0) ∧ Below w.heap.size w wx) := fun wx h => ⟨hr3.later h, hrp.later h, HB5.out.trans (h.mono HB5.out.size)⟩
      clear ho hy hb2 hr3 hrp
      go_upto_region 13 with fail
      generalize w5.alloc (.cells #[.int .i64 n, .int .i64 n, .int .i64 0, .int .i64 0, .slice ta 1 tc, .slice pa 4 pc] 35) = w6 at *
      have k0 := hch.c0
      have k1 := hch.c1
      have k2 := hch.c2
      have k3 := hch.c3
      have k4 := hch.c4
      have k5 := hch.c5
      have HC6 := Lib.hid hch
      have HB6 := Lib.hid hb6
      have HI02 := Lib.hid (HI0.out _ _ w6 h2 (HR6.out _ hb6).1 (HR6.out _ hb6).2.1)
      clear hch hb6 HI0
      go_wp2_with fail
      refine HI02.out.mono ?_
      rintro e w7 ⟨rfl, hb7⟩
      clear k0 k1 k2 k3 k4 k5 HI02
      have hch := HC6.out.later hb7
      have hb7' := HB6.out.trans (hb7.mono HB6.out.size)
      have k0 := hch.c0
      have k1 := hch.c1
      have k2 := hch.c2
      have k3 := hch.c3
      have k4 := hch.c4
      have k5 := hch.c5
      have HB7 := Lib.hid hb7'
      have HI12 := Lib.hid (HI1.out _ _ w7 h2 (HR6.out _ hb7').1 (HR6.out _ hb7').2.1)
      clear hch hb7 hb7' HI1
      go_wp2_with fail
      refine HI12.out.mono ?_
      rintro e w8 ⟨rfl, hb8⟩
      have HB8 := Lib.hid (HR6.out _ (HB7.out.trans (hb8.mono HB7.out.size))).2.2
      clear k0 k1 k2 k3 k4 k5 HI12 hb8
      go_wp2_with fail
      go_ret
      exact ⟨rfl, HB8.out⟩
    case true.true =>
      go_wp2_with fail
      refine HT3.out.mono ?_
      rintro e w4 ⟨rfl, hb1⟩
      have HB4 := Lib.hid (HB3.out.trans (hb1.mono hz3))
      have H14 := Lib.hid (H13.out.later hb1)
      clear hb1 HT3
      go_wp2_with fail
      refine (HT2.out w4 _ H14.out).mono ?_
      rintro e w5 ⟨tv, pv, rfl, ho, hy, hb2⟩
      have hr3 := ho.read
      have hrp := hy.read
      obtain ⟨ta, tc, rfl⟩ := hr3.slice
      obtain ⟨pa, pc, rfl⟩ := hrp.slice
      rw [List.length_replicate] at hrp
      have HB5 := Lib.hid (HB4.out.trans (hb2.mono HB4.out.size))
      have hch : ChAt w5.heap.size n n 0 0 (.slice ta 1 tc) (.slice pa 4 pc) (w5.alloc (.cells #[.int .i64 n, .int .i64 n, .int .i64 0, .int .i64 0, .slice ta 1 tc, .slice pa 4 pc] 35)) :=
        ⟨by simp, World.cell?_alloc_at _ _ _ _ rfl, World.cell?_alloc_at _ _ _ _ rfl, World.cell?_alloc_at _ _ _ _ rfl, World.cell?_alloc_at _ _ _ _ rfl, World.cell?_alloc_at _ _ _ _ rfl, World.cell?_alloc_at _ _ _ _ rfl⟩
      have hb6 : Below w5.heap.size w5 (w5.alloc (.cells #[.int .i64 n, .int .i64 n, .int .i64 0, .int .i64 0, .slice ta 1 tc, .slice pa 4 pc] 35)) := (Below.refl _ _).alloc (Nat.le_refl _) _
      have HR6 : Hid (∀ wx, Below w5.heap.size w5 wx → R3 wx (.slice ta 1 tc) [X] ∧ RI wx (.slice pa 4 pc) (List.replicate 4 0) ∧ Below w.heap.size w wx) := fun wx h => ⟨hr3.later h, hrp.later h, HB5.out.trans (h.mono HB5.out.size)⟩
      clear ho hy hb2 hr3 hrp
      go_upto_region 13 with fail
      generalize w5.alloc (.cells #[.int .i64 n, .int .i64 n, .int .i64 0, .int .i64 0, .slice ta 1 tc, .slice pa 4 pc] 35) = w6 at *
      have k0 := hch.c0
      have k1 := hch.c1
      have k2 := hch.c2
      have k3 := hch.c3
      have k4 := hch.c4
      have k5 := hch.c5
      have HC6 := Lib.hid hch
      have HB6 := Lib.hid hb6
      have HI02 := Lib.hid (HI0.out _ _ w6 h2 (HR6.out _ hb6).1 (HR6.out _ hb6).2.1)
      clear hch hb6 HI0
      go_wp2_with fail
      refine HI02.out.mono ?_
      rintro e w7 ⟨rfl, hb7⟩
      clear k0 k1 k2 k3 k4 k5 HI02
      have hch := HC6.out.later hb7
      have hb7' := HB6.out.trans (hb7.mono HB6.out.size)
      have k0 := hch.c0
      have k1 := hch.c1
      have k2 := hch.c2
      have k3 := hch.c3
      have k4 := hch.c4
      have k5 := hch.c5
      have HB7 := Lib.hid hb7'
      have HI12 := Lib.hid (HI1.out _ _ w7 h2 (HR6.out _ hb7').1 (HR6.out _ hb7').2.1)
      clear hch hb7 hb7' HI1
      go_wp2_with fail
      refine HI12.out.mono ?_
      rintro e w8 ⟨rfl, hb8⟩
      have HB8 := Lib.hid (HR6.out _ (HB7.out.trans (hb8.mono HB7.out.size))).2.2
      clear k0 k1 k2 k3 k4 k5 HI12 hb8
      go_wp2_with fail
      go_ret
      exact ⟨rfl, HB8.out⟩
  · have HT1 : Hid (∀ wx v, RT wx v X → Calls Try.prog 15 #[v, .int .i64 4] wx (ChP 0 0 0 0 [] [] false wx)) := fun wx v h => by
      have := HTC.out wx v h
      have hk := HTK.out
      rw [decide_eq_false h2] at hk
      unfold TcP tcN tcX tcY at this
      rw [hk] at this
      simpa using this
    have h2i : ¬ (1 : Int) < (n : Int) := by omega
    have h2n : ¬ 1 < n := by omega
    clear HTC HTK HI0 HI1
    cases bs <;> cases bc
    case false.false =>
      go_wp2_with fail
      refine HT3.out.mono ?_
      rintro e w4 ⟨rfl, hb1⟩
      have HB4 := Lib.hid (HB3.out.trans (hb1.mono hz3))
      have H14 := Lib.hid (H13.out.later hb1)
      clear hb1 HT3
      go_wp2_with fail
      refine (HT1.out w4 _ H14.out).mono ?_
      rintro e w5 ⟨tv, pv, rfl, ho, hy, hb2⟩
      obtain ⟨ta, tc, rfl⟩ := ho.slice
      obtain ⟨pa, pc, rfl⟩ := hy.slice
      have HB5 := Lib.hid (HB4.out.trans (hb2.mono HB4.out.size))
      clear ho hy hb2
      go_upto_region 9 with fail
      have HB6 : Hid (∀ wx, Below w5.heap.size w5 wx → Below w.heap.size w wx) := fun wx h => HB5.out.trans (h.mono HB5.out.size)
      go_wp2_with fail
      go_ret
      exact ⟨rfl, HB6.out _ ((Below.refl _ _).alloc (Nat.le_refl _) _)⟩
    case false.true =>
      go_wp2_with fail
      refine HT3.out.mono ?_
      rintro e w4 ⟨rfl, hb1⟩
      have HB4 := Lib.hid (HB3.out.trans (hb1.mono hz3))
      have H14 := Lib.hid (H13.out.later hb1)
      clear hb1 HT3
      go_wp2_with fail
      refine (HT1.out w4 _ H14.out).mono ?_
      rintro e w5 ⟨tv, pv, rfl, ho, hy, hb2⟩
      obtain ⟨ta, tc, rfl⟩ := ho.slice
      obtain ⟨pa, pc, rfl⟩ := hy.slice
      have HB5 := Lib.hid (HB4.out.trans (hb2.mono HB4.out.size))
      clear ho hy hb2
      go_upto_region 9 with fail
      have HB6 : Hid (∀ wx, Below w5.heap.size w5 wx → Below w.heap.size w wx) := fun wx h => HB5.out.trans (h.mono HB5.out.size)
      go_wp2_with fail
      go_ret
      exact ⟨rfl, HB6.out _ ((Below.refl _ _).alloc (Nat.le_refl _) _)⟩
    case true.false =>
      go_wp2_with fail
      refine HT3.out.mono ?_
      rintro e w4 ⟨rfl, hb1⟩
      have HB4 := Lib.hid (HB3.out.trans (hb1.mono hz3))
      have H14 := Lib.hid (H13.out.later hb1)
      clear hb1 HT3
      go_wp2_with fail
      refine (HT1.out w4 _ H14.out).mono ?_
      rintro e w5 ⟨tv, pv, rfl, ho, hy, hb2⟩
      obtain ⟨ta, tc, rfl⟩ := ho.slice
      obtain ⟨pa, pc, rfl⟩ := hy.slice
      have HB5 := Lib.hid (HB4.out.trans (hb2.mono HB4.out.size))
      clear ho hy hb2
      go_upto_region 9 with fail
      have HB6 : Hid (∀ wx, Below w5.heap.size w5 wx → Below w.heap.size w wx) := fun wx h => HB5.out.trans (h.mono HB5.out.size)
      go_wp2_with fail
      go_ret
      exact ⟨rfl, HB6.out _ ((Below.refl _ _).alloc (Nat.le_refl _) _)⟩
    case true.true =>
      go_wp2_with fail
      refine HT3.out.mono ?_
      rintro e w4 ⟨rfl, hb1⟩
      have HB4 := Lib.hid (HB3.out.trans (hb1.mono hz3))
      have H14 := Lib.hid (H13.out.later hb1)
      clear hb1 HT3
      go_wp2_with fail
      refine (HT1.out w4 _ H14.out).mono ?_
      rintro e w5 ⟨tv, pv, rfl, ho, hy, hb2⟩
      obtain ⟨ta, tc, rfl⟩ := ho.slice
      obtain ⟨pa, pc, rfl⟩ := hy.slice
      have HB5 := Lib.hid (HB4.out.trans (hb2.mono HB4.out.size))
      clear ho hy hb2
      go_upto_region 9 with fail
      have HB6 : Hid (∀ wx, Below w5.heap.size w5 wx → Below w.heap.size w wx) := fun wx h => HB5.out.trans (h.mono HB5.out.size)
      go_wp2_with fail
      go_ret
      exact ⟨rfl, HB6.out _ ((Below.refl _ _).alloc (Nat.le_refl _) _)⟩
end Go.Proofs.Ythcnhkjiojeemaa
