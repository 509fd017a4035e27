/- TableChain: the program's and the reference's, and the law. -/
import Derived.Test.YthcnhkjiojeemaaChI
import Derived.Test.YthcnhkjiojeemaaQgS
import Derived.Test.YthcnhkjiojeemaaQg
namespace Go.Proofs.Ythcnhkjiojeemaa
open Go.RowKit

def tcOk (x : List (List Int)) (p : Int) : Bool := qgB x && (decide (2 ≤ x.length) && (inB p 1 20 && powB x.length p.toNat))
def tcX (x : List (List Int)) (p : Int) : List (List (List Int)) := if tcOk x p then [x] else []
def tcY (x : List (List Int)) (p : Int) : List Int := if tcOk x p then List.replicate p.toNat 0 else []
def tcN (x : List (List Int)) (p : Int) : Int := if tcOk x p then x.length else 0
abbrev TcP (x : List (List Int)) (p : Int) := ChP (tcN x p) (tcN x p) 0 0 (tcX x p) (tcY x p) (tcOk x p)
abbrev TcR (x : List (List Int)) (p : Int) := ChR (tcN x p) (tcN x p) 0 0 (tcX x p) (tcY x p) (tcOk x p)
theorem TcP.no {x : List (List Int)} {p : Int} {w w' : World} {e : Ending} (h : tcOk x p = false) (hh : ChP 0 0 0 0 [] [] false w e w') : TcP x p w e w' := by
  unfold TcP tcN tcX tcY; rw [h]; exact hh
theorem TcR.no {x : List (List Int)} {p : Int} {w w' : World} {e : Ending} (h : tcOk x p = false) (hh : ChR 0 0 0 0 [] [] false w e w') : TcR x p w e w' := by
  unfold TcR tcN tcX tcY; rw [h]; exact hh
theorem crNil {w0 w : World} (hb : Below w0.heap.size w0 w) : ChR 0 0 0 0 [] [] false w0 (.returned (.tuple #[.agg #[.int .i64 0, .int .i64 0, .int .i64 0, .int .i64 0, .slice none 0 0, .slice none 0 0], .bool false])) w :=
  ⟨_, _, rfl, (O3.nil none 0 0 w).read, OK.read (OK.nil 2 _ 0 _), hb⟩
theorem tot_rows (x : List (List Int)) (m : Nat) (h : ∀ i, i < x.length → (rowAt x i).length ≤ m) : tot x ≤ x.length * m := by
  have : ∀ k, k ≤ x.length → tot (x.take k) ≤ k * m := by
    intro k
    induction k with
    | zero => intro _; simp [tot]
    | succ k ih =>
      intro hk
      rw [tot_take _ _ (by omega), Nat.succ_mul]
      have := ih (by omega)
      have := h k (by omega)
      omega
  have h1 := this x.length (Nat.le_refl _)
  rwa [List.take_of_length_le (Nat.le_refl _)] at h1
theorem tc_fine (x : List (List Int)) (p : Int) : Fine3 (tcX x p) (tcY x p) := by
  unfold tcX tcY
  cases h : tcOk x p
  · exact ⟨by simp, by simp [tot3], fun j hj => by simp at hj, by simp⟩
  · unfold tcOk at h
    simp only [Bool.and_eq_true, decide_eq_true_eq] at h
    obtain ⟨hq, h2, hi, hp⟩ := h
    obtain ⟨⟨a1, a2⟩, hl, _⟩ := qgB_iff.1 hq
    have hi2 := inB_iff.1 hi
    have hs := tot_rows x x.length (fun i hi => Nat.le_of_eq (hl i hi))
    have hsq : x.length * x.length ≤ 36 * 36 := Nat.mul_le_mul a2 a2
    refine ⟨by simp, ?_, fun j hj => ?_, by simp; omega⟩
    · simp [tot3]; omega
    · obtain rfl : j = 0 := by simp at hj; omega
      exact ⟨by show x.length ≤ 1000; omega, fun i hi => by have := hl i hi; show (rowAt x i).length ≤ 1000; omega⟩
set_option maxHeartbeats 1000000 in
theorem implTc_q (v : Value) (x : List (List Int)) (p : Int) (w : World) (hx : RT w v x) (hm : x.length ≤ 1048576) (hr : Small x) (hqq : qgB x = false) :
    Calls Try.prog 15 #[v, .int .i64 p] w (ChP 0 0 0 0 [] [] false w) := by
  obtain ⟨a, c, rfl⟩ := hx.slice
  have hb0 : Below w.heap.size w (w.alloc zch) := (Below.refl _ _).alloc (Nat.le_refl _) _
  have fR := AF.fresh w
  have hq := Lib.hid (implQg_any _ x (w.alloc zch) (hx.later hb0) hm hr)
  rw [hqq] at hq
  go_enter Try.func15, Try.ntmps15
  go_wp2_with (go_at_call 18; refine hq.out.mono ?_; rintro e w2 ⟨rfl, hb2⟩; have fR2 := fR.later hb2; have k0 := fR2.ch.c0; have k1 := fR2.ch.c1; have k2 := fR2.ch.c2; have k3 := fR2.ch.c3; have k4 := fR2.ch.c4; have k5 := fR2.ch.c5; have g0 := fR2.fz 0; have g1 := fR2.fz 1; have g2 := fR2.fz 2; have g3 := fR2.fz 3; have g4 := fR2.fz 4; have g5 := fR2.fz 5)
  skip
  have HE := Lib.hid (fun a0 a1 a2 a3 a4 a5 => evNil ((set6 (r := w.heap.size) (w := w2) a0 a1 a2 a3 a4 a5).2 _ _ (Nat.le_refl _) (hb0.trans (hb2.mono hb0.size))))
  skip
  exact bodyPost_ret (v := .tuple #[.agg #[.int .i64 0, .int .i64 0, .int .i64 0, .int .i64 0, .slice none 0 0, .slice none 0 0], .bool false]) (by simp [results, Try.results15, go_sem, k0, k1, k2, k3, k4, k5]) rfl (HE.out _ _ _ _ _ _)
set_option maxHeartbeats 1000000 in
theorem implTc_2 (v : Value) (x : List (List Int)) (p : Int) (w : World) (hx : RT w v x) (hm : x.length ≤ 1048576) (hr : Small x) (hqq : qgB x = true) (h2 : x.length < 2) :
    Calls Try.prog 15 #[v, .int .i64 p] w (ChP 0 0 0 0 [] [] false w) := by
  obtain ⟨a, c, rfl⟩ := hx.slice
  have hb0 : Below w.heap.size w (w.alloc zch) := (Below.refl _ _).alloc (Nat.le_refl _) _
  have fR := AF.fresh w
  have hq := Lib.hid (implQg_any _ x (w.alloc zch) (hx.later hb0) hm hr)
  rw [hqq] at hq; have h2' : (x.length : Int) < 2 := by omega
  go_enter Try.func15, Try.ntmps15
  go_wp2_with (go_at_call 18; refine hq.out.mono ?_; rintro e w2 ⟨rfl, hb2⟩; have fR2 := fR.later hb2; have k0 := fR2.ch.c0; have k1 := fR2.ch.c1; have k2 := fR2.ch.c2; have k3 := fR2.ch.c3; have k4 := fR2.ch.c4; have k5 := fR2.ch.c5; have g0 := fR2.fz 0; have g1 := fR2.fz 1; have g2 := fR2.fz 2; have g3 := fR2.fz 3; have g4 := fR2.fz 4; have g5 := fR2.fz 5)
  skip
  have HE := Lib.hid (fun a0 a1 a2 a3 a4 a5 => evNil ((set6 (r := w.heap.size) (w := w2) a0 a1 a2 a3 a4 a5).2 _ _ (Nat.le_refl _) (hb0.trans (hb2.mono hb0.size))))
  skip
  exact bodyPost_ret (v := .tuple #[.agg #[.int .i64 0, .int .i64 0, .int .i64 0, .int .i64 0, .slice none 0 0, .slice none 0 0], .bool false]) (by simp [results, Try.results15, go_sem, k0, k1, k2, k3, k4, k5]) rfl (HE.out _ _ _ _ _ _)
set_option maxHeartbeats 1000000 in
theorem implEven_no (v : Value) (x : List (List Int)) (p : Int) (w : World) (hx : RT w v x) (h1 : 1 ≤ x.length) (hp : inB p 1 20 = false) :
    Calls Try.prog 41 #[v, .int .i64 p, .int .i64 0, .int .i64 0] w (ChP 0 0 0 0 [] [] false w) := by
  obtain ⟨a, c, rfl⟩ := hx.slice
  have HI := Lib.hid hp
  have hx0 : ¬ x = [] := by intro e; rw [e] at h1; simp at h1
  have hb0 : Below w.heap.size w (w.alloc zch) := (Below.refl _ _).alloc (Nat.le_refl _) _
  have fR := AF.fresh w
  have k0 := fR.ch.c0
  have k1 := fR.ch.c1
  have k2 := fR.ch.c2
  have k3 := fR.ch.c3
  have k4 := fR.ch.c4
  have k5 := fR.ch.c5
  go_enter Try.func41, Try.ntmps41
  go_wp2_with (go_at_call 32; refine (cin_is _ _ _ _ false HI).mono ?_; rintro e w' ⟨rfl, rfl⟩)
  exact bodyPost_ret (v := .tuple #[.agg #[.int .i64 0, .int .i64 0, .int .i64 0, .int .i64 0, .slice none 0 0, .slice none 0 0], .bool false]) (by simp [results, Try.results41, go_sem]) rfl (evNil hb0)
/-- A chain that a callee made, stored into the result's box. -/
theorem chStore {w0 w2 w3 : World} {b n s e0 : Int} {tv pv : Value} {x : List (List (List Int))} {ys : List Int} {ok : Bool} (ho : O3 pv.ownBlock w2.heap.size w3.heap.size w3 tv x) (hy : OI w2.heap.size w3 pv ys) (hb3 : Below w2.heap.size w2 w3) (hb : Below w0.heap.size w0 w2) (hr : w0.heap.size < w2.heap.size) (a0 a1 a2 a3 a4 a5 : Value) :
    ChP b n s e0 x ys ok w0 (.returned (.tuple #[.agg #[.int .i64 b, .int .i64 n, .int .i64 s, .int .i64 e0, tv, pv], .bool ok]))
      ((((((w3.setCell ⟨w0.heap.size, 0, none⟩ a0).setCell ⟨w0.heap.size, 1, none⟩ a1).setCell ⟨w0.heap.size, 2, none⟩ a2).setCell ⟨w0.heap.size, 3, none⟩ a3).setCell ⟨w0.heap.size, 4, none⟩ a4).setCell ⟨w0.heap.size, 5, none⟩ a5) := by
  obtain ⟨s1, s2⟩ := set6 (r := w0.heap.size) (w := w3) a0 a1 a2 a3 a4 a5
  have hz : ((((((w3.setCell ⟨w0.heap.size, 0, none⟩ a0).setCell ⟨w0.heap.size, 1, none⟩ a1).setCell ⟨w0.heap.size, 2, none⟩ a2).setCell ⟨w0.heap.size, 3, none⟩ a3).setCell ⟨w0.heap.size, 4, none⟩ a4).setCell ⟨w0.heap.size, 5, none⟩ a5).heap.size = w3.heap.size := by simp
  refine ⟨_, _, rfl, ?_, (OV.heap hy fun k hk => s1 k (by have := hy.lt k hk; omega)).mono (by omega), s2 _ _ (Nat.le_refl _) (hb.trans (hb3.mono hb.size))⟩
  rw [hz]
  exact (ho.keep fun k k1 _ => s1 k (by omega)).monoB (by omega)
set_option maxHeartbeats 1000000 in
theorem implTc_any (v : Value) (x : List (List Int)) (p : Int) (w : World) (hx : RT w v x) (hm : x.length ≤ 1048576) (hr : Small x) :
    Calls Try.prog 15 #[v, .int .i64 p] w (TcP x p w) := by
  cases hq : qgB x
  · exact (implTc_q v x p w hx hm hr hq).mono fun e w' h => TcP.no (by unfold tcOk; rw [hq]; rfl) h
  by_cases h2 : x.length < 2
  · exact (implTc_2 v x p w hx hm hr hq h2).mono fun e w' h => TcP.no (by unfold tcOk; rw [decide_eq_false (by omega)]; simp) h
  obtain ⟨⟨h1, h36⟩, _, _⟩ := qgB_iff.1 hq
  have HEV : Hid (∀ wx, Below w.heap.size w wx → Calls Try.prog 41 #[v, .int .i64 p, .int .i64 0, .int .i64 0] wx (TcP x p wx)) := fun wx hb => by
    cases hi : inB p 1 20
    · exact (implEven_no v x p wx (hx.later hb) h1 hi).mono fun e w' h => TcP.no (by unfold tcOk; rw [hi]; simp) h
    · have hi2 := inB_iff.1 hi
      obtain ⟨q, rfl⟩ := Int.eq_ofNat_of_zero_le (show 0 ≤ p by omega)
      refine (implEven_any v x q wx (hx.later hb) (by omega) hr hq (by omega)).mono fun e w' h => ?_
      cases hp : powB x.length q
      · rw [hp] at h
        exact TcP.no (by unfold tcOk; rw [Int.toNat_natCast, hp]; simp) (by simpa using h)
      · rw [hp] at h
        have hk : tcOk x (q : Int) = true := by
          unfold tcOk; rw [Int.toNat_natCast, hp, hi, hq, decide_eq_true (by omega)]; rfl
        unfold TcP tcN tcX tcY
        rw [hk, Int.toNat_natCast]
        simpa using h
  have HZ : Hid (∃ a c, tcX x p = tcX x p ∧ a = (none : Option Addr) ∧ c = 0) := ⟨none, 0, rfl, rfl, rfl⟩
  obtain ⟨a, c, rfl⟩ := hx.slice
  have hb0 : Below w.heap.size w (w.alloc zch) := (Below.refl _ _).alloc (Nat.le_refl _) _
  have hz0 : w.heap.size < (w.alloc zch).heap.size := by simp
  have fR := AF.fresh w
  have HQ := Lib.hid (implQg_any _ x (w.alloc zch) (hx.later hb0) hm hr)
  rw [hq] at HQ
  have hcl : ¬ (x.length : Int) < 2 := by omega
  obtain ⟨x3, hx3⟩ : ∃ l, l = tcX x p := ⟨_, rfl⟩
  obtain ⟨ys, hys⟩ : ∃ l, l = tcY x p := ⟨_, rfl⟩
  obtain ⟨n, hn⟩ : ∃ l, l = tcN x p := ⟨_, rfl⟩
  obtain ⟨ok, hok⟩ : ∃ l, l = tcOk x p := ⟨_, rfl⟩
  unfold TcP at HEV ⊢
  rw [← hx3, ← hys, ← hn, ← hok] at HEV ⊢
  clear hx3 hys hn hok hq hx h2 h1 h36 HZ
  go_enter Try.func15, Try.ntmps15
  go_wp2_with (go_at_call 18; refine HQ.out.mono ?_; rintro e w2 ⟨rfl, hb2⟩)
  have hbb := hb0.trans (hb2.mono hb0.size)
  refine (HEV.out _ hbb).mono ?_
  rintro e w3 ⟨tv, pv, rfl, ho, hy, hb3⟩
  have hr2 : w.heap.size < w2.heap.size := Nat.lt_of_lt_of_le hz0 hb2.size
  have fR3 := (fR.later hb2).later hb3
  have k0 := fR3.ch.c0
  have k1 := fR3.ch.c1
  have k2 := fR3.ch.c2
  have k3 := fR3.ch.c3
  have k4 := fR3.ch.c4
  have k5 := fR3.ch.c5
  have g0 := fR3.fz 0
  have g1 := fR3.fz 1
  have g2 := fR3.fz 2
  have g3 := fR3.fz 3
  have g4 := fR3.fz 4
  have g5 := fR3.fz 5
  obtain ⟨ta, tc, rfl⟩ := ho.slice
  obtain ⟨pa, pc, rfl⟩ := hy.slice
  have HE := Lib.hid (fun a0 a1 a2 a3 a4 a5 => chStore (b := n) (n := n) (s := 0) (e0 := 0) (ok := ok) ho hy hb3 hbb hr2 a0 a1 a2 a3 a4 a5)
  clear ho hy fR fR3
  go_wp2_with fail
  exact bodyPost_ret (v := .tuple #[.agg #[.int .i64 n, .int .i64 n, .int .i64 0, .int .i64 0, .slice ta x3.length tc, .slice pa ys.length pc], .bool ok]) (by simp [results, Try.results15, go_sem, k0, k1, k2, k3, k4, k5]) rfl (HE.out _ _ _ _ _ _)
set_option maxHeartbeats 1000000 in
theorem specTc_q (v : Value) (x : List (List Int)) (p : Int) (w : World) (hx : RT w v x) (hm : x.length ≤ 1048576) (hr : Small x) (hqq : qgB x = false) :
    Calls Try.prog 20 #[v, .int .i64 p] w (ChR 0 0 0 0 [] [] false w) := by
  obtain ⟨a, c, rfl⟩ := hx.slice
  have hb0 : Below w.heap.size w (w.alloc zch) := (Below.refl _ _).alloc (Nat.le_refl _) _
  have fR := AF.fresh w
  have hq := Lib.hid (l04Is_any _ x (w.alloc zch) (hx.later hb0) hm hr)
  rw [hqq] at hq
  go_enter Try.func20, Try.ntmps20
  go_wp2_with (first | (go_at_call 47; refine hq.out.mono ?_; rintro e w2 ⟨rfl, hb2⟩; have fR2 := fR.later hb2; have k0 := fR2.ch.c0; have k1 := fR2.ch.c1; have k2 := fR2.ch.c2; have k3 := fR2.ch.c3; have k4 := fR2.ch.c4; have k5 := fR2.ch.c5; have g0 := fR2.fz 0; have g1 := fR2.fz 1; have g2 := fR2.fz 2; have g3 := fR2.fz 3; have g4 := fR2.fz 4; have g5 := fR2.fz 5) | (go_at_call 37; refine (cl00In_is _ _ _ _ false (by assumption)).mono ?_; rintro e w' ⟨rfl, rfl⟩))
  have HE := Lib.hid (fun a0 a1 a2 a3 a4 a5 => crNil ((set6 (r := w.heap.size) (w := w2) a0 a1 a2 a3 a4 a5).2 _ _ (Nat.le_refl _) (hb0.trans (hb2.mono hb0.size))))
  exact bodyPost_ret (v := .tuple #[.agg #[.int .i64 0, .int .i64 0, .int .i64 0, .int .i64 0, .slice none 0 0, .slice none 0 0], .bool false]) (by simp [results, Try.results20, go_sem, k0, k1, k2, k3, k4, k5]) rfl (HE.out _ _ _ _ _ _)
set_option maxHeartbeats 1000000 in
theorem specTc_2 (v : Value) (x : List (List Int)) (p : Int) (w : World) (hx : RT w v x) (hm : x.length ≤ 1048576) (hr : Small x) (hqq : qgB x = true) (h2 : x.length < 2) :
    Calls Try.prog 20 #[v, .int .i64 p] w (ChR 0 0 0 0 [] [] false w) := by
  obtain ⟨a, c, rfl⟩ := hx.slice
  have hb0 : Below w.heap.size w (w.alloc zch) := (Below.refl _ _).alloc (Nat.le_refl _) _
  have fR := AF.fresh w
  have hq := Lib.hid (l04Is_any _ x (w.alloc zch) (hx.later hb0) hm hr)
  rw [hqq] at hq; have h2' : (x.length : Int) < 2 := by omega
  go_enter Try.func20, Try.ntmps20
  go_wp2_with (first | (go_at_call 47; refine hq.out.mono ?_; rintro e w2 ⟨rfl, hb2⟩; have fR2 := fR.later hb2; have k0 := fR2.ch.c0; have k1 := fR2.ch.c1; have k2 := fR2.ch.c2; have k3 := fR2.ch.c3; have k4 := fR2.ch.c4; have k5 := fR2.ch.c5; have g0 := fR2.fz 0; have g1 := fR2.fz 1; have g2 := fR2.fz 2; have g3 := fR2.fz 3; have g4 := fR2.fz 4; have g5 := fR2.fz 5) | (go_at_call 37; refine (cl00In_is _ _ _ _ false (by assumption)).mono ?_; rintro e w' ⟨rfl, rfl⟩))
  have HE := Lib.hid (fun a0 a1 a2 a3 a4 a5 => crNil ((set6 (r := w.heap.size) (w := w2) a0 a1 a2 a3 a4 a5).2 _ _ (Nat.le_refl _) (hb0.trans (hb2.mono hb0.size))))
  exact bodyPost_ret (v := .tuple #[.agg #[.int .i64 0, .int .i64 0, .int .i64 0, .int .i64 0, .slice none 0 0, .slice none 0 0], .bool false]) (by simp [results, Try.results20, go_sem, k0, k1, k2, k3, k4, k5]) rfl (HE.out _ _ _ _ _ _)
set_option maxHeartbeats 1000000 in
theorem specTc_p (v : Value) (x : List (List Int)) (p : Int) (w : World) (hx : RT w v x) (hm : x.length ≤ 1048576) (hr : Small x) (hqq : qgB x = true) (h2 : 2 ≤ x.length) (hp : inB p 1 20 = false) :
    Calls Try.prog 20 #[v, .int .i64 p] w (ChR 0 0 0 0 [] [] false w) := by
  obtain ⟨a, c, rfl⟩ := hx.slice
  have hb0 : Below w.heap.size w (w.alloc zch) := (Below.refl _ _).alloc (Nat.le_refl _) _
  have fR := AF.fresh w
  have hq := Lib.hid (l04Is_any _ x (w.alloc zch) (hx.later hb0) hm hr)
  rw [hqq] at hq; have h2' : ¬ (x.length : Int) < 2 := (by omega); have HPP := Lib.hid hp
  go_enter Try.func20, Try.ntmps20
  go_wp2_with (first | (go_at_call 47; refine hq.out.mono ?_; rintro e w2 ⟨rfl, hb2⟩; have fR2 := fR.later hb2; have k0 := fR2.ch.c0; have k1 := fR2.ch.c1; have k2 := fR2.ch.c2; have k3 := fR2.ch.c3; have k4 := fR2.ch.c4; have k5 := fR2.ch.c5; have g0 := fR2.fz 0; have g1 := fR2.fz 1; have g2 := fR2.fz 2; have g3 := fR2.fz 3; have g4 := fR2.fz 4; have g5 := fR2.fz 5) | (go_at_call 37; refine (cl00In_is _ _ _ _ false (by assumption)).mono ?_; rintro e w' ⟨rfl, rfl⟩))
  have HE := Lib.hid (fun a0 a1 a2 a3 a4 a5 => crNil ((set6 (r := w.heap.size) (w := w2) a0 a1 a2 a3 a4 a5).2 _ _ (Nat.le_refl _) (hb0.trans (hb2.mono hb0.size))))
  exact bodyPost_ret (v := .tuple #[.agg #[.int .i64 0, .int .i64 0, .int .i64 0, .int .i64 0, .slice none 0 0, .slice none 0 0], .bool false]) (by simp [results, Try.results20, go_sem, k0, k1, k2, k3, k4, k5]) rfl (HE.out _ _ _ _ _ _)
set_option maxHeartbeats 2000000 in
theorem specTc_go (v : Value) (x : List (List Int)) (p : Nat) (w : World) (hx : RT w v x) (hm : x.length ≤ 1048576) (hr : Small x) (hq : qgB x = true) (h2 : 2 ≤ x.length) (hp : 1 ≤ p ∧ p ≤ 20) :
    Calls Try.prog 20 #[v, .int .i64 p] w (TcR x p w) := by
  obtain ⟨⟨h1, h36⟩, hl, _⟩ := qgB_iff.1 hq
  have hk : tcOk x (p : Int) = powB x.length p := by
    unfold tcOk; rw [Int.toNat_natCast, hq, decide_eq_true h2, inB_yes (by omega)]; rfl
  obtain ⟨pb, hpb⟩ : ∃ pb, pb = powB x.length p := ⟨_, rfl⟩
  rw [← hpb] at hk
  have HK := Lib.hid hk
  have HPB := Lib.hid hpb
  have HP : Hid (inB (p : Int) 1 20 = true) := inB_yes (by omega)
  have HQ := Lib.hid hq
  obtain ⟨a, c, rfl⟩ := hx.slice
  have hb0 : Below w.heap.size w (w.alloc zch) := (Below.refl _ _).alloc (Nat.le_refl _) _
  have hz0 : w.heap.size < (w.alloc zch).heap.size := by simp
  have fR := AF.fresh w
  have HIS := Lib.hid (l04Is_any _ x (w.alloc zch) (hx.later hb0) hm hr)
  rw [hq] at HIS
  have hcl : ¬ (x.length : Int) < 2 := by omega
  have HEV : Hid (∀ wx, Below w.heap.size w wx → Calls Try.prog 48 #[.slice a x.length c, .int .i64 p, .int .i64 0, .int .i64 0] wx fun e w' => ∃ tv pv, e = .returned (.agg #[.int .i64 x.length, .int .i64 x.length, .int .i64 0, .int .i64 0, tv, pv]) ∧ (∀ w'', (∀ q, wx.heap.size ≤ q → q < w'.heap.size → q5 w'' w' q) → R3 w'' tv [x] ∧ RI w'' pv (List.replicate p 0)) ∧ Below wx.heap.size wx w') := fun wx hb => by
    have := l02Even_any _ x p 0 0 wx (hx.later hb) (by omega) hr (by omega)
    rw [hl 0 (by omega)] at this
    exact this
  clear hk hpb hq hx hl
  go_enter Try.func20, Try.ntmps20
  go_wp2_with (first | (go_at_call 47; refine HIS.out.mono ?_; rintro e w2 ⟨rfl, hb2⟩) | (go_at_call 37; refine (cl00In_is _ _ _ _ true (by assumption)).mono ?_; rintro e w' ⟨rfl, rfl⟩))
  have hbb := hb0.trans (hb2.mono hb0.size)
  refine (HEV.out _ hbb).mono ?_
  rintro e w3 ⟨tv, pv, rfl, hrd, hb3⟩
  have hr2 : w.heap.size < w2.heap.size := Nat.lt_of_lt_of_le hz0 hb2.size
  obtain ⟨r1, r2⟩ := hrd w3 (fun _ _ _ => rfl)
  obtain ⟨ta, tc, rfl⟩ := r1.slice
  obtain ⟨pa, pc, rfl⟩ := r2.slice
  simp only [List.length_replicate, List.length_singleton] at *
  have hb4 : Below w3.heap.size w3 (w3.alloc (.cells #[.int .i64 x.length, .int .i64 x.length, .int .i64 0, .int .i64 0, .slice ta 1 tc, .slice pa p pc] 35)) := (Below.refl _ _).alloc (Nat.le_refl _) _
  have hc4 : ChAt w3.heap.size x.length x.length 0 0 (.slice ta 1 tc) (.slice pa p pc) (w3.alloc (.cells #[.int .i64 x.length, .int .i64 x.length, .int .i64 0, .int .i64 0, .slice ta 1 tc, .slice pa p pc] 35)) :=
    ⟨by simp, World.cell?_alloc_at _ _ _ _ rfl, World.cell?_alloc_at _ _ _ _ rfl, World.cell?_alloc_at _ _ _ _ rfl, World.cell?_alloc_at _ _ _ _ rfl, World.cell?_alloc_at _ _ _ _ rfl, World.cell?_alloc_at _ _ _ _ rfl⟩
  have fR4 := ((fR.later hb2).later hb3).later hb4
  have hbb4 := hbb.trans ((hb3.trans (hb4.mono hb3.size)).mono hbb.size)
  have HG := Lib.hid (l02Is_good w3.heap.size x.length x.length 0 0 (.slice ta 1 tc) (.slice pa p pc) [x] (List.replicate p 0) _ hc4 (r1.later hb4) (r2.later hb4) (goodEven HQ.out h2 hp))
  rw [List.length_replicate, ← HPB.out] at HG
  have HRD : Hid (∀ w'', (∀ q, w2.heap.size ≤ q → q < w3.heap.size → q5 w'' w3 q) → R3 w'' (.slice ta 1 tc) [x] ∧ RI w'' (.slice pa p pc) (List.replicate p 0)) := hrd
  have hs34 := hb3.size
  clear hrd r1 r2 fR HIS HEV
  go_wp2_with fail
  have HB4 := Lib.hid hb4
  clear hb4
  generalize hw4 : w3.alloc (.cells #[.int .i64 x.length, .int .i64 x.length, .int .i64 0, .int .i64 0, .slice ta 1 tc, .slice pa p pc] 35) = w4 at *
  clear hw4
  generalize hX : w3.heap.size = X at *
  refine HG.out.mono ?_
  rintro e w5 ⟨rfl, hd⟩
  have hX5 := hc4.drw hd
  have fR5 := fR4.later hd.below
  have hb5 := hbb4.trans (hd.below.mono hbb4.size)
  have k0 := fR5.ch.c0
  have k1 := fR5.ch.c1
  have k2 := fR5.ch.c2
  have k3 := fR5.ch.c3
  have k4 := fR5.ch.c4
  have k5 := fR5.ch.c5
  have g0 := fR5.fz 0
  have g1 := fR5.fz 1
  have g2 := fR5.fz 2
  have g3 := fR5.fz 3
  have g4 := fR5.fz 4
  have g5 := fR5.fz 5
  cases pb
  · have HE := Lib.hid (fun a0 a1 a2 a3 a4 a5 => TcR.no HK.out (crNil ((set6 (r := w.heap.size) (w := w5) a0 a1 a2 a3 a4 a5).2 _ _ (Nat.le_refl _) hb5)))
    go_wp2_with fail
    exact bodyPost_ret (v := .tuple #[.agg #[.int .i64 0, .int .i64 0, .int .i64 0, .int .i64 0, .slice none 0 0, .slice none 0 0], .bool false]) (by simp [results, Try.results20, go_sem, k0, k1, k2, k3, k4, k5]) rfl (HE.out _ _ _ _ _ _)
  · have HE : Hid (∀ a0 a1 a2 a3 a4 a5, TcR x p w (.returned (.tuple #[.agg #[.int .i64 x.length, .int .i64 x.length, .int .i64 0, .int .i64 0, .slice ta 1 tc, .slice pa p pc], .bool true])) ((((((w5.setCell ⟨w.heap.size, 0, none⟩ a0).setCell ⟨w.heap.size, 1, none⟩ a1).setCell ⟨w.heap.size, 2, none⟩ a2).setCell ⟨w.heap.size, 3, none⟩ a3).setCell ⟨w.heap.size, 4, none⟩ a4).setCell ⟨w.heap.size, 5, none⟩ a5)) := fun a0 a1 a2 a3 a4 a5 => by
      obtain ⟨s1, s2⟩ := set6 (r := w.heap.size) (w := w5) a0 a1 a2 a3 a4 a5
      unfold TcR tcN tcX tcY
      rw [HK.out]
      have hd5 := hd.below
      obtain ⟨r1, r2⟩ := HRD.out _ (fun q hq hq2 => (s1 q (by omega)).trans ((hd5.block q (by have := HB4.out.size; omega)).trans (HB4.out.block q hq2)))
      exact ⟨_, _, rfl, r1, r2, s2 _ _ (Nat.le_refl _) hb5⟩
    have c0 := hX5.c0
    have c1 := hX5.c1
    have c2 := hX5.c2
    have c3 := hX5.c3
    have c4 := hX5.c4
    have c5 := hX5.c5
    have hrX : ¬ X = w.heap.size := by omega
    go_wp2_with fail
    exact bodyPost_ret (v := .tuple #[.agg #[.int .i64 x.length, .int .i64 x.length, .int .i64 0, .int .i64 0, .slice ta 1 tc, .slice pa p pc], .bool true]) (by simp [results, Try.results20, go_sem, k0, k1, k2, k3, k4, k5]) rfl (HE.out _ _ _ _ _ _)
end Go.Proofs.Ythcnhkjiojeemaa
