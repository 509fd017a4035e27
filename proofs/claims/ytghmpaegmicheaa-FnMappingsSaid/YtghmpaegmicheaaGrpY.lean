/- What the program's functions answer for a group that is right. -/
import Derived.Test.YtghmpaegmicheaaGrpO
import Derived.Test.YtghmpaegmicheaaGrpZL
import Derived.Test.YtghmpaegmicheaaB10G
import Derived.Test.YtghmpaegmicheaaLagr
namespace Go.Proofs.Ytghmpaegmicheaa
open Go.RowKit

/-- A group lies in box p. -/
structure GB (p : Nat) (ua : Option Addr) (uc : Nat) (x : List (List Int)) (w : World) : Prop where
  c : w.cell? ⟨p, 0, none⟩ = some (.slice ua x.length uc)
  r : RT w (.slice ua x.length uc) x
theorem GB.lt {p : Nat} {ua : Option Addr} {uc : Nat} {x : List (List Int)} {w : World} (h : GB p ua uc x w) : p < w.heap.size := World.block_lt_of_cell? w _ h.c
theorem GB.later {p : Nat} {ua : Option Addr} {uc : Nat} {x : List (List Int)} {w w' : World} (h : GB p ua uc x w) (hb : Below w.heap.size w w') : GB p ua uc x w' :=
  ⟨(hb.cell (p := ⟨p, 0, none⟩) h.lt).trans h.c, h.r.later hb⟩
theorem GB.box {B S : Nat} {ua : Option Addr} {uc : Nat} {x : List (List Int)} {w : World} (h : OT B S w (.slice ua x.length uc) x) (T : TypeId) : GB w.heap.size ua uc x (w.alloc (.cells #[.slice ua x.length uc] T)) :=
  ⟨World.cell?_alloc_at _ _ _ _ rfl, h.read.later ((Below.refl _ _).alloc (Nat.le_refl _) _)⟩
theorem Gp.small {x : List (List Int)} (G : Gp x) : x.length ≤ 1048576 ∧ Small x := by
  have h := sqB_iff.1 G.sq
  exact ⟨by omega, fun j hj => by have := (h.2 j hj).1; omega⟩
theorem hasB_nat {x : List (List Int)} (hg : grpB x = true) {k : Nat} (hk : k < x.length) : hasB x (k : Int) = true := hasB_iff.2 ⟨hg, by omega, by omega⟩
theorem idY (v : Value) (x : List (List Int)) (w : World) (hx : RT w v x) (hg : Hid (grpB x = true)) :
    Calls Try.prog 29 #[.agg #[v]] w fun e w' => e = .returned (.tuple #[.int .i64 (one x : Nat), .bool true]) ∧ Below w.heap.size w w' := by
  have G := Gp.of hg.out
  have := implId_any v x w hx G.small.1 G.small.2
  unfold idnV at this
  rw [hg.out, G.idn_eq] at this
  exact this
def InvY (x : List (List Int)) (k : Nat) (w : World) (e : Ending) (w' : World) : Prop := ∃ y : Nat, e = .returned (.tuple #[.int .i64 y, .bool true]) ∧ y < x.length ∧ Hid (mul x k y = one x ∧ mul x y k = one x) ∧ Below w.heap.size w w'
theorem invY (v : Value) (x : List (List Int)) (k : Nat) (w : World) (hx : RT w v x) (hg : Hid (grpB x = true)) (hk : k < x.length) :
    Calls Try.prog 30 #[.agg #[v], .int .i64 k] w (InvY x k w) := by
  have G := Gp.of hg.out
  have := implInv_any v x k w hx G.small.1 G.small.2
  unfold invV at this
  rw [hasB_nat hg.out hk] at this
  obtain ⟨b, hb, h1, h2, h3⟩ := G.inv k hk
  simp only [if_true, Int.toNat_natCast, h3] at this
  exact this.mono fun e w' h => ⟨b, h.1, hb, ⟨h1, h2⟩, h.2⟩
theorem powY (v : Value) (x : List (List Int)) (k m : Nat) (w : World) (hx : RT w v x) (hg : Hid (grpB x = true)) (hk : k < x.length) (hm : m ≤ 1000) :
    Calls Try.prog 31 #[.agg #[v], .int .i64 k, .int .i64 m] w fun e w' => e = .returned (.tuple #[.int .i64 (pw x k m : Nat), .bool true]) ∧ Below w.heap.size w w' := by
  have G := Gp.of hg.out
  have := implPow_any v x k m w hx G.small.1 G.small.2
  rw [powV_yes (hasB_nat hg.out hk) (inB_yes (by omega))] at this
  exact this
theorem ordY (v : Value) (x : List (List Int)) (k : Nat) (w : World) (hx : RT w v x) (hg : Hid (grpB x = true)) (hk : k < x.length) :
    Calls Try.prog 32 #[.agg #[v], .int .i64 k] w fun e w' => e = .returned (.tuple #[.int .i64 (ord x k : Nat), .bool true]) ∧ Below w.heap.size w w' := by
  have G := Gp.of hg.out
  have := implOrd_any v x k w hx G.small.1 G.small.2
  unfold ordV at this
  rw [hasB_nat hg.out hk] at this
  simp only [if_true, Int.toNat_natCast] at this
  exact this
theorem vgY (v : Value) (x : List (List Int)) (w : World) (hx : RT w v x) (hg : Hid (grpB x = true)) :
    Calls Try.prog 33 #[.agg #[v]] w fun e w' => e = .returned (.bool true) ∧ Below w.heap.size w w' := by
  have G := Gp.of hg.out
  exact implVG_is v x w true hg hx G.small.1 G.small.2
def GrY (w : World) (P : List (List Int) → Prop) (e : Ending) (w' : World) : Prop := ∃ ua x uc, e = .returned (.tuple #[.agg #[.slice ua x.length uc], .bool true]) ∧ OT w.heap.size w'.heap.size w' (.slice ua x.length uc) x ∧ Hid (grpB x = true) ∧ Hid (P x) ∧ Below w.heap.size w w'
theorem dihY (n : Nat) (w : World) (hn : 1 ≤ n ∧ n ≤ 5) : Calls Try.prog 34 #[.int .i64 n] w (GrY w fun _ => True) := by
  refine (implDih_any n w).mono ?_
  rintro e w' ⟨u, h1, h2, h3⟩
  obtain ⟨ua, uc, rfl⟩ := h2.slice
  rw [inB_yes (by omega)] at h1
  refine ⟨ua, _, uc, h1, h2, ?_, trivial, h3⟩
  unfold Hid dihX
  rw [inB_yes (by omega)]
  exact dih_grp hn
theorem cyc_com10 : ∀ n : Fin 10, comB (mkT (n.val + 1) (cycF (n.val + 1))) = true := by decide +kernel
theorem cycY (n : Nat) (w : World) (hn : 1 ≤ n ∧ n ≤ 10) : Calls Try.prog 35 #[.int .i64 n] w (GrY w fun x => comB x = true) := by
  refine (implCyc_any n w).mono ?_
  rintro e w' ⟨u, h1, h2, h3⟩
  obtain ⟨ua, uc, rfl⟩ := h2.slice
  rw [inB_yes (by omega)] at h1
  refine ⟨ua, _, uc, h1, h2, ?_, ?_, h3⟩
  · unfold Hid cycX
    rw [inB_yes (by omega)]
    exact cyc_grp hn
  · unfold Hid cycX
    rw [inB_yes (by omega)]
    have := cyc_com10 ⟨n - 1, by omega⟩
    rwa [show (n - 1) + 1 = n by omega] at this
theorem comY (v : Value) (x : List (List Int)) (w : World) (b : Bool) (hx : RT w v x) (hg : Hid (grpB x = true)) (hb : Hid (comB x = b)) :
    Calls Try.prog 27 #[.agg #[v]] w fun e w' => e = .returned (.bool b) ∧ Below w.heap.size w w' := by
  have G := Gp.of hg.out
  have := implCom_any v x w hx G.small.1 G.small.2
  rw [hb.out] at this; exact this
end Go.Proofs.Ytghmpaegmicheaa
