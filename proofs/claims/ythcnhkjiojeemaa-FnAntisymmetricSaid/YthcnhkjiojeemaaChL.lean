/- The laws' helpers over chains. -/
import Derived.Test.YthcnhkjiojeemaaChn
import Derived.Test.YthcnhkjiojeemaaMade
namespace Go.Proofs.Ythcnhkjiojeemaa
open Go.RowKit

/-- What a function of the reference that makes a chain hands back. -/
def ChR (b n s e0 : Int) (x : List (List (List Int))) (ys : List Int) (ok : Bool) (w : World) (e : Ending) (w' : World) : Prop :=
  ∃ tv pv, e = .returned (.tuple #[.agg #[.int .i64 b, .int .i64 n, .int .i64 s, .int .i64 e0, tv, pv], .bool ok]) ∧ R3 w' tv x ∧ RI w' pv ys ∧ Below w.heap.size w w'
/-- What a function of the program that makes a chain hands back. -/
def ChP (b n s e0 : Int) (x : List (List (List Int))) (ys : List Int) (ok : Bool) (w : World) (e : Ending) (w' : World) : Prop :=
  ∃ tv pv, e = .returned (.tuple #[.agg #[.int .i64 b, .int .i64 n, .int .i64 s, .int .i64 e0, tv, pv], .bool ok]) ∧ O3 pv.ownBlock w.heap.size w'.heap.size w' tv x ∧ OI w.heap.size w' pv ys ∧ Below w.heap.size w w'
/-- Chains that the laws' helpers can count. -/
structure Fine3 (x : List (List (List Int))) (ys : List Int) : Prop where
  hl : x.length ≤ 1000
  ht : tot3 x ≤ 1000000
  hr : ∀ j, j < x.length → (tabAt x j).length ≤ 1000 ∧ ∀ i, i < (tabAt x j).length → (rowAt (tabAt x j) i).length ≤ 1000
  hy : ys.length ≤ 1000
theorem O3.chgP {v pv : Value} {ys : List Int} {B B' S : Nat} {w w' : World} {x : List (List (List Int))} (h : O3 pv.ownBlock B S w v x) (hp : OI B' w pv ys) (hc : Chg (vb pv) w w') (hS : S ≤ w.heap.size) : O3 pv.ownBlock B S w' v x := by
  obtain ⟨ts, lo, hi, h1, h2, h3, h4⟩ := h
  have hT : (24 : TypeId) ≠ 2 := by decide
  refine ⟨ts, lo, hi, h1.heap fun k hk => hc.block k (h1.lt k hk).2 (fun hm => OV.ne h1 hp hT k hk (mem_vb.1 hm)), h2, h3, fun j hj => ?_⟩
  obtain ⟨a1, a2, a3, a4, a5⟩ := h4 j hj
  refine ⟨a1.keep fun k k1 k2 => hc.block k (by omega) (fun hm => ?_), a2, a3, a4, a5⟩
  have := a4 k (.inr (mem_vb.1 hm))
  omega
set_option maxHeartbeats 1000000 in
theorem eqChain_yes (tv pv tu pu : Value) (b n s e0 : Int) (x : List (List (List Int))) (ys : List Int) (w : World) (h1 : R3 w tv x) (h2 : RI w pv ys) (h3 : R3 w tu x) (h4 : RI w pu ys) (hF : Fine3 x ys) :
    Calls Try.prog 22 #[.agg #[.int .i64 b, .int .i64 n, .int .i64 s, .int .i64 e0, tv, pv], .agg #[.int .i64 b, .int .i64 n, .int .i64 s, .int .i64 e0, tu, pu]] w fun e w' => e = .returned (.bool true) ∧ Below w.heap.size w w' := by
  obtain ⟨ta, tc, rfl⟩ := h1.slice
  obtain ⟨ua, uc, rfl⟩ := h3.slice
  obtain ⟨pa, pc, rfl⟩ := h2.slice
  obtain ⟨qa, qc, rfl⟩ := h4.slice
  have hb1 : Below w.heap.size w ((w.alloc (.cells #[.int .i64 b, .int .i64 n, .int .i64 s, .int .i64 e0, .slice ta x.length tc, .slice pa ys.length pc] 35)).alloc (.cells #[.int .i64 b, .int .i64 n, .int .i64 s, .int .i64 e0, .slice ua x.length uc, .slice qa ys.length qc] 35)) := ((Below.refl _ _).alloc (Nat.le_refl _) _).alloc (by simp) _
  have hc1 : ChAt w.heap.size b n s e0 (.slice ta x.length tc) (.slice pa ys.length pc) ((w.alloc (.cells #[.int .i64 b, .int .i64 n, .int .i64 s, .int .i64 e0, .slice ta x.length tc, .slice pa ys.length pc] 35)).alloc (.cells #[.int .i64 b, .int .i64 n, .int .i64 s, .int .i64 e0, .slice ua x.length uc, .slice qa ys.length qc] 35)) :=
    ChAt.later ⟨by simp, World.cell?_alloc_at _ _ _ _ rfl, World.cell?_alloc_at _ _ _ _ rfl, World.cell?_alloc_at _ _ _ _ rfl, World.cell?_alloc_at _ _ _ _ rfl, World.cell?_alloc_at _ _ _ _ rfl, World.cell?_alloc_at _ _ _ _ rfl⟩ ((Below.refl _ _).alloc (Nat.le_refl _) _)
  have hs : (w.alloc (.cells #[.int .i64 b, .int .i64 n, .int .i64 s, .int .i64 e0, .slice ta x.length tc, .slice pa ys.length pc] 35)).heap.size = w.heap.size + 1 := by simp
  have hc2 : ChAt (w.heap.size + 1) b n s e0 (.slice ua x.length uc) (.slice qa ys.length qc) ((w.alloc (.cells #[.int .i64 b, .int .i64 n, .int .i64 s, .int .i64 e0, .slice ta x.length tc, .slice pa ys.length pc] 35)).alloc (.cells #[.int .i64 b, .int .i64 n, .int .i64 s, .int .i64 e0, .slice ua x.length uc, .slice qa ys.length qc] 35)) := by
    rw [← hs]
    exact ⟨by simp, World.cell?_alloc_at _ _ _ _ rfl, World.cell?_alloc_at _ _ _ _ rfl, World.cell?_alloc_at _ _ _ _ rfl, World.cell?_alloc_at _ _ _ _ rfl, World.cell?_alloc_at _ _ _ _ rfl, World.cell?_alloc_at _ _ _ _ rfl⟩
  replace h1 := h1.later hb1
  replace h2 := h2.later hb1
  replace h3 := h3.later hb1
  replace h4 := h4.later hb1
  clear hs
  have HR := Lib.hid hF.hr
  obtain ⟨f1, _, _, f4⟩ := hF
  go_enter Try.func22, Try.ntmps22
  go_wp2_with fail
  generalize (w.alloc (.cells #[.int .i64 b, .int .i64 n, .int .i64 s, .int .i64 e0, .slice ta x.length tc, .slice pa ys.length pc] 35)).alloc (.cells #[.int .i64 b, .int .i64 n, .int .i64 s, .int .i64 e0, .slice ua x.length uc, .slice qa ys.length qc] 35) = w1 at *
  refine (eqInt64SSS_q _ _ x _ h1 h3 (by omega) (fun j hj => by obtain ⟨r1, r2⟩ := HR.out j hj; exact ⟨by omega, fun i hi => by have := r2 i hi; omega⟩)).mono ?_
  rintro e w2 ⟨rfl, hd⟩
  have c5 := (hc1.drw hd).c5
  have d5 := (hc2.drw hd).c5
  have hb2 := hb1.trans (hd.below.mono hb1.size)
  replace h2 := h2.later hd.below
  replace h4 := h4.later hd.below
  clear hc1 hc2 h1 h3 hb1 hd
  go_wp2_with fail
  refine (eqInt64S_yes _ _ ys _ h2 h4 (by omega)).mono ?_
  rintro e w3 ⟨rfl, hb3⟩
  go_wp2_with fail
  go_ret
  exact ⟨rfl, hb2.trans (hb3.mono hb2.size)⟩
set_option maxHeartbeats 1000000 in
theorem markChain_any (tv pv : Value) (b n s e0 : Int) (x : List (List (List Int))) (ys : List Int) (k : Int) (w : World) (B S : Nat) (h1 : O3 pv.ownBlock B S w tv x) (h2 : OI B w pv ys) (hS : S ≤ w.heap.size) (hpS : ∀ q, pv.ownBlock = some q → q < S) (hF : Fine3 x ys) (hk : 0 ≤ k ∧ k ≤ 1000) :
    Calls Try.prog 25 #[.agg #[.int .i64 b, .int .i64 n, .int .i64 s, .int .i64 e0, tv, pv], .int .i64 k] w fun e w' => e = .returned (.int .i64 (k + tot3 x + ys.length)) ∧ O3 pv.ownBlock B S w' tv (upsS k x) ∧ OI B w' pv (ups (k + tot3 x) ys.length) ∧ ChgR B S w w' := by
  obtain ⟨ta, tc, rfl⟩ := h1.slice
  obtain ⟨pa, pc, hpv⟩ := h2.slice
  have hb1 : Below w.heap.size w (w.alloc (.cells #[.int .i64 b, .int .i64 n, .int .i64 s, .int .i64 e0, .slice ta x.length tc, .slice pa ys.length pc] 35)) := (Below.refl _ _).alloc (Nat.le_refl _) _
  have hc1 : ChAt w.heap.size b n s e0 (.slice ta x.length tc) (.slice pa ys.length pc) (w.alloc (.cells #[.int .i64 b, .int .i64 n, .int .i64 s, .int .i64 e0, .slice ta x.length tc, .slice pa ys.length pc] 35)) :=
    ⟨by simp, World.cell?_alloc_at _ _ _ _ rfl, World.cell?_alloc_at _ _ _ _ rfl, World.cell?_alloc_at _ _ _ _ rfl, World.cell?_alloc_at _ _ _ _ rfl, World.cell?_alloc_at _ _ _ _ rfl, World.cell?_alloc_at _ _ _ _ rfl⟩
  have hz : S ≤ (w.alloc (.cells #[.int .i64 b, .int .i64 n, .int .i64 s, .int .i64 e0, .slice ta x.length tc, .slice pa ys.length pc] 35)).heap.size := Nat.le_trans hS hb1.size
  have hlt2 := h2.lt
  have hcw : (w.alloc (.cells #[.int .i64 b, .int .i64 n, .int .i64 s, .int .i64 e0, .slice ta x.length tc, .slice pa ys.length pc] 35)).heap.size = w.heap.size + 1 := by simp
  replace h1 := h1.later hb1 hS
  replace h2 := h2.later hb1
  have HR := Lib.hid hF.hr
  obtain ⟨f1, f2, _, f4⟩ := hF
  subst hpv
  go_enter Try.func25, Try.ntmps25
  go_wp2_with fail
  generalize hw1 : w.alloc (.cells #[.int .i64 b, .int .i64 n, .int .i64 s, .int .i64 e0, .slice ta x.length tc, .slice pa ys.length pc] 35) = w1 at *
  clear hw1
  refine (markInt64SSS_any _ x k _ _ B _ h1 (fun q hq => by have := hlt2 q hq; omega) hz (by omega) (by omega) (fun j hj => by have := (HR.out j hj).1; omega)).mono ?_
  rintro e w2 ⟨rfl, o1, hch, hpk⟩
  have o2 : OI B w2 (.slice pa ys.length pc) ys := OV.heap h2 fun q hq => hpk q hq
  have c5 := (hch.cell w.heap.size 5 hc1.lt (.inr hS)).trans hc1.c5
  have hch1 := (Below.chgR (B := B) (S := S) hb1).trans hch
  have hz2 := hch1.size
  clear hc1 h1 h2 hb1 hpk hch
  generalize htt : tot3 x = t at *
  have HTT := Lib.hid htt
  clear htt
  go_wp2_with fail
  refine (markInt64S_any _ ys _ _ B o2 (by omega) (by omega)).mono ?_
  rintro e w3 ⟨rfl, p2, hc3⟩
  have o3 := o1.chgP o2 hc3 (Nat.le_trans hS hz2)
  have hch3 : ChgR B S w2 w3 := ChgR.of_chg hc3 (fun q hq => ⟨(hlt2 q (mem_vb.1 hq)).1, hpS q (mem_vb.1 hq)⟩)
  go_wp2_with fail
  go_ret
  obtain rfl := HTT.out
  exact ⟨by go_num, o3, p2, hch1.trans hch3⟩
set_option maxHeartbeats 1000000 in
theorem heldChain_yes (tv pv : Value) (b n s e0 : Int) (x : List (List (List Int))) (ys : List Int) (k : Int) (w : World) (h1 : R3 w tv (upsS k x)) (h2 : RI w pv (ups (k + tot3 x) ys.length)) (hF : Fine3 x ys) (hk : 0 ≤ k ∧ k ≤ 1000) :
    Calls Try.prog 26 #[.agg #[.int .i64 b, .int .i64 n, .int .i64 s, .int .i64 e0, tv, pv], .int .i64 k] w fun e w' => e = .returned (.int .i64 (k + tot3 x + ys.length)) ∧ Below w.heap.size w w' := by
  obtain ⟨ta, tc, rfl⟩ := h1.slice
  obtain ⟨pa, pc, rfl⟩ := h2.slice
  rw [upsS_length, ups_length] at *
  have hb1 : Below w.heap.size w (w.alloc (.cells #[.int .i64 b, .int .i64 n, .int .i64 s, .int .i64 e0, .slice ta x.length tc, .slice pa ys.length pc] 35)) := (Below.refl _ _).alloc (Nat.le_refl _) _
  have hc1 : ChAt w.heap.size b n s e0 (.slice ta x.length tc) (.slice pa ys.length pc) (w.alloc (.cells #[.int .i64 b, .int .i64 n, .int .i64 s, .int .i64 e0, .slice ta x.length tc, .slice pa ys.length pc] 35)) :=
    ⟨by simp, World.cell?_alloc_at _ _ _ _ rfl, World.cell?_alloc_at _ _ _ _ rfl, World.cell?_alloc_at _ _ _ _ rfl, World.cell?_alloc_at _ _ _ _ rfl, World.cell?_alloc_at _ _ _ _ rfl, World.cell?_alloc_at _ _ _ _ rfl⟩
  replace h1 := h1.later hb1
  replace h2 := h2.later hb1
  have HR := Lib.hid hF.hr
  obtain ⟨f1, f2, _, f4⟩ := hF
  go_enter Try.func26, Try.ntmps26
  go_wp2_with fail
  generalize w.alloc (.cells #[.int .i64 b, .int .i64 n, .int .i64 s, .int .i64 e0, .slice ta x.length tc, .slice pa ys.length pc] 35) = w1 at *
  refine (heldInt64SSS_yes _ x k _ h1 (by omega) (by omega) (fun j hj => by have := (HR.out j hj).1; omega)).mono ?_
  rintro e w2 ⟨rfl, rfl⟩
  have c5 := hc1.c5
  generalize htt : tot3 x = t at *
  have HTT := Lib.hid htt
  clear htt h1
  go_wp2_with fail
  refine (heldInt64S_yes _ _ _ _ h2 (by omega) (by omega)).mono ?_
  rintro e w3 ⟨rfl, rfl⟩
  go_wp2_with fail
  go_ret
  obtain rfl := HTT.out
  exact ⟨by go_num, hb1⟩
end Go.Proofs.Ythcnhkjiojeemaa
