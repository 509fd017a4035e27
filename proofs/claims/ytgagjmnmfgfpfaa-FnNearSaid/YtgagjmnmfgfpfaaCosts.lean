/- The table of costs of two texts, in the program: for texts of at most 1000 bytes. -/
import Derived.Test.YtgagjmnmfgfpfaaCostM
import Derived.Test.YtgagjmnmfgfpfaaInts
import Derived.Test.YtgagjmnmfgfpfaaLf
namespace Go.Proofs.Ytgagjmnmfgfpfaa
open Go.RowKit

theorem quietW {P : Program} {f : FuncId} {args : Array Value} {v : Value} (h : ∀ w, Calls P f args w fun e w' => e = .returned v ∧ ∃ n, w' = w.drewN n) (w : World) (n : Nat) :
    Calls P f args (w.drewN n) fun e w'' => e = .returned v ∧ ∃ m, w'' = w.drewN m :=
  Calls.quiet_of (h (w.drewN n))

set_option maxHeartbeats 1000000 in
theorem swapped_any (a b : ByteArray) (i k : Nat) (w : World) (ha : a.size ≤ 1000) (hb : b.size ≤ 1000) (hi : i ≤ 1000) (hk : k ≤ 1000) :
    Calls Try.prog 46 #[.string a, .string b, .int .i64 i, .int .i64 k] w fun e w' => e = .returned (.bool (swA (bz a) (bz b) i k)) ∧ ∃ n, w' = w.drewN n := by
  have f1 : IntKind.i64.wrap ((i : Int) + 1) = (i : Int) + 1 := IntWalk.i64_in _ (by omega)
  have f2 : IntKind.i64.wrap ((k : Int) + 1) = (k : Int) + 1 := IntWalk.i64_in _ (by omega)
  have f3 : (0 : Int) ≤ (i : Int) := by omega
  have f4 : (0 : Int) ≤ (k : Int) := by omega
  have f5 : (0 : Int) ≤ (i : Int) + 1 := by omega
  have f6 : (0 : Int) ≤ (k : Int) + 1 := by omega
  have f7 : ((i : Int) + 1).toNat = i + 1 := by omega
  have f8 : ((k : Int) + 1).toNat = k + 1 := by omega
  have hla := bz_len a
  have hlb := bz_len b
  by_cases c1 : i + 1 < a.size
  · have d1 : decide ((i : Int) + 1 < (a.size : Int)) = true := by simp; omega
    have e1 : (i : Int) + 1 < (a.size : Int) := by omega
    have e1' : (i : Int) < (a.size : Int) := by omega
    have e1'' : i < a.size := by omega
    by_cases c2 : k + 1 < b.size
    · have d2 : decide ((k : Int) + 1 < (b.size : Int)) = true := by simp; omega
      have e2 : (k : Int) + 1 < (b.size : Int) := by omega
      have e2' : (k : Int) < (b.size : Int) := by omega
      have e2'' : k < b.size := by omega
      have HSW : Hid (swA (bz a) (bz b) i k = (decide ((a[i].toNat : Int) ≠ a[i + 1].toNat) && (decide ((a[i].toNat : Int) = b[k + 1].toNat) && decide ((a[i + 1].toNat : Int) = b[k].toNat)))) := by
        unfold Hid swA
        rw [bz_get a i e1'', bz_get a (i + 1) c1, bz_get b k e2'', bz_get b (k + 1) c2, hla, hlb, decide_eq_true c1, decide_eq_true c2]
        rfl
      clear hla hlb
      by_cases c3 : (a[i].toNat : Int) = a[i + 1].toNat
      · have HR : Hid (swA (bz a) (bz b) i k = false) := by unfold Hid; rw [HSW.out]; simp [c3]
        have d3 : ((a[i].toNat : Int) != a[i + 1].toNat) = false := by simp [c3]
        clear c3
        go_enter Try.func46, Try.ntmps46
        go_wp2_with fail
        go_quiet (fail)
        go_wp2_with fail
        go_ret
        exact ⟨ret_bool HR.out.symm, _, rfl⟩
      · have d3 : ((a[i].toNat : Int) != a[i + 1].toNat) = true := by simp; omega
        by_cases c4 : (a[i].toNat : Int) = b[k + 1].toNat
        · have d4 : ((a[i].toNat : Int) == b[k + 1].toNat) = true := by simp [c4]
          by_cases c5 : (a[i + 1].toNat : Int) = b[k].toNat
          · have d5 : ((a[i + 1].toNat : Int) == b[k].toNat) = true := by simp [c5]
            have HR : Hid (swA (bz a) (bz b) i k = true) := by unfold Hid; rw [HSW.out, decide_eq_true c3, decide_eq_true c4, decide_eq_true c5]; rfl
            clear c3 c4 c5
            go_enter Try.func46, Try.ntmps46
            go_wp2_with fail
            go_quiet (fail)
            go_wp2_with fail
            go_ret
            exact ⟨ret_bool HR.out.symm, _, rfl⟩
          · have d5 : ((a[i + 1].toNat : Int) == b[k].toNat) = false := by simp; omega
            have HR : Hid (swA (bz a) (bz b) i k = false) := by unfold Hid; rw [HSW.out, decide_eq_false c5]; simp
            clear c3 c4 c5
            go_enter Try.func46, Try.ntmps46
            go_wp2_with fail
            go_quiet (fail)
            go_wp2_with fail
            go_ret
            exact ⟨ret_bool HR.out.symm, _, rfl⟩
        · have d4 : ((a[i].toNat : Int) == b[k + 1].toNat) = false := by simp; omega
          have HR : Hid (swA (bz a) (bz b) i k = false) := by unfold Hid; rw [HSW.out, decide_eq_false c4]; simp
          clear c3 c4
          go_enter Try.func46, Try.ntmps46
          go_wp2_with fail
          go_quiet (fail)
          go_wp2_with fail
          go_ret
          exact ⟨ret_bool HR.out.symm, _, rfl⟩
    · have d2 : decide ((k : Int) + 1 < (b.size : Int)) = false := by simp; omega
      have HR : Hid (swA (bz a) (bz b) i k = false) := by unfold Hid swA; rw [hla, hlb, decide_eq_false c2]; simp
      clear hla hlb
      go_enter Try.func46, Try.ntmps46
      go_wp2_with fail
      go_quiet (fail)
      go_wp2_with fail
      go_ret
      exact ⟨ret_bool HR.out.symm, _, rfl⟩
  · have d1 : decide ((i : Int) + 1 < (a.size : Int)) = false := by simp; omega
    have HR : Hid (swA (bz a) (bz b) i k = false) := by unfold Hid swA; rw [hla, hlb, decide_eq_false c1]; simp
    clear hla hlb
    go_enter Try.func46, Try.ntmps46
    go_wp2_with fail
    go_quiet (fail)
    go_wp2_with fail
    go_ret
    exact ⟨ret_bool HR.out.symm, _, rfl⟩
set_option maxHeartbeats 400000 in
theorem oneIf_any (b : Bool) (w : World) :
    Calls Try.prog 92 #[.bool b] w fun e w' => e = .returned (.int .i64 (if b then 1 else 0)) ∧ w = w' := by
  cases b
  all_goals
    go_enter Try.func92, Try.ntmps92
    go_wp2
    all_goals (go_ret; exact ⟨rfl, rfl⟩)

theorem info_int : (Try.prog.info? 3).map (fun i => (i.zero, i.size, i.bytes)) = some (some (.int .i64 0), 1, 8) := by kernel_rfl
theorem info_sli : (Try.prog.info? 78).map (fun i => (i.zero, i.size, i.bytes)) = some (some (.slice none 0 0), 1, 24) := by kernel_rfl

/-- The costs as numbers of a table. -/
def cI (sw : Bool) (a b : ByteArray) (i k : Nat) : Int := (cAt sw (bz a) (bz b) i k : Int)

def CostsPost (a b : ByteArray) (sw : Bool) (w : World) (e : Ending) (w' : World) : Prop :=
  ∃ cs, e = .returned (.slice (some ⟨w.heap.size, 0, none⟩) (a.size + 1) (a.size + 1)) ∧ OV 78 w.heap.size w' (.slice (some ⟨w.heap.size, 0, none⟩) (a.size + 1) (a.size + 1)) cs ∧ Tab 3 (w.heap.size + 1) w'.heap.size w' cs (b.size + 1) (cI sw a b) 0 (a.size + 1) ∧ Below w.heap.size w w'
theorem CostsPost.mk {a b : ByteArray} {sw : Bool} {w w' : World} (cs : List Value) (h1 : OV 78 w.heap.size w' (.slice (some ⟨w.heap.size, 0, none⟩) (a.size + 1) (a.size + 1)) cs)
    (h2 : Tab 3 (w.heap.size + 1) w'.heap.size w' cs (b.size + 1) (cI sw a b) 0 (a.size + 1)) (h3 : Below w.heap.size w w') : CostsPost a b sw w (.returned (.slice (some ⟨w.heap.size, 0, none⟩) (a.size + 1) (a.size + 1))) w' := ⟨cs, rfl, h1, h2, h3⟩
/-- The row i, filled from kk on. -/
def rowP (sw : Bool) (a b : ByteArray) (i kk : Nat) : List Int := lf (b.size + 1) fun j => if kk ≤ j then cI sw a b i j else 0
theorem rowP_set (sw : Bool) (a b : ByteArray) (i k : Nat) (z : Int) (hk : k < b.size + 1) (hz : z = cI sw a b i k) : (rowP sw a b i (k + 1)).set k z = rowP sw a b i k := by
  unfold rowP
  rw [lf_set _ _ _ _ hk]
  refine lf_ext fun j _ => ?_
  by_cases h : j = k
  · subst h; rw [if_pos rfl, if_pos (Nat.le_refl _), hz]
  · rw [if_neg h]
    by_cases h2 : k + 1 ≤ j
    · rw [if_pos h2, if_pos (by omega)]
    · rw [if_neg h2, if_neg (by omega)]
theorem rowP_get (sw : Bool) (a b : ByteArray) (i kk j : Nat) (hj : kk ≤ j) (h : j < b.size + 1) : (rowP sw a b i kk).getD j 0 = cI sw a b i j := by
  unfold rowP
  rw [lf_get _ _ _ h, if_pos hj]
theorem rowP_len (sw : Bool) (a b : ByteArray) (i kk : Nat) : (rowP sw a b i kk).length = b.size + 1 := lf_len _ _
theorem cI_bd (sw : Bool) (a b : ByteArray) (i k : Nat) : 0 ≤ cI sw a b i k ∧ cI sw a b i k ≤ a.size + b.size := by
  have := cAt_le sw (bz a) (bz b) i k
  rw [bz_len, bz_len] at this
  unfold cI
  omega

theorem row_done {T : TypeId} {B G n c : Nat} {w : World} {sw : Bool} {a b : ByteArray} {i k : Nat} {z : Int} (h : OK T .i64 B w (.slice (some ⟨G, 0, none⟩) n c) (rowP sw a b i (k + 1))) (hk : k < b.size + 1) (hz : z = cI sw a b i k) :
    OK T .i64 B (w.setCell ⟨G, k, none⟩ (.int .i64 z)) (.slice (some ⟨G, 0, none⟩) n c) (rowP sw a b i k) := by
  rw [← rowP_set sw a b i k z hk hz]
  exact (h.stored k z).1
theorem oneIf_t (w : World) : Calls Try.prog 92 #[.bool true] w fun e w' => e = .returned (.int .i64 1) ∧ w = w' := oneIf_any true w
theorem oneIf_f (w : World) : Calls Try.prog 92 #[.bool false] w fun e w' => e = .returned (.int .i64 0) ∧ w = w' := oneIf_any false w
theorem swapped_is (a b : ByteArray) (i k : Nat) (w : World) (ha : a.size ≤ 100) (hb : b.size ≤ 100) (hi : i ≤ 1000) (hk : k ≤ 1000) (t : Bool) (ht : Hid (swA (bz a) (bz b) i k = t)) :
    Calls Try.prog 46 #[.string a, .string b, .int .i64 i, .int .i64 k] w fun e w' => e = .returned (.bool t) ∧ ∃ n, w' = w.drewN n := by
  have := swapped_any a b i k w (by omega) (by omega) hi hk
  rw [ht.out] at this; exact this
/-- What a round leaves behind its store. -/
def RoundEnd (T1 T2 : TypeId) (a b : ByteArray) (sw : Bool) (w : World) (cs : List Value) (G i k : Nat) (wr : World) : Prop :=
  G < wr.heap.size ∧ OK T1 .i64 (w.heap.size + 1) wr (.slice (some ⟨G, 0, none⟩) (b.size + 1) (b.size + 1)) (rowP sw a b i k) ∧ OV T2 w.heap.size wr (.slice (some ⟨w.heap.size, 0, none⟩) (a.size + 1) (a.size + 1)) cs ∧ Tab T1 (w.heap.size + 1) G wr cs (b.size + 1) (cI sw a b) (i + 1) (a.size + 1) ∧ Below w.heap.size w wr
theorem RoundEnd.next {T1 T2 : TypeId} {a b : ByteArray} {sw : Bool} {w : World} {cs : List Value} {G i k : Nat} {wr : World} {z : Int} (hG : w.heap.size < G) (hk : k < b.size + 1) (hS : G < wr.heap.size)
    (hR : OK T1 .i64 (w.heap.size + 1) wr (.slice (some ⟨G, 0, none⟩) (b.size + 1) (b.size + 1)) (rowP sw a b i (k + 1))) (hO : OV T2 w.heap.size wr (.slice (some ⟨w.heap.size, 0, none⟩) (a.size + 1) (a.size + 1)) cs)
    (hT : Tab T1 (w.heap.size + 1) G wr cs (b.size + 1) (cI sw a b) (i + 1) (a.size + 1)) (hB : Below w.heap.size w wr) (hz : z = cI sw a b i k) :
    RoundEnd T1 T2 a b sw w cs G i k (wr.setCell ⟨G, k, none⟩ (.int .i64 z)) :=
  ⟨by simpa using hS, row_done hR hk hz, hO.kept (hR.stored k z).2 (.inr (by simp [Value.ownBlock]; omega)), hT.keep fun q h1 h2 => heap_setCell_other _ _ _ _ (by simp; omega), hB.setCell (by show w.heap.size ≤ G; omega) _⟩
theorem RoundEnd.drewN {T1 T2 : TypeId} {a b : ByteArray} {sw : Bool} {w : World} {cs : List Value} {G i k : Nat} {wr : World} (h : RoundEnd T1 T2 a b sw w cs G i k wr) (n : Nat) : RoundEnd T1 T2 a b sw w cs G i k (wr.drewN n) :=
  ⟨h.1, h.2.1, h.2.2.1, h.2.2.2.1, below_drewN h.2.2.2.2 _⟩

set_option maxHeartbeats 4000000 in
set_option maxRecDepth 100000 in
theorem costs_any (a b : ByteArray) (sw : Bool) (w : World) (ha : a.size ≤ 100) (hb : b.size ≤ 100) :
    Calls Try.prog 76 #[.string a, .string b, .bool sw] w (CostsPost a b sw w) := by
  go_enter Try.func76, Try.ntmps76
  go_wp2_with (at_make; refine wpl_make Try.underlying79 info_sli rfl (by omega) rfl _ _ rfl w.heap.size .i64 .i64 _ _ (a.size + 1) rfl rfl (by omega) (by omega) (by omega) (Nat.le_refl _) ?_; intro w1 hown hgr hlt)
  have hb1 : Below w.heap.size w w1 := (Below.refl _ _).grown hgr (Nat.le_refl _) (by simp)
  clear hgr
  go_loopw [8] (fun iv wr => ∃ (i0 : Nat) (q : Int) (cs : List Value), iv = .int .i64 q ∧ Hid (q = (i0 : Int) - 1) ∧ q < i0 ∧ i0 ≤ a.size + 1 ∧ Hid (cs.length = a.size + 1) ∧ w.heap.size < wr.heap.size ∧ OV 78 w.heap.size wr (.slice (some ⟨w.heap.size, 0, none⟩) (a.size + 1) (a.size + 1)) cs ∧ Tab 3 (w.heap.size + 1) wr.heap.size wr cs (b.size + 1) (cI sw a b) i0 (a.size + 1) ∧ Below w.heap.size w wr) (fun iv _ => (intOf iv + 1).toNat)
  case atStart => exact ⟨a.size + 1, _, _, rfl, (by unfold Hid; omega), by omega, by omega, (by simp [Hid]), hlt, hown, (fun j h1 h2 => by omega), hb1⟩
  case round =>
    obtain ⟨i0, q, cs, rfl, Hq, hqi, hi0, HL, hsz, hO, hT, hbw⟩ := hrel
    clear hown hb1 hlt
    by_cases hq : 0 ≤ q
    · obtain ⟨i, rfl⟩ := Int.eq_ofNat_of_zero_le hq
      obtain rfl : i0 = i + 1 := by have := Hq.out; omega
      clear Hq hq hqi
      have hz := hbw.size
      obtain ⟨vi, hvi⟩ : ∃ vi, cs[i]? = some vi := ⟨_, List.getElem?_eq_getElem (by rw [HL.out]; omega)⟩
      have hci : ∀ w1, Below wr.heap.size wr w1 → w1.cell? ⟨w.heap.size, i, none⟩ = some vi ∧ w1.frozen? ⟨w.heap.size, i, none⟩ = false := fun w1 h1 => by
        have hO1 := hO.later h1
        exact ⟨by rw [hO1.cell i (by rw [HL.out]; omega)]; exact hvi, hO1.frozen i⟩
      have HC := Lib.hid hci
      clear hci
      go_wp2_with (at_make; refine wpl_make Try.underlying78 info_int rfl (by omega) rfl _ _ rfl (w.heap.size + 1) .i64 .i64 _ _ (b.size + 1) rfl rfl (by omega) (by omega) (by omega) (by omega) ?_; intro w1 hrow hgr hlt1; have hb1 : Below wr.heap.size wr w1 := (Below.refl _ _).grown hgr (Nat.le_refl _) (by simp); have hcc := (HC.out w1 hb1).1; have hff := (HC.out w1 hb1).2)
      clear hcc hff HC
      have hO1 := (hO.later hb1).stored i (.slice (some ⟨wr.heap.size, 0, none⟩) (b.size + 1) (b.size + 1))
      have hT1 : Tab 3 (w.heap.size + 1) wr.heap.size (w1.setCell ⟨w.heap.size, i, none⟩ (.slice (some ⟨wr.heap.size, 0, none⟩) (b.size + 1) (b.size + 1))) (cs.set i (.slice (some ⟨wr.heap.size, 0, none⟩) (b.size + 1) (b.size + 1))) (b.size + 1) (cI sw a b) (i + 1) (a.size + 1) :=
        (hT.keep fun k h1 h2 => by rw [heap_setCell_other _ _ _ _ (by simp; omega)]; exact hb1.block k h2).set i _ (by omega)
      have hR1 : OK 3 .i64 (w.heap.size + 1) (w1.setCell ⟨w.heap.size, i, none⟩ (.slice (some ⟨wr.heap.size, 0, none⟩) (b.size + 1) (b.size + 1))) (.slice (some ⟨wr.heap.size, 0, none⟩) (b.size + 1) (b.size + 1)) (rowP sw a b i (b.size + 1)) := by
        have : rowP sw a b i (b.size + 1) = List.replicate (b.size + 1) 0 := by
          rw [lf_rep]; exact lf_ext fun j hj => by rw [if_neg (by omega)]
        rw [this]
        refine ok_block (w := w1) ?_ (heap_setCell_other _ _ _ _ (by simp; omega))
        unfold OK
        rw [List.map_replicate]
        exact hrow
      have hB1 : Below w.heap.size w (w1.setCell ⟨w.heap.size, i, none⟩ (.slice (some ⟨wr.heap.size, 0, none⟩) (b.size + 1) (b.size + 1))) := (hbw.trans (hb1.mono hz)).setCell (Nat.le_refl _) _
      have hS1 : wr.heap.size < (w1.setCell ⟨w.heap.size, i, none⟩ (.slice (some ⟨wr.heap.size, 0, none⟩) (b.size + 1) (b.size + 1))).heap.size := by simp; omega
      have HLc : Hid ((cs.set i (.slice (some ⟨wr.heap.size, 0, none⟩) (b.size + 1) (b.size + 1))).length = a.size + 1) := by unfold Hid; rw [List.length_set]; exact HL.out
      have HCi : Hid ((cs.set i (.slice (some ⟨wr.heap.size, 0, none⟩) (b.size + 1) (b.size + 1)))[i]? = some (.slice (some ⟨wr.heap.size, 0, none⟩) (b.size + 1) (b.size + 1))) := by unfold Hid; rw [List.getElem?_set_self (by rw [HL.out]; omega)]
      replace hO1 := hO1.1
      generalize w1.setCell ⟨w.heap.size, i, none⟩ (.slice (some ⟨wr.heap.size, 0, none⟩) (b.size + 1) (b.size + 1)) = w2 at *
      generalize cs.set i (.slice (some ⟨wr.heap.size, 0, none⟩) (b.size + 1) (b.size + 1)) = cs' at *
      generalize wr.heap.size = G at *
      clear hrow hgr hlt1 hb1 hvi vi HL hT hbw
      go_loopw [9] (fun kv wr => ∃ (kk : Nat) (q : Int), kv = .int .i64 q ∧ Hid (q = (kk : Int) - 1) ∧ q < kk ∧ kk ≤ b.size + 1 ∧ G < wr.heap.size ∧ OK 3 .i64 (w.heap.size + 1) wr (.slice (some ⟨G, 0, none⟩) (b.size + 1) (b.size + 1)) (rowP sw a b i kk) ∧ OV 78 w.heap.size wr (.slice (some ⟨w.heap.size, 0, none⟩) (a.size + 1) (a.size + 1)) cs' ∧ Tab 3 (w.heap.size + 1) G wr cs' (b.size + 1) (cI sw a b) (i + 1) (a.size + 1) ∧ Below w.heap.size w wr) (fun kv _ => (intOf kv + 1).toNat)
      case atStart => exact ⟨b.size + 1, _, rfl, (by unfold Hid; omega), by omega, by omega, hS1, hR1, hO1, hT1, hB1⟩
      case round =>
        obtain ⟨kk, q, rfl, Hq, hqk, hkk, hSz, hR, hO, hT, hB⟩ := hrel
        clear hR1 hO1 hT1 hB1 hS1
        by_cases hq : 0 ≤ q
        · obtain ⟨k, rfl⟩ := Int.eq_ofNat_of_zero_le hq
          obtain rfl : kk = k + 1 := by have := Hq.out; omega
          clear Hq hq hqk
          have hcO : wr.cell? ⟨w.heap.size, i, none⟩ = some (.slice (some ⟨G, 0, none⟩) (b.size + 1) (b.size + 1)) := by rw [hO.cell i (by rw [HLc.out]; omega)]; exact HCi.out
          have hfR := hR.frozen k
          obtain ⟨z0, hz0⟩ : ∃ z0, wr.cell? ⟨G, k, none⟩ = some (.int .i64 z0) := ⟨_, hR.cell k (by rw [rowP_len]; omega)⟩
          have hmn := run_mn
          by_cases hi : i < a.size
          · obtain ⟨G1, hG1, hc1, ho1⟩ := hT (i + 1) (Nat.le_refl _) (by omega)
            have hcO1 : wr.cell? ⟨w.heap.size, i + 1, none⟩ = some (.slice (some ⟨G1, 0, none⟩) (b.size + 1) (b.size + 1)) := by rw [hO.cell (i + 1) (by rw [HLc.out]; omega)]; exact hc1
            have hd := ho1.cell k (by rw [lf_len]; omega)
            rw [lf_get _ _ _ (by omega)] at hd
            have hdb := cI_bd sw a b (i + 1) k
            have hdle : cI sw a b (i + 1) k + 1 ≤ (a.size : Int) - i + (b.size - k) := by
              have := cAt_le sw (bz a) (bz b) (i + 1) k
              rw [bz_len, bz_len] at this
              unfold cI
              omega
            by_cases hk : k < b.size
            · have he := hR.cell (k + 1) (by rw [rowP_len]; omega)
              rw [rowP_get _ _ _ _ _ _ (Nat.le_refl _) (by omega)] at he
              have heb := cI_bd sw a b i (k + 1)
              have hs := ho1.cell (k + 1) (by rw [lf_len]; omega)
              rw [lf_get _ _ _ (by omega)] at hs
              have hsb := cI_bd sw a b (i + 1) (k + 1)
              have hlen := bz_len a
              have hlenb := bz_len b
              have hboth := cAt_both sw (bz a) (bz b) i k (by omega) (by omega)
              have HB := Lib.hid hboth
              have hg1 := Lib.hid (bz_get a i hi)
              have hg2 := Lib.hid (bz_get b k hk)
              clear hlen hlenb hboth
              generalize hd' : cI sw a b (i + 1) k = d at *
              generalize he' : cI sw a b i (k + 1) = e at *
              generalize hs' : cI sw a b (i + 1) (k + 1) = s at *
              have HD := Lib.hid hd'
              have HE := Lib.hid he'
              have HS := Lib.hid hs'
              clear hd' he' hs'
              have f1 : IntKind.i64.wrap ((i : Int) + 1) = (i : Int) + 1 := IntWalk.i64_in _ (by omega)
              have f2 : IntKind.i64.wrap ((k : Int) + 1) = (k : Int) + 1 := IntWalk.i64_in _ (by omega)
              by_cases hxy : (a[i].toNat : Int) = b[k].toNat
              · have hne : ((a[i].toNat : Int) != b[k].toNat) = false := by simp [hxy]
                have HXY : Hid ((bz a).getD i 0 = (bz b).getD k 0) := by unfold Hid; rw [hg1.out, hg2.out]; exact hxy
                clear hxy
                go_wp2_with fail
                all_goals
                  go_quiet (first | (go_at_call 92; exact quiet_same (oneIf_t _)) | (go_at_call 92; exact quiet_same (oneIf_f _)))
                  clear hd he hs hcO1 f1 f2 hne
                  cases sw
                  · have HZ : Hid (∀ z : Int, z = min (min (d + 1) (e + 1)) (s + 0) → z = cI false a b i k) := fun z hz => by
                      have h1 := HB.out
                      rw [(if_pos HXY.out)] at h1
                      simp only [Bool.false_and, Bool.false_eq_true, if_false] at h1
                      rw [hz, ← HD.out, ← HE.out, ← HS.out]
                      unfold cI
                      rw [h1]
                      omega
                    go_wp2_with fail
                    all_goals
                      go_roundw
                      case rel =>
                        refine ⟨k, _, rfl, (by unfold Hid; omega), by omega, by omega, (RoundEnd.next hsz (show k < b.size + 1 by omega) hSz hR hO hT hB (HZ.out _ ?_)).drewN _⟩
                        (try simp only [mn_eq])
                        omega
                      case measure => first | (simp [intOf]; done) | (simp [intOf]; omega)
                  · by_cases hsw : swA (bz a) (bz b) i k = true
                    · have HSW := Lib.hid hsw
                      have hsw2 : i + 2 ≤ a.size ∧ k + 2 ≤ b.size := by
                        unfold swA at hsw
                        simp only [Bool.and_eq_true, decide_eq_true_eq, bz_len] at hsw
                        omega
                      clear hsw
                      obtain ⟨G2, hG2, hc2, ho2⟩ := hT (i + 2) (by omega) (by omega)
                      have hcO2 : wr.cell? ⟨w.heap.size, i + 2, none⟩ = some (.slice (some ⟨G2, 0, none⟩) (b.size + 1) (b.size + 1)) := by rw [hO.cell (i + 2) (by rw [HLc.out]; omega)]; exact hc2
                      have hx := ho2.cell (k + 2) (by rw [lf_len]; omega)
                      rw [lf_get _ _ _ (by omega)] at hx
                      have hxb := cI_bd true a b (i + 2) (k + 2)
                      generalize hx' : cI true a b (i + 2) (k + 2) = x at *
                      have HX := Lib.hid hx'
                      clear hx'
                      have HZ : Hid (∀ z : Int, z = min (min (min (d + 1) (e + 1)) (s + 0)) (x + 1) → z = cI true a b i k) := fun z hz => by
                        have h1 := HB.out
                        rw [(if_pos HXY.out), HSW.out] at h1
                        simp only [Bool.true_and, if_true] at h1
                        rw [hz, ← HD.out, ← HE.out, ← HS.out, ← HX.out]
                        unfold cI
                        rw [h1]
                        omega
                      go_wp2_with (go_at_call 46; refine (swapped_is _ _ _ _ _ ha hb (by omega) (by omega) true HSW).mono ?_; rintro e w' ⟨rfl, n2, rfl⟩)
                      all_goals
                        go_roundw
                        case rel =>
                          refine ⟨k, _, rfl, (by unfold Hid; omega), by omega, by omega, (RoundEnd.next hsz (show k < b.size + 1 by omega) hSz hR hO hT hB (HZ.out _ ?_)).drewN _⟩
                          (try simp only [mn_eq])
                          omega
                        case measure => first | (simp [intOf]; done) | (simp [intOf]; omega)
                    · simp only [Bool.not_eq_true] at hsw
                      have HSW := Lib.hid hsw
                      clear hsw
                      have HZ : Hid (∀ z : Int, z = min (min (d + 1) (e + 1)) (s + 0) → z = cI true a b i k) := fun z hz => by
                        have h1 := HB.out
                        rw [(if_pos HXY.out), HSW.out] at h1
                        simp only [Bool.and_false, Bool.false_eq_true, if_false] at h1
                        rw [hz, ← HD.out, ← HE.out, ← HS.out]
                        unfold cI
                        rw [h1]
                        omega
                      go_wp2_with (go_at_call 46; refine (swapped_is _ _ _ _ _ ha hb (by omega) (by omega) false HSW).mono ?_; rintro e w' ⟨rfl, n2, rfl⟩)
                      all_goals
                        go_roundw
                        case rel =>
                          refine ⟨k, _, rfl, (by unfold Hid; omega), by omega, by omega, (RoundEnd.next hsz (show k < b.size + 1 by omega) hSz hR hO hT hB (HZ.out _ ?_)).drewN _⟩
                          (try simp only [mn_eq])
                          omega
                        case measure => first | (simp [intOf]; done) | (simp [intOf]; omega)
              · have hne : ((a[i].toNat : Int) != b[k].toNat) = true := by simp; omega
                have HXY : Hid (¬ (bz a).getD i 0 = (bz b).getD k 0) := by unfold Hid; rw [hg1.out, hg2.out]; exact hxy
                clear hxy
                go_wp2_with fail
                all_goals
                  go_quiet (first | (go_at_call 92; exact quiet_same (oneIf_t _)) | (go_at_call 92; exact quiet_same (oneIf_f _)))
                  clear hd he hs hcO1 f1 f2 hne
                  cases sw
                  · have HZ : Hid (∀ z : Int, z = min (min (d + 1) (e + 1)) (s + 1) → z = cI false a b i k) := fun z hz => by
                      have h1 := HB.out
                      rw [(if_neg HXY.out)] at h1
                      simp only [Bool.false_and, Bool.false_eq_true, if_false] at h1
                      rw [hz, ← HD.out, ← HE.out, ← HS.out]
                      unfold cI
                      rw [h1]
                      omega
                    go_wp2_with fail
                    all_goals
                      go_roundw
                      case rel =>
                        refine ⟨k, _, rfl, (by unfold Hid; omega), by omega, by omega, (RoundEnd.next hsz (show k < b.size + 1 by omega) hSz hR hO hT hB (HZ.out _ ?_)).drewN _⟩
                        (try simp only [mn_eq])
                        omega
                      case measure => first | (simp [intOf]; done) | (simp [intOf]; omega)
                  · by_cases hsw : swA (bz a) (bz b) i k = true
                    · have HSW := Lib.hid hsw
                      have hsw2 : i + 2 ≤ a.size ∧ k + 2 ≤ b.size := by
                        unfold swA at hsw
                        simp only [Bool.and_eq_true, decide_eq_true_eq, bz_len] at hsw
                        omega
                      clear hsw
                      obtain ⟨G2, hG2, hc2, ho2⟩ := hT (i + 2) (by omega) (by omega)
                      have hcO2 : wr.cell? ⟨w.heap.size, i + 2, none⟩ = some (.slice (some ⟨G2, 0, none⟩) (b.size + 1) (b.size + 1)) := by rw [hO.cell (i + 2) (by rw [HLc.out]; omega)]; exact hc2
                      have hx := ho2.cell (k + 2) (by rw [lf_len]; omega)
                      rw [lf_get _ _ _ (by omega)] at hx
                      have hxb := cI_bd true a b (i + 2) (k + 2)
                      generalize hx' : cI true a b (i + 2) (k + 2) = x at *
                      have HX := Lib.hid hx'
                      clear hx'
                      have HZ : Hid (∀ z : Int, z = min (min (min (d + 1) (e + 1)) (s + 1)) (x + 1) → z = cI true a b i k) := fun z hz => by
                        have h1 := HB.out
                        rw [(if_neg HXY.out), HSW.out] at h1
                        simp only [Bool.true_and, if_true] at h1
                        rw [hz, ← HD.out, ← HE.out, ← HS.out, ← HX.out]
                        unfold cI
                        rw [h1]
                        omega
                      go_wp2_with (go_at_call 46; refine (swapped_is _ _ _ _ _ ha hb (by omega) (by omega) true HSW).mono ?_; rintro e w' ⟨rfl, n2, rfl⟩)
                      all_goals
                        go_roundw
                        case rel =>
                          refine ⟨k, _, rfl, (by unfold Hid; omega), by omega, by omega, (RoundEnd.next hsz (show k < b.size + 1 by omega) hSz hR hO hT hB (HZ.out _ ?_)).drewN _⟩
                          (try simp only [mn_eq])
                          omega
                        case measure => first | (simp [intOf]; done) | (simp [intOf]; omega)
                    · simp only [Bool.not_eq_true] at hsw
                      have HSW := Lib.hid hsw
                      clear hsw
                      have HZ : Hid (∀ z : Int, z = min (min (d + 1) (e + 1)) (s + 1) → z = cI true a b i k) := fun z hz => by
                        have h1 := HB.out
                        rw [(if_neg HXY.out), HSW.out] at h1
                        simp only [Bool.and_false, Bool.false_eq_true, if_false] at h1
                        rw [hz, ← HD.out, ← HE.out, ← HS.out]
                        unfold cI
                        rw [h1]
                        omega
                      go_wp2_with (go_at_call 46; refine (swapped_is _ _ _ _ _ ha hb (by omega) (by omega) false HSW).mono ?_; rintro e w' ⟨rfl, n2, rfl⟩)
                      all_goals
                        go_roundw
                        case rel =>
                          refine ⟨k, _, rfl, (by unfold Hid; omega), by omega, by omega, (RoundEnd.next hsz (show k < b.size + 1 by omega) hSz hR hO hT hB (HZ.out _ ?_)).drewN _⟩
                          (try simp only [mn_eq])
                          omega
                        case measure => first | (simp [intOf]; done) | (simp [intOf]; omega)
            · have hsw : swA (bz a) (bz b) i k = false := by unfold swA; rw [bz_len, bz_len, decide_eq_false (show ¬ k + 1 < b.size by omega)]; simp
              have HSW := Lib.hid hsw
              have HZ : Hid (∀ z : Int, z = (a.size : Int) - i → z = cI sw a b i k) := fun z hz => by
                unfold cI
                rw [hz, cAt_right _ _ _ _ _ (by rw [bz_len]; omega), bz_len]
                omega
              have HD : Hid (cI sw a b (i + 1) k = (a.size : Int) - i - 1) := by
                unfold Hid cI
                rw [cAt_right _ _ _ _ _ (by rw [bz_len]; omega), bz_len]
                omega
              have hde : cI sw a b (i + 1) k = (a.size : Int) - i - 1 := HD.out
              clear hsw
              generalize hd' : cI sw a b (i + 1) k = d at *
              have HDE := Lib.hid hde
              clear hde hd'
              cases sw
              · go_wp2_with fail
                all_goals
                  have := HDE.out
                  go_roundw
                  case rel =>
                    refine ⟨k, _, rfl, (by unfold Hid; omega), by omega, by omega, (RoundEnd.next hsz (show k < b.size + 1 by omega) hSz hR hO hT hB (HZ.out _ ?_))⟩
                    (try simp only [mn_eq])
                    omega
                  case measure => first | (simp [intOf]; done) | (simp [intOf]; omega)
              · go_wp2_with (go_at_call 46; refine (swapped_is _ _ _ _ _ ha hb (by omega) (by omega) false HSW).mono ?_; rintro e w' ⟨rfl, n2, rfl⟩)
                all_goals
                  have := HDE.out
                  go_roundw
                  case rel =>
                    refine ⟨k, _, rfl, (by unfold Hid; omega), by omega, by omega, (RoundEnd.next hsz (show k < b.size + 1 by omega) hSz hR hO hT hB (HZ.out _ ?_)).drewN _⟩
                    (try simp only [mn_eq])
                    omega
                  case measure => first | (simp [intOf]; done) | (simp [intOf]; omega)
          · have hsw : swA (bz a) (bz b) i k = false := by unfold swA; rw [bz_len, bz_len, decide_eq_false (show ¬ i + 1 < a.size by omega)]; simp
            have HSW := Lib.hid hsw
            have HZ : Hid (∀ z : Int, z = (b.size : Int) - k → z = cI sw a b i k) := fun z hz => by
              unfold cI
              rw [hz, cAt_left _ _ _ _ _ (by rw [bz_len]; omega), bz_len]
              omega
            clear hsw
            by_cases hk : k < b.size
            · have he := hR.cell (k + 1) (by rw [rowP_len]; omega)
              rw [rowP_get _ _ _ _ _ _ (Nat.le_refl _) (by omega)] at he
              have heb := cI_bd sw a b i (k + 1)
              have HDE : Hid (cI sw a b i (k + 1) = (b.size : Int) - k - 1) := by
                unfold Hid cI
                rw [cAt_left _ _ _ _ _ (by rw [bz_len]; omega), bz_len]
                omega
              generalize cI sw a b i (k + 1) = e at *
              cases sw
              · go_wp2_with fail
                all_goals
                  have := HDE.out
                  go_roundw
                  case rel =>
                    refine ⟨k, _, rfl, (by unfold Hid; omega), by omega, by omega, (RoundEnd.next hsz (show k < b.size + 1 by omega) hSz hR hO hT hB (HZ.out _ ?_))⟩
                    (try simp only [mn_eq])
                    omega
                  case measure => first | (simp [intOf]; done) | (simp [intOf]; omega)
              · go_wp2_with (go_at_call 46; refine (swapped_is _ _ _ _ _ ha hb (by omega) (by omega) false HSW).mono ?_; rintro e w' ⟨rfl, n2, rfl⟩)
                all_goals
                  have := HDE.out
                  go_roundw
                  case rel =>
                    refine ⟨k, _, rfl, (by unfold Hid; omega), by omega, by omega, (RoundEnd.next hsz (show k < b.size + 1 by omega) hSz hR hO hT hB (HZ.out _ ?_)).drewN _⟩
                    (try simp only [mn_eq])
                    omega
                  case measure => first | (simp [intOf]; done) | (simp [intOf]; omega)
            · cases sw
              · go_wp2_with fail
                all_goals
                  go_roundw
                  case rel =>
                    refine ⟨k, _, rfl, (by unfold Hid; omega), by omega, by omega, (RoundEnd.next hsz (show k < b.size + 1 by omega) hSz hR hO hT hB (HZ.out _ ?_))⟩
                    (try simp only [mn_eq])
                    omega
                  case measure => first | (simp [intOf]; done) | (simp [intOf]; omega)
              · go_wp2_with (go_at_call 46; refine (swapped_is _ _ _ _ _ ha hb (by omega) (by omega) false HSW).mono ?_; rintro e w' ⟨rfl, n2, rfl⟩)
                all_goals
                  go_roundw
                  case rel =>
                    refine ⟨k, _, rfl, (by unfold Hid; omega), by omega, by omega, (RoundEnd.next hsz (show k < b.size + 1 by omega) hSz hR hO hT hB (HZ.out _ ?_)).drewN _⟩
                    (try simp only [mn_eq])
                    omega
                  case measure => first | (simp [intOf]; done) | (simp [intOf]; omega)
        · obtain rfl : kk = 0 := by have := Hq.out; omega
          have hTn : Tab 3 (w.heap.size + 1) wr.heap.size wr cs' (b.size + 1) (cI sw a b) i (a.size + 1) := by
            refine hT.more (Nat.le_of_lt hSz) ⟨by omega, hSz⟩ HCi.out ?_
            have : rowP sw a b i 0 = lf (b.size + 1) (cI sw a b i) := lf_ext fun j _ => by rw [if_pos (Nat.zero_le _)]
            rw [← this]; exact hR
          go_wp2_with fail
          go_roundw
          case rel => exact ⟨i, _, cs', rfl, (by unfold Hid; omega), by omega, by omega, HLc, by omega, hO, hTn, hB⟩
          case measure => first | (simp [intOf]; done) | (simp [intOf]; omega)
    · go_wp2_with fail
      go_ret
      obtain rfl : i0 = 0 := by have := Hq.out; omega
      exact CostsPost.mk cs hO hT hbw
end Go.Proofs.Ytgagjmnmfgfpfaa
