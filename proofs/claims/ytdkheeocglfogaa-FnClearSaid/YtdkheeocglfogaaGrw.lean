/- ClearSymbols: the program's search. -/
import Derived.Test.YtdkheeocglfogaaOnes
import Derived.Test.YtdkheeocglfogaaGro
import Derived.Test.YtdkheeocglfogaaLks
namespace Go.Proofs.Ytdkheeocglfogaa
open Go.RowKit

/-- The world of the search: the cell of the likes at La, of the best set at Pb, of the search itself at Pw. -/
structure CW (Wa : World) (La Pb Pw : Nat) (lv fv : Value) (w : World) (m : Nat) : Prop where
  below : Below Wa.heap.size Wa w
  likes : w.cell? ⟨La, 0, none⟩ = some lv
  self : w.cell? ⟨Pw, 0, none⟩ = some fv
  best : w.cell? ⟨Pb, 0, none⟩ = some (.int .u64 (m : Nat))
  free : w.frozen? ⟨Pb, 0, none⟩ = false
  lo : Wa.heap.size ≤ Pb
  neL : La ≠ Pb
  neW : Pw ≠ Pb
section
variable {Wa : World} {La Pb Pw m : Nat} {lv fv : Value} {w w' : World}
theorem CW.later (h : CW Wa La Pb Pw lv fv w m) (hb : Below w.heap.size w w') : CW Wa La Pb Pw lv fv w' m := by
  have h1 := World.block_lt_of_cell? w _ h.likes
  have h2 := World.block_lt_of_cell? w _ h.self
  have h3 := World.block_lt_of_cell? w _ h.best
  exact ⟨h.below.trans (hb.mono h.below.size), (hb.cell (p := ⟨La, 0, none⟩) h1).trans h.likes, (hb.cell (p := ⟨Pw, 0, none⟩) h2).trans h.self, (hb.cell (p := ⟨Pb, 0, none⟩) h3).trans h.best, (hb.frozen (p := ⟨Pb, 0, none⟩) h3).trans h.free, h.lo, h.neL, h.neW⟩
theorem cell_other (w : World) (v : Value) {a b : Nat} (h : a ≠ b) : (w.setCell ⟨b, 0, none⟩ v).cell? ⟨a, 0, none⟩ = w.cell? ⟨a, 0, none⟩ := by
  have hh := heap_setCell_other w ⟨b, 0, none⟩ a v h
  unfold World.cell?; simp only [hh]
theorem CW.set (h : CW Wa La Pb Pw lv fv w m) (m' : Nat) : CW Wa La Pb Pw lv fv (w.setCell ⟨Pb, 0, none⟩ (.int .u64 (m' : Nat))) m' :=
  ⟨h.below.setCell (p := ⟨Pb, 0, none⟩) h.lo _, (cell_other w _ h.neL).trans h.likes, (cell_other w _ h.neW).trans h.self, World.cell?_setCell_same _ _ _ h.best, (World.frozen?_setCell _ _ _ _).trans h.free, h.lo, h.neL, h.neW⟩
end
def CPost (Wa : World) (La Pb Pw : Nat) (lv fv : Value) (m : Nat) (e : Ending) (w' : World) : Prop := e = .returned (.tuple #[]) ∧ CW Wa La Pb Pw lv fv w' m
set_option maxRecDepth 100000 in
set_option maxHeartbeats 2000000 in
theorem grow_any (Wa : World) (La Pb Pw : Nat) (s : ByteArray) (l : List ByteArray) (a : Option Addr) (c : Nat) (hs : s.size ≤ 18) (hr : RU Wa (.slice a s.size c) (lkL s l)) (fv : Value)
    (hfv : Hid (fv = .func (.func 48) #[] #[.pointer (some ⟨La, 0, none⟩), .pointer (some ⟨Pb, 0, none⟩), .pointer (some ⟨Pw, 0, none⟩)])) :
    ∀ (k i : Nat) (t b : List Nat) (w : World), i + k = s.size → Asc i t → Asc s.size b → CW Wa La Pb Pw (.slice a s.size c) fv w (mt s.size b) →
    Calls Try.prog 48 #[.int .i64 (i : Nat), .int .u64 (mt s.size t : Nat), .pointer (some ⟨La, 0, none⟩), .pointer (some ⟨Pb, 0, none⟩), .pointer (some ⟨Pw, 0, none⟩)] w (CPost Wa La Pb Pw (.slice a s.size c) fv (mt s.size (gro (lk s l) s.size k t b))) := by
  have HR := Lib.hid hr
  clear hr
  intro k
  induction k with
  | zero =>
    intro i t b w hi ht hb h
    have HG := Lib.hid h
    have c1 := h.likes
    have c2 := h.best
    have HO1 : Hid (∀ n, Calls Try.prog 49 #[.int .u64 (mt s.size t : Nat)] (w.drewN n) fun e w' => e = .returned (.int .i64 (t.length : Nat)) ∧ w.drewN n = w') := fun n => by
      have := ones_any s.size (fun j => decide (j ∈ t)) (w.drewN n) hs
      rw [cnt_mt (ht.mono (by omega))] at this; exact this
    have HO2 : Hid (∀ n, Calls Try.prog 49 #[.int .u64 (mt s.size b : Nat)] (w.drewN n) fun e w' => e = .returned (.int .i64 (b.length : Nat)) ∧ w.drewN n = w') := fun n => by
      have := ones_any s.size (fun j => decide (j ∈ b)) (w.drewN n) hs
      rw [cnt_mt hb] at this; exact this
    have l1 : t.length ≤ i := by simpa using asc_len t 0 i ht.1 fun j hj => ⟨Nat.zero_le _, ht.2 j hj⟩
    have l2 : b.length ≤ s.size := by simpa using asc_len b 0 s.size hb.1 fun j hj => ⟨Nat.zero_le _, hb.2 j hj⟩
    have b2 : ((i : Int) == s.size) = true := by simp; omega
    have HE : Hid (∀ m, CW Wa La Pb Pw (.slice a s.size c) fv w m → ∀ n, CW Wa La Pb Pw (.slice a s.size c) fv (w.drewN n) m) := fun m h n => h.later (below_drewN (Below.refl _ _) n)
    clear h
    by_cases hc : t.length ≤ b.length
    · have HQ : Hid (gro (lk s l) s.size 0 t b = b) := gro_cut _ _ _ _ _ (by simpa using hc)
      have b1 : decide ((t.length : Int) + s.size - i ≤ b.length) = true := by simp; omega
      generalize mt s.size t = m1 at *
      generalize hm2 : mt s.size b = m2 at *
      generalize t.length = lt at *
      generalize b.length = lb at *
      go_enter Try.func48, Try.ntmps48
      go_wp2_with fail
      go_quiet (first | (go_at_call 49; exact quiet_same (HO1.out _)) | (go_at_call 49; exact quiet_same (HO2.out _)))
      go_wp2_with fail
      first | refine bodyPost_ret (results_none rfl _ _ _) rfl ?_ | refine bodyPost_end (results_none rfl _ _ _) rfl ?_ | ((try simp only [Exit.inBlock, Exit.then]); refine bodyPost_end (results_none rfl _ _ _) rfl ?_)
      rw [HQ.out, hm2]
      exact ⟨rfl, HE.out _ HG.out _⟩
    · have HQ : Hid (gro (lk s l) s.size 0 t b = t) := gro_end _ _ _ _ hc
      have b1 : decide ((t.length : Int) + s.size - i ≤ b.length) = false := by simp; omega
      generalize hm1 : mt s.size t = m1 at *
      generalize mt s.size b = m2 at *
      generalize t.length = lt at *
      generalize b.length = lb at *
      go_enter Try.func48, Try.ntmps48
      go_wp2_with fail
      go_quiet (first | (go_at_call 49; exact quiet_same (HO1.out _)) | (go_at_call 49; exact quiet_same (HO2.out _)))
      have HG2 := Lib.hid (HE.out _ HG.out nq)
      have d1 := HG2.out.likes
      have d2 := HG2.out.best
      have d3 := HG2.out.free
      go_wp2_with fail
      first | refine bodyPost_ret (results_none rfl _ _ _) rfl ?_ | refine bodyPost_end (results_none rfl _ _ _) rfl ?_ | ((try simp only [Exit.inBlock, Exit.then]); refine bodyPost_end (results_none rfl _ _ _) rfl ?_)
      rw [HQ.out, hm1]
      exact ⟨rfl, HG2.out.set _⟩
  | succ k ih =>
    have IH := Lib.hid ih
    clear ih
    intro i t b w hi ht hb h
    have HG := Lib.hid h
    have c1 := h.likes
    have c2 := h.best
    have HO1 : Hid (∀ n, Calls Try.prog 49 #[.int .u64 (mt s.size t : Nat)] (w.drewN n) fun e w' => e = .returned (.int .i64 (t.length : Nat)) ∧ w.drewN n = w') := fun n => by
      have := ones_any s.size (fun j => decide (j ∈ t)) (w.drewN n) hs
      rw [cnt_mt (ht.mono (by omega))] at this; exact this
    have HO2 : Hid (∀ n, Calls Try.prog 49 #[.int .u64 (mt s.size b : Nat)] (w.drewN n) fun e w' => e = .returned (.int .i64 (b.length : Nat)) ∧ w.drewN n = w') := fun n => by
      have := ones_any s.size (fun j => decide (j ∈ b)) (w.drewN n) hs
      rw [cnt_mt hb] at this; exact this
    have l1 : t.length ≤ i := by simpa using asc_len t 0 i ht.1 fun j hj => ⟨Nat.zero_le _, ht.2 j hj⟩
    have l2 : b.length ≤ s.size := by simpa using asc_len b 0 s.size hb.1 fun j hj => ⟨Nat.zero_le _, hb.2 j hj⟩
    have b2 : ((i : Int) == s.size) = false := by simp; omega
    have hin : s.size - (k + 1) = i := by omega
    have HE : Hid (∀ m, CW Wa La Pb Pw (.slice a s.size c) fv w m → ∀ n, CW Wa La Pb Pw (.slice a s.size c) fv (w.drewN n) m) := fun m h n => h.later (below_drewN (Below.refl _ _) n)
    clear h
    by_cases hc : t.length + (k + 1) ≤ b.length
    · have HQ : Hid (gro (lk s l) s.size (k + 1) t b = b) := gro_cut _ _ _ _ _ hc
      have b1 : decide ((t.length : Int) + s.size - i ≤ b.length) = true := by simp; omega
      clear hin
      generalize mt s.size t = m1 at *
      generalize hm2 : mt s.size b = m2 at *
      generalize t.length = lt at *
      generalize b.length = lb at *
      go_enter Try.func48, Try.ntmps48
      go_wp2_with fail
      go_quiet (first | (go_at_call 49; exact quiet_same (HO1.out _)) | (go_at_call 49; exact quiet_same (HO2.out _)))
      go_wp2_with fail
      first | refine bodyPost_ret (results_none rfl _ _ _) rfl ?_ | refine bodyPost_end (results_none rfl _ _ _) rfl ?_ | ((try simp only [Exit.inBlock, Exit.then]); refine bodyPost_end (results_none rfl _ _ _) rfl ?_)
      rw [HQ.out, hm2]
      exact ⟨rfl, HE.out _ HG.out _⟩
    · have b1 : decide ((t.length : Int) + s.size - i ≤ b.length) = false := by simp; omega
      have HQY : Hid ((t.all fun j => !lk s l i j) = true → gro (lk s l) s.size (k + 1) t b = gro (lk s l) s.size k t (gro (lk s l) s.size k (t ++ [i]) b)) := fun h => by
        have := gro_yes (lk s l) s.size k t b hc (by rw [hin]; exact h)
        rw [hin] at this; exact this
      have HQN : Hid ((t.all fun j => !lk s l i j) = false → gro (lk s l) s.size (k + 1) t b = gro (lk s l) s.size k t b) := fun h => gro_no (lk s l) s.size k t b hc (by rw [hin]; exact h)
      have HAND : Hid (bits .and .u64 ((msk s.size (lk s l i) : Nat) : Int) ((mt s.size t : Nat) : Int) = ((msk s.size (lk s l i) &&& mt s.size t : Nat) : Int)) := bits_and_u64_nat _ _ (by have := msk_20 hs (lk s l i); omega) (by have := msk_20 hs fun j => decide (j ∈ t); unfold mt; omega)
      have HALL := Lib.hid (mt_and (n := s.size) (lk s l i) ht (by omega))
      have HOR : Hid (bits .or .u64 ((mt s.size t : Nat) : Int) ((2 ^ i : Nat) : Int) = (mt s.size (t ++ [i]) : Nat)) := by
        unfold Hid
        rw [bits_or_u64_nat _ _ (by have := msk_20 hs fun j => decide (j ∈ t); unfold mt; omega) (by have := pow18 (show i < 20 by omega); omega), mt_snoc t (by omega)]
      obtain ⟨P, hP⟩ : ∃ P : Nat, P = 2 ^ i := ⟨_, rfl⟩
      have hP2 : P < 1048576 := by rw [hP]; exact pow18 (by omega)
      have hw2 : IntKind.u64.wrap ((2 : Int) ^ i) = (P : Int) := by
        rw [show ((2 : Int) ^ i) = (P : Int) by rw [hP]; simp, IntKind.wrap_u64]; omega
      rw [← hP] at HOR
      clear hP
      have HEL : Hid (∀ w', Below Wa.heap.size Wa w' → ∃ g off, a = some ⟨g, off, none⟩ ∧ w'.cell? ⟨g, off + i, none⟩ = some (.int .u64 ((msk s.size (lk s l i) : Nat) : Int))) := fun w' hb => by
        have h1 := HR.out.later hb
        have h2 : i < (lkL s l).length := by rw [lkL_len]; omega
        rw [← lkL_len s l] at h1
        obtain ⟨g, off, h3, _, h4⟩ := h1.at i h2
        refine ⟨g, off, h3, h4.trans ?_⟩
        unfold lkL lkR; simp [show i < s.size by omega]
      have HASC : Hid (Asc (i + 1) (t ++ [i]) ∧ Asc (i + 1) t) := ⟨ht.snoc, ht.mono (by omega)⟩
      have HB2 : Hid (Asc s.size (gro (lk s l) s.size k (t ++ [i]) b)) := gro_asc _ _ _ _ _ (by omega) (by rw [show s.size - k = i + 1 by omega]; exact ht.snoc) hb
      have HI1 : Hid (∀ w, CW Wa La Pb Pw (.slice a s.size c) fv w (mt s.size b) → Calls Try.prog 48 #[.int .i64 ((i : Int) + 1), .int .u64 (mt s.size (t ++ [i]) : Nat), .pointer (some ⟨La, 0, none⟩), .pointer (some ⟨Pb, 0, none⟩), .pointer (some ⟨Pw, 0, none⟩)] w (CPost Wa La Pb Pw (.slice a s.size c) fv (mt s.size (gro (lk s l) s.size k (t ++ [i]) b)))) := fun w h => IH.out (i + 1) _ b w (by omega) HASC.out.1 hb h
      have HI2 : Hid (∀ b w, Asc s.size b → CW Wa La Pb Pw (.slice a s.size c) fv w (mt s.size b) → Calls Try.prog 48 #[.int .i64 ((i : Int) + 1), .int .u64 (mt s.size t : Nat), .pointer (some ⟨La, 0, none⟩), .pointer (some ⟨Pb, 0, none⟩), .pointer (some ⟨Pw, 0, none⟩)] w (CPost Wa La Pb Pw (.slice a s.size c) fv (mt s.size (gro (lk s l) s.size k t b)))) := fun b w hb h => IH.out (i + 1) t b w (by omega) HASC.out.2 hb h
      have HBA := Lib.hid hb
      obtain ⟨g, off, rfl, c3⟩ := HEL.out w HG.out.below
      have f1 : (0 : Int) ≤ (i : Int) := by omega
      have f2 : (i : Int) < (s.size : Int) := by omega
      clear ht hb HASC hin IH
      have HSF : Hid (∀ w m, CW Wa La Pb Pw (.slice (some ⟨g, off, none⟩) s.size c) fv w m → w.cell? ⟨Pw, 0, none⟩ = some (.func (.func 48) #[] #[.pointer (some ⟨La, 0, none⟩), .pointer (some ⟨Pb, 0, none⟩), .pointer (some ⟨Pw, 0, none⟩)])) := fun w m h => by rw [← hfv.out]; exact h.self
      have HCE : Hid (∀ w m, CW Wa La Pb Pw (.slice (some ⟨g, off, none⟩) s.size c) fv w m → w.cell? ⟨g, off + i, none⟩ = some (.int .u64 ((msk s.size (lk s l i) : Nat) : Int))) := fun w m h => by
        obtain ⟨g', off', h1, h2⟩ := HEL.out w h.below
        simp only [Option.some.injEq, Addr.mk.injEq, and_true] at h1
        obtain ⟨rfl, rfl⟩ := h1
        exact h2
      clear HEL c3
      generalize hal : (t.all fun j => !lk s l i j) = al at *
      have hm1 := msk_20 hs (lk s l i)
      have HMT : Hid (mt s.size t < 262144) := by unfold Hid mt; exact msk_20 hs _
      generalize hlt : t.length = lt at *
      generalize hlb : b.length = lb at *
      go_enter Try.func48, Try.ntmps48
      go_wp2_with fail
      go_quiet (first | (go_at_call 49; exact quiet_same (HO1.out _)) | (go_at_call 49; exact quiet_same (HO2.out _)))
      have HG2 := Lib.hid (HE.out _ HG.out nq)
      have d1 := HG2.out.likes
      have d2 := HG2.out.best
      have d3 := HSF.out _ _ HG2.out
      have d4 := HCE.out _ _ HG2.out
      generalize w.drewN nq = w1 at *
      clear HE HG c1 c2 HO1 HO2
      have e1 := HG2.out.free
      have hT := HMT.out
      have b3 : (bits .and .u64 ((msk s.size (lk s l i) : Nat) : Int) ((mt s.size t : Nat) : Int) == 0) = al := by
        rw [HAND.out]
        have := HALL.out
        cases al
        · simp only [beq_eq_false_iff_ne, ne_eq]
          intro e
          have := this.1 (by omega)
          cases this
        · simp only [beq_iff_eq]
          have := this.2 rfl
          omega
      clear HAND HALL HMT
      generalize msk s.size (lk s l i) = mk at *
      generalize mt s.size t = mT at *
      cases al
      · have HQ := Lib.hid (HQN.out rfl)
        have HI := Lib.hid (HI2.out b w1 HBA.out HG2.out)
        clear HQY HQN HI1 HI2
        go_wp2_with fail
        refine HI.out.mono ?_
        rintro e w5 ⟨rfl, h5⟩
        go_wp2_with fail
        first | refine bodyPost_ret (results_none rfl _ _ _) rfl ?_ | refine bodyPost_end (results_none rfl _ _ _) rfl ?_ | ((try simp only [Exit.inBlock, Exit.then]); refine bodyPost_end (results_none rfl _ _ _) rfl ?_)
        rw [HQ.out]
        exact ⟨rfl, h5⟩
      · have HQ := Lib.hid (HQY.out rfl)
        have HI := Lib.hid (fun n => HI1.out (w1.drewN n) (HG2.out.later (below_drewN (Below.refl _ _) n)))
        have hor := HOR.out
        clear HQY HQN HI1
        go_upto_region 4 with fail
        refine wp_region_qtail 7 (by kernel_rfl) (by kernel_rfl) ?_; simp only [List.take_succ_cons, List.take_zero, List.drop_succ_cons, List.drop_zero]; (repeat (go_big_quiet_step (fail))); refine wpQuiet_nil ?_
        go_wp2_with fail
        refine (HI.out _).mono ?_
        rintro e w5 ⟨rfl, h5⟩
        have HI3 := Lib.hid (HI2.out _ w5 HB2.out h5)
        have g1 := HSF.out _ _ h5
        go_wp2_with fail
        refine HI3.out.mono ?_
        rintro e w7 ⟨rfl, h7⟩
        go_wp2_with fail
        first | refine bodyPost_ret (results_none rfl _ _ _) rfl ?_ | refine bodyPost_end (results_none rfl _ _ _) rfl ?_ | ((try simp only [Exit.inBlock, Exit.then]); refine bodyPost_end (results_none rfl _ _ _) rfl ?_)
        rw [HQ.out]
        exact ⟨rfl, h7⟩
end Go.Proofs.Ytdkheeocglfogaa
