/- The program's FirstTotally and CountTotally: the walks. -/
import Derived.Test.YthcnhkjiojeemaaSkF
import Derived.Test.YthcnhkjiojeemaaTot
namespace Go.Proofs.Ythcnhkjiojeemaa
open Go.RowKit

theorem wrap_add (z : Int) : IntKind.i64.wrap (IntKind.i64.wrap z + 1) = IntKind.i64.wrap (z + 1) := by
  simp only [IntKind.wrap, IntKind.bits, IntKind.signed]
  simp
  omega
set_option maxHeartbeats 1000000 in
theorem do1 (n k B S G : Nat) (H P : Nat → Nat) (C : Nat) (hn : 1 ≤ n ∧ n ≤ 5) (hk : k < B) (t : TF) (w w0 : World) (hta : Ta n t) (ht : TbAt B S G H P C n t w) (hok : Ok1 k w) (hw : w0.heap = w.heap) :
    Calls Try.prog 35 #[.slice (some ⟨G, 0, none⟩) n C, .pointer (some ⟨k, 0, none⟩)] w fun e w' => e = .returned (.bool true) ∧ TbAt B S G H P C n t w' ∧ ChgR k S w w' ∧ Fin1 n k (n * n) t w0 w' true := by
  obtain ⟨⟨v, hv⟩, hf⟩ := hok
  have HCT := Lib.hid (cloneTable_any _ (mkT n t) w ht.read (by rw [mkT_len]; omega) (fun j hj => by rw [mkT_len] at hj; rw [mkT_rowlen _ _ _ hj]; omega))
  have hgb := ht.gb
  go_enter Try.func35, Try.ntmps35
  go_wp2_with fail
  refine HCT.out.mono ?_
  rintro e w2 ⟨u, rfl, ho, hb⟩
  have hkl := World.block_lt_of_cell? w _ hv
  have hv2 := (hb.cell (p := ⟨k, 0, none⟩) hkl).trans hv
  have hf2 := (hb.frozen (p := ⟨k, 0, none⟩) hkl).trans hf
  have hkl' : k < w.heap.size := hkl
  obtain ⟨ua, uc, rfl⟩ := ho.slice
  rw [mkT_len] at *
  have HE : Hid (TbAt B S G H P C n t (w2.setCell ⟨k, 0, none⟩ (.slice ua n uc)) ∧ ChgR k S w (w2.setCell ⟨k, 0, none⟩ (.slice ua n uc)) ∧ Fin1 n k (n * n) t w0 (w2.setCell ⟨k, 0, none⟩ (.slice ua n uc)) true) := by
    refine ⟨(ht.later hb).keep (fun q h1 _ => heap_setCell_other _ _ _ _ (by show q ≠ k; omega)) (by simp; exact Nat.le_trans ht.sz hb.size), (Below.chgR (B := k) (S := S) hb).trans ⟨rfl, rfl, rfl, by simp, fun q _ hq => heap_setCell_other _ _ _ _ (by show q ≠ k; omega)⟩, .inl ⟨rfl, _, t, World.cell?_setCell_same (h := hv2) .., ?_, Lex.full hta⟩⟩
    rw [hw]
    exact (ho.keep fun q h1 _ => heap_setCell_other _ _ _ _ (by show q ≠ k; omega)).mono (by simp)
  clear ho hb HCT
  go_wp2_with fail
  go_ret
  exact ⟨rfl, HE.out⟩
def FiPost (n : Nat) (w : World) (e : Ending) (w' : World) : Prop := ∃ v b, e = .returned (.tuple #[v, .bool b]) ∧ Hid (b = true → ∃ F, RT w' v (mkT n F) ∧ Lex n 0 (fun _ _ => -1) F) ∧ Hid (b = true ↔ ∃ u, Ta n u) ∧ Below w.heap.size w w'
theorem compl0 {n : Nat} {u : TF} (t : TF) (h : Ta n u) : Compl n 0 t u := ⟨h, fun i j _ _ hp => by omega⟩
set_option maxHeartbeats 2000000 in
theorem implFirst_any (n : Nat) (w : World) (hn : 1 ≤ n ∧ n ≤ 5) :
    Calls Try.prog 9 #[.int .i64 n] w (FiPost n w) := by
  have HI : Hid (∀ wx, Calls Try.prog 32 #[.int .i64 n, .int .i64 1, .int .i64 5] wx fun e w' => e = .returned (.bool true) ∧ wx = w') := fun wx => by
    have := in_any n 1 5 wx
    rw [inB_yes (by omega)] at this; exact this
  have hmf : ∀ (fn : Fn) (first cap : Array Value) (w : World), (Instr.makeFunc fn first cap).run Try.prog w = .ok (.func fn first cap) w := fun _ _ _ _ => rfl
  have hb : Below w.heap.size w (w.alloc (.cells #[.slice none 0 0] 24)) := (Below.refl _ _).alloc (Nat.le_refl _) _
  have hz : (w.alloc (.cells #[.slice none 0 0] 24)).heap.size = w.heap.size + 1 := by simp
  have k0 : (w.alloc (.cells #[.slice none 0 0] 24)).cell? ⟨w.heap.size, 0, none⟩ = some (.slice none 0 0) := World.cell?_alloc_at _ _ _ _ rfl
  have f0 : (w.alloc (.cells #[.slice none 0 0] 24)).frozen? ⟨w.heap.size, 0, none⟩ = false := by simp [go_sem]
  go_enter Try.func9, Try.ntmps9
  go_wp2_with (go_at_call 32; refine (HI.out _).mono ?_; rintro e w' ⟨rfl, rfl⟩)
  generalize w.alloc (.cells #[.slice none 0 0] 24) = w1 at *
  refine (newSeeker_any n w1 hn).mono ?_
  rintro e w2 ⟨p0, G, H, P, C, rfl, ht, hsk, hb1⟩
  have hk0 := (hb1.cell (p := ⟨w.heap.size, 0, none⟩) (by show w.heap.size < _; omega)).trans k0
  have hf0 := (hb1.frozen (p := ⟨w.heap.size, 0, none⟩) (by show w.heap.size < _; omega)).trans f0
  have hSK := Lib.hid (seekF_any n w.heap.size p0 true hn _ p0 G H P C (by omega) (Nat.le_refl _) _ _ _ (skI1 n w.heap.size)
    (fun t wx w0 hta htx hok hw => do1 n w.heap.size _ p0 G H P C hn (by omega) t wx w0 hta htx hok hw) (n * n) 0 (by omega) _ w2 0 rfl ht hsk (Vq.zero n hn.1) ⟨⟨_, hk0⟩, hf0⟩)
  have hb2 := hb.trans (hb1.mono hb.size)
  have hgb := ht.gb
  clear ht hsk hb1 k0 f0 hk0 hf0
  go_wp2_with fail
  refine hSK.out.mono ?_
  rintro e w3 ⟨b, rfl, hch, hfin, _⟩
  have hb3 : Below w.heap.size w w3 := hch.below hb2 (Nat.le_refl _) (by have := hch.size; have := hb2.size; omega)
  rcases hfin with ⟨rfl, fv, F, hc, ho, hL⟩ | ⟨rfl, hN, ⟨fv, hc⟩, _⟩
  · have hfn : FiPost n w (.returned (.tuple #[fv, .bool true])) w3 := ⟨fv, true, rfl, Lib.hid (fun _ => ⟨F, ho.read, hL⟩), Lib.hid ⟨fun _ => ⟨F, hL.c.ta⟩, fun _ => rfl⟩, hb3⟩
    clear ho hL
    go_wp2_with fail
    go_ret2
    exact hfn
  · have hfn : FiPost n w (.returned (.tuple #[fv, .bool false])) w3 := ⟨fv, false, rfl, Lib.hid (fun h => by cases h), Lib.hid ⟨fun h => by (cases h), fun ⟨u, hu⟩ => absurd (compl0 _ hu) (hN u)⟩, hb3⟩
    clear hN
    go_wp2_with fail
    go_ret2
    exact hfn
def Ok2 (k : Nat) (w : World) : Prop := (∃ z : Int, w.cell? ⟨k, 0, none⟩ = some (.int .i64 z)) ∧ w.frozen? ⟨k, 0, none⟩ = false
/-- The count in the block k has grown by d. -/
def Grw (k d : Nat) (w w' : World) : Prop := ∀ m : Nat, w.cell? ⟨k, 0, none⟩ = some (.int .i64 (IntKind.i64.wrap m)) → w'.cell? ⟨k, 0, none⟩ = some (.int .i64 (IntKind.i64.wrap ((m + d : Nat) : Int)))
def Fin2 (n k p : Nat) (t : TF) (w w' : World) (b : Bool) : Prop := b = false ∧ Ok2 k w' ∧ ∃ d, Grw k d w w' ∧ d ≤ n ^ (n * n - p) ∧ (d = 0 ↔ ∀ u, ¬ Compl n p t u)
def Prt2 (n k p x y : Nat) (t : TF) (w w1 : World) (c : Nat) : Prop := Ok2 k w1 ∧ ∃ d, Grw k d w w1 ∧ d ≤ c * n ^ (n * n - (p + 1)) ∧ (d = 0 ↔ ∀ u, Compl n p t u → (c : Int) ≤ u x y)
theorem skI2 (n k : Nat) : SkI n k (Ok2 k) (Fin2 n k) (Prt2 n k) := by
  have keep : ∀ {w w' : World}, Ok2 k w → w'.heap[k]? = w.heap[k]? → Ok2 k w' := fun {w w'} h e => ⟨by rw [cell_keepK e]; exact h.1, by rw [frozen_keepK e]; exact h.2⟩
  refine ⟨keep, ?_, ?_, ?_, ?_, ?_, fun h => h.1, fun h => h.2.1⟩
  · intro p x y t w w' hx hy h e
    refine ⟨keep h e, 0, fun m hm => by rw [cell_keepK e]; exact hm, Nat.zero_le _, ⟨fun _ u hu => (hu.ta.q.bd _ _ hx hy).1, fun _ => rfl⟩⟩
  · rintro p x y c t w w1 w2 ⟨h, d, h1, h2, h3⟩ e hu
    refine ⟨keep h e, d, fun m hm => by rw [cell_keepK e]; exact h1 m hm, by rw [Nat.succ_mul]; omega, ?_⟩
    rw [h3]
    exact ⟨fun h u hc => by have := h u hc; have := hu u hc; omega, fun h u hc => by have := h u hc; omega⟩
  · rintro p x y c t w w1 w2 w3 _ _ _ _ _ _ _ ⟨h, _⟩
    cases h
  · rintro p x y c t w w1 w2 w3 w4 rfl hx hy hc ⟨_, d, h1, h2, h3⟩ e ⟨_, h4, d2, h5, h6, h7⟩ e4
    refine ⟨keep h4 e4, d + d2, fun m hm => ?_, by rw [Nat.succ_mul]; omega, ?_⟩
    · have a1 := h1 m hm
      rw [← cell_keepK e] at a1
      have a2 := h5 _ a1
      rw [cell_keepK e4, a2, Nat.add_assoc]
    · constructor
      · intro h u hu
        have hd : d = 0 := by omega
        have hd2 : d2 = 0 := by omega
        have b1 := h3.1 hd u hu
        have b2 : u x y ≠ (c : Int) := fun e => h7.1 hd2 u ((compl_step hx hy).2 ⟨hu, e⟩)
        omega
      · intro h
        have hd : d = 0 := h3.2 fun u hu => by have := h u hu; omega
        have hd2 : d2 = 0 := h7.2 fun u hu => by
          obtain ⟨a1, a2⟩ := (compl_step hx hy).1 hu
          have := h u a1; omega
        omega
  · rintro p x y t w w1 w2 rfl hx hy ⟨h, d, h1, h2, h3⟩ e
    refine ⟨rfl, keep h e, d, fun m hm => by rw [cell_keepK e]; exact h1 m hm, by rw [pw_succ (pos_lt hx hy)]; exact h2, ?_⟩
    rw [h3]
    exact ⟨fun h u hu => by have h1 := h u hu; have h2 := (hu.ta.q.bd x y hx hy).2; omega, fun h u hu => absurd hu (h u)⟩
set_option maxHeartbeats 1000000 in
theorem do2 (n k B S G : Nat) (H P : Nat → Nat) (C : Nat) (hk : k < B) (t : TF) (w w0 : World) (hta : Ta n t) (ht : TbAt B S G H P C n t w) (hok : Ok2 k w) (hw : w0.heap = w.heap) :
    Calls Try.prog 40 #[.slice (some ⟨G, 0, none⟩) n C, .pointer (some ⟨k, 0, none⟩)] w fun e w' => e = .returned (.bool false) ∧ TbAt B S G H P C n t w' ∧ ChgR k S w w' ∧ Fin2 n k (n * n) t w0 w' false := by
  obtain ⟨⟨z, hv⟩, hf⟩ := hok
  have hgb := ht.gb
  have HE : Hid (∀ y, y = IntKind.i64.wrap (z + 1) → TbAt B S G H P C n t (w.setCell ⟨k, 0, none⟩ (.int .i64 y)) ∧ ChgR k S w (w.setCell ⟨k, 0, none⟩ (.int .i64 y)) ∧ Fin2 n k (n * n) t w0 (w.setCell ⟨k, 0, none⟩ (.int .i64 y)) false) := fun y hy => by
    subst hy
    have hc : (w.setCell ⟨k, 0, none⟩ (.int .i64 (IntKind.i64.wrap (z + 1)))).cell? ⟨k, 0, none⟩ = some (.int .i64 (IntKind.i64.wrap (z + 1))) := World.cell?_setCell_same (h := hv) ..
    refine ⟨ht.keep (fun q h1 _ => heap_setCell_other _ _ _ _ (by show q ≠ k; omega)) (by simp; exact ht.sz), ⟨rfl, rfl, rfl, by simp, fun q _ hq => heap_setCell_other _ _ _ _ (by show q ≠ k; omega)⟩, rfl, ⟨⟨_, hc⟩, by rw [World.frozen?_setCell]; exact hf⟩, 1, fun m hm => ?_, by rw [Nat.sub_self, Nat.pow_zero]; exact Nat.le_refl _, ⟨fun h => by omega, fun h => absurd ⟨hta, Agr.refl _ _ _⟩ (h t)⟩⟩
    have e : w0.cell? ⟨k, 0, none⟩ = w.cell? ⟨k, 0, none⟩ := by unfold World.cell?; rw [hw]
    rw [e, hv] at hm
    simp only [Option.some.injEq, Value.int.injEq, true_and] at hm
    rw [hc, hm, wrap_add, Int.natCast_add]; rfl
  clear ht hw hta
  go_enter Try.func40, Try.ntmps40
  go_wp2_with fail
  go_ret
  exact ⟨rfl, HE.out _ (IntWalk.i64_left _).symm⟩
def CtPost (n : Nat) (w : World) (e : Ending) (w' : World) : Prop := ∃ c : Nat, e = .returned (.tuple #[.int .i64 c, .bool true]) ∧ Hid (c = 0 ↔ ∀ u, ¬ Ta n u) ∧ Below w.heap.size w w'
set_option maxHeartbeats 2000000 in
theorem implCount_any (n : Nat) (w : World) (hn : 1 ≤ n ∧ n ≤ 4) :
    Calls Try.prog 12 #[.int .i64 n] w (CtPost n w) := by
  have hn5 : 1 ≤ n ∧ n ≤ 5 := by omega
  have HI : Hid (∀ wx, Calls Try.prog 32 #[.int .i64 n, .int .i64 1, .int .i64 4] wx fun e w' => e = .returned (.bool true) ∧ wx = w') := fun wx => by
    have := in_any n 1 4 wx
    rw [inB_yes (by omega)] at this; exact this
  have hmf : ∀ (fn : Fn) (first cap : Array Value) (w : World), (Instr.makeFunc fn first cap).run Try.prog w = .ok (.func fn first cap) w := fun _ _ _ _ => rfl
  have hb : Below w.heap.size w (w.alloc (.cells #[.int .i64 0] 2)) := (Below.refl _ _).alloc (Nat.le_refl _) _
  have hz : (w.alloc (.cells #[.int .i64 0] 2)).heap.size = w.heap.size + 1 := by simp
  have k0 : (w.alloc (.cells #[.int .i64 0] 2)).cell? ⟨w.heap.size, 0, none⟩ = some (.int .i64 0) := World.cell?_alloc_at _ _ _ _ rfl
  have f0 : (w.alloc (.cells #[.int .i64 0] 2)).frozen? ⟨w.heap.size, 0, none⟩ = false := by simp [go_sem]
  go_enter Try.func12, Try.ntmps12
  go_wp2_with (go_at_call 32; refine (HI.out _).mono ?_; rintro e w' ⟨rfl, rfl⟩)
  generalize w.alloc (.cells #[.int .i64 0] 2) = w1 at *
  refine (newSeeker_any n w1 hn5).mono ?_
  rintro e w2 ⟨p0, G, H, P, C, rfl, ht, hsk, hb1⟩
  have hk0 := (hb1.cell (p := ⟨w.heap.size, 0, none⟩) (by show w.heap.size < _; omega)).trans k0
  have hf0 := (hb1.frozen (p := ⟨w.heap.size, 0, none⟩) (by show w.heap.size < _; omega)).trans f0
  have hSK := Lib.hid (seekC_any n w.heap.size p0 false hn5 _ p0 G H P C (by omega) (Nat.le_refl _) _ _ _ (skI2 n w.heap.size)
    (fun t wx w0 hta htx hok hw => do2 n w.heap.size _ p0 G H P C (by omega) t wx w0 hta htx hok hw) (n * n) 0 (by omega) _ w2 0 rfl ht hsk (Vq.zero n hn.1) ⟨⟨_, hk0⟩, hf0⟩)
  have hb2 := hb.trans (hb1.mono hb.size)
  have hgb := ht.gb
  have HK0 := Lib.hid hk0
  clear ht hsk hb1 k0 f0 hk0 hf0
  go_wp2_with fail
  refine hSK.out.mono ?_
  rintro e w3 ⟨b, rfl, hch, hfin, _⟩
  have hb3 : Below w.heap.size w w3 := hch.below hb2 (Nat.le_refl _) (by have := hch.size; have := hb2.size; omega)
  obtain ⟨rfl, _, d, h1, h2, h3⟩ := hfin
  have hc := h1 0 (by rw [HK0.out]; rfl)
  have hd : d ≤ 4294967296 := by
    have h16 : n * n ≤ 16 := Nat.le_trans (Nat.mul_le_mul hn.2 hn.2) (by decide)
    rw [Nat.sub_zero] at h2
    calc d ≤ n ^ (n * n) := h2
      _ ≤ 4 ^ (n * n) := Nat.pow_le_pow_left hn.2 _
      _ ≤ 4 ^ 16 := Nat.pow_le_pow_right (by decide) h16
      _ = 4294967296 := by decide
  rw [Nat.zero_add, IntWalk.i64_in _ (by omega)] at hc
  have hfn : CtPost n w (.returned (.tuple #[.int .i64 d, .bool true])) w3 := ⟨d, rfl, Lib.hid (h3.trans ⟨fun h u hu => h u (compl0 _ hu), fun h u hu => h u hu.ta⟩), hb3⟩
  clear h1 h2 h3 hd
  go_wp2_with fail
  go_ret2
  exact hfn
end Go.Proofs.Ythcnhkjiojeemaa
