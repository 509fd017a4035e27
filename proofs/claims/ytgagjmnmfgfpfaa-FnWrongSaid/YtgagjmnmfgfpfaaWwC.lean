/- WrongWords: the program's callbacks; what they leave as it is. -/
import Derived.Test.YtgagjmnmfgfpfaaWwD
import Derived.Test.YtgagjmnmfgfpfaaNwG
import Derived.Test.YtgagjmnmfgfpfaaNwO
namespace Go.Proofs.Ytgagjmnmfgfpfaa
open Go.RowKit

/-- A block that holds no texts. -/
def NT (w : World) (k : Nat) : Prop := ∀ cs T fz, w.heap[k]? = some (.cells cs T fz) → T ≠ 9 ∧ T ≠ 32
/-- Only blocks of texts may have turned; there may be new blocks. -/
structure KT (w w' : World) : Prop where
  size : w.heap.size ≤ w'.heap.size
  block : ∀ k, k < w.heap.size → NT w k → w'.heap[k]? = w.heap[k]?
theorem KT.refl (w : World) : KT w w := ⟨Nat.le_refl _, fun _ _ _ => rfl⟩
theorem KT.trans {a b c : World} (h : KT a b) (k : KT b c) : KT a c :=
  ⟨Nat.le_trans h.size k.size, fun i hi hn => by
    have e := h.block i hi hn
    refine (k.block i (Nat.lt_of_lt_of_le hi h.size) fun cs T fz hh => hn cs T fz (e ▸ hh)).trans e⟩
theorem Below.kt {w w' : World} (h : Below w.heap.size w w') : KT w w' := ⟨h.size, fun k hk _ => h.block k hk⟩
theorem KT.set {w : World} {X : Nat} {cs : Array Value} {fz : Nat × Nat} (h : w.heap[X]? = some (.cells cs 32 fz)) (v : Value) : KT w (w.setCell ⟨X, 0, none⟩ v) :=
  ⟨by simp, fun k _ hn => heap_setCell_other _ _ _ _ fun e => (hn cs _ fz (e ▸ h)).2 rfl⟩
theorem KT.grown {w w' : World} {B : Nat} {v : Value} {cs : List Value} (ho : OV 9 B w v cs) (hg : w.grownBy w' v.ownBlock) : KT w w' := by
  unfold OV at ho
  rcases ho.2 with ⟨rfl, _⟩ | ⟨g, cap, cur, rfl, _, hb, _⟩
  · exact Below.kt ((Below.refl _ _).grown hg (Nat.le_refl _) (by simp [Value.ownBlock]))
  · have h := chg_grown hg
    exact ⟨h.size, fun k hk hn => h.block k hk fun hm => by
      rw [List.mem_singleton] at hm
      subst hm
      exact (hn _ _ _ hb).1 rfl⟩
theorem OI.kt {B : Nat} {w w' : World} {v : Value} {xs : List Int} (h : OI B w v xs) (hk : KT w w') : OI B w' v xs := by
  refine OK.heap h fun k hb => hk.block k (h.lt k hb).2 fun cs T fz hh => ?_
  rcases h.2 with ⟨rfl, _⟩ | ⟨g, cap, cur, rfl, _, hg, _⟩
  · simp [Value.ownBlock] at hb
  · simp only [Value.ownBlock, Option.some.injEq] at hb
    subst hb
    rw [hg] at hh
    simp only [Option.some.injEq, Obj.cells.injEq] at hh
    rw [← hh.2.1]
    exact ⟨by decide, by decide⟩
/-- A box of one value that is no text. -/
def BX (w : World) (k : Nat) (T : TypeId) (v : Value) : Prop := w.heap[k]? = some (.cells #[v] T (0, 0)) ∧ T ≠ 9 ∧ T ≠ 32
section
variable {w w' : World} {k : Nat} {T : TypeId} {v : Value}
theorem BX.lt (h : BX w k T v) : k < w.heap.size := (Array.getElem?_eq_some_iff.1 h.1).1
theorem BX.nt (h : BX w k T v) : NT w k := fun cs T' fz hh => by
  rw [h.1] at hh
  simp only [Option.some.injEq, Obj.cells.injEq] at hh
  rw [← hh.2.1]; exact h.2
theorem BX.kt (h : BX w k T v) (hk : KT w w') : BX w' k T v := ⟨(hk.block k h.lt h.nt).trans h.1, h.2⟩
theorem BX.cell (h : BX w k T v) : w.cell? ⟨k, 0, none⟩ = some v := by
  unfold World.cell?; simp only [h.1]; rfl
theorem BX.frozen (h : BX w k T v) : w.frozen? ⟨k, 0, none⟩ = false := by
  unfold World.frozen?; simp only [h.1]; rfl
theorem BX.new (w : World) (T : TypeId) (v : Value) (h : T ≠ 9 ∧ T ≠ 32) : BX (w.alloc (.cells #[v] T)) w.heap.size T v := ⟨heap_alloc_new w _, h⟩
theorem BX.later (h : BX w k T v) (hb : Below w.heap.size w w') : BX w' k T v := h.kt (Below.kt hb)
end
/-- The cell X holds the list, all of it made from B on. -/
def WX (X B : Nat) (w : World) (l : List ByteArray) : Prop := ∃ v, w.heap[X]? = some (.cells #[v] 32 (0, 0)) ∧ OS B w v l ∧ B ≤ X
section
variable {X B : Nat} {w w' : World} {l l' : List ByteArray}
theorem WX.lt (h : WX X B w l) : X < w.heap.size := by
  obtain ⟨v, h, _⟩ := h
  exact (Array.getElem?_eq_some_iff.1 h).1
theorem WX.later (h : WX X B w l) (hb : Below w.heap.size w w') : WX X B w' l := by
  have hl := h.lt
  obtain ⟨v, h1, h2, h3⟩ := h
  exact ⟨v, (hb.block X hl).trans h1, h2.later hb, h3⟩
theorem WX.keep (h : WX X B w l) (h1 : ∀ k, NT w' k → True) (hb : ∀ k, ¬ NT w k → w'.heap[k]? = w.heap[k]?) : WX X B w' l := by
  obtain ⟨v, e1, e2, e3⟩ := h
  refine ⟨v, (hb X fun hn => (hn _ _ _ e1).2 rfl).trans e1, OV.heap e2 fun k hk => hb k fun hn => ?_, e3⟩
  rcases e2.2 with ⟨rfl, _⟩ | ⟨g, cap, cur, rfl, _, hg, _⟩
  · simp [Value.ownBlock] at hk
  · simp only [Value.ownBlock, Option.some.injEq] at hk
    subst hk
    exact (hn _ _ _ hg).1 rfl
/-- A store into a block of another kind. -/
theorem WX.setOther (h : WX X B w l) {k : Nat} (hk : NT w k) (o : Nat) (v : Value) : WX X B (w.setCell ⟨k, o, none⟩ v) l :=
  h.keep (fun _ _ => trivial) fun j hj => heap_setCell_other _ _ _ _ fun e => hj (e ▸ hk)
end
/-- What a callback leaves. -/
def WPost (X B : Nat) (l : List ByteArray) (w : World) (e : Ending) (w' : World) : Prop := e = .returned (.tuple #[]) ∧ Below B w w' ∧ KT w w' ∧ WX X B w' l
set_option maxRecDepth 100000 in
set_option maxHeartbeats 2000000 in
theorem ww1_any (X B : Nat) (tv : Value) (xs : List Int) (l : List ByteArray) (w : World) (hx : RI w tv xs) (hd : ∀ z ∈ xs, 0 ≤ z ∧ z ≤ 35) (hm : xs.length ≤ 1048576) (hl : l.length ≤ 1000000) (hX : WX X B w l) :
    Calls Try.prog 90 #[tv, .pointer (some ⟨X, 0, none⟩)] w (WPost X B (l ++ [wOf xs]) w) := by
  have hlt := hX.lt
  obtain ⟨v, hv1, hv2, hv3⟩ := hX
  obtain ⟨va, vc, rfl⟩ := hv2.read.slice
  have HV2 := Lib.hid hv2
  have HN : Hid (∀ w2 v' w5, Below w.drew.heap.size w.drew w2 → OV 9 B w5 v' (ss l ++ [.string (wOf xs)]) → (w2.alloc (.cells #[.string (wOf xs)] 9)).grownBy w5 (Value.slice va l.length vc).ownBlock →
      w5.cell? ⟨X, 0, none⟩ = some (.slice va l.length vc) ∧ w5.frozen? ⟨X, 0, none⟩ = false ∧ WPost X B (l ++ [wOf xs]) w (.returned (.tuple #[])) (w5.setCell ⟨X, 0, none⟩ v')) := fun w2 v' w5 hb2' ho hg => by
    have hb2 : Below w.heap.size w w2 := (Below.refl _ _).drew.trans hb2'
    have ha : Below w2.heap.size w2 (w2.alloc (.cells #[.string (wOf xs)] 9)) := (Below.refl _ _).alloc (Nat.le_refl _) _
    have hba : Below w.heap.size w (w2.alloc (.cells #[.string (wOf xs)] 9)) := hb2.trans (ha.mono hb2.size)
    have oa : OV 9 B (w2.alloc (.cells #[.string (wOf xs)] 9)) (.slice va l.length vc) (ss l) := OV.later HV2.out hba
    have k1 := KT.grown oa hg
    have xa := (hba.block X hlt).trans hv1
    have hne : ∀ k, (Value.slice va l.length vc).ownBlock = some k → k ≠ X := fun k hk e => by
      unfold OV at oa
      rcases oa.2 with ⟨hq, _⟩ | ⟨g, cap, cur, hq, _, hb, _⟩
      · rw [hq] at hk; simp [Value.ownBlock] at hk
      · rw [hq] at hk
        simp only [Value.ownBlock, Option.some.injEq] at hk
        subst hk
        rw [e, xa] at hb
        simp only [Option.some.injEq, Obj.cells.injEq] at hb
        exact absurd hb.2.1 (by decide)
    have x5 : w5.heap[X]? = some (.cells #[.slice va l.length vc] 32 (0, 0)) := by
      refine Eq.trans ?_ xa
      have hX' : X < (w2.alloc (.cells #[.string (wOf xs)] 9)).heap.size := Nat.lt_of_lt_of_le hlt hba.size
      exact hg.block X hX' (fun e => hne X e.symm rfl)
    have hb5 : Below B w w5 := own_below (hba.mono (Nat.le_trans hv3 (Nat.le_of_lt hlt))) oa hg (Nat.le_trans hv3 (Nat.le_trans (Nat.le_of_lt hlt) hba.size))
    have kt5 : KT w w5 := (Below.kt hba).trans k1
    refine ⟨by unfold World.cell?; simp only [x5]; rfl, by unfold World.frozen?; simp only [x5]; rfl, rfl, hb5.setCell (p := ⟨X, 0, none⟩) hv3 v', kt5.trans (KT.set x5 v'), v', ?_, ?_, hv3⟩
    · simp only [World.setCell, Array.getElem?_modify, if_pos, x5, Option.map_some]
      rfl
    · have : OS B w5 v' (l ++ [wOf xs]) := by unfold OS; simpa [ss] using ho
      refine OV.heap this fun k hk => heap_setCell_other _ _ _ _ fun e => ?_
      unfold OS OV at this
      rcases this.2 with ⟨hq, _⟩ | ⟨g, cap, cur, hq, _, hb, _⟩
      · rw [hq] at hk; simp [Value.ownBlock] at hk
      · rw [hq] at hk
        simp only [Value.ownBlock, Option.some.injEq] at hk
        subst hk
        rw [e, x5] at hb
        simp only [Option.some.injEq, Obj.cells.injEq] at hb
        exact absurd hb.2.1 (by decide)
  have HW : Hid (Calls Try.prog 91 #[tv] w.drew fun e w' => e = .returned (.string (wOf xs)) ∧ Below w.drew.heap.size w.drew w') := wordOf_any tv xs w.drew hx hd hm
  have c0 : w.drew.cell? ⟨X, 0, none⟩ = some (.slice va l.length vc) := by unfold World.cell?; simp only [World.drew, hv1]; rfl
  have hls : (ss l).length ≤ 1099511627776 := by rw [ss_length]; omega
  obtain ⟨ta, tc, rfl⟩ := hx.slice
  clear hv2 hx
  go_enter Try.func90, Try.ntmps90
  refine wp_region_held_drew (S := fun _ => True) (by kernel_rfl) trivial (fun hHeld => ?_)
  refine wpAnyH_take (i := 1) (oi := ⟨some 4, _, _, _, _, _⟩) (v := ?va1) rfl (by kernel_rfl) (by kernel_rfl) (by kernel_rfl) (fun _ _ _ h => h) (Or.inl ⟨by rfl, ?ya1⟩) trivial ?ra1
  case ya1 => (intro w hSw; (try dsimp only at hSw); go_simp; all_goals (with_reducible rfl))
  try simp only [Act.put, List.setIfInBounds_toArray, List.set_cons_zero, List.set_cons_succ]
  refine wpAnyH_ready (rs := [0, 2]) (by kernel_rfl) (by simp) ?_
  refine AllReadyH.cons rfl (fun K hK => ?cb) (AllReadyH.cons rfl (fun K hK => ?ab) AllReadyH.nil)
  case cb =>
    go_simp
    refine hK.out _ _ trivial (fun hHeld => ?_)
    clear hK K hHeld
    try simp only [Act.put, List.setIfInBounds_toArray, List.set_cons_zero, List.set_cons_succ]
    refine wpAnyH_ready (rs := [2]) (by kernel_rfl) (by simp) ?_
    refine AllReadyH.cons rfl (fun K hK => ?_) AllReadyH.nil
    go_simp
    go_at_call 91
    refine HW.out.mono ?_
    rintro e w2 ⟨rfl, hb2⟩
    have x2 := (hb2.block X hlt).trans hv1
    have c2 : w2.cell? ⟨X, 0, none⟩ = some (.slice va l.length vc) := by unfold World.cell?; simp only [x2]; rfl
    have HO2 : Hid (OS B w2 (.slice va l.length vc) l) := OS.later (w := w.drew) HV2.out hb2
    have hz2 : B ≤ (w2.alloc (.cells #[.string (wOf xs)] 9)).heap.size := by have h1 := hb2.size; simp at h1 ⊢; omega
    refine hK.out _ _ trivial (fun hHeld => ?_)
    clear hK K hHeld
    try simp only [Act.put, List.setIfInBounds_toArray, List.set_cons_zero, List.set_cons_succ]
    refine wpAnyH_ready (rs := [3]) (by kernel_rfl) (by simp) ?_
    refine AllReadyH.cons rfl (fun K hK => ?_) AllReadyH.nil
    go_simp
    refine hK.out _ _ trivial (fun hHeld => ?_)
    clear hK K hHeld
    try simp only [Act.put, List.setIfInBounds_toArray, List.set_cons_zero, List.set_cons_succ]
    refine wpAnyH_ready (rs := [4]) (by kernel_rfl) (by simp) ?_
    refine AllReadyH.cons rfl (fun K hK => ?_) AllReadyH.nil
    refine step_app Try.underlying32 info_str rfl (by omega) (by rfl) _ _ (by rfl) B _ _ (by rfl) (OV.alloc HO2.out _) ⟨w2.heap.size, 0, none⟩ 1 (.string (wOf xs)) (by rfl) (World.cell?_alloc_at _ _ _ _ rfl) rfl hls hz2 ?_
    intro v' w5 ho5 hgr
    obtain ⟨va2, vc2, hv'⟩ := OV.slice ho5
    rw [List.length_append, ss_length, List.length_singleton] at hv'
    subst hv'
    have HFI := Lib.hid (HN.out w2 _ w5 hb2 ho5 hgr)
    have d1 := HFI.out.1
    have d2 := HFI.out.2.1
    clear ho5 hgr
    refine hK.out _ _ trivial (fun hHeld => ?_)
    clear hK K hHeld
    try simp only [Act.put, List.setIfInBounds_toArray, List.set_cons_zero, List.set_cons_succ]
    refine wpAnyH_ready (rs := [5]) (by kernel_rfl) (by simp) ?_
    refine AllReadyH.cons rfl (fun K hK => ?_) AllReadyH.nil
    go_simp
    refine hK.out _ _ trivial (fun hHeld => ?_)
    clear hK K hHeld
    try simp only [Act.put, List.setIfInBounds_toArray, List.set_cons_zero, List.set_cons_succ]
    refine wpAnyH_done (by kernel_rfl) ?_ _
    go_wp2_with fail
    go_end0
    exact HFI.out.2.2
  case ab =>
    go_simp
    go_at_call 91
    refine HW.out.mono ?_
    rintro e w2 ⟨rfl, hb2⟩
    have x2 := (hb2.block X hlt).trans hv1
    have c2 : w2.cell? ⟨X, 0, none⟩ = some (.slice va l.length vc) := by unfold World.cell?; simp only [x2]; rfl
    have HO2 : Hid (OS B w2 (.slice va l.length vc) l) := OS.later (w := w.drew) HV2.out hb2
    have hz2 : B ≤ (w2.alloc (.cells #[.string (wOf xs)] 9)).heap.size := by have h1 := hb2.size; simp at h1 ⊢; omega
    refine hK.out _ _ trivial (fun hHeld => ?_)
    clear hK K hHeld
    try simp only [Act.put, List.setIfInBounds_toArray, List.set_cons_zero, List.set_cons_succ]
    refine wpAnyH_ready (rs := [0, 3]) (by kernel_rfl) (by simp) ?_
    refine AllReadyH.cons rfl (fun K hK => ?cd) (AllReadyH.cons rfl (fun K hK => ?ad) AllReadyH.nil)
    case cd =>
      go_simp
      refine hK.out _ _ trivial (fun hHeld => ?_)
      clear hK K hHeld
      try simp only [Act.put, List.setIfInBounds_toArray, List.set_cons_zero, List.set_cons_succ]
      refine wpAnyH_ready (rs := [3]) (by kernel_rfl) (by simp) ?_
      refine AllReadyH.cons rfl (fun K hK => ?_) AllReadyH.nil
      go_simp
      refine hK.out _ _ trivial (fun hHeld => ?_)
      clear hK K hHeld
      try simp only [Act.put, List.setIfInBounds_toArray, List.set_cons_zero, List.set_cons_succ]
      refine wpAnyH_ready (rs := [4]) (by kernel_rfl) (by simp) ?_
      refine AllReadyH.cons rfl (fun K hK => ?_) AllReadyH.nil
      refine step_app Try.underlying32 info_str rfl (by omega) (by rfl) _ _ (by rfl) B _ _ (by rfl) (OV.alloc HO2.out _) ⟨w2.heap.size, 0, none⟩ 1 (.string (wOf xs)) (by rfl) (World.cell?_alloc_at _ _ _ _ rfl) rfl hls hz2 ?_
      intro v' w5 ho5 hgr
      obtain ⟨va2, vc2, hv'⟩ := OV.slice ho5
      rw [List.length_append, ss_length, List.length_singleton] at hv'
      subst hv'
      have HFI := Lib.hid (HN.out w2 _ w5 hb2 ho5 hgr)
      have d1 := HFI.out.1
      have d2 := HFI.out.2.1
      clear ho5 hgr
      refine hK.out _ _ trivial (fun hHeld => ?_)
      clear hK K hHeld
      try simp only [Act.put, List.setIfInBounds_toArray, List.set_cons_zero, List.set_cons_succ]
      refine wpAnyH_ready (rs := [5]) (by kernel_rfl) (by simp) ?_
      refine AllReadyH.cons rfl (fun K hK => ?_) AllReadyH.nil
      go_simp
      refine hK.out _ _ trivial (fun hHeld => ?_)
      clear hK K hHeld
      try simp only [Act.put, List.setIfInBounds_toArray, List.set_cons_zero, List.set_cons_succ]
      refine wpAnyH_done (by kernel_rfl) ?_ _
      go_wp2_with fail
      go_end0
      exact HFI.out.2.2
    case ad =>
      go_simp
      refine hK.out _ _ trivial (fun hHeld => ?_)
      clear hK K hHeld
      try simp only [Act.put, List.setIfInBounds_toArray, List.set_cons_zero, List.set_cons_succ]
      have c3 : (w2.alloc (.cells #[.string (wOf xs)] 9)).cell? ⟨X, 0, none⟩ = some (.slice va l.length vc) := (World.cell?_alloc_lt _ _ _ (World.block_lt_of_cell? w2 _ c2)).trans c2
      refine wpAnyH_ready (rs := [0]) (by kernel_rfl) (by simp) ?_
      refine AllReadyH.cons rfl (fun K hK => ?_) AllReadyH.nil
      go_simp
      refine hK.out _ _ trivial (fun hHeld => ?_)
      clear hK K hHeld
      try simp only [Act.put, List.setIfInBounds_toArray, List.set_cons_zero, List.set_cons_succ]
      refine wpAnyH_ready (rs := [4]) (by kernel_rfl) (by simp) ?_
      refine AllReadyH.cons rfl (fun K hK => ?_) AllReadyH.nil
      refine step_app Try.underlying32 info_str rfl (by omega) (by rfl) _ _ (by rfl) B _ _ (by rfl) (OV.alloc HO2.out _) ⟨w2.heap.size, 0, none⟩ 1 (.string (wOf xs)) (by rfl) (World.cell?_alloc_at _ _ _ _ rfl) rfl hls hz2 ?_
      intro v' w5 ho5 hgr
      obtain ⟨va2, vc2, hv'⟩ := OV.slice ho5
      rw [List.length_append, ss_length, List.length_singleton] at hv'
      subst hv'
      have HFI := Lib.hid (HN.out w2 _ w5 hb2 ho5 hgr)
      have d1 := HFI.out.1
      have d2 := HFI.out.2.1
      clear ho5 hgr
      refine hK.out _ _ trivial (fun hHeld => ?_)
      clear hK K hHeld
      try simp only [Act.put, List.setIfInBounds_toArray, List.set_cons_zero, List.set_cons_succ]
      refine wpAnyH_ready (rs := [5]) (by kernel_rfl) (by simp) ?_
      refine AllReadyH.cons rfl (fun K hK => ?_) AllReadyH.nil
      go_simp
      refine hK.out _ _ trivial (fun hHeld => ?_)
      clear hK K hHeld
      try simp only [Act.put, List.setIfInBounds_toArray, List.set_cons_zero, List.set_cons_succ]
      refine wpAnyH_done (by kernel_rfl) ?_ _
      go_wp2_with fail
      go_end0
      exact HFI.out.2.2
end Go.Proofs.Ytgagjmnmfgfpfaa
