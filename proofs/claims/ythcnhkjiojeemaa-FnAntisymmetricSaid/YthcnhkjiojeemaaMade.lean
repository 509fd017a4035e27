/- Tables that are made: number by number, and row by row. -/
import Derived.Test.YthcnhkjiojeemaaMat
namespace Go.Proofs.Ythcnhkjiojeemaa
open Go.RowKit

/-- The table of n rows with the numbers f i j. -/
def mkT (n : Nat) (f : Nat → Nat → Int) : List (List Int) := (List.range n).map fun i => (List.range n).map fun j => f i j
theorem mkT_len (n : Nat) (f : Nat → Nat → Int) : (mkT n f).length = n := by simp [mkT]
theorem mkT_row (n : Nat) (f : Nat → Nat → Int) (i : Nat) (h : i < n) : rowAt (mkT n f) i = (List.range n).map fun j => f i j := by
  rw [rowAt_lt (by rw [mkT_len]; exact h)]; simp [mkT]
theorem mkT_rowlen (n : Nat) (f : Nat → Nat → Int) (i : Nat) (h : i < n) : (rowAt (mkT n f) i).length = n := by rw [mkT_row n f i h]; simp
theorem mkT_get (n : Nat) (f : Nat → Nat → Int) (i j : Nat) (h : i < n) (hj : j < n) : (rowAt (mkT n f) i).getD j 0 = f i j := by
  rw [mkT_row n f i h]; simp [hj]
theorem mkT_ext {n : Nat} {f g : Nat → Nat → Int} (h : ∀ i j, i < n → j < n → f i j = g i j) : mkT n f = mkT n g := by
  unfold mkT
  refine List.map_congr_left fun i hi => List.map_congr_left fun j hj => h i j (List.mem_range.1 hi) (List.mem_range.1 hj)
theorem rowAt_set (x : List (List Int)) (i : Nat) (y : List Int) (k : Nat) (h : i < x.length) : rowAt (x.set i y) k = if k = i then y else rowAt x k := by
  unfold rowAt
  rw [List.getD_eq_getElem?_getD, List.getElem?_set]
  by_cases e : i = k
  · subst e; simp [h]
  · rw [if_neg e, if_neg (Ne.symm e), ← List.getD_eq_getElem?_getD]
theorem ext_rows {x y : List (List Int)} (hl : x.length = y.length) (h : ∀ i, i < x.length → rowAt x i = rowAt y i) : x = y := by
  apply List.ext_getElem hl
  intro i h1 h2
  have := h i h1
  rwa [rowAt_lt h1, rowAt_lt h2] at this
/-- f up to (i, j), and 0 behind. -/
def upTo (f : Nat → Nat → Int) (i j : Nat) : Nat → Nat → Int := fun a b => if a < i ∨ (a = i ∧ b < j) then f a b else 0
theorem mkT_set (n : Nat) (f : Nat → Nat → Int) (i j : Nat) (hi : i < n) (hj : j < n) : (mkT n (upTo f i j)).set i ((rowAt (mkT n (upTo f i j)) i).set j (f i j)) = mkT n (upTo f i (j + 1)) := by
  refine ext_rows (by simp [mkT_len]) fun a ha => ?_
  have ha' : a < n := by simpa [mkT_len] using ha
  rw [rowAt_set _ _ _ _ (by rw [mkT_len]; exact hi)]
  by_cases e : a = i
  · subst e
    rw [if_pos rfl, mkT_row n _ a ha', mkT_row n _ a ha']
    apply List.ext_getElem (by simp)
    intro b h1 h2
    rw [List.getElem_set]
    by_cases eb : j = b
    · subst eb; rw [if_pos rfl]; simp [upTo]
    · rw [if_neg eb]
      simp only [List.getElem_map, List.getElem_range, upTo]
      by_cases hb : b < j
      · rw [if_pos (.inr ⟨trivial, hb⟩), if_pos (.inr ⟨trivial, by omega⟩)]
      · rw [if_neg (by omega), if_neg (by omega)]
  · rw [if_neg e, mkT_row n _ a ha', mkT_row n _ a ha']
    refine List.map_congr_left fun b hb => ?_
    unfold upTo
    by_cases h : a < i
    · rw [if_pos (.inl h), if_pos (.inl h)]
    · rw [if_neg (by omega), if_neg (by omega)]
theorem upTo_row (n : Nat) (f : Nat → Nat → Int) (i : Nat) : mkT n (upTo f i n) = mkT n (upTo f (i + 1) 0) := mkT_ext fun a b ha hb => by
  unfold upTo
  by_cases h : a < i ∨ a = i ∧ b < n
  · rw [if_pos h, if_pos (by omega)]
  · rw [if_neg h, if_neg (by omega)]
theorem upTo_all (n : Nat) (f : Nat → Nat → Int) : mkT n (upTo f n 0) = mkT n f := mkT_ext fun a b ha hb => by unfold upTo; rw [if_pos (.inl ha)]
theorem upTo_none (n : Nat) (f : Nat → Nat → Int) : mkT n (upTo f 0 0) = List.replicate n (List.replicate n 0) := by
  refine ext_rows (by simp [mkT_len]) fun a ha => ?_
  rw [mkT_len] at ha
  rw [mkT_row n _ a ha, rowAt_lt (by simpa using ha)]
  apply List.ext_getElem (by simp)
  intro b h1 h2
  simp [upTo]

theorem OV.ne {T T' : TypeId} {B B' : Nat} {w : World} {v v' : Value} {cs cs' : List Value} (h : OV T B w v cs) (h' : OV T' B' w v' cs') (hT : T ≠ T') : ∀ k, v.ownBlock = some k → v'.ownBlock ≠ some k := by
  intro k hk hk'
  rcases h.2 with ⟨rfl, _⟩ | ⟨g, cap, cur, rfl, _, hg, _⟩
  · simp [Value.ownBlock] at hk
  · rcases h'.2 with ⟨rfl, _⟩ | ⟨g', cap', cur', rfl, _, hg', _⟩
    · simp [Value.ownBlock] at hk'
    · simp [Value.ownBlock] at hk hk'
      subst hk; subst hk'
      rw [hg] at hg'
      simp only [Option.some.injEq, Obj.cells.injEq] at hg'
      exact hT hg'.2.1

section
variable {B S : Nat} {w : World} {v : Value} {x : List (List Int)}
/-- A row of a table that the call owns: where it lies, and what a store into it makes. -/
theorem OT.at (h : OT B S w v x) (i : Nat) (hi : i < x.length) (hn : 0 < (rowAt x i).length) :
    ∃ g c0 H c, v = .slice (some ⟨g, 0, none⟩) x.length c0 ∧ w.cell? ⟨g, i, none⟩ = some (.slice (some ⟨H, 0, none⟩) (rowAt x i).length c) ∧ g ≠ H ∧ B ≤ H ∧ H < S ∧
      ∀ j, j < (rowAt x i).length → w.cell? ⟨H, j, none⟩ = some (.int .i64 ((rowAt x i).getD j 0)) ∧ w.frozen? ⟨H, j, none⟩ = false ∧
        ∀ z, OT B S (w.setCell ⟨H, j, none⟩ (.int .i64 z)) v (x.set i ((rowAt x i).set j z)) ∧ Chg [H] w (w.setCell ⟨H, j, none⟩ (.int .i64 z)) := by
  obtain ⟨rs, h1, h2, h3⟩ := h
  have hl : rs.length = x.length := h3.1
  obtain ⟨ho, hp, hq⟩ := h3.2 i hi
  obtain ⟨a, c0, rfl⟩ := h1.slice
  obtain ⟨g, rfl, _, hc⟩ := h1.at i (by omega)
  rw [List.getElem?_eq_getElem (by omega)] at hc
  have hget : rs.getD i nl = rs[i]'(by omega) := by simp [show i < rs.length by omega]
  rw [← hget] at hc
  obtain ⟨ra, rc, hr⟩ := ho.slice
  obtain ⟨H, rfl, hBH, _⟩ : ∃ H, ra = some ⟨H, 0, none⟩ ∧ B ≤ H ∧ True := by
    rw [hr] at ho
    obtain ⟨H, e1, e2, _⟩ := ho.at 0 hn
    exact ⟨H, e1, e2, trivial⟩
  have hS : H < S ∧ some g ≠ some H := by
    have := hp H (by rw [hr]; rfl)
    refine ⟨this.1, fun e => this.2 ?_⟩
    simpa [Value.ownBlock] using e
  refine ⟨g, c0, H, rc, by rw [hl], by rw [hc, hr], fun e => hS.2 (by rw [e]), hBH, hS.1, fun j hj => ?_⟩
  have ho' := ho
  rw [hr] at ho'
  refine ⟨ho'.cell j hj, ho'.frozen j, fun z => ?_⟩
  obtain ⟨hst, hgr⟩ := ho'.stored j z
  have hch := chg_grown hgr
  refine ⟨⟨rs, ?_, by simpa [hl] using h2, ?_⟩, hch⟩
  · have := h1.chg hch (fun k hk hm => by
      rw [mem_vb] at hk
      simp only [List.mem_singleton] at hm
      subst hm
      have : some g = some k := by simpa [Value.ownBlock] using hk
      exact hS.2 this)
    simpa [hl] using this
  · have := h3.set i hi (w' := w.setCell ⟨H, j, none⟩ (.int .i64 z)) (y := (rowAt x i).set j z) (by rw [hr]; exact hst) (by rw [hr]; exact hch)
    simpa [hl] using this
end
/-- A row appended to a table that the call owns. -/
theorem OT.app {B S : Nat} {w w' : World} {v v' u : Value} {rs : List Value} {x : List (List Int)} {y : List Int} (h1 : OV 29 B w v rs) (h3 : Rows B S w v.ownBlock rs x) (hS : S ≤ w.heap.size) (hB : B ≤ S)
    (hu : OI S w u y) (hv' : OV 29 B w' v' (rs ++ [u])) (hg : w.grownBy w' v.ownBlock) : OT B w'.heap.size w' v' (x ++ [y]) := by
  have hT : (29 : TypeId) ≠ 2 := by decide
  have hkeep : ∀ {r : Value} {z : List Int} {B0 : Nat}, OI B0 w r z → OI B0 w' r z := fun {r z B0} hr => by
    refine hr.kept hg ?_
    by_cases e : r.ownBlock = none
    · exact .inl e
    · refine .inr fun ee => ?_
      cases hb : r.ownBlock with
      | none => exact e hb
      | some k =>
        rw [hb] at ee
        exact OV.ne h1 hr hT k ee.symm hb
  have hu' := hkeep hu
  refine ⟨rs ++ [u], hv', fun k hk => (hv'.lt k hk).2, ?_⟩
  refine ⟨by simp [h3.1], fun j hj => ?_⟩
  have hl := h3.1
  have e1 : ∀ i, i < x.length → (rs ++ [u]).getD i nl = rs.getD i nl := fun i hi => by
    rw [List.getD_eq_getElem?_getD, List.getElem?_append_left (by omega), ← List.getD_eq_getElem?_getD]
  have hne : ∀ {r : Value} {z : List Int} {B0 : Nat}, OI B0 w' r z → ∀ k, r.ownBlock = some k → v'.ownBlock ≠ some k := fun {r z B0} hr k hk e => OV.ne hv' hr hT k e hk
  by_cases hjx : j < x.length
  · have e2 : rowAt (x ++ [y]) j = rowAt x j := by
      unfold rowAt
      rw [List.getD_eq_getElem?_getD, List.getElem?_append_left (by omega), ← List.getD_eq_getElem?_getD]
    rw [e1 j hjx, e2]
    obtain ⟨a, b, c⟩ := h3.2 j hjx
    have a' := hkeep a
    refine ⟨a', fun k hk => ⟨(a'.lt k hk).2, hne a' k hk⟩, fun i hi k hk => ?_⟩
    rw [e1 i (by omega)]
    exact c i hi k hk
  · have hj' : j = x.length := by simp at hj; omega
    subst hj'
    have e3 : (rs ++ [u]).getD x.length nl = u := by rw [← hl]; simp
    have e4 : rowAt (x ++ [y]) x.length = y := by simp [rowAt]
    rw [e3, e4]
    refine ⟨hu'.mono hB, fun k hk => ⟨(hu'.lt k hk).2, hne hu' k hk⟩, fun i hi k hk => ?_⟩
    rw [e1 i hi]
    intro e
    have h5 := (h3.2 i hi).2.1 k e
    have h6 := hu.lt k hk
    omega

set_option maxHeartbeats 1000000 in
theorem blank_any (n : Nat) (w : World) (hn : n ≤ 1048576) :
    Calls Try.prog 70 #[.int .i64 n] w fun e w' => ∃ v', e = .returned v' ∧ OT w.heap.size w'.heap.size w' v' (List.replicate n (List.replicate n 0)) ∧ Below w.heap.size w w' := by
  go_enter Try.func70, Try.ntmps70
  go_wp2_with (at_make; refine wpl_make Try.underlying24 info_row rfl (by omega) rfl _ _ rfl w.heap.size .i64 .i64 _ _ n rfl rfl rfl rfl (by omega) (Nat.le_refl _) ?_; intro w1 hown hgr hlt)
  have hb1 : Below w.heap.size w w1 := (Below.refl _ _).grown hgr (Nat.le_refl _) (by simp)
  clear hgr
  go_loopw [9] (fun iv wr => ∃ (k : Nat) (rs : List Value), k ≤ n ∧ iv = .int .i64 k ∧ Hid (rs.length = k) ∧ OV 29 w.heap.size wr (.slice (some ⟨w.heap.size, 0, none⟩) n n) (rs ++ List.replicate (n - k) nl) ∧ Rows w.heap.size wr.heap.size wr (some w.heap.size) rs (List.replicate k (List.replicate n 0)) ∧ w.heap.size < wr.heap.size ∧ Below w.heap.size w wr) (fun iv _ => n - (intOf iv).toNat)
  case atStart => exact ⟨0, [], Nat.zero_le _, rfl, rfl, by simpa using hown, Rows.nil _ _ _ _, hlt, hb1⟩
  case round =>
    obtain ⟨k, rs, hk, rfl, HK, hown, hrows, hsz, hb⟩ := hrel
    clear hb1 hlt
    by_cases hlt : k < n
    · have HST : Hid (∀ w2, wr.grownBy w2 none → w2.cell? ⟨w.heap.size, k, none⟩ = some nl ∧ w2.frozen? ⟨w.heap.size, k, none⟩ = false) := fun w2 hg2 => by
        have hown2 := hown.later ((Below.refl wr.heap.size wr).grown hg2 (Nat.le_refl _) (by simp))
        have hkl := HK.out
        have hcz := hown2.cell k (by simp; omega)
        rw [List.getElem?_append_right (by omega), List.getElem?_replicate, if_pos (by omega)] at hcz
        exact ⟨hcz, hown2.frozen k⟩
      go_wp2_with (at_make; refine wpl_make_i64 rfl _ _ rfl wr.heap.size .i64 .i64 _ _ n rfl rfl rfl rfl (by omega) (Nat.le_refl _) ?_; intro w2 ho1 hgr2 hlt2; obtain ⟨hcz, hfz⟩ := HST.out w2 hgr2)
      have hb2 : Below wr.heap.size wr w2 := (Below.refl _ _).grown hgr2 (Nat.le_refl _) (by simp)
      have hkl := HK.out
      have hown2 := hown.later hb2
      have hst := hown2.stored k (.slice (some ⟨wr.heap.size, 0, none⟩) n n)
      have e : (rs ++ List.replicate (n - k) nl).set k (.slice (some ⟨wr.heap.size, 0, none⟩) n n) = (rs ++ [.slice (some ⟨wr.heap.size, 0, none⟩) n n]) ++ List.replicate (n - (k + 1)) nl := by
        rw [List.set_append_right _ _ (by omega), hkl, Nat.sub_self, show n - k = (n - (k + 1)) + 1 by omega, List.replicate_succ, List.set_cons_zero]
        simp
      rw [e] at hst
      have hrows2 : Rows w.heap.size w2.heap.size (w2.setCell ⟨w.heap.size, k, none⟩ (.slice (some ⟨wr.heap.size, 0, none⟩) n n)) (some w.heap.size) (rs ++ [.slice (some ⟨wr.heap.size, 0, none⟩) n n]) (List.replicate (k + 1) (List.replicate n 0)) := by
        have ht : List.replicate (k + 1) (List.replicate n (0 : Int)) = List.replicate k (List.replicate n 0) ++ [List.replicate n 0] := by rw [List.replicate_succ']
        rw [ht]
        have h1 : Rows w.heap.size w2.heap.size w2 (some w.heap.size) (rs ++ [.slice (some ⟨wr.heap.size, 0, none⟩) n n]) (List.replicate k (List.replicate n 0) ++ [List.replicate n 0]) :=
          Rows.snoc (hrows.keep fun q _ h2 _ => hb2.block q h2) ho1 (fun q hq => (ho1.lt q hq).2) (fun q hq => by simp at hq; omega) hb2.size (by omega)
        exact h1.keep fun q _ _ h3 => heap_setCell_other _ _ _ _ (fun e => h3 (by first | rw [e] | rw [← e]))
      have hb3 := (hb.trans (hb2.mono (by omega))).setCell (p := ⟨w.heap.size, k, none⟩) (Nat.le_refl _) (.slice (some ⟨wr.heap.size, 0, none⟩) n n)
      have hk1 : (rs ++ [Value.slice (some ⟨wr.heap.size, 0, none⟩) n n]).length = k + 1 := by simp [hkl]
      have HK1 := Lib.hid hk1
      have hsz2 := hb2.size
      go_roundw
      case rel => exact ⟨k + 1, _, by omega, by go_num, HK1, hst.1, by simpa using hrows2, by simp; omega, hb3⟩
      case measure => first | (simp [intOf]; done) | (simp [intOf]; omega)
    · have hk' : k = n := by omega
      subst hk'
      have hown' : OV 29 w.heap.size wr (.slice (some ⟨w.heap.size, 0, none⟩) k k) rs := by simpa using hown
      go_wp2_with fail
      go_ret
      exact ⟨_, rfl, ⟨rs, hown', fun q hq => by simp [Value.ownBlock] at hq; omega, hrows⟩, hb⟩

set_option maxHeartbeats 2000000 in
theorem madePr (n : Nat) (f : Nat → Nat → Int) (p2 p6 p3 : Nat) (w : World) (hn : n ≤ 1000) (hcap : True)
    (hf : Hid (∀ w1 i j, i < n → j < n → Below w.heap.size w w1 → Calls Try.prog 44 #[.int .i64 (i : Nat), .int .i64 (j : Nat), .pointer (some ⟨p2, 0, none⟩), .pointer (some ⟨p6, 0, none⟩), .pointer (some ⟨p3, 0, none⟩)] w1 fun e w' => e = .returned (.int .i64 (f i j)) ∧ Drw w1 w')) :
    Calls Try.prog 43 #[.int .i64 n, .func (.func 44) #[] #[.pointer (some ⟨p2, 0, none⟩), .pointer (some ⟨p6, 0, none⟩), .pointer (some ⟨p3, 0, none⟩)]] w fun e w' => ∃ v', e = .returned v' ∧ OT w.heap.size w'.heap.size w' v' (mkT n f) ∧ Below w.heap.size w w' := by
  go_enter Try.func43, Try.ntmps43
  go_wp2_with fail
  refine (blank_any n w (by omega)).mono ?_
  rintro e w1 ⟨v, rfl, ho, hb⟩
  rw [← upTo_none n f] at ho
  have hl0 := mkT_len n (upTo f 0 0)
  obtain ⟨a, c, hv⟩ := ho.slice
  rw [hl0] at hv
  subst hv
  generalize hS : w1.heap.size = S at *
  have hSw : S ≤ w1.heap.size := by omega
  clear hl0 hS
  go_wp2_with fail
  go_loopw [12] (fun iv wr => ∃ i : Nat, i ≤ n ∧ iv = .int .i64 i ∧ S ≤ wr.heap.size ∧ OT w.heap.size S wr (.slice a n c) (mkT n (upTo f i 0)) ∧ Below w.heap.size w wr) (fun iv _ => n - (intOf iv).toNat)
  case atStart => exact ⟨0, Nat.zero_le _, rfl, hSw, ho, hb⟩
  case round =>
    obtain ⟨i, hi, rfl, hSz, ho, hb⟩ := hrel
    clear hSw
    by_cases hil : i < n
    · obtain ⟨g, c0, H, rc, hv, hc, hne, hBH, hHS, hcell⟩ := ho.at i (by rw [mkT_len]; exact hil) (by rw [mkT_rowlen _ _ _ hil]; omega)
      rw [mkT_len] at hv
      rw [mkT_rowlen _ _ _ hil] at hc
      simp only [Value.slice.injEq, true_and] at hv
      obtain ⟨rfl, rfl⟩ := hv
      clear hcell
      go_wp2_with fail
      go_loopw [20] (fun jv wr => ∃ j : Nat, j ≤ n ∧ jv = .int .i64 j ∧ S ≤ wr.heap.size ∧ OT w.heap.size S wr (.slice (some ⟨g, 0, none⟩) n c) (mkT n (upTo f i j)) ∧ Below w.heap.size w wr) (fun jv _ => n - (intOf jv).toNat)
      case atStart => exact ⟨0, Nat.zero_le _, rfl, hSz, ho, hb⟩
      case round =>
        obtain ⟨j, hj, rfl, hSz, ho, hb⟩ := hrel
        clear hc
        by_cases hjl : j < n
        · obtain ⟨g', c0', H', rc', hv, hc, hne, hBH, hHS, hcell⟩ := ho.at i (by rw [mkT_len]; exact hil) (by rw [mkT_rowlen _ _ _ hil]; omega)
          rw [mkT_len] at hv
          rw [mkT_rowlen _ _ _ hil] at hc
          simp only [Value.slice.injEq, Option.some.injEq, Addr.mk.injEq, true_and, and_true] at hv
          obtain ⟨rfl, rfl⟩ := hv
          have HST : Hid (∀ wy, Below wr.heap.size wr wy → wy.cell? ⟨g, i, none⟩ = some (.slice (some ⟨H', 0, none⟩) n rc') ∧ wy.cell? ⟨H', j, none⟩ = some (.int .i64 ((rowAt (mkT n (upTo f i j)) i).getD j 0)) ∧ wy.frozen? ⟨H', j, none⟩ = false ∧
              (wy.setCell ⟨H', j, none⟩ (.int .i64 (f i j))).cell? ⟨g, i, none⟩ = some (.slice (some ⟨H', 0, none⟩) n rc') ∧ S ≤ (wy.setCell ⟨H', j, none⟩ (.int .i64 (f i j))).heap.size ∧ OT w.heap.size S (wy.setCell ⟨H', j, none⟩ (.int .i64 (f i j))) (.slice (some ⟨g, 0, none⟩) n c) (mkT n (upTo f i (j + 1))) ∧ Below w.heap.size w (wy.setCell ⟨H', j, none⟩ (.int .i64 (f i j)))) := fun wy hby => by
            obtain ⟨g2, c2, H2, rc2, hv2, hc2, hne2, hBH2, hHS2, hcell2⟩ := (ho.later hby hSz).at i (by rw [mkT_len]; exact hil) (by rw [mkT_rowlen _ _ _ hil]; omega)
            rw [mkT_len] at hv2
            rw [mkT_rowlen _ _ _ hil] at hc2
            simp only [Value.slice.injEq, Option.some.injEq, Addr.mk.injEq, true_and, and_true] at hv2
            obtain ⟨rfl, rfl⟩ := hv2
            have hce := (hby.cell (p := ⟨g, i, none⟩) (World.block_lt_of_cell? wr _ hc)).trans hc
            rw [hce] at hc2
            simp only [Option.some.injEq, Value.slice.injEq, Addr.mk.injEq, true_and, and_true] at hc2
            obtain ⟨rfl, rfl⟩ := hc2
            obtain ⟨hc3, hfz, hst⟩ := hcell2 j (by rw [mkT_rowlen _ _ _ hil]; exact hjl)
            have hst2 := hst (f i j)
            rw [mkT_set n f i j hil hjl] at hst2
            refine ⟨hce, hc3, hfz, ?_, by have := hby.size; simp; omega, hst2.1, (hb.trans (hby.mono hb.size)).setCell hBH2 _⟩
            have h1 := heap_setCell_other wy ⟨H', j, none⟩ g (.int .i64 (f i j)) hne2
            rw [← hce]
            unfold World.cell?
            simp only [h1]
          have f0 : (0 : Int) ≤ (i : Int) := by omega
          have f1 : (i : Int) < (n : Int) := by omega
          have f2 : (0 : Int) ≤ (j : Int) := by omega
          have f3 : (j : Int) < (n : Int) := by omega
          have hcall := hf.out wr.drew i j hil hjl hb.drew
          have HCL := Lib.hid hcall
          clear hcell hcall ho
          generalize f i j = z at *
          generalize (rowAt (mkT n (upTo f i j)) i).getD j 0 = z0 at *
          go_wp2_with fail
          go_region_held3 (fun w' => w'.cell? ⟨g, i, none⟩ = some (.slice (some ⟨H', 0, none⟩) n rc')) (first | go_keep | exact hcs | exact hcy)
            (first | (go_at_call 44; refine (HCL.out).mono ?_; rintro e w3 ⟨rfl, hd⟩; obtain ⟨hcy, hcz, hfz, hcs, hS2, ho2, hb2⟩ := HST.out w3 ((Below.refl _ wr).drew.trans hd.below)))
          go_wp2_with fail
          go_roundw
          case rel => exact ⟨j + 1, by omega, by go_num, by first | exact hS2 | simpa using hS2, by first | exact ho2 | exact ho2.drew, by first | exact hb2 | exact hb2.drew⟩
          case measure => first | (simp [intOf]; done) | (simp [intOf]; omega)
        · obtain rfl : j = n := by omega
          rw [upTo_row] at ho
          go_wp2_with fail
          go_roundw
          case rel => exact ⟨i + 1, by omega, by go_num, hSz, ho, hb⟩
          case measure => first | (simp [intOf]; done) | (simp [intOf]; omega)
    · obtain rfl : i = n := by omega
      rw [upTo_all] at ho
      go_wp2_with fail
      go_ret
      exact ⟨_, rfl, ho.mono hSz, hb⟩
set_option maxHeartbeats 2000000 in
theorem madeSk (n : Nat) (f : Nat → Nat → Int) (w : World) (hn : n ≤ 1000) (hcap : True)
    (hf : Hid (∀ w1 i j, i < n → j < n → Below w.heap.size w w1 → Calls Try.prog 60 #[.int .i64 (i : Nat), .int .i64 (j : Nat)] w1 fun e w' => e = .returned (.int .i64 (f i j)) ∧ Drw w1 w')) :
    Calls Try.prog 43 #[.int .i64 n, .func (.func 60) #[] #[]] w fun e w' => ∃ v', e = .returned v' ∧ OT w.heap.size w'.heap.size w' v' (mkT n f) ∧ Below w.heap.size w w' := by
  go_enter Try.func43, Try.ntmps43
  go_wp2_with fail
  refine (blank_any n w (by omega)).mono ?_
  rintro e w1 ⟨v, rfl, ho, hb⟩
  rw [← upTo_none n f] at ho
  have hl0 := mkT_len n (upTo f 0 0)
  obtain ⟨a, c, hv⟩ := ho.slice
  rw [hl0] at hv
  subst hv
  generalize hS : w1.heap.size = S at *
  have hSw : S ≤ w1.heap.size := by omega
  clear hl0 hS
  go_wp2_with fail
  go_loopw [12] (fun iv wr => ∃ i : Nat, i ≤ n ∧ iv = .int .i64 i ∧ S ≤ wr.heap.size ∧ OT w.heap.size S wr (.slice a n c) (mkT n (upTo f i 0)) ∧ Below w.heap.size w wr) (fun iv _ => n - (intOf iv).toNat)
  case atStart => exact ⟨0, Nat.zero_le _, rfl, hSw, ho, hb⟩
  case round =>
    obtain ⟨i, hi, rfl, hSz, ho, hb⟩ := hrel
    clear hSw
    by_cases hil : i < n
    · obtain ⟨g, c0, H, rc, hv, hc, hne, hBH, hHS, hcell⟩ := ho.at i (by rw [mkT_len]; exact hil) (by rw [mkT_rowlen _ _ _ hil]; omega)
      rw [mkT_len] at hv
      rw [mkT_rowlen _ _ _ hil] at hc
      simp only [Value.slice.injEq, true_and] at hv
      obtain ⟨rfl, rfl⟩ := hv
      clear hcell
      go_wp2_with fail
      go_loopw [20] (fun jv wr => ∃ j : Nat, j ≤ n ∧ jv = .int .i64 j ∧ S ≤ wr.heap.size ∧ OT w.heap.size S wr (.slice (some ⟨g, 0, none⟩) n c) (mkT n (upTo f i j)) ∧ Below w.heap.size w wr) (fun jv _ => n - (intOf jv).toNat)
      case atStart => exact ⟨0, Nat.zero_le _, rfl, hSz, ho, hb⟩
      case round =>
        obtain ⟨j, hj, rfl, hSz, ho, hb⟩ := hrel
        clear hc
        by_cases hjl : j < n
        · obtain ⟨g', c0', H', rc', hv, hc, hne, hBH, hHS, hcell⟩ := ho.at i (by rw [mkT_len]; exact hil) (by rw [mkT_rowlen _ _ _ hil]; omega)
          rw [mkT_len] at hv
          rw [mkT_rowlen _ _ _ hil] at hc
          simp only [Value.slice.injEq, Option.some.injEq, Addr.mk.injEq, true_and, and_true] at hv
          obtain ⟨rfl, rfl⟩ := hv
          have HST : Hid (∀ wy, Below wr.heap.size wr wy → wy.cell? ⟨g, i, none⟩ = some (.slice (some ⟨H', 0, none⟩) n rc') ∧ wy.cell? ⟨H', j, none⟩ = some (.int .i64 ((rowAt (mkT n (upTo f i j)) i).getD j 0)) ∧ wy.frozen? ⟨H', j, none⟩ = false ∧
              (wy.setCell ⟨H', j, none⟩ (.int .i64 (f i j))).cell? ⟨g, i, none⟩ = some (.slice (some ⟨H', 0, none⟩) n rc') ∧ S ≤ (wy.setCell ⟨H', j, none⟩ (.int .i64 (f i j))).heap.size ∧ OT w.heap.size S (wy.setCell ⟨H', j, none⟩ (.int .i64 (f i j))) (.slice (some ⟨g, 0, none⟩) n c) (mkT n (upTo f i (j + 1))) ∧ Below w.heap.size w (wy.setCell ⟨H', j, none⟩ (.int .i64 (f i j)))) := fun wy hby => by
            obtain ⟨g2, c2, H2, rc2, hv2, hc2, hne2, hBH2, hHS2, hcell2⟩ := (ho.later hby hSz).at i (by rw [mkT_len]; exact hil) (by rw [mkT_rowlen _ _ _ hil]; omega)
            rw [mkT_len] at hv2
            rw [mkT_rowlen _ _ _ hil] at hc2
            simp only [Value.slice.injEq, Option.some.injEq, Addr.mk.injEq, true_and, and_true] at hv2
            obtain ⟨rfl, rfl⟩ := hv2
            have hce := (hby.cell (p := ⟨g, i, none⟩) (World.block_lt_of_cell? wr _ hc)).trans hc
            rw [hce] at hc2
            simp only [Option.some.injEq, Value.slice.injEq, Addr.mk.injEq, true_and, and_true] at hc2
            obtain ⟨rfl, rfl⟩ := hc2
            obtain ⟨hc3, hfz, hst⟩ := hcell2 j (by rw [mkT_rowlen _ _ _ hil]; exact hjl)
            have hst2 := hst (f i j)
            rw [mkT_set n f i j hil hjl] at hst2
            refine ⟨hce, hc3, hfz, ?_, by have := hby.size; simp; omega, hst2.1, (hb.trans (hby.mono hb.size)).setCell hBH2 _⟩
            have h1 := heap_setCell_other wy ⟨H', j, none⟩ g (.int .i64 (f i j)) hne2
            rw [← hce]
            unfold World.cell?
            simp only [h1]
          have f0 : (0 : Int) ≤ (i : Int) := by omega
          have f1 : (i : Int) < (n : Int) := by omega
          have f2 : (0 : Int) ≤ (j : Int) := by omega
          have f3 : (j : Int) < (n : Int) := by omega
          have hcall := hf.out wr.drew i j hil hjl hb.drew
          have HCL := Lib.hid hcall
          clear hcell hcall ho
          generalize f i j = z at *
          generalize (rowAt (mkT n (upTo f i j)) i).getD j 0 = z0 at *
          go_wp2_with fail
          go_region_held3 (fun w' => w'.cell? ⟨g, i, none⟩ = some (.slice (some ⟨H', 0, none⟩) n rc')) (first | go_keep | exact hcs | exact hcy)
            (first | (go_at_call 60; refine (HCL.out).mono ?_; rintro e w3 ⟨rfl, hd⟩; obtain ⟨hcy, hcz, hfz, hcs, hS2, ho2, hb2⟩ := HST.out w3 ((Below.refl _ wr).drew.trans hd.below)))
          go_wp2_with fail
          go_roundw
          case rel => exact ⟨j + 1, by omega, by go_num, by first | exact hS2 | simpa using hS2, by first | exact ho2 | exact ho2.drew, by first | exact hb2 | exact hb2.drew⟩
          case measure => first | (simp [intOf]; done) | (simp [intOf]; omega)
        · obtain rfl : j = n := by omega
          rw [upTo_row] at ho
          go_wp2_with fail
          go_roundw
          case rel => exact ⟨i + 1, by omega, by go_num, hSz, ho, hb⟩
          case measure => first | (simp [intOf]; done) | (simp [intOf]; omega)
    · obtain rfl : i = n := by omega
      rw [upTo_all] at ho
      go_wp2_with fail
      go_ret
      exact ⟨_, rfl, ho.mono hSz, hb⟩
end Go.Proofs.Ythcnhkjiojeemaa
