/- Products of groups: the program's and the reference's. -/
import Derived.Test.YtgedeifajmoljaaGrpC
import Derived.Test.YtgedeifajmoljaaDih
namespace Go.Proofs.Ytgedeifajmoljaa
open Go.RowKit

/-- The product of two tables: the number at i, j. -/
def prE (g h : List (List Int)) (i j : Nat) : Int := tb g (i / h.length) (j / h.length) * (h.length : Int) + tb h (i % h.length) (j % h.length)
theorem div_lt_prod {i a b : Nat} (h : i < a * b) : i / b < a := Nat.div_lt_of_lt_mul (by rw [Nat.mul_comm]; exact h)
theorem prod_bd {g h : List (List Int)} (hg : sqB g = true) (hh : sqB h = true) {i j : Nat} (hi : i < g.length * h.length) (hj : j < g.length * h.length) :
    0 ≤ tb g (i / h.length) (j / h.length) ∧ tb g (i / h.length) (j / h.length) ≤ 9 ∧ 0 ≤ tb h (i % h.length) (j % h.length) ∧ tb h (i % h.length) (j % h.length) ≤ 9 := by
  have h1 := (sqB_iff.1 hg).1
  have h2 := (sqB_iff.1 hh).1
  have t1 := tb_bd hg _ _ (div_lt_prod hi) (div_lt_prod hj)
  have t2 := tb_bd hh _ _ (Nat.mod_lt i (by omega : h.length > 0)) (Nat.mod_lt j (by omega : h.length > 0))
  omega
set_option maxHeartbeats 1000000 in
theorem pg1_any (g h : List (List Int)) (i j a b c d pg pk ph G O C G' O' C' : Nat) (H F P H' F' P' : Nat → Nat) (z1 z2 z : Int) (w : World)
    (hgl : 1 ≤ g.length ∧ g.length ≤ 10) (hhl : 1 ≤ h.length ∧ h.length ≤ 10)
    (hi : i < 100) (hj : j < 100)
    (ea : (i : Int) / (h.length : Int) = (a : Int)) (eb : (j : Int) / (h.length : Int) = (b : Int)) (ec : (i : Int) % (h.length : Int) = (c : Int)) (ed : (j : Int) % (h.length : Int) = (d : Int))
    (ha : a < g.length) (hb : b < g.length) (hc : c < h.length) (hd : d < h.length)
    (h1 : 0 ≤ z1 ∧ z1 ≤ 9) (h2 : 0 ≤ z2 ∧ z2 ≤ 9)
    (HZ : Hid (z1 * (h.length : Int) + z2 = z))
    (cg : w.cell? ⟨pg, 0, none⟩ = some (.slice (some ⟨G, O, none⟩) g.length C)) (ck : w.cell? ⟨pk, 0, none⟩ = some (.int .i64 h.length)) (ch : w.cell? ⟨ph, 0, none⟩ = some (.slice (some ⟨G', O', none⟩) h.length C'))
    (r1 : w.cell? ⟨G, O + a, none⟩ = some (.slice (some ⟨H a, F a, none⟩) g.length (P a))) (r2 : w.cell? ⟨G', O' + c, none⟩ = some (.slice (some ⟨H' c, F' c, none⟩) h.length (P' c)))
    (c1 : w.cell? ⟨H a, F a + b, none⟩ = some (.int .i64 z1)) (c2 : w.cell? ⟨H' c, F' c + d, none⟩ = some (.int .i64 z2)) :
    Calls Try.prog 71 #[.int .i64 i, .int .i64 j, .pointer (some ⟨pg, 0, none⟩), .pointer (some ⟨pk, 0, none⟩), .pointer (some ⟨ph, 0, none⟩)] w fun e w' => e = .returned (.int .i64 z) ∧ Drw w w' := by
  have m1 : 0 ≤ z1 * (h.length : Int) := Int.mul_nonneg h1.1 (by omega)
  have m2 : z1 * (h.length : Int) ≤ 9 * 10 := Int.mul_le_mul h1.2 (by omega) (by omega) (by omega)
  generalize h.length = hl at *
  generalize g.length = gl at *
  have k0 : (0 : Int) < (hl : Int) := by omega
  go_enter Try.func71, Try.ntmps71
  go_wp2_with fail
  go_quiet (fail)
  go_wp2_with fail
  go_ret
  exact ⟨ret_i64 HZ.out, (Drw.refl _).more _⟩
set_option maxHeartbeats 2000000 in
theorem madeProd (n : Nat) (f : Nat → Nat → Int) (pg pk ph : Nat) (w : World) (hn : n ≤ 1000) (hcap : True)
    (hf : Hid (∀ w1 i j, i < n → j < n → Below w.heap.size w w1 → Calls Try.prog 71 #[.int .i64 (i : Nat), .int .i64 (j : Nat), .pointer (some ⟨pg, 0, none⟩), .pointer (some ⟨pk, 0, none⟩), .pointer (some ⟨ph, 0, none⟩)] w1 fun e w' => e = .returned (.int .i64 (f i j)) ∧ Drw w1 w')) :
    Calls Try.prog 51 #[.int .i64 n, .func (.func 71) #[] #[.pointer (some ⟨pg, 0, none⟩), .pointer (some ⟨pk, 0, none⟩), .pointer (some ⟨ph, 0, none⟩)]] w fun e w' => ∃ v', e = .returned v' ∧ OT w.heap.size w'.heap.size w' v' (mkT n f) ∧ Below w.heap.size w w' := by
  go_enter Try.func51, Try.ntmps51
  go_wp2_with fail
  refine (blank_any n w (by omega)).mono ?_
  rintro e w1 ⟨v, rfl, ho, hb⟩
  rw [← upTo_none n f] at ho
  have hl0 := mkT_len n (upTo f 0 0)
  obtain ⟨a, c, hv⟩ := ho.slice
  rw [hl0] at hv
  subst hv
  generalize hS : w1.heap.size = S at *
  have hSw : S ≤ w1.heap.size := by omega
  clear hl0 hS
  go_wp2_with fail
  go_loopw [12] (fun iv wr => ∃ i : Nat, i ≤ n ∧ iv = .int .i64 i ∧ S ≤ wr.heap.size ∧ OT w.heap.size S wr (.slice a n c) (mkT n (upTo f i 0)) ∧ Below w.heap.size w wr) (fun iv _ => n - (intOf iv).toNat)
  case atStart => exact ⟨0, Nat.zero_le _, rfl, hSw, ho, hb⟩
  case round =>
    obtain ⟨i, hi, rfl, hSz, ho, hb⟩ := hrel
    clear hSw
    by_cases hil : i < n
    · obtain ⟨g, c0, H, rc, hv, hc, hne, hBH, hHS, hcell⟩ := ho.at i (by rw [mkT_len]; exact hil) (by rw [mkT_rowlen _ _ _ hil]; omega)
      rw [mkT_len] at hv
      rw [mkT_rowlen _ _ _ hil] at hc
      simp only [Value.slice.injEq, true_and] at hv
      obtain ⟨rfl, rfl⟩ := hv
      clear hcell
      go_wp2_with fail
      go_loopw [20] (fun jv wr => ∃ j : Nat, j ≤ n ∧ jv = .int .i64 j ∧ S ≤ wr.heap.size ∧ OT w.heap.size S wr (.slice (some ⟨g, 0, none⟩) n c) (mkT n (upTo f i j)) ∧ Below w.heap.size w wr) (fun jv _ => n - (intOf jv).toNat)
      case atStart => exact ⟨0, Nat.zero_le _, rfl, hSz, ho, hb⟩
      case round =>
        obtain ⟨j, hj, rfl, hSz, ho, hb⟩ := hrel
        clear hc
        by_cases hjl : j < n
        · obtain ⟨g', c0', H', rc', hv, hc, hne, hBH, hHS, hcell⟩ := ho.at i (by rw [mkT_len]; exact hil) (by rw [mkT_rowlen _ _ _ hil]; omega)
          rw [mkT_len] at hv
          rw [mkT_rowlen _ _ _ hil] at hc
          simp only [Value.slice.injEq, Option.some.injEq, Addr.mk.injEq, true_and, and_true] at hv
          obtain ⟨rfl, rfl⟩ := hv
          have HST : Hid (∀ wy, Below wr.heap.size wr wy → wy.cell? ⟨g, i, none⟩ = some (.slice (some ⟨H', 0, none⟩) n rc') ∧ wy.cell? ⟨H', j, none⟩ = some (.int .i64 ((rowAt (mkT n (upTo f i j)) i).getD j 0)) ∧ wy.frozen? ⟨H', j, none⟩ = false ∧
              (wy.setCell ⟨H', j, none⟩ (.int .i64 (f i j))).cell? ⟨g, i, none⟩ = some (.slice (some ⟨H', 0, none⟩) n rc') ∧ S ≤ (wy.setCell ⟨H', j, none⟩ (.int .i64 (f i j))).heap.size ∧ OT w.heap.size S (wy.setCell ⟨H', j, none⟩ (.int .i64 (f i j))) (.slice (some ⟨g, 0, none⟩) n c) (mkT n (upTo f i (j + 1))) ∧ Below w.heap.size w (wy.setCell ⟨H', j, none⟩ (.int .i64 (f i j)))) := fun wy hby => by
            obtain ⟨g2, c2, H2, rc2, hv2, hc2, hne2, hBH2, hHS2, hcell2⟩ := (ho.later hby hSz).at i (by rw [mkT_len]; exact hil) (by rw [mkT_rowlen _ _ _ hil]; omega)
            rw [mkT_len] at hv2
            rw [mkT_rowlen _ _ _ hil] at hc2
            simp only [Value.slice.injEq, Option.some.injEq, Addr.mk.injEq, true_and, and_true] at hv2
            obtain ⟨rfl, rfl⟩ := hv2
            have hce := (hby.cell (p := ⟨g, i, none⟩) (World.block_lt_of_cell? wr _ hc)).trans hc
            rw [hce] at hc2
            simp only [Option.some.injEq, Value.slice.injEq, Addr.mk.injEq, true_and, and_true] at hc2
            obtain ⟨rfl, rfl⟩ := hc2
            obtain ⟨hc3, hfz, hst⟩ := hcell2 j (by rw [mkT_rowlen _ _ _ hil]; exact hjl)
            have hst2 := hst (f i j)
            rw [mkT_set n f i j hil hjl] at hst2
            refine ⟨hce, hc3, hfz, ?_, by have := hby.size; simp; omega, hst2.1, (hb.trans (hby.mono hb.size)).setCell hBH2 _⟩
            have h1 := heap_setCell_other wy ⟨H', j, none⟩ g (.int .i64 (f i j)) hne2
            rw [← hce]
            unfold World.cell?
            simp only [h1]
          have f0 : (0 : Int) ≤ (i : Int) := by omega
          have f1 : (i : Int) < (n : Int) := by omega
          have f2 : (0 : Int) ≤ (j : Int) := by omega
          have f3 : (j : Int) < (n : Int) := by omega
          have hcall := hf.out wr.drew i j hil hjl hb.drew
          have HCL := Lib.hid hcall
          clear hcell hcall ho
          generalize f i j = z at *
          generalize (rowAt (mkT n (upTo f i j)) i).getD j 0 = z0 at *
          go_wp2_with fail
          go_region_held3 (fun w' => w'.cell? ⟨g, i, none⟩ = some (.slice (some ⟨H', 0, none⟩) n rc')) (first | go_keep | exact hcs | exact hcy)
            (first | (go_at_call 71; refine (HCL.out).mono ?_; rintro e w3 ⟨rfl, hd⟩; obtain ⟨hcy, hcz, hfz, hcs, hS2, ho2, hb2⟩ := HST.out w3 ((Below.refl _ wr).drew.trans hd.below)))
          go_wp2_with fail
          go_roundw
          case rel => exact ⟨j + 1, by omega, by go_num, by first | exact hS2 | simpa using hS2, by first | exact ho2 | exact ho2.drew, by first | exact hb2 | exact hb2.drew⟩
          case measure => first | (simp [intOf]; done) | (simp [intOf]; omega)
        · obtain rfl : j = n := by omega
          rw [upTo_row] at ho
          go_wp2_with fail
          go_roundw
          case rel => exact ⟨i + 1, by omega, by go_num, hSz, ho, hb⟩
          case measure => first | (simp [intOf]; done) | (simp [intOf]; omega)
    · obtain rfl : i = n := by omega
      rw [upTo_all] at ho
      go_wp2_with fail
      go_ret
      exact ⟨_, rfl, ho.mono hSz, hb⟩
def prB (x y : List (List Int)) : Bool := grpB x && (grpB y && decide (x.length * y.length ≤ 10))
def prX (x y : List (List Int)) : List (List Int) := if prB x y then mkT (x.length * y.length) (prE x y) else []
set_option maxHeartbeats 2000000 in
theorem implProd_any (v u : Value) (x y : List (List Int)) (w : World) (hx : RT w v x) (hm : x.length ≤ 1048576) (hr : Small x) (hy : RT w u y) (hm' : y.length ≤ 1048576) (hr' : Small y) :
    Calls Try.prog 42 #[.agg #[v], .agg #[u]] w (GrPost (prX x y) (prB x y) w) := by
  obtain ⟨a, c, rfl⟩ := hx.slice
  obtain ⟨a', c', rfl⟩ := hy.slice
  have c0 : (((w.alloc (.cells #[.slice a x.length c] 24)).alloc (.cells #[.slice a' y.length c'] 24)).alloc (.cells #[.slice none 0 0] 24)).cell? ⟨w.heap.size, 0, none⟩ = some (.slice a x.length c) := by
    rw [World.cell?_alloc_past _ _ _ (by simp; omega), World.cell?_alloc_past _ _ _ (by simp), World.cell?_alloc_at _ _ _ _ rfl]; rfl
  have c1 : (((w.alloc (.cells #[.slice a x.length c] 24)).alloc (.cells #[.slice a' y.length c'] 24)).alloc (.cells #[.slice none 0 0] 24)).cell? ⟨w.heap.size + 1, 0, none⟩ = some (.slice a' y.length c') := by
    rw [World.cell?_alloc_past _ _ _ (by simp), World.cell?_alloc_at _ _ _ _ (by simp)]; rfl
  have c2 : (((w.alloc (.cells #[.slice a x.length c] 24)).alloc (.cells #[.slice a' y.length c'] 24)).alloc (.cells #[.slice none 0 0] 24)).cell? ⟨w.heap.size + 2, 0, none⟩ = some (.slice none 0 0) := by
    rw [World.cell?_alloc_at _ _ _ _ (by simp)]; rfl
  have f2 : (((w.alloc (.cells #[.slice a x.length c] 24)).alloc (.cells #[.slice a' y.length c'] 24)).alloc (.cells #[.slice none 0 0] 24)).frozen? ⟨w.heap.size + 2, 0, none⟩ = false := by
    simp [go_sem]
  have hlt : w.heap.size + 2 < (((w.alloc (.cells #[.slice a x.length c] 24)).alloc (.cells #[.slice a' y.length c'] 24)).alloc (.cells #[.slice none 0 0] 24)).heap.size := by simp
  have hb : Below w.heap.size w (((w.alloc (.cells #[.slice a x.length c] 24)).alloc (.cells #[.slice a' y.length c'] 24)).alloc (.cells #[.slice none 0 0] 24)) := (((Below.refl _ _).alloc (Nat.le_refl _) _).alloc (by simp) _).alloc (by simp; omega) _
  replace hx := hx.later hb
  replace hy := hy.later hb
  cases hgx : grpB x
  · have HP : Hid (prB x y = false) := by unfold Hid prB; rw [hgx]; rfl
    have HX : Hid (prX x y = []) := by unfold Hid prX; rw [HP.out]; rfl
    have HB := Lib.hid hgx
    rw [HP.out]
    clear hgx
    go_enter Try.func42, Try.ntmps42
    go_wp2_with fail
    generalize ((w.alloc (.cells #[.slice a x.length c] 24)).alloc (.cells #[.slice a' y.length c'] 24)).alloc (.cells #[.slice none 0 0] 24) = w0 at *
    refine (implVG_is _ x _ false HB hx hm hr).mono ?_
    rintro e w1 ⟨rfl, hb1⟩
    replace c0 := (hb1.cell (p := ⟨w.heap.size, 0, none⟩) (by show w.heap.size < _; omega)).trans c0
    replace c1 := (hb1.cell (p := ⟨w.heap.size + 1, 0, none⟩) (by show w.heap.size + 1 < _; omega)).trans c1
    replace c2 := (hb1.cell (p := ⟨w.heap.size + 2, 0, none⟩) hlt).trans c2
    replace f2 := (hb1.frozen (p := ⟨w.heap.size + 2, 0, none⟩) hlt).trans f2
    replace hx := hx.later hb1
    replace hy := hy.later hb1
    replace hb := hb.trans (hb1.mono (by omega))
    replace hlt := Nat.lt_of_lt_of_le hlt hb1.size
    clear hb1
    go_wp2_with fail
    exact bodyPost_ret (v := .tuple #[.agg #[.slice none 0 0], .bool false]) (by simp [results, Try.results42, go_sem, c2, hlt]) rfl ⟨_, rfl, by rw [HX.out]; exact OT.nil _ _ _, hb.setCell (by show w.heap.size ≤ w.heap.size + 2; omega) _⟩
  · have HB := Lib.hid hgx
    have hsx : sqB x = true := by unfold grpB at hgx; rw [Bool.and_eq_true] at hgx; exact hgx.1
    obtain ⟨hlx, hlx'⟩ := (sqB_iff.1 hsx).1
    cases hgy : grpB y
    · have HP : Hid (prB x y = false) := by unfold Hid prB; rw [hgy]; simp
      have HX : Hid (prX x y = []) := by unfold Hid prX; rw [HP.out]; rfl
      have HB' := Lib.hid hgy
      rw [HP.out]
      clear hgx hgy
      go_enter Try.func42, Try.ntmps42
      go_wp2_with fail
      generalize ((w.alloc (.cells #[.slice a x.length c] 24)).alloc (.cells #[.slice a' y.length c'] 24)).alloc (.cells #[.slice none 0 0] 24) = w0 at *
      refine (implVG_is _ x _ true HB hx hm hr).mono ?_
      rintro e w1 ⟨rfl, hb1⟩
      replace c0 := (hb1.cell (p := ⟨w.heap.size, 0, none⟩) (by show w.heap.size < _; omega)).trans c0
      replace c1 := (hb1.cell (p := ⟨w.heap.size + 1, 0, none⟩) (by show w.heap.size + 1 < _; omega)).trans c1
      replace c2 := (hb1.cell (p := ⟨w.heap.size + 2, 0, none⟩) hlt).trans c2
      replace f2 := (hb1.frozen (p := ⟨w.heap.size + 2, 0, none⟩) hlt).trans f2
      replace hx := hx.later hb1
      replace hy := hy.later hb1
      replace hb := hb.trans (hb1.mono (by omega))
      replace hlt := Nat.lt_of_lt_of_le hlt hb1.size
      clear hb1
      go_wp2_with fail
      refine (implVG_is _ y _ false HB' hy hm' hr').mono ?_
      rintro e w2 ⟨rfl, hb1⟩
      replace c0 := (hb1.cell (p := ⟨w.heap.size, 0, none⟩) (by show w.heap.size < _; omega)).trans c0
      replace c1 := (hb1.cell (p := ⟨w.heap.size + 1, 0, none⟩) (by show w.heap.size + 1 < _; omega)).trans c1
      replace c2 := (hb1.cell (p := ⟨w.heap.size + 2, 0, none⟩) hlt).trans c2
      replace f2 := (hb1.frozen (p := ⟨w.heap.size + 2, 0, none⟩) hlt).trans f2
      replace hx := hx.later hb1
      replace hy := hy.later hb1
      replace hb := hb.trans (hb1.mono (by omega))
      replace hlt := Nat.lt_of_lt_of_le hlt hb1.size
      clear hb1
      go_wp2_with fail
      exact bodyPost_ret (v := .tuple #[.agg #[.slice none 0 0], .bool false]) (by simp [results, Try.results42, go_sem, c2, hlt]) rfl ⟨_, rfl, by rw [HX.out]; exact OT.nil _ _ _, hb.setCell (by show w.heap.size ≤ w.heap.size + 2; omega) _⟩
    · have HB' := Lib.hid hgy
      have hsy : sqB y = true := by unfold grpB at hgy; rw [Bool.and_eq_true] at hgy; exact hgy.1
      obtain ⟨hly, hly'⟩ := (sqB_iff.1 hsy).1
      have m1 : x.length * y.length ≤ 10 * 10 := Nat.mul_le_mul hlx' hly'
      have m0 : ((x.length * y.length : Nat) : Int) = (x.length : Int) * (y.length : Int) := by simp
      have m2 : 0 ≤ (x.length : Int) * (y.length : Int) := by omega
      have m3 : (x.length : Int) * (y.length : Int) ≤ 100 := by omega
      by_cases hp : x.length * y.length ≤ 10
      · have HP : Hid (prB x y = true) := by unfold Hid prB; rw [hgx, hgy, decide_eq_true hp]; rfl
        have HX : Hid (prX x y = mkT (x.length * y.length) (prE x y)) := by unfold Hid prX; rw [HP.out]; rfl
        have m4 : (x.length : Int) * (y.length : Int) ≤ 10 := by omega
        rw [HP.out]
        clear hgx hgy
        go_enter Try.func42, Try.ntmps42
        go_wp2_with fail
        generalize ((w.alloc (.cells #[.slice a x.length c] 24)).alloc (.cells #[.slice a' y.length c'] 24)).alloc (.cells #[.slice none 0 0] 24) = w0 at *
        refine (implVG_is _ x _ true HB hx hm hr).mono ?_
        rintro e w1 ⟨rfl, hb1⟩
        replace c0 := (hb1.cell (p := ⟨w.heap.size, 0, none⟩) (by show w.heap.size < _; omega)).trans c0
        replace c1 := (hb1.cell (p := ⟨w.heap.size + 1, 0, none⟩) (by show w.heap.size + 1 < _; omega)).trans c1
        replace c2 := (hb1.cell (p := ⟨w.heap.size + 2, 0, none⟩) hlt).trans c2
        replace f2 := (hb1.frozen (p := ⟨w.heap.size + 2, 0, none⟩) hlt).trans f2
        replace hx := hx.later hb1
        replace hy := hy.later hb1
        replace hb := hb.trans (hb1.mono (by omega))
        replace hlt := Nat.lt_of_lt_of_le hlt hb1.size
        clear hb1
        go_wp2_with fail
        refine (implVG_is _ y _ true HB' hy hm' hr').mono ?_
        rintro e w2 ⟨rfl, hb1⟩
        replace c0 := (hb1.cell (p := ⟨w.heap.size, 0, none⟩) (by show w.heap.size < _; omega)).trans c0
        replace c1 := (hb1.cell (p := ⟨w.heap.size + 1, 0, none⟩) (by show w.heap.size + 1 < _; omega)).trans c1
        replace c2 := (hb1.cell (p := ⟨w.heap.size + 2, 0, none⟩) hlt).trans c2
        replace f2 := (hb1.frozen (p := ⟨w.heap.size + 2, 0, none⟩) hlt).trans f2
        replace hx := hx.later hb1
        replace hy := hy.later hb1
        replace hb := hb.trans (hb1.mono (by omega))
        replace hlt := Nat.lt_of_lt_of_le hlt hb1.size
        clear hb1
        have hmf : ∀ (fn : Fn) (first cap : Array Value) (w : World), (Instr.makeFunc fn first cap).run Try.prog w = .ok (.func fn first cap) w := fun _ _ _ _ => rfl
        have hAt : Hid (∀ w1, Below w2.heap.size (w2.alloc (.cells #[.int .i64 y.length] 2)) w1 → w1.cell? ⟨w.heap.size, 0, none⟩ = some (.slice a x.length c) ∧ w1.cell? ⟨w.heap.size + 1, 0, none⟩ = some (.slice a' y.length c') ∧ w1.cell? ⟨w.heap.size + 2, 0, none⟩ = some (.slice none 0 0) ∧ w1.frozen? ⟨w.heap.size + 2, 0, none⟩ = false) := fun w1 h1 => by
          have h2 : Below w2.heap.size w2 w1 := ((Below.refl _ _).alloc (Nat.le_refl _) _).trans h1
          exact ⟨(h2.cell (p := ⟨w.heap.size, 0, none⟩) (by show w.heap.size < _; omega)).trans c0, (h2.cell (p := ⟨w.heap.size + 1, 0, none⟩) (by show w.heap.size + 1 < _; omega)).trans c1,
            (h2.cell (p := ⟨w.heap.size + 2, 0, none⟩) hlt).trans c2, (h2.frozen (p := ⟨w.heap.size + 2, 0, none⟩) hlt).trans f2⟩
        have hba : Below w2.heap.size w2 (w2.alloc (.cells #[.int .i64 y.length] 2)) := (Below.refl _ _).alloc (Nat.le_refl _) _
        have hsa : w2.heap.size < (w2.alloc (.cells #[.int .i64 y.length] 2)).heap.size := by simp
        have ck : (w2.alloc (.cells #[.int .i64 y.length] 2)).cell? ⟨w2.heap.size, 0, none⟩ = some (.int .i64 y.length) := World.cell?_alloc_at _ _ _ _ rfl
        obtain ⟨G, O, C, H, F, P, hv, hsq⟩ := hx.sq hsx
        obtain ⟨G', O', C', H', F', P', hv', hsq'⟩ := hy.sq hsy
        simp only [Value.slice.injEq, true_and] at hv hv'
        obtain ⟨rfl, rfl⟩ := hv
        obtain ⟨rfl, rfl⟩ := hv'
        obtain ⟨d0, d1, _, _⟩ := hAt.out _ (Below.refl _ _)
        have hM := madeProd (x.length * y.length) (prE x y) w.heap.size w2.heap.size (w.heap.size + 1) (w2.alloc (.cells #[.int .i64 y.length] 2)) (by omega) trivial fun w1 i j hi hj hb1 => by
          have t := prod_bd hsx hsy hi hj
          have hyp : 0 < y.length := by omega
          have e1 := hAt.out w1 (hb1.mono (Nat.le_of_lt hsa))
          have q1 := (hsq.later hba).later hb1
          have q2 := (hsq'.later hba).later hb1
          exact pg1_any x y i j (i / y.length) (j / y.length) (i % y.length) (j % y.length) w.heap.size w2.heap.size (w.heap.size + 1) G O c G' O' c' H F P H' F' P' _ _ (prE x y i j) w1 ⟨hlx, hlx'⟩ ⟨hly, hly'⟩ (by omega) (by omega)
            (by simp) (by simp) (by simp) (by simp) (div_lt_prod hi) (div_lt_prod hj) (Nat.mod_lt _ hyp) (Nat.mod_lt _ hyp) ⟨t.1, t.2.1⟩ ⟨t.2.2.1, t.2.2.2⟩ rfl e1.1 ((hb1.cell (p := ⟨w2.heap.size, 0, none⟩) hsa).trans ck) e1.2.1
            (q1.row _ (div_lt_prod hi)) (q2.row _ (Nat.mod_lt _ hyp)) (q1.cell _ _ (div_lt_prod hi) (div_lt_prod hj)) (q2.cell _ _ (Nat.mod_lt _ hyp) (Nat.mod_lt _ hyp))
        rw [m0] at hM
        have HM := Lib.hid hM
        have hlen : Hid ((mkT (x.length * y.length) (prE x y)).length = x.length * y.length) := mkT_len _ _
        clear hM hsq hsq' ck
        go_wp2_with fail
        generalize w2.alloc (.cells #[.int .i64 y.length] 2) = w3 at *
        refine (HM.out).mono ?_
        rintro e w4 ⟨u4, rfl, ho, hb4⟩
        obtain ⟨ua, uc, rfl⟩ := ho.slice
        rw [hlen.out]
        rw [hlen.out] at ho
        obtain ⟨_, _, k2, kf⟩ := hAt.out w4 (hb4.mono (Nat.le_of_lt hsa))
        have hz : w.heap.size + 2 < w4.heap.size := by have := hb4.size; omega
        have HE : Hid (OT w.heap.size (w4.setCell ⟨w.heap.size + 2, 0, none⟩ (.slice ua (x.length * y.length) uc)).heap.size (w4.setCell ⟨w.heap.size + 2, 0, none⟩ (.slice ua (x.length * y.length) uc)) (.slice ua (x.length * y.length) uc) (prX x y) ∧ Below w.heap.size w (w4.setCell ⟨w.heap.size + 2, 0, none⟩ (.slice ua (x.length * y.length) uc))) := by
          refine ⟨?_, ((hb.trans (hba.mono (by omega))).trans (hb4.mono (by omega))).setCell (by show w.heap.size ≤ w.heap.size + 2; omega) _⟩
          rw [HX.out]
          exact ((ho.keep fun k h1 h2 => heap_setCell_other _ _ _ _ (by show k ≠ w.heap.size + 2; omega)).monoB (by omega)).mono (by simp)
        clear ho hb4 hAt
        go_wp2_with fail
        exact bodyPost_ret (v := .tuple #[.agg #[.slice ua (x.length * y.length) uc], .bool true]) (by simp [results, Try.results42, go_sem, k2, hz]) rfl ⟨_, rfl, HE.out⟩
      · have HP : Hid (prB x y = false) := by unfold Hid prB; rw [decide_eq_false hp]; simp
        have HX : Hid (prX x y = []) := by unfold Hid prX; rw [HP.out]; rfl
        have m4 : 10 < (x.length : Int) * (y.length : Int) := by omega
        rw [HP.out]
        clear hgx hgy
        go_enter Try.func42, Try.ntmps42
        go_wp2_with fail
        generalize ((w.alloc (.cells #[.slice a x.length c] 24)).alloc (.cells #[.slice a' y.length c'] 24)).alloc (.cells #[.slice none 0 0] 24) = w0 at *
        refine (implVG_is _ x _ true HB hx hm hr).mono ?_
        rintro e w1 ⟨rfl, hb1⟩
        replace c0 := (hb1.cell (p := ⟨w.heap.size, 0, none⟩) (by show w.heap.size < _; omega)).trans c0
        replace c1 := (hb1.cell (p := ⟨w.heap.size + 1, 0, none⟩) (by show w.heap.size + 1 < _; omega)).trans c1
        replace c2 := (hb1.cell (p := ⟨w.heap.size + 2, 0, none⟩) hlt).trans c2
        replace f2 := (hb1.frozen (p := ⟨w.heap.size + 2, 0, none⟩) hlt).trans f2
        replace hx := hx.later hb1
        replace hy := hy.later hb1
        replace hb := hb.trans (hb1.mono (by omega))
        replace hlt := Nat.lt_of_lt_of_le hlt hb1.size
        clear hb1
        go_wp2_with fail
        refine (implVG_is _ y _ true HB' hy hm' hr').mono ?_
        rintro e w2 ⟨rfl, hb1⟩
        replace c0 := (hb1.cell (p := ⟨w.heap.size, 0, none⟩) (by show w.heap.size < _; omega)).trans c0
        replace c1 := (hb1.cell (p := ⟨w.heap.size + 1, 0, none⟩) (by show w.heap.size + 1 < _; omega)).trans c1
        replace c2 := (hb1.cell (p := ⟨w.heap.size + 2, 0, none⟩) hlt).trans c2
        replace f2 := (hb1.frozen (p := ⟨w.heap.size + 2, 0, none⟩) hlt).trans f2
        replace hx := hx.later hb1
        replace hy := hy.later hb1
        replace hb := hb.trans (hb1.mono (by omega))
        replace hlt := Nat.lt_of_lt_of_le hlt hb1.size
        clear hb1
        go_wp2_with fail
        exact bodyPost_ret (v := .tuple #[.agg #[.slice none 0 0], .bool false]) (by simp [results, Try.results42, go_sem, c2, hlt]) rfl ⟨_, rfl, by rw [HX.out]; exact OT.nil _ _ _, hb.setCell (by show w.heap.size ≤ w.heap.size + 2; omega) _⟩
end Go.Proofs.Ytgedeifajmoljaa
