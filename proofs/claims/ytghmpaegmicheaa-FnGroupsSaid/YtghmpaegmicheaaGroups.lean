/- The law FnGroups: for every input. -/
import Derived.Test.YtghmpaegmicheaaGrpY
namespace Go.Proofs.Ytghmpaegmicheaa
open Go.RowKit

set_option maxHeartbeats 4000000 in
set_option maxRecDepth 100000 in
theorem lawGroups_any (v0 v1 : Value) (xs ys : List Int) (w : World) (hx : RK .u8 w v0 xs ∧ (∀ x ∈ xs, (Lit.int .u8 x).wf = true) ∧ xs.length ≤ maxLen)
    (hy : RK .u8 w v1 ys ∧ (∀ x ∈ ys, (Lit.int .u8 x).wf = true) ∧ ys.length ≤ maxLen) :
    Calls Try.prog 6 #[v0, v1] w fun x w' => x = .returned (.bool true) ∧ Below w.heap.size w w' := by
  obtain ⟨hx, hxw, _⟩ := hx
  obtain ⟨hy, hyw, _⟩ := hy
  obtain ⟨a, c, rfl⟩ := hx.slice
  obtain ⟨b, d, rfl⟩ := hy.slice
  cases hs : longB xs.length ys.length
  case true =>
    have HS := Lib.hid hs
    clear hx hy hs
    go_enter Try.func6, Try.ntmps6
    go_wp2_with fail
    refine (b10Long_any _ _ _ _ _ _ _).mono ?_
    rintro e w' ⟨rfl, rfl⟩
    rw [HS.out]
    go_wp2_with fail
    go_ret
    exact ⟨rfl, Below.refl _ _⟩
  obtain ⟨hxm, hym⟩ := longB_no hs
  have HS := Lib.hid hs
  clear hs
  go_enter Try.func6, Try.ntmps6
  go_wp2_with fail
  refine (b10Long_any _ _ _ _ _ _ _).mono ?_
  rintro e w' ⟨rfl, rfl⟩
  rw [HS.out]
  go_wp2_with fail
  refine (b10Group_any _ xs _ hx hxw hxm).mono ?_
  rintro e w1 ⟨ua, x, uc, rfl, ho, hg, hb⟩
  have HG := Lib.hid hg
  clear hg hx hxw hxm HS
  go_wp2_with fail
  have hb1 : Below w1.heap.size w1 (w1.alloc (.cells #[.slice ua x.length uc] 29)) := (Below.refl _ _).alloc (Nat.le_refl _) _
  have g0 := GB.box ho 29
  replace hb := hb.trans (hb1.mono hb.size)
  clear hb1
  generalize w1.alloc (.cells #[.slice ua x.length uc] 29) = w2 at *
  generalize w1.heap.size = p at *
  clear ho
  have HR : Hid (∀ wr, Below w2.heap.size w2 wr → GB p ua uc x wr) := fun wr h => g0.later h
  have HY : Hid (∀ wr, Below w2.heap.size w2 wr → RK .u8 wr (.slice b ys.length d) ys) := fun wr h => hy.later (hb.trans (h.mono hb.size))
  have HB0 := Lib.hid hb
  have G := Lib.hid (Gp.of HG.out)
  have hn := G.out.n
  replace hb := Below.refl w2.heap.size w2
  have hzw : w.heap.size ≤ w2.heap.size := HB0.out.size
  clear g0 hy
  refine (b10At_any _ ys 0 x.length _ (HY.out _ hb) hyw hym (by omega) (by omega)).mono ?_
  rintro e w3 ⟨x0, rfl, hx0, hd⟩
  have hb1 := hd.below
  clear hd
  replace hb := hb.trans (hb1.mono hb.size)
  clear hb1
  replace hx0 : x0 < x.length := by omega
  go_wp2_with fail
  refine (b10At_any _ ys 1 20 _ (HY.out _ hb) hyw hym (by omega) (by omega)).mono ?_
  rintro e w4 ⟨a0, rfl, ha0, hd⟩
  have hb1 := hd.below
  clear hd
  replace hb := hb.trans (hb1.mono hb.size)
  clear hb1
  go_wp2_with fail
  refine (b10At_any _ ys 2 20 _ (HY.out _ hb) hyw hym (by omega) (by omega)).mono ?_
  rintro e w5 ⟨b0, rfl, hb0, hd⟩
  have hb1 := hd.below
  clear hd
  replace hb := hb.trans (hb1.mono hb.size)
  clear hb1
  have q := (HR.out _ hb)
  have c0 := q.c
  go_wp2_with fail
  clear c0
  refine (idY _ x _ q.r HG).mono ?_
  rintro e w6 ⟨rfl, hb1⟩
  replace hb := hb.trans (hb1.mono hb.size)
  clear hb1
  replace q := (HR.out _ hb)
  have c0 := q.c
  go_wp2_with fail
  clear c0
  refine (invY _ x x0 _ q.r HG hx0).mono ?_
  rintro e w7 ⟨y, rfl, hy, HI, hb1⟩
  replace hb := hb.trans (hb1.mono hb.size)
  clear hb1
  replace q := (HR.out _ hb)
  have c0 := q.c
  go_wp2_with fail
  clear c0
  refine (powY _ x x0 a0 _ q.r HG hx0 (by omega)).mono ?_
  rintro e w8 ⟨rfl, hb1⟩
  replace hb := hb.trans (hb1.mono hb.size)
  clear hb1
  replace q := (HR.out _ hb)
  have c0 := q.c
  go_wp2_with fail
  clear c0
  refine (powY _ x x0 b0 _ q.r HG hx0 (by omega)).mono ?_
  rintro e w9 ⟨rfl, hb1⟩
  replace hb := hb.trans (hb1.mono hb.size)
  clear hb1
  replace q := (HR.out _ hb)
  have c0 := q.c
  go_wp2_with fail
  clear c0
  rw [show (a0 : Int) + (b0 : Int) = ((a0 + b0 : Nat) : Int) by omega]
  refine (powY _ x x0 (a0 + b0) _ q.r HG hx0 (by omega)).mono ?_
  rintro e w10 ⟨rfl, hb1⟩
  replace hb := hb.trans (hb1.mono hb.size)
  clear hb1
  replace q := (HR.out _ hb)
  have c0 := q.c
  go_wp2_with fail
  clear c0
  refine (ordY _ x x0 _ q.r HG hx0).mono ?_
  rintro e w11 ⟨rfl, hb1⟩
  replace hb := hb.trans (hb1.mono hb.size)
  clear hb1
  have hpl := G.out.pw_lt x0 hx0 a0
  have hql := G.out.pw_lt x0 hx0 b0
  have HP := Lib.hid (G.out.pw_add x0 hx0 a0 b0)
  have HO := Lib.hid (G.out.ord_is x0 hx0)
  have HD := Lib.hid (G.out.ord_dvd x0 hx0)
  obtain ⟨P, hP⟩ : ∃ P, P = pw x x0 a0 := ⟨_, rfl⟩
  obtain ⟨Q, hQ⟩ : ∃ Q, Q = pw x x0 b0 := ⟨_, rfl⟩
  obtain ⟨R, hR⟩ : ∃ R, R = pw x x0 (a0 + b0) := ⟨_, rfl⟩
  obtain ⟨E, hE⟩ : ∃ E, E = one x := ⟨_, rfl⟩
  obtain ⟨O, hO⟩ : ∃ O, O = ord x x0 := ⟨_, rfl⟩
  rw [← hP, ← hQ, ← hR] at HP
  rw [← hE] at HI
  rw [← hE, ← hO] at HO
  rw [← hO] at HD
  rw [← hP] at hpl
  rw [← hQ] at hql
  rw [← hP, ← hQ, ← hR, ← hE, ← hO]
  have HE := Lib.hid hE
  have HOO := Lib.hid hO
  clear hP hQ hR hE hO
  have hO1 : 1 ≤ O ∧ O ≤ 10 := by have := HO.out; omega
  replace q := (HR.out _ hb)
  have c0 := q.c
  go_wp2_with fail
  clear c0
  refine (vgY _ x _ q.r HG).mono ?_
  rintro e w12 ⟨rfl, hb1⟩
  replace hb := hb.trans (hb1.mono hb.size)
  clear hb1
  replace q := (HR.out _ hb)
  have c0 := q.c
  obtain ⟨g1, o1, z1, h1, f1, p1, hv, hsq⟩ := q.r.sq G.out.sq
  simp only [Value.slice.injEq, true_and] at hv
  obtain ⟨rfl, rfl⟩ := hv
  have r1 := hsq.row x0 hx0
  have r2 := hsq.row y hy
  have r3 := hsq.row P hpl
  have s1 := hsq.cell x0 y hx0 hy
  have s2 := hsq.cell y x0 hy hx0
  have s3 := hsq.cell P Q hpl hql
  rw [G.out.tb_eq x0 y hx0 hy, HI.out.1] at s1
  rw [G.out.tb_eq y x0 hy hx0, HI.out.2] at s2
  rw [G.out.tb_eq P Q hpl hql, ← HP.out] at s3
  have hmod : ((x.length : Int) % (O : Int)) = 0 := by
    have := HD.out
    omega
  have hmod2 : ((x.length : Int).tmod (O : Int)) = 0 := by rw [Int.tmod_eq_emod_of_nonneg (by omega)]; exact hmod
  have hO0 : ¬ O = 0 := by omega
  clear hsq
  go_wp2_with fail
  clear c0 r1 r2 r3 s1 s2 s3 hmod hmod2
  refine (powY _ x x0 O _ q.r HG hx0 (by omega)).mono ?_
  rintro e w13 ⟨rfl, hb1⟩
  rw [HO.out.2.2.1]
  replace hb := hb.trans (hb1.mono hb.size)
  clear hb1
  go_wp2_with fail
  refine (b10At_any _ ys 3 5 _ (HY.out _ hb) hyw hym (by omega) (by omega)).mono ?_
  rintro e w14 ⟨d0, rfl, hd0, hd⟩
  have hb1 := hd.below
  clear hd
  replace hb := hb.trans (hb1.mono hb.size)
  clear hb1
  go_wp2_with fail
  rw [show (1 : Int) + (d0 : Int) = ((1 + d0 : Nat) : Int) by omega]
  refine (dihY (1 + d0) _ (by omega)).mono ?_
  rintro e w15 ⟨da, X, dc, rfl, od, HGD, _, hb1⟩
  replace hb := hb.trans (hb1.mono hb.size)
  clear hb1
  go_wp2_with fail
  have hb1 : Below w15.heap.size w15 (w15.alloc (.cells #[.slice da X.length dc] 29)) := (Below.refl _ _).alloc (Nat.le_refl _) _
  have qd := GB.box od 29
  replace hb := hb.trans (hb1.mono hb.size)
  clear hb1
  generalize w15.alloc (.cells #[.slice da X.length dc] 29) = w16 at *
  generalize w15.heap.size = pd at *
  clear od
  refine (b10At_any _ ys 4 10 _ (HY.out _ hb) hyw hym (by omega) (by omega)).mono ?_
  rintro e w17 ⟨e0, rfl, he0, hd⟩
  have hb1 := hd.below
  replace qd := qd.later hb1
  clear hd
  replace hb := hb.trans (hb1.mono hb.size)
  clear hb1
  go_wp2_with fail
  rw [show (1 : Int) + (e0 : Int) = ((1 + e0 : Nat) : Int) by omega]
  refine (cycY (1 + e0) _ (by omega)).mono ?_
  rintro e w18 ⟨ca, Y, cc, rfl, oc, HGC, HCC, hb1⟩
  replace qd := qd.later hb1
  replace hb := hb.trans (hb1.mono hb.size)
  clear hb1
  have hb1 : Below w18.heap.size w18 (w18.alloc (.cells #[.slice ca Y.length cc] 29)) := (Below.refl _ _).alloc (Nat.le_refl _) _
  have qc := GB.box oc 29
  replace qd := qd.later hb1
  have cd := qd.c
  have cc0 := qc.c
  go_wp2_with fail
  replace hb := hb.trans (hb1.mono hb.size)
  clear hb1
  clear cd cc0
  generalize w18.alloc (.cells #[.slice ca Y.length cc] 29) = w19 at *
  generalize w18.heap.size = pc at *
  clear oc
  refine (vgY _ X _ qd.r HGD).mono ?_
  rintro e w20 ⟨rfl, hb1⟩
  replace qc := qc.later hb1
  replace hb := hb.trans (hb1.mono hb.size)
  clear hb1
  have cc0 := qc.c
  go_wp2_with fail
  clear cc0
  refine (vgY _ Y _ qc.r HGC).mono ?_
  rintro e w21 ⟨rfl, hb1⟩
  replace qc := qc.later hb1
  replace hb := hb.trans (hb1.mono hb.size)
  clear hb1
  have cc0 := qc.c
  go_wp2_with fail
  clear cc0
  refine (comY _ Y _ true qc.r HGC HCC).mono ?_
  rintro e w22 ⟨rfl, hb1⟩
  replace hb := hb.trans (hb1.mono hb.size)
  clear hb1
  go_wp2_with fail
  go_ret
  exact ⟨rfl, HB0.out.trans (hb.mono hzw)⟩
end Go.Proofs.Ytghmpaegmicheaa
