/- The reference's product. -/
import Derived.Test.YtghmpaegmicheaaProd
namespace Go.Proofs.Ytghmpaegmicheaa
open Go.RowKit
set_option maxHeartbeats 4000000 in
set_option maxRecDepth 100000 in
theorem specProd_any (v u : Value) (x y : List (List Int)) (w : World) (hx : RT w v x) (hm : x.length ≤ 1048576) (hr : Small x) (hy : RT w u y) (hm' : y.length ≤ 1048576) (hr' : Small y) :
    Calls Try.prog 100 #[.agg #[v], .agg #[u]] w (GrPost (prX x y) (prB x y) w) := by
  obtain ⟨a, c, rfl⟩ := hx.slice
  obtain ⟨a', c', rfl⟩ := hy.slice
  have hx0 := hx
  have hy0 := hy
  have c0 : (((w.alloc (.cells #[.slice a x.length c] 29)).alloc (.cells #[.slice a' y.length c'] 29)).alloc (.cells #[.slice none 0 0] 29)).cell? ⟨w.heap.size, 0, none⟩ = some (.slice a x.length c) := by
    rw [World.cell?_alloc_past _ _ _ (by simp; omega), World.cell?_alloc_past _ _ _ (by simp), World.cell?_alloc_at _ _ _ _ rfl]; rfl
  have c1 : (((w.alloc (.cells #[.slice a x.length c] 29)).alloc (.cells #[.slice a' y.length c'] 29)).alloc (.cells #[.slice none 0 0] 29)).cell? ⟨w.heap.size + 1, 0, none⟩ = some (.slice a' y.length c') := by
    rw [World.cell?_alloc_past _ _ _ (by simp), World.cell?_alloc_at _ _ _ _ (by simp)]; rfl
  have c2 : (((w.alloc (.cells #[.slice a x.length c] 29)).alloc (.cells #[.slice a' y.length c'] 29)).alloc (.cells #[.slice none 0 0] 29)).cell? ⟨w.heap.size + 2, 0, none⟩ = some (.slice none 0 0) := by
    rw [World.cell?_alloc_at _ _ _ _ (by simp)]; rfl
  have f2 : (((w.alloc (.cells #[.slice a x.length c] 29)).alloc (.cells #[.slice a' y.length c'] 29)).alloc (.cells #[.slice none 0 0] 29)).frozen? ⟨w.heap.size + 2, 0, none⟩ = false := by
    simp [go_sem]
  have hlt : w.heap.size + 2 < (((w.alloc (.cells #[.slice a x.length c] 29)).alloc (.cells #[.slice a' y.length c'] 29)).alloc (.cells #[.slice none 0 0] 29)).heap.size := by simp
  have hb : Below w.heap.size w (((w.alloc (.cells #[.slice a x.length c] 29)).alloc (.cells #[.slice a' y.length c'] 29)).alloc (.cells #[.slice none 0 0] 29)) := (((Below.refl _ _).alloc (Nat.le_refl _) _).alloc (by simp) _).alloc (by simp; omega) _
  have hsz : (((w.alloc (.cells #[.slice a x.length c] 29)).alloc (.cells #[.slice a' y.length c'] 29)).alloc (.cells #[.slice none 0 0] 29)).heap.size = w.heap.size + 3 := by simp
  replace hx := hx.later hb
  replace hy := hy.later hb
  cases hgx : grpB x
  · have HP : Hid (prB x y = false) := by unfold Hid prB; rw [hgx]; rfl
    have HX : Hid (prX x y = []) := by unfold Hid prX; rw [HP.out]; rfl
    have HB := Lib.hid hgx
    rw [HP.out]
    clear hgx
    go_enter Try.func100, Try.ntmps100
    go_wp2_with fail
    generalize ((w.alloc (.cells #[.slice a x.length c] 29)).alloc (.cells #[.slice a' y.length c'] 29)).alloc (.cells #[.slice none 0 0] 29) = w0 at *
    refine (l05Is_q _ x _ _ false HB c0 hx hm hr).mono ?_
    rintro e w1 ⟨rfl, hd⟩
    have hb1 := hd.below
    have hz1 : w1.heap.size = w.heap.size + 3 := by obtain ⟨n, rfl⟩ := hd; exact hsz
    clear hd hsz
    have hsz := hz1
    clear hz1
    replace c0 := (hb1.cell (p := ⟨w.heap.size, 0, none⟩) (by show w.heap.size < _; omega)).trans c0
    replace c1 := (hb1.cell (p := ⟨w.heap.size + 1, 0, none⟩) (by show w.heap.size + 1 < _; omega)).trans c1
    replace c2 := (hb1.cell (p := ⟨w.heap.size + 2, 0, none⟩) hlt).trans c2
    replace f2 := (hb1.frozen (p := ⟨w.heap.size + 2, 0, none⟩) hlt).trans f2
    replace hx := hx.later hb1
    replace hy := hy.later hb1
    replace hb := hb.trans (hb1.mono (by omega))
    replace hlt := Nat.lt_of_lt_of_le hlt hb1.size
    clear hb1
    go_wp2_with fail
    exact bodyPost_ret (v := .tuple #[.agg #[.slice none 0 0], .bool false]) (by simp [results, Try.results100, go_sem, c2, hlt]) rfl ⟨_, rfl, by rw [HX.out]; exact OT.nil _ _ _, hb.setCell (by show w.heap.size ≤ w.heap.size + 2; omega) _⟩
  · have HB := Lib.hid hgx
    have hsx : sqB x = true := by unfold grpB at hgx; rw [Bool.and_eq_true] at hgx; exact hgx.1
    obtain ⟨hlx, hlx'⟩ := (sqB_iff.1 hsx).1
    cases hgy : grpB y
    · have HP : Hid (prB x y = false) := by unfold Hid prB; rw [hgy]; simp
      have HX : Hid (prX x y = []) := by unfold Hid prX; rw [HP.out]; rfl
      have HB' := Lib.hid hgy
      rw [HP.out]
      clear hgx hgy
      go_enter Try.func100, Try.ntmps100
      go_wp2_with fail
      generalize ((w.alloc (.cells #[.slice a x.length c] 29)).alloc (.cells #[.slice a' y.length c'] 29)).alloc (.cells #[.slice none 0 0] 29) = w0 at *
      refine (l05Is_q _ x _ _ true HB c0 hx hm hr).mono ?_
      rintro e w1 ⟨rfl, hd⟩
      have hb1 := hd.below
      have hz1 : w1.heap.size = w.heap.size + 3 := by obtain ⟨n, rfl⟩ := hd; exact hsz
      clear hd hsz
      have hsz := hz1
      clear hz1
      replace c0 := (hb1.cell (p := ⟨w.heap.size, 0, none⟩) (by show w.heap.size < _; omega)).trans c0
      replace c1 := (hb1.cell (p := ⟨w.heap.size + 1, 0, none⟩) (by show w.heap.size + 1 < _; omega)).trans c1
      replace c2 := (hb1.cell (p := ⟨w.heap.size + 2, 0, none⟩) hlt).trans c2
      replace f2 := (hb1.frozen (p := ⟨w.heap.size + 2, 0, none⟩) hlt).trans f2
      replace hx := hx.later hb1
      replace hy := hy.later hb1
      replace hb := hb.trans (hb1.mono (by omega))
      replace hlt := Nat.lt_of_lt_of_le hlt hb1.size
      clear hb1
      go_wp2_with fail
      refine (l05Is_q _ y _ _ false HB' c1 hy hm' hr').mono ?_
      rintro e w2 ⟨rfl, hd⟩
      have hb1 := hd.below
      have hz1 : w2.heap.size = w.heap.size + 3 := by obtain ⟨n, rfl⟩ := hd; exact hsz
      clear hd hsz
      have hsz := hz1
      clear hz1
      replace c0 := (hb1.cell (p := ⟨w.heap.size, 0, none⟩) (by show w.heap.size < _; omega)).trans c0
      replace c1 := (hb1.cell (p := ⟨w.heap.size + 1, 0, none⟩) (by show w.heap.size + 1 < _; omega)).trans c1
      replace c2 := (hb1.cell (p := ⟨w.heap.size + 2, 0, none⟩) hlt).trans c2
      replace f2 := (hb1.frozen (p := ⟨w.heap.size + 2, 0, none⟩) hlt).trans f2
      replace hx := hx.later hb1
      replace hy := hy.later hb1
      replace hb := hb.trans (hb1.mono (by omega))
      replace hlt := Nat.lt_of_lt_of_le hlt hb1.size
      clear hb1
      go_wp2_with fail
      exact bodyPost_ret (v := .tuple #[.agg #[.slice none 0 0], .bool false]) (by simp [results, Try.results100, go_sem, c2, hlt]) rfl ⟨_, rfl, by rw [HX.out]; exact OT.nil _ _ _, hb.setCell (by show w.heap.size ≤ w.heap.size + 2; omega) _⟩
    · have HB' := Lib.hid hgy
      have hsy : sqB y = true := by unfold grpB at hgy; rw [Bool.and_eq_true] at hgy; exact hgy.1
      obtain ⟨hly, hly'⟩ := (sqB_iff.1 hsy).1
      have m1 : x.length * y.length ≤ 10 * 10 := Nat.mul_le_mul hlx' hly'
      have m0 : ((x.length * y.length : Nat) : Int) = (x.length : Int) * (y.length : Int) := by simp
      have m2 : 0 ≤ (x.length : Int) * (y.length : Int) := by omega
      have m3 : (x.length : Int) * (y.length : Int) ≤ 100 := by omega
      by_cases hp : x.length * y.length ≤ 10
      · have HP : Hid (prB x y = true) := by unfold Hid prB; rw [hgx, hgy, decide_eq_true hp]; rfl
        have HX : Hid (prX x y = mkT (x.length * y.length) (prE x y)) := by unfold Hid prX; rw [HP.out]; rfl
        have m4 : (x.length : Int) * (y.length : Int) ≤ 10 := by omega
        rw [HP.out]
        clear hgx hgy
        go_enter Try.func100, Try.ntmps100
        go_wp2_with fail
        generalize ((w.alloc (.cells #[.slice a x.length c] 29)).alloc (.cells #[.slice a' y.length c'] 29)).alloc (.cells #[.slice none 0 0] 29) = w0 at *
        refine (l05Is_q _ x _ _ true HB c0 hx hm hr).mono ?_
        rintro e w1 ⟨rfl, hd⟩
        have hb1 := hd.below
        have hz1 : w1.heap.size = w.heap.size + 3 := by obtain ⟨n, rfl⟩ := hd; exact hsz
        clear hd hsz
        have hsz := hz1
        clear hz1
        replace c0 := (hb1.cell (p := ⟨w.heap.size, 0, none⟩) (by show w.heap.size < _; omega)).trans c0
        replace c1 := (hb1.cell (p := ⟨w.heap.size + 1, 0, none⟩) (by show w.heap.size + 1 < _; omega)).trans c1
        replace c2 := (hb1.cell (p := ⟨w.heap.size + 2, 0, none⟩) hlt).trans c2
        replace f2 := (hb1.frozen (p := ⟨w.heap.size + 2, 0, none⟩) hlt).trans f2
        replace hx := hx.later hb1
        replace hy := hy.later hb1
        replace hb := hb.trans (hb1.mono (by omega))
        replace hlt := Nat.lt_of_lt_of_le hlt hb1.size
        clear hb1
        go_wp2_with fail
        refine (l05Is_q _ y _ _ true HB' c1 hy hm' hr').mono ?_
        rintro e w2 ⟨rfl, hd⟩
        have hb1 := hd.below
        have hz1 : w2.heap.size = w.heap.size + 3 := by obtain ⟨n, rfl⟩ := hd; exact hsz
        clear hd hsz
        have hsz := hz1
        clear hz1
        replace c0 := (hb1.cell (p := ⟨w.heap.size, 0, none⟩) (by show w.heap.size < _; omega)).trans c0
        replace c1 := (hb1.cell (p := ⟨w.heap.size + 1, 0, none⟩) (by show w.heap.size + 1 < _; omega)).trans c1
        replace c2 := (hb1.cell (p := ⟨w.heap.size + 2, 0, none⟩) hlt).trans c2
        replace f2 := (hb1.frozen (p := ⟨w.heap.size + 2, 0, none⟩) hlt).trans f2
        replace hx := hx.later hb1
        replace hy := hy.later hb1
        replace hb := hb.trans (hb1.mono (by omega))
        replace hlt := Nat.lt_of_lt_of_le hlt hb1.size
        clear hb1
        obtain ⟨G, O, C, H, F, P, hv, hsq⟩ := hx0.sq hsx
        obtain ⟨G', O', C', H', F', P', hv', hsq'⟩ := hy0.sq hsy
        simp only [Value.slice.injEq, true_and] at hv hv'
        obtain ⟨rfl, rfl⟩ := hv
        obtain ⟨rfl, rfl⟩ := hv'
        have HSQ := Lib.hid hsq
        have HSQ' := Lib.hid hsq'
        obtain ⟨n, hn⟩ : ∃ n, n = x.length * y.length := ⟨_, rfl⟩
        rw [← hn] at HX hp m1 m0
        have HN := Lib.hid hn
        clear hn
        have M0 : Mk (w.heap.size + 2) n (prE x y) 0 (w.heap.size + 4) (.slice none 0 0) w2 (w2.alloc (.cells #[.slice none 0 0] 29)) := by
          refine ⟨?_, ?_, ?_, ?_, ⟨by omega, by simp; omega⟩, OT.nil _ _ _, (Below.refl _ _).alloc (by omega) _⟩
          · rw [World.cell?_alloc_past _ _ _ (by omega)]; exact c2
          · rw [World.frozen?_alloc_past _ _ _ hlt]; exact f2
          · rw [World.cell?_alloc_at _ _ _ _ (by omega)]; rfl
          · rw [show w.heap.size + 2 + 1 = w2.heap.size by omega]; simp [go_sem]
        have HC : Hid (∀ wr B, w.heap.size + 2 ≤ B → Below B w2 wr → wr.cell? ⟨w.heap.size, 0, none⟩ = some (.slice (some ⟨G, O, none⟩) x.length c) ∧ wr.cell? ⟨w.heap.size + 1, 0, none⟩ = some (.slice (some ⟨G', O', none⟩) y.length c')) := fun wr B h1 h2 =>
          ⟨(h2.cell (p := ⟨w.heap.size, 0, none⟩) (by show w.heap.size < _; omega)).trans c0, (h2.cell (p := ⟨w.heap.size + 1, 0, none⟩) (by show w.heap.size + 1 < _; omega)).trans c1⟩
        have k6 : (0 : Int) < (y.length : Int) := by omega
        have hs7 : Hid (w.heap.size + 2 + 1 = w2.heap.size) := by unfold Hid; omega
        have m5 : ¬ 10 < (x.length : Int) * (y.length : Int) := by omega
        clear hsz
        obtain ⟨d0, d1⟩ := HC.out _ _ (Nat.le_refl _) M0.b
        clear hx hy hx0 hy0 hsq hsq' HB HB'
        go_wp2_with fail
        clear c0 c1
        generalize w2.alloc (.cells #[.slice none 0 0] 29) = w3 at *
        go_loopw [8] (fun iv wr => ∃ (i S : Nat) (tv : Value), i ≤ n ∧ iv = .int .i64 i ∧ Mk (w.heap.size + 2) n (prE x y) i S tv w2 wr) (fun iv _ => n - (intOf iv).toNat)
        case atStart => exact ⟨0, _, _, Nat.zero_le _, rfl, M0⟩
        case round =>
          obtain ⟨i, S, tv, hi, rfl, M⟩ := hrel
          clear M0 d0 d1
          obtain ⟨d0, d1⟩ := HC.out _ _ (Nat.le_refl _) M.b
          by_cases hil : i < n
          · have hilI : (i : Int) < (x.length : Int) * (y.length : Int) := by omega
            go_wp2_with fail
            have hb1 : Below wr.heap.size wr (wr.alloc (.cells #[] 2)) := (Below.refl _ _).alloc (Nat.le_refl _) _
            have ho0 : OI wr.heap.size (wr.alloc (.cells #[] 2)) (.slice (some ⟨wr.heap.size, 0, none⟩) 0 0) ((rowAt (mkT n (prE x y)) i).take 0) := OK.made _ _ _ (Nat.le_refl _)
            have hR : S ≤ wr.heap.size := M.sz.2
            have hS0 := M.sz.1
            have M1 := M.later hb1
            have hR2 : wr.heap.size ≤ (wr.alloc (.cells #[] 2)).heap.size := by simp
            clear d0 d1
            obtain ⟨d0, d1⟩ := HC.out _ _ (Nat.le_refl _) M1.b
            generalize wr.alloc (.cells #[] 2) = w3 at *
            generalize Value.slice (some ⟨wr.heap.size, 0, none⟩) 0 0 = v0 at *
            generalize wr.heap.size = R at *
            clear M hb1
            go_loopw [9, 10] (fun rv jv wr => ∃ j : Nat, j ≤ n ∧ jv = .int .i64 j ∧ R ≤ wr.heap.size ∧ OI R wr rv ((rowAt (mkT n (prE x y)) i).take j) ∧ Mk (w.heap.size + 2) n (prE x y) i S tv w2 wr) (fun _ jv _ => n - (intOf jv).toNat)
            case atStart => exact ⟨0, Nat.zero_le _, rfl, hR2, ho0, M1⟩
            case round =>
              obtain ⟨j, hj, rfl, hRz, ho, M⟩ := hrel
              clear ho0 M1 hR2 d0 d1
              obtain ⟨d0, d1⟩ := HC.out _ _ (Nat.le_refl _) M.b
              by_cases hjl : j < n
              · have hjlI : (j : Int) < (x.length : Int) * (y.length : Int) := by omega
                have HT := Lib.hid (take_row (f := prE x y) hil hjl)
                have hl : ((rowAt (mkT n (prE x y)) i).take j).length ≤ 1099511627776 := by have := List.length_take_le j (rowAt (mkT n (prE x y)) i); omega
                have hi' : i < x.length * y.length := by rw [← HN.out]; exact hil
                have hj' : j < x.length * y.length := by rw [← HN.out]; exact hjl
                obtain ⟨b1, b2, b3, b4⟩ := prod_bd hsx hsy hi' hj'
                have hyp : 0 < y.length := by omega
                have ha := div_lt_prod hi'
                have hb' := div_lt_prod hj'
                have hc := Nat.mod_lt i hyp
                have hd := Nat.mod_lt j hyp
                have hbw : Below w.heap.size w wr := hb.trans (M.b.mono (by omega))
                have q1 := HSQ.out.later hbw
                have q2 := HSQ'.out.later hbw
                have r1 := q1.row _ ha
                have r2 := q2.row _ hc
                have c1 := q1.cell _ _ ha hb'
                have c2 := q2.cell _ _ hc hd
                have HF : Hid ((y.length : Int) * tb x (i / y.length) (j / y.length) + tb y (i % y.length) (j % y.length) = prE x y i j) := by unfold Hid prE; rw [Int.mul_comm]
                have ea : (i : Int) / (y.length : Int) = ((i / y.length : Nat) : Int) := by simp
                have eb : (j : Int) / (y.length : Int) = ((j / y.length : Nat) : Int) := by simp
                have ec : (i : Int) % (y.length : Int) = ((i % y.length : Nat) : Int) := by simp
                have ed : (j : Int) % (y.length : Int) = ((j % y.length : Nat) : Int) := by simp
                have hyn : ¬ y = [] := fun e => by rw [e] at hyp; simp at hyp
                have ga : (i : Int).tdiv (y.length : Int) = ((i / y.length : Nat) : Int) := by rw [Int.tdiv_eq_ediv_of_nonneg (by omega)]; exact ea
                have gb : (j : Int).tdiv (y.length : Int) = ((j / y.length : Nat) : Int) := by rw [Int.tdiv_eq_ediv_of_nonneg (by omega)]; exact eb
                have gc : (i : Int).tmod (y.length : Int) = ((i % y.length : Nat) : Int) := by rw [Int.tmod_eq_emod_of_nonneg (by omega)]; exact ec
                have gd : (j : Int).tmod (y.length : Int) = ((j % y.length : Nat) : Int) := by rw [Int.tmod_eq_emod_of_nonneg (by omega)]; exact ed
                have HS : Hid (∀ w', Below R wr w' → w'.cell? ⟨w.heap.size, 0, none⟩ = some (.slice (some ⟨G, O, none⟩) x.length c) ∧ w'.cell? ⟨w.heap.size + 1, 0, none⟩ = some (.slice (some ⟨G', O', none⟩) y.length c') ∧ w'.cell? ⟨G, O + i / y.length, none⟩ = some (.slice (some ⟨H (i / y.length), F (i / y.length), none⟩) x.length (P (i / y.length))) ∧ w'.cell? ⟨G', O' + i % y.length, none⟩ = some (.slice (some ⟨H' (i % y.length), F' (i % y.length), none⟩) y.length (P' (i % y.length))) ∧ w'.cell? ⟨H (i / y.length), F (i / y.length) + j / y.length, none⟩ = some (.int .i64 (tb x (i / y.length) (j / y.length))) ∧ w'.cell? ⟨H' (i % y.length), F' (i % y.length) + j % y.length, none⟩ = some (.int .i64 (tb y (i % y.length) (j % y.length)))) := fun w' hB => by
                  have hbw' : Below w.heap.size w w' := hbw.trans (hB.mono (by omega))
                  obtain ⟨e0, e1⟩ := HC.out w' (w.heap.size + 2) (Nat.le_refl _) (M.b.trans (hB.mono (by omega)))
                  have q1' := HSQ.out.later hbw'
                  have q2' := HSQ'.out.later hbw'
                  exact ⟨e0, e1, q1'.row _ ha, q2'.row _ hc, q1'.cell _ _ ha hb', q2'.cell _ _ hc hd⟩
                clear q1 q2 hi' hj'
                generalize prE x y i j = z at *
                generalize tb x (i / y.length) (j / y.length) = z1 at *
                generalize tb y (i % y.length) (j % y.length) = z2 at *
                generalize hia : i / y.length = ia at *
                generalize hjb : j / y.length = jb at *
                generalize hic : i % y.length = ic at *
                generalize hjd : j % y.length = jd at *
                have n1 : 0 ≤ (y.length : Int) * z1 := Int.mul_nonneg (by omega) b1
                have n2 : (y.length : Int) * z1 ≤ 10 * 9 := Int.mul_le_mul (by omega) b2 b1 (by omega)
                have f1 : IntKind.i64.wrap ((y.length : Int) * z1) = (y.length : Int) * z1 := IntWalk.i64_in _ (by omega)
                have f2 : IntKind.i64.wrap ((y.length : Int) * z1 + z2) = (y.length : Int) * z1 + z2 := IntWalk.i64_in _ (by omega)
                have wa : IntKind.i64.wrap (ia : Int) = ia := IntWalk.i64_in _ (by omega)
                have wb : IntKind.i64.wrap (jb : Int) = jb := IntWalk.i64_in _ (by omega)
                have wc : IntKind.i64.wrap (ic : Int) = ic := IntWalk.i64_in _ (by omega)
                have wd : IntKind.i64.wrap (jd : Int) = jd := IntWalk.i64_in _ (by omega)
                have la : (ia : Int) < (x.length : Int) := by omega
                have lb : (jb : Int) < (x.length : Int) := by omega
                have lc : (ic : Int) < (y.length : Int) := by omega
                have ld : (jd : Int) < (y.length : Int) := by omega
                go_wp2_with fail
                go_region_held3 (fun w' => w'.cell? ⟨w.heap.size, 0, none⟩ = some (.slice (some ⟨G, O, none⟩) x.length c) ∧ w'.cell? ⟨w.heap.size + 1, 0, none⟩ = some (.slice (some ⟨G', O', none⟩) y.length c') ∧ w'.cell? ⟨G, O + ia, none⟩ = some (.slice (some ⟨H ia, F ia, none⟩) x.length (P ia)) ∧ w'.cell? ⟨G', O' + ic, none⟩ = some (.slice (some ⟨H' ic, F' ic, none⟩) y.length (P' ic)) ∧ w'.cell? ⟨H ia, F ia + jb, none⟩ = some (.int .i64 z1) ∧ w'.cell? ⟨H' ic, F' ic + jd, none⟩ = some (.int .i64 z2)) (first | go_keep | exact ⟨s1, s2, s3, s4, s5, s6⟩)
                  ((refine step_app_i64 (by rfl) _ _ (by rfl) R _ _ (by rfl) ((ho.alloc _).drew) ⟨wr.heap.size, 0, none⟩ 1 ((y.length : Int) * z1 + z2) (by rfl) (World.cell?_alloc_at _ _ _ _ rfl) hl (by simp; omega) ?_; intro v' w5 ho5 hgr; have hbn : Below R wr w5 := own_below (((Below.refl R wr).alloc hRz _).drew) ((ho.alloc _).drew) hgr (by simp; omega); obtain ⟨s1, s2, s3, s4, s5, s6⟩ := HS.out w5 hbn))
                go_wp2_with fail
                rw [HF.out] at ho5
                go_roundw
                case rel => exact ⟨j + 1, by omega, by go_num, Nat.le_trans hRz hbn.size, by rw [HT.out]; exact ho5, M.below hR hRz hbn⟩
                case measure => first | (simp [intOf]; done) | (simp [intOf]; omega)
              · obtain rfl : n = j := by omega
                have hjlI : ¬ (n : Int) < (x.length : Int) * (y.length : Int) := by omega
                rw [List.take_of_length_le (by rw [mkT_rowlen _ _ _ hil]; omega)] at ho
                obtain ⟨ra, rc, rfl⟩ := ho.slice
                rw [mkT_rowlen _ _ _ hil] at *
                obtain ⟨rs, h1, h2, h3⟩ := M.t
                have hc1 := M.c1
                have hf1 := M.f1
                rw [hs7.out] at hc1 hf1
                have hsz := M.sz
                have hrl : rs.length ≤ 1099511627776 := by
                  have := h3.1
                  rw [List.length_take, mkT_len] at this
                  omega
                obtain ⟨ta, tc, rfl⟩ := h1.slice
                have HNX : Hid (∀ tv' w5, OV 26 (w.heap.size + 2 + 2) w5 tv' (rs ++ [.slice ra n rc]) → (wr.alloc (.cells #[.slice ra n rc] 26)).grownBy w5 (Value.slice ta rs.length tc).ownBlock →
                    w5.cell? ⟨w2.heap.size, 0, none⟩ = some (.slice ta rs.length tc) ∧ w5.frozen? ⟨w2.heap.size, 0, none⟩ = false ∧ Mk (w.heap.size + 2) n (prE x y) (i + 1) w5.heap.size tv' w2 (w5.setCell ⟨w2.heap.size, 0, none⟩ tv') ∧ Below (w.heap.size + 2) w2 (w5.setCell ⟨w2.heap.size, 0, none⟩ tv')) := fun tv' w5 hv hg => by
                  have hB : Below (w.heap.size + 2 + 2) wr w5 := own_below ((Below.refl (w.heap.size + 2 + 2) wr).alloc (by omega) _) (h1.alloc _) hg (by simp; omega)
                  have hM := M.next hil h1 h3 (ho.mono hR) hv hg
                  rw [← hs7.out]
                  exact ⟨(hB.cell (p := ⟨w.heap.size + 2 + 1, 0, none⟩) (by show w.heap.size + 2 + 1 < _; omega)).trans M.c1, (hB.frozen (p := ⟨w.heap.size + 2 + 1, 0, none⟩) (by show w.heap.size + 2 + 1 < _; omega)).trans M.f1, hM, hM.b⟩
                clear M h2 h3
                go_wp2_with (at_builtin; refine wpl_app Try.underlying22 info_row rfl (by omega) rfl _ _ rfl (w.heap.size + 2 + 2) _ rs rfl (h1.alloc _) _ _ _ rfl (World.cell?_alloc_at _ _ _ _ rfl) rfl hrl (by simp; omega) ?_; intro tv' w5 hv hg; obtain ⟨hc5, hf5, M5, _⟩ := HNX.out tv' w5 hv hg; obtain ⟨tb, td, hte⟩ := hv.slice; simp only [List.length_append, List.length_cons, List.length_nil, Nat.zero_add] at hte; subst hte)
                go_roundw
                case rel => exact ⟨i + 1, _, _, by omega, by go_num, M5⟩
                case measure => first | (simp [intOf]; done) | (simp [intOf]; omega)
          · have hilI : ¬ (i : Int) < (x.length : Int) * (y.length : Int) := by omega
            obtain rfl : n = i := by omega
            have ht := M.t
            rw [List.take_of_length_le (by rw [mkT_len]; exact Nat.le_refl _)] at ht
            obtain ⟨ta, tc, hte⟩ := ht.slice
            rw [mkT_len] at hte
            subst hte
            have hc0 := M.c0
            have hf0 := M.f0
            have hc1 := M.c1
            rw [hs7.out] at hc1
            have hsz := M.sz
            have hz : w.heap.size + 2 < wr.heap.size := by omega
            have HE : Hid (OT w.heap.size (wr.setCell ⟨w.heap.size + 2, 0, none⟩ (.slice ta n tc)).heap.size (wr.setCell ⟨w.heap.size + 2, 0, none⟩ (.slice ta n tc)) (.slice ta n tc) (prX x y) ∧ Below w.heap.size w (wr.setCell ⟨w.heap.size + 2, 0, none⟩ (.slice ta n tc))) := by
              refine ⟨?_, (hb.trans (M.b.mono (by omega))).setCell (by show w.heap.size ≤ w.heap.size + 2; omega) _⟩
              rw [HX.out]
              exact ((ht.keep fun k h1 h2 => heap_setCell_other _ _ _ _ (by show k ≠ w.heap.size + 2; omega)).monoB (by omega)).mono (by simp; omega)
            clear ht M
            go_wp2_with fail
            exact bodyPost_ret (v := .tuple #[.agg #[.slice ta n tc], .bool true]) (by simp [results, Try.results100, go_sem, hc0, hz]) rfl ⟨_, rfl, HE.out⟩
      · have HP : Hid (prB x y = false) := by unfold Hid prB; rw [decide_eq_false hp]; simp
        have HX : Hid (prX x y = []) := by unfold Hid prX; rw [HP.out]; rfl
        have m4 : 10 < (x.length : Int) * (y.length : Int) := by omega
        rw [HP.out]
        clear hgx hgy
        go_enter Try.func100, Try.ntmps100
        go_wp2_with fail
        generalize ((w.alloc (.cells #[.slice a x.length c] 29)).alloc (.cells #[.slice a' y.length c'] 29)).alloc (.cells #[.slice none 0 0] 29) = w0 at *
        refine (l05Is_q _ x _ _ true HB c0 hx hm hr).mono ?_
        rintro e w1 ⟨rfl, hd⟩
        have hb1 := hd.below
        have hz1 : w1.heap.size = w.heap.size + 3 := by obtain ⟨n, rfl⟩ := hd; exact hsz
        clear hd hsz
        have hsz := hz1
        clear hz1
        replace c0 := (hb1.cell (p := ⟨w.heap.size, 0, none⟩) (by show w.heap.size < _; omega)).trans c0
        replace c1 := (hb1.cell (p := ⟨w.heap.size + 1, 0, none⟩) (by show w.heap.size + 1 < _; omega)).trans c1
        replace c2 := (hb1.cell (p := ⟨w.heap.size + 2, 0, none⟩) hlt).trans c2
        replace f2 := (hb1.frozen (p := ⟨w.heap.size + 2, 0, none⟩) hlt).trans f2
        replace hx := hx.later hb1
        replace hy := hy.later hb1
        replace hb := hb.trans (hb1.mono (by omega))
        replace hlt := Nat.lt_of_lt_of_le hlt hb1.size
        clear hb1
        go_wp2_with fail
        refine (l05Is_q _ y _ _ true HB' c1 hy hm' hr').mono ?_
        rintro e w2 ⟨rfl, hd⟩
        have hb1 := hd.below
        have hz1 : w2.heap.size = w.heap.size + 3 := by obtain ⟨n, rfl⟩ := hd; exact hsz
        clear hd hsz
        have hsz := hz1
        clear hz1
        replace c0 := (hb1.cell (p := ⟨w.heap.size, 0, none⟩) (by show w.heap.size < _; omega)).trans c0
        replace c1 := (hb1.cell (p := ⟨w.heap.size + 1, 0, none⟩) (by show w.heap.size + 1 < _; omega)).trans c1
        replace c2 := (hb1.cell (p := ⟨w.heap.size + 2, 0, none⟩) hlt).trans c2
        replace f2 := (hb1.frozen (p := ⟨w.heap.size + 2, 0, none⟩) hlt).trans f2
        replace hx := hx.later hb1
        replace hy := hy.later hb1
        replace hb := hb.trans (hb1.mono (by omega))
        replace hlt := Nat.lt_of_lt_of_le hlt hb1.size
        clear hb1
        go_wp2_with fail
        exact bodyPost_ret (v := .tuple #[.agg #[.slice none 0 0], .bool false]) (by simp [results, Try.results100, go_sem, c2, hlt]) rfl ⟨_, rfl, by rw [HX.out]; exact OT.nil _ _ _, hb.setCell (by show w.heap.size ≤ w.heap.size + 2; omega) _⟩
end Go.Proofs.Ytghmpaegmicheaa
