/- Chains: a chain in a box, chains that are right but for their number of words, and the two tests of chains. -/
import Derived.Test.YthcnhkjiojeemaaMat3
import Derived.Test.YthcnhkjiojeemaaIn
import Derived.Test.YthcnhkjiojeemaaGrpM
namespace Go.Proofs.Ythcnhkjiojeemaa
open Go.RowKit

/-- The chain lies in the box p. -/
structure ChAt (p : Nat) (b n s e : Int) (tv pv : Value) (w : World) : Prop where
  lt : p < w.heap.size
  c0 : w.cell? ⟨p, 0, none⟩ = some (.int .i64 b)
  c1 : w.cell? ⟨p, 1, none⟩ = some (.int .i64 n)
  c2 : w.cell? ⟨p, 2, none⟩ = some (.int .i64 s)
  c3 : w.cell? ⟨p, 3, none⟩ = some (.int .i64 e)
  c4 : w.cell? ⟨p, 4, none⟩ = some tv
  c5 : w.cell? ⟨p, 5, none⟩ = some pv
theorem ChAt.later {p : Nat} {b n s e : Int} {tv pv : Value} {w w' : World} (h : ChAt p b n s e tv pv w) (hb : Below w.heap.size w w') : ChAt p b n s e tv pv w' := by
  have k : ∀ o, w'.cell? ⟨p, o, none⟩ = w.cell? ⟨p, o, none⟩ := fun o => hb.cell (p := ⟨p, o, none⟩) h.lt
  exact ⟨Nat.lt_of_lt_of_le h.lt hb.size, (k 0).trans h.c0, (k 1).trans h.c1, (k 2).trans h.c2, (k 3).trans h.c3, (k 4).trans h.c4, (k 5).trans h.c5⟩
/-- All but the number of words is right. -/
structure GoodC (b n s e : Nat) (x : List (List (List Int))) (ys : List Int) : Prop where
  hb : 2 ≤ b ∧ b ≤ 36
  hn : 1 ≤ n ∧ n ≤ 36
  hs : s < n
  he : e < n
  hx : 1 ≤ x.length ∧ x.length ≤ 20
  hy : 1 ≤ ys.length ∧ ys.length ≤ 20
  tab : ∀ t, t < x.length → (tabAt x t).length = n ∧ ∀ i, i < n → (rowAt (tabAt x t) i).length = b ∧ ∀ d, d < b → inB ((rowAt (tabAt x t) i).getD d 0) 0 (n - 1) = true
  pl : ∀ i, i < ys.length → inB (ys.getD i 0) 0 (x.length - 1) = true
def powB (b k : Nat) : Bool := decide (b ^ k ≤ 1000000000000000)
theorem cin_is (n a c : Int) (w : World) (b : Bool) (h : Hid (inB n a c = b)) :
    Calls Try.prog 32 #[.int .i64 n, .int .i64 a, .int .i64 c] w fun e w' => e = .returned (.bool b) ∧ w = w' := by
  have := in_any n a c w
  rw [h.out] at this; exact this
theorem cl00In_is (n a c : Int) (w : World) (b : Bool) (h : Hid (inB n a c = b)) :
    Calls Try.prog 37 #[.int .i64 n, .int .i64 a, .int .i64 c] w fun e w' => e = .returned (.bool b) ∧ w = w' := by
  have := l00In_any n a c w
  rw [h.out] at this; exact this
theorem cMin_is (a b : Int) (w : World) :
    Calls Try.prog 71 #[.int .i64 a, .int .i64 b] w fun e w' => e = .returned (.int .i64 (if a < b then a else b)) ∧ w = w' := by
  by_cases h : a < b
  · have HR : Hid ((if a < b then a else b) = a) := by unfold Hid; rw [if_pos h]
    go_enter Try.func71, Try.ntmps71
    go_wp2
    go_ret
    exact ⟨rfl, rfl⟩
  · have HR : Hid ((if a < b then a else b) = b) := by unfold Hid; rw [if_neg h]
    go_enter Try.func71, Try.ntmps71
    go_wp2
    go_ret
    exact ⟨rfl, rfl⟩
theorem ChAt.drw {p : Nat} {b n s e : Int} {tv pv : Value} {w w' : World} (h : ChAt p b n s e tv pv w) (hd : Drw w w') : ChAt p b n s e tv pv w' := h.later hd.below
theorem bump (q b i : Nat) (hb : 2 ≤ b) (hq : q = min (b ^ i) 1000000000000001) :
    (if (q : Int) * (b : Int) < 1000000000000001 then (q : Int) * (b : Int) else 1000000000000001) = ((min (b ^ (i + 1)) 1000000000000001 : Nat) : Int) := by
  rw [← Int.natCast_mul, Nat.pow_succ]
  rcases Nat.le_total (b ^ i) 1000000000000001 with h | h
  · rw [Nat.min_eq_left h] at hq
    subst hq
    split <;> omega
  · rw [Nat.min_eq_right h] at hq
    subst hq
    have h1 : 1000000000000001 * 1 ≤ b ^ i * b := Nat.mul_le_mul h (by omega)
    rw [Nat.min_eq_right (by omega), if_neg (by omega)]
    rfl

set_option maxHeartbeats 4000000 in
set_option maxRecDepth 100000 in
theorem l02Is_good (p b n s e0 : Nat) (tv pv : Value) (x : List (List (List Int))) (ys : List Int) (w : World) (hc : ChAt p b n s e0 tv pv w) (hx : R3 w tv x) (hy : RI w pv ys) (hg : GoodC b n s e0 x ys) :
    Calls Try.prog 49 #[.pointer (some ⟨p, 0, none⟩)] w fun e w' => e = .returned (.bool (powB b ys.length)) ∧ Drw w w' := by
  obtain ⟨ta, tc, rfl⟩ := hx.slice
  obtain ⟨pa, pc, rfl⟩ := hy.slice
  obtain ⟨hb, hn, hs, he, hxl, hyl, htab, hpl⟩ := hg
  have HT := Lib.hid htab
  have HP := Lib.hid hpl
  have i1 : Hid (inB (b : Int) 2 36 = true) := inB_iff.2 (by omega)
  have i2 : Hid (inB (n : Int) 1 36 = true) := inB_iff.2 (by omega)
  have i3 : Hid (inB (s : Int) 0 ((n : Int) - 1) = true) := inB_iff.2 (by omega)
  have i4 : Hid (inB (e0 : Int) 0 ((n : Int) - 1) = true) := inB_iff.2 (by omega)
  have i5 : Hid (inB (x.length : Int) 1 20 = true) := inB_iff.2 (by omega)
  have i6 : Hid (inB (ys.length : Int) 1 20 = true) := inB_iff.2 (by omega)
  clear htab hpl hs he
  have c0 := (hc).c0
  have c1 := (hc).c1
  have c2 := (hc).c2
  have c3 := (hc).c3
  have c4 := (hc).c4
  have c5 := (hc).c5
  go_enter Try.func49, Try.ntmps49
  go_wp2_with fail
  go_quiet ((go_at_call 37; exact quiet_same (cl00In_is _ _ _ _ true (by assumption))))
  have hd : Drw w (w.drewN nq) := ⟨nq, rfl⟩
  generalize w.drewN nq = w1 at *
  clear i1 i2 i3 i4 i5 i6 c0 c1 c2 c3 c5
  replace c4 := (hc.drw hd).c4
  go_wp2_with fail
  go_loopw [3] (fun iv wr => ∃ t : Nat, t ≤ x.length ∧ iv = .int .i64 t ∧ Drw w wr) (fun iv _ => x.length - (intOf iv).toNat)
  case atStart => exact ⟨0, Nat.zero_le _, rfl, hd⟩
  case round =>
    clear hd c4 w1
    obtain ⟨t, ht, rfl, hd⟩ := hrel
    by_cases hlt : t < x.length
    · have htb := HT.out t hlt
      obtain ⟨g, off, r, rfl, hgl, hcr, hrt⟩ := hx.at t hlt
      obtain ⟨ra, rc, rfl⟩ := hrt.slice
      obtain ⟨X, hX⟩ : ∃ X, X = tabAt x t := ⟨_, rfl⟩
      rw [← hX] at hrt htb hcr
      clear hX
      obtain ⟨htl, hrow⟩ := htb
      have HROW := Lib.hid hrow
      clear hrow
      rw [htl] at hcr hrt
      have c1 := (hc.drw hd).c1
      have c4 := (hc.drw hd).c4
      have r1 := (hd.below.cell (p := ⟨g, off + t, none⟩) hgl).trans hcr
      go_wp2_with fail
      go_quiet (fail)
      replace hd := hd.more nq
      generalize wr.drewN nq = wa at *
      clear c1 c4 r1
      have c1 := (hc.drw hd).c1
      have c4 := (hc.drw hd).c4
      have r1 := (hd.below.cell (p := ⟨g, off + t, none⟩) hgl).trans hcr
      go_wp2_with fail
      go_loopw [4] (fun iv wq => ∃ i : Nat, i ≤ n ∧ iv = .int .i64 i ∧ Drw w wq) (fun iv _ => n - (intOf iv).toNat)
      case atStart => exact ⟨0, Nat.zero_le _, rfl, hd⟩
      case round =>
        clear hd c1 c4 r1 wa
        obtain ⟨i, hi, rfl, hd⟩ := hrel
        have c1 := (hc.drw hd).c1
        have c4 := (hc.drw hd).c4
        have r1 := (hd.below.cell (p := ⟨g, off + t, none⟩) hgl).trans hcr
        by_cases hli : i < n
        · obtain ⟨hrl, hval⟩ := HROW.out i hli
          obtain ⟨g2, off2, r2, rfl, hgl2, hcr2, hri⟩ := hrt.at i (by omega)
          obtain ⟨rb, rd, rfl⟩ := hri.slice
          obtain ⟨R, hR⟩ : ∃ R, R = rowAt X i := ⟨_, rfl⟩
          rw [← hR] at hri hrl hval hcr2
          clear hR
          have HV := Lib.hid hval
          clear hval
          rw [hrl] at hcr2 hri
          have c0 := (hc.drw hd).c0
          have r2 := (hd.below.cell (p := ⟨g2, off2 + i, none⟩) hgl2).trans hcr2
          go_wp2_with fail
          go_quiet (fail)
          replace hd := hd.more nq
          generalize wr.drewN nq = wb at *
          clear c0 c1 c4 r1 r2
          have c4 := (hc.drw hd).c4
          have r1 := (hd.below.cell (p := ⟨g, off + t, none⟩) hgl).trans hcr
          have r2 := (hd.below.cell (p := ⟨g2, off2 + i, none⟩) hgl2).trans hcr2
          go_wp2_with fail
          go_loopw [5] (fun iv wq => ∃ d : Nat, d ≤ b ∧ iv = .int .i64 d ∧ Drw w wq) (fun iv _ => b - (intOf iv).toNat)
          case atStart => exact ⟨0, Nat.zero_le _, rfl, hd⟩
          case round =>
            clear hd c4 r1 r2 wb
            obtain ⟨d, hdb, rfl, hd⟩ := hrel
            have c1 := (hc.drw hd).c1
            have c4 := (hc.drw hd).c4
            have r1 := (hd.below.cell (p := ⟨g, off + t, none⟩) hgl).trans hcr
            have r2 := (hd.below.cell (p := ⟨g2, off2 + i, none⟩) hgl2).trans hcr2
            by_cases hld : d < b
            · have HB := Lib.hid (HV.out d hld)
              obtain ⟨g3, off3, rfl, hgl3, hcr3⟩ := hri.at d (by omega)
              have r3 := (hd.below.cell (p := ⟨g3, off3 + d, none⟩) hgl3).trans hcr3
              generalize R.getD d 0 = z at *
              go_wp2_with fail
              go_quiet ((go_at_call 37; exact quiet_same (cl00In_is _ _ _ _ true (by assumption))))
              go_wp2_with fail
              go_roundw
              case rel => exact ⟨d + 1, by omega, by go_num, hd.more _⟩
              case measure => first | (simp [intOf]; done) | (simp [intOf]; omega)
            · obtain rfl : d = b := by omega
              go_wp2_with fail
              go_roundw
              case rel => exact ⟨i + 1, by omega, by go_num, hd⟩
              case measure => first | (simp [intOf]; done) | (simp [intOf]; omega)
        · obtain rfl : i = n := by omega
          go_wp2_with fail
          go_roundw
          case rel => exact ⟨t + 1, by omega, by go_num, hd⟩
          case measure => first | (simp [intOf]; done) | (simp [intOf]; omega)
    · obtain rfl : t = x.length := by omega
      have c4 := (hc.drw hd).c4
      have c5 := (hc.drw hd).c5
      generalize wr = wa at *
      go_wp2_with fail
      go_loopw [6, 7] (fun qv iv wr => ∃ i q : Nat, i ≤ ys.length ∧ iv = .int .i64 i ∧ qv = .int .i64 q ∧ q ≤ 1000000000000001 ∧ Hid (q = min (b ^ i) 1000000000000001) ∧ Drw w wr) (fun _ iv _ => ys.length - (intOf iv).toNat)
      case atStart => exact ⟨0, 1, Nat.zero_le _, rfl, rfl, by omega, Lib.hid (by rw [Nat.pow_zero]; rfl), hd⟩
      case round =>
        clear hd c4 c5 wa
        obtain ⟨i, q, hi, rfl, rfl, hq, HQ, hd⟩ := hrel
        have c5 := (hc.drw hd).c5
        by_cases hli : i < ys.length
        · have HB := Lib.hid (HP.out i hli)
          have HN := Lib.hid (bump q b i hb.1 HQ.out)
          have HN2 := Nat.min_le_right (b ^ (i + 1)) 1000000000000001
          obtain ⟨Q, hQ⟩ : ∃ Q, Q = min (b ^ (i + 1)) 1000000000000001 := ⟨_, rfl⟩
          rw [← hQ] at HN HN2
          have HQQ := Lib.hid hQ
          have hwr : IntKind.i64.wrap ((q : Int) * (b : Int)) = (q : Int) * (b : Int) := by
            have h1 : q * b ≤ 1000000000000001 * 36 := Nat.mul_le_mul hq hb.2
            rw [← Int.natCast_mul]
            exact IntWalk.i64_in _ (by omega)
          clear hQ
          have c0 := (hc.drw hd).c0
          have c4 := (hc.drw hd).c4
          obtain ⟨g3, off3, rfl, hgl3, hcr3⟩ := hy.at i (by omega)
          have r3 := (hd.below.cell (p := ⟨g3, off3 + i, none⟩) hgl3).trans hcr3
          generalize ys.getD i 0 = z at *
          go_wp2_with fail
          go_quiet ((go_at_call 37; exact quiet_same (cl00In_is _ _ _ _ true (by assumption))))
          replace hd := hd.more nq
          generalize wr.drewN nq = wb at *
          clear c0 c4 c5 r3
          have c0 := (hc.drw hd).c0
          have HMN := Lib.hid (fun wx => cMin_is ((q : Int) * (b : Int)) 1000000000000001 wx)
          rw [HN.out] at HMN
          go_wp2_with (go_at_call 71; refine (HMN.out _).mono ?_; rintro e w' ⟨rfl, rfl⟩)
          clear hwr
          go_roundw
          case rel => exact ⟨i + 1, Q, by omega, by go_num, rfl, HN2, HQQ, hd⟩
          case measure => first | (simp [intOf]; done) | (simp [intOf]; omega)
        · obtain rfl : i = ys.length := by omega
          have HR : Hid (powB b ys.length = decide ((q : Int) ≤ 1000000000000000)) := by
            unfold Hid powB; rw [HQ.out]
            rcases Nat.le_total (b ^ ys.length) 1000000000000000 with h | h
            · rw [decide_eq_true h, decide_eq_true (by omega)]
            · by_cases h2 : b ^ ys.length = 1000000000000000
              · rw [h2]; decide
              · rw [decide_eq_false (by omega), decide_eq_false (by omega)]
          go_wp2_with fail
          go_ret
          exact ⟨ret_bool HR.out.symm, hd⟩
theorem pw_le {b i j : Nat} (hb : 2 ≤ b) (h : i ≤ j) : b ^ i ≤ b ^ j := Nat.pow_le_pow_right (by omega) h
set_option maxHeartbeats 1000000 in
theorem powerOk_any (b k : Nat) (w : World) (hb : 2 ≤ b ∧ b ≤ 36) (hk : k ≤ 100) :
    Calls Try.prog 77 #[.int .i64 b, .int .i64 k, .int .i64 1000000000000000] w fun e w' => e = .returned (.bool (powB b k)) ∧ w = w' := by
  have hb0 : ¬ b = 0 := by omega
  obtain ⟨D, hD⟩ : ∃ D : Nat, D = 1000000000000000 / b := ⟨_, rfl⟩
  have hqb : ((1000000000000000 : Int).tdiv (b : Int)) = (D : Int) := by
    rw [Int.tdiv_eq_ediv_of_nonneg (by omega), hD]; exact (Int.natCast_ediv 1000000000000000 b).symm
  have hDm : D ≤ 1000000000000000 := by rw [hD]; exact Nat.div_le_self _ _
  have HD := Lib.hid hD
  clear hD
  go_enter Try.func77, Try.ntmps77
  go_wp2_with fail
  go_loop [7, 9] (fun qv iv => ∃ i q : Nat, i ≤ k ∧ iv = .int .i64 i ∧ qv = .int .i64 q ∧ q ≤ 1000000000000000 ∧ Hid (q = b ^ i)) (fun _ iv => k - (intOf iv).toNat)
  case atStart => exact ⟨0, 1, Nat.zero_le _, rfl, rfl, by omega, Lib.hid (Nat.pow_zero b).symm⟩
  case round =>
    obtain ⟨i, q, hi, rfl, rfl, hq, HQ⟩ := hrel
    by_cases hlt : i < k
    · by_cases hle : q * b ≤ 1000000000000000
      · have hnot : ¬ (D : Int) < (q : Int) := by
          have := (Nat.le_div_iff_mul_le (show 0 < b by omega)).2 hle
          have := HD.out
          omega
        obtain ⟨Q, hQ⟩ : ∃ Q, Q = q * b := ⟨_, rfl⟩
        have hwr : IntKind.i64.wrap ((q : Int) * (b : Int)) = (Q : Int) := by
          rw [← Int.natCast_mul, ← hQ]; exact IntWalk.i64_in _ (by omega)
        have HQ2 : Hid (Q = b ^ (i + 1)) := by unfold Hid; rw [hQ, HQ.out, Nat.pow_succ]
        rw [← hQ] at hle
        clear hQ
        go_wp2_with fail
        clear hwr
        go_round
        case rel => exact ⟨i + 1, Q, by omega, by go_num, rfl, hle, HQ2⟩
        case measure => first | (simp [intOf]; done) | (simp [intOf]; omega)
      · have hnot : (D : Int) < (q : Int) := by
          have := (Nat.div_lt_iff_lt_mul (show 0 < b by omega)).2 (show 1000000000000000 < q * b by omega)
          have := HD.out
          omega
        have HR : Hid (powB b k = false) := by
          unfold Hid powB
          have h1 := pw_le (b := b) hb.1 (show i + 1 ≤ k by omega)
          rw [Nat.pow_succ, ← HQ.out] at h1
          exact decide_eq_false (by omega)
        clear hle
        go_wp2_with fail
        go_ret
        exact ⟨ret_bool HR.out.symm, rfl⟩
    · obtain rfl : i = k := by omega
      have HR : Hid (powB b i = true) := by
        unfold Hid powB; rw [← HQ.out]; exact decide_eq_true hq
      go_wp2_with fail
      go_ret
      exact ⟨ret_bool (by rw [HR.out]; exact decide_eq_true (by omega)), rfl⟩

set_option maxHeartbeats 1000000 in
theorem cfVal1 (v : Value) (xs : List Int) (p : Nat) (w : World) (hx : RI w v xs) (hm : xs.length ≤ 1099511627776)
    (hcl : ∀ i, i < xs.length → Calls Try.prog 79 #[.int .i64 (xs.getD i 0), .pointer (some ⟨p, 0, none⟩)] w fun e w' => e = .returned (.bool false) ∧ w = w') :
    Calls Try.prog 78 #[v, .func (.func 79) #[] #[.pointer (some ⟨p, 0, none⟩)]] w fun e w' => e = .returned (.bool false) ∧ w = w' := by
  have HI : Hid (Calls Try.prog 89 #[v, .func (.func 79) #[] #[.pointer (some ⟨p, 0, none⟩)]] w fun e w' => e = .returned (.int .i64 (-1)) ∧ w = w') := by
    have HC := Lib.hid hcl
    clear hcl
    obtain ⟨a, c, rfl⟩ := hx.slice
    go_enter Try.func89, Try.ntmps89
    go_wp2_with fail
    go_loop [8] (fun iv => ∃ k : Nat, k ≤ xs.length ∧ iv = .int .i64 k) (fun iv => xs.length - (intOf iv).toNat)
    case atStart => exact ⟨0, Nat.zero_le _, rfl⟩
    case round =>
      obtain ⟨k, hk, rfl⟩ := hrel
      by_cases hlt : k < xs.length
      · obtain ⟨g, off, rfl, hg, hc⟩ := hx.at k hlt
        have HE := Lib.hid (HC.out k hlt)
        generalize xs.getD k 0 = z at *
        go_wp2_with (go_at_call 79; refine HE.out.mono ?_; rintro e w' ⟨rfl, rfl⟩)
        go_round
        case rel => exact ⟨k + 1, by omega, by go_num⟩
        case measure => first | (simp [intOf]; done) | (simp [intOf]; omega)
      · go_wp2_with fail
        go_ret
        exact ⟨rfl, rfl⟩
  go_enter Try.func78, Try.ntmps78
  go_wp2_with fail
  refine HI.out.mono ?_
  rintro e w' ⟨rfl, rfl⟩
  go_wp2_with fail
  go_ret
  exact ⟨rfl, rfl⟩
set_option maxHeartbeats 1000000 in
theorem cfVal2 (v : Value) (xs : List Int) (p : Nat) (w : World) (hx : RI w v xs) (hm : xs.length ≤ 1099511627776)
    (hcl : ∀ i, i < xs.length → Calls Try.prog 80 #[.int .i64 (xs.getD i 0), .pointer (some ⟨p, 0, none⟩)] w fun e w' => e = .returned (.bool false) ∧ w = w') :
    Calls Try.prog 78 #[v, .func (.func 80) #[] #[.pointer (some ⟨p, 0, none⟩)]] w fun e w' => e = .returned (.bool false) ∧ w = w' := by
  have HI : Hid (Calls Try.prog 89 #[v, .func (.func 80) #[] #[.pointer (some ⟨p, 0, none⟩)]] w fun e w' => e = .returned (.int .i64 (-1)) ∧ w = w') := by
    have HC := Lib.hid hcl
    clear hcl
    obtain ⟨a, c, rfl⟩ := hx.slice
    go_enter Try.func89, Try.ntmps89
    go_wp2_with fail
    go_loop [8] (fun iv => ∃ k : Nat, k ≤ xs.length ∧ iv = .int .i64 k) (fun iv => xs.length - (intOf iv).toNat)
    case atStart => exact ⟨0, Nat.zero_le _, rfl⟩
    case round =>
      obtain ⟨k, hk, rfl⟩ := hrel
      by_cases hlt : k < xs.length
      · obtain ⟨g, off, rfl, hg, hc⟩ := hx.at k hlt
        have HE := Lib.hid (HC.out k hlt)
        generalize xs.getD k 0 = z at *
        go_wp2_with (go_at_call 80; refine HE.out.mono ?_; rintro e w' ⟨rfl, rfl⟩)
        go_round
        case rel => exact ⟨k + 1, by omega, by go_num⟩
        case measure => first | (simp [intOf]; done) | (simp [intOf]; omega)
      · go_wp2_with fail
        go_ret
        exact ⟨rfl, rfl⟩
  go_enter Try.func78, Try.ntmps78
  go_wp2_with fail
  refine HI.out.mono ?_
  rintro e w' ⟨rfl, rfl⟩
  go_wp2_with fail
  go_ret
  exact ⟨rfl, rfl⟩
theorem val1_yes (p : Nat) (b n s e0 : Int) (tv pv : Value) (z : Int) (w : World) (hc : ChAt p b n s e0 tv pv w) (hn : 1 ≤ n ∧ n ≤ 36) (hz : Hid (inB z 0 (n - 1) = true)) :
    Calls Try.prog 79 #[.int .i64 z, .pointer (some ⟨p, 0, none⟩)] w fun e w' => e = .returned (.bool false) ∧ w = w' := by
  have c1 := hc.c1
  go_enter Try.func79, Try.ntmps79
  go_wp2_with (go_at_call 32; refine (cin_is _ _ _ _ true hz).mono ?_; rintro e w' ⟨rfl, rfl⟩)
  go_ret
  exact ⟨rfl, rfl⟩
theorem val2_yes (p : Nat) (b n s e0 : Int) (ta : Option Addr) (m tc : Nat) (pv : Value) (z : Int) (w : World) (hc : ChAt p b n s e0 (.slice ta m tc) pv w) (hm : 1 ≤ m ∧ m ≤ 36) (hz : Hid (inB z 0 (m - 1) = true)) :
    Calls Try.prog 80 #[.int .i64 z, .pointer (some ⟨p, 0, none⟩)] w fun e w' => e = .returned (.bool false) ∧ w = w' := by
  have c4 := hc.c4
  go_enter Try.func80, Try.ntmps80
  go_wp2_with (go_at_call 32; refine (cin_is _ _ _ _ true hz).mono ?_; rintro e w' ⟨rfl, rfl⟩)
  go_ret
  exact ⟨rfl, rfl⟩
theorem baseC_yes (b : Nat) (w : World) (hb : 2 ≤ b ∧ b ≤ 36) :
    Calls Try.prog 76 #[.int .i64 b] w fun e w' => e = .returned (.bool true) ∧ w = w' := by
  have hz : Hid (inB (b : Int) 2 36 = true) := inB_iff.2 (by omega)
  go_enter Try.func76, Try.ntmps76
  go_wp2_with (go_at_call 32; refine (cin_is _ _ _ _ true hz).mono ?_; rintro e w' ⟨rfl, rfl⟩)
  go_ret
  exact ⟨rfl, rfl⟩
set_option maxHeartbeats 4000000 in
set_option maxRecDepth 100000 in
theorem validC_good (b n s e0 : Nat) (tv pv : Value) (x : List (List (List Int))) (ys : List Int) (w : World) (hx : R3 w tv x) (hy : RI w pv ys) (hg : GoodC b n s e0 x ys) :
    Calls Try.prog 66 #[.agg #[.int .i64 b, .int .i64 n, .int .i64 s, .int .i64 e0, tv, pv]] w fun e w' => e = .returned (.bool (powB b ys.length)) ∧ Below w.heap.size w w' := by
  obtain ⟨ta, tc, rfl⟩ := hx.slice
  obtain ⟨pa, pc, rfl⟩ := hy.slice
  obtain ⟨hb, hn, hs, he, hxl, hyl, htab, hpl⟩ := hg
  have HT := Lib.hid htab
  have HP := Lib.hid hpl
  have i0 := Lib.hid (fun wx => baseC_yes b wx hb)
  have i2 : Hid (inB (n : Int) 1 36 = true) := inB_iff.2 (by omega)
  have i3 : Hid (inB (s : Int) 0 ((n : Int) - 1) = true) := inB_iff.2 (by omega)
  have i4 : Hid (inB (e0 : Int) 0 ((n : Int) - 1) = true) := inB_iff.2 (by omega)
  have i5 : Hid (inB (x.length : Int) 1 20 = true) := inB_iff.2 (by omega)
  have i6 : Hid (inB (ys.length : Int) 1 20 = true) := inB_iff.2 (by omega)
  have hmf : ∀ (fn : Fn) (first cap : Array Value) (w : World), (Instr.makeFunc fn first cap).run Try.prog w = .ok (.func fn first cap) w := fun _ _ _ _ => rfl
  clear htab hpl hs he
  have hb1 : Below w.heap.size w (w.alloc (.cells #[.int .i64 b, .int .i64 n, .int .i64 s, .int .i64 e0, .slice ta x.length tc, .slice pa ys.length pc] 35)) := (Below.refl _ _).alloc (Nat.le_refl _) _
  have hc : ChAt w.heap.size b n s e0 (.slice ta x.length tc) (.slice pa ys.length pc) (w.alloc (.cells #[.int .i64 b, .int .i64 n, .int .i64 s, .int .i64 e0, .slice ta x.length tc, .slice pa ys.length pc] 35)) :=
    ⟨by simp, World.cell?_alloc_at _ _ _ _ rfl, World.cell?_alloc_at _ _ _ _ rfl, World.cell?_alloc_at _ _ _ _ rfl, World.cell?_alloc_at _ _ _ _ rfl, World.cell?_alloc_at _ _ _ _ rfl, World.cell?_alloc_at _ _ _ _ rfl⟩
  replace hx := hx.later hb1
  replace hy := hy.later hb1
  have HPW := Lib.hid (fun wx => powerOk_any b ys.length wx hb (by omega))
  obtain ⟨pb, hpb⟩ : ∃ pb, pb = powB b ys.length := ⟨_, rfl⟩
  rw [← hpb] at HPW ⊢
  clear hpb
  go_enter Try.func66, Try.ntmps66
  cases pb
  · go_wp2_with (first | (go_at_call 32; refine (cin_is _ _ _ _ true (by assumption)).mono ?_; rintro e w' ⟨rfl, rfl⟩) | (go_at_call 76; refine (i0.out _).mono ?_; rintro e w' ⟨rfl, rfl⟩) | (go_at_call 77; refine (HPW.out _).mono ?_; rintro e w' ⟨rfl, rfl⟩))
    go_ret
    exact ⟨rfl, hb1⟩
  · go_wp2_with (first | (go_at_call 32; refine (cin_is _ _ _ _ true (by assumption)).mono ?_; rintro e w' ⟨rfl, rfl⟩) | (go_at_call 76; refine (i0.out _).mono ?_; rintro e w' ⟨rfl, rfl⟩) | (go_at_call 77; refine (HPW.out _).mono ?_; rintro e w' ⟨rfl, rfl⟩))
    clear i0 i2 i3 i4 i5 i6 HPW
    have hp : w.heap.size < (w.alloc (.cells #[.int .i64 b, .int .i64 n, .int .i64 s, .int .i64 e0, .slice ta x.length tc, .slice pa ys.length pc] 35)).heap.size := by simp
    generalize w.alloc (.cells #[.int .i64 b, .int .i64 n, .int .i64 s, .int .i64 e0, .slice ta x.length tc, .slice pa ys.length pc] 35) = w1 at *
    generalize hpp : w.heap.size = p at *
    have HPP := Lib.hid hpp
    clear hpp
    have c0 := hc.c0
    have c1 := hc.c1
    have c5 := hc.c5
    go_loop [59] (fun iv => ∃ t : Nat, t ≤ x.length ∧ iv = .int .i64 t) (fun iv => x.length - (intOf iv).toNat)
    case atStart => exact ⟨0, Nat.zero_le _, rfl⟩
    case round =>
      obtain ⟨t, ht, rfl⟩ := hrel
      by_cases hlt : t < x.length
      · have htb := HT.out t hlt
        obtain ⟨g, off, r, rfl, hgl, hcr, hrt⟩ := hx.at t hlt
        obtain ⟨ra, rc, rfl⟩ := hrt.slice
        obtain ⟨X, hX⟩ : ∃ X, X = tabAt x t := ⟨_, rfl⟩
        rw [← hX] at hrt htb hcr
        clear hX
        obtain ⟨htl, hrow⟩ := htb
        have HROW := Lib.hid hrow
        clear hrow
        rw [htl] at hcr hrt
        go_wp2_with fail
        go_loop [70] (fun iv => ∃ i : Nat, i ≤ n ∧ iv = .int .i64 i) (fun iv => n - (intOf iv).toNat)
        case atStart => exact ⟨0, Nat.zero_le _, rfl⟩
        case round =>
          obtain ⟨i, hi, rfl⟩ := hrel
          by_cases hli : i < n
          · obtain ⟨hrl, hval⟩ := HROW.out i hli
            obtain ⟨g2, off2, r2, rfl, hgl2, hcr2, hri⟩ := hrt.at i (by omega)
            obtain ⟨rb, rd, rfl⟩ := hri.slice
            obtain ⟨R, hR⟩ : ∃ R, R = rowAt X i := ⟨_, rfl⟩
            rw [← hR] at hri hrl hval hcr2
            clear hR
            have HCF := Lib.hid (cfVal1 _ R p w1 hri (by omega) (fun j hj => val1_yes p _ _ _ _ _ _ _ w1 hc (by omega) (Lib.hid (hval j (by omega)))))
            rw [hrl] at hcr2 HCF
            clear hval
            go_wp2_with (go_at_call 78; refine (HCF.out).mono ?_; rintro e w' ⟨rfl, rfl⟩)
            go_round
            case rel => exact ⟨i + 1, by omega, by go_num⟩
            case measure => first | (simp [intOf]; done) | (simp [intOf]; omega)
          · obtain rfl : i = n := by omega
            go_wp2_with fail
            go_round
            case rel => exact ⟨t + 1, by omega, by go_num⟩
            case measure => first | (simp [intOf]; done) | (simp [intOf]; omega)
      · obtain rfl : t = x.length := by omega
        have HCF := Lib.hid (cfVal2 _ ys p w1 hy (by omega) (fun j hj => val2_yes p _ _ _ _ _ _ _ _ _ w1 hc (by omega) (Lib.hid (HP.out j hj))))
        go_wp2_with (go_at_call 78; refine (HCF.out).mono ?_; rintro e w' ⟨rfl, rfl⟩)
        go_ret
        exact ⟨rfl, by rw [HPP.out]; exact hb1⟩
end Go.Proofs.Ythcnhkjiojeemaa
