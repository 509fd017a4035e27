/- l04Rename: the walk. -/
import Derived.Test.YthcnhkjiojeemaaDrS
import Derived.Deep.DeepCutAuto
namespace Go.Proofs.Ythcnhkjiojeemaa
open Go.RowKit

def RnPost (n : Nat) (t : Nat → Nat → Int) (rs cs vs : List Int) (w : World) (e : Ending) (w' : World) : Prop := ∃ v u, e = .returned v ∧ RT w' v (mkT n u) ∧ Ren n t u rs cs vs ∧ Below w.heap.size w w'
set_option maxRecDepth 100000 in
set_option maxHeartbeats 4000000 in
theorem l04Rename_any (n : Nat) (hn : 1 ≤ n ∧ n ≤ 36) (t : Nat → Nat → Int) (C : Nat) (w : World) {G O : Nat} {H F P : Nat → Nat} (hsq : SqAt G O H F P (mkT n t) w) (hq : Qg n t)
    (vr vc vv : Value) (rs cs vs : List Int) (hr : RI w vr rs) (hc : RI w vc cs) (hv : RI w vv vs) (pr : rs.Perm (upN n)) (pc : cs.Perm (upN n)) (pv : vs.Perm (upN n)) :
    Calls Try.prog 59 #[.slice (some ⟨G, O, none⟩) n C, vr, vc, vv] w (RnPost n t rs cs vs w) := by
  obtain ⟨ra, rc, rfl⟩ := hr.slice
  obtain ⟨ca, cc, rfl⟩ := hc.slice
  obtain ⟨va, vc', rfl⟩ := hv.slice
  have lr := perm_len pr
  have lc := perm_len pc
  have lv := perm_len pv
  have HR : Hid (∀ wx i, Below w.heap.size w wx → i < n → ∃ g o z, ra = some ⟨g, o, none⟩ ∧ rs.getD i 0 = ((z : Nat) : Int) ∧ z < n ∧ wx.cell? ⟨g, o + i, none⟩ = some (.int .i64 (z : Nat))) := fun wx i hb hi => by
    obtain ⟨g, o, e, _, h⟩ := (hr.later hb).at i (by omega)
    have := perm_bd pr hi
    obtain ⟨z, hz⟩ := Int.eq_ofNat_of_zero_le this.1
    exact ⟨g, o, z, e, hz, by omega, by rw [h, hz]⟩
  have HC : Hid (∀ wx i, Below w.heap.size w wx → i < n → ∃ g o z, ca = some ⟨g, o, none⟩ ∧ cs.getD i 0 = ((z : Nat) : Int) ∧ z < n ∧ wx.cell? ⟨g, o + i, none⟩ = some (.int .i64 (z : Nat))) := fun wx i hb hi => by
    obtain ⟨g, o, e, _, h⟩ := (hc.later hb).at i (by omega)
    have := perm_bd pc hi
    obtain ⟨z, hz⟩ := Int.eq_ofNat_of_zero_le this.1
    exact ⟨g, o, z, e, hz, by omega, by rw [h, hz]⟩
  have HV : Hid (∀ wx i, Below w.heap.size w wx → i < n → ∃ g o, va = some ⟨g, o, none⟩ ∧ wx.cell? ⟨g, o + i, none⟩ = some (.int .i64 (vs.getD i 0))) := fun wx i hb hi => by
    obtain ⟨g, o, e, _, h⟩ := (hv.later hb).at i (by omega)
    exact ⟨g, o, e, h⟩
  have HS : Hid (∀ wx, Below w.heap.size w wx → SqAt G O H F P (mkT n t) wx) := fun wx hb => hsq.later hb
  have HT : Hid (∀ i j, i < n → j < n → ∃ z : Nat, t i j = (z : Int) ∧ z < n) := fun i j hi hj => by
    have := hq.bd i j hi hj
    obtain ⟨z, hz⟩ := Int.eq_ofNat_of_zero_le this.1
    exact ⟨z, hz, by omega⟩
  have HLR := Lib.hid lr
  have HLC := Lib.hid lc
  have HLV := Lib.hid lv
  have PR := Lib.hid pr
  have PC := Lib.hid pc
  rw [lr, lc, lv]
  obtain ⟨hn1, hn2⟩ := hn
  clear hr hc hv hsq hq lr lc lv pr pc pv
  go_enter Try.func59, Try.ntmps59
  go_wp2_with fail
  refine (l04Blank_any n w (by omega)).mono ?_
  rintro e w1 ⟨v1, rfl, ho, hb⟩
  rw [rep_mk] at ho
  obtain ⟨G', H', P', C', rfl, htb⟩ := ho.tbl hn1 (Nat.le_refl _)
  generalize hS : w1.heap.size = S at *
  clear ho hS
  go_wp2_with fail
  go_loopw [10] (fun iv wr => ∃ (i : Nat) (u : Nat → Nat → Int), i ≤ n ∧ iv = .int .i64 i ∧ TbAt w.heap.size S G' H' P' C' n u wr ∧ Hid (∀ a b, a < i → b < n → u (rs.getD a 0).toNat (cs.getD b 0).toNat = vs.getD (t a b).toNat 0) ∧ Below w.heap.size w wr) (fun iv _ => n - (intOf iv).toNat)
  case atStart => exact ⟨0, _, Nat.zero_le _, rfl, htb, Lib.hid (fun a b ha => by omega), hb⟩
  case round =>
    clear htb hb
    obtain ⟨i, u, hi, rfl, htb, HU, hb⟩ := hrel
    by_cases hin : i < n
    · have hini : (i : Int) < (n : Int) := by omega
      go_wp2_with fail
      go_loopw [11] (fun jv wr => ∃ (j : Nat) (u : Nat → Nat → Int), j ≤ n ∧ jv = .int .i64 j ∧ TbAt w.heap.size S G' H' P' C' n u wr ∧ Hid (∀ a b, (a < i ∧ b < n) ∨ (a = i ∧ b < j) → u (rs.getD a 0).toNat (cs.getD b 0).toNat = vs.getD (t a b).toNat 0) ∧ Below w.heap.size w wr) (fun jv _ => n - (intOf jv).toNat)
      case atStart => exact ⟨0, u, Nat.zero_le _, rfl, htb, Lib.hid (fun a b h => by rcases h with h | h; exact HU.out a b h.1 h.2; omega), hb⟩
      case round =>
        clear htb hb HU
        obtain ⟨j, u, hj, rfl, htb, HU, hb⟩ := hrel
        by_cases hjn : j < n
        · have hjni : (j : Int) < (n : Int) := by omega
          obtain ⟨g1, o1, p, e1, hp, hpn, c1⟩ := HR.out _ i hb hin
          obtain ⟨g2, o2, q, e2, hq, hqn, c2⟩ := HC.out _ j hb hjn
          obtain ⟨z, hz, hzn⟩ := HT.out i j hin hjn
          obtain ⟨g3, o3, e3, c3⟩ := HV.out _ z hb hzn
          have hsq := HS.out _ hb
          have c4 := hsq.row i (by rw [mkT_len]; exact hin)
          have c5 := hsq.cell i j (by rw [mkT_len]; exact hin) (by rw [mkT_len]; exact hjn)
          rw [mkT_len] at c4
          rw [tb_mk hin hjn, hz] at c5
          have c6 := htb.row p hpn
          have c7 := htb.cell p q hpn hqn
          have c8 := htb.fr p q hpn hqn
          have hst := (htb.store p q hpn hqn (vs.getD z 0)).1
          have hbH := (htb.hb p hpn).1
          have HST := Lib.hid hst
          have hbs : Below w.heap.size w (wr.setCell ⟨H' p, q, none⟩ (.int .i64 (vs.getD z 0))) := hb.setCell hbH _
          have HU2 : Hid (∀ a b, (a < i ∧ b < n) ∨ (a = i ∧ b < j + 1) → upd u p q (vs.getD z 0) (rs.getD a 0).toNat (cs.getD b 0).toNat = vs.getD (t a b).toNat 0) := fun a b h => by
            by_cases e : a = i ∧ b = j
            · obtain ⟨rfl, rfl⟩ := e
              rw [hp, hq, hz]
              simp only [Int.toNat_natCast]
              exact upd_same u p q _
            · rw [upd_other]
              · exact HU.out a b (by omega)
              · rintro ⟨e4, e5⟩
                have han : a < n := by omega
                have hbn : b < n := by omega
                have b1 := perm_bd PR.out han
                have b2 := perm_bd PC.out hbn
                exact e ⟨perm_inj PR.out han hin (by omega), perm_inj PC.out hbn hjn (by omega)⟩
          have hpi : (p : Int) < (n : Int) := by omega
          have hqi : (q : Int) < (n : Int) := by omega
          have hzi : (z : Int) < (n : Int) := by omega
          have E1 := Lib.hid e1
          have E2 := Lib.hid e2
          have E3 := Lib.hid e3
          generalize vs.getD z 0 = y at *
          generalize u p q = y0 at *
          clear hst hsq hp hq hz e1 e2 e3
          obtain rfl := E1.out
          obtain rfl := E2.out
          obtain rfl := E3.out
          clear E1 E2 E3
          go_upto_region 8 with fail
          refine wp_region_qtail 22 (by kernel_rfl) (by kernel_rfl) ?_; simp only [List.take_succ_cons, List.take_zero, List.drop_succ_cons, List.drop_zero]; (repeat (go_big_quiet_step (fail))); refine wpQuiet_nil ?_
          go_wp2_with fail
          go_roundw
          case rel => exact ⟨j + 1, _, by omega, by go_num, by first | exact HST.out | exact HST.out.later (below_drewN (Below.refl _ _) _), HU2, by first | exact hbs | exact below_drewN hbs _⟩
          case measure => first | (simp [intOf]; done) | (simp [intOf]; omega)
        · obtain rfl : j = n := by omega
          go_wp2_with fail
          go_roundw
          case rel => exact ⟨i + 1, u, by omega, by go_num, htb, Lib.hid (fun a b ha hb => HU.out a b (by omega)), hb⟩
          case measure => first | (simp [intOf]; done) | (simp [intOf]; omega)
    · obtain rfl : i = n := by omega
      go_wp2_with fail
      go_ret
      exact ⟨_, u, rfl, htb.read, fun a b ha hb => HU.out a b ha hb, hb⟩
end Go.Proofs.Ythcnhkjiojeemaa
