/- HearNumber: the program's and the reference's, and the law. -/
import Derived.Test.YtdlagajnefkklaaDoorHnP
namespace Go.Proofs.YtdlagajnefkklaaDoor
open Go.RowKit

theorem hn_none {o : Option Nat} (h : o = none) : Ending.returned (.tuple #[.int .i64 0, .bool false]) = .returned (hnV o) := by subst h; rfl
theorem hn_some {o : Option Nat} {n : Nat} (h : o = some n) : Ending.returned (.tuple #[.int .i64 (n : Nat), .bool true]) = .returned (hnV o) := by subst h; rfl
def HnPost (a b s : ByteArray) (w : World) (e : Ending) (w' : World) : Prop := e = .returned (hnV (hnO a b s)) ∧ Below w.heap.size w w'
set_option maxRecDepth 100000 in
set_option maxHeartbeats 4000000 in
theorem specHn_any (a b s : ByteArray) (w : World) (hab : a.size + b.size ≤ 1048576) (hs : s.size ≤ 1048576) :
    Calls Tryd.prog 16 #[.agg #[.string a, .string b], .string s] w (HnPost a b s w) := by
  have hb : Below w.heap.size w (w.alloc (.cells #[.string a, .string b] 37)) := (Below.refl _ _).alloc (Nat.le_refl _) _
  have hX : SX w.heap.size a b (w.alloc (.cells #[.string a, .string b] 37)) := ⟨World.cell?_alloc_at _ _ _ _ rfl, World.cell?_alloc_at _ _ _ _ rfl⟩
  have c0 := hX.c0
  have c1 := hX.c1
  cases hv : vsB a b
  · have HR := Lib.hid (hnO_v (s := s) hv)
    have HC : Hid (∀ g wx, wx.cell? ⟨g, 0, none⟩ = some (.string a) → wx.cell? ⟨g, 1, none⟩ = some (.string b) → Calls Tryd.prog 30 #[.pointer (some ⟨g, 0, none⟩)] wx fun e w' => e = .returned (.bool false) ∧ Below wx.heap.size wx w') := fun g wx h1 h2 => by
      have := l07Speech_any a b g wx hab h1 h2
      rw [hv] at this; exact this
    clear hv
    go_enter Tryd.func16, Tryd.ntmps16
    go_wp2_with fail
    refine (HC.out _ _ c0 c1).mono ?_
    rintro e w1 ⟨rfl, hb1⟩
    go_wp2_with fail
    go_ret2
    exact ⟨hn_none HR.out, hb.trans (hb1.mono hb.size)⟩
  · have HV := Lib.hid hv
    have hB := vsB_base hv
    have HBZ := Lib.hid (vsB_sz hv)
    have HC : Hid (∀ g wx, wx.cell? ⟨g, 0, none⟩ = some (.string a) → wx.cell? ⟨g, 1, none⟩ = some (.string b) → Calls Tryd.prog 30 #[.pointer (some ⟨g, 0, none⟩)] wx fun e w' => e = .returned (.bool true) ∧ Below wx.heap.size wx w') := fun g wx h1 h2 => by
      have := l07Speech_any a b g wx hab h1 h2
      rw [hv] at this; exact this
    have hk1 : (cutS s).length ≤ 1048577 := by have := cutS_sum s; omega
    have hbi : (a.size : Int) * (b.size : Int) = ((a.size * b.size : Nat) : Int) := (Int.natCast_mul _ _).symm
    obtain ⟨⟨z1, z2⟩, z3, z4⟩ := vsB_sz hv
    clear hv
    go_enter Tryd.func16, Tryd.ntmps16
    go_wp2_with fail
    refine (HC.out _ _ c0 c1).mono ?_
    rintro e w1 ⟨rfl, hb1⟩
    clear HC c0 c1
    replace hX := hX.later hb1
    replace hb := hb.trans (hb1.mono hb.size)
    clear hb1
    go_wp2_with fail
    refine (l01Cut_any s _ hs).mono ?_
    rintro e w2 ⟨v2, rfl, ho, hb1⟩
    replace hX := hX.later hb1
    replace hb := hb.trans (hb1.mono hb.size)
    clear hb1
    have hx := ho.read
    obtain ⟨pa, pc, rfl⟩ := hx.slice
    clear ho
    by_cases hk8 : (cutS s).length ≤ 8
    · have c0 := hX.c0
      have c1 := hX.c1
      have HL := Lib.hid (l07Power_any (a.size * b.size) (cutS s).length w2 hB (by omega))
      have hwr : IntKind.i64.wrap ((a.size : Int) * (b.size : Int)) = ((a.size * b.size : Nat) : Int) := by rw [hbi]; exact IntWalk.i64_in _ (by omega)
      have HG : Hid (∀ i n, i < (cutS s).length → hnG a b ((cutS s).drop i) n = if okT a b (sAt (cutS s) i) then hnG a b ((cutS s).drop (i + 1)) (hnN a b (sAt (cutS s) i) n) else none) := fun i n h => hnG_at h n
      have HGE : Hid (∀ n, hnG a b ((cutS s).drop (cutS s).length) n = some n) := fun n => hnG_end n
      have HGZ : Hid (hnG a b (cutS s) 0 = hnG a b ((cutS s).drop 0) 0) := rfl
      have HNL : Hid (∀ (t : ByteArray) (n i : Nat), okT a b t = true → n < (a.size * b.size) ^ i → hnN a b t n < (a.size * b.size) ^ (i + 1) ∧ (xA a t).toNat * b.size + (xB b t).toNat < a.size * b.size) := fun t n i h1 h2 => hnN_lt h1 h2
      have HNE : Hid (∀ (t : ByteArray) (n : Nat), hnN a b t n = n * (a.size * b.size) + ((xA a t).toNat * b.size + (xB b t).toNat)) := fun _ _ => rfl
      have HXB : Hid (∀ t, xA a t < a.size ∧ xB b t < b.size) := fun t => ⟨xA_lt a t, xB_lt b t⟩
      cases hp : pwB (a.size * b.size) (cutS s).length
      · have HR := Lib.hid (hnO_p hp)
        rw [hp] at HL
        clear hp hbi
        generalize a.size * b.size = Bn at *
        go_wp2_with fail
        refine HL.out.mono ?_
        rintro e w3 ⟨r, rfl, _, hd⟩
        go_wp2_with fail
        go_ret2
        exact ⟨hn_none HR.out, hb.trans (hd.below.mono hb.size)⟩
      · have HR := Lib.hid (hnO_y HV.out hk8 hp)
        rw [hp] at HL
        have HPW : Hid ((a.size * b.size) ^ (cutS s).length ≤ 1000000000000000) := by unfold pwB at hp; have h9 := of_decide_eq_true hp; exact h9
        clear hp hbi
        generalize hBn : a.size * b.size = Bn at *
        have HBn := Lib.hid hBn
        clear hBn
        go_wp2_with fail
        refine HL.out.mono ?_
        rintro e w3 ⟨r, rfl, _, hd⟩
        have hb1 := hd.below
        replace hx := hx.later hb1
        replace hX := hX.later hb1
        replace hb := hb.trans (hb1.mono hb.size)
        clear hb1
        clear c0 c1 HL
        go_wp2_with fail
        go_loopw [11, 12] (fun nv iv wr => ∃ i n : Nat, i ≤ (cutS s).length ∧ iv = .int .i64 i ∧ nv = .int .i64 n ∧ n ≤ 1000000000000000 ∧ Hid (n < Bn ^ i) ∧ Hid (hnG a b ((cutS s).drop i) n = hnO a b s) ∧ SX w.heap.size a b wr ∧ RS wr (.slice pa (cutS s).length pc) (cutS s) ∧ Below w.heap.size w wr) (fun _ iv _ => (cutS s).length - (intOf iv).toNat)
        case atStart => exact ⟨0, 0, Nat.zero_le _, rfl, rfl, by omega, Nat.one_pos, (by unfold Hid; rw [HR.out, ← HGZ.out]), hX, hx, hb⟩
        case round =>
          clear hX hx hb hd
          obtain ⟨i, n, hi, rfl, rfl, hn, HN, HH, hX, hx, hb⟩ := hrel
          have c0 := hX.c0
          have c1 := hX.c1
          by_cases hlt : i < (cutS s).length
          · obtain ⟨g, off, rfl, hg, hc⟩ := hx.at i hlt
            have HS := Lib.hid (HG.out i n hlt)
            have HNT := Lib.hid (HNL.out (sAt (cutS s) i) n i)
            have HNQ := Lib.hid (HNE.out (sAt (cutS s) i) n)
            have HXT := Lib.hid (HXB.out (sAt (cutS s) i))
            generalize hT : sAt (cutS s) i = T at *
            clear hT
            have f0 : (0 : Int) ≤ (i : Int) := by omega
            have f1 : (i : Int) < ((cutS s).length : Int) := by omega
            by_cases hz : T.size = 2
            · obtain ⟨p, q, rfl⟩ := size2 hz
              have hi0 : ∀ h, (⟨#[p, q]⟩ : ByteArray)[0]'h = p := fun _ => rfl
              have hi1 : ∀ h, (⟨#[p, q]⟩ : ByteArray)[1]'h = q := fun _ => rfl
              have hz2 : (⟨#[p, q]⟩ : ByteArray).size = 2 := rfl
              obtain ⟨x, hxe⟩ : ∃ x, x = xA a ⟨#[p, q]⟩ := ⟨_, rfl⟩
              obtain ⟨y, hye⟩ : ∃ y, y = xB b ⟨#[p, q]⟩ := ⟨_, rfl⟩
              have HIA : Hid (∀ wx, Calls Tryd.prog 32 #[.string a, .int .u8 (p.toNat : Int)] wx fun e w' => e = .returned (.int .i64 x) ∧ wx = w') := fun wx => by
                rw [hxe]; exact l07Index_any a (p.toNat : Int) wx (by omega)
              have HIB : Hid (∀ wx, Calls Tryd.prog 32 #[.string b, .int .u8 (q.toNat : Int)] wx fun e w' => e = .returned (.int .i64 y) ∧ wx = w') := fun wx => by
                rw [hye]; exact l07Index_any b (q.toNat : Int) wx (by omega)
              have HOK : Hid (okT a b ⟨#[p, q]⟩ = (decide (0 ≤ x) && decide (0 ≤ y))) := by unfold Hid okT; rw [← hxe, ← hye]; rfl
              rw [← hxe, ← hye] at HNT HNQ HXT
              clear hz hxe hye
              have hxa := HXT.out.1
              have hyb := HXT.out.2
              by_cases hx0 : 0 ≤ x
              · have g1 : decide (x < 0) = false := by simp; omega
                by_cases hy0 : 0 ≤ y
                · have g2 : decide (y < 0) = false := by simp; omega
                  have HOY : Hid (okT a b ⟨#[p, q]⟩ = true) := by unfold Hid; rw [HOK.out, decide_eq_true hx0, decide_eq_true hy0]; rfl
                  have HN1 := Lib.hid (HNT.out HOY.out HN.out)
                  have HH2 : Hid (hnG a b ((cutS s).drop (i + 1)) (hnN a b ⟨#[p, q]⟩ n) = hnO a b s) := by unfold Hid; rw [← HH.out, HS.out, HOY.out]; rfl
                  obtain ⟨X', rfl⟩ : ∃ X' : Nat, x = (X' : Int) := ⟨x.toNat, by omega⟩
                  obtain ⟨Y', rfl⟩ : ∃ Y' : Nat, y = (Y' : Int) := ⟨y.toNat, by omega⟩
                  have HN2 := Lib.hid HN1.out.2
                  have HN3 := Lib.hid HN1.out.1
                  rw [HNQ.out] at HN3 HH2
                  rw [show ((X' : Int)).toNat = X' by omega, show ((Y' : Int)).toNat = Y' by omega] at HN2 HN3 HH2
                  have HLE : Hid (n * Bn + (X' * b.size + Y') ≤ 1000000000000000) := by
                    have h7 := Nat.pow_le_pow_right (show 0 < Bn by omega) (show i + 1 ≤ (cutS s).length by omega)
                    have h8 := HPW.out
                    have h9 := HN3.out
                    exact Nat.le_of_lt (Nat.lt_of_lt_of_le h9 (Nat.le_trans h7 h8))
                  obtain ⟨P, hP⟩ : ∃ P : Nat, P = n * Bn := ⟨_, rfl⟩
                  obtain ⟨Q, hQ⟩ : ∃ Q : Nat, Q = X' * b.size := ⟨_, rfl⟩
                  have e1 : (n : Int) * (Bn : Int) = (P : Int) := by rw [hP]; push_cast; rfl
                  have e2 : (Bn : Int) * (n : Int) = (P : Int) := by rw [hP]; push_cast; exact Int.mul_comm _ _
                  have e3 : (X' : Int) * (b.size : Int) = (Q : Int) := by rw [hQ]; push_cast; rfl
                  rw [← hP, ← hQ] at HLE HN3 HH2
                  have hle := HLE.out
                  have g3 : P ≤ 1000000000000000 := by omega
                  have g4 : Q ≤ 1000000000000000 := by omega
                  clear hP hQ HOK HNT HNQ HXT HN1 HN2 HN HH HS hx0 hy0
                  go_wp2_with fail
                  go_quiet ((go_at_call 32; exact quiet_same (HIA.out _)))
                  have hX2 := hX.later (below_drewN (Below.refl _ _) nq)
                  have hx2 := hx.later (below_drewN (Below.refl _ _) nq)
                  have hb2 := below_drewN hb nq
                  replace hc := ((below_drewN (Below.refl _ _) nq).cell (p := ⟨g, off + i, none⟩) hg).trans hc
                  generalize wr.drewN nq = wq at *
                  clear c0 c1 hX hx hb
                  have c0 := hX2.c0
                  have c1 := hX2.c1
                  go_wp2_with fail
                  go_quiet ((go_at_call 32; exact quiet_same (HIB.out _)))
                  go_wp2_with fail
                  go_roundw
                  case rel => exact ⟨i + 1, P + (Q + Y'), by omega, by go_num, by go_num, hle, HN3, HH2, hX2.later (below_drewN (Below.refl _ _) _), hx2.later (below_drewN (Below.refl _ _) _), below_drewN hb2 _⟩
                  case measure => first | (simp [intOf]; done) | (simp [intOf]; omega)
                · have g2 : decide (y < 0) = true := by simp; omega
                  have HR2 : Hid (hnO a b s = none) := by unfold Hid; rw [← HH.out, HS.out, HOK.out, decide_eq_false hy0]; simp
                  clear HOK HNT HNQ HXT HN HH HS hx0 hy0
                  go_wp2_with fail
                  go_quiet ((go_at_call 32; exact quiet_same (HIA.out _)))
                  have hX2 := hX.later (below_drewN (Below.refl _ _) nq)
                  have hx2 := hx.later (below_drewN (Below.refl _ _) nq)
                  have hb2 := below_drewN hb nq
                  replace hc := ((below_drewN (Below.refl _ _) nq).cell (p := ⟨g, off + i, none⟩) hg).trans hc
                  generalize wr.drewN nq = wq at *
                  clear c0 c1 hX hx hb
                  have c0 := hX2.c0
                  have c1 := hX2.c1
                  go_wp2_with fail
                  go_quiet ((go_at_call 32; exact quiet_same (HIB.out _)))
                  go_wp2_with fail
                  go_ret2
                  exact ⟨hn_none HR2.out, below_drewN hb2 _⟩
              · have g1 : decide (x < 0) = true := by simp; omega
                have HR2 : Hid (hnO a b s = none) := by unfold Hid; rw [← HH.out, HS.out, HOK.out, decide_eq_false hx0]; simp
                clear HOK HNT HNQ HXT HN HH HS hx0
                go_wp2_with fail
                go_quiet ((go_at_call 32; exact quiet_same (HIA.out _)))
                have hX2 := hX.later (below_drewN (Below.refl _ _) nq)
                have hx2 := hx.later (below_drewN (Below.refl _ _) nq)
                have hb2 := below_drewN hb nq
                replace hc := ((below_drewN (Below.refl _ _) nq).cell (p := ⟨g, off + i, none⟩) hg).trans hc
                generalize wr.drewN nq = wq at *
                clear c0 c1 hX hx hb
                have c0 := hX2.c0
                have c1 := hX2.c1
                go_wp2_with fail
                go_quiet ((go_at_call 32; exact quiet_same (HIB.out _)))
                go_wp2_with fail
                go_ret2
                exact ⟨hn_none HR2.out, below_drewN hb2 _⟩
            · have HR2 : Hid (hnO a b s = none) := by
                unfold Hid
                rw [← HH.out, HS.out]
                unfold okT
                rw [decide_eq_false hz]
                rfl
              have b1 : ((T.size : Int) != 2) = true := by simp; omega
              clear hz HS HNT HNQ HXT
              go_wp2_with fail
              go_ret2
              exact ⟨hn_none HR2.out, hb⟩
          · obtain rfl : i = (cutS s).length := by omega
            have HR2 : Hid (hnO a b s = some n) := HH.out.symm.trans (HGE.out n)
            go_wp2_with fail
            go_ret2
            exact ⟨hn_some HR2.out, hb⟩
    · have HR := Lib.hid (hnO_k (a := a) (b := b) hk8)
      go_wp2_with fail
      go_ret2
      exact ⟨hn_none HR.out, hb⟩
set_option maxRecDepth 100000 in
set_option maxHeartbeats 4000000 in
theorem implHn_any (a b s : ByteArray) (w : World) (hab : a.size + b.size ≤ 1048576) (hs : s.size ≤ 1048576) (hM : ∃ m, w.cell? ⟨0, 0, none⟩ = some (.int .i64 m)) :
    Calls Tryd.prog 18 #[.agg #[.string a, .string b], .string s] w (HnPost a b s w) := by
  have HM : Hid (∀ wx, Below w.heap.size w wx → ∃ m, wx.cell? ⟨0, 0, none⟩ = some (.int .i64 m)) := fun wx h => by
    obtain ⟨m, hm⟩ := hM
    exact ⟨m, (h.cell (p := ⟨0, 0, none⟩) (World.block_lt_of_cell? w _ hm)).trans hm⟩
  clear hM
  have hb : Below w.heap.size w (w.alloc (.cells #[.string a, .string b] 37)) := (Below.refl _ _).alloc (Nat.le_refl _) _
  have hX : SX w.heap.size a b (w.alloc (.cells #[.string a, .string b] 37)) := ⟨World.cell?_alloc_at _ _ _ _ rfl, World.cell?_alloc_at _ _ _ _ rfl⟩
  have c0 := hX.c0
  have c1 := hX.c1
  have HC : Hid (∀ v, vsB a b = v → ∀ wx, Calls Tryd.prog 20 #[.agg #[.string a, .string b]] wx fun e w' => e = .returned (.bool v) ∧ Below wx.heap.size wx w') := fun v hv wx => by
    have := implSpeech_any a b wx hab
    rw [hv] at this; exact this
  cases hv : vsB a b
  · have HR := Lib.hid (hnO_v (s := s) hv)
    have HC2 := Lib.hid (HC.out _ hv)
    clear hv HC
    go_enter Tryd.func18, Tryd.ntmps18
    go_wp2_with fail
    refine (HC2.out _).mono ?_
    rintro e w1 ⟨rfl, hb1⟩
    go_wp2_with fail
    go_ret2
    exact ⟨hn_none HR.out, hb.trans (hb1.mono hb.size)⟩
  · have HV := Lib.hid hv
    have HC2 := Lib.hid (HC.out _ hv)
    have hB := vsB_base hv
    have hk1 : (cutS s).length ≤ 1048577 ∧ 1 ≤ (cutS s).length := by have := cutS_sum s; have := cutS_len s; omega
    have HBS : Hid (∀ wx, SX w.heap.size a b wx → Calls Tryd.prog 36 #[.pointer (some ⟨w.heap.size, 0, none⟩)] wx fun e w' => e = .returned (.int .i64 ((a.size * b.size : Nat) : Int)) ∧ DrS wx w') := fun wx h => base_any w.heap.size a b wx h HV.out
    obtain ⟨⟨z1, z2⟩, z3, z4⟩ := vsB_sz hv
    clear hv HC
    go_enter Tryd.func18, Tryd.ntmps18
    go_wp2_with fail
    refine (HC2.out _).mono ?_
    rintro e w1 ⟨rfl, hb1⟩
    clear HC2 c0 c1
    replace hX := hX.later hb1
    replace hb := hb.trans (hb1.mono hb.size)
    clear hb1
    by_cases hlong : 24 < s.size
    · have HR := Lib.hid (hnO_long (a := a) (b := b) hlong)
      go_wp2_with fail
      go_ret2
      exact ⟨hn_none HR.out, hb⟩
    · obtain ⟨m, hm⟩ := HM.out _ hb
      go_wp2_with fail
      refine (splitD_any s m _ hs hm).mono ?_
      rintro e w2 ⟨v2, rfl, hx, hb1⟩
      clear hm
      replace hX := hX.later hb1
      replace hb := hb.trans (hb1.mono hb.size)
      clear hb1
      obtain ⟨pa, pc, rfl⟩ := hx.slice
      have HL := Lib.hid (power_any w.heap.size a b ((cutS s).length : Nat) w2 hX HV.out)
      rw [Int.toNat_natCast] at HL
      cases hp : pkB (a.size * b.size) ((cutS s).length : Nat)
      · have HR : Hid (hnO a b s = none) := by
          unfold pkB at hp
          rw [Int.toNat_natCast] at hp
          by_cases h8 : (cutS s).length ≤ 8
          · refine hnO_p ?_
            rw [show inB ((cutS s).length : Nat) 1 8 = true from inB_iff.2 (by omega), Bool.true_and] at hp
            exact hp
          · exact hnO_k h8
        rw [hp] at HL
        clear hp
        go_wp2_with fail
        refine HL.out.mono ?_
        rintro e w3 ⟨r, rfl, _, hd⟩
        go_wp2_with fail
        go_ret2
        exact ⟨hn_none HR.out, hb.trans (hd.below.mono hb.size)⟩
      · have hpk : (cutS s).length ≤ 8 ∧ pwB (a.size * b.size) (cutS s).length = true := by
          unfold pkB at hp
          rw [Int.toNat_natCast, Bool.and_eq_true] at hp
          have := inB_iff.1 hp.1
          exact ⟨by omega, hp.2⟩
        have HR := Lib.hid (hnO_y HV.out hpk.1 hpk.2)
        rw [hp] at HL
        have HPW : Hid ((a.size * b.size) ^ (cutS s).length ≤ 1000000000000000) := by have h9 := hpk.2; unfold pwB at h9; have h10 := of_decide_eq_true h9; exact h10
        have hk8 := hpk.1
        have HG : Hid (∀ i n, i < (cutS s).length → hnG a b ((cutS s).drop i) n = if okT a b (sAt (cutS s) i) then hnG a b ((cutS s).drop (i + 1)) (hnN a b (sAt (cutS s) i) n) else none) := fun i n h => hnG_at h n
        have HGE : Hid (∀ n, hnG a b ((cutS s).drop (cutS s).length) n = some n) := fun n => hnG_end n
        have HGZ : Hid (hnG a b (cutS s) 0 = hnG a b ((cutS s).drop 0) 0) := rfl
        have HNL : Hid (∀ (t : ByteArray) (n i : Nat), okT a b t = true → n < (a.size * b.size) ^ i → hnN a b t n < (a.size * b.size) ^ (i + 1) ∧ (xA a t).toNat * b.size + (xB b t).toNat < a.size * b.size) := fun t n i h1 h2 => hnN_lt h1 h2
        have HNE : Hid (∀ (t : ByteArray) (n : Nat), hnN a b t n = n * (a.size * b.size) + ((xA a t).toNat * b.size + (xB b t).toNat)) := fun _ _ => rfl
        have HXB : Hid (∀ t, xA a t < a.size ∧ xB b t < b.size) := fun t => ⟨xA_lt a t, xB_lt b t⟩
        clear hp hpk
        generalize hBn : a.size * b.size = Bn at *
        have HBn := Lib.hid hBn
        clear hBn
        go_wp2_with fail
        refine HL.out.mono ?_
        rintro e w3 ⟨r, rfl, _, hd⟩
        have hb1 := hd.below
        replace hx := hx.later hb1
        replace hX := hX.later hb1
        replace hb := hb.trans (hb1.mono hb.size)
        clear hb1
        clear HL
        go_wp2_with fail
        go_loopw [9, 34] (fun nv iv wr => ∃ i n : Nat, i ≤ (cutS s).length ∧ iv = .int .i64 i ∧ nv = .int .i64 n ∧ n ≤ 1000000000000000 ∧ Hid (n < Bn ^ i) ∧ Hid (hnG a b ((cutS s).drop i) n = hnO a b s) ∧ SX w.heap.size a b wr ∧ RS wr (.slice pa (cutS s).length pc) (cutS s) ∧ Below w.heap.size w wr) (fun _ iv _ => (cutS s).length - (intOf iv).toNat)
        case atStart => exact ⟨0, 0, Nat.zero_le _, rfl, rfl, by omega, Nat.one_pos, (by unfold Hid; rw [HR.out, ← HGZ.out]), hX, hx, hb⟩
        case round =>
          clear hX hx hb hd
          obtain ⟨i, n, hi, rfl, rfl, hn, HN, HH, hX, hx, hb⟩ := hrel
          have c0 := hX.c0
          have c1 := hX.c1
          by_cases hlt : i < (cutS s).length
          · obtain ⟨g, off, rfl, hg, hc⟩ := hx.at i hlt
            have HS := Lib.hid (HG.out i n hlt)
            have HNT := Lib.hid (HNL.out (sAt (cutS s) i) n i)
            have HNQ := Lib.hid (HNE.out (sAt (cutS s) i) n)
            have HXT := Lib.hid (HXB.out (sAt (cutS s) i))
            generalize hT : sAt (cutS s) i = T at *
            clear hT
            have f0 : (0 : Int) ≤ (i : Int) := by omega
            have f1 : (i : Int) < ((cutS s).length : Int) := by omega
            by_cases hz : T.size = 2
            · obtain ⟨p, q, rfl⟩ := size2 hz
              have hi0 : ∀ h, (⟨#[p, q]⟩ : ByteArray)[0]'h = p := fun _ => rfl
              have hi1 : ∀ h, (⟨#[p, q]⟩ : ByteArray)[1]'h = q := fun _ => rfl
              have hz2 : (⟨#[p, q]⟩ : ByteArray).size = 2 := rfl
              obtain ⟨x, hxe⟩ : ∃ x, x = xA a ⟨#[p, q]⟩ := ⟨_, rfl⟩
              obtain ⟨y, hye⟩ : ∃ y, y = xB b ⟨#[p, q]⟩ := ⟨_, rfl⟩
              have HIA : Hid (∀ wx, Calls Tryd.prog 35 #[.string a, .int .u8 (p.toNat : Int)] wx fun e w' => e = .returned (.int .i64 x) ∧ wx = w') := fun wx => by
                rw [hxe]; exact indexByte_any a (p.toNat : Int) wx (by have := p.toNat_lt; omega)
              have HIB : Hid (∀ wx, Calls Tryd.prog 35 #[.string b, .int .u8 (q.toNat : Int)] wx fun e w' => e = .returned (.int .i64 y) ∧ wx = w') := fun wx => by
                rw [hye]; exact indexByte_any b (q.toNat : Int) wx (by have := q.toNat_lt; omega)
              have HOK : Hid (okT a b ⟨#[p, q]⟩ = (decide (0 ≤ x) && decide (0 ≤ y))) := by unfold Hid okT; rw [← hxe, ← hye]; rfl
              rw [← hxe, ← hye] at HNT HNQ HXT
              clear hz hxe hye
              have hxa := HXT.out.1
              have hyb := HXT.out.2
              by_cases hx0 : 0 ≤ x
              · have g1 : decide (x < 0) = false := by simp; omega
                by_cases hy0 : 0 ≤ y
                · have g2 : decide (y < 0) = false := by simp; omega
                  have HOY : Hid (okT a b ⟨#[p, q]⟩ = true) := by unfold Hid; rw [HOK.out, decide_eq_true hx0, decide_eq_true hy0]; rfl
                  have HN1 := Lib.hid (HNT.out HOY.out HN.out)
                  have HH2 : Hid (hnG a b ((cutS s).drop (i + 1)) (hnN a b ⟨#[p, q]⟩ n) = hnO a b s) := by unfold Hid; rw [← HH.out, HS.out, HOY.out]; rfl
                  obtain ⟨X', rfl⟩ : ∃ X' : Nat, x = (X' : Int) := ⟨x.toNat, by omega⟩
                  obtain ⟨Y', rfl⟩ : ∃ Y' : Nat, y = (Y' : Int) := ⟨y.toNat, by omega⟩
                  have HN2 := Lib.hid HN1.out.2
                  have HN3 := Lib.hid HN1.out.1
                  rw [HNQ.out] at HN3 HH2
                  rw [show ((X' : Int)).toNat = X' by omega, show ((Y' : Int)).toNat = Y' by omega] at HN2 HN3 HH2
                  have HLE : Hid (n * Bn + (X' * b.size + Y') ≤ 1000000000000000) := by
                    have h7 := Nat.pow_le_pow_right (show 0 < Bn by omega) (show i + 1 ≤ (cutS s).length by omega)
                    have h8 := HPW.out
                    have h9 := HN3.out
                    exact Nat.le_of_lt (Nat.lt_of_lt_of_le h9 (Nat.le_trans h7 h8))
                  obtain ⟨P, hP⟩ : ∃ P : Nat, P = n * Bn := ⟨_, rfl⟩
                  obtain ⟨Q, hQ⟩ : ∃ Q : Nat, Q = X' * b.size := ⟨_, rfl⟩
                  have e1 : (n : Int) * (Bn : Int) = (P : Int) := by rw [hP]; push_cast; rfl
                  have e2 : (Bn : Int) * (n : Int) = (P : Int) := by rw [hP]; push_cast; exact Int.mul_comm _ _
                  have e3 : (X' : Int) * (b.size : Int) = (Q : Int) := by rw [hQ]; push_cast; rfl
                  rw [← hP, ← hQ] at HLE HN3 HH2
                  have hle := HLE.out
                  have g3 : P ≤ 1000000000000000 := by omega
                  have g4 : Q ≤ 1000000000000000 := by omega
                  clear hP hQ HOK HNT HNQ HXT HN1 HN2 HN HH HS hx0 hy0
                  go_wp2_with fail
                  go_quiet (first | (go_at_call 35; exact quiet_same (HIA.out _)) | (go_at_call 35; exact quiet_same (HIB.out _)))
                  have hX2 := hX.later (below_drewN (Below.refl _ _) nq)
                  have hx2 := hx.later (below_drewN (Below.refl _ _) nq)
                  have hb2 := below_drewN hb nq
                  clear hc
                  generalize wr.drewN nq = wq at *
                  clear c0 c1 hX hx hb
                  have c0 := hX2.c0
                  have c1 := hX2.c1
                  go_wp2_with fail
                  go_quiet ((go_at_call 36; exact Calls.quiet_of ((HBS.out _ (hX2.later (below_drewN (Below.refl _ _) _))).mono fun _ _ h => ⟨h.1, h.2⟩)))
                  go_wp2_with fail
                  go_roundw
                  case rel => exact ⟨i + 1, P + (Q + Y'), by omega, by go_num, by go_num, hle, HN3, HH2, hX2.later (below_drewN (Below.refl _ _) _), hx2.later (below_drewN (Below.refl _ _) _), below_drewN hb2 _⟩
                  case measure => first | (simp [intOf]; done) | (simp [intOf]; omega)
                · have g2 : decide (y < 0) = true := by simp; omega
                  have HR2 : Hid (hnO a b s = none) := by unfold Hid; rw [← HH.out, HS.out, HOK.out, decide_eq_false hy0]; simp
                  clear HOK HNT HNQ HXT HN HH HS hx0 hy0
                  go_wp2_with fail
                  go_quiet (first | (go_at_call 35; exact quiet_same (HIA.out _)) | (go_at_call 35; exact quiet_same (HIB.out _)))
                  have hX2 := hX.later (below_drewN (Below.refl _ _) nq)
                  have hx2 := hx.later (below_drewN (Below.refl _ _) nq)
                  have hb2 := below_drewN hb nq
                  clear hc
                  generalize wr.drewN nq = wq at *
                  clear c0 c1 hX hx hb
                  have c0 := hX2.c0
                  have c1 := hX2.c1
                  go_wp2_with fail
                  go_ret2
                  exact ⟨hn_none HR2.out, hb2⟩
              · have g1 : decide (x < 0) = true := by simp; omega
                have HR2 : Hid (hnO a b s = none) := by unfold Hid; rw [← HH.out, HS.out, HOK.out, decide_eq_false hx0]; simp
                clear HOK HNT HNQ HXT HN HH HS hx0
                go_wp2_with fail
                go_quiet (first | (go_at_call 35; exact quiet_same (HIA.out _)) | (go_at_call 35; exact quiet_same (HIB.out _)))
                have hX2 := hX.later (below_drewN (Below.refl _ _) nq)
                have hx2 := hx.later (below_drewN (Below.refl _ _) nq)
                have hb2 := below_drewN hb nq
                clear hc
                generalize wr.drewN nq = wq at *
                clear c0 c1 hX hx hb
                have c0 := hX2.c0
                have c1 := hX2.c1
                go_wp2_with fail
                go_ret2
                exact ⟨hn_none HR2.out, hb2⟩
            · have HR2 : Hid (hnO a b s = none) := by
                unfold Hid
                rw [← HH.out, HS.out]
                unfold okT
                rw [decide_eq_false hz]
                rfl
              have b1 : ((T.size : Int) != 2) = true := by simp; omega
              clear hz HS HNT HNQ HXT
              go_wp2_with fail
              go_ret2
              exact ⟨hn_none HR2.out, hb⟩
          · obtain rfl : i = (cutS s).length := by omega
            have HR2 : Hid (hnO a b s = some n) := HH.out.symm.trans (HGE.out n)
            go_wp2_with fail
            go_ret2
            exact ⟨hn_some HR2.out, hb⟩
end Go.Proofs.YtdlagajnefkklaaDoor
