/- FnSpoken: the law. -/
import Derived.Test.YtdlagajnefkklaaDoorSpoP
import Derived.Test.YtdlagajnefkklaaDoorB10
import Derived.Test.YtdlagajnefkklaaDoorHn
import Derived.Test.YtdlagajnefkklaaDoorFrameS
import Derived.Deep.RegionHeld3
namespace Go.Proofs.YtdlagajnefkklaaDoor
open Go.RowKit



set_option maxRecDepth 100000 in
set_option maxHeartbeats 4000000 in
theorem lawSpo_any (v0 v1 : Value) (xs ys : List Int) (w : World) (hx : RK .u8 w v0 xs ∧ (∀ x ∈ xs, (Lit.int .u8 x).wf = true) ∧ xs.length ≤ maxLen)
    (hy : RK .u8 w v1 ys ∧ (∀ x ∈ ys, (Lit.int .u8 x).wf = true) ∧ ys.length ≤ maxLen) (hM : ∃ m, w.cell? ⟨0, 0, none⟩ = some (.int .i64 m)) :
    Calls Tryd.prog 6 #[v0, v1] w fun x w' => x = .returned (.bool true) ∧ Below w.heap.size w w' := by
  obtain ⟨hx, hxw, _⟩ := hx
  obtain ⟨hy, hyw, _⟩ := hy
  obtain ⟨a, c, rfl⟩ := hx.slice
  obtain ⟨b, d, rfl⟩ := hy.slice
  cases hs : longB xs.length ys.length
  case true =>
    have HS := Lib.hid hs
    clear hx hy hs
    go_enter Tryd.func6, Tryd.ntmps6
    go_wp2_with fail
    refine (b10Long_any _ _ _ _ _ _ _).mono ?_
    rintro e w' ⟨rfl, rfl⟩
    rw [HS.out]
    go_wp2_with fail
    go_ret
    exact ⟨rfl, Below.refl _ _⟩
  obtain ⟨hxm, hym⟩ := longB_no hs
  have HS := Lib.hid hs
  clear hs
  have HA : Hid (∀ wr (k n : Int), Below w.heap.size w wr → 0 ≤ k ∧ k < 1000000 → 1 ≤ n ∧ n < 1000000 → Calls Tryd.prog 12 #[.slice a xs.length c, .int .i64 k, .int .i64 n] wr fun e w' => ∃ r : Nat, e = .returned (.int .i64 r) ∧ r < n ∧ Drw wr w') := fun wr k n h hk hn => b10At_any _ xs k n wr (hx.later h) hxw hxm hk hn
  have HB : Hid (∀ wr (k n : Int), Below w.heap.size w wr → 0 ≤ k ∧ k < 1000000 → 1 ≤ n ∧ n < 1000000 → Calls Tryd.prog 12 #[.slice b ys.length d, .int .i64 k, .int .i64 n] wr fun e w' => ∃ r : Nat, e = .returned (.int .i64 r) ∧ r < n ∧ Drw wr w') := fun wr k n h hk hn => b10At_any _ ys k n wr (hy.later h) hyw hym hk hn
  have HM : Hid (∀ wx, Below w.heap.size w wx → ∃ m, wx.cell? ⟨0, 0, none⟩ = some (.int .i64 m)) := fun wx h => by
    obtain ⟨m, hm⟩ := hM
    exact ⟨m, (h.cell (p := ⟨0, 0, none⟩) (World.block_lt_of_cell? w _ hm)).trans hm⟩
  clear hx hy hxw hyw hM
  have hb := Below.refl w.heap.size w
  go_enter Tryd.func6, Tryd.ntmps6
  go_wp2_with fail
  refine (b10Long_any _ _ _ _ _ _ _).mono ?_
  rintro e w' ⟨rfl, rfl⟩
  rw [HS.out]
  go_wp2_with fail
  refine wp_region_held_drew (S := fun _ => True) (by kernel_rfl) trivial (fun hHeld => ?_)
  clear hHeld
  refine wpAnyH_take (i := 0) (oi := ⟨some 20, _, _, _, _, _⟩) (v := ?vs0) rfl (by kernel_rfl) (by kernel_rfl) (by kernel_rfl) (fun _ _ _ h => h) (Or.inl ⟨by rfl, ?ys0⟩) trivial ?rs0
  case ys0 => (intro w hSw; (try dsimp only at hSw); go_simp; all_goals (with_reducible rfl))
  try simp only [Act.put, List.setIfInBounds_toArray, List.set_cons_zero, List.set_cons_succ]
  refine wpAnyH_take (i := 3) (oi := ⟨some 23, _, _, _, _, _⟩) (v := ?vs3) rfl (by kernel_rfl) (by kernel_rfl) (by kernel_rfl) (fun _ _ _ h => h) (Or.inl ⟨by rfl, ?ys3⟩) trivial ?rs3
  case ys3 => (intro w hSw; (try dsimp only at hSw); go_simp; all_goals (with_reducible rfl))
  try simp only [Act.put, List.setIfInBounds_toArray, List.set_cons_zero, List.set_cons_succ]
  refine wpAnyH_ready (rs := [1, 7]) (by kernel_rfl) (by simp) ?_
  refine AllReadyH.cons rfl (fun K hK => ?cq) (AllReadyH.cons rfl (fun K hK => ?aq) AllReadyH.nil)
  case cq =>
    go_simp
    go_at_call 12
    refine (HA.out _ 0 12 hb.drew (by omega) (by omega)).mono ?_
    rintro e w1 ⟨r1, rfl, hr1, hd⟩
    have hb1 := hb.drew.trans (hd.below.mono (Nat.le_refl _))
    clear hd
    have h12 : (r1 : Int) < 12 := hr1
    have h16 : (r1 : Int) ≤ 16 := by omega
    have h0 : 0 ≤ (r1 : Int) := by omega
    go_wp2_with fail
    refine hK.out _ _ trivial (fun hHeld => ?_)
    clear hK K hHeld
    try simp only [Act.put, List.setIfInBounds_toArray, List.set_cons_zero, List.set_cons_succ]
    refine wpAnyH_take (i := 2) (oi := ⟨some 22, _, _, _, _, _⟩) (v := ?vt2) rfl (by kernel_rfl) (by kernel_rfl) (by kernel_rfl) (fun _ _ _ h => h) (Or.inl ⟨by rfl, ?yt2⟩) trivial ?rt2
    case yt2 => (intro w hSw; (try dsimp only at hSw); go_simp; all_goals (with_reducible rfl))
    try simp only [Act.put, List.setIfInBounds_toArray, List.set_cons_zero, List.set_cons_succ]
    refine wpAnyH_ready (rs := [4, 7]) (by kernel_rfl) (by simp) ?_
    refine AllReadyH.cons rfl (fun K hK => ?cu) (AllReadyH.cons rfl (fun K hK => ?au) AllReadyH.nil)
    case cu =>
      go_simp
      go_at_call 12
      refine (HA.out _ 1 4 hb1 (by omega) (by omega)).mono ?_
      rintro e w2 ⟨r2, rfl, hr2, hd⟩
      have hb2 := hb1.trans (hd.below.mono hb1.size)
      clear hd
      have h4 : (r2 : Int) < 4 := hr2
      have h44 : (r2 : Int) ≤ 4 := by omega
      have h20 : 0 ≤ (r2 : Int) := by omega
      go_wp2_with fail
      refine hK.out _ _ trivial (fun hHeld => ?_)
      clear hK K hHeld
      try simp only [Act.put, List.setIfInBounds_toArray, List.set_cons_zero, List.set_cons_succ]
      refine wpAnyH_take (i := 5) (oi := ⟨some 25, _, _, _, _, _⟩) (v := ?vu5) rfl (by kernel_rfl) (by kernel_rfl) (by kernel_rfl) (fun _ _ _ h => h) (Or.inl ⟨by rfl, ?yu5⟩) trivial ?ru5
      case yu5 => (intro w hSw; (try dsimp only at hSw); go_simp; all_goals (with_reducible rfl))
      try simp only [Act.put, List.setIfInBounds_toArray, List.set_cons_zero, List.set_cons_succ]
      refine wpAnyH_take (i := 6) (oi := ⟨some 26, _, _, _, _, _⟩) (v := ?vu6) rfl (by kernel_rfl) (by kernel_rfl) (by kernel_rfl) (fun _ _ _ h => h) (Or.inl ⟨by rfl, ?yu6⟩) trivial ?ru6
      case yu6 => (intro w hSw; (try dsimp only at hSw); go_simp; all_goals (with_reducible rfl))
      try simp only [Act.put, List.setIfInBounds_toArray, List.set_cons_zero, List.set_cons_succ]
      refine wpAnyH_ready (rs := [7]) (by kernel_rfl) (by simp) ?_
      refine AllReadyH.cons rfl (fun K hK => ?_) AllReadyH.nil
      go_simp
      refine hK.out _ _ trivial (fun hHeld => ?_)
      clear hK K hHeld
      try simp only [Act.put, List.setIfInBounds_toArray, List.set_cons_zero, List.set_cons_succ]
      refine wpAnyH_ready (rs := [8]) (by kernel_rfl) (by simp) ?_
      refine AllReadyH.cons rfl (fun K hK => ?_) AllReadyH.nil
      go_simp
      refine hK.out _ _ trivial (fun hHeld => ?_)
      clear hK K hHeld
      try simp only [Act.put, List.setIfInBounds_toArray, List.set_cons_zero, List.set_cons_succ]
      refine wpAnyH_done (by kernel_rfl) ?_ _
      obtain ⟨hv, hla, hlb⟩ := spk_ok (show r1 < 12 by omega) (show r2 < 4 by omega)
      obtain ⟨hs1, hs2⟩ := spk_sz (show r1 < 12 by omega) (show r2 < 4 by omega)
      obtain ⟨F, hF⟩ : ∃ F, F = spF.extract r1 16 := ⟨_, rfl⟩
      obtain ⟨G, hG⟩ : ∃ G, G = spG.extract r2 4 := ⟨_, rfl⟩
      rw [← hF] at hv hla hs1
      rw [← hG] at hv hlb hs2
      have hFl : (⟨#[98, 100, 102, 103, 104, 106, 107, 108, 109, 110, 112, 114, 115, 116, 118, 122]⟩ : ByteArray).extract r1 16 = F := hF.symm
      have hGl : (⟨#[97, 105, 111, 117]⟩ : ByteArray).extract r2 4 = G := hG.symm
      rw [hFl, hGl]
      have hF16 : 5 ≤ F.size ∧ F.size ≤ 16 := by omega
      have hG4 : 1 ≤ G.size ∧ G.size ≤ 4 := by omega
      clear hF hG hFl hGl hs1 hs2
      have hb3 : Below w.heap.size w (w2.alloc (.cells #[.string F, .string G] 37)) := hb2.alloc hb2.size _
      have hX : SX w2.heap.size F G (w2.alloc (.cells #[.string F, .string G] 37)) := ⟨World.cell?_alloc_at _ _ _ _ rfl, World.cell?_alloc_at _ _ _ _ rfl⟩
      have hXs := hb2.size
      generalize w2.alloc (.cells #[.string F, .string G] 37) = w3 at *
      clear hb hb1 hb2
      have hb := hb3
      clear hb3
      have c0 := hX.c0
      have c1 := hX.c1
      obtain ⟨Bn, hBn⟩ : ∃ Bn : Nat, Bn = F.size * G.size := ⟨_, rfl⟩
      have hB := vsB_base hv
      have hBz : Bn ≤ 64 := by
        rw [hBn]; exact Nat.mul_le_mul (show F.size ≤ 16 by omega) (show G.size ≤ 4 by omega)
      rw [← hBn] at hB
      have hwr : IntKind.i64.wrap ((F.size : Int) * (G.size : Int)) = (Bn : Int) := by
        rw [← Int.natCast_mul, ← hBn]; exact IntWalk.i64_in _ (by omega)
      have HBn := Lib.hid hBn
      have HV := Lib.hid hv
      have HL := Lib.hid (And.intro hla hlb)
      have hFG : F.size + G.size ≤ 1048576 := by omega
      clear hBn hv hla hlb
      go_wp2_with fail
      clear c0 c1 hwr
      refine (HB.out _ 0 4 hb (by omega) (by omega)).mono ?_
      rintro e w4 ⟨r3, rfl, hr3, hd⟩
      replace hX := hX.later hd.below
      replace hb := hb.trans (hd.below.mono hb.size)
      clear hd
      obtain ⟨K, hK⟩ : ∃ K : Nat, K = r3 + 1 := ⟨_, rfl⟩
      have hK2 : (1 : Int) + (r3 : Int) = (K : Int) := by omega
      have hK4 : 1 ≤ K ∧ K ≤ 4 := by omega
      clear hr3 hK
      go_wp2_with fail
      clear hK2
      go_loopw [8, 9] (fun av iv wr => ∃ i p : Nat, i ≤ K ∧ iv = .int .i64 i ∧ av = .int .i64 p ∧ Hid (p = Bn ^ i) ∧ p ≤ 16777216 ∧ wr = w4) (fun _ iv _ => K - (intOf iv).toNat)
      case atStart => exact ⟨0, 1, Nat.zero_le _, rfl, rfl, Lib.hid (Nat.pow_zero Bn).symm, by omega, rfl⟩
      case round =>
        obtain ⟨i, p, hi, rfl, rfl, HP, hp, rfl⟩ := hrel
        by_cases hlt : i < K
        · have hpb : p ≤ 262144 := by
            rw [HP.out]
            exact Nat.le_trans (Nat.pow_le_pow_left hBz i) (Nat.le_trans (Nat.pow_le_pow_right (by decide) (show i ≤ 3 by omega)) (by decide))
          obtain ⟨q, hq⟩ : ∃ q : Nat, q = p * Bn := ⟨_, rfl⟩
          have hqb : q ≤ 16777216 := by rw [hq]; exact Nat.le_trans (Nat.mul_le_mul hpb hBz) (by decide)
          have HQ : Hid (q = Bn ^ (i + 1)) := by unfold Hid; rw [hq, HP.out, Nat.pow_succ]
          have hwr : IntKind.i64.wrap ((p : Int) * (Bn : Int)) = (q : Int) := by
            rw [← Int.natCast_mul, ← hq]; exact IntWalk.i64_in _ (by omega)
          clear hq
          go_wp2_with fail
          clear hwr
          go_roundw
          case rel => exact ⟨i + 1, q, by omega, by go_num, by go_num, HQ, hqb, by first | trivial | rfl⟩
          case measure => first | (simp [intOf]; done) | (simp [intOf]; omega)
        · obtain rfl : i = K := by omega
          have hp1 : 1 ≤ p := by rw [HP.out]; exact Nat.pow_pos (by omega)
          have hp0 : ¬ p = 0 := by omega
          go_wp2_with fail
          refine (HB.out _ 1 256 hb (by omega) (by omega)).mono ?_
          rintro e w5 ⟨r4, rfl, hr4, hd⟩
          replace hX := hX.later hd.below
          replace hb := hb.trans (hd.below.mono hb.size)
          clear hd
          go_wp2_with fail
          refine (HB.out _ 2 256 hb (by omega) (by omega)).mono ?_
          rintro e w6 ⟨r5, rfl, hr5, hd⟩
          replace hX := hX.later hd.below
          replace hb := hb.trans (hd.below.mono hb.size)
          clear hd
          go_wp2_with fail
          refine (HB.out _ 3 256 hb (by omega) (by omega)).mono ?_
          rintro e w7 ⟨r6, rfl, hr6, hd⟩
          replace hX := hX.later hd.below
          replace hb := hb.trans (hd.below.mono hb.size)
          clear hd
          have c0 := hX.c0
          have c1 := hX.c1
          obtain ⟨n, hn, hnp⟩ : ∃ n : Nat, (65536 * (r4 : Int) + 256 * (r5 : Int) + (r6 : Int)) % (p : Int) = (n : Int) ∧ n < p := ⟨(65536 * r4 + 256 * r5 + r6) % p, by simp, Nat.mod_lt _ hp1⟩
          have hBK : Hid (Bn ^ i ≤ 16777216) := by unfold Hid; rw [← HP.out]; exact hp
          obtain ⟨T, hT⟩ : ∃ T, T = spT F G n i := ⟨_, rfl⟩
          have hTs : T.size = 3 * i - 1 := by rw [hT]; exact spT_len HL.out.1 HL.out.2 (by omega) (by rw [← HBn.out]; omega) n i hK4.1
          have hpk : pwB (F.size * G.size) i = true := by
            unfold pwB; rw [← HBn.out, ← HP.out]; exact decide_eq_true (by unfold maxV; omega)
          have hye : hnO F G T = some n := by
            rw [hT]; exact hear_spT HV.out HL.out.1 HL.out.2 n i ⟨hK4.1, by omega⟩ hpk (by rw [← HBn.out, ← HP.out]; exact hnp)
          have hk1 : inB (i : Int) 1 8 = true := by unfold inB; simp; omega
          have hsp : spB F G (n : Int) (i : Int) = true := by
            unfold spB
            rw [HV.out, hk1, Int.toNat_natCast, hpk, ← HBn.out, ← HP.out]
            unfold inB; simp; omega
          have hsn : spB F G (p : Int) (i : Int) = false := by
            unfold spB
            rw [HV.out, hk1, Int.toNat_natCast, hpk, ← HBn.out, ← HP.out]
            unfold inB; simp; omega
          have HS1 : Hid (∀ wx, Calls Tryd.prog 19 #[.agg #[.string F, .string G], .int .i64 n, .int .i64 i] wx fun e w' => e = .returned (.tuple #[.string T, .bool true]) ∧ Below wx.heap.size wx w') := fun wx => by
            have := implSp_any F G n i wx hFG (by omega) (by omega)
            rw [hsp, spS_yes hsp, Int.toNat_natCast, Int.toNat_natCast, ← hT] at this; exact this
          have HS2 : Hid (∀ wx, Calls Tryd.prog 19 #[.agg #[.string F, .string G], .int .i64 p, .int .i64 i] wx fun e w' => e = .returned (.tuple #[.string ByteArray.empty, .bool false]) ∧ Below wx.heap.size wx w') := fun wx => by
            have := implSp_any F G p i wx hFG (by omega) (by omega)
            rw [hsn, spS_no hsn] at this; exact this
          have HH : Hid (∀ wx, Below w.heap.size w wx → Calls Tryd.prog 18 #[.agg #[.string F, .string G], .string T] wx fun e w' => e = .returned (.tuple #[.int .i64 n, .bool true]) ∧ Below wx.heap.size wx w') := fun wx hbx => by
            have := implHn_any F G T wx hFG (by omega) (HM.out _ hbx)
            unfold HnPost at this
            rw [hye] at this; exact this
          have HVS : Hid (∀ wx, Calls Tryd.prog 20 #[.agg #[.string F, .string G]] wx fun e w' => e = .returned (.bool true) ∧ Below wx.heap.size wx w') := fun wx => by
            have := implSpeech_any F G wx hFG
            rw [HV.out] at this; exact this
          have hTi : (T.size : Int) = 3 * (i : Int) - 1 := by omega
          have hTj : ((T.size : Int) == 3 * (i : Int) - 1) = true := by simp [hTi]
          clear hT hTs hpk hye hk1 hsp hsn hnp hTi
          go_wp2_with fail
          refine (HS1.out _).mono ?_
          rintro e w8 ⟨rfl, hb1⟩
          replace hX := hX.later hb1
          replace hb := hb.trans (hb1.mono hb.size)
          clear hb1 c0 c1
          have c0 := hX.c0
          have c1 := hX.c1
          go_wp2_with fail
          refine (HH.out _ hb).mono ?_
          rintro e w9 ⟨rfl, hb1⟩
          replace hX := hX.later hb1
          replace hb := hb.trans (hb1.mono hb.size)
          clear hb1 c0 c1
          have c0 := hX.c0
          have c1 := hX.c1
          go_wp2_with fail
          refine (HS2.out _).mono ?_
          rintro e w10 ⟨rfl, hb1⟩
          replace hX := hX.later hb1
          replace hb := hb.trans (hb1.mono hb.size)
          clear hb1 c0 c1
          have c0 := hX.c0
          have c1 := hX.c1
          go_wp2_with fail
          refine (HVS.out _).mono ?_
          rintro e w11 ⟨rfl, hb1⟩
          replace hb := hb.trans (hb1.mono hb.size)
          clear hb1 c0 c1
          go_wp2_with fail
          go_ret
          exact ⟨rfl, hb⟩
    case au =>
      go_simp
      refine hK.out _ _ trivial (fun hHeld => ?_)
      clear hK K hHeld
      try simp only [Act.put, List.setIfInBounds_toArray, List.set_cons_zero, List.set_cons_succ]
      have hbA : Below w.heap.size w (w1.alloc (.cells #[.string ⟨#[]⟩, .string ⟨#[]⟩] 37)) := hb1.alloc hb1.size _
      have z0 : (w1.alloc (.cells #[.string ⟨#[]⟩, .string ⟨#[]⟩] 37)).cell? ⟨w1.heap.size, 0, none⟩ = some (.string ⟨#[]⟩) := World.cell?_alloc_at _ _ _ _ rfl
      have z1 : (w1.alloc (.cells #[.string ⟨#[]⟩, .string ⟨#[]⟩] 37)).cell? ⟨w1.heap.size, 1, none⟩ = some (.string ⟨#[]⟩) := World.cell?_alloc_at _ _ _ _ rfl
      refine wpAnyH_ready (rs := [4]) (by kernel_rfl) (by simp) ?_
      refine AllReadyH.cons rfl (fun K hK => ?_) AllReadyH.nil
      go_simp
      go_at_call 12
      refine (HA.out _ 1 4 hbA (by omega) (by omega)).mono ?_
      rintro e w2 ⟨r2, rfl, hr2, hd⟩
      have hb2 := hbA.trans (hd.below.mono hbA.size)
      have c0 := (hd.below.cell (p := ⟨w1.heap.size, 0, none⟩) (World.block_lt_of_cell? _ _ z0)).trans z0
      have c1 := (hd.below.cell (p := ⟨w1.heap.size, 1, none⟩) (World.block_lt_of_cell? _ _ z1)).trans z1
      have hfz : ∀ o, w2.frozen? ⟨w1.heap.size, o, none⟩ = false := fun o => by
        have hl := World.block_lt_of_cell? _ _ z0
        rw [hd.below.frozen (p := ⟨w1.heap.size, o, none⟩) hl]
        go_simp
      clear hd z0 z1
      have h4 : (r2 : Int) < 4 := hr2
      have h44 : (r2 : Int) ≤ 4 := by omega
      have h20 : 0 ≤ (r2 : Int) := by omega
      go_wp2_with fail
      refine hK.out _ _ trivial (fun hHeld => ?_)
      clear hK K hHeld
      try simp only [Act.put, List.setIfInBounds_toArray, List.set_cons_zero, List.set_cons_succ]
      refine wpAnyH_take (i := 5) (oi := ⟨some 25, _, _, _, _, _⟩) (v := ?vv5) rfl (by kernel_rfl) (by kernel_rfl) (by kernel_rfl) (fun _ _ _ h => h) (Or.inl ⟨by rfl, ?yv5⟩) trivial ?rv5
      case yv5 => (intro w hSw; (try dsimp only at hSw); go_simp; all_goals (with_reducible rfl))
      try simp only [Act.put, List.setIfInBounds_toArray, List.set_cons_zero, List.set_cons_succ]
      refine wpAnyH_take (i := 6) (oi := ⟨some 26, _, _, _, _, _⟩) (v := ?vv6) rfl (by kernel_rfl) (by kernel_rfl) (by kernel_rfl) (fun _ _ _ h => h) (Or.inl ⟨by rfl, ?yv6⟩) trivial ?rv6
      case yv6 => (intro w hSw; (try dsimp only at hSw); go_simp; all_goals (with_reducible rfl))
      try simp only [Act.put, List.setIfInBounds_toArray, List.set_cons_zero, List.set_cons_succ]
      have f0 : w2.frozen? ⟨w1.heap.size, 0, none⟩ = false := hfz 0
      have f1 : w2.frozen? ⟨w1.heap.size, 1, none⟩ = false := hfz 1
      refine wpAnyH_ready (rs := [8]) (by kernel_rfl) (by simp) ?_
      refine AllReadyH.cons rfl (fun K hK => ?_) AllReadyH.nil
      go_simp
      refine hK.out _ _ trivial (fun hHeld => ?_)
      clear hK K hHeld
      try simp only [Act.put, List.setIfInBounds_toArray, List.set_cons_zero, List.set_cons_succ]
      refine wpAnyH_done (by kernel_rfl) ?_ _
      obtain ⟨hv, hla, hlb⟩ := spk_ok (show r1 < 12 by omega) (show r2 < 4 by omega)
      obtain ⟨hs1, hs2⟩ := spk_sz (show r1 < 12 by omega) (show r2 < 4 by omega)
      obtain ⟨F, hF⟩ : ∃ F, F = spF.extract r1 16 := ⟨_, rfl⟩
      obtain ⟨G, hG⟩ : ∃ G, G = spG.extract r2 4 := ⟨_, rfl⟩
      rw [← hF] at hv hla hs1
      rw [← hG] at hv hlb hs2
      have hFl : (⟨#[98, 100, 102, 103, 104, 106, 107, 108, 109, 110, 112, 114, 115, 116, 118, 122]⟩ : ByteArray).extract r1 16 = F := hF.symm
      have hGl : (⟨#[97, 105, 111, 117]⟩ : ByteArray).extract r2 4 = G := hG.symm
      rw [hFl, hGl]
      have hF16 : 5 ≤ F.size ∧ F.size ≤ 16 := by omega
      have hG4 : 1 ≤ G.size ∧ G.size ≤ 4 := by omega
      clear hF hG hFl hGl hs1 hs2
      have hXs := hb1.size
      have hb3 : Below w.heap.size w ((w2.setCell ⟨w1.heap.size, 0, none⟩ (.string F)).setCell ⟨w1.heap.size, 1, none⟩ (.string G)) := (hb2.setCell hXs _).setCell hXs _
      have hX : SX w1.heap.size F G ((w2.setCell ⟨w1.heap.size, 0, none⟩ (.string F)).setCell ⟨w1.heap.size, 1, none⟩ (.string G)) := ⟨by go_simp, by go_simp⟩
      generalize (w2.setCell ⟨w1.heap.size, 0, none⟩ (.string F)).setCell ⟨w1.heap.size, 1, none⟩ (.string G) = w3 at *
      clear hb hb1 hb2
      have hb := hb3
      clear hb3
      have c0 := hX.c0
      have c1 := hX.c1
      obtain ⟨Bn, hBn⟩ : ∃ Bn : Nat, Bn = F.size * G.size := ⟨_, rfl⟩
      have hB := vsB_base hv
      have hBz : Bn ≤ 64 := by
        rw [hBn]; exact Nat.mul_le_mul (show F.size ≤ 16 by omega) (show G.size ≤ 4 by omega)
      rw [← hBn] at hB
      have hwr : IntKind.i64.wrap ((F.size : Int) * (G.size : Int)) = (Bn : Int) := by
        rw [← Int.natCast_mul, ← hBn]; exact IntWalk.i64_in _ (by omega)
      have HBn := Lib.hid hBn
      have HV := Lib.hid hv
      have HL := Lib.hid (And.intro hla hlb)
      have hFG : F.size + G.size ≤ 1048576 := by omega
      clear hBn hv hla hlb
      go_wp2_with fail
      clear c0 c1 hwr
      refine (HB.out _ 0 4 hb (by omega) (by omega)).mono ?_
      rintro e w4 ⟨r3, rfl, hr3, hd⟩
      replace hX := hX.later hd.below
      replace hb := hb.trans (hd.below.mono hb.size)
      clear hd
      obtain ⟨K, hK⟩ : ∃ K : Nat, K = r3 + 1 := ⟨_, rfl⟩
      have hK2 : (1 : Int) + (r3 : Int) = (K : Int) := by omega
      have hK4 : 1 ≤ K ∧ K ≤ 4 := by omega
      clear hr3 hK
      go_wp2_with fail
      clear hK2
      go_loopw [8, 9] (fun av iv wr => ∃ i p : Nat, i ≤ K ∧ iv = .int .i64 i ∧ av = .int .i64 p ∧ Hid (p = Bn ^ i) ∧ p ≤ 16777216 ∧ wr = w4) (fun _ iv _ => K - (intOf iv).toNat)
      case atStart => exact ⟨0, 1, Nat.zero_le _, rfl, rfl, Lib.hid (Nat.pow_zero Bn).symm, by omega, rfl⟩
      case round =>
        obtain ⟨i, p, hi, rfl, rfl, HP, hp, rfl⟩ := hrel
        by_cases hlt : i < K
        · have hpb : p ≤ 262144 := by
            rw [HP.out]
            exact Nat.le_trans (Nat.pow_le_pow_left hBz i) (Nat.le_trans (Nat.pow_le_pow_right (by decide) (show i ≤ 3 by omega)) (by decide))
          obtain ⟨q, hq⟩ : ∃ q : Nat, q = p * Bn := ⟨_, rfl⟩
          have hqb : q ≤ 16777216 := by rw [hq]; exact Nat.le_trans (Nat.mul_le_mul hpb hBz) (by decide)
          have HQ : Hid (q = Bn ^ (i + 1)) := by unfold Hid; rw [hq, HP.out, Nat.pow_succ]
          have hwr : IntKind.i64.wrap ((p : Int) * (Bn : Int)) = (q : Int) := by
            rw [← Int.natCast_mul, ← hq]; exact IntWalk.i64_in _ (by omega)
          clear hq
          go_wp2_with fail
          clear hwr
          go_roundw
          case rel => exact ⟨i + 1, q, by omega, by go_num, by go_num, HQ, hqb, by first | trivial | rfl⟩
          case measure => first | (simp [intOf]; done) | (simp [intOf]; omega)
        · obtain rfl : i = K := by omega
          have hp1 : 1 ≤ p := by rw [HP.out]; exact Nat.pow_pos (by omega)
          have hp0 : ¬ p = 0 := by omega
          go_wp2_with fail
          refine (HB.out _ 1 256 hb (by omega) (by omega)).mono ?_
          rintro e w5 ⟨r4, rfl, hr4, hd⟩
          replace hX := hX.later hd.below
          replace hb := hb.trans (hd.below.mono hb.size)
          clear hd
          go_wp2_with fail
          refine (HB.out _ 2 256 hb (by omega) (by omega)).mono ?_
          rintro e w6 ⟨r5, rfl, hr5, hd⟩
          replace hX := hX.later hd.below
          replace hb := hb.trans (hd.below.mono hb.size)
          clear hd
          go_wp2_with fail
          refine (HB.out _ 3 256 hb (by omega) (by omega)).mono ?_
          rintro e w7 ⟨r6, rfl, hr6, hd⟩
          replace hX := hX.later hd.below
          replace hb := hb.trans (hd.below.mono hb.size)
          clear hd
          have c0 := hX.c0
          have c1 := hX.c1
          obtain ⟨n, hn, hnp⟩ : ∃ n : Nat, (65536 * (r4 : Int) + 256 * (r5 : Int) + (r6 : Int)) % (p : Int) = (n : Int) ∧ n < p := ⟨(65536 * r4 + 256 * r5 + r6) % p, by simp, Nat.mod_lt _ hp1⟩
          have hBK : Hid (Bn ^ i ≤ 16777216) := by unfold Hid; rw [← HP.out]; exact hp
          obtain ⟨T, hT⟩ : ∃ T, T = spT F G n i := ⟨_, rfl⟩
          have hTs : T.size = 3 * i - 1 := by rw [hT]; exact spT_len HL.out.1 HL.out.2 (by omega) (by rw [← HBn.out]; omega) n i hK4.1
          have hpk : pwB (F.size * G.size) i = true := by
            unfold pwB; rw [← HBn.out, ← HP.out]; exact decide_eq_true (by unfold maxV; omega)
          have hye : hnO F G T = some n := by
            rw [hT]; exact hear_spT HV.out HL.out.1 HL.out.2 n i ⟨hK4.1, by omega⟩ hpk (by rw [← HBn.out, ← HP.out]; exact hnp)
          have hk1 : inB (i : Int) 1 8 = true := by unfold inB; simp; omega
          have hsp : spB F G (n : Int) (i : Int) = true := by
            unfold spB
            rw [HV.out, hk1, Int.toNat_natCast, hpk, ← HBn.out, ← HP.out]
            unfold inB; simp; omega
          have hsn : spB F G (p : Int) (i : Int) = false := by
            unfold spB
            rw [HV.out, hk1, Int.toNat_natCast, hpk, ← HBn.out, ← HP.out]
            unfold inB; simp; omega
          have HS1 : Hid (∀ wx, Calls Tryd.prog 19 #[.agg #[.string F, .string G], .int .i64 n, .int .i64 i] wx fun e w' => e = .returned (.tuple #[.string T, .bool true]) ∧ Below wx.heap.size wx w') := fun wx => by
            have := implSp_any F G n i wx hFG (by omega) (by omega)
            rw [hsp, spS_yes hsp, Int.toNat_natCast, Int.toNat_natCast, ← hT] at this; exact this
          have HS2 : Hid (∀ wx, Calls Tryd.prog 19 #[.agg #[.string F, .string G], .int .i64 p, .int .i64 i] wx fun e w' => e = .returned (.tuple #[.string ByteArray.empty, .bool false]) ∧ Below wx.heap.size wx w') := fun wx => by
            have := implSp_any F G p i wx hFG (by omega) (by omega)
            rw [hsn, spS_no hsn] at this; exact this
          have HH : Hid (∀ wx, Below w.heap.size w wx → Calls Tryd.prog 18 #[.agg #[.string F, .string G], .string T] wx fun e w' => e = .returned (.tuple #[.int .i64 n, .bool true]) ∧ Below wx.heap.size wx w') := fun wx hbx => by
            have := implHn_any F G T wx hFG (by omega) (HM.out _ hbx)
            unfold HnPost at this
            rw [hye] at this; exact this
          have HVS : Hid (∀ wx, Calls Tryd.prog 20 #[.agg #[.string F, .string G]] wx fun e w' => e = .returned (.bool true) ∧ Below wx.heap.size wx w') := fun wx => by
            have := implSpeech_any F G wx hFG
            rw [HV.out] at this; exact this
          have hTi : (T.size : Int) = 3 * (i : Int) - 1 := by omega
          have hTj : ((T.size : Int) == 3 * (i : Int) - 1) = true := by simp [hTi]
          clear hT hTs hpk hye hk1 hsp hsn hnp hTi
          go_wp2_with fail
          refine (HS1.out _).mono ?_
          rintro e w8 ⟨rfl, hb1⟩
          replace hX := hX.later hb1
          replace hb := hb.trans (hb1.mono hb.size)
          clear hb1 c0 c1
          have c0 := hX.c0
          have c1 := hX.c1
          go_wp2_with fail
          refine (HH.out _ hb).mono ?_
          rintro e w9 ⟨rfl, hb1⟩
          replace hX := hX.later hb1
          replace hb := hb.trans (hb1.mono hb.size)
          clear hb1 c0 c1
          have c0 := hX.c0
          have c1 := hX.c1
          go_wp2_with fail
          refine (HS2.out _).mono ?_
          rintro e w10 ⟨rfl, hb1⟩
          replace hX := hX.later hb1
          replace hb := hb.trans (hb1.mono hb.size)
          clear hb1 c0 c1
          have c0 := hX.c0
          have c1 := hX.c1
          go_wp2_with fail
          refine (HVS.out _).mono ?_
          rintro e w11 ⟨rfl, hb1⟩
          replace hb := hb.trans (hb1.mono hb.size)
          clear hb1 c0 c1
          go_wp2_with fail
          go_ret
          exact ⟨rfl, hb⟩
  case aq =>
    go_simp
    refine hK.out _ _ trivial (fun hHeld => ?_)
    clear hK K hHeld
    try simp only [Act.put, List.setIfInBounds_toArray, List.set_cons_zero, List.set_cons_succ]
    have hbA : Below w.heap.size w (w.alloc (.cells #[.string ⟨#[]⟩, .string ⟨#[]⟩] 37)).drew := (hb.alloc hb.size _).drew
    have z0 : (w.alloc (.cells #[.string ⟨#[]⟩, .string ⟨#[]⟩] 37)).drew.cell? ⟨w.heap.size, 0, none⟩ = some (.string ⟨#[]⟩) := World.cell?_alloc_at _ _ _ _ rfl
    have z1 : (w.alloc (.cells #[.string ⟨#[]⟩, .string ⟨#[]⟩] 37)).drew.cell? ⟨w.heap.size, 1, none⟩ = some (.string ⟨#[]⟩) := World.cell?_alloc_at _ _ _ _ rfl
    have hfy : ∀ o, (w.alloc (.cells #[.string ⟨#[]⟩, .string ⟨#[]⟩] 37)).drew.frozen? ⟨w.heap.size, o, none⟩ = false := fun o => by go_simp
    generalize (w.alloc (.cells #[.string ⟨#[]⟩, .string ⟨#[]⟩] 37)).drew = w1 at *
    refine wpAnyH_ready (rs := [1]) (by kernel_rfl) (by simp) ?_
    refine AllReadyH.cons rfl (fun K hK => ?_) AllReadyH.nil
    go_simp
    go_at_call 12
    refine (HA.out _ 0 12 hbA (by omega) (by omega)).mono ?_
    rintro e w1' ⟨r1, rfl, hr1, hd⟩
    have hb1 := hbA.trans (hd.below.mono hbA.size)
    have y0 := (hd.below.cell (p := ⟨w.heap.size, 0, none⟩) (World.block_lt_of_cell? _ _ z0)).trans z0
    have y1 := (hd.below.cell (p := ⟨w.heap.size, 1, none⟩) (World.block_lt_of_cell? _ _ z1)).trans z1
    have hfx : ∀ o, w1'.frozen? ⟨w.heap.size, o, none⟩ = false := fun o => by
      have hl := World.block_lt_of_cell? _ _ z0
      rw [hd.below.frozen (p := ⟨w.heap.size, o, none⟩) hl]
      exact hfy o
    clear hd z0 z1 hfy
    have h12 : (r1 : Int) < 12 := hr1
    have h16 : (r1 : Int) ≤ 16 := by omega
    have h0 : 0 ≤ (r1 : Int) := by omega
    go_wp2_with fail
    refine hK.out _ _ trivial (fun hHeld => ?_)
    clear hK K hHeld
    try simp only [Act.put, List.setIfInBounds_toArray, List.set_cons_zero, List.set_cons_succ]
    refine wpAnyH_take (i := 2) (oi := ⟨some 22, _, _, _, _, _⟩) (v := ?vw2) rfl (by kernel_rfl) (by kernel_rfl) (by kernel_rfl) (fun _ _ _ h => h) (Or.inl ⟨by rfl, ?yw2⟩) trivial ?rw2
    case yw2 => (intro w hSw; (try dsimp only at hSw); go_simp; all_goals (with_reducible rfl))
    try simp only [Act.put, List.setIfInBounds_toArray, List.set_cons_zero, List.set_cons_succ]
    refine wpAnyH_ready (rs := [4]) (by kernel_rfl) (by simp) ?_
    refine AllReadyH.cons rfl (fun K hK => ?_) AllReadyH.nil
    go_simp
    go_at_call 12
    refine (HA.out _ 1 4 hb1 (by omega) (by omega)).mono ?_
    rintro e w2 ⟨r2, rfl, hr2, hd⟩
    have hb2 := hb1.trans (hd.below.mono hb1.size)
    have c0 := (hd.below.cell (p := ⟨w.heap.size, 0, none⟩) (World.block_lt_of_cell? _ _ y0)).trans y0
    have c1 := (hd.below.cell (p := ⟨w.heap.size, 1, none⟩) (World.block_lt_of_cell? _ _ y1)).trans y1
    have hfz : ∀ o, w2.frozen? ⟨w.heap.size, o, none⟩ = false := fun o => by
      have hl := World.block_lt_of_cell? _ _ y0
      rw [hd.below.frozen (p := ⟨w.heap.size, o, none⟩) hl]
      exact hfx o
    clear hd y0 y1 hfx
    have h4 : (r2 : Int) < 4 := hr2
    have h44 : (r2 : Int) ≤ 4 := by omega
    have h20 : 0 ≤ (r2 : Int) := by omega
    go_wp2_with fail
    refine hK.out _ _ trivial (fun hHeld => ?_)
    clear hK K hHeld
    try simp only [Act.put, List.setIfInBounds_toArray, List.set_cons_zero, List.set_cons_succ]
    refine wpAnyH_take (i := 5) (oi := ⟨some 25, _, _, _, _, _⟩) (v := ?vw5) rfl (by kernel_rfl) (by kernel_rfl) (by kernel_rfl) (fun _ _ _ h => h) (Or.inl ⟨by rfl, ?yw5⟩) trivial ?rw5
    case yw5 => (intro w hSw; (try dsimp only at hSw); go_simp; all_goals (with_reducible rfl))
    try simp only [Act.put, List.setIfInBounds_toArray, List.set_cons_zero, List.set_cons_succ]
    refine wpAnyH_take (i := 6) (oi := ⟨some 26, _, _, _, _, _⟩) (v := ?vw6) rfl (by kernel_rfl) (by kernel_rfl) (by kernel_rfl) (fun _ _ _ h => h) (Or.inl ⟨by rfl, ?yw6⟩) trivial ?rw6
    case yw6 => (intro w hSw; (try dsimp only at hSw); go_simp; all_goals (with_reducible rfl))
    try simp only [Act.put, List.setIfInBounds_toArray, List.set_cons_zero, List.set_cons_succ]
    have f0 : w2.frozen? ⟨w.heap.size, 0, none⟩ = false := hfz 0
    have f1 : w2.frozen? ⟨w.heap.size, 1, none⟩ = false := hfz 1
    refine wpAnyH_ready (rs := [8]) (by kernel_rfl) (by simp) ?_
    refine AllReadyH.cons rfl (fun K hK => ?_) AllReadyH.nil
    go_simp
    refine hK.out _ _ trivial (fun hHeld => ?_)
    clear hK K hHeld
    try simp only [Act.put, List.setIfInBounds_toArray, List.set_cons_zero, List.set_cons_succ]
    refine wpAnyH_done (by kernel_rfl) ?_ _
    obtain ⟨hv, hla, hlb⟩ := spk_ok (show r1 < 12 by omega) (show r2 < 4 by omega)
    obtain ⟨hs1, hs2⟩ := spk_sz (show r1 < 12 by omega) (show r2 < 4 by omega)
    obtain ⟨F, hF⟩ : ∃ F, F = spF.extract r1 16 := ⟨_, rfl⟩
    obtain ⟨G, hG⟩ : ∃ G, G = spG.extract r2 4 := ⟨_, rfl⟩
    rw [← hF] at hv hla hs1
    rw [← hG] at hv hlb hs2
    have hFl : (⟨#[98, 100, 102, 103, 104, 106, 107, 108, 109, 110, 112, 114, 115, 116, 118, 122]⟩ : ByteArray).extract r1 16 = F := hF.symm
    have hGl : (⟨#[97, 105, 111, 117]⟩ : ByteArray).extract r2 4 = G := hG.symm
    rw [hFl, hGl]
    have hF16 : 5 ≤ F.size ∧ F.size ≤ 16 := by omega
    have hG4 : 1 ≤ G.size ∧ G.size ≤ 4 := by omega
    clear hF hG hFl hGl hs1 hs2
    have hXs := hb.size
    have hb3 : Below w.heap.size w ((w2.setCell ⟨w.heap.size, 0, none⟩ (.string F)).setCell ⟨w.heap.size, 1, none⟩ (.string G)) := (hb2.setCell hXs _).setCell hXs _
    have hX : SX w.heap.size F G ((w2.setCell ⟨w.heap.size, 0, none⟩ (.string F)).setCell ⟨w.heap.size, 1, none⟩ (.string G)) := ⟨by go_simp, by go_simp⟩
    generalize (w2.setCell ⟨w.heap.size, 0, none⟩ (.string F)).setCell ⟨w.heap.size, 1, none⟩ (.string G) = w3 at *
    clear hb hb1 hb2
    have hb := hb3
    clear hb3
    have c0 := hX.c0
    have c1 := hX.c1
    obtain ⟨Bn, hBn⟩ : ∃ Bn : Nat, Bn = F.size * G.size := ⟨_, rfl⟩
    have hB := vsB_base hv
    have hBz : Bn ≤ 64 := by
      rw [hBn]; exact Nat.mul_le_mul (show F.size ≤ 16 by omega) (show G.size ≤ 4 by omega)
    rw [← hBn] at hB
    have hwr : IntKind.i64.wrap ((F.size : Int) * (G.size : Int)) = (Bn : Int) := by
      rw [← Int.natCast_mul, ← hBn]; exact IntWalk.i64_in _ (by omega)
    have HBn := Lib.hid hBn
    have HV := Lib.hid hv
    have HL := Lib.hid (And.intro hla hlb)
    have hFG : F.size + G.size ≤ 1048576 := by omega
    clear hBn hv hla hlb
    go_wp2_with fail
    clear c0 c1 hwr
    refine (HB.out _ 0 4 hb (by omega) (by omega)).mono ?_
    rintro e w4 ⟨r3, rfl, hr3, hd⟩
    replace hX := hX.later hd.below
    replace hb := hb.trans (hd.below.mono hb.size)
    clear hd
    obtain ⟨K, hK⟩ : ∃ K : Nat, K = r3 + 1 := ⟨_, rfl⟩
    have hK2 : (1 : Int) + (r3 : Int) = (K : Int) := by omega
    have hK4 : 1 ≤ K ∧ K ≤ 4 := by omega
    clear hr3 hK
    go_wp2_with fail
    clear hK2
    go_loopw [8, 9] (fun av iv wr => ∃ i p : Nat, i ≤ K ∧ iv = .int .i64 i ∧ av = .int .i64 p ∧ Hid (p = Bn ^ i) ∧ p ≤ 16777216 ∧ wr = w4) (fun _ iv _ => K - (intOf iv).toNat)
    case atStart => exact ⟨0, 1, Nat.zero_le _, rfl, rfl, Lib.hid (Nat.pow_zero Bn).symm, by omega, rfl⟩
    case round =>
      obtain ⟨i, p, hi, rfl, rfl, HP, hp, rfl⟩ := hrel
      by_cases hlt : i < K
      · have hpb : p ≤ 262144 := by
          rw [HP.out]
          exact Nat.le_trans (Nat.pow_le_pow_left hBz i) (Nat.le_trans (Nat.pow_le_pow_right (by decide) (show i ≤ 3 by omega)) (by decide))
        obtain ⟨q, hq⟩ : ∃ q : Nat, q = p * Bn := ⟨_, rfl⟩
        have hqb : q ≤ 16777216 := by rw [hq]; exact Nat.le_trans (Nat.mul_le_mul hpb hBz) (by decide)
        have HQ : Hid (q = Bn ^ (i + 1)) := by unfold Hid; rw [hq, HP.out, Nat.pow_succ]
        have hwr : IntKind.i64.wrap ((p : Int) * (Bn : Int)) = (q : Int) := by
          rw [← Int.natCast_mul, ← hq]; exact IntWalk.i64_in _ (by omega)
        clear hq
        go_wp2_with fail
        clear hwr
        go_roundw
        case rel => exact ⟨i + 1, q, by omega, by go_num, by go_num, HQ, hqb, by first | trivial | rfl⟩
        case measure => first | (simp [intOf]; done) | (simp [intOf]; omega)
      · obtain rfl : i = K := by omega
        have hp1 : 1 ≤ p := by rw [HP.out]; exact Nat.pow_pos (by omega)
        have hp0 : ¬ p = 0 := by omega
        go_wp2_with fail
        refine (HB.out _ 1 256 hb (by omega) (by omega)).mono ?_
        rintro e w5 ⟨r4, rfl, hr4, hd⟩
        replace hX := hX.later hd.below
        replace hb := hb.trans (hd.below.mono hb.size)
        clear hd
        go_wp2_with fail
        refine (HB.out _ 2 256 hb (by omega) (by omega)).mono ?_
        rintro e w6 ⟨r5, rfl, hr5, hd⟩
        replace hX := hX.later hd.below
        replace hb := hb.trans (hd.below.mono hb.size)
        clear hd
        go_wp2_with fail
        refine (HB.out _ 3 256 hb (by omega) (by omega)).mono ?_
        rintro e w7 ⟨r6, rfl, hr6, hd⟩
        replace hX := hX.later hd.below
        replace hb := hb.trans (hd.below.mono hb.size)
        clear hd
        have c0 := hX.c0
        have c1 := hX.c1
        obtain ⟨n, hn, hnp⟩ : ∃ n : Nat, (65536 * (r4 : Int) + 256 * (r5 : Int) + (r6 : Int)) % (p : Int) = (n : Int) ∧ n < p := ⟨(65536 * r4 + 256 * r5 + r6) % p, by simp, Nat.mod_lt _ hp1⟩
        have hBK : Hid (Bn ^ i ≤ 16777216) := by unfold Hid; rw [← HP.out]; exact hp
        obtain ⟨T, hT⟩ : ∃ T, T = spT F G n i := ⟨_, rfl⟩
        have hTs : T.size = 3 * i - 1 := by rw [hT]; exact spT_len HL.out.1 HL.out.2 (by omega) (by rw [← HBn.out]; omega) n i hK4.1
        have hpk : pwB (F.size * G.size) i = true := by
          unfold pwB; rw [← HBn.out, ← HP.out]; exact decide_eq_true (by unfold maxV; omega)
        have hye : hnO F G T = some n := by
          rw [hT]; exact hear_spT HV.out HL.out.1 HL.out.2 n i ⟨hK4.1, by omega⟩ hpk (by rw [← HBn.out, ← HP.out]; exact hnp)
        have hk1 : inB (i : Int) 1 8 = true := by unfold inB; simp; omega
        have hsp : spB F G (n : Int) (i : Int) = true := by
          unfold spB
          rw [HV.out, hk1, Int.toNat_natCast, hpk, ← HBn.out, ← HP.out]
          unfold inB; simp; omega
        have hsn : spB F G (p : Int) (i : Int) = false := by
          unfold spB
          rw [HV.out, hk1, Int.toNat_natCast, hpk, ← HBn.out, ← HP.out]
          unfold inB; simp; omega
        have HS1 : Hid (∀ wx, Calls Tryd.prog 19 #[.agg #[.string F, .string G], .int .i64 n, .int .i64 i] wx fun e w' => e = .returned (.tuple #[.string T, .bool true]) ∧ Below wx.heap.size wx w') := fun wx => by
          have := implSp_any F G n i wx hFG (by omega) (by omega)
          rw [hsp, spS_yes hsp, Int.toNat_natCast, Int.toNat_natCast, ← hT] at this; exact this
        have HS2 : Hid (∀ wx, Calls Tryd.prog 19 #[.agg #[.string F, .string G], .int .i64 p, .int .i64 i] wx fun e w' => e = .returned (.tuple #[.string ByteArray.empty, .bool false]) ∧ Below wx.heap.size wx w') := fun wx => by
          have := implSp_any F G p i wx hFG (by omega) (by omega)
          rw [hsn, spS_no hsn] at this; exact this
        have HH : Hid (∀ wx, Below w.heap.size w wx → Calls Tryd.prog 18 #[.agg #[.string F, .string G], .string T] wx fun e w' => e = .returned (.tuple #[.int .i64 n, .bool true]) ∧ Below wx.heap.size wx w') := fun wx hbx => by
          have := implHn_any F G T wx hFG (by omega) (HM.out _ hbx)
          unfold HnPost at this
          rw [hye] at this; exact this
        have HVS : Hid (∀ wx, Calls Tryd.prog 20 #[.agg #[.string F, .string G]] wx fun e w' => e = .returned (.bool true) ∧ Below wx.heap.size wx w') := fun wx => by
          have := implSpeech_any F G wx hFG
          rw [HV.out] at this; exact this
        have hTi : (T.size : Int) = 3 * (i : Int) - 1 := by omega
        have hTj : ((T.size : Int) == 3 * (i : Int) - 1) = true := by simp [hTi]
        clear hT hTs hpk hye hk1 hsp hsn hnp hTi
        go_wp2_with fail
        refine (HS1.out _).mono ?_
        rintro e w8 ⟨rfl, hb1⟩
        replace hX := hX.later hb1
        replace hb := hb.trans (hb1.mono hb.size)
        clear hb1 c0 c1
        have c0 := hX.c0
        have c1 := hX.c1
        go_wp2_with fail
        refine (HH.out _ hb).mono ?_
        rintro e w9 ⟨rfl, hb1⟩
        replace hX := hX.later hb1
        replace hb := hb.trans (hb1.mono hb.size)
        clear hb1 c0 c1
        have c0 := hX.c0
        have c1 := hX.c1
        go_wp2_with fail
        refine (HS2.out _).mono ?_
        rintro e w10 ⟨rfl, hb1⟩
        replace hX := hX.later hb1
        replace hb := hb.trans (hb1.mono hb.size)
        clear hb1 c0 c1
        have c0 := hX.c0
        have c1 := hX.c1
        go_wp2_with fail
        refine (HVS.out _).mono ?_
        rintro e w11 ⟨rfl, hb1⟩
        replace hb := hb.trans (hb1.mono hb.size)
        clear hb1 c0 c1
        go_wp2_with fail
        go_ret
        exact ⟨rfl, hb⟩
end Go.Proofs.YtdlagajnefkklaaDoor
