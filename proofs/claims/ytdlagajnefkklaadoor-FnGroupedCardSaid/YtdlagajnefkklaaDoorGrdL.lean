/- FnGrouped: the law. -/
import Derived.Test.YtdlagajnefkklaaDoorGrd
namespace Go.Proofs.YtdlagajnefkklaaDoor
open Go.RowKit

theorem RK.tail {k : IntKind} {w : World} {g n c : Nat} {xs : List Int} (h : RK k w (.slice (some ⟨g, 0, none⟩) n c) xs) : RK k w (.slice (some ⟨g, 1, none⟩) (n - 1) (c - 1)) (xs.drop 1) := by
  have hl := h.len
  have hc := h.cap
  refine ⟨some ⟨g, 1, none⟩, c - 1, by simp [hl], by simp; omega, fun j hj => ?_⟩
  have hj' : j < xs.length - 1 := by simpa using hj
  obtain ⟨g', off, e, _, hcell⟩ := h.at (j + 1) (by omega)
  simp only [Option.some.injEq, Addr.mk.injEq, and_true] at e
  obtain ⟨rfl, rfl⟩ := e
  refine ⟨_, _, rfl, ?_⟩
  rw [Nat.add_comm 1 j, show 0 + (j + 1) = j + 1 by omega] at *
  rw [hcell]
  simp [show j + 1 < xs.length by omega, show j < xs.length - 1 by omega, Nat.add_comm 1 j]
theorem ne_tail {xs : List Int} (h : 0 < xs.length) : xs ≠ [xs.getD 0 0 + 1] ++ xs.drop 1 := by
  cases xs with
  | nil => simp at h
  | cons x xs =>
    intro e
    simp at e
    omega
theorem len_tail {xs : List Int} (h : 0 < xs.length) (z : Int) : ([z] ++ xs.drop 1).length = xs.length := by simp; omega
set_option maxRecDepth 100000 in
set_option maxHeartbeats 4000000 in
theorem lawGrd_any (v0 v1 : Value) (cs ys : List Int) (w : World) (hx : RK .u8 w v0 cs ∧ (∀ x ∈ cs, (Lit.int .u8 x).wf = true) ∧ cs.length ≤ maxLen)
    (hy : RK .u8 w v1 ys ∧ (∀ x ∈ ys, (Lit.int .u8 x).wf = true) ∧ ys.length ≤ maxLen) (hM : ∃ m, w.cell? ⟨0, 0, none⟩ = some (.int .i64 m)) :
    Calls Tryd.prog 4 #[v0, v1] w fun x w' => x = .returned (.bool true) ∧ Below w.heap.size w w' := by
  obtain ⟨hx, hxw, _⟩ := hx
  obtain ⟨hy, hyw, _⟩ := hy
  obtain ⟨a, c, rfl⟩ := hx.slice
  obtain ⟨b, d, rfl⟩ := hy.slice
  cases hs : longB cs.length ys.length
  case true =>
    have HS := Lib.hid hs
    clear hx hy hs
    go_enter Tryd.func4, Tryd.ntmps4
    go_wp2_with fail
    refine (b10Long_any _ _ _ _ _ _ _).mono ?_
    rintro e w' ⟨rfl, rfl⟩
    rw [HS.out]
    go_wp2_with fail
    go_ret
    exact ⟨rfl, Below.refl _ _⟩
  obtain ⟨hxm, hym⟩ := longB_no hs
  have HS := Lib.hid hs
  clear hs
  have HA : Hid (∀ wr (k : Nat) (n : Int), Below w.heap.size w wr → k < 1000000 → 1 ≤ n ∧ n < 1000000 → Calls Tryd.prog 12 #[.slice a cs.length c, .int .i64 k, .int .i64 n] wr fun e w' => e = .returned (.int .i64 (atD cs k n : Nat)) ∧ Drw wr w') := fun wr k n h hk hn => b10AtD_any _ cs k n wr (hx.later h) hxw hxm hk hn
  have HB : Hid (∀ wr (k : Nat) (z n : Int), z = k → Below w.heap.size w wr → k < 1000000 → 1 ≤ n ∧ n < 1000000 → Calls Tryd.prog 12 #[.slice b ys.length d, .int .i64 z, .int .i64 n] wr fun e w' => e = .returned (.int .i64 (atD ys k n : Nat)) ∧ Drw wr w') := fun wr k z n hz h hk hn => by subst hz; exact b10AtD_any _ ys k n wr (hy.later h) hyw hym hk hn
  have HM : Hid (∀ wx, Below w.heap.size w wx → ∃ m, wx.cell? ⟨0, 0, none⟩ = some (.int .i64 m)) := fun wx h => by
    obtain ⟨m, hm⟩ := hM
    exact ⟨m, (h.cell (p := ⟨0, 0, none⟩) (World.block_lt_of_cell? w _ hm)).trans hm⟩
  have HAT : Hid (∀ (xs : List Int) (k : Nat) (n : Int), 1 ≤ n → (atD xs k n : Int) < n) := fun xs k n h => atD_lt xs k n h
  obtain ⟨r0, hr0⟩ : ∃ r0, r0 = atD ys 0 4 := ⟨_, rfl⟩
  have hr4 : (r0 : Int) < 4 := by rw [hr0]; exact atD_lt _ _ _ (by omega)
  have HR0 := Lib.hid hr0.symm
  clear hx hy hxw hyw hM hr0
  have hb := Below.refl w.heap.size w
  go_enter Tryd.func4, Tryd.ntmps4
  go_wp2_with fail
  refine (b10Long_any _ _ _ _ _ _ _).mono ?_
  rintro e w' ⟨rfl, rfl⟩
  rw [HS.out]
  go_wp2_with fail
  have hb : Below w.heap.size w (w.alloc (.cells #[] 2)) := (Below.refl _ _).alloc (Nat.le_refl _) _
  have ho : OI w.heap.size (w.alloc (.cells #[] 2)) (.slice (some ⟨w.heap.size, 0, none⟩) 0 0) [] := OK.made _ _ _ (Nat.le_refl _)
  generalize w.alloc (.cells #[] 2) = w1 at *
  generalize Value.slice (some ⟨w.heap.size, 0, none⟩) 0 0 = sv0 at *
  go_loopw [5, 6, 7] (fun sv mv iv wr => ∃ (i m : Nat) (xs : List Int), i ≤ r0 + 1 ∧ iv = .int .i64 i ∧ mv = .int .i64 m ∧ m ≤ 4 * i ∧ Hid ((m : Int) = xs.sum) ∧ xs.length = i ∧ Hid (∀ z ∈ xs, 1 ≤ z ∧ z ≤ 4) ∧ OI w.heap.size wr sv xs ∧ Below w.heap.size w wr) (fun _ _ iv _ => r0 + 1 - (intOf iv).toNat)
  case atStart => exact ⟨0, 0, [], Nat.zero_le _, rfl, rfl, Nat.le_refl _, Lib.hid rfl, rfl, Lib.hid (by simp), ho, hb⟩
  case round =>
    clear ho hb
    obtain ⟨i, m, xs, hi, rfl, rfl, hm, HSM, hxl, HZ, ho, hb⟩ := hrel
    have HXL := Lib.hid hxl
    clear hxl
    go_wp2_with fail
    refine (HB.out _ 0 0 4 rfl hb (by omega) (by omega)).mono ?_
    rintro e w2 ⟨rfl, hd⟩
    rw [HR0.out]
    replace ho := ho.later hd.below
    replace hb := hb.trans (hd.below.mono hb.size)
    clear hd
    by_cases hlt : (i : Int) < 1 + (r0 : Int)
    · go_wp2_with fail
      refine (HB.out _ (i + 1) _ 4 (by omega) hb (by omega) (by omega)).mono ?_
      rintro e w3 ⟨rfl, hd⟩
      have hat := HAT.out ys (i + 1) 4 (by omega)
      replace ho := ho.later hd.below
      replace hb := hb.trans (hd.below.mono hb.size)
      clear hd
      generalize atD ys (i + 1) 4 = q at *
      have hll : xs.length ≤ 1099511627776 := by rw [HXL.out]; omega
      have hS := hb.size
      go_wp2_with (at_builtin; refine wpl_app_i64 rfl _ _ rfl w.heap.size _ _ rfl (ho.alloc _) _ _ _ rfl (World.cell?_alloc_at _ _ _ _ rfl) hll (by simp; omega) ?_; intro v' w5 ho5 hgr)
      have hb5 : Below w.heap.size w w5 := own_below (hb.alloc hS _) (ho.alloc _) hgr (by simp; omega)
      go_roundw
      case rel => exact ⟨i + 1, m + (q + 1), _, by omega, by go_num, by go_num, by omega, Lib.hid (by rw [List.sum_append, ← HSM.out]; simp; omega), by rw [List.length_append, HXL.out]; rfl, Lib.hid (fun z hz => by rcases List.mem_append.1 hz with h | h; exact HZ.out z h; simp at h; omega), ho5, hb5⟩
      case measure => first | (simp [intOf]; done) | (simp [intOf]; omega)
    · have hi4 : 1 ≤ i ∧ i ≤ 4 := by omega
      have hlt2 : ¬ (i : Int) < 1 + (r0 : Int) := hlt
      obtain ⟨oa, oc, rfl⟩ := ho.slice
      go_wp2_with fail
      go_loopw [9, 10] (fun tv jv wr => ∃ (j : Nat) (ds : List Int), j ≤ m ∧ jv = .int .i64 j ∧ tv = .string (wOf ds) ∧ ds.length = j ∧ Hid (∀ z ∈ ds, 0 ≤ z ∧ z < 36) ∧ OI w.heap.size wr (.slice oa xs.length oc) xs ∧ Below w.heap.size w wr) (fun _ jv _ => m - (intOf jv).toNat)
      case atStart => exact ⟨0, [], Nat.zero_le _, rfl, rfl, rfl, Lib.hid (by simp), ho, hb⟩
      case round =>
        clear ho hb hlt hlt2
        obtain ⟨j, ds, hj, rfl, rfl, hdl, HD, ho, hb⟩ := hrel
        have HDL := Lib.hid hdl
        clear hdl
        have hsz1 : (wOf ds).size = j := by rw [wOf_size]; exact HDL.out
        by_cases hjm : j < m
        · go_wp2_with fail
          refine (HA.out _ j 36 hb (by omega) (by omega)).mono ?_
          rintro e w3 ⟨rfl, hd⟩
          have hat := HAT.out cs j 36 (by omega)
          replace ho := ho.later hd.below
          replace hb := hb.trans (hd.below.mono hb.size)
          clear hd
          generalize atD cs j 36 = q at *
          go_wp2_with fail
          refine (symbolOf_any (q : Int) _ (by omega)).mono ?_
          rintro e w4 ⟨rfl, hb1⟩
          replace ho := ho.later hb1
          replace hb := hb.trans (hb1.mono hb.size)
          clear hb1
          have hsz2 : (wOf [(q : Int)]).size = 1 := wOf_size _
          have HW := Lib.hid (wOf_snoc ds q)
          have hle1 : (wOf ds).size ≤ 100 := by omega
          have hle2 : (wOf [(q : Int)]).size ≤ 100 := by omega
          clear hsz1 hsz2
          go_wp2_with fail
          go_roundw
          case rel => exact ⟨j + 1, ds ++ [(q : Int)], by omega, by go_num, by rw [HW.out], by rw [List.length_append, HDL.out]; rfl, Lib.hid (fun z hz => by rcases List.mem_append.1 hz with h | h; exact HD.out z h; simp at h; omega), ho, hb⟩
          case measure => first | (simp [intOf]; done) | (simp [intOf]; omega)
        · obtain rfl : j = m := by omega
          clear hjm
          go_wp2_with fail
          have hxl := HXL.out
          have hgw : gwB (wOf ds) xs = true := gwB_yes (szs_of HZ.out (by omega)) (wOf_dig (by omega) HD.out (by rw [HDL.out]; omega)) (by rw [← HSM.out, hsz1])
          obtain ⟨T, hT⟩ : ∃ T, T = gwT (wOf ds) xs xs.length := ⟨_, rfl⟩
          have hTz : T.size + 1 = j + i := by rw [hT, gwT_sz hgw, hsz1, hxl]
          have HFL : Hid (flatS T = wOf ds) := by unfold Hid; rw [hT]; exact flat_gwT hgw
          have HU1 : Hid (unB T xs = true) := by unfold Hid; rw [hT]; exact unB_gwT hgw
          have HU2 : Hid (∀ zs, xs ≠ zs → unB T zs = false) := fun zs hz => by rw [hT]; exact unB_other hgw hz
          have HG : Hid (∀ wx, OI w.heap.size wx (.slice oa xs.length oc) xs → Calls Tryd.prog 14 #[.string (wOf ds), .slice oa xs.length oc] wx fun e w' => e = .returned (.tuple #[.string T, .bool true]) ∧ Below wx.heap.size wx w') := fun wx h => by
            have := implGw_any (wOf ds) _ xs wx (by omega) h.read (by omega)
            rw [hgw, gwS_yes hgw, ← hT] at this; exact this
          have HUN : Hid (∀ wx, OI w.heap.size wx (.slice oa xs.length oc) xs → Below w.heap.size w wx → Calls Tryd.prog 9 #[.string T, .slice oa xs.length oc] wx fun e w' => e = .returned (.tuple #[.string (wOf ds), .bool true]) ∧ Below wx.heap.size wx w') := fun wx h hbx => by
            have := implUn_any T _ xs wx (by omega) h.read (by omega) (HM.out _ hbx)
            unfold UnPost unV at this
            rw [if_pos HU1.out, HFL.out] at this; exact this
          have HUO : Hid (∀ wx v zs, RI wx v zs → zs.length = i → xs ≠ zs → Below w.heap.size w wx → Calls Tryd.prog 9 #[.string T, v] wx fun e w' => e = .returned (.tuple #[.string ByteArray.empty, .bool false]) ∧ Below wx.heap.size wx w') := fun wx v zs h hl hz hbx => by
            have := implUn_any T _ zs wx (by omega) h (by omega) (HM.out _ hbx)
            unfold UnPost unV at this
            rw [if_neg (by rw [HU2.out zs hz]; simp)] at this; exact this
          have HTZ := Lib.hid hTz
          have HSZ := Lib.hid hsz1
          clear hxl hgw hT hTz hsz1
          refine (HG.out _ ho).mono ?_
          rintro e w3 ⟨rfl, hb1⟩
          replace ho := ho.later hb1
          replace hb := hb.trans (hb1.mono hb.size)
          clear hb1
          go_wp2_with fail
          refine (HUN.out _ ho hb).mono ?_
          rintro e w4 ⟨rfl, hb1⟩
          replace ho := ho.later hb1
          replace hb := hb.trans (hb1.mono hb.size)
          clear hb1
          have hxl : 0 < xs.length := by rw [HXL.out]; omega
          have HCAP := Lib.hid (ho.read.cap)
          obtain ⟨g, rfl, hg, hc0⟩ := ho.at 0 hxl
          have hx0 := HZ.out (xs.getD 0 0) (getD_mem hxl)
          obtain ⟨x0, hx0e⟩ : ∃ x0, x0 = xs.getD 0 0 := ⟨_, rfl⟩
          have HX0 := Lib.hid hx0e
          rw [← hx0e] at hc0 hx0
          clear hx0e
          have f0 : (0 : Int) < (xs.length : Int) := by omega
          have f1 : (1 : Int) ≤ (xs.length : Int) := by omega
          have f2 : (1 : Int) ≤ (oc : Int) := by have := HCAP.out; omega
          go_wp2_with fail
          have HNT : Hid (xs ≠ [x0 + 1] ++ xs.drop 1) := by unfold Hid; rw [HX0.out]; exact ne_tail hxl
          have HLT : Hid (([x0 + 1] ++ xs.drop 1).length = i) := by unfold Hid; rw [len_tail hxl]; exact HXL.out
          have HP1 : Hid (RI w4 (.slice (some ⟨g, 1, none⟩) (xs.length - 1) (oc - 1)) (xs.drop 1)) := RK.tail ho.read
          have HP0 : Hid (oc = 1 → RI w4 (.slice (some ⟨g, 0, none⟩) (xs.length - 1) 0) (xs.drop 1)) := fun h => by
            have h3 := HCAP.out
            rw [List.drop_eq_nil_of_le (by omega), show xs.length - 1 = 0 by omega]; exact RV.nil _ _ _ (Nat.zero_le _)
          have hwr : IntKind.i64.wrap (x0 + 1) = x0 + 1 := IntWalk.i64_in _ (by omega)
          refine wp_region_held_drew (S := fun w' => w'.cell? ⟨g, 0, none⟩ = some (.int .i64 x0)) (by kernel_rfl) (by (try dsimp only); go_keep) (fun hHeld => ?_)
          by_cases hoc : oc = 1
          · subst hoc
            have hl1 : xs.length = 1 := by have := HCAP.out; omega
            have HL1 := Lib.hid hl1
            clear hl1
            refine wpAnyH_take (i := 0) (oi := ⟨some 74, _, _, _, _, _⟩) (v := ?vs0) rfl (by kernel_rfl) (by kernel_rfl) (by kernel_rfl) (fun _ _ _ h => h) (Or.inl ⟨by rfl, ?ys0⟩) (by assumption) ?rs0
            case ys0 => (intro w hSw; (try dsimp only at hSw); go_simp; all_goals (with_reducible rfl))
            try simp only [Act.put, List.setIfInBounds_toArray, List.set_cons_zero, List.set_cons_succ]
            refine wpAnyH_take (i := 1) (oi := ⟨some 75, _, _, _, _, _⟩) (v := ?vs1) rfl (by kernel_rfl) (by kernel_rfl) (by kernel_rfl) (fun _ _ _ h => h) (Or.inl ⟨by rfl, ?ys1⟩) (by assumption) ?rs1
            case ys1 => (intro w hSw; (try dsimp only at hSw); go_simp; all_goals (with_reducible rfl))
            try simp only [Act.put, List.setIfInBounds_toArray, List.set_cons_zero, List.set_cons_succ]
            refine wpAnyH_take (i := 2) (oi := ⟨some 76, _, _, _, _, _⟩) (v := ?vs2) rfl (by kernel_rfl) (by kernel_rfl) (by kernel_rfl) (fun _ _ _ h => h) (Or.inl ⟨by rfl, ?ys2⟩) (by assumption) ?rs2
            case ys2 => (intro w hSw; (try dsimp only at hSw); go_simp; all_goals (with_reducible rfl))
            try simp only [Act.put, List.setIfInBounds_toArray, List.set_cons_zero, List.set_cons_succ]
            refine wpAnyH_take (i := 3) (oi := ⟨some 77, _, _, _, _, _⟩) (v := ?vs3) rfl (by kernel_rfl) (by kernel_rfl) (by kernel_rfl) (fun _ _ _ h => h) (Or.inl ⟨by rfl, ?ys3⟩) (by assumption) ?rs3
            case ys3 => (intro w hSw; (try dsimp only at hSw); go_simp; all_goals (with_reducible rfl))
            try simp only [Act.put, List.setIfInBounds_toArray, List.set_cons_zero, List.set_cons_succ]
            refine wpAnyH_take (i := 4) (oi := ⟨some 78, _, _, _, _, _⟩) (v := ?vs4) rfl (by kernel_rfl) (by kernel_rfl) (by kernel_rfl) (fun _ _ _ h => h) (Or.inl ⟨by rfl, ?ys4⟩) (by assumption) ?rs4
            case ys4 => (intro w hSw; (try dsimp only at hSw); go_simp; all_goals (with_reducible rfl))
            try simp only [Act.put, List.setIfInBounds_toArray, List.set_cons_zero, List.set_cons_succ]
            refine wpAnyH_take (i := 6) (oi := ⟨some 80, _, _, _, _, _⟩) (v := ?vs6) rfl (by kernel_rfl) (by kernel_rfl) (by kernel_rfl) (fun _ _ _ h => h) (Or.inl ⟨by rfl, ?ys6⟩) (by assumption) ?rs6
            case ys6 => (intro w hSw; (try dsimp only at hSw); go_simp; all_goals (with_reducible rfl))
            try simp only [Act.put, List.setIfInBounds_toArray, List.set_cons_zero, List.set_cons_succ]
            refine wpAnyH_take (i := 7) (oi := ⟨some 81, _, _, _, _, _⟩) (v := ?vs7) rfl (by kernel_rfl) (by kernel_rfl) (by kernel_rfl) (fun _ _ _ h => h) (Or.inl ⟨by rfl, ?ys7⟩) (by assumption) ?rs7
            case ys7 => (intro w hSw; (try dsimp only at hSw); go_simp; all_goals (with_reducible rfl))
            try simp only [Act.put, List.setIfInBounds_toArray, List.set_cons_zero, List.set_cons_succ]
            refine wpAnyH_ready (rs := [5]) (by kernel_rfl) (by simp) ?_
            refine AllReadyH.cons rfl (fun K hK => ?_) AllReadyH.nil
            go_simp
            refine hK.out _ _ ?_ (fun hHeld => ?_)
            · (try dsimp only)
              go_keep
            clear hK K
            try simp only [Act.put, List.setIfInBounds_toArray, List.set_cons_zero, List.set_cons_succ]
            have hoN : OI w4.heap.size (w4.alloc (.cells #[.int .i64 (x0 + 1)] 2)).drew (.slice (some ⟨w4.heap.size, 0, none⟩) 1 1) [x0 + 1] := (OV.lit _ _ [.int .i64 (x0 + 1)] (Nat.le_refl _) (by simp [maxLen])).drew
            have hbN : Below w4.heap.size w4 (w4.alloc (.cells #[.int .i64 (x0 + 1)] 2)).drew := ((Below.refl _ _).alloc (Nat.le_refl _) _).drew
            have hzN := hbN.size
            have hRV : RI (w4.alloc (.cells #[.int .i64 (x0 + 1)] 2)).drew (.slice (some ⟨g, 0, none⟩) (xs.length - 1) 0) (xs.drop 1) := RV.later (HP0.out rfl) hbN
            generalize (w4.alloc (.cells #[.int .i64 (x0 + 1)] 2)).drew = w5 at *
            refine wpAnyH_ready (rs := [8]) (by kernel_rfl) (by simp) ?_
            refine AllReadyH.cons rfl (fun K hK => ?_) AllReadyH.nil
            refine step_apps Tryd.underlying22 info_i64 rfl (by omega) (by rfl) _ _ (by rfl) w4.heap.size _ _ (by rfl) hoN (.slice (some ⟨g, 0, none⟩) (xs.length - 1) 0) ((xs.drop 1).map (Value.int .i64)) (by rfl) hRV (fun u hu => by obtain ⟨z, _, rfl⟩ := List.mem_map.1 hu; rfl) (by have := HXL.out; simp; omega) hzN ?_
            intro v' w6 hoM hgr
            have hb6 : Below w4.heap.size w4 w6 := own_below hbN hoN hgr hzN
            have hoM2 : OI w4.heap.size w6 v' ([x0 + 1] ++ xs.drop 1) := by
              unfold OI OK
              rw [List.map_append]; exact hoM
            clear hoM hoN hgr hRV hbN hzN
            replace hc0 := (hb6.cell (p := ⟨g, 0, none⟩) (World.block_lt_of_cell? w4 _ hc0)).trans hc0
            replace ho := ho.later hb6
            replace hb := hb.trans (hb6.mono hb.size)
            go_simp
            refine hK.out _ _ ?_ (fun hHeld => ?_)
            · (try dsimp only)
              go_keep
            clear hK K
            try simp only [Act.put, List.setIfInBounds_toArray, List.set_cons_zero, List.set_cons_succ]
            refine wpAnyH_ready (rs := [9]) (by kernel_rfl) (by simp) ?_
            refine AllReadyH.cons rfl (fun K hK => ?_) AllReadyH.nil
            go_simp
            go_at_call 9
            refine (HUO.out _ _ _ hoM2.read HLT.out HNT.out hb).mono ?_
            rintro e w7 ⟨rfl, hb1⟩
            replace hc0 := (hb1.cell (p := ⟨g, 0, none⟩) (World.block_lt_of_cell? w6 _ hc0)).trans hc0
            replace ho := ho.later hb1
            replace hb := hb.trans (hb1.mono hb.size)
            clear hb1
            go_wp2_with fail
            refine hK.out _ _ ?_ (fun hHeld => ?_)
            · (try dsimp only)
              go_keep
            clear hK K
            try simp only [Act.put, List.setIfInBounds_toArray, List.set_cons_zero, List.set_cons_succ]
            refine wpAnyH_take (i := 10) (oi := ⟨some 73, _, _, _, _, _⟩) (v := ?vs10) rfl (by kernel_rfl) (by kernel_rfl) (by kernel_rfl) (fun _ _ _ h => h) (Or.inl ⟨by rfl, ?ys10⟩) (by assumption) ?rs10
            case ys10 => (intro w hSw; (try dsimp only at hSw); go_simp; all_goals (with_reducible rfl))
            try simp only [Act.put, List.setIfInBounds_toArray, List.set_cons_zero, List.set_cons_succ]
            refine wpAnyH_take (i := 11) (oi := ⟨some 84, _, _, _, _, _⟩) (v := ?vs11) rfl (by kernel_rfl) (by kernel_rfl) (by kernel_rfl) (fun _ _ _ h => h) (Or.inl ⟨by rfl, ?ys11⟩) (by assumption) ?rs11
            case ys11 => (intro w hSw; (try dsimp only at hSw); go_simp; all_goals (with_reducible rfl))
            try simp only [Act.put, List.setIfInBounds_toArray, List.set_cons_zero, List.set_cons_succ]
            refine wpAnyH_take (i := 12) (oi := ⟨some 85, _, _, _, _, _⟩) (v := ?vs12) rfl (by kernel_rfl) (by kernel_rfl) (by kernel_rfl) (fun _ _ _ h => h) (Or.inl ⟨by rfl, ?ys12⟩) (by assumption) ?rs12
            case ys12 => (intro w hSw; (try dsimp only at hSw); go_simp; all_goals (with_reducible rfl))
            try simp only [Act.put, List.setIfInBounds_toArray, List.set_cons_zero, List.set_cons_succ]
            refine wpAnyH_take (i := 13) (oi := ⟨some 17, _, _, _, _, _⟩) (v := ?vs13) rfl (by kernel_rfl) (by kernel_rfl) (by kernel_rfl) (fun _ _ _ h => h) (Or.inl ⟨by rfl, ?ys13⟩) (by assumption) ?rs13
            case ys13 => (intro w hSw; (try dsimp only at hSw); go_simp; all_goals (with_reducible rfl))
            try simp only [Act.put, List.setIfInBounds_toArray, List.set_cons_zero, List.set_cons_succ]
            refine wpAnyH_take (i := 14) (oi := ⟨some 18, _, _, _, _, _⟩) (v := ?vs14) rfl (by kernel_rfl) (by kernel_rfl) (by kernel_rfl) (fun _ _ _ h => h) (Or.inl ⟨by rfl, ?ys14⟩) (by assumption) ?rs14
            case ys14 => (intro w hSw; (try dsimp only at hSw); go_simp; all_goals (with_reducible rfl))
            try simp only [Act.put, List.setIfInBounds_toArray, List.set_cons_zero, List.set_cons_succ]
            refine wpAnyH_done (by kernel_rfl) ?_ _
            clear ho hHeld hc0 hwr hb6 hoM2 f0 f1 f2
            go_wp2_with fail
            go_loopw [19, 20] (fun pv kv wr => ∃ k : Nat, k ≤ T.size ∧ kv = .int .i64 k ∧ pv = .string (flatS (T.extract 0 k)) ∧ wr = w7) (fun _ kv _ => T.size - (intOf kv).toNat)
            case atStart => exact ⟨0, Nat.zero_le _, rfl, by rw [flat_zero], rfl⟩
            case round =>
              obtain ⟨k, hk, rfl, rfl, rfl⟩ := hrel
              have HF1 : Hid (∀ (hk : k < T.size), (T[k].toNat : Int) = 45 → flatS (T.extract 0 (k + 1)) = flatS (T.extract 0 k)) := fun h h2 => flat_skip h h2
              have HF2 : Hid (∀ (hk : k < T.size), (T[k].toNat : Int) ≠ 45 → flatS (T.extract 0 (k + 1)) = flatS (T.extract 0 k) ++ T.extract k (k + 1)) := fun h h2 => flat_more h h2
              have hf1 : (flatS (T.extract 0 k)).size ≤ 100 := by
                have h1 := flatS_size (T.extract 0 k)
                have h2 := HTZ.out
                rw [ByteArray.size_extract] at h1; omega
              have hf2 : (T.extract k (k + 1)).size ≤ 100 := by
                have h2 := HTZ.out
                rw [ByteArray.size_extract]; omega
              by_cases hlt : k < T.size
              · have hT40 : (T.size : Int) ≤ 100 := by have := HTZ.out; omega
                by_cases h45 : (T[k].toNat : Int) = 45
                · have HF3 := Lib.hid (HF1.out hlt h45)
                  have hne : ((T[k].toNat : Int) != 45) = false := by simp [h45]
                  clear h45 hf1 hf2
                  go_wp2_with fail
                  go_roundw
                  case rel => exact ⟨k + 1, by omega, by go_num, by rw [HF3.out], by first | trivial | rfl⟩
                  case measure => first | (simp [intOf]; done) | (simp [intOf]; omega)
                · have HF3 := Lib.hid (HF2.out hlt h45)
                  have hne : ((T[k].toNat : Int) != 45) = true := by simpa using h45
                  clear h45
                  go_wp2_with fail
                  go_roundw
                  case rel => exact ⟨k + 1, by omega, by go_num, by rw [HF3.out], by first | trivial | rfl⟩
                  case measure => first | (simp [intOf]; done) | (simp [intOf]; omega)
              · obtain rfl : k = T.size := by omega
                have hfe : flatS (T.extract 0 T.size) = wOf ds := by rw [flat_all]; exact HFL.out
                rw [hfe] at *
                have e1 := str_eq (wOf ds)
                have hlen : ((T.size : Int) == ((wOf ds).size : Int) + (xs.length : Int) - 1) = true := by
                  have h1 := HTZ.out
                  have h2 := HSZ.out
                  have h3 := HXL.out
                  simp; omega
                have hl1 : (wOf ds).size ≤ 100 := by have h2 := HSZ.out; omega
                have hl2 : xs.length ≤ 100 := by have h2 := HXL.out; omega
                have hl3 : 1 ≤ xs.length := by have h2 := HXL.out; omega
                clear hfe
                go_wp2_with fail
                go_ret
                exact ⟨rfl, hb⟩
          · have f3 : (1 : Int) < (oc : Int) := by omega
            refine wpAnyH_take (i := 0) (oi := ⟨some 74, _, _, _, _, _⟩) (v := ?vt0) rfl (by kernel_rfl) (by kernel_rfl) (by kernel_rfl) (fun _ _ _ h => h) (Or.inl ⟨by rfl, ?yt0⟩) (by assumption) ?rt0
            case yt0 => (intro w hSw; (try dsimp only at hSw); go_simp; all_goals (with_reducible rfl))
            try simp only [Act.put, List.setIfInBounds_toArray, List.set_cons_zero, List.set_cons_succ]
            refine wpAnyH_take (i := 1) (oi := ⟨some 75, _, _, _, _, _⟩) (v := ?vt1) rfl (by kernel_rfl) (by kernel_rfl) (by kernel_rfl) (fun _ _ _ h => h) (Or.inl ⟨by rfl, ?yt1⟩) (by assumption) ?rt1
            case yt1 => (intro w hSw; (try dsimp only at hSw); go_simp; all_goals (with_reducible rfl))
            try simp only [Act.put, List.setIfInBounds_toArray, List.set_cons_zero, List.set_cons_succ]
            refine wpAnyH_take (i := 2) (oi := ⟨some 76, _, _, _, _, _⟩) (v := ?vt2) rfl (by kernel_rfl) (by kernel_rfl) (by kernel_rfl) (fun _ _ _ h => h) (Or.inl ⟨by rfl, ?yt2⟩) (by assumption) ?rt2
            case yt2 => (intro w hSw; (try dsimp only at hSw); go_simp; all_goals (with_reducible rfl))
            try simp only [Act.put, List.setIfInBounds_toArray, List.set_cons_zero, List.set_cons_succ]
            refine wpAnyH_take (i := 3) (oi := ⟨some 77, _, _, _, _, _⟩) (v := ?vt3) rfl (by kernel_rfl) (by kernel_rfl) (by kernel_rfl) (fun _ _ _ h => h) (Or.inl ⟨by rfl, ?yt3⟩) (by assumption) ?rt3
            case yt3 => (intro w hSw; (try dsimp only at hSw); go_simp; all_goals (with_reducible rfl))
            try simp only [Act.put, List.setIfInBounds_toArray, List.set_cons_zero, List.set_cons_succ]
            refine wpAnyH_take (i := 4) (oi := ⟨some 78, _, _, _, _, _⟩) (v := ?vt4) rfl (by kernel_rfl) (by kernel_rfl) (by kernel_rfl) (fun _ _ _ h => h) (Or.inl ⟨by rfl, ?yt4⟩) (by assumption) ?rt4
            case yt4 => (intro w hSw; (try dsimp only at hSw); go_simp; all_goals (with_reducible rfl))
            try simp only [Act.put, List.setIfInBounds_toArray, List.set_cons_zero, List.set_cons_succ]
            refine wpAnyH_take (i := 6) (oi := ⟨some 80, _, _, _, _, _⟩) (v := ?vt6) rfl (by kernel_rfl) (by kernel_rfl) (by kernel_rfl) (fun _ _ _ h => h) (Or.inl ⟨by rfl, ?yt6⟩) (by assumption) ?rt6
            case yt6 => (intro w hSw; (try dsimp only at hSw); go_simp; all_goals (with_reducible rfl))
            try simp only [Act.put, List.setIfInBounds_toArray, List.set_cons_zero, List.set_cons_succ]
            refine wpAnyH_take (i := 7) (oi := ⟨some 81, _, _, _, _, _⟩) (v := ?vt7) rfl (by kernel_rfl) (by kernel_rfl) (by kernel_rfl) (fun _ _ _ h => h) (Or.inl ⟨by rfl, ?yt7⟩) (by assumption) ?rt7
            case yt7 => (intro w hSw; (try dsimp only at hSw); go_simp; all_goals (with_reducible rfl))
            try simp only [Act.put, List.setIfInBounds_toArray, List.set_cons_zero, List.set_cons_succ]
            refine wpAnyH_ready (rs := [5]) (by kernel_rfl) (by simp) ?_
            refine AllReadyH.cons rfl (fun K hK => ?_) AllReadyH.nil
            go_simp
            refine hK.out _ _ ?_ (fun hHeld => ?_)
            · (try dsimp only)
              go_keep
            clear hK K
            try simp only [Act.put, List.setIfInBounds_toArray, List.set_cons_zero, List.set_cons_succ]
            have hoN : OI w4.heap.size (w4.alloc (.cells #[.int .i64 (x0 + 1)] 2)).drew (.slice (some ⟨w4.heap.size, 0, none⟩) 1 1) [x0 + 1] := (OV.lit _ _ [.int .i64 (x0 + 1)] (Nat.le_refl _) (by simp [maxLen])).drew
            have hbN : Below w4.heap.size w4 (w4.alloc (.cells #[.int .i64 (x0 + 1)] 2)).drew := ((Below.refl _ _).alloc (Nat.le_refl _) _).drew
            have hzN := hbN.size
            have hRV : RI (w4.alloc (.cells #[.int .i64 (x0 + 1)] 2)).drew (.slice (some ⟨g, 1, none⟩) (xs.length - 1) (oc - 1)) (xs.drop 1) := RV.later HP1.out hbN
            generalize (w4.alloc (.cells #[.int .i64 (x0 + 1)] 2)).drew = w5 at *
            refine wpAnyH_ready (rs := [8]) (by kernel_rfl) (by simp) ?_
            refine AllReadyH.cons rfl (fun K hK => ?_) AllReadyH.nil
            refine step_apps Tryd.underlying22 info_i64 rfl (by omega) (by rfl) _ _ (by rfl) w4.heap.size _ _ (by rfl) hoN (.slice (some ⟨g, 1, none⟩) (xs.length - 1) (oc - 1)) ((xs.drop 1).map (Value.int .i64)) (by rfl) hRV (fun u hu => by obtain ⟨z, _, rfl⟩ := List.mem_map.1 hu; rfl) (by have := HXL.out; simp; omega) hzN ?_
            intro v' w6 hoM hgr
            have hb6 : Below w4.heap.size w4 w6 := own_below hbN hoN hgr hzN
            have hoM2 : OI w4.heap.size w6 v' ([x0 + 1] ++ xs.drop 1) := by
              unfold OI OK
              rw [List.map_append]; exact hoM
            clear hoM hoN hgr hRV hbN hzN
            replace hc0 := (hb6.cell (p := ⟨g, 0, none⟩) (World.block_lt_of_cell? w4 _ hc0)).trans hc0
            replace ho := ho.later hb6
            replace hb := hb.trans (hb6.mono hb.size)
            go_simp
            refine hK.out _ _ ?_ (fun hHeld => ?_)
            · (try dsimp only)
              go_keep
            clear hK K
            try simp only [Act.put, List.setIfInBounds_toArray, List.set_cons_zero, List.set_cons_succ]
            refine wpAnyH_ready (rs := [9]) (by kernel_rfl) (by simp) ?_
            refine AllReadyH.cons rfl (fun K hK => ?_) AllReadyH.nil
            go_simp
            go_at_call 9
            refine (HUO.out _ _ _ hoM2.read HLT.out HNT.out hb).mono ?_
            rintro e w7 ⟨rfl, hb1⟩
            replace hc0 := (hb1.cell (p := ⟨g, 0, none⟩) (World.block_lt_of_cell? w6 _ hc0)).trans hc0
            replace ho := ho.later hb1
            replace hb := hb.trans (hb1.mono hb.size)
            clear hb1
            go_wp2_with fail
            refine hK.out _ _ ?_ (fun hHeld => ?_)
            · (try dsimp only)
              go_keep
            clear hK K
            try simp only [Act.put, List.setIfInBounds_toArray, List.set_cons_zero, List.set_cons_succ]
            refine wpAnyH_take (i := 10) (oi := ⟨some 73, _, _, _, _, _⟩) (v := ?vt10) rfl (by kernel_rfl) (by kernel_rfl) (by kernel_rfl) (fun _ _ _ h => h) (Or.inl ⟨by rfl, ?yt10⟩) (by assumption) ?rt10
            case yt10 => (intro w hSw; (try dsimp only at hSw); go_simp; all_goals (with_reducible rfl))
            try simp only [Act.put, List.setIfInBounds_toArray, List.set_cons_zero, List.set_cons_succ]
            refine wpAnyH_take (i := 11) (oi := ⟨some 84, _, _, _, _, _⟩) (v := ?vt11) rfl (by kernel_rfl) (by kernel_rfl) (by kernel_rfl) (fun _ _ _ h => h) (Or.inl ⟨by rfl, ?yt11⟩) (by assumption) ?rt11
            case yt11 => (intro w hSw; (try dsimp only at hSw); go_simp; all_goals (with_reducible rfl))
            try simp only [Act.put, List.setIfInBounds_toArray, List.set_cons_zero, List.set_cons_succ]
            refine wpAnyH_take (i := 12) (oi := ⟨some 85, _, _, _, _, _⟩) (v := ?vt12) rfl (by kernel_rfl) (by kernel_rfl) (by kernel_rfl) (fun _ _ _ h => h) (Or.inl ⟨by rfl, ?yt12⟩) (by assumption) ?rt12
            case yt12 => (intro w hSw; (try dsimp only at hSw); go_simp; all_goals (with_reducible rfl))
            try simp only [Act.put, List.setIfInBounds_toArray, List.set_cons_zero, List.set_cons_succ]
            refine wpAnyH_take (i := 13) (oi := ⟨some 17, _, _, _, _, _⟩) (v := ?vt13) rfl (by kernel_rfl) (by kernel_rfl) (by kernel_rfl) (fun _ _ _ h => h) (Or.inl ⟨by rfl, ?yt13⟩) (by assumption) ?rt13
            case yt13 => (intro w hSw; (try dsimp only at hSw); go_simp; all_goals (with_reducible rfl))
            try simp only [Act.put, List.setIfInBounds_toArray, List.set_cons_zero, List.set_cons_succ]
            refine wpAnyH_take (i := 14) (oi := ⟨some 18, _, _, _, _, _⟩) (v := ?vt14) rfl (by kernel_rfl) (by kernel_rfl) (by kernel_rfl) (fun _ _ _ h => h) (Or.inl ⟨by rfl, ?yt14⟩) (by assumption) ?rt14
            case yt14 => (intro w hSw; (try dsimp only at hSw); go_simp; all_goals (with_reducible rfl))
            try simp only [Act.put, List.setIfInBounds_toArray, List.set_cons_zero, List.set_cons_succ]
            refine wpAnyH_done (by kernel_rfl) ?_ _
            clear ho hHeld hc0 hwr hb6 hoM2 f0 f1 f2
            go_wp2_with fail
            go_loopw [19, 20] (fun pv kv wr => ∃ k : Nat, k ≤ T.size ∧ kv = .int .i64 k ∧ pv = .string (flatS (T.extract 0 k)) ∧ wr = w7) (fun _ kv _ => T.size - (intOf kv).toNat)
            case atStart => exact ⟨0, Nat.zero_le _, rfl, by rw [flat_zero], rfl⟩
            case round =>
              obtain ⟨k, hk, rfl, rfl, rfl⟩ := hrel
              have HF1 : Hid (∀ (hk : k < T.size), (T[k].toNat : Int) = 45 → flatS (T.extract 0 (k + 1)) = flatS (T.extract 0 k)) := fun h h2 => flat_skip h h2
              have HF2 : Hid (∀ (hk : k < T.size), (T[k].toNat : Int) ≠ 45 → flatS (T.extract 0 (k + 1)) = flatS (T.extract 0 k) ++ T.extract k (k + 1)) := fun h h2 => flat_more h h2
              have hf1 : (flatS (T.extract 0 k)).size ≤ 100 := by
                have h1 := flatS_size (T.extract 0 k)
                have h2 := HTZ.out
                rw [ByteArray.size_extract] at h1; omega
              have hf2 : (T.extract k (k + 1)).size ≤ 100 := by
                have h2 := HTZ.out
                rw [ByteArray.size_extract]; omega
              by_cases hlt : k < T.size
              · have hT40 : (T.size : Int) ≤ 100 := by have := HTZ.out; omega
                by_cases h45 : (T[k].toNat : Int) = 45
                · have HF3 := Lib.hid (HF1.out hlt h45)
                  have hne : ((T[k].toNat : Int) != 45) = false := by simp [h45]
                  clear h45 hf1 hf2
                  go_wp2_with fail
                  go_roundw
                  case rel => exact ⟨k + 1, by omega, by go_num, by rw [HF3.out], by first | trivial | rfl⟩
                  case measure => first | (simp [intOf]; done) | (simp [intOf]; omega)
                · have HF3 := Lib.hid (HF2.out hlt h45)
                  have hne : ((T[k].toNat : Int) != 45) = true := by simpa using h45
                  clear h45
                  go_wp2_with fail
                  go_roundw
                  case rel => exact ⟨k + 1, by omega, by go_num, by rw [HF3.out], by first | trivial | rfl⟩
                  case measure => first | (simp [intOf]; done) | (simp [intOf]; omega)
              · obtain rfl : k = T.size := by omega
                have hfe : flatS (T.extract 0 T.size) = wOf ds := by rw [flat_all]; exact HFL.out
                rw [hfe] at *
                have e1 := str_eq (wOf ds)
                have hlen : ((T.size : Int) == ((wOf ds).size : Int) + (xs.length : Int) - 1) = true := by
                  have h1 := HTZ.out
                  have h2 := HSZ.out
                  have h3 := HXL.out
                  simp; omega
                have hl1 : (wOf ds).size ≤ 100 := by have h2 := HSZ.out; omega
                have hl2 : xs.length ≤ 100 := by have h2 := HXL.out; omega
                have hl3 : 1 ≤ xs.length := by have h2 := HXL.out; omega
                clear hfe
                go_wp2_with fail
                go_ret
                exact ⟨rfl, hb⟩
end Go.Proofs.YtdlagajnefkklaaDoor
