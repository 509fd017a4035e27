/- The law of ProductGroup, for all arguments. -/
import Derived.Test.YtgedeifajmoljaaProdS
import Derived.Deep.DeepCutAuto
namespace Go.Proofs.Ytgedeifajmoljaa
open Go.RowKit

theorem prX_small (x y : List (List Int)) : (prX x y).length ≤ 1048576 ∧ Small (prX x y) ∧ tot (prX x y) ≤ 1048576 := by
  unfold prX
  split
  · rename_i h
    unfold prB at h
    rw [Bool.and_eq_true, Bool.and_eq_true, decide_eq_true_eq] at h
    exact mkT_small _ _ (by omega)
  · exact ⟨by simp, fun j hj => by simp at hj, by simp [tot]⟩

/-- What a region leaves that makes a copy of a result in a cell of its own. -/
def FinW (wS : World) (z : List (List Int)) (PW : Nat) (wa : Option Addr) (wc : Nat) (wx : World) : Prop :=
  Below wS.heap.size wS wx ∧ wx.cell? ⟨PW, 0, none⟩ = some (.slice wa z.length wc) ∧ PW < wx.heap.size ∧ wS.heap.size ≤ PW ∧ ∃ B S, wS.heap.size ≤ B ∧ S ≤ wx.heap.size ∧ (PW < B ∨ S ≤ PW) ∧ OT B S wx (.slice wa z.length wc) z
theorem FinW.mk {wS : World} {z : List (List Int)} {PW : Nat} {wa : Option Addr} {wc : Nat} {w9 : World} {u : Value} {B S : Nat} (hbR : Below wS.heap.size wS w9) (cw : w9.cell? ⟨PW, 0, none⟩ = some u) (ltw : PW < w9.heap.size) (hPS : wS.heap.size ≤ PW) (hB : wS.heap.size ≤ B) (hS : S ≤ w9.heap.size) (hd : PW < B ∨ S ≤ PW) (ow : OT B S w9 (.slice wa z.length wc) z) :
    FinW wS z PW wa wc (w9.setCell ⟨PW, 0, none⟩ (.slice wa z.length wc)) :=
  ⟨hbR.setCell (p := ⟨PW, 0, none⟩) hPS _, World.cell?_setCell_same _ _ _ cw, by simp; exact ltw, hPS, B, S, hB, by simp; exact hS, hd, ow.keep fun k h1 h2 => heap_setCell_other _ _ _ _ (by show k ≠ PW; omega)⟩
set_option maxHeartbeats 8000000 in
set_option maxRecDepth 100000 in
theorem lawProduct_any (v u : Value) (x y : List (List Int)) (w : World) (hx : RT w v x) (hy : RT w u y) :
    Calls Try.prog 12 #[.agg #[v], .agg #[u]] w fun e w' => e = .returned (.bool true) ∧ Below w.heap.size w w' := by
  obtain ⟨a, c, rfl⟩ := hx.slice
  obtain ⟨a', c', rfl⟩ := hy.slice
  have hbw : Below w.heap.size w ((w.alloc (.cells #[.slice a x.length c] 30)).alloc (.cells #[.slice a' y.length c'] 30)) := ((Below.refl _ _).alloc (Nat.le_refl _) _).alloc (by simp) _
  have C0 : ((w.alloc (.cells #[.slice a x.length c] 30)).alloc (.cells #[.slice a' y.length c'] 30)).cell? ⟨w.heap.size, 0, none⟩ = some (.slice a x.length c) := by
    rw [World.cell?_alloc_past _ _ _ (by simp), World.cell?_alloc_at _ _ _ _ rfl]; rfl
  have C1 : ((w.alloc (.cells #[.slice a x.length c] 30)).alloc (.cells #[.slice a' y.length c'] 30)).cell? ⟨w.heap.size + 1, 0, none⟩ = some (.slice a' y.length c') := by
    rw [World.cell?_alloc_at _ _ _ _ (by simp)]; rfl
  have hl1 : w.heap.size + 1 < ((w.alloc (.cells #[.slice a x.length c] 30)).alloc (.cells #[.slice a' y.length c'] 30)).heap.size := by simp
  have hl0 : w.heap.size < ((w.alloc (.cells #[.slice a x.length c] 30)).alloc (.cells #[.slice a' y.length c'] 30)).heap.size := by omega
  replace hx := hx.later hbw
  replace hy := hy.later hbw
  by_cases hs : (szT x : Int) ≤ 1048576
  · obtain ⟨hm, hr⟩ := small_of hs
    have HS := Lib.hid hs
    by_cases hs2 : (szT y : Int) ≤ 1048576 - szT x
    · obtain ⟨hm', hr'⟩ := small_of (x := y) (by omega)
      have HS2 := Lib.hid hs2
      have htx : tot x ≤ 1048576 := by unfold szT at hs; omega
      have hty : tot y ≤ 1048576 := by unfold szT at hs2; omega
      clear hs hs2
      obtain ⟨z, hz⟩ : ∃ z, z = prX x y := ⟨_, rfl⟩
      obtain ⟨rb, hrb⟩ : ∃ b, b = prB x y := ⟨_, rfl⟩
      have hzs : z.length ≤ 1048576 ∧ Small z ∧ tot z ≤ 1048576 := by rw [hz]; exact prX_small x y
      obtain ⟨zm, zr, zt⟩ := hzs
      have HI : Hid (∀ w1 v1 v2, RT w1 v1 x → RT w1 v2 y → Calls Try.prog 42 #[.agg #[v1], .agg #[v2]] w1 fun e w' => ∃ ua uc, e = .returned (.tuple #[.agg #[.slice ua z.length uc], .bool rb]) ∧ OT w1.heap.size w'.heap.size w' (.slice ua z.length uc) z ∧ Below w1.heap.size w1 w') := fun w1 v1 v2 h1 h2 => by
        rw [hz, hrb]
        refine (implProd_any v1 v2 x y w1 h1 hm hr h2 hm' hr').mono ?_
        rintro e w' ⟨u, rfl, ho, hb⟩
        obtain ⟨ua, uc, rfl⟩ := ho.slice
        exact ⟨ua, uc, rfl, ho, hb⟩
      have HP : Hid (∀ w1 v1 v2, RT w1 v1 x → RT w1 v2 y → Calls Try.prog 41 #[.agg #[v1], .agg #[v2]] w1 fun e w' => ∃ ua uc, e = .returned (.tuple #[.agg #[.slice ua z.length uc], .bool rb]) ∧ OT w1.heap.size w'.heap.size w' (.slice ua z.length uc) z ∧ Below w1.heap.size w1 w') := fun w1 v1 v2 h1 h2 => by
        rw [hz, hrb]
        refine (specProd_any v1 v2 x y w1 h1 hm hr h2 hm' hr').mono ?_
        rintro e w' ⟨u, rfl, ho, hb⟩
        obtain ⟨ua, uc, rfl⟩ := ho.slice
        exact ⟨ua, uc, rfl, ho, hb⟩
      clear hz hrb
      go_enter Try.func12, Try.ntmps12
      go_wp2_with fail
      generalize (w.alloc (.cells #[.slice a x.length c] 30)).alloc (.cells #[.slice a' y.length c'] 30) = W0 at *
      refine (szGroup_yes _ x _ _ hx (by omega) HS.out).mono ?_
      rintro e w1 ⟨r, rfl, HR, h1, h2, hb⟩
      have hx1 := hx.later hb
      have hy1 := hy.later hb
      have c0 := (hb.cell (p := ⟨w.heap.size, 0, none⟩) hl0).trans C0
      have c1 := (hb.cell (p := ⟨w.heap.size + 1, 0, none⟩) hl1).trans C1
      go_wp2_with fail
      clear c0 c1
      refine (szGroup_yes _ y _ _ hy1 (by omega) (by rw [HR.out]; exact HS2.out)).mono ?_
      rintro e w2 ⟨r2, rfl, _, h3, h4, hb1⟩
      clear hx1 hy1
      replace hb := hb.trans (hb1.mono hb.size)
      have hsz' := hb1.size
      clear hb1
      have hx1 := hx.later hb
      have hy1 := hy.later hb
      have c0 := (hb.cell (p := ⟨w.heap.size, 0, none⟩) hl0).trans C0
      have c1 := (hb.cell (p := ⟨w.heap.size + 1, 0, none⟩) hl1).trans C1
      have HXS := Lib.hid hx1
      have HYS := Lib.hid hy1
      have lt0 := Nat.lt_of_lt_of_le hl0 hb.size
      have lt1 := Nat.lt_of_lt_of_le hl1 hb.size
      clear hx1 hy1
      obtain ⟨wS, hwS⟩ : ∃ wS, wS = w2 := ⟨_, rfl⟩
      subst hwS
      go_upto_region 8 with fail
      go_cut [6, 7] (fun s6 s7 wx => ∃ (PW : Nat) (wa : Option Addr) (wc : Nat), s6 = .pointer (some ⟨PW, 0, none⟩) ∧ s7 = .bool rb ∧ FinW wS z PW wa wc wx)
      case first =>
        refine wp_region_held_drew (S := fun w' => w'.cell? ⟨w.heap.size, 0, none⟩ = some (.slice a x.length c) ∧ w'.cell? ⟨w.heap.size + 1, 0, none⟩ = some (.slice a' y.length c')) (by kernel_rfl) (by (try dsimp only); go_keep) (fun hHeld => ?_)
        have hbR : Below wS.heap.size wS wS.drew := (Below.refl _ _).drew
        have lS0 := lt0
        have lS1 := lt1
        replace lt0 : w.heap.size < wS.drew.heap.size := lt0
        replace lt1 : w.heap.size + 1 < wS.drew.heap.size := lt1
        replace c0 : wS.drew.cell? ⟨w.heap.size, 0, none⟩ = some (.slice a x.length c) := c0
        replace c1 : wS.drew.cell? ⟨w.heap.size + 1, 0, none⟩ = some (.slice a' y.length c') := c1
        generalize wS.drew = wd at *
        refine wpAnyH_take (i := 0) (oi := ⟨some 28, _, _, _, _, _⟩) (v := ?vpz0) rfl (by kernel_rfl) (by kernel_rfl) (by kernel_rfl) (fun _ _ _ h => h) (Or.inl ⟨by rfl, ?ypz0⟩) (by assumption) ?rpz0
        case ypz0 => (intro w hSw; (try dsimp only at hSw); go_simp; all_goals (with_reducible rfl))
        try simp only [Act.put, List.setIfInBounds_toArray, List.set_cons_zero, List.set_cons_succ]
        refine wpAnyH_take (i := 2) (oi := ⟨some 30, _, _, _, _, _⟩) (v := ?vpz2) rfl (by kernel_rfl) (by kernel_rfl) (by kernel_rfl) (fun _ _ _ h => h) (Or.inl ⟨by rfl, ?ypz2⟩) (by assumption) ?rpz2
        case ypz2 => (intro w hSw; (try dsimp only at hSw); go_simp; all_goals (with_reducible rfl))
        try simp only [Act.put, List.setIfInBounds_toArray, List.set_cons_zero, List.set_cons_succ]
        refine wpAnyH_ready (rs := [1, 8]) (by kernel_rfl) (by simp) ?_
        refine AllReadyH.cons rfl (fun K hK => ?_) ?_
        · go_simp
          (go_at_call 24; refine (toGroup_any _ x _ (HXS.out.later hbR) hm hr).mono ?_; rintro e w7 ⟨u7, rfl, o7, hb7⟩)
          have r7 := o7.read
          clear o7
          replace c0 := (hb7.cell (p := ⟨w.heap.size, 0, none⟩) lt0).trans c0
          replace c1 := (hb7.cell (p := ⟨w.heap.size + 1, 0, none⟩) lt1).trans c1
          replace lt0 := Nat.lt_of_lt_of_le lt0 hb7.size
          replace lt1 := Nat.lt_of_lt_of_le lt1 hb7.size
          replace hbR := hbR.trans (hb7.mono hbR.size)
          try replace cw := (hb7.cell (p := ⟨PW, 0, none⟩) ltw).trans cw
          try replace fw := (hb7.frozen (p := ⟨PW, 0, none⟩) ltw).trans fw
          try replace ltw := Nat.lt_of_lt_of_le ltw hb7.size
          clear hb7
          go_wp2_with fail
          refine hK.out _ _ (by (try dsimp only); go_keep) (fun hHeld => ?_)
          clear hK K
          try simp only [Act.put, List.setIfInBounds_toArray, List.set_cons_zero, List.set_cons_succ]
          refine wpAnyH_ready (rs := [3, 8]) (by kernel_rfl) (by simp) ?_
          refine AllReadyH.cons rfl (fun K hK => ?_) ?_
          · go_simp
            (go_at_call 24; refine (toGroup_any _ y _ (HYS.out.later hbR) hm' hr').mono ?_; rintro e w8 ⟨u8, rfl, o8, hb7⟩)
            have r8 := o8.read
            clear o8
            replace c0 := (hb7.cell (p := ⟨w.heap.size, 0, none⟩) lt0).trans c0
            replace c1 := (hb7.cell (p := ⟨w.heap.size + 1, 0, none⟩) lt1).trans c1
            replace lt0 := Nat.lt_of_lt_of_le lt0 hb7.size
            replace lt1 := Nat.lt_of_lt_of_le lt1 hb7.size
            replace hbR := hbR.trans (hb7.mono hbR.size)
            replace r7 := r7.later hb7
            try replace cw := (hb7.cell (p := ⟨PW, 0, none⟩) ltw).trans cw
            try replace fw := (hb7.frozen (p := ⟨PW, 0, none⟩) ltw).trans fw
            try replace ltw := Nat.lt_of_lt_of_le ltw hb7.size
            clear hb7
            go_wp2_with fail
            refine hK.out _ _ (by (try dsimp only); go_keep) (fun hHeld => ?_)
            clear hK K
            try simp only [Act.put, List.setIfInBounds_toArray, List.set_cons_zero, List.set_cons_succ]
            refine wpAnyH_ready (rs := [4, 8]) (by kernel_rfl) (by simp) ?_
            refine AllReadyH.cons rfl (fun K hK => ?_) ?_
            · go_simp
              have hBS := hbR.size
              (go_at_call 41; refine (HP.out _ _ _ r7 r8).mono ?_; rintro e w9 ⟨wa, wc, rfl, ow, hb7⟩)
              replace c0 := (hb7.cell (p := ⟨w.heap.size, 0, none⟩) lt0).trans c0
              replace c1 := (hb7.cell (p := ⟨w.heap.size + 1, 0, none⟩) lt1).trans c1
              replace lt0 := Nat.lt_of_lt_of_le lt0 hb7.size
              replace lt1 := Nat.lt_of_lt_of_le lt1 hb7.size
              replace hbR := hbR.trans (hb7.mono hbR.size)
              try (have hPB := ltw)
              try replace cw := (hb7.cell (p := ⟨PW, 0, none⟩) ltw).trans cw
              try replace fw := (hb7.frozen (p := ⟨PW, 0, none⟩) ltw).trans fw
              try replace ltw := Nat.lt_of_lt_of_le ltw hb7.size
              clear hb7 r7 r8
              go_wp2_with fail
              refine hK.out _ _ (by (try dsimp only); go_keep) (fun hHeld => ?_)
              clear hK K
              try simp only [Act.put, List.setIfInBounds_toArray, List.set_cons_zero, List.set_cons_succ]
              refine wpAnyH_take (i := 5) (oi := ⟨some 27, _, _, _, _, _⟩) (v := ?vpa5) rfl (by kernel_rfl) (by kernel_rfl) (by kernel_rfl) (fun _ _ _ h => h) (Or.inl ⟨by rfl, ?ypa5⟩) (by assumption) ?rpa5
              case ypa5 => (intro w hSw; (try dsimp only at hSw); go_simp; all_goals (with_reducible rfl))
              try simp only [Act.put, List.setIfInBounds_toArray, List.set_cons_zero, List.set_cons_succ]
              refine wpAnyH_take (i := 6) (oi := ⟨some 33, _, _, _, _, _⟩) (v := ?vpa6) rfl (by kernel_rfl) (by kernel_rfl) (by kernel_rfl) (fun _ _ _ h => h) (Or.inl ⟨by rfl, ?ypa6⟩) (by assumption) ?rpa6
              case ypa6 => (intro w hSw; (try dsimp only at hSw); go_simp; all_goals (with_reducible rfl))
              try simp only [Act.put, List.setIfInBounds_toArray, List.set_cons_zero, List.set_cons_succ]
              refine wpAnyH_take (i := 7) (oi := ⟨some 34, _, _, _, _, _⟩) (v := ?vpa7) rfl (by kernel_rfl) (by kernel_rfl) (by kernel_rfl) (fun _ _ _ h => h) (Or.inl ⟨by rfl, ?ypa7⟩) (by assumption) ?rpa7
              case ypa7 => (intro w hSw; (try dsimp only at hSw); go_simp; all_goals (with_reducible rfl))
              try simp only [Act.put, List.setIfInBounds_toArray, List.set_cons_zero, List.set_cons_succ]
              refine wpAnyH_ready (rs := [8]) (by kernel_rfl) (by simp) ?_
              refine AllReadyH.cons rfl (fun K hK => ?_) AllReadyH.nil
              go_simp
              refine hK.out _ _ (by (try dsimp only); go_keep) (fun hHeld => ?_)
              clear hK K
              try simp only [Act.put, List.setIfInBounds_toArray, List.set_cons_zero, List.set_cons_succ]
              have cw : (w9.alloc (.cells #[.slice none 0 0] 24)).cell? ⟨w9.heap.size, 0, none⟩ = some (.slice none 0 0) := World.cell?_alloc_at _ _ _ _ rfl
              have fw : (w9.alloc (.cells #[.slice none 0 0] 24)).frozen? ⟨w9.heap.size, 0, none⟩ = false := World.frozen?_alloc_at _ _ _ _ rfl
              have hb7 : Below w9.heap.size w9 (w9.alloc (.cells #[.slice none 0 0] 24)) := (Below.refl _ _).alloc (Nat.le_refl _) _
              have ltw : w9.heap.size < (w9.alloc (.cells #[.slice none 0 0] 24)).heap.size := by simp
              have hPS := hbR.size
              replace c0 := (hb7.cell (p := ⟨w.heap.size, 0, none⟩) lt0).trans c0
              replace c1 := (hb7.cell (p := ⟨w.heap.size + 1, 0, none⟩) lt1).trans c1
              replace lt0 := Nat.lt_of_lt_of_le lt0 hb7.size
              replace lt1 := Nat.lt_of_lt_of_le lt1 hb7.size
              replace hbR := hbR.trans (hb7.mono hbR.size)
              try replace r7 := r7.later hb7
              try replace r8 := r8.later hb7
              try replace ow := ow.later hb7 (Nat.le_refl _)
              clear hb7
              generalize w9.alloc (.cells #[.slice none 0 0] 24) = wA at *
              generalize hPW : w9.heap.size = PW at *
              refine wpAnyH_ready (rs := [9]) (by kernel_rfl) (by simp) ?_
              refine AllReadyH.cons rfl (fun K hK => ?_) AllReadyH.nil
              go_simp
              replace c0 := (World.cell?_setCell_far _ ⟨PW, 0, none⟩ ⟨w.heap.size, 0, none⟩ (.slice wa z.length wc) (by show PW ≠ w.heap.size; omega)).trans c0
              replace c1 := (World.cell?_setCell_far _ ⟨PW, 0, none⟩ ⟨w.heap.size + 1, 0, none⟩ (.slice wa z.length wc) (by show PW ≠ w.heap.size + 1; omega)).trans c1
              refine hK.out _ _ (by exact ⟨c0, c1⟩) (fun hHeld => ?_)
              clear hK K
              try simp only [Act.put, List.setIfInBounds_toArray, List.set_cons_zero, List.set_cons_succ]
              refine wpAnyH_take (i := 10) (oi := ⟨some 7, _, _, _, _, _⟩) (v := ?vpa10) rfl (by kernel_rfl) (by kernel_rfl) (by kernel_rfl) (fun _ _ _ h => h) (Or.inl ⟨by rfl, ?ypa10⟩) (by assumption) ?rpa10
              case ypa10 => (intro w hSw; (try dsimp only at hSw); go_simp; all_goals (with_reducible rfl))
              try simp only [Act.put, List.setIfInBounds_toArray, List.set_cons_zero, List.set_cons_succ]
              refine wpAnyH_done (by kernel_rfl) ?_ _
              go_wp2_with fail
              go_meet
              exact ⟨PW, wa, wc, rfl, rfl, FinW.mk hbR cw ltw hPS hBS (Nat.le_of_lt ltw) (.inr (Nat.le_refl _)) ow⟩
            · refine AllReadyH.cons rfl (fun K hK => ?_) AllReadyH.nil
              go_simp
              refine hK.out _ _ (by (try dsimp only); go_keep) (fun hHeld => ?_)
              clear hK K
              try simp only [Act.put, List.setIfInBounds_toArray, List.set_cons_zero, List.set_cons_succ]
              have cw : (w8.alloc (.cells #[.slice none 0 0] 24)).cell? ⟨w8.heap.size, 0, none⟩ = some (.slice none 0 0) := World.cell?_alloc_at _ _ _ _ rfl
              have fw : (w8.alloc (.cells #[.slice none 0 0] 24)).frozen? ⟨w8.heap.size, 0, none⟩ = false := World.frozen?_alloc_at _ _ _ _ rfl
              have hb7 : Below w8.heap.size w8 (w8.alloc (.cells #[.slice none 0 0] 24)) := (Below.refl _ _).alloc (Nat.le_refl _) _
              have ltw : w8.heap.size < (w8.alloc (.cells #[.slice none 0 0] 24)).heap.size := by simp
              have hPS := hbR.size
              replace c0 := (hb7.cell (p := ⟨w.heap.size, 0, none⟩) lt0).trans c0
              replace c1 := (hb7.cell (p := ⟨w.heap.size + 1, 0, none⟩) lt1).trans c1
              replace lt0 := Nat.lt_of_lt_of_le lt0 hb7.size
              replace lt1 := Nat.lt_of_lt_of_le lt1 hb7.size
              replace hbR := hbR.trans (hb7.mono hbR.size)
              try replace r7 := r7.later hb7
              try replace r8 := r8.later hb7
              try replace ow := ow.later hb7 (Nat.le_refl _)
              clear hb7
              generalize w8.alloc (.cells #[.slice none 0 0] 24) = wA at *
              generalize hPW : w8.heap.size = PW at *
              refine wpAnyH_ready (rs := [4]) (by kernel_rfl) (by simp) ?_
              refine AllReadyH.cons rfl (fun K hK => ?_) AllReadyH.nil
              go_simp
              have hBS := hbR.size
              (go_at_call 41; refine (HP.out _ _ _ r7 r8).mono ?_; rintro e w9 ⟨wa, wc, rfl, ow, hb7⟩)
              replace c0 := (hb7.cell (p := ⟨w.heap.size, 0, none⟩) lt0).trans c0
              replace c1 := (hb7.cell (p := ⟨w.heap.size + 1, 0, none⟩) lt1).trans c1
              replace lt0 := Nat.lt_of_lt_of_le lt0 hb7.size
              replace lt1 := Nat.lt_of_lt_of_le lt1 hb7.size
              replace hbR := hbR.trans (hb7.mono hbR.size)
              try (have hPB := ltw)
              try replace cw := (hb7.cell (p := ⟨PW, 0, none⟩) ltw).trans cw
              try replace fw := (hb7.frozen (p := ⟨PW, 0, none⟩) ltw).trans fw
              try replace ltw := Nat.lt_of_lt_of_le ltw hb7.size
              clear hb7 r7 r8
              go_wp2_with fail
              refine hK.out _ _ (by (try dsimp only); go_keep) (fun hHeld => ?_)
              clear hK K
              try simp only [Act.put, List.setIfInBounds_toArray, List.set_cons_zero, List.set_cons_succ]
              refine wpAnyH_take (i := 5) (oi := ⟨some 27, _, _, _, _, _⟩) (v := ?vpb5) rfl (by kernel_rfl) (by kernel_rfl) (by kernel_rfl) (fun _ _ _ h => h) (Or.inl ⟨by rfl, ?ypb5⟩) (by assumption) ?rpb5
              case ypb5 => (intro w hSw; (try dsimp only at hSw); go_simp; all_goals (with_reducible rfl))
              try simp only [Act.put, List.setIfInBounds_toArray, List.set_cons_zero, List.set_cons_succ]
              refine wpAnyH_take (i := 6) (oi := ⟨some 33, _, _, _, _, _⟩) (v := ?vpb6) rfl (by kernel_rfl) (by kernel_rfl) (by kernel_rfl) (fun _ _ _ h => h) (Or.inl ⟨by rfl, ?ypb6⟩) (by assumption) ?rpb6
              case ypb6 => (intro w hSw; (try dsimp only at hSw); go_simp; all_goals (with_reducible rfl))
              try simp only [Act.put, List.setIfInBounds_toArray, List.set_cons_zero, List.set_cons_succ]
              refine wpAnyH_take (i := 7) (oi := ⟨some 34, _, _, _, _, _⟩) (v := ?vpb7) rfl (by kernel_rfl) (by kernel_rfl) (by kernel_rfl) (fun _ _ _ h => h) (Or.inl ⟨by rfl, ?ypb7⟩) (by assumption) ?rpb7
              case ypb7 => (intro w hSw; (try dsimp only at hSw); go_simp; all_goals (with_reducible rfl))
              try simp only [Act.put, List.setIfInBounds_toArray, List.set_cons_zero, List.set_cons_succ]
              refine wpAnyH_ready (rs := [9]) (by kernel_rfl) (by simp) ?_
              refine AllReadyH.cons rfl (fun K hK => ?_) AllReadyH.nil
              go_simp
              replace c0 := (World.cell?_setCell_far _ ⟨PW, 0, none⟩ ⟨w.heap.size, 0, none⟩ (.slice wa z.length wc) (by show PW ≠ w.heap.size; omega)).trans c0
              replace c1 := (World.cell?_setCell_far _ ⟨PW, 0, none⟩ ⟨w.heap.size + 1, 0, none⟩ (.slice wa z.length wc) (by show PW ≠ w.heap.size + 1; omega)).trans c1
              refine hK.out _ _ (by exact ⟨c0, c1⟩) (fun hHeld => ?_)
              clear hK K
              try simp only [Act.put, List.setIfInBounds_toArray, List.set_cons_zero, List.set_cons_succ]
              refine wpAnyH_take (i := 10) (oi := ⟨some 7, _, _, _, _, _⟩) (v := ?vpb10) rfl (by kernel_rfl) (by kernel_rfl) (by kernel_rfl) (fun _ _ _ h => h) (Or.inl ⟨by rfl, ?ypb10⟩) (by assumption) ?rpb10
              case ypb10 => (intro w hSw; (try dsimp only at hSw); go_simp; all_goals (with_reducible rfl))
              try simp only [Act.put, List.setIfInBounds_toArray, List.set_cons_zero, List.set_cons_succ]
              refine wpAnyH_done (by kernel_rfl) ?_ _
              go_wp2_with fail
              go_meet
              exact ⟨PW, wa, wc, rfl, rfl, FinW.mk hbR cw ltw hPS hBS (Nat.le_refl _) (.inl hPB) ow⟩
          · refine AllReadyH.cons rfl (fun K hK => ?_) AllReadyH.nil
            go_simp
            refine hK.out _ _ (by (try dsimp only); go_keep) (fun hHeld => ?_)
            clear hK K
            try simp only [Act.put, List.setIfInBounds_toArray, List.set_cons_zero, List.set_cons_succ]
            have cw : (w7.alloc (.cells #[.slice none 0 0] 24)).cell? ⟨w7.heap.size, 0, none⟩ = some (.slice none 0 0) := World.cell?_alloc_at _ _ _ _ rfl
            have fw : (w7.alloc (.cells #[.slice none 0 0] 24)).frozen? ⟨w7.heap.size, 0, none⟩ = false := World.frozen?_alloc_at _ _ _ _ rfl
            have hb7 : Below w7.heap.size w7 (w7.alloc (.cells #[.slice none 0 0] 24)) := (Below.refl _ _).alloc (Nat.le_refl _) _
            have ltw : w7.heap.size < (w7.alloc (.cells #[.slice none 0 0] 24)).heap.size := by simp
            have hPS := hbR.size
            replace c0 := (hb7.cell (p := ⟨w.heap.size, 0, none⟩) lt0).trans c0
            replace c1 := (hb7.cell (p := ⟨w.heap.size + 1, 0, none⟩) lt1).trans c1
            replace lt0 := Nat.lt_of_lt_of_le lt0 hb7.size
            replace lt1 := Nat.lt_of_lt_of_le lt1 hb7.size
            replace hbR := hbR.trans (hb7.mono hbR.size)
            try replace r7 := r7.later hb7
            try replace r8 := r8.later hb7
            try replace ow := ow.later hb7 (Nat.le_refl _)
            clear hb7
            generalize w7.alloc (.cells #[.slice none 0 0] 24) = wA at *
            generalize hPW : w7.heap.size = PW at *
            refine wpAnyH_ready (rs := [3]) (by kernel_rfl) (by simp) ?_
            refine AllReadyH.cons rfl (fun K hK => ?_) AllReadyH.nil
            go_simp
            (go_at_call 24; refine (toGroup_any _ y _ (HYS.out.later hbR) hm' hr').mono ?_; rintro e w8 ⟨u8, rfl, o8, hb7⟩)
            have r8 := o8.read
            clear o8
            replace c0 := (hb7.cell (p := ⟨w.heap.size, 0, none⟩) lt0).trans c0
            replace c1 := (hb7.cell (p := ⟨w.heap.size + 1, 0, none⟩) lt1).trans c1
            replace lt0 := Nat.lt_of_lt_of_le lt0 hb7.size
            replace lt1 := Nat.lt_of_lt_of_le lt1 hb7.size
            replace hbR := hbR.trans (hb7.mono hbR.size)
            replace r7 := r7.later hb7
            try replace cw := (hb7.cell (p := ⟨PW, 0, none⟩) ltw).trans cw
            try replace fw := (hb7.frozen (p := ⟨PW, 0, none⟩) ltw).trans fw
            try replace ltw := Nat.lt_of_lt_of_le ltw hb7.size
            clear hb7
            go_wp2_with fail
            refine hK.out _ _ (by (try dsimp only); go_keep) (fun hHeld => ?_)
            clear hK K
            try simp only [Act.put, List.setIfInBounds_toArray, List.set_cons_zero, List.set_cons_succ]
            refine wpAnyH_ready (rs := [4]) (by kernel_rfl) (by simp) ?_
            refine AllReadyH.cons rfl (fun K hK => ?_) AllReadyH.nil
            go_simp
            have hBS := hbR.size
            (go_at_call 41; refine (HP.out _ _ _ r7 r8).mono ?_; rintro e w9 ⟨wa, wc, rfl, ow, hb7⟩)
            replace c0 := (hb7.cell (p := ⟨w.heap.size, 0, none⟩) lt0).trans c0
            replace c1 := (hb7.cell (p := ⟨w.heap.size + 1, 0, none⟩) lt1).trans c1
            replace lt0 := Nat.lt_of_lt_of_le lt0 hb7.size
            replace lt1 := Nat.lt_of_lt_of_le lt1 hb7.size
            replace hbR := hbR.trans (hb7.mono hbR.size)
            try (have hPB := ltw)
            try replace cw := (hb7.cell (p := ⟨PW, 0, none⟩) ltw).trans cw
            try replace fw := (hb7.frozen (p := ⟨PW, 0, none⟩) ltw).trans fw
            try replace ltw := Nat.lt_of_lt_of_le ltw hb7.size
            clear hb7 r7 r8
            go_wp2_with fail
            refine hK.out _ _ (by (try dsimp only); go_keep) (fun hHeld => ?_)
            clear hK K
            try simp only [Act.put, List.setIfInBounds_toArray, List.set_cons_zero, List.set_cons_succ]
            refine wpAnyH_take (i := 5) (oi := ⟨some 27, _, _, _, _, _⟩) (v := ?vpc5) rfl (by kernel_rfl) (by kernel_rfl) (by kernel_rfl) (fun _ _ _ h => h) (Or.inl ⟨by rfl, ?ypc5⟩) (by assumption) ?rpc5
            case ypc5 => (intro w hSw; (try dsimp only at hSw); go_simp; all_goals (with_reducible rfl))
            try simp only [Act.put, List.setIfInBounds_toArray, List.set_cons_zero, List.set_cons_succ]
            refine wpAnyH_take (i := 6) (oi := ⟨some 33, _, _, _, _, _⟩) (v := ?vpc6) rfl (by kernel_rfl) (by kernel_rfl) (by kernel_rfl) (fun _ _ _ h => h) (Or.inl ⟨by rfl, ?ypc6⟩) (by assumption) ?rpc6
            case ypc6 => (intro w hSw; (try dsimp only at hSw); go_simp; all_goals (with_reducible rfl))
            try simp only [Act.put, List.setIfInBounds_toArray, List.set_cons_zero, List.set_cons_succ]
            refine wpAnyH_take (i := 7) (oi := ⟨some 34, _, _, _, _, _⟩) (v := ?vpc7) rfl (by kernel_rfl) (by kernel_rfl) (by kernel_rfl) (fun _ _ _ h => h) (Or.inl ⟨by rfl, ?ypc7⟩) (by assumption) ?rpc7
            case ypc7 => (intro w hSw; (try dsimp only at hSw); go_simp; all_goals (with_reducible rfl))
            try simp only [Act.put, List.setIfInBounds_toArray, List.set_cons_zero, List.set_cons_succ]
            refine wpAnyH_ready (rs := [9]) (by kernel_rfl) (by simp) ?_
            refine AllReadyH.cons rfl (fun K hK => ?_) AllReadyH.nil
            go_simp
            replace c0 := (World.cell?_setCell_far _ ⟨PW, 0, none⟩ ⟨w.heap.size, 0, none⟩ (.slice wa z.length wc) (by show PW ≠ w.heap.size; omega)).trans c0
            replace c1 := (World.cell?_setCell_far _ ⟨PW, 0, none⟩ ⟨w.heap.size + 1, 0, none⟩ (.slice wa z.length wc) (by show PW ≠ w.heap.size + 1; omega)).trans c1
            refine hK.out _ _ (by exact ⟨c0, c1⟩) (fun hHeld => ?_)
            clear hK K
            try simp only [Act.put, List.setIfInBounds_toArray, List.set_cons_zero, List.set_cons_succ]
            refine wpAnyH_take (i := 10) (oi := ⟨some 7, _, _, _, _, _⟩) (v := ?vpc10) rfl (by kernel_rfl) (by kernel_rfl) (by kernel_rfl) (fun _ _ _ h => h) (Or.inl ⟨by rfl, ?ypc10⟩) (by assumption) ?rpc10
            case ypc10 => (intro w hSw; (try dsimp only at hSw); go_simp; all_goals (with_reducible rfl))
            try simp only [Act.put, List.setIfInBounds_toArray, List.set_cons_zero, List.set_cons_succ]
            refine wpAnyH_done (by kernel_rfl) ?_ _
            go_wp2_with fail
            go_meet
            exact ⟨PW, wa, wc, rfl, rfl, FinW.mk hbR cw ltw hPS hBS (Nat.le_refl _) (.inl hPB) ow⟩
        · refine AllReadyH.cons rfl (fun K hK => ?_) AllReadyH.nil
          go_simp
          refine hK.out _ _ (by (try dsimp only); go_keep) (fun hHeld => ?_)
          clear hK K
          try simp only [Act.put, List.setIfInBounds_toArray, List.set_cons_zero, List.set_cons_succ]
          have cw : (wd.alloc (.cells #[.slice none 0 0] 24)).cell? ⟨wd.heap.size, 0, none⟩ = some (.slice none 0 0) := World.cell?_alloc_at _ _ _ _ rfl
          have fw : (wd.alloc (.cells #[.slice none 0 0] 24)).frozen? ⟨wd.heap.size, 0, none⟩ = false := World.frozen?_alloc_at _ _ _ _ rfl
          have hb7 : Below wd.heap.size wd (wd.alloc (.cells #[.slice none 0 0] 24)) := (Below.refl _ _).alloc (Nat.le_refl _) _
          have ltw : wd.heap.size < (wd.alloc (.cells #[.slice none 0 0] 24)).heap.size := by simp
          have hPS := hbR.size
          replace c0 := (hb7.cell (p := ⟨w.heap.size, 0, none⟩) lt0).trans c0
          replace c1 := (hb7.cell (p := ⟨w.heap.size + 1, 0, none⟩) lt1).trans c1
          replace lt0 := Nat.lt_of_lt_of_le lt0 hb7.size
          replace lt1 := Nat.lt_of_lt_of_le lt1 hb7.size
          replace hbR := hbR.trans (hb7.mono hbR.size)
          try replace r7 := r7.later hb7
          try replace r8 := r8.later hb7
          try replace ow := ow.later hb7 (Nat.le_refl _)
          clear hb7
          generalize wd.alloc (.cells #[.slice none 0 0] 24) = wA at *
          generalize hPW : wd.heap.size = PW at *
          refine wpAnyH_ready (rs := [1]) (by kernel_rfl) (by simp) ?_
          refine AllReadyH.cons rfl (fun K hK => ?_) AllReadyH.nil
          go_simp
          (go_at_call 24; refine (toGroup_any _ x _ (HXS.out.later hbR) hm hr).mono ?_; rintro e w7 ⟨u7, rfl, o7, hb7⟩)
          have r7 := o7.read
          clear o7
          replace c0 := (hb7.cell (p := ⟨w.heap.size, 0, none⟩) lt0).trans c0
          replace c1 := (hb7.cell (p := ⟨w.heap.size + 1, 0, none⟩) lt1).trans c1
          replace lt0 := Nat.lt_of_lt_of_le lt0 hb7.size
          replace lt1 := Nat.lt_of_lt_of_le lt1 hb7.size
          replace hbR := hbR.trans (hb7.mono hbR.size)
          try replace cw := (hb7.cell (p := ⟨PW, 0, none⟩) ltw).trans cw
          try replace fw := (hb7.frozen (p := ⟨PW, 0, none⟩) ltw).trans fw
          try replace ltw := Nat.lt_of_lt_of_le ltw hb7.size
          clear hb7
          go_wp2_with fail
          refine hK.out _ _ (by (try dsimp only); go_keep) (fun hHeld => ?_)
          clear hK K
          try simp only [Act.put, List.setIfInBounds_toArray, List.set_cons_zero, List.set_cons_succ]
          refine wpAnyH_ready (rs := [3]) (by kernel_rfl) (by simp) ?_
          refine AllReadyH.cons rfl (fun K hK => ?_) AllReadyH.nil
          go_simp
          (go_at_call 24; refine (toGroup_any _ y _ (HYS.out.later hbR) hm' hr').mono ?_; rintro e w8 ⟨u8, rfl, o8, hb7⟩)
          have r8 := o8.read
          clear o8
          replace c0 := (hb7.cell (p := ⟨w.heap.size, 0, none⟩) lt0).trans c0
          replace c1 := (hb7.cell (p := ⟨w.heap.size + 1, 0, none⟩) lt1).trans c1
          replace lt0 := Nat.lt_of_lt_of_le lt0 hb7.size
          replace lt1 := Nat.lt_of_lt_of_le lt1 hb7.size
          replace hbR := hbR.trans (hb7.mono hbR.size)
          replace r7 := r7.later hb7
          try replace cw := (hb7.cell (p := ⟨PW, 0, none⟩) ltw).trans cw
          try replace fw := (hb7.frozen (p := ⟨PW, 0, none⟩) ltw).trans fw
          try replace ltw := Nat.lt_of_lt_of_le ltw hb7.size
          clear hb7
          go_wp2_with fail
          refine hK.out _ _ (by (try dsimp only); go_keep) (fun hHeld => ?_)
          clear hK K
          try simp only [Act.put, List.setIfInBounds_toArray, List.set_cons_zero, List.set_cons_succ]
          refine wpAnyH_ready (rs := [4]) (by kernel_rfl) (by simp) ?_
          refine AllReadyH.cons rfl (fun K hK => ?_) AllReadyH.nil
          go_simp
          have hBS := hbR.size
          (go_at_call 41; refine (HP.out _ _ _ r7 r8).mono ?_; rintro e w9 ⟨wa, wc, rfl, ow, hb7⟩)
          replace c0 := (hb7.cell (p := ⟨w.heap.size, 0, none⟩) lt0).trans c0
          replace c1 := (hb7.cell (p := ⟨w.heap.size + 1, 0, none⟩) lt1).trans c1
          replace lt0 := Nat.lt_of_lt_of_le lt0 hb7.size
          replace lt1 := Nat.lt_of_lt_of_le lt1 hb7.size
          replace hbR := hbR.trans (hb7.mono hbR.size)
          try (have hPB := ltw)
          try replace cw := (hb7.cell (p := ⟨PW, 0, none⟩) ltw).trans cw
          try replace fw := (hb7.frozen (p := ⟨PW, 0, none⟩) ltw).trans fw
          try replace ltw := Nat.lt_of_lt_of_le ltw hb7.size
          clear hb7 r7 r8
          go_wp2_with fail
          refine hK.out _ _ (by (try dsimp only); go_keep) (fun hHeld => ?_)
          clear hK K
          try simp only [Act.put, List.setIfInBounds_toArray, List.set_cons_zero, List.set_cons_succ]
          refine wpAnyH_take (i := 5) (oi := ⟨some 27, _, _, _, _, _⟩) (v := ?vpd5) rfl (by kernel_rfl) (by kernel_rfl) (by kernel_rfl) (fun _ _ _ h => h) (Or.inl ⟨by rfl, ?ypd5⟩) (by assumption) ?rpd5
          case ypd5 => (intro w hSw; (try dsimp only at hSw); go_simp; all_goals (with_reducible rfl))
          try simp only [Act.put, List.setIfInBounds_toArray, List.set_cons_zero, List.set_cons_succ]
          refine wpAnyH_take (i := 6) (oi := ⟨some 33, _, _, _, _, _⟩) (v := ?vpd6) rfl (by kernel_rfl) (by kernel_rfl) (by kernel_rfl) (fun _ _ _ h => h) (Or.inl ⟨by rfl, ?ypd6⟩) (by assumption) ?rpd6
          case ypd6 => (intro w hSw; (try dsimp only at hSw); go_simp; all_goals (with_reducible rfl))
          try simp only [Act.put, List.setIfInBounds_toArray, List.set_cons_zero, List.set_cons_succ]
          refine wpAnyH_take (i := 7) (oi := ⟨some 34, _, _, _, _, _⟩) (v := ?vpd7) rfl (by kernel_rfl) (by kernel_rfl) (by kernel_rfl) (fun _ _ _ h => h) (Or.inl ⟨by rfl, ?ypd7⟩) (by assumption) ?rpd7
          case ypd7 => (intro w hSw; (try dsimp only at hSw); go_simp; all_goals (with_reducible rfl))
          try simp only [Act.put, List.setIfInBounds_toArray, List.set_cons_zero, List.set_cons_succ]
          refine wpAnyH_ready (rs := [9]) (by kernel_rfl) (by simp) ?_
          refine AllReadyH.cons rfl (fun K hK => ?_) AllReadyH.nil
          go_simp
          replace c0 := (World.cell?_setCell_far _ ⟨PW, 0, none⟩ ⟨w.heap.size, 0, none⟩ (.slice wa z.length wc) (by show PW ≠ w.heap.size; omega)).trans c0
          replace c1 := (World.cell?_setCell_far _ ⟨PW, 0, none⟩ ⟨w.heap.size + 1, 0, none⟩ (.slice wa z.length wc) (by show PW ≠ w.heap.size + 1; omega)).trans c1
          refine hK.out _ _ (by exact ⟨c0, c1⟩) (fun hHeld => ?_)
          clear hK K
          try simp only [Act.put, List.setIfInBounds_toArray, List.set_cons_zero, List.set_cons_succ]
          refine wpAnyH_take (i := 10) (oi := ⟨some 7, _, _, _, _, _⟩) (v := ?vpd10) rfl (by kernel_rfl) (by kernel_rfl) (by kernel_rfl) (fun _ _ _ h => h) (Or.inl ⟨by rfl, ?ypd10⟩) (by assumption) ?rpd10
          case ypd10 => (intro w hSw; (try dsimp only at hSw); go_simp; all_goals (with_reducible rfl))
          try simp only [Act.put, List.setIfInBounds_toArray, List.set_cons_zero, List.set_cons_succ]
          refine wpAnyH_done (by kernel_rfl) ?_ _
          go_wp2_with fail
          go_meet
          exact ⟨PW, wa, wc, rfl, rfl, FinW.mk hbR cw ltw hPS hBS (Nat.le_refl _) (.inl hPB) ow⟩
      case rest =>
        obtain ⟨PW, wa, wn, rfl, rfl, hb1, cw, ltW, hPS, BW, SW, hBW, sW, hdW, ow⟩ := hcut
        clear HXS HYS lt0 lt1
        have hzz := hb.size
        replace hb := hb.trans (hb1.mono hb.size)
        have hN0 := hb1.size
        have qW := ltW
        have pW := sW
        clear hb1
        have hx1 := hx.later hb
        have hy1 := hy.later hb
        have c0 := (hb.cell (p := ⟨w.heap.size, 0, none⟩) hl0).trans C0
        have c1 := (hb.cell (p := ⟨w.heap.size + 1, 0, none⟩) hl1).trans C1
        go_wp2_with fail
        clear c0 c1
        refine (toGroup_any _ x _ hx1 hm hr).mono ?_
        rintro e w3 ⟨ua, rfl, ox, hb1⟩
        clear hx1 hy1
        have sX : w3.heap.size ≤ w3.heap.size := Nat.le_refl _
        try replace cw := (hb1.cell (p := ⟨PW, 0, none⟩) ltW).trans cw
        try replace ow := ow.later hb1 sW
        try replace ltW := Nat.lt_of_lt_of_le ltW hb1.size
        try replace sW := Nat.le_trans sW hb1.size
        try replace cX := (hb1.cell (p := ⟨PX, 0, none⟩) ltX).trans cX
        try replace ox := ox.later hb1 sX
        try replace ltX := Nat.lt_of_lt_of_le ltX hb1.size
        try replace sX := Nat.le_trans sX hb1.size
        try replace cY := (hb1.cell (p := ⟨PY, 0, none⟩) ltY).trans cY
        try replace oy := oy.later hb1 sY
        try replace ltY := Nat.lt_of_lt_of_le ltY hb1.size
        try replace sY := Nat.le_trans sY hb1.size
        try replace cg := (hb1.cell (p := ⟨PG, 0, none⟩) ltG).trans cg
        try replace og := og.later hb1 sG
        try replace ltG := Nat.lt_of_lt_of_le ltG hb1.size
        try replace sG := Nat.le_trans sG hb1.size
        replace hb := hb.trans (hb1.mono hb.size)
        have hsz := hb1.size
        clear hb1
        have hN3 := hsz
        clear hsz
        obtain ⟨xa, xc, rfl⟩ := ox.slice
        have cX : (w3.alloc (.cells #[.slice xa x.length xc] 24)).cell? ⟨w3.heap.size, 0, none⟩ = some (.slice xa x.length xc) := World.cell?_alloc_at _ _ _ _ rfl
        have hb1 : Below w3.heap.size w3 (w3.alloc (.cells #[.slice xa x.length xc] 24)) := (Below.refl _ _).alloc (Nat.le_refl _) _
        have ltX : w3.heap.size < (w3.alloc (.cells #[.slice xa x.length xc] 24)).heap.size := by simp
        have qX := ltX
        try replace cw := (hb1.cell (p := ⟨PW, 0, none⟩) ltW).trans cw
        try replace ow := ow.later hb1 sW
        try replace ltW := Nat.lt_of_lt_of_le ltW hb1.size
        try replace sW := Nat.le_trans sW hb1.size
        try replace cX := (hb1.cell (p := ⟨PX, 0, none⟩) ltX).trans cX
        try replace ox := ox.later hb1 sX
        try replace ltX := Nat.lt_of_lt_of_le ltX hb1.size
        try replace sX := Nat.le_trans sX hb1.size
        try replace cY := (hb1.cell (p := ⟨PY, 0, none⟩) ltY).trans cY
        try replace oy := oy.later hb1 sY
        try replace ltY := Nat.lt_of_lt_of_le ltY hb1.size
        try replace sY := Nat.le_trans sY hb1.size
        try replace cg := (hb1.cell (p := ⟨PG, 0, none⟩) ltG).trans cg
        try replace og := og.later hb1 sG
        try replace ltG := Nat.lt_of_lt_of_le ltG hb1.size
        try replace sG := Nat.le_trans sG hb1.size
        replace hb := hb.trans (hb1.mono hb.size)
        have hsz := hb1.size
        clear hb1
        clear hsz
        have hx1 := hx.later hb
        have hy1 := hy.later hb
        have c0 := (hb.cell (p := ⟨w.heap.size, 0, none⟩) hl0).trans C0
        have c1 := (hb.cell (p := ⟨w.heap.size + 1, 0, none⟩) hl1).trans C1
        go_wp2_with fail
        clear c0 c1
        generalize w3.alloc (.cells #[.slice xa x.length xc] 24) = w4 at *
        generalize hPX : w3.heap.size = PX at *
        refine (toGroup_any _ y _ hy1 hm' hr').mono ?_
        rintro e w5 ⟨ub, rfl, oy, hb1⟩
        clear hx1 hy1
        have sY : w5.heap.size ≤ w5.heap.size := Nat.le_refl _
        have hN5 := hb1.size
        try replace cw := (hb1.cell (p := ⟨PW, 0, none⟩) ltW).trans cw
        try replace ow := ow.later hb1 sW
        try replace ltW := Nat.lt_of_lt_of_le ltW hb1.size
        try replace sW := Nat.le_trans sW hb1.size
        try replace cX := (hb1.cell (p := ⟨PX, 0, none⟩) ltX).trans cX
        try replace ox := ox.later hb1 sX
        try replace ltX := Nat.lt_of_lt_of_le ltX hb1.size
        try replace sX := Nat.le_trans sX hb1.size
        try replace cY := (hb1.cell (p := ⟨PY, 0, none⟩) ltY).trans cY
        try replace oy := oy.later hb1 sY
        try replace ltY := Nat.lt_of_lt_of_le ltY hb1.size
        try replace sY := Nat.le_trans sY hb1.size
        try replace cg := (hb1.cell (p := ⟨PG, 0, none⟩) ltG).trans cg
        try replace og := og.later hb1 sG
        try replace ltG := Nat.lt_of_lt_of_le ltG hb1.size
        try replace sG := Nat.le_trans sG hb1.size
        replace hb := hb.trans (hb1.mono hb.size)
        have hsz := hb1.size
        clear hb1
        clear hsz
        obtain ⟨ya, yc, rfl⟩ := oy.slice
        have cY : (w5.alloc (.cells #[.slice ya y.length yc] 24)).cell? ⟨w5.heap.size, 0, none⟩ = some (.slice ya y.length yc) := World.cell?_alloc_at _ _ _ _ rfl
        have hb1 : Below w5.heap.size w5 (w5.alloc (.cells #[.slice ya y.length yc] 24)) := (Below.refl _ _).alloc (Nat.le_refl _) _
        have ltY : w5.heap.size < (w5.alloc (.cells #[.slice ya y.length yc] 24)).heap.size := by simp
        have qY := ltY
        try replace cw := (hb1.cell (p := ⟨PW, 0, none⟩) ltW).trans cw
        try replace ow := ow.later hb1 sW
        try replace ltW := Nat.lt_of_lt_of_le ltW hb1.size
        try replace sW := Nat.le_trans sW hb1.size
        try replace cX := (hb1.cell (p := ⟨PX, 0, none⟩) ltX).trans cX
        try replace ox := ox.later hb1 sX
        try replace ltX := Nat.lt_of_lt_of_le ltX hb1.size
        try replace sX := Nat.le_trans sX hb1.size
        try replace cY := (hb1.cell (p := ⟨PY, 0, none⟩) ltY).trans cY
        try replace oy := oy.later hb1 sY
        try replace ltY := Nat.lt_of_lt_of_le ltY hb1.size
        try replace sY := Nat.le_trans sY hb1.size
        try replace cg := (hb1.cell (p := ⟨PG, 0, none⟩) ltG).trans cg
        try replace og := og.later hb1 sG
        try replace ltG := Nat.lt_of_lt_of_le ltG hb1.size
        try replace sG := Nat.le_trans sG hb1.size
        replace hb := hb.trans (hb1.mono hb.size)
        have hsz := hb1.size
        clear hb1
        clear hsz
        go_wp2_with fail
        generalize w5.alloc (.cells #[.slice ya y.length yc] 24) = w6 at *
        generalize hPY : w5.heap.size = PY at *
        refine (HI.out _ _ _ ox.read oy.read).mono ?_
        rintro e w7 ⟨ga, gc, rfl, og, hb1⟩
        have sG : w7.heap.size ≤ w7.heap.size := Nat.le_refl _
        have hN7 := hb1.size
        try replace cw := (hb1.cell (p := ⟨PW, 0, none⟩) ltW).trans cw
        try replace ow := ow.later hb1 sW
        try replace ltW := Nat.lt_of_lt_of_le ltW hb1.size
        try replace sW := Nat.le_trans sW hb1.size
        try replace cX := (hb1.cell (p := ⟨PX, 0, none⟩) ltX).trans cX
        try replace ox := ox.later hb1 sX
        try replace ltX := Nat.lt_of_lt_of_le ltX hb1.size
        try replace sX := Nat.le_trans sX hb1.size
        try replace cY := (hb1.cell (p := ⟨PY, 0, none⟩) ltY).trans cY
        try replace oy := oy.later hb1 sY
        try replace ltY := Nat.lt_of_lt_of_le ltY hb1.size
        try replace sY := Nat.le_trans sY hb1.size
        try replace cg := (hb1.cell (p := ⟨PG, 0, none⟩) ltG).trans cg
        try replace og := og.later hb1 sG
        try replace ltG := Nat.lt_of_lt_of_le ltG hb1.size
        try replace sG := Nat.le_trans sG hb1.size
        replace hb := hb.trans (hb1.mono hb.size)
        have hsz := hb1.size
        clear hb1
        clear hsz
        have cg : (w7.alloc (.cells #[.slice ga z.length gc] 24)).cell? ⟨w7.heap.size, 0, none⟩ = some (.slice ga z.length gc) := World.cell?_alloc_at _ _ _ _ rfl
        have hb1 : Below w7.heap.size w7 (w7.alloc (.cells #[.slice ga z.length gc] 24)) := (Below.refl _ _).alloc (Nat.le_refl _) _
        have ltG : w7.heap.size < (w7.alloc (.cells #[.slice ga z.length gc] 24)).heap.size := by simp
        try replace cw := (hb1.cell (p := ⟨PW, 0, none⟩) ltW).trans cw
        try replace ow := ow.later hb1 sW
        try replace ltW := Nat.lt_of_lt_of_le ltW hb1.size
        try replace sW := Nat.le_trans sW hb1.size
        try replace cX := (hb1.cell (p := ⟨PX, 0, none⟩) ltX).trans cX
        try replace ox := ox.later hb1 sX
        try replace ltX := Nat.lt_of_lt_of_le ltX hb1.size
        try replace sX := Nat.le_trans sX hb1.size
        try replace cY := (hb1.cell (p := ⟨PY, 0, none⟩) ltY).trans cY
        try replace oy := oy.later hb1 sY
        try replace ltY := Nat.lt_of_lt_of_le ltY hb1.size
        try replace sY := Nat.le_trans sY hb1.size
        try replace cg := (hb1.cell (p := ⟨PG, 0, none⟩) ltG).trans cg
        try replace og := og.later hb1 sG
        try replace ltG := Nat.lt_of_lt_of_le ltG hb1.size
        try replace sG := Nat.le_trans sG hb1.size
        replace hb := hb.trans (hb1.mono hb.size)
        have hsz := hb1.size
        clear hb1
        clear hsz
        go_wp2_with fail
        generalize w7.alloc (.cells #[.slice ga z.length gc] 24) = w8 at *
        generalize hPG : w7.heap.size = PG at *
        refine (eqGroup_yes _ _ z _ og.read ow.read zm zr).mono ?_
        rintro e w9 ⟨rfl, hb1⟩
        try replace cw := (hb1.cell (p := ⟨PW, 0, none⟩) ltW).trans cw
        try replace ow := ow.later hb1 sW
        try replace ltW := Nat.lt_of_lt_of_le ltW hb1.size
        try replace sW := Nat.le_trans sW hb1.size
        try replace cX := (hb1.cell (p := ⟨PX, 0, none⟩) ltX).trans cX
        try replace ox := ox.later hb1 sX
        try replace ltX := Nat.lt_of_lt_of_le ltX hb1.size
        try replace sX := Nat.le_trans sX hb1.size
        try replace cY := (hb1.cell (p := ⟨PY, 0, none⟩) ltY).trans cY
        try replace oy := oy.later hb1 sY
        try replace ltY := Nat.lt_of_lt_of_le ltY hb1.size
        try replace sY := Nat.le_trans sY hb1.size
        try replace cg := (hb1.cell (p := ⟨PG, 0, none⟩) ltG).trans cg
        try replace og := og.later hb1 sG
        try replace ltG := Nat.lt_of_lt_of_le ltG hb1.size
        try replace sG := Nat.le_trans sG hb1.size
        replace hb := hb.trans (hb1.mono hb.size)
        have hsz := hb1.size
        clear hb1
        clear hsz
        have cx := cX
        have oxx := ox
        have hx1 := hx.later hb
        have c0 := (hb.cell (p := ⟨w.heap.size, 0, none⟩) hl0).trans C0
        have lt0 := Nat.lt_of_lt_of_le hl0 hb.size
        have ltx := ltX
        go_wp2_with fail
        go_region_held3 (fun w' => w'.cell? ⟨PX, 0, none⟩ = some (.slice xa x.length xc) ∧ w'.cell? ⟨w.heap.size, 0, none⟩ = some (.slice a x.length c)) (go_keep)
          (first
            | (go_at_call 24; refine (toGroup_any _ x _ hx1.drew hm hr).mono ?_; rintro e wf ⟨uf, rfl, of, hbf⟩; replace cx := (hbf.cell (p := ⟨PX, 0, none⟩) ltx).trans cx; replace c0 := (hbf.cell (p := ⟨w.heap.size, 0, none⟩) lt0).trans c0; replace ltx := Nat.lt_of_lt_of_le ltx hbf.size; replace lt0 := Nat.lt_of_lt_of_le lt0 hbf.size; replace oxx := oxx.drew.later hbf sX)
            | (go_at_call 17; refine (eqGroup_yes _ _ x _ (by exact oxx.read) (by exact of.read) hm hr).mono ?_; rintro e w10 ⟨rfl, hbg⟩; replace cx := (hbg.cell (p := ⟨PX, 0, none⟩) ltx).trans cx; replace c0 := (hbg.cell (p := ⟨w.heap.size, 0, none⟩) lt0).trans c0))
        have hb1 := (Below.refl w9.heap.size w9).drew.trans (hbf.trans (hbg.mono hbf.size))
        clear cx oxx c0 lt0 ltx hbf hbg of hx1
        try replace cw := (hb1.cell (p := ⟨PW, 0, none⟩) ltW).trans cw
        try replace ow := ow.later hb1 sW
        try replace ltW := Nat.lt_of_lt_of_le ltW hb1.size
        try replace sW := Nat.le_trans sW hb1.size
        try replace cX := (hb1.cell (p := ⟨PX, 0, none⟩) ltX).trans cX
        try replace ox := ox.later hb1 sX
        try replace ltX := Nat.lt_of_lt_of_le ltX hb1.size
        try replace sX := Nat.le_trans sX hb1.size
        try replace cY := (hb1.cell (p := ⟨PY, 0, none⟩) ltY).trans cY
        try replace oy := oy.later hb1 sY
        try replace ltY := Nat.lt_of_lt_of_le ltY hb1.size
        try replace sY := Nat.le_trans sY hb1.size
        try replace cg := (hb1.cell (p := ⟨PG, 0, none⟩) ltG).trans cg
        try replace og := og.later hb1 sG
        try replace ltG := Nat.lt_of_lt_of_le ltG hb1.size
        try replace sG := Nat.le_trans sG hb1.size
        replace hb := hb.trans (hb1.mono hb.size)
        have hsz := hb1.size
        clear hb1
        clear hsz
        have cx := cY
        have oxx := oy
        have hx1 := hy.later hb
        have c0 := (hb.cell (p := ⟨w.heap.size+1, 0, none⟩) hl1).trans C1
        have lt0 := Nat.lt_of_lt_of_le hl1 hb.size
        have ltx := ltY
        go_wp2_with fail
        go_region_held3 (fun w' => w'.cell? ⟨PY, 0, none⟩ = some (.slice ya y.length yc) ∧ w'.cell? ⟨w.heap.size+1, 0, none⟩ = some (.slice a' y.length c')) (go_keep)
          (first
            | (go_at_call 24; refine (toGroup_any _ y _ hx1.drew hm' hr').mono ?_; rintro e wf ⟨uf, rfl, of, hbf⟩; replace cx := (hbf.cell (p := ⟨PY, 0, none⟩) ltx).trans cx; replace c0 := (hbf.cell (p := ⟨w.heap.size+1, 0, none⟩) lt0).trans c0; replace ltx := Nat.lt_of_lt_of_le ltx hbf.size; replace lt0 := Nat.lt_of_lt_of_le lt0 hbf.size; replace oxx := oxx.drew.later hbf sY)
            | (go_at_call 17; refine (eqGroup_yes _ _ y _ (by exact oxx.read) (by exact of.read) hm' hr').mono ?_; rintro e w11 ⟨rfl, hbg⟩; replace cx := (hbg.cell (p := ⟨PY, 0, none⟩) ltx).trans cx; replace c0 := (hbg.cell (p := ⟨w.heap.size+1, 0, none⟩) lt0).trans c0))
        have hb1 := (Below.refl w10.heap.size w10).drew.trans (hbf.trans (hbg.mono hbf.size))
        clear cx oxx c0 lt0 ltx hbf hbg of hx1
        try replace cw := (hb1.cell (p := ⟨PW, 0, none⟩) ltW).trans cw
        try replace ow := ow.later hb1 sW
        try replace ltW := Nat.lt_of_lt_of_le ltW hb1.size
        try replace sW := Nat.le_trans sW hb1.size
        try replace cX := (hb1.cell (p := ⟨PX, 0, none⟩) ltX).trans cX
        try replace ox := ox.later hb1 sX
        try replace ltX := Nat.lt_of_lt_of_le ltX hb1.size
        try replace sX := Nat.le_trans sX hb1.size
        try replace cY := (hb1.cell (p := ⟨PY, 0, none⟩) ltY).trans cY
        try replace oy := oy.later hb1 sY
        try replace ltY := Nat.lt_of_lt_of_le ltY hb1.size
        try replace sY := Nat.le_trans sY hb1.size
        try replace cg := (hb1.cell (p := ⟨PG, 0, none⟩) ltG).trans cg
        try replace og := og.later hb1 sG
        try replace ltG := Nat.lt_of_lt_of_le ltG hb1.size
        try replace sG := Nat.le_trans sG hb1.size
        replace hb := hb.trans (hb1.mono hb.size)
        have hsz := hb1.size
        clear hb1
        clear hsz
        go_wp2_with fail
        refine (markGroup_any _ x 1 _ _ _ ox sX ⟨by omega, by omega⟩ (by omega)).mono ?_
        rintro e w12 ⟨rfl, ox2, hch⟩
        replace cw := (hch.cell PW 0 ltW (.inl (by omega))).trans cw
        replace cY := (hch.cell PY 0 ltY (.inr (by omega))).trans cY
        replace cg := (hch.cell PG 0 ltG (.inr (by omega))).trans cg
        replace ow := ow.chgR hch sW (.inr (by omega))
        replace oy := oy.chgR hch sY (.inl (by omega))
        replace og := og.chgR hch sG (.inl (by omega))
        replace hb := hch.below hb (by omega) hb.size
        have hz := hch.size
        clear cX ox ox2 ltX sX hch
        replace ltW := Nat.lt_of_lt_of_le ltW hz
        replace ltY := Nat.lt_of_lt_of_le ltY hz
        replace ltG := Nat.lt_of_lt_of_le ltG hz
        replace sW := Nat.le_trans sW hz
        replace sY := Nat.le_trans sY hz
        replace sG := Nat.le_trans sG hz
        go_wp2_with fail
        refine (markGroup_any _ y (1 + tot x) _ _ _ oy sY ⟨by omega, by omega⟩ (by omega)).mono ?_
        rintro e w13 ⟨rfl, oy2, hch⟩
        replace cw := (hch.cell PW 0 ltW (.inl (by omega))).trans cw
        replace cg := (hch.cell PG 0 ltG (.inr (by omega))).trans cg
        replace ow := ow.chgR hch sW (.inr (by omega))
        replace og := og.chgR hch sG (.inl (by omega))
        replace hb := hch.below hb (by omega) hb.size
        have hz := hch.size
        clear cY oy oy2 ltY sY hch
        replace ltW := Nat.lt_of_lt_of_le ltW hz
        replace ltG := Nat.lt_of_lt_of_le ltG hz
        replace sW := Nat.le_trans sW hz
        replace sG := Nat.le_trans sG hz
        go_wp2_with fail
        refine (eqGroup_yes _ _ z _ og.read ow.read zm zr).mono ?_
        rintro e w14 ⟨rfl, hb1⟩
        try replace cw := (hb1.cell (p := ⟨PW, 0, none⟩) ltW).trans cw
        try replace ow := ow.later hb1 sW
        try replace ltW := Nat.lt_of_lt_of_le ltW hb1.size
        try replace sW := Nat.le_trans sW hb1.size
        try replace cX := (hb1.cell (p := ⟨PX, 0, none⟩) ltX).trans cX
        try replace ox := ox.later hb1 sX
        try replace ltX := Nat.lt_of_lt_of_le ltX hb1.size
        try replace sX := Nat.le_trans sX hb1.size
        try replace cY := (hb1.cell (p := ⟨PY, 0, none⟩) ltY).trans cY
        try replace oy := oy.later hb1 sY
        try replace ltY := Nat.lt_of_lt_of_le ltY hb1.size
        try replace sY := Nat.le_trans sY hb1.size
        try replace cg := (hb1.cell (p := ⟨PG, 0, none⟩) ltG).trans cg
        try replace og := og.later hb1 sG
        try replace ltG := Nat.lt_of_lt_of_le ltG hb1.size
        try replace sG := Nat.le_trans sG hb1.size
        replace hb := hb.trans (hb1.mono hb.size)
        have hsz := hb1.size
        clear hb1
        go_wp2_with fail
        refine (markGroup_any _ z 1 _ _ _ og sG ⟨by omega, by omega⟩ (by omega)).mono ?_
        rintro e w15 ⟨rfl, og2, hch⟩
        replace cw := (hch.cell PW 0 ltW (.inl (by omega))).trans cw
        replace cg := (hch.cell PG 0 ltG (.inr (by omega))).trans cg
        replace ow := ow.chgR hch sW (.inr (by omega))
        replace hb := hch.below hb (by omega) hb.size
        have hz := hch.size
        clear hch og
        have og := og2
        clear og2
        replace ltW := Nat.lt_of_lt_of_le ltW hz
        replace ltG := Nat.lt_of_lt_of_le ltG hz
        replace sW := Nat.le_trans sW hz
        replace sG := Nat.le_trans sG hz
        go_wp2_with fail
        refine (heldGroup_yes _ z 1 _ og.read ⟨by omega, by omega⟩ (by omega)).mono ?_
        rintro e w16 ⟨rfl, hb1⟩
        try replace cw := (hb1.cell (p := ⟨PW, 0, none⟩) ltW).trans cw
        try replace ow := ow.later hb1 sW
        try replace ltW := Nat.lt_of_lt_of_le ltW hb1.size
        try replace sW := Nat.le_trans sW hb1.size
        try replace cX := (hb1.cell (p := ⟨PX, 0, none⟩) ltX).trans cX
        try replace ox := ox.later hb1 sX
        try replace ltX := Nat.lt_of_lt_of_le ltX hb1.size
        try replace sX := Nat.le_trans sX hb1.size
        try replace cY := (hb1.cell (p := ⟨PY, 0, none⟩) ltY).trans cY
        try replace oy := oy.later hb1 sY
        try replace ltY := Nat.lt_of_lt_of_le ltY hb1.size
        try replace sY := Nat.le_trans sY hb1.size
        try replace cg := (hb1.cell (p := ⟨PG, 0, none⟩) ltG).trans cg
        try replace og := og.later hb1 sG
        try replace ltG := Nat.lt_of_lt_of_le ltG hb1.size
        try replace sG := Nat.le_trans sG hb1.size
        replace hb := hb.trans (hb1.mono hb.size)
        have hsz := hb1.size
        clear hb1
        clear hsz
        have hx1 := hx.later hb
        have hy1 := hy.later hb
        have c0 := (hb.cell (p := ⟨w.heap.size, 0, none⟩) hl0).trans C0
        have c1 := (hb.cell (p := ⟨w.heap.size + 1, 0, none⟩) hl1).trans C1
        have HXS := Lib.hid hx1
        have HYS := Lib.hid hy1
        have lt0 := Nat.lt_of_lt_of_le hl0 hb.size
        have lt1 := Nat.lt_of_lt_of_le hl1 hb.size
        clear hx1 hy1
        obtain ⟨wS, hwS⟩ : ∃ wS, wS = w16 := ⟨_, rfl⟩
        subst hwS
        go_upto_region 31 with fail
        go_cut [15, 16] (fun s15 s16 wx => ∃ (PW : Nat) (wa : Option Addr) (wc : Nat), s15 = .pointer (some ⟨PW, 0, none⟩) ∧ s16 = .bool rb ∧ FinW wS z PW wa wc wx)
        case first =>
          clear cw ow cg og ltW sW ltG sG
          refine wp_region_held_drew (S := fun w' => w'.cell? ⟨w.heap.size, 0, none⟩ = some (.slice a x.length c) ∧ w'.cell? ⟨w.heap.size + 1, 0, none⟩ = some (.slice a' y.length c')) (by kernel_rfl) (by (try dsimp only); go_keep) (fun hHeld => ?_)
          have hbR : Below wS.heap.size wS wS.drew := (Below.refl _ _).drew
          have lS0 := lt0
          have lS1 := lt1
          replace lt0 : w.heap.size < wS.drew.heap.size := lt0
          replace lt1 : w.heap.size + 1 < wS.drew.heap.size := lt1
          replace c0 : wS.drew.cell? ⟨w.heap.size, 0, none⟩ = some (.slice a x.length c) := c0
          replace c1 : wS.drew.cell? ⟨w.heap.size + 1, 0, none⟩ = some (.slice a' y.length c') := c1
          generalize wS.drew = wd at *
          refine wpAnyH_take (i := 0) (oi := ⟨some 95, _, _, _, _, _⟩) (v := ?vqz0) rfl (by kernel_rfl) (by kernel_rfl) (by kernel_rfl) (fun _ _ _ h => h) (Or.inl ⟨by rfl, ?yqz0⟩) (by assumption) ?rqz0
          case yqz0 => (intro w hSw; (try dsimp only at hSw); go_simp; all_goals (with_reducible rfl))
          try simp only [Act.put, List.setIfInBounds_toArray, List.set_cons_zero, List.set_cons_succ]
          refine wpAnyH_take (i := 2) (oi := ⟨some 97, _, _, _, _, _⟩) (v := ?vqz2) rfl (by kernel_rfl) (by kernel_rfl) (by kernel_rfl) (fun _ _ _ h => h) (Or.inl ⟨by rfl, ?yqz2⟩) (by assumption) ?rqz2
          case yqz2 => (intro w hSw; (try dsimp only at hSw); go_simp; all_goals (with_reducible rfl))
          try simp only [Act.put, List.setIfInBounds_toArray, List.set_cons_zero, List.set_cons_succ]
          refine wpAnyH_ready (rs := [1, 8]) (by kernel_rfl) (by simp) ?_
          refine AllReadyH.cons rfl (fun K hK => ?_) ?_
          · go_simp
            (go_at_call 24; refine (toGroup_any _ x _ (HXS.out.later hbR) hm hr).mono ?_; rintro e w7 ⟨u7, rfl, o7, hb7⟩)
            have r7 := o7.read
            clear o7
            replace c0 := (hb7.cell (p := ⟨w.heap.size, 0, none⟩) lt0).trans c0
            replace c1 := (hb7.cell (p := ⟨w.heap.size + 1, 0, none⟩) lt1).trans c1
            replace lt0 := Nat.lt_of_lt_of_le lt0 hb7.size
            replace lt1 := Nat.lt_of_lt_of_le lt1 hb7.size
            replace hbR := hbR.trans (hb7.mono hbR.size)
            try replace cw := (hb7.cell (p := ⟨PW, 0, none⟩) ltw).trans cw
            try replace fw := (hb7.frozen (p := ⟨PW, 0, none⟩) ltw).trans fw
            try replace ltw := Nat.lt_of_lt_of_le ltw hb7.size
            clear hb7
            go_wp2_with fail
            refine hK.out _ _ (by (try dsimp only); go_keep) (fun hHeld => ?_)
            clear hK K
            try simp only [Act.put, List.setIfInBounds_toArray, List.set_cons_zero, List.set_cons_succ]
            refine wpAnyH_ready (rs := [3, 8]) (by kernel_rfl) (by simp) ?_
            refine AllReadyH.cons rfl (fun K hK => ?_) ?_
            · go_simp
              (go_at_call 24; refine (toGroup_any _ y _ (HYS.out.later hbR) hm' hr').mono ?_; rintro e w8 ⟨u8, rfl, o8, hb7⟩)
              have r8 := o8.read
              clear o8
              replace c0 := (hb7.cell (p := ⟨w.heap.size, 0, none⟩) lt0).trans c0
              replace c1 := (hb7.cell (p := ⟨w.heap.size + 1, 0, none⟩) lt1).trans c1
              replace lt0 := Nat.lt_of_lt_of_le lt0 hb7.size
              replace lt1 := Nat.lt_of_lt_of_le lt1 hb7.size
              replace hbR := hbR.trans (hb7.mono hbR.size)
              replace r7 := r7.later hb7
              try replace cw := (hb7.cell (p := ⟨PW, 0, none⟩) ltw).trans cw
              try replace fw := (hb7.frozen (p := ⟨PW, 0, none⟩) ltw).trans fw
              try replace ltw := Nat.lt_of_lt_of_le ltw hb7.size
              clear hb7
              go_wp2_with fail
              refine hK.out _ _ (by (try dsimp only); go_keep) (fun hHeld => ?_)
              clear hK K
              try simp only [Act.put, List.setIfInBounds_toArray, List.set_cons_zero, List.set_cons_succ]
              refine wpAnyH_ready (rs := [4, 8]) (by kernel_rfl) (by simp) ?_
              refine AllReadyH.cons rfl (fun K hK => ?_) ?_
              · go_simp
                have hBS := hbR.size
                (go_at_call 42; refine (HI.out _ _ _ r7 r8).mono ?_; rintro e w9 ⟨wa, wc, rfl, ow, hb7⟩)
                replace c0 := (hb7.cell (p := ⟨w.heap.size, 0, none⟩) lt0).trans c0
                replace c1 := (hb7.cell (p := ⟨w.heap.size + 1, 0, none⟩) lt1).trans c1
                replace lt0 := Nat.lt_of_lt_of_le lt0 hb7.size
                replace lt1 := Nat.lt_of_lt_of_le lt1 hb7.size
                replace hbR := hbR.trans (hb7.mono hbR.size)
                try (have hPB := ltw)
                try replace cw := (hb7.cell (p := ⟨PW, 0, none⟩) ltw).trans cw
                try replace fw := (hb7.frozen (p := ⟨PW, 0, none⟩) ltw).trans fw
                try replace ltw := Nat.lt_of_lt_of_le ltw hb7.size
                clear hb7 r7 r8
                go_wp2_with fail
                refine hK.out _ _ (by (try dsimp only); go_keep) (fun hHeld => ?_)
                clear hK K
                try simp only [Act.put, List.setIfInBounds_toArray, List.set_cons_zero, List.set_cons_succ]
                refine wpAnyH_take (i := 5) (oi := ⟨some 94, _, _, _, _, _⟩) (v := ?vqa5) rfl (by kernel_rfl) (by kernel_rfl) (by kernel_rfl) (fun _ _ _ h => h) (Or.inl ⟨by rfl, ?yqa5⟩) (by assumption) ?rqa5
                case yqa5 => (intro w hSw; (try dsimp only at hSw); go_simp; all_goals (with_reducible rfl))
                try simp only [Act.put, List.setIfInBounds_toArray, List.set_cons_zero, List.set_cons_succ]
                refine wpAnyH_take (i := 6) (oi := ⟨some 100, _, _, _, _, _⟩) (v := ?vqa6) rfl (by kernel_rfl) (by kernel_rfl) (by kernel_rfl) (fun _ _ _ h => h) (Or.inl ⟨by rfl, ?yqa6⟩) (by assumption) ?rqa6
                case yqa6 => (intro w hSw; (try dsimp only at hSw); go_simp; all_goals (with_reducible rfl))
                try simp only [Act.put, List.setIfInBounds_toArray, List.set_cons_zero, List.set_cons_succ]
                refine wpAnyH_take (i := 7) (oi := ⟨some 101, _, _, _, _, _⟩) (v := ?vqa7) rfl (by kernel_rfl) (by kernel_rfl) (by kernel_rfl) (fun _ _ _ h => h) (Or.inl ⟨by rfl, ?yqa7⟩) (by assumption) ?rqa7
                case yqa7 => (intro w hSw; (try dsimp only at hSw); go_simp; all_goals (with_reducible rfl))
                try simp only [Act.put, List.setIfInBounds_toArray, List.set_cons_zero, List.set_cons_succ]
                refine wpAnyH_ready (rs := [8]) (by kernel_rfl) (by simp) ?_
                refine AllReadyH.cons rfl (fun K hK => ?_) AllReadyH.nil
                go_simp
                refine hK.out _ _ (by (try dsimp only); go_keep) (fun hHeld => ?_)
                clear hK K
                try simp only [Act.put, List.setIfInBounds_toArray, List.set_cons_zero, List.set_cons_succ]
                have cw : (w9.alloc (.cells #[.slice none 0 0] 24)).cell? ⟨w9.heap.size, 0, none⟩ = some (.slice none 0 0) := World.cell?_alloc_at _ _ _ _ rfl
                have fw : (w9.alloc (.cells #[.slice none 0 0] 24)).frozen? ⟨w9.heap.size, 0, none⟩ = false := World.frozen?_alloc_at _ _ _ _ rfl
                have hb7 : Below w9.heap.size w9 (w9.alloc (.cells #[.slice none 0 0] 24)) := (Below.refl _ _).alloc (Nat.le_refl _) _
                have ltw : w9.heap.size < (w9.alloc (.cells #[.slice none 0 0] 24)).heap.size := by simp
                have hPS := hbR.size
                replace c0 := (hb7.cell (p := ⟨w.heap.size, 0, none⟩) lt0).trans c0
                replace c1 := (hb7.cell (p := ⟨w.heap.size + 1, 0, none⟩) lt1).trans c1
                replace lt0 := Nat.lt_of_lt_of_le lt0 hb7.size
                replace lt1 := Nat.lt_of_lt_of_le lt1 hb7.size
                replace hbR := hbR.trans (hb7.mono hbR.size)
                try replace r7 := r7.later hb7
                try replace r8 := r8.later hb7
                try replace ow := ow.later hb7 (Nat.le_refl _)
                clear hb7
                generalize w9.alloc (.cells #[.slice none 0 0] 24) = wA at *
                generalize hPW : w9.heap.size = PW at *
                refine wpAnyH_ready (rs := [9]) (by kernel_rfl) (by simp) ?_
                refine AllReadyH.cons rfl (fun K hK => ?_) AllReadyH.nil
                go_simp
                replace c0 := (World.cell?_setCell_far _ ⟨PW, 0, none⟩ ⟨w.heap.size, 0, none⟩ (.slice wa z.length wc) (by show PW ≠ w.heap.size; omega)).trans c0
                replace c1 := (World.cell?_setCell_far _ ⟨PW, 0, none⟩ ⟨w.heap.size + 1, 0, none⟩ (.slice wa z.length wc) (by show PW ≠ w.heap.size + 1; omega)).trans c1
                refine hK.out _ _ (by exact ⟨c0, c1⟩) (fun hHeld => ?_)
                clear hK K
                try simp only [Act.put, List.setIfInBounds_toArray, List.set_cons_zero, List.set_cons_succ]
                refine wpAnyH_take (i := 10) (oi := ⟨some 16, _, _, _, _, _⟩) (v := ?vqa10) rfl (by kernel_rfl) (by kernel_rfl) (by kernel_rfl) (fun _ _ _ h => h) (Or.inl ⟨by rfl, ?yqa10⟩) (by assumption) ?rqa10
                case yqa10 => (intro w hSw; (try dsimp only at hSw); go_simp; all_goals (with_reducible rfl))
                try simp only [Act.put, List.setIfInBounds_toArray, List.set_cons_zero, List.set_cons_succ]
                refine wpAnyH_done (by kernel_rfl) ?_ _
                go_wp2_with fail
                go_meet
                exact ⟨PW, wa, wc, rfl, rfl, FinW.mk hbR cw ltw hPS hBS (Nat.le_of_lt ltw) (.inr (Nat.le_refl _)) ow⟩
              · refine AllReadyH.cons rfl (fun K hK => ?_) AllReadyH.nil
                go_simp
                refine hK.out _ _ (by (try dsimp only); go_keep) (fun hHeld => ?_)
                clear hK K
                try simp only [Act.put, List.setIfInBounds_toArray, List.set_cons_zero, List.set_cons_succ]
                have cw : (w8.alloc (.cells #[.slice none 0 0] 24)).cell? ⟨w8.heap.size, 0, none⟩ = some (.slice none 0 0) := World.cell?_alloc_at _ _ _ _ rfl
                have fw : (w8.alloc (.cells #[.slice none 0 0] 24)).frozen? ⟨w8.heap.size, 0, none⟩ = false := World.frozen?_alloc_at _ _ _ _ rfl
                have hb7 : Below w8.heap.size w8 (w8.alloc (.cells #[.slice none 0 0] 24)) := (Below.refl _ _).alloc (Nat.le_refl _) _
                have ltw : w8.heap.size < (w8.alloc (.cells #[.slice none 0 0] 24)).heap.size := by simp
                have hPS := hbR.size
                replace c0 := (hb7.cell (p := ⟨w.heap.size, 0, none⟩) lt0).trans c0
                replace c1 := (hb7.cell (p := ⟨w.heap.size + 1, 0, none⟩) lt1).trans c1
                replace lt0 := Nat.lt_of_lt_of_le lt0 hb7.size
                replace lt1 := Nat.lt_of_lt_of_le lt1 hb7.size
                replace hbR := hbR.trans (hb7.mono hbR.size)
                try replace r7 := r7.later hb7
                try replace r8 := r8.later hb7
                try replace ow := ow.later hb7 (Nat.le_refl _)
                clear hb7
                generalize w8.alloc (.cells #[.slice none 0 0] 24) = wA at *
                generalize hPW : w8.heap.size = PW at *
                refine wpAnyH_ready (rs := [4]) (by kernel_rfl) (by simp) ?_
                refine AllReadyH.cons rfl (fun K hK => ?_) AllReadyH.nil
                go_simp
                have hBS := hbR.size
                (go_at_call 42; refine (HI.out _ _ _ r7 r8).mono ?_; rintro e w9 ⟨wa, wc, rfl, ow, hb7⟩)
                replace c0 := (hb7.cell (p := ⟨w.heap.size, 0, none⟩) lt0).trans c0
                replace c1 := (hb7.cell (p := ⟨w.heap.size + 1, 0, none⟩) lt1).trans c1
                replace lt0 := Nat.lt_of_lt_of_le lt0 hb7.size
                replace lt1 := Nat.lt_of_lt_of_le lt1 hb7.size
                replace hbR := hbR.trans (hb7.mono hbR.size)
                try (have hPB := ltw)
                try replace cw := (hb7.cell (p := ⟨PW, 0, none⟩) ltw).trans cw
                try replace fw := (hb7.frozen (p := ⟨PW, 0, none⟩) ltw).trans fw
                try replace ltw := Nat.lt_of_lt_of_le ltw hb7.size
                clear hb7 r7 r8
                go_wp2_with fail
                refine hK.out _ _ (by (try dsimp only); go_keep) (fun hHeld => ?_)
                clear hK K
                try simp only [Act.put, List.setIfInBounds_toArray, List.set_cons_zero, List.set_cons_succ]
                refine wpAnyH_take (i := 5) (oi := ⟨some 94, _, _, _, _, _⟩) (v := ?vqb5) rfl (by kernel_rfl) (by kernel_rfl) (by kernel_rfl) (fun _ _ _ h => h) (Or.inl ⟨by rfl, ?yqb5⟩) (by assumption) ?rqb5
                case yqb5 => (intro w hSw; (try dsimp only at hSw); go_simp; all_goals (with_reducible rfl))
                try simp only [Act.put, List.setIfInBounds_toArray, List.set_cons_zero, List.set_cons_succ]
                refine wpAnyH_take (i := 6) (oi := ⟨some 100, _, _, _, _, _⟩) (v := ?vqb6) rfl (by kernel_rfl) (by kernel_rfl) (by kernel_rfl) (fun _ _ _ h => h) (Or.inl ⟨by rfl, ?yqb6⟩) (by assumption) ?rqb6
                case yqb6 => (intro w hSw; (try dsimp only at hSw); go_simp; all_goals (with_reducible rfl))
                try simp only [Act.put, List.setIfInBounds_toArray, List.set_cons_zero, List.set_cons_succ]
                refine wpAnyH_take (i := 7) (oi := ⟨some 101, _, _, _, _, _⟩) (v := ?vqb7) rfl (by kernel_rfl) (by kernel_rfl) (by kernel_rfl) (fun _ _ _ h => h) (Or.inl ⟨by rfl, ?yqb7⟩) (by assumption) ?rqb7
                case yqb7 => (intro w hSw; (try dsimp only at hSw); go_simp; all_goals (with_reducible rfl))
                try simp only [Act.put, List.setIfInBounds_toArray, List.set_cons_zero, List.set_cons_succ]
                refine wpAnyH_ready (rs := [9]) (by kernel_rfl) (by simp) ?_
                refine AllReadyH.cons rfl (fun K hK => ?_) AllReadyH.nil
                go_simp
                replace c0 := (World.cell?_setCell_far _ ⟨PW, 0, none⟩ ⟨w.heap.size, 0, none⟩ (.slice wa z.length wc) (by show PW ≠ w.heap.size; omega)).trans c0
                replace c1 := (World.cell?_setCell_far _ ⟨PW, 0, none⟩ ⟨w.heap.size + 1, 0, none⟩ (.slice wa z.length wc) (by show PW ≠ w.heap.size + 1; omega)).trans c1
                refine hK.out _ _ (by exact ⟨c0, c1⟩) (fun hHeld => ?_)
                clear hK K
                try simp only [Act.put, List.setIfInBounds_toArray, List.set_cons_zero, List.set_cons_succ]
                refine wpAnyH_take (i := 10) (oi := ⟨some 16, _, _, _, _, _⟩) (v := ?vqb10) rfl (by kernel_rfl) (by kernel_rfl) (by kernel_rfl) (fun _ _ _ h => h) (Or.inl ⟨by rfl, ?yqb10⟩) (by assumption) ?rqb10
                case yqb10 => (intro w hSw; (try dsimp only at hSw); go_simp; all_goals (with_reducible rfl))
                try simp only [Act.put, List.setIfInBounds_toArray, List.set_cons_zero, List.set_cons_succ]
                refine wpAnyH_done (by kernel_rfl) ?_ _
                go_wp2_with fail
                go_meet
                exact ⟨PW, wa, wc, rfl, rfl, FinW.mk hbR cw ltw hPS hBS (Nat.le_refl _) (.inl hPB) ow⟩
            · refine AllReadyH.cons rfl (fun K hK => ?_) AllReadyH.nil
              go_simp
              refine hK.out _ _ (by (try dsimp only); go_keep) (fun hHeld => ?_)
              clear hK K
              try simp only [Act.put, List.setIfInBounds_toArray, List.set_cons_zero, List.set_cons_succ]
              have cw : (w7.alloc (.cells #[.slice none 0 0] 24)).cell? ⟨w7.heap.size, 0, none⟩ = some (.slice none 0 0) := World.cell?_alloc_at _ _ _ _ rfl
              have fw : (w7.alloc (.cells #[.slice none 0 0] 24)).frozen? ⟨w7.heap.size, 0, none⟩ = false := World.frozen?_alloc_at _ _ _ _ rfl
              have hb7 : Below w7.heap.size w7 (w7.alloc (.cells #[.slice none 0 0] 24)) := (Below.refl _ _).alloc (Nat.le_refl _) _
              have ltw : w7.heap.size < (w7.alloc (.cells #[.slice none 0 0] 24)).heap.size := by simp
              have hPS := hbR.size
              replace c0 := (hb7.cell (p := ⟨w.heap.size, 0, none⟩) lt0).trans c0
              replace c1 := (hb7.cell (p := ⟨w.heap.size + 1, 0, none⟩) lt1).trans c1
              replace lt0 := Nat.lt_of_lt_of_le lt0 hb7.size
              replace lt1 := Nat.lt_of_lt_of_le lt1 hb7.size
              replace hbR := hbR.trans (hb7.mono hbR.size)
              try replace r7 := r7.later hb7
              try replace r8 := r8.later hb7
              try replace ow := ow.later hb7 (Nat.le_refl _)
              clear hb7
              generalize w7.alloc (.cells #[.slice none 0 0] 24) = wA at *
              generalize hPW : w7.heap.size = PW at *
              refine wpAnyH_ready (rs := [3]) (by kernel_rfl) (by simp) ?_
              refine AllReadyH.cons rfl (fun K hK => ?_) AllReadyH.nil
              go_simp
              (go_at_call 24; refine (toGroup_any _ y _ (HYS.out.later hbR) hm' hr').mono ?_; rintro e w8 ⟨u8, rfl, o8, hb7⟩)
              have r8 := o8.read
              clear o8
              replace c0 := (hb7.cell (p := ⟨w.heap.size, 0, none⟩) lt0).trans c0
              replace c1 := (hb7.cell (p := ⟨w.heap.size + 1, 0, none⟩) lt1).trans c1
              replace lt0 := Nat.lt_of_lt_of_le lt0 hb7.size
              replace lt1 := Nat.lt_of_lt_of_le lt1 hb7.size
              replace hbR := hbR.trans (hb7.mono hbR.size)
              replace r7 := r7.later hb7
              try replace cw := (hb7.cell (p := ⟨PW, 0, none⟩) ltw).trans cw
              try replace fw := (hb7.frozen (p := ⟨PW, 0, none⟩) ltw).trans fw
              try replace ltw := Nat.lt_of_lt_of_le ltw hb7.size
              clear hb7
              go_wp2_with fail
              refine hK.out _ _ (by (try dsimp only); go_keep) (fun hHeld => ?_)
              clear hK K
              try simp only [Act.put, List.setIfInBounds_toArray, List.set_cons_zero, List.set_cons_succ]
              refine wpAnyH_ready (rs := [4]) (by kernel_rfl) (by simp) ?_
              refine AllReadyH.cons rfl (fun K hK => ?_) AllReadyH.nil
              go_simp
              have hBS := hbR.size
              (go_at_call 42; refine (HI.out _ _ _ r7 r8).mono ?_; rintro e w9 ⟨wa, wc, rfl, ow, hb7⟩)
              replace c0 := (hb7.cell (p := ⟨w.heap.size, 0, none⟩) lt0).trans c0
              replace c1 := (hb7.cell (p := ⟨w.heap.size + 1, 0, none⟩) lt1).trans c1
              replace lt0 := Nat.lt_of_lt_of_le lt0 hb7.size
              replace lt1 := Nat.lt_of_lt_of_le lt1 hb7.size
              replace hbR := hbR.trans (hb7.mono hbR.size)
              try (have hPB := ltw)
              try replace cw := (hb7.cell (p := ⟨PW, 0, none⟩) ltw).trans cw
              try replace fw := (hb7.frozen (p := ⟨PW, 0, none⟩) ltw).trans fw
              try replace ltw := Nat.lt_of_lt_of_le ltw hb7.size
              clear hb7 r7 r8
              go_wp2_with fail
              refine hK.out _ _ (by (try dsimp only); go_keep) (fun hHeld => ?_)
              clear hK K
              try simp only [Act.put, List.setIfInBounds_toArray, List.set_cons_zero, List.set_cons_succ]
              refine wpAnyH_take (i := 5) (oi := ⟨some 94, _, _, _, _, _⟩) (v := ?vqc5) rfl (by kernel_rfl) (by kernel_rfl) (by kernel_rfl) (fun _ _ _ h => h) (Or.inl ⟨by rfl, ?yqc5⟩) (by assumption) ?rqc5
              case yqc5 => (intro w hSw; (try dsimp only at hSw); go_simp; all_goals (with_reducible rfl))
              try simp only [Act.put, List.setIfInBounds_toArray, List.set_cons_zero, List.set_cons_succ]
              refine wpAnyH_take (i := 6) (oi := ⟨some 100, _, _, _, _, _⟩) (v := ?vqc6) rfl (by kernel_rfl) (by kernel_rfl) (by kernel_rfl) (fun _ _ _ h => h) (Or.inl ⟨by rfl, ?yqc6⟩) (by assumption) ?rqc6
              case yqc6 => (intro w hSw; (try dsimp only at hSw); go_simp; all_goals (with_reducible rfl))
              try simp only [Act.put, List.setIfInBounds_toArray, List.set_cons_zero, List.set_cons_succ]
              refine wpAnyH_take (i := 7) (oi := ⟨some 101, _, _, _, _, _⟩) (v := ?vqc7) rfl (by kernel_rfl) (by kernel_rfl) (by kernel_rfl) (fun _ _ _ h => h) (Or.inl ⟨by rfl, ?yqc7⟩) (by assumption) ?rqc7
              case yqc7 => (intro w hSw; (try dsimp only at hSw); go_simp; all_goals (with_reducible rfl))
              try simp only [Act.put, List.setIfInBounds_toArray, List.set_cons_zero, List.set_cons_succ]
              refine wpAnyH_ready (rs := [9]) (by kernel_rfl) (by simp) ?_
              refine AllReadyH.cons rfl (fun K hK => ?_) AllReadyH.nil
              go_simp
              replace c0 := (World.cell?_setCell_far _ ⟨PW, 0, none⟩ ⟨w.heap.size, 0, none⟩ (.slice wa z.length wc) (by show PW ≠ w.heap.size; omega)).trans c0
              replace c1 := (World.cell?_setCell_far _ ⟨PW, 0, none⟩ ⟨w.heap.size + 1, 0, none⟩ (.slice wa z.length wc) (by show PW ≠ w.heap.size + 1; omega)).trans c1
              refine hK.out _ _ (by exact ⟨c0, c1⟩) (fun hHeld => ?_)
              clear hK K
              try simp only [Act.put, List.setIfInBounds_toArray, List.set_cons_zero, List.set_cons_succ]
              refine wpAnyH_take (i := 10) (oi := ⟨some 16, _, _, _, _, _⟩) (v := ?vqc10) rfl (by kernel_rfl) (by kernel_rfl) (by kernel_rfl) (fun _ _ _ h => h) (Or.inl ⟨by rfl, ?yqc10⟩) (by assumption) ?rqc10
              case yqc10 => (intro w hSw; (try dsimp only at hSw); go_simp; all_goals (with_reducible rfl))
              try simp only [Act.put, List.setIfInBounds_toArray, List.set_cons_zero, List.set_cons_succ]
              refine wpAnyH_done (by kernel_rfl) ?_ _
              go_wp2_with fail
              go_meet
              exact ⟨PW, wa, wc, rfl, rfl, FinW.mk hbR cw ltw hPS hBS (Nat.le_refl _) (.inl hPB) ow⟩
          · refine AllReadyH.cons rfl (fun K hK => ?_) AllReadyH.nil
            go_simp
            refine hK.out _ _ (by (try dsimp only); go_keep) (fun hHeld => ?_)
            clear hK K
            try simp only [Act.put, List.setIfInBounds_toArray, List.set_cons_zero, List.set_cons_succ]
            have cw : (wd.alloc (.cells #[.slice none 0 0] 24)).cell? ⟨wd.heap.size, 0, none⟩ = some (.slice none 0 0) := World.cell?_alloc_at _ _ _ _ rfl
            have fw : (wd.alloc (.cells #[.slice none 0 0] 24)).frozen? ⟨wd.heap.size, 0, none⟩ = false := World.frozen?_alloc_at _ _ _ _ rfl
            have hb7 : Below wd.heap.size wd (wd.alloc (.cells #[.slice none 0 0] 24)) := (Below.refl _ _).alloc (Nat.le_refl _) _
            have ltw : wd.heap.size < (wd.alloc (.cells #[.slice none 0 0] 24)).heap.size := by simp
            have hPS := hbR.size
            replace c0 := (hb7.cell (p := ⟨w.heap.size, 0, none⟩) lt0).trans c0
            replace c1 := (hb7.cell (p := ⟨w.heap.size + 1, 0, none⟩) lt1).trans c1
            replace lt0 := Nat.lt_of_lt_of_le lt0 hb7.size
            replace lt1 := Nat.lt_of_lt_of_le lt1 hb7.size
            replace hbR := hbR.trans (hb7.mono hbR.size)
            try replace r7 := r7.later hb7
            try replace r8 := r8.later hb7
            try replace ow := ow.later hb7 (Nat.le_refl _)
            clear hb7
            generalize wd.alloc (.cells #[.slice none 0 0] 24) = wA at *
            generalize hPW : wd.heap.size = PW at *
            refine wpAnyH_ready (rs := [1]) (by kernel_rfl) (by simp) ?_
            refine AllReadyH.cons rfl (fun K hK => ?_) AllReadyH.nil
            go_simp
            (go_at_call 24; refine (toGroup_any _ x _ (HXS.out.later hbR) hm hr).mono ?_; rintro e w7 ⟨u7, rfl, o7, hb7⟩)
            have r7 := o7.read
            clear o7
            replace c0 := (hb7.cell (p := ⟨w.heap.size, 0, none⟩) lt0).trans c0
            replace c1 := (hb7.cell (p := ⟨w.heap.size + 1, 0, none⟩) lt1).trans c1
            replace lt0 := Nat.lt_of_lt_of_le lt0 hb7.size
            replace lt1 := Nat.lt_of_lt_of_le lt1 hb7.size
            replace hbR := hbR.trans (hb7.mono hbR.size)
            try replace cw := (hb7.cell (p := ⟨PW, 0, none⟩) ltw).trans cw
            try replace fw := (hb7.frozen (p := ⟨PW, 0, none⟩) ltw).trans fw
            try replace ltw := Nat.lt_of_lt_of_le ltw hb7.size
            clear hb7
            go_wp2_with fail
            refine hK.out _ _ (by (try dsimp only); go_keep) (fun hHeld => ?_)
            clear hK K
            try simp only [Act.put, List.setIfInBounds_toArray, List.set_cons_zero, List.set_cons_succ]
            refine wpAnyH_ready (rs := [3]) (by kernel_rfl) (by simp) ?_
            refine AllReadyH.cons rfl (fun K hK => ?_) AllReadyH.nil
            go_simp
            (go_at_call 24; refine (toGroup_any _ y _ (HYS.out.later hbR) hm' hr').mono ?_; rintro e w8 ⟨u8, rfl, o8, hb7⟩)
            have r8 := o8.read
            clear o8
            replace c0 := (hb7.cell (p := ⟨w.heap.size, 0, none⟩) lt0).trans c0
            replace c1 := (hb7.cell (p := ⟨w.heap.size + 1, 0, none⟩) lt1).trans c1
            replace lt0 := Nat.lt_of_lt_of_le lt0 hb7.size
            replace lt1 := Nat.lt_of_lt_of_le lt1 hb7.size
            replace hbR := hbR.trans (hb7.mono hbR.size)
            replace r7 := r7.later hb7
            try replace cw := (hb7.cell (p := ⟨PW, 0, none⟩) ltw).trans cw
            try replace fw := (hb7.frozen (p := ⟨PW, 0, none⟩) ltw).trans fw
            try replace ltw := Nat.lt_of_lt_of_le ltw hb7.size
            clear hb7
            go_wp2_with fail
            refine hK.out _ _ (by (try dsimp only); go_keep) (fun hHeld => ?_)
            clear hK K
            try simp only [Act.put, List.setIfInBounds_toArray, List.set_cons_zero, List.set_cons_succ]
            refine wpAnyH_ready (rs := [4]) (by kernel_rfl) (by simp) ?_
            refine AllReadyH.cons rfl (fun K hK => ?_) AllReadyH.nil
            go_simp
            have hBS := hbR.size
            (go_at_call 42; refine (HI.out _ _ _ r7 r8).mono ?_; rintro e w9 ⟨wa, wc, rfl, ow, hb7⟩)
            replace c0 := (hb7.cell (p := ⟨w.heap.size, 0, none⟩) lt0).trans c0
            replace c1 := (hb7.cell (p := ⟨w.heap.size + 1, 0, none⟩) lt1).trans c1
            replace lt0 := Nat.lt_of_lt_of_le lt0 hb7.size
            replace lt1 := Nat.lt_of_lt_of_le lt1 hb7.size
            replace hbR := hbR.trans (hb7.mono hbR.size)
            try (have hPB := ltw)
            try replace cw := (hb7.cell (p := ⟨PW, 0, none⟩) ltw).trans cw
            try replace fw := (hb7.frozen (p := ⟨PW, 0, none⟩) ltw).trans fw
            try replace ltw := Nat.lt_of_lt_of_le ltw hb7.size
            clear hb7 r7 r8
            go_wp2_with fail
            refine hK.out _ _ (by (try dsimp only); go_keep) (fun hHeld => ?_)
            clear hK K
            try simp only [Act.put, List.setIfInBounds_toArray, List.set_cons_zero, List.set_cons_succ]
            refine wpAnyH_take (i := 5) (oi := ⟨some 94, _, _, _, _, _⟩) (v := ?vqd5) rfl (by kernel_rfl) (by kernel_rfl) (by kernel_rfl) (fun _ _ _ h => h) (Or.inl ⟨by rfl, ?yqd5⟩) (by assumption) ?rqd5
            case yqd5 => (intro w hSw; (try dsimp only at hSw); go_simp; all_goals (with_reducible rfl))
            try simp only [Act.put, List.setIfInBounds_toArray, List.set_cons_zero, List.set_cons_succ]
            refine wpAnyH_take (i := 6) (oi := ⟨some 100, _, _, _, _, _⟩) (v := ?vqd6) rfl (by kernel_rfl) (by kernel_rfl) (by kernel_rfl) (fun _ _ _ h => h) (Or.inl ⟨by rfl, ?yqd6⟩) (by assumption) ?rqd6
            case yqd6 => (intro w hSw; (try dsimp only at hSw); go_simp; all_goals (with_reducible rfl))
            try simp only [Act.put, List.setIfInBounds_toArray, List.set_cons_zero, List.set_cons_succ]
            refine wpAnyH_take (i := 7) (oi := ⟨some 101, _, _, _, _, _⟩) (v := ?vqd7) rfl (by kernel_rfl) (by kernel_rfl) (by kernel_rfl) (fun _ _ _ h => h) (Or.inl ⟨by rfl, ?yqd7⟩) (by assumption) ?rqd7
            case yqd7 => (intro w hSw; (try dsimp only at hSw); go_simp; all_goals (with_reducible rfl))
            try simp only [Act.put, List.setIfInBounds_toArray, List.set_cons_zero, List.set_cons_succ]
            refine wpAnyH_ready (rs := [9]) (by kernel_rfl) (by simp) ?_
            refine AllReadyH.cons rfl (fun K hK => ?_) AllReadyH.nil
            go_simp
            replace c0 := (World.cell?_setCell_far _ ⟨PW, 0, none⟩ ⟨w.heap.size, 0, none⟩ (.slice wa z.length wc) (by show PW ≠ w.heap.size; omega)).trans c0
            replace c1 := (World.cell?_setCell_far _ ⟨PW, 0, none⟩ ⟨w.heap.size + 1, 0, none⟩ (.slice wa z.length wc) (by show PW ≠ w.heap.size + 1; omega)).trans c1
            refine hK.out _ _ (by exact ⟨c0, c1⟩) (fun hHeld => ?_)
            clear hK K
            try simp only [Act.put, List.setIfInBounds_toArray, List.set_cons_zero, List.set_cons_succ]
            refine wpAnyH_take (i := 10) (oi := ⟨some 16, _, _, _, _, _⟩) (v := ?vqd10) rfl (by kernel_rfl) (by kernel_rfl) (by kernel_rfl) (fun _ _ _ h => h) (Or.inl ⟨by rfl, ?yqd10⟩) (by assumption) ?rqd10
            case yqd10 => (intro w hSw; (try dsimp only at hSw); go_simp; all_goals (with_reducible rfl))
            try simp only [Act.put, List.setIfInBounds_toArray, List.set_cons_zero, List.set_cons_succ]
            refine wpAnyH_done (by kernel_rfl) ?_ _
            go_wp2_with fail
            go_meet
            exact ⟨PW, wa, wc, rfl, rfl, FinW.mk hbR cw ltw hPS hBS (Nat.le_refl _) (.inl hPB) ow⟩
        case rest =>
          obtain ⟨PH, ha, hn, rfl, rfl, hb1, ch, ltH, _, BH, SH, _, sH, _, oh⟩ := hcut
          clear HXS HYS lt0 lt1 c0 c1
          try replace cw := (hb1.cell (p := ⟨PW, 0, none⟩) ltW).trans cw
          try replace ow := ow.later hb1 sW
          try replace ltW := Nat.lt_of_lt_of_le ltW hb1.size
          try replace sW := Nat.le_trans sW hb1.size
          try replace cX := (hb1.cell (p := ⟨PX, 0, none⟩) ltX).trans cX
          try replace ox := ox.later hb1 sX
          try replace ltX := Nat.lt_of_lt_of_le ltX hb1.size
          try replace sX := Nat.le_trans sX hb1.size
          try replace cY := (hb1.cell (p := ⟨PY, 0, none⟩) ltY).trans cY
          try replace oy := oy.later hb1 sY
          try replace ltY := Nat.lt_of_lt_of_le ltY hb1.size
          try replace sY := Nat.le_trans sY hb1.size
          try replace cg := (hb1.cell (p := ⟨PG, 0, none⟩) ltG).trans cg
          try replace og := og.later hb1 sG
          try replace ltG := Nat.lt_of_lt_of_le ltG hb1.size
          try replace sG := Nat.le_trans sG hb1.size
          replace hb := hb.trans (hb1.mono hb.size)
          have hsz := hb1.size
          clear hb1
          go_wp2_with fail
          refine (eqGroup_yes _ _ z _ oh.read ow.read zm zr).mono ?_
          rintro e w20 ⟨rfl, hb1⟩
          clear ch oh
          try replace cw := (hb1.cell (p := ⟨PW, 0, none⟩) ltW).trans cw
          try replace ow := ow.later hb1 sW
          try replace ltW := Nat.lt_of_lt_of_le ltW hb1.size
          try replace sW := Nat.le_trans sW hb1.size
          try replace cX := (hb1.cell (p := ⟨PX, 0, none⟩) ltX).trans cX
          try replace ox := ox.later hb1 sX
          try replace ltX := Nat.lt_of_lt_of_le ltX hb1.size
          try replace sX := Nat.le_trans sX hb1.size
          try replace cY := (hb1.cell (p := ⟨PY, 0, none⟩) ltY).trans cY
          try replace oy := oy.later hb1 sY
          try replace ltY := Nat.lt_of_lt_of_le ltY hb1.size
          try replace sY := Nat.le_trans sY hb1.size
          try replace cg := (hb1.cell (p := ⟨PG, 0, none⟩) ltG).trans cg
          try replace og := og.later hb1 sG
          try replace ltG := Nat.lt_of_lt_of_le ltG hb1.size
          try replace sG := Nat.le_trans sG hb1.size
          replace hb := hb.trans (hb1.mono hb.size)
          have hsz := hb1.size
          clear hb1
          go_wp2_with fail
          refine (heldGroup_yes _ z 1 _ og.read ⟨by omega, by omega⟩ (by omega)).mono ?_
          rintro e w21 ⟨rfl, hb1⟩
          replace hb := hb.trans (hb1.mono hb.size)
          go_wp2_with fail
          go_ret
          exact ⟨rfl, hbw.trans (hb.mono hbw.size)⟩
    · have HS2 := Lib.hid hs2
      clear hs hs2
      go_enter Try.func12, Try.ntmps12
      go_wp2_with fail
      generalize (w.alloc (.cells #[.slice a x.length c] 30)).alloc (.cells #[.slice a' y.length c'] 30) = W0 at *
      refine (szGroup_yes _ x _ _ hx (by omega) HS.out).mono ?_
      rintro e w1 ⟨r, rfl, HR, h1, h2, hb⟩
      have hx1 := hx.later hb
      have hy1 := hy.later hb
      have c0 := (hb.cell (p := ⟨w.heap.size, 0, none⟩) hl0).trans C0
      have c1 := (hb.cell (p := ⟨w.heap.size + 1, 0, none⟩) hl1).trans C1
      go_wp2_with fail
      refine (szGroup_no _ y _ _ hy1 (by omega) (by have := HS2.out; have := HR.out; omega)).mono ?_
      rintro e w2 ⟨rfl, hb1⟩
      go_wp2_with fail
      go_ret
      exact ⟨rfl, hbw.trans ((hb.trans (hb1.mono hb.size)).mono hbw.size)⟩
  · have HS := Lib.hid hs
    clear hs
    go_enter Try.func12, Try.ntmps12
    go_wp2_with fail
    generalize (w.alloc (.cells #[.slice a x.length c] 30)).alloc (.cells #[.slice a' y.length c'] 30) = W0 at *
    refine (szGroup_no _ x _ _ hx (by omega) (by have := HS.out; omega)).mono ?_
    rintro e w1 ⟨rfl, hb⟩
    go_wp2_with fail
    go_ret
    exact ⟨rfl, hbw.trans (hb.mono hbw.size)⟩
end Go.Proofs.Ytgedeifajmoljaa
