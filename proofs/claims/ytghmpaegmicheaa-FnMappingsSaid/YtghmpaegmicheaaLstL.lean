/- The laws of LeastComplete and LeastAntisymmetric, for all arguments. -/
import Derived.Test.YtghmpaegmicheaaLstS
import Derived.Test.YtghmpaegmicheaaGrpL
namespace Go.Proofs.Ytghmpaegmicheaa
open Go.RowKit

theorem lstL_len (cm : Bool) (x : List (List Int)) (hm : x.length ≤ 1048576) : (lstL cm x).length ≤ 1099511627776 := by
  unfold lstL
  by_cases h : grpB x = true
  · rw [if_pos h]
    cases e : lstO cm x with
    | none => simp
    | some r =>
      obtain ⟨t, h1, h2, _⟩ := lexF_some e
      rw [h1]; simp; omega
  · rw [if_neg h]; simp

set_option maxHeartbeats 2000000 in
set_option maxRecDepth 100000 in
theorem lawLeastComplete_any (v : Value) (x : List (List Int)) (w : World) (hx : RT w v x) :
    Calls Try.prog 4 #[.agg #[v]] w fun e w' => e = .returned (.bool true) ∧ Below w.heap.size w w' := by
  obtain ⟨a, c, rfl⟩ := hx.slice
  have hb0 : Below w.heap.size w (w.alloc (.cells #[.slice a x.length c] 24)) := (Below.refl _ _).alloc (Nat.le_refl _) _
  have C0 : (w.alloc (.cells #[.slice a x.length c] 24)).cell? ⟨w.heap.size, 0, none⟩ = some (.slice a x.length c) := World.cell?_alloc_at _ _ _ _ rfl
  have hlt : w.heap.size < (w.alloc (.cells #[.slice a x.length c] 24)).heap.size := by simp
  replace hx := hx.later hb0
  by_cases hs : (szT x : Int) ≤ 1048576
  · obtain ⟨hm, hr⟩ := small_of hs
    have HS := Lib.hid hs
    clear hs
    obtain ⟨cs, hcs⟩ : ∃ l, l = lstL true x := ⟨_, rfl⟩
    obtain ⟨rb, hrb⟩ : ∃ b, b = lstB true x := ⟨_, rfl⟩
    have hcl : cs.length ≤ 1099511627776 := by rw [hcs]; exact lstL_len true x hm
    have HI : Hid (∀ w1 v1, RT w1 v1 x → Calls Try.prog 21 #[.agg #[v1]] w1 fun e w' => ∃ v', e = .returned (.tuple #[v', .bool rb]) ∧ OI w1.heap.size w' v' cs ∧ Below w1.heap.size w1 w') := fun w1 v1 h => by
      rw [hcs, hrb]; exact implLC_any v1 x w1 h hm hr
    have HP : Hid (∀ w1 v1, RT w1 v1 x → Calls Try.prog 20 #[.agg #[v1]] w1 fun e w' => ∃ v', e = .returned (.tuple #[v', .bool rb]) ∧ OI w1.heap.size w' v' cs ∧ Below w1.heap.size w1 w') := fun w1 v1 h => by
      rw [hcs, hrb]; exact specLC_any v1 x w1 h hm hr
    clear hcs hrb
    go_enter Try.func4, Try.ntmps4
    go_wp2_with fail
    generalize w.alloc (.cells #[.slice a x.length c] 24) = w0 at *
    have HX := Lib.hid hx
    have HB0 := Lib.hid hb0
    have HC0 : Hid (∀ wr, Below w0.heap.size w0 wr → wr.cell? ⟨w.heap.size, 0, none⟩ = some (.slice a x.length c)) := fun wr h => (h.cell (p := ⟨w.heap.size, 0, none⟩) hlt).trans C0
    clear C0 hb0 hx
    refine (szGroup_yes _ x _ _ HX.out (by omega) HS.out).mono ?_
    rintro e w1 ⟨r, rfl, HR, h1, h2, hb⟩
    have hsz := hb.size
    have c0 := HC0.out _ hb
    go_wp2_with fail
    clear c0
    refine (toGroup_any _ x _ (HX.out.later hb) hm hr).mono ?_
    rintro e w2 ⟨u2, rfl, o2, hb1⟩
    replace hb := hb.trans (hb1.mono hb.size)
    have hsz := hb.size
    clear hb1
    go_wp2_with fail
    refine (HP.out _ _ o2.read).mono ?_
    rintro e w3 ⟨vw, rfl, ow, hb1⟩
    have hw3 := hb1.size
    replace hb := hb.trans (hb1.mono hb.size)
    have hsz := hb.size
    clear hb1 o2
    obtain ⟨wa, wc, rfl⟩ := ow.slice
    have c0 := HC0.out _ hb
    go_wp2_with fail
    clear c0
    refine (toGroup_any _ x _ (HX.out.later hb) hm hr).mono ?_
    rintro e w4 ⟨u3, rfl, ox, hb1⟩
    have hw4 := hb1.size
    have hwl : ∀ k, (Value.slice wa cs.length wc).ownBlock = some k → w2.heap.size ≤ k ∧ k < w3.heap.size := fun k hk => ow.lt k hk
    have HWL := Lib.hid hwl
    clear hwl
    replace ow := ow.later hb1
    replace hb := hb.trans (hb1.mono hb.size)
    have hsz := hb.size
    clear hb1
    obtain ⟨ua, uc, rfl⟩ := ox.slice
    go_wp2_with fail
    have cx : (w4.alloc (.cells #[.slice ua x.length uc] 29)).cell? ⟨w4.heap.size, 0, none⟩ = some (.slice ua x.length uc) := World.cell?_alloc_at _ _ _ _ rfl
    have hb1 : Below w4.heap.size w4 (w4.alloc (.cells #[.slice ua x.length uc] 29)) := (Below.refl _ _).alloc (Nat.le_refl _) _
    have hlx : w4.heap.size < (w4.alloc (.cells #[.slice ua x.length uc] 29)).heap.size := by simp
    replace ox := ox.later hb1 (Nat.le_refl _)
    replace ow := ow.later hb1
    replace hb := hb.trans (hb1.mono hb.size)
    have hsz := hb.size
    clear hb1
    generalize w4.alloc (.cells #[.slice ua x.length uc] 29) = w5 at *
    generalize w4.heap.size = X at *
    refine (HI.out _ _ ox.read).mono ?_
    rintro e w6 ⟨vg, rfl, og, hb1⟩
    obtain ⟨ga, gc, rfl⟩ := og.slice
    replace cx := (hb1.cell (p := ⟨X, 0, none⟩) hlx).trans cx
    replace ox := ox.later hb1 (Nat.le_of_lt hlx)
    replace ow := ow.later hb1
    have hw6 := hb1.size
    replace hb := hb.trans (hb1.mono hb.size)
    have hsz := hb.size
    clear hb1
    go_wp2_with fail
    refine (eqInt64S_q _ _ cs _ og.read ow.read hcl).mono ?_
    rintro e w7 ⟨rfl, hd⟩
    have hb1 := hd.below
    clear hd
    replace cx := (hb1.cell (p := ⟨X, 0, none⟩) (by show X < _; omega)).trans cx
    replace ox := ox.later hb1 (by omega)
    replace ow := ow.later hb1
    replace og := og.later hb1
    have hw7 := hb1.size
    replace hb := hb.trans (hb1.mono hb.size)
    have hsz := hb.size
    clear hb1
    have c0 := HC0.out _ hb
    go_wp2_with fail
    go_region_held3 (fun w' => w'.cell? ⟨X, 0, none⟩ = some (.slice ua x.length uc) ∧ w'.cell? ⟨w.heap.size, 0, none⟩ = some (.slice a x.length c)) (go_keep)
      (first
        | (go_at_call 13; refine (toGroup_any _ x _ (HX.out.later hb.drew) hm hr).mono ?_; rintro e w8 ⟨u8, rfl, o8, hb1⟩; replace cx := (hb1.cell (p := ⟨X, 0, none⟩) (show X < w7.heap.size by omega)).trans cx; replace c0 := (hb1.cell (p := ⟨w.heap.size, 0, none⟩) (show w.heap.size < w7.heap.size by omega)).trans c0; replace ox := ox.drew.later hb1 (show X ≤ w7.heap.size by omega); have hw8 : w7.heap.size ≤ w8.heap.size := hb1.size)
        | (go_at_call 16; refine (eqGroup_yes _ _ x _ (by exact ox.read) (by exact o8.read) hm hr).mono ?_; rintro e w9 ⟨rfl, hb2⟩; replace cx := (hb2.cell (p := ⟨X, 0, none⟩) (by show X < _; omega)).trans cx; replace c0 := (hb2.cell (p := ⟨w.heap.size, 0, none⟩) (by show w.heap.size < _; omega)).trans c0))
    have hb3 := (Below.refl w7.heap.size w7).drew.trans (hb1.trans (hb2.mono hb1.size))
    replace ox := ox.later hb2 (by omega)
    replace ow := ow.later hb3
    replace og := og.later hb3
    have hw9 := hb2.size
    replace hb := hb.trans (hb3.mono hsz)
    have hsz := hb.size
    clear hb1 hb2 hb3 o8 c0
    have ht : (1 : Int) + tot x ≤ 1099511627776 := by have := HS.out; unfold szT at this; omega
    go_wp2_with fail
    refine (markGroup_any _ x 1 _ _ _ ox (by omega) ⟨by omega, ht⟩ (by omega)).mono ?_
    rintro e w10 ⟨rfl, ox, hch⟩
    replace ow := ow.heap fun k hk => hch.block k (ow.lt k hk).2 (.inl (by have := HWL.out k hk; omega))
    replace og := og.chgR hch (by omega)
    replace hb := hch.below hb (by omega) (by omega)
    have hsz := hb.size
    have hw10 := hch.size
    clear ox hch cx
    go_wp2_with fail
    refine (eqInt64S_q _ _ cs _ og.read ow.read hcl).mono ?_
    rintro e w11 ⟨rfl, hd⟩
    have hb1 := hd.below
    clear hd
    replace ow := ow.later hb1
    replace og := og.later hb1
    have hw11 := hb1.size
    replace hb := hb.trans (hb1.mono hb.size)
    have hsz := hb.size
    clear hb1
    go_wp2_with fail
    refine (markInt64S_any _ cs 1 _ _ og (by omega) (by omega)).mono ?_
    rintro e w12 ⟨rfl, og2, hch⟩
    have hvg : Hid (∀ k ∈ vb (Value.slice ga cs.length gc), w5.heap.size ≤ k) := fun k hk => (og.vb k hk).1
    replace ow := ow.chg hch fun k hk hk2 => by
      have h1 := HWL.out k (mem_vb.1 hk)
      have h2 := hvg.out k hk2
      omega
    replace hb := hch.below hb (fun k hk => by have := hvg.out k hk; omega) (by omega)
    have hsz := hb.size
    have hw12 := hch.size
    clear hch og
    have hul : (ups 1 cs.length).length = cs.length := ups_length _ _
    go_wp2_with fail
    refine (heldInt64S_yes _ cs.length 1 _ og2.read (by omega) (by omega)).mono ?_
    rintro e w' ⟨rfl, rfl⟩
    have c0 := HC0.out _ hb
    go_wp2_with fail
    clear c0
    refine (toGroup_any _ x _ (HX.out.later hb) hm hr).mono ?_
    rintro e w13 ⟨u4, rfl, o4, hb1⟩
    replace ow := ow.later hb1
    replace og2 := og2.later hb1
    have hw13 := hb1.size
    replace hb := hb.trans (hb1.mono hb.size)
    have hsz := hb.size
    clear hb1
    go_wp2_with fail
    refine (HI.out _ _ o4.read).mono ?_
    rintro e w14 ⟨vh, rfl, oh, hb1⟩
    obtain ⟨ha, hc, rfl⟩ := oh.slice
    replace ow := ow.later hb1
    replace og2 := og2.later hb1
    have hw14 := hb1.size
    replace hb := hb.trans (hb1.mono hb.size)
    have hsz := hb.size
    clear hb1
    go_wp2_with fail
    refine (eqInt64S_q _ _ cs _ oh.read ow.read hcl).mono ?_
    rintro e w15 ⟨rfl, hd⟩
    have hb1 := hd.below
    clear hd
    replace og2 := og2.later hb1
    replace hb := hb.trans (hb1.mono hb.size)
    have hsz := hb.size
    clear hb1
    go_wp2_with fail
    refine (heldInt64S_yes _ cs.length 1 _ og2.read (by omega) (by omega)).mono ?_
    rintro e w' ⟨rfl, rfl⟩
    go_wp2_with fail
    go_ret
    exact ⟨rfl, HB0.out.trans (hb.mono HB0.out.size)⟩
  · go_enter Try.func4, Try.ntmps4
    go_wp2_with fail
    generalize w.alloc (.cells #[.slice a x.length c] 24) = w0 at *
    refine (szGroup_no _ x _ _ hx (by omega) (by omega)).mono ?_
    rintro e w1 ⟨rfl, hb1⟩
    go_wp2_with fail
    go_ret
    exact ⟨rfl, hb0.trans (hb1.mono hb0.size)⟩
set_option maxHeartbeats 2000000 in
set_option maxRecDepth 100000 in
theorem lawLeastAntisymmetric_any (v : Value) (x : List (List Int)) (w : World) (hx : RT w v x) :
    Calls Try.prog 3 #[.agg #[v]] w fun e w' => e = .returned (.bool true) ∧ Below w.heap.size w w' := by
  obtain ⟨a, c, rfl⟩ := hx.slice
  have hb0 : Below w.heap.size w (w.alloc (.cells #[.slice a x.length c] 24)) := (Below.refl _ _).alloc (Nat.le_refl _) _
  have C0 : (w.alloc (.cells #[.slice a x.length c] 24)).cell? ⟨w.heap.size, 0, none⟩ = some (.slice a x.length c) := World.cell?_alloc_at _ _ _ _ rfl
  have hlt : w.heap.size < (w.alloc (.cells #[.slice a x.length c] 24)).heap.size := by simp
  replace hx := hx.later hb0
  by_cases hs : (szT x : Int) ≤ 1048576
  · obtain ⟨hm, hr⟩ := small_of hs
    have HS := Lib.hid hs
    clear hs
    obtain ⟨cs, hcs⟩ : ∃ l, l = lstL false x := ⟨_, rfl⟩
    obtain ⟨rb, hrb⟩ : ∃ b, b = lstB false x := ⟨_, rfl⟩
    have hcl : cs.length ≤ 1099511627776 := by rw [hcs]; exact lstL_len false x hm
    have HI : Hid (∀ w1 v1, RT w1 v1 x → Calls Try.prog 14 #[.agg #[v1]] w1 fun e w' => ∃ v', e = .returned (.tuple #[v', .bool rb]) ∧ OI w1.heap.size w' v' cs ∧ Below w1.heap.size w1 w') := fun w1 v1 h => by
      rw [hcs, hrb]; exact implLA_any v1 x w1 h hm hr
    have HP : Hid (∀ w1 v1, RT w1 v1 x → Calls Try.prog 12 #[.agg #[v1]] w1 fun e w' => ∃ v', e = .returned (.tuple #[v', .bool rb]) ∧ OI w1.heap.size w' v' cs ∧ Below w1.heap.size w1 w') := fun w1 v1 h => by
      rw [hcs, hrb]; exact specLA_any v1 x w1 h hm hr
    clear hcs hrb
    go_enter Try.func3, Try.ntmps3
    go_wp2_with fail
    generalize w.alloc (.cells #[.slice a x.length c] 24) = w0 at *
    have HX := Lib.hid hx
    have HB0 := Lib.hid hb0
    have HC0 : Hid (∀ wr, Below w0.heap.size w0 wr → wr.cell? ⟨w.heap.size, 0, none⟩ = some (.slice a x.length c)) := fun wr h => (h.cell (p := ⟨w.heap.size, 0, none⟩) hlt).trans C0
    clear C0 hb0 hx
    refine (szGroup_yes _ x _ _ HX.out (by omega) HS.out).mono ?_
    rintro e w1 ⟨r, rfl, HR, h1, h2, hb⟩
    have hsz := hb.size
    have c0 := HC0.out _ hb
    go_wp2_with fail
    clear c0
    refine (toGroup_any _ x _ (HX.out.later hb) hm hr).mono ?_
    rintro e w2 ⟨u2, rfl, o2, hb1⟩
    replace hb := hb.trans (hb1.mono hb.size)
    have hsz := hb.size
    clear hb1
    go_wp2_with fail
    refine (HP.out _ _ o2.read).mono ?_
    rintro e w3 ⟨vw, rfl, ow, hb1⟩
    have hw3 := hb1.size
    replace hb := hb.trans (hb1.mono hb.size)
    have hsz := hb.size
    clear hb1 o2
    obtain ⟨wa, wc, rfl⟩ := ow.slice
    have c0 := HC0.out _ hb
    go_wp2_with fail
    clear c0
    refine (toGroup_any _ x _ (HX.out.later hb) hm hr).mono ?_
    rintro e w4 ⟨u3, rfl, ox, hb1⟩
    have hw4 := hb1.size
    have hwl : ∀ k, (Value.slice wa cs.length wc).ownBlock = some k → w2.heap.size ≤ k ∧ k < w3.heap.size := fun k hk => ow.lt k hk
    have HWL := Lib.hid hwl
    clear hwl
    replace ow := ow.later hb1
    replace hb := hb.trans (hb1.mono hb.size)
    have hsz := hb.size
    clear hb1
    obtain ⟨ua, uc, rfl⟩ := ox.slice
    go_wp2_with fail
    have cx : (w4.alloc (.cells #[.slice ua x.length uc] 29)).cell? ⟨w4.heap.size, 0, none⟩ = some (.slice ua x.length uc) := World.cell?_alloc_at _ _ _ _ rfl
    have hb1 : Below w4.heap.size w4 (w4.alloc (.cells #[.slice ua x.length uc] 29)) := (Below.refl _ _).alloc (Nat.le_refl _) _
    have hlx : w4.heap.size < (w4.alloc (.cells #[.slice ua x.length uc] 29)).heap.size := by simp
    replace ox := ox.later hb1 (Nat.le_refl _)
    replace ow := ow.later hb1
    replace hb := hb.trans (hb1.mono hb.size)
    have hsz := hb.size
    clear hb1
    generalize w4.alloc (.cells #[.slice ua x.length uc] 29) = w5 at *
    generalize w4.heap.size = X at *
    refine (HI.out _ _ ox.read).mono ?_
    rintro e w6 ⟨vg, rfl, og, hb1⟩
    obtain ⟨ga, gc, rfl⟩ := og.slice
    replace cx := (hb1.cell (p := ⟨X, 0, none⟩) hlx).trans cx
    replace ox := ox.later hb1 (Nat.le_of_lt hlx)
    replace ow := ow.later hb1
    have hw6 := hb1.size
    replace hb := hb.trans (hb1.mono hb.size)
    have hsz := hb.size
    clear hb1
    go_wp2_with fail
    refine (eqInt64S_q _ _ cs _ og.read ow.read hcl).mono ?_
    rintro e w7 ⟨rfl, hd⟩
    have hb1 := hd.below
    clear hd
    replace cx := (hb1.cell (p := ⟨X, 0, none⟩) (by show X < _; omega)).trans cx
    replace ox := ox.later hb1 (by omega)
    replace ow := ow.later hb1
    replace og := og.later hb1
    have hw7 := hb1.size
    replace hb := hb.trans (hb1.mono hb.size)
    have hsz := hb.size
    clear hb1
    have c0 := HC0.out _ hb
    go_wp2_with fail
    go_region_held3 (fun w' => w'.cell? ⟨X, 0, none⟩ = some (.slice ua x.length uc) ∧ w'.cell? ⟨w.heap.size, 0, none⟩ = some (.slice a x.length c)) (go_keep)
      (first
        | (go_at_call 13; refine (toGroup_any _ x _ (HX.out.later hb.drew) hm hr).mono ?_; rintro e w8 ⟨u8, rfl, o8, hb1⟩; replace cx := (hb1.cell (p := ⟨X, 0, none⟩) (show X < w7.heap.size by omega)).trans cx; replace c0 := (hb1.cell (p := ⟨w.heap.size, 0, none⟩) (show w.heap.size < w7.heap.size by omega)).trans c0; replace ox := ox.drew.later hb1 (show X ≤ w7.heap.size by omega); have hw8 : w7.heap.size ≤ w8.heap.size := hb1.size)
        | (go_at_call 16; refine (eqGroup_yes _ _ x _ (by exact ox.read) (by exact o8.read) hm hr).mono ?_; rintro e w9 ⟨rfl, hb2⟩; replace cx := (hb2.cell (p := ⟨X, 0, none⟩) (by show X < _; omega)).trans cx; replace c0 := (hb2.cell (p := ⟨w.heap.size, 0, none⟩) (by show w.heap.size < _; omega)).trans c0))
    have hb3 := (Below.refl w7.heap.size w7).drew.trans (hb1.trans (hb2.mono hb1.size))
    replace ox := ox.later hb2 (by omega)
    replace ow := ow.later hb3
    replace og := og.later hb3
    have hw9 := hb2.size
    replace hb := hb.trans (hb3.mono hsz)
    have hsz := hb.size
    clear hb1 hb2 hb3 o8 c0
    have ht : (1 : Int) + tot x ≤ 1099511627776 := by have := HS.out; unfold szT at this; omega
    go_wp2_with fail
    refine (markGroup_any _ x 1 _ _ _ ox (by omega) ⟨by omega, ht⟩ (by omega)).mono ?_
    rintro e w10 ⟨rfl, ox, hch⟩
    replace ow := ow.heap fun k hk => hch.block k (ow.lt k hk).2 (.inl (by have := HWL.out k hk; omega))
    replace og := og.chgR hch (by omega)
    replace hb := hch.below hb (by omega) (by omega)
    have hsz := hb.size
    have hw10 := hch.size
    clear ox hch cx
    go_wp2_with fail
    refine (eqInt64S_q _ _ cs _ og.read ow.read hcl).mono ?_
    rintro e w11 ⟨rfl, hd⟩
    have hb1 := hd.below
    clear hd
    replace ow := ow.later hb1
    replace og := og.later hb1
    have hw11 := hb1.size
    replace hb := hb.trans (hb1.mono hb.size)
    have hsz := hb.size
    clear hb1
    go_wp2_with fail
    refine (markInt64S_any _ cs 1 _ _ og (by omega) (by omega)).mono ?_
    rintro e w12 ⟨rfl, og2, hch⟩
    have hvg : Hid (∀ k ∈ vb (Value.slice ga cs.length gc), w5.heap.size ≤ k) := fun k hk => (og.vb k hk).1
    replace ow := ow.chg hch fun k hk hk2 => by
      have h1 := HWL.out k (mem_vb.1 hk)
      have h2 := hvg.out k hk2
      omega
    replace hb := hch.below hb (fun k hk => by have := hvg.out k hk; omega) (by omega)
    have hsz := hb.size
    have hw12 := hch.size
    clear hch og
    have hul : (ups 1 cs.length).length = cs.length := ups_length _ _
    go_wp2_with fail
    refine (heldInt64S_yes _ cs.length 1 _ og2.read (by omega) (by omega)).mono ?_
    rintro e w' ⟨rfl, rfl⟩
    have c0 := HC0.out _ hb
    go_wp2_with fail
    clear c0
    refine (toGroup_any _ x _ (HX.out.later hb) hm hr).mono ?_
    rintro e w13 ⟨u4, rfl, o4, hb1⟩
    replace ow := ow.later hb1
    replace og2 := og2.later hb1
    have hw13 := hb1.size
    replace hb := hb.trans (hb1.mono hb.size)
    have hsz := hb.size
    clear hb1
    go_wp2_with fail
    refine (HI.out _ _ o4.read).mono ?_
    rintro e w14 ⟨vh, rfl, oh, hb1⟩
    obtain ⟨ha, hc, rfl⟩ := oh.slice
    replace ow := ow.later hb1
    replace og2 := og2.later hb1
    have hw14 := hb1.size
    replace hb := hb.trans (hb1.mono hb.size)
    have hsz := hb.size
    clear hb1
    go_wp2_with fail
    refine (eqInt64S_q _ _ cs _ oh.read ow.read hcl).mono ?_
    rintro e w15 ⟨rfl, hd⟩
    have hb1 := hd.below
    clear hd
    replace og2 := og2.later hb1
    replace hb := hb.trans (hb1.mono hb.size)
    have hsz := hb.size
    clear hb1
    go_wp2_with fail
    refine (heldInt64S_yes _ cs.length 1 _ og2.read (by omega) (by omega)).mono ?_
    rintro e w' ⟨rfl, rfl⟩
    go_wp2_with fail
    go_ret
    exact ⟨rfl, HB0.out.trans (hb.mono HB0.out.size)⟩
  · go_enter Try.func3, Try.ntmps3
    go_wp2_with fail
    generalize w.alloc (.cells #[.slice a x.length c] 24) = w0 at *
    refine (szGroup_no _ x _ _ hx (by omega) (by omega)).mono ?_
    rintro e w1 ⟨rfl, hb1⟩
    go_wp2_with fail
    go_ret
    exact ⟨rfl, hb0.trans (hb1.mono hb0.size)⟩
end Go.Proofs.Ytghmpaegmicheaa
