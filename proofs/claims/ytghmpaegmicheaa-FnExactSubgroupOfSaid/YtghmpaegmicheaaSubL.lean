/- The law of SubgroupOf, for all arguments. -/
import Derived.Test.YtghmpaegmicheaaSubS
import Derived.Test.YtghmpaegmicheaaGrpL
namespace Go.Proofs.Ytghmpaegmicheaa
open Go.RowKit

set_option maxHeartbeats 4000000 in
set_option maxRecDepth 100000 in
theorem lawSg_any (v ev : Value) (x : List (List Int)) (es : List Int) (w : World) (hx : RT w v x) (he : RI w ev es) (hle : es.length ≤ maxLen) :
    Calls Try.prog 7 #[.agg #[v], ev] w fun e w' => e = .returned (.bool true) ∧ Below w.heap.size w w' := by
  obtain ⟨a, c, rfl⟩ := hx.slice
  obtain ⟨ea, ec, rfl⟩ := he.slice
  unfold maxLen at hle
  have hbw : Below w.heap.size w (w.alloc (.cells #[.slice a x.length c] 24)) := (Below.refl _ _).alloc (Nat.le_refl _) _
  have C0 : (w.alloc (.cells #[.slice a x.length c] 24)).cell? ⟨w.heap.size, 0, none⟩ = some (.slice a x.length c) := World.cell?_alloc_at _ _ _ _ rfl
  have hlt : w.heap.size < (w.alloc (.cells #[.slice a x.length c] 24)).heap.size := by simp
  replace hx := hx.later hbw
  replace he := he.later hbw
  by_cases hml : (es.length : Int) ≤ 1048576
  case neg =>
    go_enter Try.func7, Try.ntmps7
    go_wp2_with fail
    go_ret
    exact ⟨rfl, hbw⟩
  by_cases hs : (szT x : Int) ≤ 1048576
  case neg =>
    have HS := Lib.hid hs
    clear hs
    go_enter Try.func7, Try.ntmps7
    go_wp2_with fail
    generalize w.alloc (.cells #[.slice a x.length c] 24) = w0 at *
    refine (szGroup_no _ x _ _ hx (by omega) (by have := HS.out; omega)).mono ?_
    rintro e w1 ⟨rfl, hb⟩
    go_wp2_with fail
    go_ret
    exact ⟨rfl, hbw.trans (hb.mono hbw.size)⟩
  obtain ⟨hm, hr⟩ := small_of hs
  have HS := Lib.hid hs
  clear hs
  have hme : es.length ≤ 1048576 := by omega
  have hex : ∃ cs, (sgB x es = true → SubP x es cs) ∧ cs.length ≤ 1099511627776 := by
    cases h : sgB x es
    · exact ⟨[], (fun h => by cases h), by simp⟩
    · unfold sgB at h
      rw [Bool.and_eq_true] at h
      have G := Gp.of h.1
      obtain ⟨cs, hcs⟩ := subP_ex x es x.length fun a ha => ha.lt G h.2
      refine ⟨cs, fun _ => hcs, ?_⟩
      have : cs.length ≤ x.length := nodup_le x.length cs (Inc.nodup hcs.1) fun z hz => by
        obtain ⟨a, rfl, ha⟩ := (hcs.2 z).1 hz
        have := ha.lt G h.2
        omega
      omega
  obtain ⟨cs0, hcs, hcl0⟩ := hex
  obtain ⟨cs, hcse⟩ : ∃ l, l = if sgB x es then cs0 else [] := ⟨_, rfl⟩
  obtain ⟨rb, hrb⟩ : ∃ b, b = sgB x es := ⟨_, rfl⟩
  have hcl : cs.length ≤ 1099511627776 := by
    rw [hcse]; cases sgB x es
    · simp
    · exact hcl0
  have HI : Hid (∀ w1 v1 v2, RT w1 v1 x → RI w1 v2 es → Calls Try.prog 38 #[.agg #[v1], v2] w1 fun e w' => ∃ v', e = .returned (.tuple #[v', .bool rb]) ∧ OI w1.heap.size w' v' cs ∧ Below w1.heap.size w1 w') := fun w1 v1 v2 h h' => by
    rw [hcse, hrb]; exact implSg_any v1 v2 x es cs0 w1 h hm hr h' hme hcs
  have HP : Hid (∀ w1 v1 v2, RT w1 v1 x → RI w1 v2 es → Calls Try.prog 36 #[.agg #[v1], v2] w1 fun e w' => ∃ v', e = .returned (.tuple #[v', .bool rb]) ∧ OI w1.heap.size w' v' cs ∧ Below w1.heap.size w1 w') := fun w1 v1 v2 h h' => by
    rw [hcse, hrb]; exact specSg_any v1 v2 x es cs0 w1 h hm hr h' hme hcs
  clear hcse hrb hcs hcl0
  go_enter Try.func7, Try.ntmps7
  go_wp2_with fail
  generalize w.alloc (.cells #[.slice a x.length c] 24) = w0 at *
  have HX := Lib.hid hx
  have HE := Lib.hid he
  clear hx he
  refine (szGroup_yes _ x _ _ HX.out (by omega) HS.out).mono ?_
  rintro e w1 ⟨r, rfl, HR, h1, h2, hb⟩
  have hx1 := HX.out.later hb
  have he1 := HE.out.later hb
  have c0 := (hb.cell (p := ⟨w.heap.size, 0, none⟩) hlt).trans C0
  go_wp2_with fail
  clear c0
  refine (toGroup_any _ x _ hx1 hm hr).mono ?_
  rintro e w2 ⟨u2, rfl, o2, hb1⟩
  have r2 := o2.read
  replace he1 := he1.later hb1
  clear hx1 o2
  try replace ow := ow.later hb1
  try replace oe := oe.later hb1
  try replace og := og.later hb1
  try replace cX := (hb1.cell (p := ⟨PX, 0, none⟩) ltX).trans cX
  try replace ox := ox.later hb1 sX
  try replace ltX := Nat.lt_of_lt_of_le ltX hb1.size
  try replace sX := Nat.le_trans sX hb1.size
  replace hb := hb.trans (hb1.mono hb.size)
  clear hb1
  go_wp2_with fail
  refine (toInt64S_any _ _ _ he1 hme).mono ?_
  rintro e w3 ⟨v3, rfl, o3, hb1⟩
  replace r2 := r2.later hb1
  clear he1
  try replace ow := ow.later hb1
  try replace oe := oe.later hb1
  try replace og := og.later hb1
  try replace cX := (hb1.cell (p := ⟨PX, 0, none⟩) ltX).trans cX
  try replace ox := ox.later hb1 sX
  try replace ltX := Nat.lt_of_lt_of_le ltX hb1.size
  try replace sX := Nat.le_trans sX hb1.size
  replace hb := hb.trans (hb1.mono hb.size)
  clear hb1
  go_wp2_with fail
  refine (HP.out _ _ _ r2 o3.read).mono ?_
  rintro e w4 ⟨vw, rfl, ow, hb1⟩
  clear r2 o3
  obtain ⟨wa, wn, rfl⟩ := ow.slice
  have hwl : ∀ k, (Value.slice wa cs.length wn).ownBlock = some k → k < w4.heap.size := fun k hk => (ow.lt k hk).2
  have HWL := Lib.hid hwl
  clear hwl
  replace hb := hb.trans (hb1.mono hb.size)
  have hz4 := hb.size
  clear hb1
  have hx1 := HX.out.later hb
  have he1 := HE.out.later hb
  have c0 := (hb.cell (p := ⟨w.heap.size, 0, none⟩) hlt).trans C0
  go_wp2_with fail
  clear c0
  refine (toGroup_any _ x _ hx1 hm hr).mono ?_
  rintro e w5 ⟨ux, rfl, ox, hb1⟩
  clear hx1 he1
  have sX : w5.heap.size ≤ w5.heap.size := Nat.le_refl _
  have hN5 := hb1.size
  replace ow := ow.later hb1
  replace hb := hb.trans (hb1.mono hb.size)
  clear hb1
  obtain ⟨xa, xc, rfl⟩ := ox.slice
  have cX : (w5.alloc (.cells #[.slice xa x.length xc] 29)).cell? ⟨w5.heap.size, 0, none⟩ = some (.slice xa x.length xc) := World.cell?_alloc_at _ _ _ _ rfl
  have hb1 : Below w5.heap.size w5 (w5.alloc (.cells #[.slice xa x.length xc] 29)) := (Below.refl _ _).alloc (Nat.le_refl _) _
  have ltX : w5.heap.size < (w5.alloc (.cells #[.slice xa x.length xc] 29)).heap.size := by simp
  have qX := ltX
  replace ow := ow.later hb1
  replace ox := ox.later hb1 sX
  replace sX := Nat.le_trans sX hb1.size
  replace hb := hb.trans (hb1.mono hb.size)
  clear hb1
  have hx1 := HX.out.later hb
  have he1 := HE.out.later hb
  have c0 := (hb.cell (p := ⟨w.heap.size, 0, none⟩) hlt).trans C0
  go_wp2_with fail
  clear c0
  generalize w5.alloc (.cells #[.slice xa x.length xc] 29) = w6 at *
  generalize hPX : w5.heap.size = PX at *
  refine (toInt64S_any _ _ _ he1 hme).mono ?_
  rintro e w7 ⟨ve, rfl, oe, hb1⟩
  clear hx1 he1
  have hel : ∀ k, ve.ownBlock = some k → w6.heap.size ≤ k ∧ k < w7.heap.size := fun k hk => oe.lt k hk
  have HEL := Lib.hid hel
  have hN7 := hb1.size
  clear hel
  replace ow := ow.later hb1
  replace cX := (hb1.cell (p := ⟨PX, 0, none⟩) ltX).trans cX
  replace ox := ox.later hb1 sX
  replace ltX := Nat.lt_of_lt_of_le ltX hb1.size
  replace sX := Nat.le_trans sX hb1.size
  replace hb := hb.trans (hb1.mono hb.size)
  clear hb1
  obtain ⟨va, vn, rfl⟩ := oe.slice
  go_wp2_with fail
  refine (HI.out _ _ _ ox.read oe.read).mono ?_
  rintro e w8 ⟨vg, rfl, og, hb1⟩
  have hgl : ∀ k, vg.ownBlock = some k → w7.heap.size ≤ k := fun k hk => (og.lt k hk).1
  have HGL := Lib.hid hgl
  clear hgl
  replace ow := ow.later hb1
  replace oe := oe.later hb1
  replace cX := (hb1.cell (p := ⟨PX, 0, none⟩) ltX).trans cX
  replace ox := ox.later hb1 sX
  replace ltX := Nat.lt_of_lt_of_le ltX hb1.size
  replace sX := Nat.le_trans sX hb1.size
  replace hb := hb.trans (hb1.mono hb.size)
  clear hb1
  obtain ⟨ga, gn, rfl⟩ := og.slice
  go_wp2_with fail
  refine (eqInt64S_q _ _ cs _ og.read ow.read hcl).mono ?_
  rintro e w9 ⟨rfl, hd⟩
  have hb1 := hd.below
  clear hd
  try replace ow := ow.later hb1
  try replace oe := oe.later hb1
  try replace og := og.later hb1
  try replace cX := (hb1.cell (p := ⟨PX, 0, none⟩) ltX).trans cX
  try replace ox := ox.later hb1 sX
  try replace ltX := Nat.lt_of_lt_of_le ltX hb1.size
  try replace sX := Nat.le_trans sX hb1.size
  replace hb := hb.trans (hb1.mono hb.size)
  clear hb1
  have hx1 := HX.out.later hb
  have he1 := HE.out.later hb
  have c0 := (hb.cell (p := ⟨w.heap.size, 0, none⟩) hlt).trans C0
  have cx := cX
  have oxx := ox
  have lt0 := Nat.lt_of_lt_of_le hlt hb.size
  have ltx := ltX
  go_wp2_with fail
  go_region_held3 (fun w' => w'.cell? ⟨PX, 0, none⟩ = some (.slice xa x.length xc) ∧ w'.cell? ⟨w.heap.size, 0, none⟩ = some (.slice a x.length c)) (go_keep)
    (first
      | (go_at_call 13; refine (toGroup_any _ x _ hx1.drew hm hr).mono ?_; rintro e wf ⟨uf, rfl, of, hbf⟩; replace cx := (hbf.cell (p := ⟨PX, 0, none⟩) ltx).trans cx; replace c0 := (hbf.cell (p := ⟨w.heap.size, 0, none⟩) lt0).trans c0; replace ltx := Nat.lt_of_lt_of_le ltx hbf.size; replace lt0 := Nat.lt_of_lt_of_le lt0 hbf.size; replace oxx := oxx.drew.later hbf sX)
      | (go_at_call 16; refine (eqGroup_yes _ _ x _ (by exact oxx.read) (by exact of.read) hm hr).mono ?_; rintro e w10 ⟨rfl, hbg⟩; replace cx := (hbg.cell (p := ⟨PX, 0, none⟩) ltx).trans cx; replace c0 := (hbg.cell (p := ⟨w.heap.size, 0, none⟩) lt0).trans c0))
  have hb1 := (Below.refl w9.heap.size w9).drew.trans (hbf.trans (hbg.mono hbf.size))
  clear cx oxx c0 lt0 ltx hbf hbg of hx1 he1
  try replace ow := ow.later hb1
  try replace oe := oe.later hb1
  try replace og := og.later hb1
  try replace cX := (hb1.cell (p := ⟨PX, 0, none⟩) ltX).trans cX
  try replace ox := ox.later hb1 sX
  try replace ltX := Nat.lt_of_lt_of_le ltX hb1.size
  try replace sX := Nat.le_trans sX hb1.size
  replace hb := hb.trans (hb1.mono hb.size)
  clear hb1
  have hx1 := HX.out.later hb
  have he1 := HE.out.later hb
  have c0 := (hb.cell (p := ⟨w.heap.size, 0, none⟩) hlt).trans C0
  go_wp2_with fail
  clear c0
  refine (toInt64S_any _ _ _ he1 hme).mono ?_
  rintro e wg ⟨ve2, rfl, oe2, hb1⟩
  clear hx1 he1
  try replace ow := ow.later hb1
  try replace oe := oe.later hb1
  try replace og := og.later hb1
  try replace cX := (hb1.cell (p := ⟨PX, 0, none⟩) ltX).trans cX
  try replace ox := ox.later hb1 sX
  try replace ltX := Nat.lt_of_lt_of_le ltX hb1.size
  try replace sX := Nat.le_trans sX hb1.size
  replace hb := hb.trans (hb1.mono hb.size)
  clear hb1
  go_wp2_with fail
  refine (eqInt64S_q _ _ es _ oe.read oe2.read (by omega)).mono ?_
  rintro e wh ⟨rfl, hd⟩
  have hb1 := hd.below
  clear hd oe2
  try replace ow := ow.later hb1
  try replace oe := oe.later hb1
  try replace og := og.later hb1
  try replace cX := (hb1.cell (p := ⟨PX, 0, none⟩) ltX).trans cX
  try replace ox := ox.later hb1 sX
  try replace ltX := Nat.lt_of_lt_of_le ltX hb1.size
  try replace sX := Nat.le_trans sX hb1.size
  replace hb := hb.trans (hb1.mono hb.size)
  clear hb1
  have ht : (1 : Int) + tot x ≤ 1099511627776 := by have := HS.out; unfold szT at this; omega
  go_wp2_with fail
  refine (markGroup_any _ x 1 _ _ _ ox sX ⟨by omega, ht⟩ (by omega)).mono ?_
  rintro e wi ⟨rfl, oxx, hch⟩
  clear oxx cX
  replace ow := ow.heap fun k hk => hch.block k (ow.lt k hk).2 (.inl (HWL.out k hk))
  replace oe := oe.chgR hch (by omega)
  replace og := og.chgR hch (by omega)
  replace hb := hch.below hb (by omega) (by have := hb.size; omega)
  clear ox hch sX ltX
  have ht0 : (0 : Int) ≤ tot x := by omega
  go_wp2_with fail
  refine (markInt64S_any _ es _ _ _ oe ⟨by omega, ht⟩ (by omega)).mono ?_
  rintro e wj ⟨rfl, oee, hch⟩
  clear oee
  replace ow := ow.chg hch fun k hk hk2 => by
    have h1 := HWL.out k (mem_vb.1 hk)
    have h2 := HEL.out k (mem_vb.1 hk2)
    omega
  replace og := og.chg hch fun k hk hk2 => by
    have h1 := HGL.out k (mem_vb.1 hk)
    have h2 := HEL.out k (mem_vb.1 hk2)
    omega
  replace hb := hch.below hb (fun k hk => by have := HEL.out k (mem_vb.1 hk); omega) (by have := hb.size; omega)
  clear oe hch
  go_wp2_with fail
  refine (eqInt64S_q _ _ cs _ og.read ow.read hcl).mono ?_
  rintro e wk ⟨rfl, hd⟩
  have hb1 := hd.below
  clear hd
  try replace ow := ow.later hb1
  try replace oe := oe.later hb1
  try replace og := og.later hb1
  try replace cX := (hb1.cell (p := ⟨PX, 0, none⟩) ltX).trans cX
  try replace ox := ox.later hb1 sX
  try replace ltX := Nat.lt_of_lt_of_le ltX hb1.size
  try replace sX := Nat.le_trans sX hb1.size
  replace hb := hb.trans (hb1.mono hb.size)
  clear hb1
  go_wp2_with fail
  refine (markInt64S_any _ cs 1 _ _ og (by omega) (by omega)).mono ?_
  rintro e wl ⟨rfl, og2, hch⟩
  replace ow := ow.chg hch fun k hk hk2 => by
    have h1 := HWL.out k (mem_vb.1 hk)
    have h2 := HGL.out k (mem_vb.1 hk2)
    omega
  replace hb := hch.below hb (fun k hk => by have := HGL.out k (mem_vb.1 hk); omega) (by have := hb.size; omega)
  clear og hch
  have hul : (ups 1 cs.length).length = cs.length := ups_length _ _
  go_wp2_with fail
  refine (heldInt64S_yes _ cs.length 1 _ og2.read (by omega) (by omega)).mono ?_
  rintro e w' ⟨rfl, rfl⟩
  have hx1 := HX.out.later hb
  have he1 := HE.out.later hb
  have c0 := (hb.cell (p := ⟨w.heap.size, 0, none⟩) hlt).trans C0
  go_wp2_with fail
  clear c0
  refine (toGroup_any _ x _ hx1 hm hr).mono ?_
  rintro e wm ⟨um, rfl, om, hb1⟩
  replace he1 := he1.later hb1
  replace ow := ow.later hb1
  replace og2 := og2.later hb1
  replace hb := hb.trans (hb1.mono hb.size)
  clear hx1 hb1
  go_wp2_with fail
  refine (toInt64S_any _ _ _ he1 hme).mono ?_
  rintro e wn2 ⟨ve3, rfl, oe3, hb1⟩
  clear he1
  have om2 := om.read.later hb1
  clear om
  replace ow := ow.later hb1
  replace og2 := og2.later hb1
  replace hb := hb.trans (hb1.mono hb.size)
  clear hb1
  go_wp2_with fail
  refine (HI.out _ _ _ om2 oe3.read).mono ?_
  rintro e wo ⟨vh, rfl, oh, hb1⟩
  clear om2 oe3
  obtain ⟨ha, hc, rfl⟩ := oh.slice
  replace ow := ow.later hb1
  replace og2 := og2.later hb1
  replace hb := hb.trans (hb1.mono hb.size)
  clear hb1
  go_wp2_with fail
  refine (eqInt64S_q _ _ cs _ oh.read ow.read hcl).mono ?_
  rintro e wq ⟨rfl, hd⟩
  have hb1 := hd.below
  clear hd oh
  replace og2 := og2.later hb1
  replace hb := hb.trans (hb1.mono hb.size)
  clear hb1
  go_wp2_with fail
  refine (heldInt64S_yes _ cs.length 1 _ og2.read (by omega) (by omega)).mono ?_
  rintro e w' ⟨rfl, rfl⟩
  go_wp2_with fail
  go_ret
  exact ⟨rfl, hbw.trans (hb.mono hbw.size)⟩
end Go.Proofs.Ytghmpaegmicheaa
