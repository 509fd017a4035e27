/- The laws of IsComplete and IsAntisymmetric: for all arguments. -/
import Derived.Test.YtgedeifajmoljaaAoS
namespace Go.Proofs.Ytgedeifajmoljaa
open Go.RowKit


set_option maxHeartbeats 1000000 in
theorem lawIsComplete_any (v ov : Value) (x : List (List Int)) (o : List Int) (w : World) (hx : RT w v x) (hov : RI w ov o) (hlo : o.length ≤ maxLen) :
    Calls Try.prog 14 #[.agg #[v], ov] w fun e w' => e = .returned (.bool true) ∧ Below w.heap.size w w' := by
  obtain ⟨a, c, rfl⟩ := hx.slice
  obtain ⟨oa, oc, rfl⟩ := hov.slice
  unfold maxLen at hlo
  have hb : Below w.heap.size w (w.alloc (.cells #[.slice a x.length c] 30)) := (Below.refl _ _).alloc (Nat.le_refl _) _
  have c0 : (w.alloc (.cells #[.slice a x.length c] 30)).cell? ⟨w.heap.size, 0, none⟩ = some (.slice a x.length c) := World.cell?_alloc_at _ _ _ _ rfl
  have hlt : w.heap.size < (w.alloc (.cells #[.slice a x.length c] 30)).heap.size := by simp
  replace hx := hx.later hb
  replace hov := hov.later hb
  by_cases hmo : o.length ≤ 1048576
  · by_cases hs : (szT x : Int) ≤ 1048576
    · obtain ⟨hm, hr⟩ := small_of hs
      have HS := Lib.hid hs
      clear hs
      have HI : Hid (∀ w1 v1 v2, RT w1 v1 x → RI w1 v2 o → Calls Try.prog 47 #[.agg #[v1], v2] w1 fun e w' => e = .returned (.bool (aoB true x o)) ∧ Below w1.heap.size w1 w') := fun w1 v1 v2 h h' => implCom_any v1 v2 x o w1 h hm hr h' hmo
      have HP : Hid (∀ w1 v1 v2, RT w1 v1 x → RI w1 v2 o → Calls Try.prog 46 #[.agg #[v1], v2] w1 fun e w' => e = .returned (.bool (aoB true x o)) ∧ Below w1.heap.size w1 w') := fun w1 v1 v2 h h' => specCom_any v1 v2 x o w1 h hm hr h' hmo
      generalize aoB true x o = rb at *
      go_enter Try.func14, Try.ntmps14
      go_wp2_with fail
      generalize w.alloc (.cells #[.slice a x.length c] 30) = w0 at *
      refine (szGroup_yes _ x _ _ hx (by omega) HS.out).mono ?_
      rintro e w1 ⟨r, rfl, HR, h1, h2, hb1⟩
      replace c0 := (hb1.cell (p := ⟨w.heap.size, 0, none⟩) hlt).trans c0
      replace hx := hx.later hb1
      replace hov := hov.later hb1
      replace hb := hb.trans (hb1.mono (Nat.le_of_lt hlt))
      replace hlt := Nat.lt_of_lt_of_le hlt hb1.size
      clear hb1
      go_wp2_with fail
      refine (toGroup_any _ x _ hx hm hr).mono ?_
      rintro e w2 ⟨u2, rfl, o2, hb1⟩
      replace c0 := (hb1.cell (p := ⟨w.heap.size, 0, none⟩) hlt).trans c0
      replace hx := hx.later hb1
      replace hov := hov.later hb1
      replace hb := hb.trans (hb1.mono (Nat.le_of_lt hlt))
      replace hlt := Nat.lt_of_lt_of_le hlt hb1.size
      clear hb1
      go_wp2_with fail
      refine (toInt64S_any _ o _ hov hmo).mono ?_
      rintro e w2' ⟨u2', rfl, o2', hb1⟩
      have o2 := o2.later hb1 (Nat.le_refl _)
      replace c0 := (hb1.cell (p := ⟨w.heap.size, 0, none⟩) hlt).trans c0
      replace hx := hx.later hb1
      replace hov := hov.later hb1
      replace hb := hb.trans (hb1.mono (Nat.le_of_lt hlt))
      replace hlt := Nat.lt_of_lt_of_le hlt hb1.size
      clear hb1
      go_wp2_with fail
      refine (HP.out _ _ _ o2.read o2'.read).mono ?_
      rintro e w3 ⟨rfl, hb1⟩
      replace c0 := (hb1.cell (p := ⟨w.heap.size, 0, none⟩) hlt).trans c0
      replace hx := hx.later hb1
      replace hov := hov.later hb1
      replace hb := hb.trans (hb1.mono (Nat.le_of_lt hlt))
      replace hlt := Nat.lt_of_lt_of_le hlt hb1.size
      clear hb1 o2 o2'
      go_wp2_with fail
      refine (toGroup_any _ x _ hx hm hr).mono ?_
      rintro e w4 ⟨u3, rfl, ox, hb1⟩
      replace c0 := (hb1.cell (p := ⟨w.heap.size, 0, none⟩) hlt).trans c0
      replace hx := hx.later hb1
      replace hov := hov.later hb1
      replace hb := hb.trans (hb1.mono (Nat.le_of_lt hlt))
      replace hlt := Nat.lt_of_lt_of_le hlt hb1.size
      clear hb1
      obtain ⟨ua, uc, rfl⟩ := ox.slice
      go_wp2_with fail
      have cx : (w4.alloc (.cells #[.slice ua x.length uc] 24)).cell? ⟨w4.heap.size, 0, none⟩ = some (.slice ua x.length uc) := World.cell?_alloc_at _ _ _ _ rfl
      have hb1 : Below w4.heap.size w4 (w4.alloc (.cells #[.slice ua x.length uc] 24)) := (Below.refl _ _).alloc (Nat.le_refl _) _
      have hlx : w4.heap.size < (w4.alloc (.cells #[.slice ua x.length uc] 24)).heap.size := by simp
      replace ox := ox.later hb1 (Nat.le_refl _)
      replace c0 := (hb1.cell (p := ⟨w.heap.size, 0, none⟩) hlt).trans c0
      replace hx := hx.later hb1
      replace hov := hov.later hb1
      replace hb := hb.trans (hb1.mono (Nat.le_of_lt hlt))
      replace hlt := Nat.lt_of_lt_of_le hlt hb1.size
      clear hb1
      generalize w4.alloc (.cells #[.slice ua x.length uc] 24) = w5 at *
      generalize w4.heap.size = X at *
      refine (toInt64S_any _ o _ hov hmo).mono ?_
      rintro e w5' ⟨u5, rfl, oo, hb1⟩
      replace cx := (hb1.cell (p := ⟨X, 0, none⟩) hlx).trans cx
      replace ox := ox.later hb1 (Nat.le_of_lt hlx)
      replace hlx := Nat.lt_of_lt_of_le hlx hb1.size
      replace c0 := (hb1.cell (p := ⟨w.heap.size, 0, none⟩) hlt).trans c0
      replace hx := hx.later hb1
      replace hov := hov.later hb1
      replace hb := hb.trans (hb1.mono (Nat.le_of_lt hlt))
      replace hlt := Nat.lt_of_lt_of_le hlt hb1.size
      clear hb1
      obtain ⟨ea, ec, rfl⟩ := oo.slice
      go_wp2_with fail
      refine (HI.out _ _ _ ox.read oo.read).mono ?_
      rintro e w6 ⟨rfl, hb1⟩
      have oo := oo.later hb1
      replace cx := (hb1.cell (p := ⟨X, 0, none⟩) hlx).trans cx
      replace ox := ox.later hb1 (Nat.le_of_lt hlx)
      replace hlx := Nat.lt_of_lt_of_le hlx hb1.size
      replace c0 := (hb1.cell (p := ⟨w.heap.size, 0, none⟩) hlt).trans c0
      replace hx := hx.later hb1
      replace hov := hov.later hb1
      replace hb := hb.trans (hb1.mono (Nat.le_of_lt hlt))
      replace hlt := Nat.lt_of_lt_of_le hlt hb1.size
      clear hb1
      go_wp2_with fail
      go_region_held3 (fun w' => w'.cell? ⟨X, 0, none⟩ = some (.slice ua x.length uc) ∧ w'.cell? ⟨w.heap.size, 0, none⟩ = some (.slice a x.length c)) (go_keep)
        (first
          | (go_at_call 24; refine (toGroup_any _ x _ hx.drew hm hr).mono ?_; rintro e w7 ⟨u7, rfl, o7, hb1⟩; replace cx := (hb1.cell (p := ⟨X, 0, none⟩) hlx).trans cx; replace c0 := (hb1.cell (p := ⟨w.heap.size, 0, none⟩) hlt).trans c0; replace ox := ox.drew.later hb1 (Nat.le_of_lt hlx))
          | (go_at_call 17; refine (eqGroup_yes _ _ x _ (by exact ox.read) (by exact o7.read) hm hr).mono ?_; rintro e w8 ⟨rfl, hb2⟩; replace cx := (hb2.cell (p := ⟨X, 0, none⟩) (Nat.lt_of_lt_of_le hlx hb1.size)).trans cx; replace c0 := (hb2.cell (p := ⟨w.heap.size, 0, none⟩) (Nat.lt_of_lt_of_le hlt hb1.size)).trans c0))
      have hov := (hov.drew.later hb1).later hb2
      have oo := (oo.drew.later hb1).later hb2
      have hb := (hb.drew.trans (hb1.mono (Nat.le_of_lt hlt))).trans (hb2.mono (Nat.le_trans (Nat.le_of_lt hlt) hb1.size))
      clear hb1 hb2 o7
      go_wp2_with fail
      refine (toInt64S_any _ o _ hov hmo).mono ?_
      rintro e w9 ⟨u9, rfl, o9, hb1⟩
      have oo := oo.later hb1
      have hb := hb.trans (hb1.mono hb.size)
      clear hb1
      go_wp2_with fail
      refine (eqInt64S_yes _ _ o _ oo.read o9.read (by omega)).mono ?_
      rintro e w10 ⟨rfl, hb1⟩
      have hb := hb.trans (hb1.mono hb.size)
      go_wp2_with fail
      go_ret
      exact ⟨rfl, hb⟩
    · go_enter Try.func14, Try.ntmps14
      go_wp2_with fail
      generalize w.alloc (.cells #[.slice a x.length c] 30) = w0 at *
      refine (szGroup_no _ x _ _ hx (by omega) (by omega)).mono ?_
      rintro e w1 ⟨rfl, hb1⟩
      replace c0 := (hb1.cell (p := ⟨w.heap.size, 0, none⟩) hlt).trans c0
      replace hx := hx.later hb1
      replace hov := hov.later hb1
      replace hb := hb.trans (hb1.mono (Nat.le_of_lt hlt))
      replace hlt := Nat.lt_of_lt_of_le hlt hb1.size
      clear hb1
      go_wp2_with fail
      go_ret
      exact ⟨rfl, hb⟩
  · have hmo' : ¬ (o.length : Int) ≤ 1048576 := by omega
    go_enter Try.func14, Try.ntmps14
    go_wp2_with fail
    go_ret
    exact ⟨rfl, hb⟩
set_option maxHeartbeats 1000000 in
theorem lawIsAntisymmetric_any (v ov : Value) (x : List (List Int)) (o : List Int) (w : World) (hx : RT w v x) (hov : RI w ov o) (hlo : o.length ≤ maxLen) :
    Calls Try.prog 13 #[.agg #[v], ov] w fun e w' => e = .returned (.bool true) ∧ Below w.heap.size w w' := by
  obtain ⟨a, c, rfl⟩ := hx.slice
  obtain ⟨oa, oc, rfl⟩ := hov.slice
  unfold maxLen at hlo
  have hb : Below w.heap.size w (w.alloc (.cells #[.slice a x.length c] 30)) := (Below.refl _ _).alloc (Nat.le_refl _) _
  have c0 : (w.alloc (.cells #[.slice a x.length c] 30)).cell? ⟨w.heap.size, 0, none⟩ = some (.slice a x.length c) := World.cell?_alloc_at _ _ _ _ rfl
  have hlt : w.heap.size < (w.alloc (.cells #[.slice a x.length c] 30)).heap.size := by simp
  replace hx := hx.later hb
  replace hov := hov.later hb
  by_cases hmo : o.length ≤ 1048576
  · by_cases hs : (szT x : Int) ≤ 1048576
    · obtain ⟨hm, hr⟩ := small_of hs
      have HS := Lib.hid hs
      clear hs
      have HI : Hid (∀ w1 v1 v2, RT w1 v1 x → RI w1 v2 o → Calls Try.prog 45 #[.agg #[v1], v2] w1 fun e w' => e = .returned (.bool (aoB false x o)) ∧ Below w1.heap.size w1 w') := fun w1 v1 v2 h h' => implAnt_any v1 v2 x o w1 h hm hr h' hmo
      have HP : Hid (∀ w1 v1 v2, RT w1 v1 x → RI w1 v2 o → Calls Try.prog 43 #[.agg #[v1], v2] w1 fun e w' => e = .returned (.bool (aoB false x o)) ∧ Below w1.heap.size w1 w') := fun w1 v1 v2 h h' => specAnt_any v1 v2 x o w1 h hm hr h' hmo
      generalize aoB false x o = rb at *
      go_enter Try.func13, Try.ntmps13
      go_wp2_with fail
      generalize w.alloc (.cells #[.slice a x.length c] 30) = w0 at *
      refine (szGroup_yes _ x _ _ hx (by omega) HS.out).mono ?_
      rintro e w1 ⟨r, rfl, HR, h1, h2, hb1⟩
      replace c0 := (hb1.cell (p := ⟨w.heap.size, 0, none⟩) hlt).trans c0
      replace hx := hx.later hb1
      replace hov := hov.later hb1
      replace hb := hb.trans (hb1.mono (Nat.le_of_lt hlt))
      replace hlt := Nat.lt_of_lt_of_le hlt hb1.size
      clear hb1
      go_wp2_with fail
      refine (toGroup_any _ x _ hx hm hr).mono ?_
      rintro e w2 ⟨u2, rfl, o2, hb1⟩
      replace c0 := (hb1.cell (p := ⟨w.heap.size, 0, none⟩) hlt).trans c0
      replace hx := hx.later hb1
      replace hov := hov.later hb1
      replace hb := hb.trans (hb1.mono (Nat.le_of_lt hlt))
      replace hlt := Nat.lt_of_lt_of_le hlt hb1.size
      clear hb1
      go_wp2_with fail
      refine (toInt64S_any _ o _ hov hmo).mono ?_
      rintro e w2' ⟨u2', rfl, o2', hb1⟩
      have o2 := o2.later hb1 (Nat.le_refl _)
      replace c0 := (hb1.cell (p := ⟨w.heap.size, 0, none⟩) hlt).trans c0
      replace hx := hx.later hb1
      replace hov := hov.later hb1
      replace hb := hb.trans (hb1.mono (Nat.le_of_lt hlt))
      replace hlt := Nat.lt_of_lt_of_le hlt hb1.size
      clear hb1
      go_wp2_with fail
      refine (HP.out _ _ _ o2.read o2'.read).mono ?_
      rintro e w3 ⟨rfl, hb1⟩
      replace c0 := (hb1.cell (p := ⟨w.heap.size, 0, none⟩) hlt).trans c0
      replace hx := hx.later hb1
      replace hov := hov.later hb1
      replace hb := hb.trans (hb1.mono (Nat.le_of_lt hlt))
      replace hlt := Nat.lt_of_lt_of_le hlt hb1.size
      clear hb1 o2 o2'
      go_wp2_with fail
      refine (toGroup_any _ x _ hx hm hr).mono ?_
      rintro e w4 ⟨u3, rfl, ox, hb1⟩
      replace c0 := (hb1.cell (p := ⟨w.heap.size, 0, none⟩) hlt).trans c0
      replace hx := hx.later hb1
      replace hov := hov.later hb1
      replace hb := hb.trans (hb1.mono (Nat.le_of_lt hlt))
      replace hlt := Nat.lt_of_lt_of_le hlt hb1.size
      clear hb1
      obtain ⟨ua, uc, rfl⟩ := ox.slice
      go_wp2_with fail
      have cx : (w4.alloc (.cells #[.slice ua x.length uc] 24)).cell? ⟨w4.heap.size, 0, none⟩ = some (.slice ua x.length uc) := World.cell?_alloc_at _ _ _ _ rfl
      have hb1 : Below w4.heap.size w4 (w4.alloc (.cells #[.slice ua x.length uc] 24)) := (Below.refl _ _).alloc (Nat.le_refl _) _
      have hlx : w4.heap.size < (w4.alloc (.cells #[.slice ua x.length uc] 24)).heap.size := by simp
      replace ox := ox.later hb1 (Nat.le_refl _)
      replace c0 := (hb1.cell (p := ⟨w.heap.size, 0, none⟩) hlt).trans c0
      replace hx := hx.later hb1
      replace hov := hov.later hb1
      replace hb := hb.trans (hb1.mono (Nat.le_of_lt hlt))
      replace hlt := Nat.lt_of_lt_of_le hlt hb1.size
      clear hb1
      generalize w4.alloc (.cells #[.slice ua x.length uc] 24) = w5 at *
      generalize w4.heap.size = X at *
      refine (toInt64S_any _ o _ hov hmo).mono ?_
      rintro e w5' ⟨u5, rfl, oo, hb1⟩
      replace cx := (hb1.cell (p := ⟨X, 0, none⟩) hlx).trans cx
      replace ox := ox.later hb1 (Nat.le_of_lt hlx)
      replace hlx := Nat.lt_of_lt_of_le hlx hb1.size
      replace c0 := (hb1.cell (p := ⟨w.heap.size, 0, none⟩) hlt).trans c0
      replace hx := hx.later hb1
      replace hov := hov.later hb1
      replace hb := hb.trans (hb1.mono (Nat.le_of_lt hlt))
      replace hlt := Nat.lt_of_lt_of_le hlt hb1.size
      clear hb1
      obtain ⟨ea, ec, rfl⟩ := oo.slice
      go_wp2_with fail
      refine (HI.out _ _ _ ox.read oo.read).mono ?_
      rintro e w6 ⟨rfl, hb1⟩
      have oo := oo.later hb1
      replace cx := (hb1.cell (p := ⟨X, 0, none⟩) hlx).trans cx
      replace ox := ox.later hb1 (Nat.le_of_lt hlx)
      replace hlx := Nat.lt_of_lt_of_le hlx hb1.size
      replace c0 := (hb1.cell (p := ⟨w.heap.size, 0, none⟩) hlt).trans c0
      replace hx := hx.later hb1
      replace hov := hov.later hb1
      replace hb := hb.trans (hb1.mono (Nat.le_of_lt hlt))
      replace hlt := Nat.lt_of_lt_of_le hlt hb1.size
      clear hb1
      go_wp2_with fail
      go_region_held3 (fun w' => w'.cell? ⟨X, 0, none⟩ = some (.slice ua x.length uc) ∧ w'.cell? ⟨w.heap.size, 0, none⟩ = some (.slice a x.length c)) (go_keep)
        (first
          | (go_at_call 24; refine (toGroup_any _ x _ hx.drew hm hr).mono ?_; rintro e w7 ⟨u7, rfl, o7, hb1⟩; replace cx := (hb1.cell (p := ⟨X, 0, none⟩) hlx).trans cx; replace c0 := (hb1.cell (p := ⟨w.heap.size, 0, none⟩) hlt).trans c0; replace ox := ox.drew.later hb1 (Nat.le_of_lt hlx))
          | (go_at_call 17; refine (eqGroup_yes _ _ x _ (by exact ox.read) (by exact o7.read) hm hr).mono ?_; rintro e w8 ⟨rfl, hb2⟩; replace cx := (hb2.cell (p := ⟨X, 0, none⟩) (Nat.lt_of_lt_of_le hlx hb1.size)).trans cx; replace c0 := (hb2.cell (p := ⟨w.heap.size, 0, none⟩) (Nat.lt_of_lt_of_le hlt hb1.size)).trans c0))
      have hov := (hov.drew.later hb1).later hb2
      have oo := (oo.drew.later hb1).later hb2
      have hb := (hb.drew.trans (hb1.mono (Nat.le_of_lt hlt))).trans (hb2.mono (Nat.le_trans (Nat.le_of_lt hlt) hb1.size))
      clear hb1 hb2 o7
      go_wp2_with fail
      refine (toInt64S_any _ o _ hov hmo).mono ?_
      rintro e w9 ⟨u9, rfl, o9, hb1⟩
      have oo := oo.later hb1
      have hb := hb.trans (hb1.mono hb.size)
      clear hb1
      go_wp2_with fail
      refine (eqInt64S_yes _ _ o _ oo.read o9.read (by omega)).mono ?_
      rintro e w10 ⟨rfl, hb1⟩
      have hb := hb.trans (hb1.mono hb.size)
      go_wp2_with fail
      go_ret
      exact ⟨rfl, hb⟩
    · go_enter Try.func13, Try.ntmps13
      go_wp2_with fail
      generalize w.alloc (.cells #[.slice a x.length c] 30) = w0 at *
      refine (szGroup_no _ x _ _ hx (by omega) (by omega)).mono ?_
      rintro e w1 ⟨rfl, hb1⟩
      replace c0 := (hb1.cell (p := ⟨w.heap.size, 0, none⟩) hlt).trans c0
      replace hx := hx.later hb1
      replace hov := hov.later hb1
      replace hb := hb.trans (hb1.mono (Nat.le_of_lt hlt))
      replace hlt := Nat.lt_of_lt_of_le hlt hb1.size
      clear hb1
      go_wp2_with fail
      go_ret
      exact ⟨rfl, hb⟩
  · have hmo' : ¬ (o.length : Int) ≤ 1048576 := by omega
    go_enter Try.func13, Try.ntmps13
    go_wp2_with fail
    go_ret
    exact ⟨rfl, hb⟩
end Go.Proofs.Ytgedeifajmoljaa
