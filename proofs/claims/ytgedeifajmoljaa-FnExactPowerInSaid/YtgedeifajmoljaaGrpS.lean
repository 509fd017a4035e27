/- The laws of IdentityOf, InverseIn, OrderIn, PowerIn: for all arguments. -/
import Derived.Test.YtgedeifajmoljaaGrpO
namespace Go.Proofs.Ytgedeifajmoljaa
open Go.RowKit


set_option maxHeartbeats 1000000 in
theorem lawIdentityOf_any (v : Value) (x : List (List Int)) (w : World) (hx : RT w v x) :
    Calls Try.prog 6 #[.agg #[v]] w fun e w' => e = .returned (.bool true) ∧ Below w.heap.size w w' := by
  obtain ⟨a, c, rfl⟩ := hx.slice
  have hb : Below w.heap.size w (w.alloc (.cells #[.slice a x.length c] 30)) := (Below.refl _ _).alloc (Nat.le_refl _) _
  have c0 : (w.alloc (.cells #[.slice a x.length c] 30)).cell? ⟨w.heap.size, 0, none⟩ = some (.slice a x.length c) := World.cell?_alloc_at _ _ _ _ rfl
  have hlt : w.heap.size < (w.alloc (.cells #[.slice a x.length c] 30)).heap.size := by simp
  replace hx := hx.later hb
  by_cases hs : (szT x : Int) ≤ 1048576
  · obtain ⟨hm, hr⟩ := small_of hs
    have HS := Lib.hid hs
    clear hs
    obtain ⟨rn, rb, hv⟩ := idnV_shape x
    have HI : Hid (∀ w1 v1, RT w1 v1 x → Calls Try.prog 27 #[.agg #[v1]] w1 fun e w' => e = .returned (.tuple #[.int .i64 rn, .bool rb]) ∧ Below w1.heap.size w1 w') := fun w1 v1 h => by
      have := implId_any v1 x w1 h hm hr
      rw [hv] at this; exact this
    have HP : Hid (∀ w1 v1, RT w1 v1 x → Calls Try.prog 26 #[.agg #[v1]] w1 fun e w' => e = .returned (.tuple #[.int .i64 rn, .bool rb]) ∧ Below w1.heap.size w1 w') := fun w1 v1 h => by
      have := specId_any v1 x w1 h hm hr
      rw [hv] at this; exact this
    clear hv
    go_enter Try.func6, Try.ntmps6
    go_wp2_with fail
    generalize w.alloc (.cells #[.slice a x.length c] 30) = w0 at *
    refine (szGroup_yes _ x _ _ hx (by omega) HS.out).mono ?_
    rintro e w1 ⟨r, rfl, HR, h1, h2, hb1⟩
    replace c0 := (hb1.cell (p := ⟨w.heap.size, 0, none⟩) hlt).trans c0
    replace hx := hx.later hb1
    replace hb := hb.trans (hb1.mono (Nat.le_of_lt hlt))
    replace hlt := Nat.lt_of_lt_of_le hlt hb1.size
    clear hb1
    go_wp2_with fail
    refine (toGroup_any _ x _ hx hm hr).mono ?_
    rintro e w2 ⟨u2, rfl, o2, hb1⟩
    replace c0 := (hb1.cell (p := ⟨w.heap.size, 0, none⟩) hlt).trans c0
    replace hx := hx.later hb1
    replace hb := hb.trans (hb1.mono (Nat.le_of_lt hlt))
    replace hlt := Nat.lt_of_lt_of_le hlt hb1.size
    clear hb1
    go_wp2_with fail
    refine (HP.out _ _ o2.read).mono ?_
    rintro e w3 ⟨rfl, hb1⟩
    replace c0 := (hb1.cell (p := ⟨w.heap.size, 0, none⟩) hlt).trans c0
    replace hx := hx.later hb1
    replace hb := hb.trans (hb1.mono (Nat.le_of_lt hlt))
    replace hlt := Nat.lt_of_lt_of_le hlt hb1.size
    clear hb1 o2
    go_wp2_with fail
    refine (toGroup_any _ x _ hx hm hr).mono ?_
    rintro e w4 ⟨u3, rfl, ox, hb1⟩
    replace c0 := (hb1.cell (p := ⟨w.heap.size, 0, none⟩) hlt).trans c0
    replace hx := hx.later hb1
    replace hb := hb.trans (hb1.mono (Nat.le_of_lt hlt))
    replace hlt := Nat.lt_of_lt_of_le hlt hb1.size
    clear hb1
    obtain ⟨ua, uc, rfl⟩ := ox.slice
    go_wp2_with fail
    have cx : (w4.alloc (.cells #[.slice ua x.length uc] 24)).cell? ⟨w4.heap.size, 0, none⟩ = some (.slice ua x.length uc) := World.cell?_alloc_at _ _ _ _ rfl
    have hb1 : Below w4.heap.size w4 (w4.alloc (.cells #[.slice ua x.length uc] 24)) := (Below.refl _ _).alloc (Nat.le_refl _) _
    have hlx : w4.heap.size < (w4.alloc (.cells #[.slice ua x.length uc] 24)).heap.size := by simp
    replace ox := ox.later hb1 (Nat.le_refl _)
    replace c0 := (hb1.cell (p := ⟨w.heap.size, 0, none⟩) hlt).trans c0
    replace hx := hx.later hb1
    replace hb := hb.trans (hb1.mono (Nat.le_of_lt hlt))
    replace hlt := Nat.lt_of_lt_of_le hlt hb1.size
    clear hb1
    generalize w4.alloc (.cells #[.slice ua x.length uc] 24) = w5 at *
    generalize w4.heap.size = X at *
    refine (HI.out _ _ ox.read).mono ?_
    rintro e w6 ⟨rfl, hb1⟩
    replace cx := (hb1.cell (p := ⟨X, 0, none⟩) hlx).trans cx
    replace ox := ox.later hb1 (Nat.le_of_lt hlx)
    replace hlx := Nat.lt_of_lt_of_le hlx hb1.size
    replace c0 := (hb1.cell (p := ⟨w.heap.size, 0, none⟩) hlt).trans c0
    replace hx := hx.later hb1
    replace hb := hb.trans (hb1.mono (Nat.le_of_lt hlt))
    replace hlt := Nat.lt_of_lt_of_le hlt hb1.size
    clear hb1
    go_wp2_with fail
    go_region_held3 (fun w' => w'.cell? ⟨X, 0, none⟩ = some (.slice ua x.length uc) ∧ w'.cell? ⟨w.heap.size, 0, none⟩ = some (.slice a x.length c)) (go_keep)
      (first
        | (go_at_call 24; refine (toGroup_any _ x _ hx.drew hm hr).mono ?_; rintro e w7 ⟨u7, rfl, o7, hb1⟩; replace cx := (hb1.cell (p := ⟨X, 0, none⟩) hlx).trans cx; replace c0 := (hb1.cell (p := ⟨w.heap.size, 0, none⟩) hlt).trans c0; replace ox := ox.drew.later hb1 (Nat.le_of_lt hlx))
        | (go_at_call 17; refine (eqGroup_yes _ _ x _ (by exact ox.read) (by exact o7.read) hm hr).mono ?_; rintro e w8 ⟨rfl, hb2⟩; replace cx := (hb2.cell (p := ⟨X, 0, none⟩) (Nat.lt_of_lt_of_le hlx hb1.size)).trans cx; replace c0 := (hb2.cell (p := ⟨w.heap.size, 0, none⟩) (Nat.lt_of_lt_of_le hlt hb1.size)).trans c0))
    have hb := (hb.drew.trans (hb1.mono (Nat.le_of_lt hlt))).trans (hb2.mono (Nat.le_trans (Nat.le_of_lt hlt) hb1.size))
    go_wp2_with fail
    go_ret
    exact ⟨rfl, hb⟩
  · go_enter Try.func6, Try.ntmps6
    go_wp2_with fail
    generalize w.alloc (.cells #[.slice a x.length c] 30) = w0 at *
    refine (szGroup_no _ x _ _ hx (by omega) (by omega)).mono ?_
    rintro e w1 ⟨rfl, hb1⟩
    replace c0 := (hb1.cell (p := ⟨w.heap.size, 0, none⟩) hlt).trans c0
    replace hx := hx.later hb1
    replace hb := hb.trans (hb1.mono (Nat.le_of_lt hlt))
    replace hlt := Nat.lt_of_lt_of_le hlt hb1.size
    clear hb1
    go_wp2_with fail
    go_ret
    exact ⟨rfl, hb⟩
set_option maxHeartbeats 1000000 in
theorem lawInverseIn_any (v : Value) (x : List (List Int)) (k : Int) (w : World) (hx : RT w v x) :
    Calls Try.prog 7 #[.agg #[v], .int .i64 k] w fun e w' => e = .returned (.bool true) ∧ Below w.heap.size w w' := by
  obtain ⟨a, c, rfl⟩ := hx.slice
  have hb : Below w.heap.size w (w.alloc (.cells #[.slice a x.length c] 30)) := (Below.refl _ _).alloc (Nat.le_refl _) _
  have c0 : (w.alloc (.cells #[.slice a x.length c] 30)).cell? ⟨w.heap.size, 0, none⟩ = some (.slice a x.length c) := World.cell?_alloc_at _ _ _ _ rfl
  have hlt : w.heap.size < (w.alloc (.cells #[.slice a x.length c] 30)).heap.size := by simp
  replace hx := hx.later hb
  by_cases hs : (szT x : Int) ≤ 1048576
  · obtain ⟨hm, hr⟩ := small_of hs
    have HS := Lib.hid hs
    clear hs
    obtain ⟨rn, rb, hv⟩ := invV_shape x k
    have HI : Hid (∀ w1 v1, RT w1 v1 x → Calls Try.prog 29 #[.agg #[v1], .int .i64 k] w1 fun e w' => e = .returned (.tuple #[.int .i64 rn, .bool rb]) ∧ Below w1.heap.size w1 w') := fun w1 v1 h => by
      have := implInv_any v1 x k w1 h hm hr
      rw [hv] at this; exact this
    have HP : Hid (∀ w1 v1, RT w1 v1 x → Calls Try.prog 28 #[.agg #[v1], .int .i64 k] w1 fun e w' => e = .returned (.tuple #[.int .i64 rn, .bool rb]) ∧ Below w1.heap.size w1 w') := fun w1 v1 h => by
      have := specInv_any v1 x k w1 h hm hr
      rw [hv] at this; exact this
    clear hv
    go_enter Try.func7, Try.ntmps7
    go_wp2_with fail
    generalize w.alloc (.cells #[.slice a x.length c] 30) = w0 at *
    refine (szGroup_yes _ x _ _ hx (by omega) HS.out).mono ?_
    rintro e w1 ⟨r, rfl, HR, h1, h2, hb1⟩
    replace c0 := (hb1.cell (p := ⟨w.heap.size, 0, none⟩) hlt).trans c0
    replace hx := hx.later hb1
    replace hb := hb.trans (hb1.mono (Nat.le_of_lt hlt))
    replace hlt := Nat.lt_of_lt_of_le hlt hb1.size
    clear hb1
    go_wp2_with fail
    refine (toGroup_any _ x _ hx hm hr).mono ?_
    rintro e w2 ⟨u2, rfl, o2, hb1⟩
    replace c0 := (hb1.cell (p := ⟨w.heap.size, 0, none⟩) hlt).trans c0
    replace hx := hx.later hb1
    replace hb := hb.trans (hb1.mono (Nat.le_of_lt hlt))
    replace hlt := Nat.lt_of_lt_of_le hlt hb1.size
    clear hb1
    go_wp2_with fail
    refine (HP.out _ _ o2.read).mono ?_
    rintro e w3 ⟨rfl, hb1⟩
    replace c0 := (hb1.cell (p := ⟨w.heap.size, 0, none⟩) hlt).trans c0
    replace hx := hx.later hb1
    replace hb := hb.trans (hb1.mono (Nat.le_of_lt hlt))
    replace hlt := Nat.lt_of_lt_of_le hlt hb1.size
    clear hb1 o2
    go_wp2_with fail
    refine (toGroup_any _ x _ hx hm hr).mono ?_
    rintro e w4 ⟨u3, rfl, ox, hb1⟩
    replace c0 := (hb1.cell (p := ⟨w.heap.size, 0, none⟩) hlt).trans c0
    replace hx := hx.later hb1
    replace hb := hb.trans (hb1.mono (Nat.le_of_lt hlt))
    replace hlt := Nat.lt_of_lt_of_le hlt hb1.size
    clear hb1
    obtain ⟨ua, uc, rfl⟩ := ox.slice
    go_wp2_with fail
    have cx : (w4.alloc (.cells #[.slice ua x.length uc] 24)).cell? ⟨w4.heap.size, 0, none⟩ = some (.slice ua x.length uc) := World.cell?_alloc_at _ _ _ _ rfl
    have hb1 : Below w4.heap.size w4 (w4.alloc (.cells #[.slice ua x.length uc] 24)) := (Below.refl _ _).alloc (Nat.le_refl _) _
    have hlx : w4.heap.size < (w4.alloc (.cells #[.slice ua x.length uc] 24)).heap.size := by simp
    replace ox := ox.later hb1 (Nat.le_refl _)
    replace c0 := (hb1.cell (p := ⟨w.heap.size, 0, none⟩) hlt).trans c0
    replace hx := hx.later hb1
    replace hb := hb.trans (hb1.mono (Nat.le_of_lt hlt))
    replace hlt := Nat.lt_of_lt_of_le hlt hb1.size
    clear hb1
    generalize w4.alloc (.cells #[.slice ua x.length uc] 24) = w5 at *
    generalize w4.heap.size = X at *
    refine (HI.out _ _ ox.read).mono ?_
    rintro e w6 ⟨rfl, hb1⟩
    replace cx := (hb1.cell (p := ⟨X, 0, none⟩) hlx).trans cx
    replace ox := ox.later hb1 (Nat.le_of_lt hlx)
    replace hlx := Nat.lt_of_lt_of_le hlx hb1.size
    replace c0 := (hb1.cell (p := ⟨w.heap.size, 0, none⟩) hlt).trans c0
    replace hx := hx.later hb1
    replace hb := hb.trans (hb1.mono (Nat.le_of_lt hlt))
    replace hlt := Nat.lt_of_lt_of_le hlt hb1.size
    clear hb1
    go_wp2_with fail
    go_region_held3 (fun w' => w'.cell? ⟨X, 0, none⟩ = some (.slice ua x.length uc) ∧ w'.cell? ⟨w.heap.size, 0, none⟩ = some (.slice a x.length c)) (go_keep)
      (first
        | (go_at_call 24; refine (toGroup_any _ x _ hx.drew hm hr).mono ?_; rintro e w7 ⟨u7, rfl, o7, hb1⟩; replace cx := (hb1.cell (p := ⟨X, 0, none⟩) hlx).trans cx; replace c0 := (hb1.cell (p := ⟨w.heap.size, 0, none⟩) hlt).trans c0; replace ox := ox.drew.later hb1 (Nat.le_of_lt hlx))
        | (go_at_call 17; refine (eqGroup_yes _ _ x _ (by exact ox.read) (by exact o7.read) hm hr).mono ?_; rintro e w8 ⟨rfl, hb2⟩; replace cx := (hb2.cell (p := ⟨X, 0, none⟩) (Nat.lt_of_lt_of_le hlx hb1.size)).trans cx; replace c0 := (hb2.cell (p := ⟨w.heap.size, 0, none⟩) (Nat.lt_of_lt_of_le hlt hb1.size)).trans c0))
    have hb := (hb.drew.trans (hb1.mono (Nat.le_of_lt hlt))).trans (hb2.mono (Nat.le_trans (Nat.le_of_lt hlt) hb1.size))
    go_wp2_with fail
    go_ret
    exact ⟨rfl, hb⟩
  · go_enter Try.func7, Try.ntmps7
    go_wp2_with fail
    generalize w.alloc (.cells #[.slice a x.length c] 30) = w0 at *
    refine (szGroup_no _ x _ _ hx (by omega) (by omega)).mono ?_
    rintro e w1 ⟨rfl, hb1⟩
    replace c0 := (hb1.cell (p := ⟨w.heap.size, 0, none⟩) hlt).trans c0
    replace hx := hx.later hb1
    replace hb := hb.trans (hb1.mono (Nat.le_of_lt hlt))
    replace hlt := Nat.lt_of_lt_of_le hlt hb1.size
    clear hb1
    go_wp2_with fail
    go_ret
    exact ⟨rfl, hb⟩
set_option maxHeartbeats 1000000 in
theorem lawOrderIn_any (v : Value) (x : List (List Int)) (k : Int) (w : World) (hx : RT w v x) :
    Calls Try.prog 8 #[.agg #[v], .int .i64 k] w fun e w' => e = .returned (.bool true) ∧ Below w.heap.size w w' := by
  obtain ⟨a, c, rfl⟩ := hx.slice
  have hb : Below w.heap.size w (w.alloc (.cells #[.slice a x.length c] 30)) := (Below.refl _ _).alloc (Nat.le_refl _) _
  have c0 : (w.alloc (.cells #[.slice a x.length c] 30)).cell? ⟨w.heap.size, 0, none⟩ = some (.slice a x.length c) := World.cell?_alloc_at _ _ _ _ rfl
  have hlt : w.heap.size < (w.alloc (.cells #[.slice a x.length c] 30)).heap.size := by simp
  replace hx := hx.later hb
  by_cases hs : (szT x : Int) ≤ 1048576
  · obtain ⟨hm, hr⟩ := small_of hs
    have HS := Lib.hid hs
    clear hs
    obtain ⟨rn, rb, hv⟩ := ordV_shape x k
    have HI : Hid (∀ w1 v1, RT w1 v1 x → Calls Try.prog 31 #[.agg #[v1], .int .i64 k] w1 fun e w' => e = .returned (.tuple #[.int .i64 rn, .bool rb]) ∧ Below w1.heap.size w1 w') := fun w1 v1 h => by
      have := implOrd_any v1 x k w1 h hm hr
      rw [hv] at this; exact this
    have HP : Hid (∀ w1 v1, RT w1 v1 x → Calls Try.prog 30 #[.agg #[v1], .int .i64 k] w1 fun e w' => e = .returned (.tuple #[.int .i64 rn, .bool rb]) ∧ Below w1.heap.size w1 w') := fun w1 v1 h => by
      have := specOrd_any v1 x k w1 h hm hr
      rw [hv] at this; exact this
    clear hv
    go_enter Try.func8, Try.ntmps8
    go_wp2_with fail
    generalize w.alloc (.cells #[.slice a x.length c] 30) = w0 at *
    refine (szGroup_yes _ x _ _ hx (by omega) HS.out).mono ?_
    rintro e w1 ⟨r, rfl, HR, h1, h2, hb1⟩
    replace c0 := (hb1.cell (p := ⟨w.heap.size, 0, none⟩) hlt).trans c0
    replace hx := hx.later hb1
    replace hb := hb.trans (hb1.mono (Nat.le_of_lt hlt))
    replace hlt := Nat.lt_of_lt_of_le hlt hb1.size
    clear hb1
    go_wp2_with fail
    refine (toGroup_any _ x _ hx hm hr).mono ?_
    rintro e w2 ⟨u2, rfl, o2, hb1⟩
    replace c0 := (hb1.cell (p := ⟨w.heap.size, 0, none⟩) hlt).trans c0
    replace hx := hx.later hb1
    replace hb := hb.trans (hb1.mono (Nat.le_of_lt hlt))
    replace hlt := Nat.lt_of_lt_of_le hlt hb1.size
    clear hb1
    go_wp2_with fail
    refine (HP.out _ _ o2.read).mono ?_
    rintro e w3 ⟨rfl, hb1⟩
    replace c0 := (hb1.cell (p := ⟨w.heap.size, 0, none⟩) hlt).trans c0
    replace hx := hx.later hb1
    replace hb := hb.trans (hb1.mono (Nat.le_of_lt hlt))
    replace hlt := Nat.lt_of_lt_of_le hlt hb1.size
    clear hb1 o2
    go_wp2_with fail
    refine (toGroup_any _ x _ hx hm hr).mono ?_
    rintro e w4 ⟨u3, rfl, ox, hb1⟩
    replace c0 := (hb1.cell (p := ⟨w.heap.size, 0, none⟩) hlt).trans c0
    replace hx := hx.later hb1
    replace hb := hb.trans (hb1.mono (Nat.le_of_lt hlt))
    replace hlt := Nat.lt_of_lt_of_le hlt hb1.size
    clear hb1
    obtain ⟨ua, uc, rfl⟩ := ox.slice
    go_wp2_with fail
    have cx : (w4.alloc (.cells #[.slice ua x.length uc] 24)).cell? ⟨w4.heap.size, 0, none⟩ = some (.slice ua x.length uc) := World.cell?_alloc_at _ _ _ _ rfl
    have hb1 : Below w4.heap.size w4 (w4.alloc (.cells #[.slice ua x.length uc] 24)) := (Below.refl _ _).alloc (Nat.le_refl _) _
    have hlx : w4.heap.size < (w4.alloc (.cells #[.slice ua x.length uc] 24)).heap.size := by simp
    replace ox := ox.later hb1 (Nat.le_refl _)
    replace c0 := (hb1.cell (p := ⟨w.heap.size, 0, none⟩) hlt).trans c0
    replace hx := hx.later hb1
    replace hb := hb.trans (hb1.mono (Nat.le_of_lt hlt))
    replace hlt := Nat.lt_of_lt_of_le hlt hb1.size
    clear hb1
    generalize w4.alloc (.cells #[.slice ua x.length uc] 24) = w5 at *
    generalize w4.heap.size = X at *
    refine (HI.out _ _ ox.read).mono ?_
    rintro e w6 ⟨rfl, hb1⟩
    replace cx := (hb1.cell (p := ⟨X, 0, none⟩) hlx).trans cx
    replace ox := ox.later hb1 (Nat.le_of_lt hlx)
    replace hlx := Nat.lt_of_lt_of_le hlx hb1.size
    replace c0 := (hb1.cell (p := ⟨w.heap.size, 0, none⟩) hlt).trans c0
    replace hx := hx.later hb1
    replace hb := hb.trans (hb1.mono (Nat.le_of_lt hlt))
    replace hlt := Nat.lt_of_lt_of_le hlt hb1.size
    clear hb1
    go_wp2_with fail
    go_region_held3 (fun w' => w'.cell? ⟨X, 0, none⟩ = some (.slice ua x.length uc) ∧ w'.cell? ⟨w.heap.size, 0, none⟩ = some (.slice a x.length c)) (go_keep)
      (first
        | (go_at_call 24; refine (toGroup_any _ x _ hx.drew hm hr).mono ?_; rintro e w7 ⟨u7, rfl, o7, hb1⟩; replace cx := (hb1.cell (p := ⟨X, 0, none⟩) hlx).trans cx; replace c0 := (hb1.cell (p := ⟨w.heap.size, 0, none⟩) hlt).trans c0; replace ox := ox.drew.later hb1 (Nat.le_of_lt hlx))
        | (go_at_call 17; refine (eqGroup_yes _ _ x _ (by exact ox.read) (by exact o7.read) hm hr).mono ?_; rintro e w8 ⟨rfl, hb2⟩; replace cx := (hb2.cell (p := ⟨X, 0, none⟩) (Nat.lt_of_lt_of_le hlx hb1.size)).trans cx; replace c0 := (hb2.cell (p := ⟨w.heap.size, 0, none⟩) (Nat.lt_of_lt_of_le hlt hb1.size)).trans c0))
    have hb := (hb.drew.trans (hb1.mono (Nat.le_of_lt hlt))).trans (hb2.mono (Nat.le_trans (Nat.le_of_lt hlt) hb1.size))
    go_wp2_with fail
    go_ret
    exact ⟨rfl, hb⟩
  · go_enter Try.func8, Try.ntmps8
    go_wp2_with fail
    generalize w.alloc (.cells #[.slice a x.length c] 30) = w0 at *
    refine (szGroup_no _ x _ _ hx (by omega) (by omega)).mono ?_
    rintro e w1 ⟨rfl, hb1⟩
    replace c0 := (hb1.cell (p := ⟨w.heap.size, 0, none⟩) hlt).trans c0
    replace hx := hx.later hb1
    replace hb := hb.trans (hb1.mono (Nat.le_of_lt hlt))
    replace hlt := Nat.lt_of_lt_of_le hlt hb1.size
    clear hb1
    go_wp2_with fail
    go_ret
    exact ⟨rfl, hb⟩
set_option maxHeartbeats 1000000 in
theorem lawPowerIn_any (v : Value) (x : List (List Int)) (k n : Int) (w : World) (hx : RT w v x) :
    Calls Try.prog 9 #[.agg #[v], .int .i64 k, .int .i64 n] w fun e w' => e = .returned (.bool true) ∧ Below w.heap.size w w' := by
  obtain ⟨a, c, rfl⟩ := hx.slice
  have hb : Below w.heap.size w (w.alloc (.cells #[.slice a x.length c] 30)) := (Below.refl _ _).alloc (Nat.le_refl _) _
  have c0 : (w.alloc (.cells #[.slice a x.length c] 30)).cell? ⟨w.heap.size, 0, none⟩ = some (.slice a x.length c) := World.cell?_alloc_at _ _ _ _ rfl
  have hlt : w.heap.size < (w.alloc (.cells #[.slice a x.length c] 30)).heap.size := by simp
  replace hx := hx.later hb
  by_cases hs : (szT x : Int) ≤ 1048576
  · obtain ⟨hm, hr⟩ := small_of hs
    have HS := Lib.hid hs
    clear hs
    obtain ⟨rn, rb, hv⟩ := powV_shape x k n
    have HI : Hid (∀ w1 v1, RT w1 v1 x → Calls Try.prog 33 #[.agg #[v1], .int .i64 k, .int .i64 n] w1 fun e w' => e = .returned (.tuple #[.int .i64 rn, .bool rb]) ∧ Below w1.heap.size w1 w') := fun w1 v1 h => by
      have := implPow_any v1 x k n w1 h hm hr
      rw [hv] at this; exact this
    have HP : Hid (∀ w1 v1, RT w1 v1 x → Calls Try.prog 32 #[.agg #[v1], .int .i64 k, .int .i64 n] w1 fun e w' => e = .returned (.tuple #[.int .i64 rn, .bool rb]) ∧ Below w1.heap.size w1 w') := fun w1 v1 h => by
      have := specPow_any v1 x k n w1 h hm hr
      rw [hv] at this; exact this
    clear hv
    go_enter Try.func9, Try.ntmps9
    go_wp2_with fail
    generalize w.alloc (.cells #[.slice a x.length c] 30) = w0 at *
    refine (szGroup_yes _ x _ _ hx (by omega) HS.out).mono ?_
    rintro e w1 ⟨r, rfl, HR, h1, h2, hb1⟩
    replace c0 := (hb1.cell (p := ⟨w.heap.size, 0, none⟩) hlt).trans c0
    replace hx := hx.later hb1
    replace hb := hb.trans (hb1.mono (Nat.le_of_lt hlt))
    replace hlt := Nat.lt_of_lt_of_le hlt hb1.size
    clear hb1
    go_wp2_with fail
    refine (toGroup_any _ x _ hx hm hr).mono ?_
    rintro e w2 ⟨u2, rfl, o2, hb1⟩
    replace c0 := (hb1.cell (p := ⟨w.heap.size, 0, none⟩) hlt).trans c0
    replace hx := hx.later hb1
    replace hb := hb.trans (hb1.mono (Nat.le_of_lt hlt))
    replace hlt := Nat.lt_of_lt_of_le hlt hb1.size
    clear hb1
    go_wp2_with fail
    refine (HP.out _ _ o2.read).mono ?_
    rintro e w3 ⟨rfl, hb1⟩
    replace c0 := (hb1.cell (p := ⟨w.heap.size, 0, none⟩) hlt).trans c0
    replace hx := hx.later hb1
    replace hb := hb.trans (hb1.mono (Nat.le_of_lt hlt))
    replace hlt := Nat.lt_of_lt_of_le hlt hb1.size
    clear hb1 o2
    go_wp2_with fail
    refine (toGroup_any _ x _ hx hm hr).mono ?_
    rintro e w4 ⟨u3, rfl, ox, hb1⟩
    replace c0 := (hb1.cell (p := ⟨w.heap.size, 0, none⟩) hlt).trans c0
    replace hx := hx.later hb1
    replace hb := hb.trans (hb1.mono (Nat.le_of_lt hlt))
    replace hlt := Nat.lt_of_lt_of_le hlt hb1.size
    clear hb1
    obtain ⟨ua, uc, rfl⟩ := ox.slice
    go_wp2_with fail
    have cx : (w4.alloc (.cells #[.slice ua x.length uc] 24)).cell? ⟨w4.heap.size, 0, none⟩ = some (.slice ua x.length uc) := World.cell?_alloc_at _ _ _ _ rfl
    have hb1 : Below w4.heap.size w4 (w4.alloc (.cells #[.slice ua x.length uc] 24)) := (Below.refl _ _).alloc (Nat.le_refl _) _
    have hlx : w4.heap.size < (w4.alloc (.cells #[.slice ua x.length uc] 24)).heap.size := by simp
    replace ox := ox.later hb1 (Nat.le_refl _)
    replace c0 := (hb1.cell (p := ⟨w.heap.size, 0, none⟩) hlt).trans c0
    replace hx := hx.later hb1
    replace hb := hb.trans (hb1.mono (Nat.le_of_lt hlt))
    replace hlt := Nat.lt_of_lt_of_le hlt hb1.size
    clear hb1
    generalize w4.alloc (.cells #[.slice ua x.length uc] 24) = w5 at *
    generalize w4.heap.size = X at *
    refine (HI.out _ _ ox.read).mono ?_
    rintro e w6 ⟨rfl, hb1⟩
    replace cx := (hb1.cell (p := ⟨X, 0, none⟩) hlx).trans cx
    replace ox := ox.later hb1 (Nat.le_of_lt hlx)
    replace hlx := Nat.lt_of_lt_of_le hlx hb1.size
    replace c0 := (hb1.cell (p := ⟨w.heap.size, 0, none⟩) hlt).trans c0
    replace hx := hx.later hb1
    replace hb := hb.trans (hb1.mono (Nat.le_of_lt hlt))
    replace hlt := Nat.lt_of_lt_of_le hlt hb1.size
    clear hb1
    go_wp2_with fail
    go_region_held3 (fun w' => w'.cell? ⟨X, 0, none⟩ = some (.slice ua x.length uc) ∧ w'.cell? ⟨w.heap.size, 0, none⟩ = some (.slice a x.length c)) (go_keep)
      (first
        | (go_at_call 24; refine (toGroup_any _ x _ hx.drew hm hr).mono ?_; rintro e w7 ⟨u7, rfl, o7, hb1⟩; replace cx := (hb1.cell (p := ⟨X, 0, none⟩) hlx).trans cx; replace c0 := (hb1.cell (p := ⟨w.heap.size, 0, none⟩) hlt).trans c0; replace ox := ox.drew.later hb1 (Nat.le_of_lt hlx))
        | (go_at_call 17; refine (eqGroup_yes _ _ x _ (by exact ox.read) (by exact o7.read) hm hr).mono ?_; rintro e w8 ⟨rfl, hb2⟩; replace cx := (hb2.cell (p := ⟨X, 0, none⟩) (Nat.lt_of_lt_of_le hlx hb1.size)).trans cx; replace c0 := (hb2.cell (p := ⟨w.heap.size, 0, none⟩) (Nat.lt_of_lt_of_le hlt hb1.size)).trans c0))
    have hb := (hb.drew.trans (hb1.mono (Nat.le_of_lt hlt))).trans (hb2.mono (Nat.le_trans (Nat.le_of_lt hlt) hb1.size))
    go_wp2_with fail
    go_ret
    exact ⟨rfl, hb⟩
  · go_enter Try.func9, Try.ntmps9
    go_wp2_with fail
    generalize w.alloc (.cells #[.slice a x.length c] 30) = w0 at *
    refine (szGroup_no _ x _ _ hx (by omega) (by omega)).mono ?_
    rintro e w1 ⟨rfl, hb1⟩
    replace c0 := (hb1.cell (p := ⟨w.heap.size, 0, none⟩) hlt).trans c0
    replace hx := hx.later hb1
    replace hb := hb.trans (hb1.mono (Nat.le_of_lt hlt))
    replace hlt := Nat.lt_of_lt_of_le hlt hb1.size
    clear hb1
    go_wp2_with fail
    go_ret
    exact ⟨rfl, hb⟩
end Go.Proofs.Ytgedeifajmoljaa
