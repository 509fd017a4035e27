/- The laws of IsCommutative and CentreOf: for all arguments. -/
import Derived.Test.YtgedeifajmoljaaGrpZ
namespace Go.Proofs.Ytgedeifajmoljaa
open Go.RowKit


def comB (x : List (List Int)) : Bool := grpB x && decide ((cenL x).length = x.length)
set_option maxHeartbeats 1000000 in
theorem implCom_any (v : Value) (x : List (List Int)) (w : World) (hx : RT w v x) (hm : x.length ≤ 1048576) (hr : Small x) :
    Calls Try.prog 35 #[.agg #[v]] w fun e w' => e = .returned (.bool (comB x)) ∧ Below w.heap.size w w' := by
  have HC : Hid (comB x = (grpB x && decide ((cenL x).length = x.length))) := rfl
  have HE : Hid (grpB x = true → cenS x = cenL x) := fun h => by unfold cenS; rw [if_pos h]
  have hl := cenP_len x x.length
  obtain ⟨a, c, rfl⟩ := hx.slice
  have hb : Below w.heap.size w (w.alloc (.cells #[.slice a x.length c] 24)) := (Below.refl _ _).alloc (Nat.le_refl _) _
  have c0 : (w.alloc (.cells #[.slice a x.length c] 24)).cell? ⟨w.heap.size, 0, none⟩ = some (.slice a x.length c) := World.cell?_alloc_at _ _ _ _ rfl
  have hlt : w.heap.size < (w.alloc (.cells #[.slice a x.length c] 24)).heap.size := by simp
  replace hx := hx.later hb
  go_enter Try.func35, Try.ntmps35
  go_wp2_with fail
  generalize w.alloc (.cells #[.slice a x.length c] 24) = w0 at *
  refine (implCen_any _ x _ hx hm hr).mono ?_
  rintro e w1 ⟨v1, rfl, ho, hb1⟩
  obtain ⟨oa, oc, rfl⟩ := ho.slice
  replace c0 := (hb1.cell (p := ⟨w.heap.size, 0, none⟩) hlt).trans c0
  replace hx := hx.later hb1
  replace hb := hb.trans (hb1.mono (Nat.le_of_lt hlt))
  replace hlt := Nat.lt_of_lt_of_le hlt hb1.size
  clear hb1
  cases hg : grpB x
  · rw [hg] at HC
    clear hg
    go_wp2_with fail
    go_ret
    exact ⟨ret_bool (by rw [HC.out]; rfl), hb⟩
  · rw [hg] at HC
    rw [HE.out hg]
    clear hg
    by_cases h : (cenL x).length = x.length
    · have b1 : (((cenL x).length : Int) == (x.length : Int)) = true := by simp [h]
      rw [decide_eq_true h] at HC
      clear h
      go_wp2_with fail
      go_ret
      exact ⟨ret_bool (by rw [HC.out]; rfl), hb⟩
    · have b1 : (((cenL x).length : Int) == (x.length : Int)) = false := by simp; omega
      rw [decide_eq_false h] at HC
      clear h
      go_wp2_with fail
      go_ret
      exact ⟨ret_bool (by rw [HC.out]; rfl), hb⟩
set_option maxHeartbeats 1000000 in
theorem specCom_any (v : Value) (x : List (List Int)) (w : World) (hx : RT w v x) (hm : x.length ≤ 1048576) (hr : Small x) :
    Calls Try.prog 34 #[.agg #[v]] w fun e w' => e = .returned (.bool (comB x)) ∧ Below w.heap.size w w' := by
  have HCM : Hid (comB x = (grpB x && decide ((cenL x).length = x.length))) := rfl
  by_cases hg : grpB x = true
  · have hl := cenP_len x x.length
    rw [hg] at HCM
    have GP := Lib.hid (Gp.of hg)
    have hn := (Gp.of hg).n
    have hs : Hid (sqB x = true) := (Gp.of hg).sq
    obtain ⟨G, O, C, H, F, P, rfl, hat⟩ := hx.sq (Gp.of hg).sq
    have HSQ := Lib.hid hat
    have HG := Lib.hid hg
    have hb : Below w.heap.size w (w.alloc (.cells #[.slice (some ⟨G, O, none⟩) x.length C] 24)) := (Below.refl _ _).alloc (Nat.le_refl _) _
    have c0 : (w.alloc (.cells #[.slice (some ⟨G, O, none⟩) x.length C] 24)).cell? ⟨w.heap.size, 0, none⟩ = some (.slice (some ⟨G, O, none⟩) x.length C) := World.cell?_alloc_at _ _ _ _ rfl
    have hlt : w.heap.size < (w.alloc (.cells #[.slice (some ⟨G, O, none⟩) x.length C] 24)).heap.size := by simp
    replace hx := hx.later hb
    clear hat hg
    by_cases h : (cenL x).length = x.length
    · have b1 : (((cenL x).length : Int) == (x.length : Int)) = true := by simp [h]
      rw [decide_eq_true h] at HCM
      clear h
      go_enter Try.func34, Try.ntmps34
      go_wp2_with fail
      generalize w.alloc (.cells #[.slice (some ⟨G, O, none⟩) x.length C] 24) = w0 at *
      go_region_held3 (fun w' => w'.cell? ⟨w.heap.size, 0, none⟩ = some (.slice (some ⟨G, O, none⟩) x.length C)) (go_keep)
        (first
          | (go_at_call 59; refine (l05Is_q _ x _ _ true HG (by exact c0) (by exact hx) hm hr).mono ?_; rintro e w1 ⟨rfl, hd1⟩; have c1 := (hd1.below.cell (p := ⟨w.heap.size, 0, none⟩) hlt).trans c0; have hlt1 := Nat.lt_of_lt_of_le hlt hd1.below.size; have hb1 : Below w.heap.size w w1 := (by first | exact hb.trans (hd1.below.mono (Nat.le_of_lt hlt)) | exact hb.drew.trans (hd1.below.mono (Nat.le_of_lt hlt))))
          | (go_at_call 69; refine (l05Centre_any x _ _ hs (HSQ.out.later (by first | exact hb1 | exact hb1.drew)) (by exact c1)).mono ?_; rintro e w2 ⟨v2, rfl, ho, hb2⟩; obtain ⟨oa, oc, rfl⟩ := ho.slice; have c2 := (hb2.cell (p := ⟨w.heap.size, 0, none⟩) hlt1).trans c1; have hb3 : Below w.heap.size w w2 := (by first | exact hb1.trans (hb2.mono (Nat.le_of_lt hlt1)) | exact hb1.drew.trans (hb2.mono (Nat.le_of_lt hlt1)))))
      all_goals
        go_wp2_with fail
        go_ret
        exact ⟨ret_bool (by rw [HCM.out]; rfl), hb3⟩
    · have b1 : (((cenL x).length : Int) == (x.length : Int)) = false := by simp; omega
      rw [decide_eq_false h] at HCM
      clear h
      go_enter Try.func34, Try.ntmps34
      go_wp2_with fail
      generalize w.alloc (.cells #[.slice (some ⟨G, O, none⟩) x.length C] 24) = w0 at *
      go_region_held3 (fun w' => w'.cell? ⟨w.heap.size, 0, none⟩ = some (.slice (some ⟨G, O, none⟩) x.length C)) (go_keep)
        (first
          | (go_at_call 59; refine (l05Is_q _ x _ _ true HG (by exact c0) (by exact hx) hm hr).mono ?_; rintro e w1 ⟨rfl, hd1⟩; have c1 := (hd1.below.cell (p := ⟨w.heap.size, 0, none⟩) hlt).trans c0; have hlt1 := Nat.lt_of_lt_of_le hlt hd1.below.size; have hb1 : Below w.heap.size w w1 := (by first | exact hb.trans (hd1.below.mono (Nat.le_of_lt hlt)) | exact hb.drew.trans (hd1.below.mono (Nat.le_of_lt hlt))))
          | (go_at_call 69; refine (l05Centre_any x _ _ hs (HSQ.out.later (by first | exact hb1 | exact hb1.drew)) (by exact c1)).mono ?_; rintro e w2 ⟨v2, rfl, ho, hb2⟩; obtain ⟨oa, oc, rfl⟩ := ho.slice; have c2 := (hb2.cell (p := ⟨w.heap.size, 0, none⟩) hlt1).trans c1; have hb3 : Below w.heap.size w w2 := (by first | exact hb1.trans (hb2.mono (Nat.le_of_lt hlt1)) | exact hb1.drew.trans (hb2.mono (Nat.le_of_lt hlt1)))))
      all_goals
        go_wp2_with fail
        go_ret
        exact ⟨ret_bool (by rw [HCM.out]; rfl), hb3⟩
  · simp only [Bool.not_eq_true] at hg
    rw [hg] at HCM
    have HG := Lib.hid hg
    clear hg
    obtain ⟨a, c, rfl⟩ := hx.slice
    have hb : Below w.heap.size w (w.alloc (.cells #[.slice a x.length c] 24)) := (Below.refl _ _).alloc (Nat.le_refl _) _
    have c0 : (w.alloc (.cells #[.slice a x.length c] 24)).cell? ⟨w.heap.size, 0, none⟩ = some (.slice a x.length c) := World.cell?_alloc_at _ _ _ _ rfl
    have hlt : w.heap.size < (w.alloc (.cells #[.slice a x.length c] 24)).heap.size := by simp
    replace hx := hx.later hb
    go_enter Try.func34, Try.ntmps34
    go_wp2_with fail
    generalize w.alloc (.cells #[.slice a x.length c] 24) = w0 at *
    go_quiet ((go_at_call 59; exact quiet_drw (l05Is_q _ x _ _ false HG (by exact c0) (hx.drewN _) hm hr)))
    go_wp2_with fail
    go_ret
    exact ⟨ret_bool (by rw [HCM.out]; rfl), below_drewN hb _⟩
end Go.Proofs.Ytgedeifajmoljaa
