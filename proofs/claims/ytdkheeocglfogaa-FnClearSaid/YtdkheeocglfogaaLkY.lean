/- Drawn symbols of a likeness: B10Symbols. -/
import Derived.Test.YtdkheeocglfogaaLkD
import Derived.Test.YtdkheeocglfogaaCs
namespace Go.Proofs.Ytdkheeocglfogaa
open Go.RowKit

def SyPost (s : ByteArray) (w : World) (e : Ending) (w' : World) : Prop := ∃ t, e = .returned (.string t) ∧ Hid (∀ c ∈ bz t, c ∈ bz s) ∧ t.size ≤ 8 ∧ Below w.heap.size w w'
set_option maxHeartbeats 4000000 in
theorem b10Sy_any (v : Value) (cs : List Int) (s : ByteArray) (pv : Value) (w : World) (hx : RK .u8 w v cs) (hw : ∀ x ∈ cs, (Lit.int .u8 x).wf = true) (hm : cs.length ≤ 1048576) (hs : 1 ≤ s.size ∧ s.size ≤ 18) (l : List ByteArray) (hp : RS w pv l) :
    Calls Try.prog 31 #[v, .agg #[.string s, pv]] w (SyPost s w) := by
  obtain ⟨pa, pc, rfl⟩ := hp.slice
  have hb0 : Below w.heap.size w (w.alloc (.cells #[.string s, .slice pa l.length pc] 27)) := (Below.refl _ _).alloc (Nat.le_refl _) _
  have c0 : (w.alloc (.cells #[.string s, .slice pa l.length pc] 27)).cell? ⟨w.heap.size, 0, none⟩ = some (.string s) := World.cell?_alloc_at _ _ _ _ rfl
  have hsz0 : w.heap.size < (w.alloc (.cells #[.string s, .slice pa l.length pc] 27)).heap.size := by simp
  go_enter Try.func31, Try.ntmps31
  go_wp2_with fail
  have hx1 := hx.later hb0
  generalize w.alloc (.cells #[.string s, .slice pa l.length pc] 27) = w1 at *
  refine (from_any v cs w1 hx1 hw hm).mono ?_
  rintro e w2 ⟨rfl, hsr, hb2⟩
  replace c0 := (cell_keep (o := 0) (hb2.block w.heap.size hsz0)).trans c0
  replace hb0 := hb0.trans (hb2.mono hb0.size)
  have hpS := hsr.lt
  have ho : OB w2.heap.size (w2.alloc (.cells #[] 5)) (.slice (some ⟨w2.heap.size, 0, none⟩) 0 0) [] := OK.made _ _ _ (Nat.le_refl _)
  have hbA : Below w2.heap.size w2 (w2.alloc (.cells #[] 5)) := (Below.refl _ _).alloc (Nat.le_refl _) _
  replace hsr := hsr.later hbA
  replace c0 := (cell_keep (o := 0) (hbA.block w.heap.size (by omega))).trans c0
  have hzA := hbA.size
  replace hb0 := hb0.trans (hbA.mono hb0.size)
  clear hbA hb2 hx hx1 hp
  go_wp2_with fail
  generalize w2.alloc (.cells #[] 5) = w3 at *
  generalize Value.slice (some ⟨w2.heap.size, 0, none⟩) 0 0 = v0 at *
  refine (pick_any _ 0 9 _ hsr (by omega) (by omega)).mono ?_
  rintro e w4 ⟨z, rfl, hz, hs4, hc⟩
  obtain ⟨n, rfl⟩ := Int.eq_ofNat_of_zero_le hz.1
  replace c0 := (cell_keep (o := 0) (hc.block w.heap.size (by omega) (by simp; omega))).trans c0
  replace hb0 := hc.below hb0 (by simp; omega) hb0.size
  have ho4 := OK.chg ho hc (fun k hk hm => by have := OK.vb ho k hk; simp at hm; omega)
  have hz4 := hc.size
  obtain ⟨P, hP⟩ : ∃ P, P = w1.heap.size := ⟨_, rfl⟩
  rw [← hP] at hs4 ⊢
  have hPw : w.heap.size < P := by omega
  have hPS : P < w2.heap.size := by omega
  have hn8 : n ≤ 8 := by omega
  clear ho hsr hc hP hz
  go_wp2_with fail
  go_loopw [6, 7] (fun ov nv wr => ∃ (k : Nat) (xs : List Int), nv = .int .i64 k ∧ OB w2.heap.size wr ov xs ∧ Hid (∀ c ∈ xs, c ∈ bz s) ∧ xs.length + k ≤ 8 ∧ k ≤ 8 ∧ Src P (1 + (8 - k)) wr ∧ w2.heap.size ≤ wr.heap.size ∧ Below w.heap.size w wr ∧ wr.cell? ⟨w.heap.size, 0, none⟩ = some (.string s)) (fun _ nv _ => (intOf nv).toNat)
  case atStart => exact ⟨n, [], rfl, ho4, fun z hz => by simp at hz, by simp; omega, by omega, hs4.mono (by omega), by omega, hb0, c0⟩
  case round =>
    clear hs4 ho4 hb0 c0 hz4
    obtain ⟨k, xs, rfl, ho, HX, hlen, hk8, hsr, hzr, hb, c0⟩ := hrel
    by_cases hk : 0 < k
    · have hkI : (0 : Int) < (k : Int) := by omega
      obtain ⟨oa, oc, rfl⟩ := ho.slice
      have hsd := hsr.later (Below.refl _ _).drew
      have hsI : (1 : Int) ≤ (s.size : Int) := by omega
      have hll : (xs.map (Value.int .u8)).length ≤ 1099511627776 := by rw [List.length_map]; omega
      go_wp2_with fail
      refine wp_region_held_drew (S := fun w' => w'.cell? ⟨w.heap.size, 0, none⟩ = some (.string s)) (by kernel_rfl) c0 (fun hHeld => ?_)
      have c0d : wr.drew.cell? ⟨w.heap.size, 0, none⟩ = some (.string s) := c0
      refine wpAnyH_take (i := 0) (oi := ⟨some 17, _, _, _, _, _⟩) (v := ?va0) rfl (by kernel_rfl) (by kernel_rfl) (by kernel_rfl) (fun _ _ _ h => h) (Or.inl ⟨by rfl, ?ya0⟩) (by assumption) ?ra0
      case ya0 => (intro w hSw; (try dsimp only at hSw); go_simp; all_goals (with_reducible rfl))
      try simp only [Act.put, List.setIfInBounds_toArray, List.set_cons_zero, List.set_cons_succ]
      refine wpAnyH_take (i := 1) (oi := ⟨some 18, _, _, _, _, _⟩) (v := ?va1) rfl (by kernel_rfl) (by kernel_rfl) (by kernel_rfl) (fun _ _ _ h => h) (Or.inl ⟨by rfl, ?ya1⟩) (by assumption) ?ra1
      case ya1 => (intro w hSw; (try dsimp only at hSw); go_simp; all_goals (with_reducible rfl))
      try simp only [Act.put, List.setIfInBounds_toArray, List.set_cons_zero, List.set_cons_succ]
      refine wpAnyH_take (i := 2) (oi := ⟨some 19, _, _, _, _, _⟩) (v := ?va2) rfl (by kernel_rfl) (by kernel_rfl) (by kernel_rfl) (fun _ _ _ h => h) (Or.inl ⟨by rfl, ?ya2⟩) (by assumption) ?ra2
      case ya2 => (intro w hSw; (try dsimp only at hSw); go_simp; all_goals (with_reducible rfl))
      try simp only [Act.put, List.setIfInBounds_toArray, List.set_cons_zero, List.set_cons_succ]
      refine wpAnyH_take (i := 3) (oi := ⟨some 20, _, _, _, _, _⟩) (v := ?va3) rfl (by kernel_rfl) (by kernel_rfl) (by kernel_rfl) (fun _ _ _ h => h) (Or.inl ⟨by rfl, ?ya3⟩) (by assumption) ?ra3
      case ya3 => (intro w hSw; (try dsimp only at hSw); go_simp; all_goals (with_reducible rfl))
      try simp only [Act.put, List.setIfInBounds_toArray, List.set_cons_zero, List.set_cons_succ]
      refine wpAnyH_take (i := 4) (oi := ⟨some 21, _, _, _, _, _⟩) (v := ?va4) rfl (by kernel_rfl) (by kernel_rfl) (by kernel_rfl) (fun _ _ _ h => h) (Or.inl ⟨by rfl, ?ya4⟩) (by assumption) ?ra4
      case ya4 => (intro w hSw; (try dsimp only at hSw); go_simp; all_goals (with_reducible rfl))
      try simp only [Act.put, List.setIfInBounds_toArray, List.set_cons_zero, List.set_cons_succ]
      refine wpAnyH_take (i := 5) (oi := ⟨some 22, _, _, _, _, _⟩) (v := ?va5) rfl (by kernel_rfl) (by kernel_rfl) (by kernel_rfl) (fun _ _ _ h => h) (Or.inl ⟨by rfl, ?ya5⟩) (by assumption) ?ra5
      case ya5 => (intro w hSw; (try dsimp only at hSw); go_simp; all_goals (with_reducible rfl))
      try simp only [Act.put, List.setIfInBounds_toArray, List.set_cons_zero, List.set_cons_succ]
      refine wpAnyH_take (i := 6) (oi := ⟨some 23, _, _, _, _, _⟩) (v := ?va6) rfl (by kernel_rfl) (by kernel_rfl) (by kernel_rfl) (fun _ _ _ h => h) (Or.inl ⟨by rfl, ?ya6⟩) (by assumption) ?ra6
      case ya6 => (intro w hSw; (try dsimp only at hSw); go_simp; all_goals (with_reducible rfl))
      try simp only [Act.put, List.setIfInBounds_toArray, List.set_cons_zero, List.set_cons_succ]
      refine wpAnyH_ready (rs := [7]) (by kernel_rfl) (by simp) ?_
      refine AllReadyH.cons rfl (fun K hK => ?_) AllReadyH.nil
      go_simp
      go_at_call 58
      refine (pick_any P _ s.size _ hsd (by omega) (by omega)).mono ?_
      rintro e w8 ⟨z, rfl, hz, hs8, hc8⟩
      obtain ⟨q, rfl⟩ := Int.eq_ofNat_of_zero_le hz.1
      have hqI : (q : Int) < (s.size : Int) := hz.2
      have hq : q < s.size := by omega
      obtain ⟨x, hx⟩ : ∃ x, s[q] = x := ⟨_, rfl⟩
      have hz8 := hc8.size
      have c8 := (cell_keep (o := 0) (hc8.block w.heap.size (by simp; omega) (by simp; omega))).trans c0
      have ho8 := OK.chg (OK.drew ho) hc8 (fun k hk hm => by have := OK.vb ho k hk; simp at hm; omega)
      refine hK.out _ _ ?_ (fun hHeld => ?_)
      · (try dsimp only)
        go_keep
      clear hK K
      try simp only [Act.put, List.setIfInBounds_toArray, List.set_cons_zero, List.set_cons_succ]
      refine wpAnyH_take (i := 8) (oi := ⟨some 25, _, _, _, _, _⟩) (v := ?vb8) rfl (by kernel_rfl) (by kernel_rfl) (by kernel_rfl) (fun _ _ _ h => h) (Or.inl ⟨by rfl, ?yb8⟩) (by assumption) ?rb8
      case yb8 => (intro w hSw; (try dsimp only at hSw); go_simp; all_goals (with_reducible rfl))
      try simp only [Act.put, List.setIfInBounds_toArray, List.set_cons_zero, List.set_cons_succ]
      refine wpAnyH_ready (rs := [9]) (by kernel_rfl) (by simp) ?_
      refine AllReadyH.cons rfl (fun K hK => ?_) AllReadyH.nil
      go_simp
      refine hK.out _ _ ?_ (fun hHeld => ?_)
      · (try dsimp only)
        go_keep
      clear hK K
      try simp only [Act.put, List.setIfInBounds_toArray, List.set_cons_zero, List.set_cons_succ]
      refine wpAnyH_ready (rs := [10]) (by kernel_rfl) (by simp) ?_
      refine AllReadyH.cons rfl (fun K hK => ?_) AllReadyH.nil
      refine step_app Try.underlying43 info_u8 rfl (by omega) (by rfl) _ _ (by rfl) w2.heap.size _ _ (by rfl) (OV.alloc ho8 _) ⟨w8.heap.size, 0, none⟩ 1 (.int .u8 (x.toNat : Int)) (by rfl) (World.cell?_alloc_at _ _ _ _ rfl) rfl hll (by simp at hz8; simp; omega) ?_
      intro v' w9 ho9 hgr
      have hb9 : Below w2.heap.size w8 w9 := own_below ((Below.refl w2.heap.size w8).alloc (by simp at hz8; omega) _) (OV.alloc ho8 _) hgr (by simp at hz8; simp; omega)
      have c10 := (cell_keep (o := 0) (hb9.block w.heap.size (by simp at hz8; omega))).trans c8
      refine hK.out _ _ ?_ (fun hHeld => ?_)
      · (try dsimp only)
        go_keep
      clear hK K
      try simp only [Act.put, List.setIfInBounds_toArray, List.set_cons_zero, List.set_cons_succ]
      refine wpAnyH_take (i := 11) (oi := ⟨some 6, _, _, _, _, _⟩) (v := ?vc11) rfl (by kernel_rfl) (by kernel_rfl) (by kernel_rfl) (fun _ _ _ h => h) (Or.inl ⟨by rfl, ?yc11⟩) (by assumption) ?rc11
      case yc11 => (intro w hSw; (try dsimp only at hSw); go_simp; all_goals (with_reducible rfl))
      try simp only [Act.put, List.setIfInBounds_toArray, List.set_cons_zero, List.set_cons_succ]
      refine wpAnyH_done (by kernel_rfl) ?_ _
      have hs9 := (hs8.below hb9 hPS).mono (show _ ≤ 1 + (8 - (k - 1)) by omega)
      have hb10 : Below w.heap.size w w9 := (hc8.below (hb.trans (Below.refl _ _).drew) (by simp; omega) (by simp; exact hb.size)).trans (hb9.mono (by omega))
      have HX2 : Hid (∀ c ∈ xs ++ [(x.toNat : Int)], c ∈ bz s) := fun c hc => by
        rcases List.mem_append.1 hc with h | h
        · exact HX.out c h
        · rw [List.mem_singleton.1 h, ← hx, ← bAt_get s q hq]
          have := bI_bz s q hq
          have h2 : q < (bz s).length := by rw [bz_len]; exact hq
          unfold bI at this
          rw [← this]; simp [h2]
      have ho10 : OB w2.heap.size w9 v' (xs ++ [(x.toNat : Int)]) := by unfold OB OK; rw [List.map_append]; exact ho9
      have hz9 := hb9.size
      clear ho9 hgr c8 hx hsd
      go_wp2_with fail
      go_roundw
      case rel => exact ⟨k - 1, _, by rw [show ((k - 1 : Nat) : Int) = (k : Int) - 1 by omega], ho10, HX2, by simp; omega, by omega, hs9, by simp at hz8; omega, hb10, c10⟩
      case measure => first | (simp [intOf]; done) | (simp [intOf]; omega)
    · have hkI : ¬ (0 : Int) < (k : Int) := by omega
      have hst := ho.str
      obtain ⟨oa, oc, rfl⟩ := ho.slice
      have HF : Hid (∀ w', w' = wr → SyPost s w (.returned (.string (strOfNums xs))) w') := fun w' e => by
        subst e
        refine ⟨_, rfl, ?_, by rw [str_size]; omega, hb⟩
        intro c hc
        rw [str_bz (fun z hz => by
          have := HX.out z hz
          unfold bz at this
          obtain ⟨u, _, rfl⟩ := List.mem_map.1 this
          have := u.toNat_lt; omega)] at hc
        exact HX.out c hc
      go_wp2_with fail
      go_ret
      exact HF.out _ rfl
end Go.Proofs.Ytdkheeocglfogaa
