/- The law of FamiliesOf, for all arguments. -/
import Derived.Test.YtdkheeocglfogaaFamS
import Derived.Test.YtdkheeocglfogaaMark
import Derived.Test.YtdkheeocglfogaaLikeL
import Derived.Test.YtdkheeocglfogaaAre
namespace Go.Proofs.Ytdkheeocglfogaa
open Go.RowKit

theorem vl_facts {s : ByteArray} {l : List ByteArray} (h : vlB s l = true) : (1 ≤ s.size ∧ s.size ≤ 18) ∧ Dis s ∧ (∀ i, i < l.length → (sAt l i).size = 2) ∧ l.length ≤ 40 := by
  unfold vlB at h
  rw [Bool.and_eq_true, Bool.and_eq_true, Bool.and_eq_true] at h
  obtain ⟨⟨h1, h2⟩, h3, h4⟩ := h
  unfold inB at h1
  simp only [Bool.and_eq_true, decide_eq_true_eq] at h1 h3
  refine ⟨by omega, dis_of h2, fun i hi => ?_, h3⟩
  unfold pairsB at h4
  rw [List.all_eq_true] at h4
  have h5 := h4 i (List.mem_range.2 hi)
  unfold pairAt pairOk at h5
  simp only [Bool.and_eq_true, decide_eq_true_eq] at h5
  exact h5.1.1
noncomputable def fmL (s : ByteArray) (l : List ByteArray) : List ByteArray := if vlB s l then fams s (lk s l) s.size else []
def FmPost (s : ByteArray) (l : List ByteArray) (w : World) (e : Ending) (w' : World) : Prop := ∃ v, e = .returned (.tuple #[v, .bool (vlB s l)]) ∧ OS w.heap.size w' v (fmL s l) ∧ Below w.heap.size w w'
theorem FmPost.no {s : ByteArray} {l : List ByteArray} {w w' : World} (h : vlB s l = false) (hb : Below w.heap.size w w') : FmPost s l w (.returned (.tuple #[.slice none 0 0, .bool false])) w' :=
  ⟨_, by rw [h], by unfold fmL; rw [h]; exact OV.nil _ _ _, hb⟩
theorem FmPost.yes {s : ByteArray} {l : List ByteArray} {w w' : World} {v : Value} (h : vlB s l = true) (ho : OS w.heap.size w' v (fams s (lk s l) s.size)) (hb : Below w.heap.size w w') : FmPost s l w (.returned (.tuple #[v, .bool true])) w' :=
  ⟨_, by rw [h], by unfold fmL; rw [h]; exact ho, hb⟩
set_option maxHeartbeats 1000000 in
theorem implFm_any (s : ByteArray) (v : Value) (l : List ByteArray) (w : World) (hx : RS w v l) (hs : s.size ≤ 1048576) (hm : l.length ≤ 1048576) :
    Calls Try.prog 24 #[.agg #[.string s, v]] w (FmPost s l w) := by
  obtain ⟨a, c, rfl⟩ := hx.slice
  have hb : Below w.heap.size w (w.alloc (.cells #[.string s, .slice a l.length c] 27)) := (Below.refl _ _).alloc (Nat.le_refl _) _
  have hbx : LX w.heap.size s (.slice a l.length c) (w.alloc (.cells #[.string s, .slice a l.length c] 27)) := ⟨World.cell?_alloc_at _ _ _ _ rfl, World.cell?_alloc_at _ _ _ _ rfl⟩
  have hx1 := hx.later hb
  have c0 := hbx.c0
  have c1 := hbx.c1
  cases hv : vlB s l
  · have HV := Lib.hid hv
    have HC : Hid (∀ wx, RS wx (.slice a l.length c) l → Calls Try.prog 13 #[.agg #[.string s, .slice a l.length c]] wx fun e w' => e = .returned (.bool false) ∧ Below wx.heap.size wx w') := fun wx h => by
      rw [← HV.out]; exact implVL_any s _ l wx h hs hm
    clear hv
    go_enter Try.func24, Try.ntmps24
    go_wp2_with fail
    generalize w.alloc (.cells #[.string s, .slice a l.length c] 27) = w0 at *
    refine (HC.out _ hx1).mono ?_
    rintro e w1 ⟨rfl, hb1⟩
    go_wp2_with fail
    go_ret2
    exact .no HV.out (hb.trans (hb1.mono hb.size))
  · have HV := Lib.hid hv
    obtain ⟨hs1, hd, h2, _⟩ := vl_facts hv
    have HD := Lib.hid hd
    have H2 := Lib.hid h2
    have HC : Hid (∀ wx, RS wx (.slice a l.length c) l → Calls Try.prog 13 #[.agg #[.string s, .slice a l.length c]] wx fun e w' => e = .returned (.bool true) ∧ Below wx.heap.size wx w') := fun wx h => by
      rw [← HV.out]; exact implVL_any s _ l wx h hs hm
    clear hv hd h2
    go_enter Try.func24, Try.ntmps24
    go_wp2_with fail
    generalize w.alloc (.cells #[.string s, .slice a l.length c] 27) = w0 at *
    refine (HC.out _ hx1).mono ?_
    rintro e w1 ⟨rfl, hb1⟩
    replace hbx := hbx.later hb1
    replace hx1 := hx1.later hb1
    replace hb := hb.trans (hb1.mono hb.size)
    clear c0 c1
    go_wp2_with fail
    refine (families_any _ s _ l _ hbx hx1 hm hs1.2 ).mono ?_
    rintro e w2 ⟨v2, rfl, ho, hb2⟩
    go_wp2_with fail
    go_ret2
    exact .yes HV.out (OS.mono ho hb.size) (hb.trans (hb2.mono hb.size))
set_option maxHeartbeats 1000000 in
theorem specFm_any (s : ByteArray) (v : Value) (l : List ByteArray) (w : World) (hx : RS w v l) (hs : s.size ≤ 1048576) (hm : l.length ≤ 1048576) :
    Calls Try.prog 23 #[.agg #[.string s, v]] w (FmPost s l w) := by
  obtain ⟨a, c, rfl⟩ := hx.slice
  have hb : Below w.heap.size w (w.alloc (.cells #[.string s, .slice a l.length c] 27)) := (Below.refl _ _).alloc (Nat.le_refl _) _
  have hbx : LX w.heap.size s (.slice a l.length c) (w.alloc (.cells #[.string s, .slice a l.length c] 27)) := ⟨World.cell?_alloc_at _ _ _ _ rfl, World.cell?_alloc_at _ _ _ _ rfl⟩
  have hx1 := hx.later hb
  have HC := Lib.hid (l07Is_any s _ l _ _ hbx hx1 hs hm)
  cases hv : vlB s l
  · have HV := Lib.hid hv
    rw [hv] at HC
    clear hv
    go_enter Try.func23, Try.ntmps23
    go_wp2_with fail
    refine (HC.out).mono ?_
    rintro e w1 ⟨rfl, hd⟩
    have hb1 := hd.below
    go_wp2_with fail
    go_ret2
    exact .no HV.out (hb.trans (hb1.mono hb.size))
  · have HV := Lib.hid hv
    obtain ⟨hs1, hd, h2, _⟩ := vl_facts hv
    have HD := Lib.hid hd
    have H2 := Lib.hid h2
    rw [hv] at HC
    clear hv hd h2
    go_enter Try.func23, Try.ntmps23
    go_wp2_with fail
    refine (HC.out).mono ?_
    rintro e w1 ⟨rfl, hd⟩
    have hb1 := hd.below
    replace hbx := hbx.later hb1
    replace hx1 := hx1.later hb1
    replace hb := hb.trans (hb1.mono hb.size)
    clear hd HC
    go_wp2_with fail
    refine (l07Families_any _ s _ l _ hbx hx1 hm hs1.2 HD H2).mono ?_
    rintro e w2 ⟨v2, rfl, ho, hb2⟩
    go_wp2_with fail
    go_ret2
    exact .yes HV.out (OS.mono ho hb.size) (hb.trans (hb2.mono hb.size))

theorem fmL_len {s : ByteArray} {l : List ByteArray} (h : s.size ≤ 1048576) : (fmL s l).length ≤ 1048576 := by
  unfold fmL; split
  · have := fams_len s (lk s l) s.size; omega
  · simp
/-- Not of the blocks that change. -/
theorem os_away {B : Nat} {w w' : World} {u v : Value} {l : List ByteArray} (h : OS B w u l) (hc : Chg (vb v) w w') (hd : ∀ k, u.ownBlock = some k → ∀ j, v.ownBlock = some j → k ≠ j) : OS B w' u l :=
  OS.chg h hc fun k hk hk2 => hd k (mem_vb.1 hk) k (mem_vb.1 hk2) rfl
set_option maxRecDepth 100000 in
set_option maxHeartbeats 4000000 in
theorem lawFamiliesOf_any (s : ByteArray) (v : Value) (l : List ByteArray) (w : World) (h1 : s.size ≤ maxLen) (hx : RSM w v l) :
    Calls Try.prog 8 #[.agg #[.string s, v]] w fun e w' => e = .returned (.bool true) ∧ Below w.heap.size w w' := by
  obtain ⟨hx, hml, hzl⟩ := hx
  obtain ⟨a, c, rfl⟩ := hx.slice
  have hb : Below w.heap.size w (w.alloc (.cells #[.string s, .slice a l.length c] 24)) := (Below.refl _ _).alloc (Nat.le_refl _) _
  have hbx : LX w.heap.size s (.slice a l.length c) (w.alloc (.cells #[.string s, .slice a l.length c] 24)) := ⟨World.cell?_alloc_at _ _ _ _ rfl, World.cell?_alloc_at _ _ _ _ rfl⟩
  replace hx := hx.later hb
  have c0 := hbx.c0
  have c1 := hbx.c1
  by_cases hs : s.size + (l.length + szS l) ≤ 1048576
  case neg =>
    go_enter Try.func8, Try.ntmps8
    go_wp2_with fail
    generalize w.alloc (.cells #[.string s, .slice a l.length c] 24) = w0 at *
    refine (szLikeness_no s _ l _ hx h1 hml hzl hs).mono ?_
    rintro e w1 ⟨rfl, hb1⟩
    go_wp2_with fail
    go_ret
    exact ⟨rfl, hb.trans (hb1.mono hb.size)⟩
  have hm : l.length ≤ 1048576 := by omega
  have hs1 : s.size ≤ 1048576 := by omega
  have hfl := fmL_len (s := s) (l := l) hs1
  have HI : Hid (∀ b, vlB s l = b → ∀ w1 v1, RS w1 v1 l → Calls Try.prog 24 #[.agg #[.string s, v1]] w1 fun e w' => ∃ u, e = .returned (.tuple #[u, .bool b]) ∧ OS w1.heap.size w' u (fmL s l) ∧ Below w1.heap.size w1 w') := fun b e w1 v1 h => by
    rw [← e]; exact implFm_any s v1 l w1 h hs1 hm
  have HP : Hid (∀ b, vlB s l = b → ∀ w1 v1, RS w1 v1 l → Calls Try.prog 23 #[.agg #[.string s, v1]] w1 fun e w' => ∃ u, e = .returned (.tuple #[u, .bool b]) ∧ OS w1.heap.size w' u (fmL s l) ∧ Below w1.heap.size w1 w') := fun b e w1 v1 h => by
    rw [← e]; exact specFm_any s v1 l w1 h hs1 hm
  replace HI := Lib.hid (HI.out _ rfl)
  replace HP := Lib.hid (HP.out _ rfl)
  generalize vlB s l = rb at *
  generalize fmL s l = fm at *
  have HS := Lib.hid hs
  clear hs hzl hml h1
  go_enter Try.func8, Try.ntmps8
  go_wp2_with fail
  generalize w.alloc (.cells #[.string s, .slice a l.length c] 24) = w0 at *
  have HB0 := Lib.hid hb
  have HX0 := Lib.hid hx
  have HBX0 := Lib.hid hbx
  have hz0 := hb.size
  replace hb := Below.refl w0.heap.size w0
  clear c0 c1
  refine (szLikeness_yes s _ l _ hx HS.out).mono ?_
  rintro e w1 ⟨n, rfl, hn, hb1⟩
  replace hbx := hbx.later hb1
  replace hx := hx.later hb1
  try replace hbX := hbX.later hb1
  try replace ow := OS.later ow hb1
  try replace og := OS.later og hb1
  try replace ox := OS.later ox hb1
  replace hb := hb.trans (hb1.mono hb.size)
  clear hb1
  have c0 := hbx.c0
  have c1 := hbx.c1
  go_wp2_with fail
  refine (toLikeness_any s _ l _ hx hm).mono ?_
  rintro e w2 ⟨u2, rfl, o2, hb1⟩
  replace hbx := hbx.later hb1
  replace hx := hx.later hb1
  try replace hbX := hbX.later hb1
  try replace ow := OS.later ow hb1
  try replace og := OS.later og hb1
  try replace ox := OS.later ox hb1
  replace hb := hb.trans (hb1.mono hb.size)
  clear hb1
  have c0 := hbx.c0
  have c1 := hbx.c1
  go_wp2_with fail
  refine (HP.out _ _ o2.read).mono ?_
  rintro e w3 ⟨vw, rfl, ow, hb1⟩
  have hwl : Hid (∀ k, vw.ownBlock = some k → k < w3.heap.size) := fun k hk => (OV.lt ow k hk).2
  have hz3 := (hb.trans (hb1.mono hb.size)).size
  obtain ⟨wa, wc, rfl⟩ := ow.read.slice
  replace hbx := hbx.later hb1
  replace hx := hx.later hb1
  replace hb := hb.trans (hb1.mono hb.size)
  clear o2 hb1
  have c0 := hbx.c0
  have c1 := hbx.c1
  go_wp2_with fail
  refine (toLikeness_any s _ l _ hx hm).mono ?_
  rintro e w4 ⟨u4, rfl, ox, hb1⟩
  have hxl : Hid (∀ k, u4.ownBlock = some k → w3.heap.size ≤ k ∧ k < w4.heap.size) := fun k hk => OV.lt ox k hk
  have hz4 := hb1.size
  replace hbx := hbx.later hb1
  replace hx := hx.later hb1
  replace ow := OS.later ow hb1
  replace hb := hb.trans (hb1.mono hb.size)
  clear hb1
  have c0 := hbx.c0
  have c1 := hbx.c1
  obtain ⟨ua, uc, rfl⟩ := ox.read.slice
  go_wp2_with fail
  have hbX : LX w4.heap.size s (.slice ua l.length uc) (w4.alloc (.cells #[.string s, .slice ua l.length uc] 27)) := ⟨World.cell?_alloc_at _ _ _ _ rfl, World.cell?_alloc_at _ _ _ _ rfl⟩
  have hb1 : Below w4.heap.size w4 (w4.alloc (.cells #[.string s, .slice ua l.length uc] 27)) := (Below.refl _ _).alloc (Nat.le_refl _) _
  have hz5 := hb1.size
  replace hbx := hbx.later hb1
  replace hx := hx.later hb1
  replace ow := OS.later ow hb1
  replace ox := OS.later ox hb1
  replace hb := hb.trans (hb1.mono hb.size)
  clear hb1
  generalize w4.alloc (.cells #[.string s, .slice ua l.length uc] 27) = w5 at *
  generalize hXe : w4.heap.size = X at *
  refine (HI.out _ _ ox.read).mono ?_
  rintro e w6 ⟨vg, rfl, og, hb1⟩
  have hgl : Hid (∀ k, vg.ownBlock = some k → w5.heap.size ≤ k) := fun k hk => (OV.lt og k hk).1
  obtain ⟨ga, gc, rfl⟩ := og.read.slice
  replace hbx := hbx.later hb1
  replace hbX := hbX.later hb1
  replace hx := hx.later hb1
  replace ow := OS.later ow hb1
  replace ox := OS.later ox hb1
  replace hb := hb.trans (hb1.mono hb.size)
  clear hb1
  go_wp2_with fail
  refine (eqStringS_yes _ _ fm _ og.read ow.read (by omega)).mono ?_
  rintro e w7 ⟨rfl, hb1⟩
  replace hbx := hbx.later hb1
  replace hx := hx.later hb1
  try replace hbX := hbX.later hb1
  try replace ow := OS.later ow hb1
  try replace og := OS.later og hb1
  try replace ox := OS.later ox hb1
  replace hb := hb.trans (hb1.mono hb.size)
  clear hb1
  have c0 := hbx.c0
  have c1 := hbx.c1
  have d0 := hbX.c0
  have d1 := hbX.c1
  go_wp2_with fail
  have hb1 : Below w7.heap.size w7 w7.drew := (Below.refl _ _).drew
  replace hbx := hbx.later hb1
  replace hx := hx.later hb1
  try replace hbX := hbX.later hb1
  try replace ow := OS.later ow hb1
  try replace og := OS.later og hb1
  try replace ox := OS.later ox hb1
  replace hb := hb.trans (hb1.mono hb.size)
  clear hb1
  go_region_held3 (fun w' => (w'.cell? ⟨X, 0, none⟩ = some (.string s) ∧ w'.cell? ⟨X, 1, none⟩ = some (.slice ua l.length uc)) ∧ w'.cell? ⟨w.heap.size, 0, none⟩ = some (.string s) ∧ w'.cell? ⟨w.heap.size, 1, none⟩ = some (.slice a l.length c)) (exact ⟨⟨hbX.c0, hbX.c1⟩, hbx.c0, hbx.c1⟩)
    (first
      | (go_at_call 12; refine (toLikeness_any s _ l _ hx hm).mono ?_; rintro e wf ⟨u7, rfl, o7, hb1⟩; replace hbX := hbX.later hb1; replace hbx := hbx.later hb1; replace hx := hx.later hb1; replace ox := OS.later ox hb1; replace ow := OS.later ow hb1; replace og := OS.later og hb1; replace hb := hb.trans (hb1.mono hb.size))
      | (go_at_call 14; refine (eqLikeness_yes s _ _ l _ ox.read o7.read hm).mono ?_; rintro e w8 ⟨rfl, hb2⟩; replace hbX := hbX.later hb2; replace hbx := hbx.later hb2; replace hx := hx.later hb2; replace ox := OS.later ox hb2; replace ow := OS.later ow hb2; replace og := OS.later og hb2; replace hb := hb.trans (hb2.mono hb.size)))
  clear c0 c1 d0 d1 hb1 hb2
  have d0 := hbX.c0
  have d1 := hbX.c1
  go_wp2_with fail
  clear d0 d1
  refine (markLikeness_any s _ l 1 _ _ ox (by omega)).mono ?_
  rintro e w9 ⟨rfl, hch⟩
  have hz9 := hch.size
  have hzA := hb.size
  replace ow := os_away ow hch fun k hk j hj => by
    have h1 := hwl.out k hk
    have h2 := hxl.out j hj
    omega
  replace og := os_away og hch fun k hk j hj => by
    have h1 := hgl.out k hk
    have h2 := hxl.out j hj
    omega
  have hb9 : Below w0.heap.size w0 w9 := hch.below hb (fun k hk => by have := hxl.out k (mem_vb.1 hk); omega) (by omega)
  clear hb hx hbx hbX ox hch
  have hb := hb9
  clear hb9
  go_wp2_with fail
  refine (eqStringS_yes _ _ fm _ og.read ow.read (by omega)).mono ?_
  rintro e wa1 ⟨rfl, hb1⟩
  replace ow := OS.later ow hb1
  replace og := OS.later og hb1
  replace hb := hb.trans (hb1.mono hb.size)
  clear hb1
  go_wp2_with fail
  refine (markStringS_any _ fm 1 _ _ og (by omega)).mono ?_
  rintro e wb1 ⟨rfl, og2, hch⟩
  replace ow := os_away ow hch fun k hk j hj => by
    have h1 := hwl.out k hk
    have h2 := hgl.out j hj
    omega
  have hb9 : Below w0.heap.size w0 wb1 := hch.below hb (fun k hk => by have := hgl.out k (mem_vb.1 hk); omega) hb.size
  clear hb og hch
  have hb := hb9
  clear hb9
  have hml := mtL_len 1 fm.length
  go_wp2_with fail
  have og3 := og2.read
  rw [← hml] at og3
  refine (heldStringS_yes _ fm.length 1 _ (by rw [← hml]; exact og3) (by omega)).mono ?_
  rintro e wc1 ⟨rfl, hb1⟩
  replace ow := OS.later ow hb1
  replace og3 := og3.later hb1
  replace hb := hb.trans (hb1.mono hb.size)
  clear hb1 og2
  have hbx := HBX0.out.later hb
  have hx := HX0.out.later hb
  have c0 := hbx.c0
  have c1 := hbx.c1
  go_wp2_with fail
  clear c0 c1
  refine (toLikeness_any s _ l _ hx hm).mono ?_
  rintro e wd1 ⟨ud, rfl, od, hb1⟩
  replace ow := OS.later ow hb1
  replace og3 := og3.later hb1
  replace hb := hb.trans (hb1.mono hb.size)
  clear hb1 hx hbx
  go_wp2_with fail
  refine (HI.out _ _ od.read).mono ?_
  rintro e we1 ⟨vh, rfl, oh, hb1⟩
  obtain ⟨ha, hc, rfl⟩ := oh.read.slice
  replace ow := OS.later ow hb1
  replace og3 := og3.later hb1
  replace hb := hb.trans (hb1.mono hb.size)
  clear hb1 od
  go_wp2_with fail
  refine (eqStringS_yes _ _ fm _ oh.read ow.read (by omega)).mono ?_
  rintro e wf1 ⟨rfl, hb1⟩
  replace og3 := og3.later hb1
  replace hb := hb.trans (hb1.mono hb.size)
  clear hb1 oh ow
  go_wp2_with fail
  refine (heldStringS_yes _ fm.length 1 _ (by rw [← hml]; exact og3) (by omega)).mono ?_
  rintro e wg1 ⟨rfl, hb1⟩
  replace hb := hb.trans (hb1.mono hb.size)
  go_wp2_with fail
  go_ret
  exact ⟨rfl, HB0.out.trans (hb.mono hz0)⟩
end Go.Proofs.Ytdkheeocglfogaa
