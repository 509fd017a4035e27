/- Likenesses in the laws: the helpers, and the law of ValidLikeness. -/
import Derived.Test.YtdkheeocglfogaaLikeS
import Derived.Test.YtdkheeocglfogaaFrameS
namespace Go.Proofs.Ytdkheeocglfogaa
open Go.RowKit

theorem OS.setLow {B : Nat} {w : World} {v : Value} {l : List ByteArray} {p : Addr} (h : OS B w v l) (hp : p.block < B) (u : Value) : OS B (w.setCell p u) v l := by
  refine ⟨h.1, ?_⟩
  rcases h.2 with hn | ⟨g, cap, cur, rfl, hB, hg, r⟩
  · exact .inl hn
  · exact .inr ⟨g, cap, cur, rfl, hB, by rw [heap_setCell_other _ _ _ _ (by omega)]; exact hg, r⟩
theorem specVL_any (s : ByteArray) (v : Value) (l : List ByteArray) (w : World) (hx : RS w v l) (hs : s.size ≤ 1048576) (hm : l.length ≤ 1048576) :
    Calls Try.prog 11 #[.agg #[.string s, v]] w fun e w' => e = .returned (.bool (vlB s l)) ∧ Below w.heap.size w w' := by
  obtain ⟨a, c, rfl⟩ := hx.slice
  have hb : Below w.heap.size w (w.alloc (.cells #[.string s, .slice a l.length c] 27)) := (Below.refl _ _).alloc (Nat.le_refl _) _
  have hbx : LX w.heap.size s (.slice a l.length c) (w.alloc (.cells #[.string s, .slice a l.length c] 27)) := ⟨World.cell?_alloc_at _ _ _ _ rfl, World.cell?_alloc_at _ _ _ _ rfl⟩
  replace hx := hx.later hb
  go_enter Try.func11, Try.ntmps11
  go_wp2_with fail
  refine (l07Is_any s _ l _ _ hbx hx hs hm).mono ?_
  rintro e w1 ⟨rfl, hd⟩
  go_wp2_with fail
  go_ret
  exact ⟨rfl, hb.trans (hd.below.mono hb.size)⟩
set_option maxHeartbeats 8000000 in
theorem toLikeness_any (s : ByteArray) (v : Value) (l : List ByteArray) (w : World) (hx : RS w v l) (hm : l.length ≤ 1048576) :
    Calls Try.prog 12 #[.agg #[.string s, v]] w fun e w' => ∃ u, e = .returned (.agg #[.string s, u]) ∧ OS w.heap.size w' u l ∧ Below w.heap.size w w' := by
  obtain ⟨a, c, rfl⟩ := hx.slice
  have hb1 : Below w.heap.size w (((w.alloc (.cells #[.string s, .slice a l.length c] 24)).alloc (.cells #[.string ⟨#[]⟩, .slice none 0 0] 27)).alloc (.cells #[.string s, .slice none 0 0] 27)) :=
    (((Below.refl _ _).alloc (Nat.le_refl _) _).alloc (by simp) _).alloc (by simp; omega) _
  have hx1 := hx.later hb1
  have hs1 : (((w.alloc (.cells #[.string s, .slice a l.length c] 24)).alloc (.cells #[.string ⟨#[]⟩, .slice none 0 0] 27)).alloc (.cells #[.string s, .slice none 0 0] 27)).heap.size = w.heap.size + 3 := by simp
  have HS1 := Lib.hid hs1
  clear hs1
  go_enter Try.func12, Try.ntmps12
  go_wp2_with fail
  refine (toStringS_any _ l _ hx1 hm).mono ?_
  rintro e w1 ⟨u, rfl, ho, hb2⟩
  obtain ⟨ua, uc, rfl⟩ := ho.read.slice
  have hb3 := Lib.hid (hb1.trans (hb2.mono hb1.size))
  have hsz := hb2.size
  rw [HS1.out] at hsz ho
  have HO := Lib.hid ho
  obtain ⟨hc, hf⟩ := bcell hb2
  have hz : w.heap.size + 1 + 1 < w1.heap.size := by omega
  have hkeep : Hid (∀ u1 u3 u4, OS w.heap.size (((w1.setCell ⟨w.heap.size + 1 + 1, 1, none⟩ u1).setCell ⟨w.heap.size + 1, 0, none⟩ u3).setCell ⟨w.heap.size + 1, 1, none⟩ u4) (.slice ua l.length uc) l ∧ Below w.heap.size w (((w1.setCell ⟨w.heap.size + 1 + 1, 1, none⟩ u1).setCell ⟨w.heap.size + 1, 0, none⟩ u3).setCell ⟨w.heap.size + 1, 1, none⟩ u4)) := by
    have k1 : w.heap.size + 1 < w.heap.size + 3 := by omega
    have k2 : w.heap.size + 1 + 1 < w.heap.size + 3 := by omega
    have k3 : w.heap.size ≤ w.heap.size + 1 := by omega
    have k4 : w.heap.size ≤ w.heap.size + 1 + 1 := by omega
    intro u1 u3 u4
    exact ⟨(((HO.out.setLow k2 u1).setLow k1 u3).setLow k1 u4).mono (by omega), ((hb3.out.setCell k4 u1).setCell k3 u3).setCell k3 u4⟩
  clear ho hx1 hb1 hb2 hx HO hb3 HS1
  go_wp2_with fail
  exact bodyPost_ret (v := .agg #[.string s, .slice ua l.length uc]) (by simp [results, Try.results12, go_sem, hc, hz]) rfl ⟨_, rfl, hkeep.out _ _ _⟩
set_option maxHeartbeats 1000000 in
theorem szLikeness_yes (s : ByteArray) (v : Value) (l : List ByteArray) (w : World) (hx : RS w v l) (hs : s.size + (l.length + szS l) ≤ 1048576) :
    Calls Try.prog 10 #[.agg #[.string s, v], .int .i64 1048576] w fun e w' => ∃ n : Int, e = .returned (.int .i64 n) ∧ 0 ≤ n ∧ Below w.heap.size w w' := by
  obtain ⟨a, c, rfl⟩ := hx.slice
  have hb : Below w.heap.size w (w.alloc (.cells #[.string s, .slice a l.length c] 24)) := (Below.refl _ _).alloc (Nat.le_refl _) _
  have hbx : LX w.heap.size s (.slice a l.length c) (w.alloc (.cells #[.string s, .slice a l.length c] 24)) := ⟨World.cell?_alloc_at _ _ _ _ rfl, World.cell?_alloc_at _ _ _ _ rfl⟩
  replace hx := hx.later hb
  have c0 := hbx.c0
  have c1 := hbx.c1
  go_enter Try.func10, Try.ntmps10
  go_wp2_with fail
  refine (szStringS_yes _ l _ _ hx (by omega) (by omega)).mono ?_
  rintro e w' ⟨n, rfl, HN, h0, rfl⟩
  clear HN
  go_wp2_with fail
  go_ret
  exact ⟨n, rfl, h0, hb⟩
set_option maxHeartbeats 1000000 in
theorem szLikeness_no (s : ByteArray) (v : Value) (l : List ByteArray) (w : World) (hx : RS w v l) (h1 : s.size ≤ maxLen) (hm : l.length ≤ maxLen) (hz : ∀ k, k < l.length → (sAt l k).size ≤ maxLen) (hs : ¬ s.size + (l.length + szS l) ≤ 1048576) :
    Calls Try.prog 10 #[.agg #[.string s, v], .int .i64 1048576] w fun e w' => e = .returned (.int .i64 (-1)) ∧ Below w.heap.size w w' := by
  obtain ⟨a, c, rfl⟩ := hx.slice
  unfold maxLen at h1
  have hb : Below w.heap.size w (w.alloc (.cells #[.string s, .slice a l.length c] 24)) := (Below.refl _ _).alloc (Nat.le_refl _) _
  have hbx : LX w.heap.size s (.slice a l.length c) (w.alloc (.cells #[.string s, .slice a l.length c] 24)) := ⟨World.cell?_alloc_at _ _ _ _ rfl, World.cell?_alloc_at _ _ _ _ rfl⟩
  replace hx := hx.later hb
  have c0 := hbx.c0
  have c1 := hbx.c1
  have HZ := Lib.hid hz
  clear hz
  by_cases e1 : (s.size : Int) ≤ 1048576
  · go_enter Try.func10, Try.ntmps10
    go_wp2_with fail
    refine (szStringS_no _ l _ _ hx (by omega) hm HZ.out (by omega)).mono ?_
    rintro e w' ⟨rfl, rfl⟩
    go_wp2_with fail
    go_ret
    exact ⟨rfl, hb⟩
  · go_enter Try.func10, Try.ntmps10
    go_wp2_with fail
    go_ret
    exact ⟨rfl, hb⟩
set_option maxHeartbeats 1000000 in
theorem eqLikeness_yes (s : ByteArray) (u v : Value) (l : List ByteArray) (w : World) (hx : RS w u l) (hy : RS w v l) (hm : l.length ≤ 1048576) :
    Calls Try.prog 14 #[.agg #[.string s, u], .agg #[.string s, v]] w fun e w' => e = .returned (.bool true) ∧ Below w.heap.size w w' := by
  obtain ⟨a, c, rfl⟩ := hx.slice
  obtain ⟨a', c', rfl⟩ := hy.slice
  have hb1 : Below w.heap.size w ((w.alloc (.cells #[.string s, .slice a l.length c] 27)).alloc (.cells #[.string s, .slice a' l.length c'] 27)) := ((Below.refl _ _).alloc (Nat.le_refl _) _).alloc (by simp) _
  have hx1 := hx.later hb1
  have hy1 := hy.later hb1
  go_enter Try.func14, Try.ntmps14
  go_wp2_with fail
  refine (eqStringS_yes _ _ l _ hx1 hy1 (by omega)).mono ?_
  rintro e w1 ⟨rfl, hb2⟩
  obtain ⟨hc, hf⟩ := bcell hb2
  go_wp2_with fail
  go_ret
  exact ⟨rfl, hb1.trans (hb2.mono hb1.size)⟩

set_option maxRecDepth 100000 in
set_option maxHeartbeats 4000000 in
theorem lawValidLikeness_any (s : ByteArray) (v : Value) (l : List ByteArray) (w : World) (h1 : s.size ≤ maxLen) (hx : RSM w v l) :
    Calls Try.prog 3 #[.agg #[.string s, v]] w fun e w' => e = .returned (.bool true) ∧ Below w.heap.size w w' := by
  obtain ⟨hx, hml, hzl⟩ := hx
  obtain ⟨a, c, rfl⟩ := hx.slice
  have hb : Below w.heap.size w (w.alloc (.cells #[.string s, .slice a l.length c] 24)) := (Below.refl _ _).alloc (Nat.le_refl _) _
  have hbx : LX w.heap.size s (.slice a l.length c) (w.alloc (.cells #[.string s, .slice a l.length c] 24)) := ⟨World.cell?_alloc_at _ _ _ _ rfl, World.cell?_alloc_at _ _ _ _ rfl⟩
  replace hx := hx.later hb
  have c0 := hbx.c0
  have c1 := hbx.c1
  by_cases hs : s.size + (l.length + szS l) ≤ 1048576
  · have hm : l.length ≤ 1048576 := by omega
    have hs1 : s.size ≤ 1048576 := by omega
    have HI : Hid (∀ w1 v1, RS w1 v1 l → Calls Try.prog 13 #[.agg #[.string s, v1]] w1 fun e w' => e = .returned (.bool (vlB s l)) ∧ Below w1.heap.size w1 w') := fun w1 v1 h => implVL_any s v1 l w1 h hs1 hm
    have HP : Hid (∀ w1 v1, RS w1 v1 l → Calls Try.prog 11 #[.agg #[.string s, v1]] w1 fun e w' => e = .returned (.bool (vlB s l)) ∧ Below w1.heap.size w1 w') := fun w1 v1 h => specVL_any s v1 l w1 h hs1 hm
    generalize vlB s l = rb at *
    have HS := Lib.hid hs
    clear hs hzl hml h1
    go_enter Try.func3, Try.ntmps3
    go_wp2_with fail
    generalize w.alloc (.cells #[.string s, .slice a l.length c] 24) = w0 at *
    refine (szLikeness_yes s _ l _ hx HS.out).mono ?_
    rintro e w1 ⟨n, rfl, hn, hb1⟩
    replace hbx := hbx.later hb1
    replace hx := hx.later hb1
    replace hb := hb.trans (hb1.mono hb.size)
    clear hb1
    have c0 := hbx.c0
    have c1 := hbx.c1
    go_wp2_with fail
    refine (toLikeness_any s _ l _ hx hm).mono ?_
    rintro e w2 ⟨u2, rfl, o2, hb1⟩
    replace hbx := hbx.later hb1
    replace hx := hx.later hb1
    replace hb := hb.trans (hb1.mono hb.size)
    clear hb1
    have c0 := hbx.c0
    have c1 := hbx.c1
    go_wp2_with fail
    refine (HP.out _ _ o2.read).mono ?_
    rintro e w3 ⟨rfl, hb1⟩
    replace hbx := hbx.later hb1
    replace hx := hx.later hb1
    replace hb := hb.trans (hb1.mono hb.size)
    clear hb1
    clear o2
    have c0 := hbx.c0
    have c1 := hbx.c1
    go_wp2_with fail
    refine (toLikeness_any s _ l _ hx hm).mono ?_
    rintro e w4 ⟨u4, rfl, ox, hb1⟩
    replace hbx := hbx.later hb1
    replace hx := hx.later hb1
    replace hb := hb.trans (hb1.mono hb.size)
    clear hb1
    have c0 := hbx.c0
    have c1 := hbx.c1
    have ox := ox.read
    obtain ⟨ua, uc, rfl⟩ := ox.slice
    go_wp2_with fail
    have hbX : LX w4.heap.size s (.slice ua l.length uc) (w4.alloc (.cells #[.string s, .slice ua l.length uc] 27)) := ⟨World.cell?_alloc_at _ _ _ _ rfl, World.cell?_alloc_at _ _ _ _ rfl⟩
    have hb1 : Below w4.heap.size w4 (w4.alloc (.cells #[.string s, .slice ua l.length uc] 27)) := (Below.refl _ _).alloc (Nat.le_refl _) _
    replace ox := ox.later hb1
    replace hbx := hbx.later hb1
    replace hx := hx.later hb1
    replace hb := hb.trans (hb1.mono hb.size)
    clear hb1
    generalize w4.alloc (.cells #[.string s, .slice ua l.length uc] 27) = w5 at *
    generalize w4.heap.size = X at *
    refine (HI.out _ _ ox).mono ?_
    rintro e w6 ⟨rfl, hb1⟩
    replace hbx := hbx.later hb1
    replace hbX := hbX.later hb1
    replace hx := hx.later hb1
    replace ox := ox.later hb1
    replace hb := hb.trans (hb1.mono hb.size)
    clear hb1
    have c0 := hbx.c0
    have c1 := hbx.c1
    have d0 := hbX.c0
    have d1 := hbX.c1
    go_wp2_with fail
    have hb1 : Below w6.heap.size w6 w6.drew := (Below.refl _ _).drew
    replace hb := hb.drew
    replace hx := hx.later hb1
    replace ox := ox.later hb1
    replace hbX := hbX.later hb1
    replace hbx := hbx.later hb1
    clear hb1
    go_region_held3 (fun w' => (w'.cell? ⟨X, 0, none⟩ = some (.string s) ∧ w'.cell? ⟨X, 1, none⟩ = some (.slice ua l.length uc)) ∧ w'.cell? ⟨w.heap.size, 0, none⟩ = some (.string s) ∧ w'.cell? ⟨w.heap.size, 1, none⟩ = some (.slice a l.length c)) (exact ⟨⟨hbX.c0, hbX.c1⟩, hbx.c0, hbx.c1⟩)
      (first
        | (go_at_call 12; refine (toLikeness_any s _ l _ hx hm).mono ?_; rintro e w7 ⟨u7, rfl, o7, hb1⟩; replace hbX := hbX.later hb1; replace hbx := hbx.later hb1; replace ox := ox.later hb1; replace hb := hb.trans (hb1.mono hb.size))
        | (go_at_call 14; refine (eqLikeness_yes s _ _ l _ ox o7.read hm).mono ?_; rintro e w8 ⟨rfl, hb2⟩; replace hbX := hbX.later hb2; replace hbx := hbx.later hb2; replace hb := hb.trans (hb2.mono hb.size)))
    go_wp2_with fail
    go_ret
    exact ⟨rfl, hb⟩
  · go_enter Try.func3, Try.ntmps3
    go_wp2_with fail
    generalize w.alloc (.cells #[.string s, .slice a l.length c] 24) = w0 at *
    refine (szLikeness_no s _ l _ hx h1 hml hzl hs).mono ?_
    rintro e w1 ⟨rfl, hb1⟩
    go_wp2_with fail
    go_ret
    exact ⟨rfl, hb.trans (hb1.mono hb.size)⟩
end Go.Proofs.Ytdkheeocglfogaa
