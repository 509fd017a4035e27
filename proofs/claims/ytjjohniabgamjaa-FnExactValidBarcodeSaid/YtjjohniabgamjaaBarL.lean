/- The law of ValidBarcode: for all arguments. -/
import Derived.Test.YtjjohniabgamjaaBarS
import Derived.Test.YtjjohniabgamjaaFrameS
namespace Go.Proofs.Ytjjohniabgamjaa
open Go.RowKit

theorem OS.setLow {B : Nat} {w : World} {v : Value} {l : List ByteArray} {p : Addr} (h : OS B w v l) (hp : p.block < B) (u : Value) : OS B (w.setCell p u) v l := by
  refine ⟨h.1, ?_⟩
  rcases h.2 with hn | ⟨g, cap, cur, rfl, hB, hg, r⟩
  · exact .inl hn
  · exact .inr ⟨g, cap, cur, rfl, hB, by rw [heap_setCell_other _ _ _ _ (by omega)]; exact hg, r⟩
theorem specBar_any (s r : ByteArray) (v : Value) (l : List ByteArray) (g : Int) (w : World) (hx : RS w v l) (hs : s.size ≤ 1048576) (hr : r.size ≤ 1048576) (hm : l.length ≤ 1048576) (hz : ∀ k, k < l.length → (sAt l k).size ≤ 1048576) :
    Calls Try.prog 31 #[.agg #[.string s, .string r, v, .int .i64 g]] w fun e w' => e = .returned (.bool (barB s r l g)) ∧ Below w.heap.size w w' := by
  obtain ⟨a, c, rfl⟩ := hx.slice
  have hb : Below w.heap.size w (w.alloc (.cells #[.string s, .string r, .slice a l.length c, .int .i64 g] 48)) := (Below.refl _ _).alloc (Nat.le_refl _) _
  have hbx : BX w.heap.size s r (.slice a l.length c) g (w.alloc (.cells #[.string s, .string r, .slice a l.length c, .int .i64 g] 48)) := ⟨World.cell?_alloc_at _ _ _ _ rfl, World.cell?_alloc_at _ _ _ _ rfl, World.cell?_alloc_at _ _ _ _ rfl, World.cell?_alloc_at _ _ _ _ rfl⟩
  replace hx := hx.later hb
  go_enter Try.func31, Try.ntmps31
  go_wp2_with fail
  refine (l08Is_any s r _ l g _ _ hbx hx hs hr hm hz).mono ?_
  rintro e w1 ⟨rfl, hb1⟩
  go_wp2_with fail
  go_ret
  exact ⟨rfl, hb.trans (hb1.mono hb.size)⟩
set_option maxHeartbeats 8000000 in
theorem toBarcode_any (s r : ByteArray) (v : Value) (l : List ByteArray) (g : Int) (w : World) (hx : RS w v l) (hm : l.length ≤ 1048576) :
    Calls Try.prog 32 #[.agg #[.string s, .string r, v, .int .i64 g]] w fun e w' => ∃ u, e = .returned (.agg #[.string s, .string r, u, .int .i64 g]) ∧ RS w' u l ∧ Below w.heap.size w w' := by
  obtain ⟨a, c, rfl⟩ := hx.slice
  have hb1 : Below w.heap.size w (((w.alloc (.cells #[.string s, .string r, .slice a l.length c, .int .i64 g] 45)).alloc (.cells #[.string ⟨#[]⟩, .string ⟨#[]⟩, .slice none 0 0, .int .i64 0] 48)).alloc (.cells #[.string s, .string r, .slice none 0 0, .int .i64 0] 48)) :=
    (((Below.refl _ _).alloc (Nat.le_refl _) _).alloc (by simp) _).alloc (by simp; omega) _
  have hx1 := hx.later hb1
  have hs1 : (((w.alloc (.cells #[.string s, .string r, .slice a l.length c, .int .i64 g] 45)).alloc (.cells #[.string ⟨#[]⟩, .string ⟨#[]⟩, .slice none 0 0, .int .i64 0] 48)).alloc (.cells #[.string s, .string r, .slice none 0 0, .int .i64 0] 48)).heap.size = w.heap.size + 3 := by simp
  have HS1 := Lib.hid hs1
  clear hs1
  go_enter Try.func32, Try.ntmps32
  go_wp2_with fail
  refine (toStringS_any _ l _ hx1 hm).mono ?_
  rintro e w1 ⟨u, rfl, ho, hb2⟩
  obtain ⟨ua, uc, rfl⟩ := ho.read.slice
  have hb3 := Lib.hid (hb1.trans (hb2.mono hb1.size))
  have hsz := hb2.size
  rw [HS1.out] at hsz ho
  have HO := Lib.hid ho
  obtain ⟨hc, hf⟩ := bcell hb2
  have hz : w.heap.size + 1 + 1 < w1.heap.size := by omega
  have hkeep : Hid (∀ u1 u2 u3 u4 u5 u6, RS ((((((w1.setCell ⟨w.heap.size + 1 + 1, 2, none⟩ u1).setCell ⟨w.heap.size + 1 + 1, 3, none⟩ u2).setCell ⟨w.heap.size + 1, 0, none⟩ u3).setCell ⟨w.heap.size + 1, 1, none⟩ u4).setCell ⟨w.heap.size + 1, 2, none⟩ u5).setCell ⟨w.heap.size + 1, 3, none⟩ u6) (.slice ua l.length uc) l ∧ Below w.heap.size w ((((((w1.setCell ⟨w.heap.size + 1 + 1, 2, none⟩ u1).setCell ⟨w.heap.size + 1 + 1, 3, none⟩ u2).setCell ⟨w.heap.size + 1, 0, none⟩ u3).setCell ⟨w.heap.size + 1, 1, none⟩ u4).setCell ⟨w.heap.size + 1, 2, none⟩ u5).setCell ⟨w.heap.size + 1, 3, none⟩ u6)) := by
    have k1 : w.heap.size + 1 < w.heap.size + 3 := by omega
    have k2 : w.heap.size + 1 + 1 < w.heap.size + 3 := by omega
    have k3 : w.heap.size ≤ w.heap.size + 1 := by omega
    have k4 : w.heap.size ≤ w.heap.size + 1 + 1 := by omega
    intro u1 u2 u3 u4 u5 u6
    exact ⟨OS.read ((((((HO.out.setLow k2 u1).setLow k2 u2).setLow k1 u3).setLow k1 u4).setLow k1 u5).setLow k1 u6), (((((hb3.out.setCell k4 u1).setCell k4 u2).setCell k3 u3).setCell k3 u4).setCell k3 u5).setCell k3 u6⟩
  clear ho hx1 hb1 hb2 hx HO hb3 HS1
  go_wp2_with fail
  exact bodyPost_ret (v := .agg #[.string s, .string r, .slice ua l.length uc, .int .i64 g]) (by simp [results, Try.results32, go_sem, hc, hz]) rfl ⟨_, rfl, hkeep.out _ _ _ _ _ _⟩
set_option maxHeartbeats 1000000 in
theorem szBarcode_yes (s r : ByteArray) (v : Value) (l : List ByteArray) (g : Int) (w : World) (hx : RS w v l) (hs : s.size + r.size + (l.length + szS l) ≤ 1048576) :
    Calls Try.prog 30 #[.agg #[.string s, .string r, v, .int .i64 g], .int .i64 1048576] w fun e w' => ∃ n : Int, e = .returned (.int .i64 n) ∧ 0 ≤ n ∧ Below w.heap.size w w' := by
  obtain ⟨a, c, rfl⟩ := hx.slice
  have hb : Below w.heap.size w (w.alloc (.cells #[.string s, .string r, .slice a l.length c, .int .i64 g] 45)) := (Below.refl _ _).alloc (Nat.le_refl _) _
  have hbx : BX w.heap.size s r (.slice a l.length c) g (w.alloc (.cells #[.string s, .string r, .slice a l.length c, .int .i64 g] 45)) := ⟨World.cell?_alloc_at _ _ _ _ rfl, World.cell?_alloc_at _ _ _ _ rfl, World.cell?_alloc_at _ _ _ _ rfl, World.cell?_alloc_at _ _ _ _ rfl⟩
  replace hx := hx.later hb
  have c0 := hbx.c0
  have c1 := hbx.c1
  have c2 := hbx.c2
  have c3 := hbx.c3
  go_enter Try.func30, Try.ntmps30
  go_wp2_with fail
  refine (szStringS_yes _ l _ _ hx (by omega) (by omega)).mono ?_
  rintro e w' ⟨n, rfl, HN, h0, rfl⟩
  clear HN
  go_wp2_with fail
  go_ret
  exact ⟨n, rfl, h0, hb⟩
set_option maxHeartbeats 1000000 in
theorem szBarcode_no (s r : ByteArray) (v : Value) (l : List ByteArray) (g : Int) (w : World) (hx : RS w v l) (h1 : s.size ≤ maxLen) (h2 : r.size ≤ maxLen) (hm : l.length ≤ maxLen) (hz : ∀ k, k < l.length → (sAt l k).size ≤ maxLen) (hs : ¬ s.size + r.size + (l.length + szS l) ≤ 1048576) :
    Calls Try.prog 30 #[.agg #[.string s, .string r, v, .int .i64 g], .int .i64 1048576] w fun e w' => e = .returned (.int .i64 (-1)) ∧ Below w.heap.size w w' := by
  obtain ⟨a, c, rfl⟩ := hx.slice
  unfold maxLen at h1 h2
  have hb : Below w.heap.size w (w.alloc (.cells #[.string s, .string r, .slice a l.length c, .int .i64 g] 45)) := (Below.refl _ _).alloc (Nat.le_refl _) _
  have hbx : BX w.heap.size s r (.slice a l.length c) g (w.alloc (.cells #[.string s, .string r, .slice a l.length c, .int .i64 g] 45)) := ⟨World.cell?_alloc_at _ _ _ _ rfl, World.cell?_alloc_at _ _ _ _ rfl, World.cell?_alloc_at _ _ _ _ rfl, World.cell?_alloc_at _ _ _ _ rfl⟩
  replace hx := hx.later hb
  have c0 := hbx.c0
  have c1 := hbx.c1
  have c2 := hbx.c2
  have c3 := hbx.c3
  have HZ := Lib.hid hz
  clear hz
  by_cases e1 : (s.size : Int) ≤ 1048576
  · by_cases e2 : (s.size : Int) + r.size ≤ 1048576
    · go_enter Try.func30, Try.ntmps30
      go_wp2_with fail
      refine (szStringS_no _ l _ _ hx (by omega) hm HZ.out (by omega)).mono ?_
      rintro e w' ⟨rfl, rfl⟩
      go_wp2_with fail
      go_ret
      exact ⟨rfl, hb⟩
    · go_enter Try.func30, Try.ntmps30
      go_wp2_with fail
      go_ret
      exact ⟨rfl, hb⟩
  · go_enter Try.func30, Try.ntmps30
    go_wp2_with fail
    go_ret
    exact ⟨rfl, hb⟩
set_option maxHeartbeats 1000000 in
theorem eqBarcode_yes (s r : ByteArray) (u v : Value) (l : List ByteArray) (g : Int) (w : World) (hx : RS w u l) (hy : RS w v l) (hm : l.length ≤ 1048576) :
    Calls Try.prog 34 #[.agg #[.string s, .string r, u, .int .i64 g], .agg #[.string s, .string r, v, .int .i64 g]] w fun e w' => e = .returned (.bool true) ∧ Below w.heap.size w w' := by
  obtain ⟨a, c, rfl⟩ := hx.slice
  obtain ⟨a', c', rfl⟩ := hy.slice
  have hb1 : Below w.heap.size w ((w.alloc (.cells #[.string s, .string r, .slice a l.length c, .int .i64 g] 48)).alloc (.cells #[.string s, .string r, .slice a' l.length c', .int .i64 g] 48)) := ((Below.refl _ _).alloc (Nat.le_refl _) _).alloc (by simp) _
  have hx1 := hx.later hb1
  have hy1 := hy.later hb1
  go_enter Try.func34, Try.ntmps34
  go_wp2_with fail
  refine (eqStringS_yes _ _ l _ hx1 hy1 (by omega)).mono ?_
  rintro e w1 ⟨rfl, hb2⟩
  obtain ⟨hc, hf⟩ := bcell hb2
  go_wp2_with fail
  go_ret
  exact ⟨rfl, hb1.trans (hb2.mono hb1.size)⟩

set_option maxRecDepth 100000 in
set_option maxHeartbeats 4000000 in
theorem lawBar_any (s r : ByteArray) (v : Value) (l : List ByteArray) (g : Int) (w : World) (h1 : s.size ≤ maxLen) (h2 : r.size ≤ maxLen) (hx : RSM w v l) :
    Calls Try.prog 10 #[.agg #[.string s, .string r, v, .int .i64 g]] w fun e w' => e = .returned (.bool true) ∧ Below w.heap.size w w' := by
  obtain ⟨hx, hml, hzl⟩ := hx
  obtain ⟨a, c, rfl⟩ := hx.slice
  have hb : Below w.heap.size w (w.alloc (.cells #[.string s, .string r, .slice a l.length c, .int .i64 g] 45)) := (Below.refl _ _).alloc (Nat.le_refl _) _
  have hbx : BX w.heap.size s r (.slice a l.length c) g (w.alloc (.cells #[.string s, .string r, .slice a l.length c, .int .i64 g] 45)) := ⟨World.cell?_alloc_at _ _ _ _ rfl, World.cell?_alloc_at _ _ _ _ rfl, World.cell?_alloc_at _ _ _ _ rfl, World.cell?_alloc_at _ _ _ _ rfl⟩
  replace hx := hx.later hb
  have c0 := hbx.c0
  have c1 := hbx.c1
  have c2 := hbx.c2
  have c3 := hbx.c3
  have HI : Hid (∀ w1 v1, RS w1 v1 l → s.size ≤ 1048576 → r.size ≤ 1048576 → l.length ≤ 1048576 → (∀ k, k < l.length → (sAt l k).size ≤ 1048576) → Calls Try.prog 33 #[.agg #[.string s, .string r, v1, .int .i64 g]] w1 fun e w' => e = .returned (.bool (barB s r l g)) ∧ Below w1.heap.size w1 w') := fun w1 v1 h a b c d => implBar_any s r v1 l g w1 h a b c d
  have HP : Hid (∀ w1 v1, RS w1 v1 l → s.size ≤ 1048576 → r.size ≤ 1048576 → l.length ≤ 1048576 → (∀ k, k < l.length → (sAt l k).size ≤ 1048576) → Calls Try.prog 31 #[.agg #[.string s, .string r, v1, .int .i64 g]] w1 fun e w' => e = .returned (.bool (barB s r l g)) ∧ Below w1.heap.size w1 w') := fun w1 v1 h a b c d => specBar_any s r v1 l g w1 h a b c d
  generalize barB s r l g = rb at *
  by_cases hs : s.size + r.size + (l.length + szS l) ≤ 1048576
  · have hm : l.length ≤ 1048576 := by omega
    have hz : Hid (∀ k, k < l.length → (sAt l k).size ≤ 1048576) := fun k hk => by have := szS_at l k hk; omega
    have hs1 : s.size ≤ 1048576 := by omega
    have hr1 : r.size ≤ 1048576 := by omega
    have HS := Lib.hid hs
    clear hs hzl hml h1 h2
    go_enter Try.func10, Try.ntmps10
    go_wp2_with fail
    generalize w.alloc (.cells #[.string s, .string r, .slice a l.length c, .int .i64 g] 45) = w0 at *
    refine (szBarcode_yes s r _ l g _ hx HS.out).mono ?_
    rintro e w1 ⟨n, rfl, hn, hb1⟩
    replace hbx := hbx.later hb1
    replace hx := hx.later hb1
    replace hb := hb.trans (hb1.mono hb.size)
    clear hb1
    have c0 := hbx.c0
    have c1 := hbx.c1
    have c2 := hbx.c2
    have c3 := hbx.c3
    go_wp2_with fail
    refine (toBarcode_any s r _ l g _ hx hm).mono ?_
    rintro e w2 ⟨u2, rfl, o2, hb1⟩
    replace hbx := hbx.later hb1
    replace hx := hx.later hb1
    replace hb := hb.trans (hb1.mono hb.size)
    clear hb1
    have c0 := hbx.c0
    have c1 := hbx.c1
    have c2 := hbx.c2
    have c3 := hbx.c3
    go_wp2_with fail
    refine (HP.out _ _ o2 hs1 hr1 hm hz.out).mono ?_
    rintro e w3 ⟨rfl, hb1⟩
    replace hbx := hbx.later hb1
    replace hx := hx.later hb1
    replace hb := hb.trans (hb1.mono hb.size)
    clear hb1
    clear o2
    have c0 := hbx.c0
    have c1 := hbx.c1
    have c2 := hbx.c2
    have c3 := hbx.c3
    go_wp2_with fail
    refine (toBarcode_any s r _ l g _ hx hm).mono ?_
    rintro e w4 ⟨u4, rfl, ox, hb1⟩
    replace hbx := hbx.later hb1
    replace hx := hx.later hb1
    replace hb := hb.trans (hb1.mono hb.size)
    clear hb1
    have c0 := hbx.c0
    have c1 := hbx.c1
    have c2 := hbx.c2
    have c3 := hbx.c3
    obtain ⟨ua, uc, rfl⟩ := ox.slice
    go_wp2_with fail
    have hbX : BX w4.heap.size s r (.slice ua l.length uc) g (w4.alloc (.cells #[.string s, .string r, .slice ua l.length uc, .int .i64 g] 48)) := ⟨World.cell?_alloc_at _ _ _ _ rfl, World.cell?_alloc_at _ _ _ _ rfl, World.cell?_alloc_at _ _ _ _ rfl, World.cell?_alloc_at _ _ _ _ rfl⟩
    have hb1 : Below w4.heap.size w4 (w4.alloc (.cells #[.string s, .string r, .slice ua l.length uc, .int .i64 g] 48)) := (Below.refl _ _).alloc (Nat.le_refl _) _
    replace ox := ox.later hb1
    replace hbx := hbx.later hb1
    replace hx := hx.later hb1
    replace hb := hb.trans (hb1.mono hb.size)
    clear hb1
    generalize w4.alloc (.cells #[.string s, .string r, .slice ua l.length uc, .int .i64 g] 48) = w5 at *
    generalize w4.heap.size = X at *
    refine (HI.out _ _ ox hs1 hr1 hm hz.out).mono ?_
    rintro e w6 ⟨rfl, hb1⟩
    replace hbx := hbx.later hb1
    replace hbX := hbX.later hb1
    replace hx := hx.later hb1
    replace ox := ox.later hb1
    replace hb := hb.trans (hb1.mono hb.size)
    clear hb1
    have c0 := hbx.c0
    have c1 := hbx.c1
    have c2 := hbx.c2
    have c3 := hbx.c3
    have d0 := hbX.c0
    have d1 := hbX.c1
    have d2 := hbX.c2
    have d3 := hbX.c3
    go_wp2_with fail
    have hb1 : Below w6.heap.size w6 w6.drew := (Below.refl _ _).drew
    replace hb := hb.drew
    replace hx := hx.later hb1
    replace ox := ox.later hb1
    replace hbX := hbX.later hb1
    replace hbx := hbx.later hb1
    clear hb1
    go_region_held3 (fun w' => (w'.cell? ⟨X, 0, none⟩ = some (.string s) ∧ w'.cell? ⟨X, 1, none⟩ = some (.string r) ∧ w'.cell? ⟨X, 2, none⟩ = some (.slice ua l.length uc) ∧ w'.cell? ⟨X, 3, none⟩ = some (.int .i64 g)) ∧ w'.cell? ⟨w.heap.size, 0, none⟩ = some (.string s) ∧ w'.cell? ⟨w.heap.size, 1, none⟩ = some (.string r) ∧ w'.cell? ⟨w.heap.size, 2, none⟩ = some (.slice a l.length c) ∧ w'.cell? ⟨w.heap.size, 3, none⟩ = some (.int .i64 g)) (exact ⟨⟨hbX.c0, hbX.c1, hbX.c2, hbX.c3⟩, hbx.c0, hbx.c1, hbx.c2, hbx.c3⟩)
      (first
        | (go_at_call 32; refine (toBarcode_any s r _ l g _ hx hm).mono ?_; rintro e w7 ⟨u7, rfl, o7, hb1⟩; replace hbX := hbX.later hb1; replace hbx := hbx.later hb1; replace ox := ox.later hb1; replace hb := hb.trans (hb1.mono hb.size))
        | (go_at_call 34; refine (eqBarcode_yes s r _ _ l g _ ox o7 hm).mono ?_; rintro e w8 ⟨rfl, hb2⟩; replace hbX := hbX.later hb2; replace hbx := hbx.later hb2; replace hb := hb.trans (hb2.mono hb.size)))
    go_wp2_with fail
    go_ret
    exact ⟨rfl, hb⟩
  · go_enter Try.func10, Try.ntmps10
    go_wp2_with fail
    generalize w.alloc (.cells #[.string s, .string r, .slice a l.length c, .int .i64 g] 45) = w0 at *
    refine (szBarcode_no s r _ l g _ hx h1 h2 hml hzl hs).mono ?_
    rintro e w1 ⟨rfl, hb1⟩
    go_wp2_with fail
    go_ret
    exact ⟨rfl, hb.trans (hb1.mono hb.size)⟩
end Go.Proofs.Ytjjohniabgamjaa
