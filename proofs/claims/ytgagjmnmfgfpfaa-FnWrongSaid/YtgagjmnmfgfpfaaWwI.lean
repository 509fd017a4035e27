/- WrongWords: the program. -/
import Derived.Test.YtgagjmnmfgfpfaaWwH
namespace Go.Proofs.Ytgagjmnmfgfpfaa
open Go.RowKit

theorem WX.made (w : World) : WX (w.heap.size + 1) w.heap.size ((w.alloc (.cells #[] 9)).alloc (.cells #[.slice (some ⟨w.heap.size, 0, none⟩) 0 0] 32)) [] ∧
    Below w.heap.size w ((w.alloc (.cells #[] 9)).alloc (.cells #[.slice (some ⟨w.heap.size, 0, none⟩) 0 0] 32)) := by
  have a1 : OS w.heap.size (w.alloc (.cells #[] 9)) (.slice (some ⟨w.heap.size, 0, none⟩) 0 0) [] := OV.made _ _ (Nat.le_refl _)
  generalize hw1 : w.alloc (.cells #[] 9) = w1 at *
  have s1 : w1.heap.size = w.heap.size + 1 := by rw [← hw1]; simp
  have g1 : Below w.heap.size w w1 := by rw [← hw1]; exact (Below.refl _ _).alloc (Nat.le_refl _) _
  have a2 : (w1.alloc (.cells #[.slice (some ⟨w.heap.size, 0, none⟩) 0 0] 32)).heap[w1.heap.size]? = some (.cells #[.slice (some ⟨w.heap.size, 0, none⟩) 0 0] 32 (0, 0)) := heap_alloc_new w1 _
  rw [s1] at a2
  exact ⟨⟨_, a2, OV.alloc a1 _, by omega⟩, g1.alloc g1.size _⟩
def WsPost (k b : Int) (xs : List Int) (w : World) (e : Ending) (w' : World) : Prop :=
  ∃ v l, e = .returned v ∧ OS w.heap.size w' v l ∧ AscS l ∧ (∀ t, t ∈ l ↔ WwP k b xs t) ∧ l.length ≤ 1000 ∧ Below w.heap.size w w'
theorem ordS_len (l : List ByteArray) : (ordS l).length ≤ l.length := by
  unfold ordS Lib.compact Lib.compactUpTo
  rw [List.length_map, List.length_map]
  refine Nat.le_trans (List.length_filter_le _ _) ?_
  simp
set_option maxRecDepth 100000 in
set_option maxHeartbeats 2000000 in
theorem wrong_nil (X : Nat) (k b : Int) (w : World) (hk : k = 0 ∨ k = 1 ∨ k = 2 ∨ k = 3 ∨ k = 4 ∨ k = 5) :
    Calls Try.prog 89 #[.int .i64 k, .int .i64 b, .slice none 0 0, .func (.func 90) #[] #[.pointer (some ⟨X, 0, none⟩)]] w fun e w' => e = .returned (.tuple #[]) ∧ Below w.heap.size w w' := by
  obtain ⟨N, hN⟩ : ∃ N, N = kL k := ⟨_, rfl⟩
  obtain ⟨hn1, hn3⟩ := kL_rng k
  rw [← hN] at hn1 hn3
  have HER : Hid (∀ wx, Calls Try.prog 97 #[.int .i64 k] wx fun e w' => e = .returned (.int .i64 N) ∧ wx = w') := fun wx => by
    rw [hN]; exact errorLength_any k wx hk
  have hw1 : IntKind.i64.wrap (N : Int) = (N : Int) := IntWalk.i64_in _ (by omega)
  have q1 : ¬ (N : Int) ≤ 0 := by omega
  have q2 : ¬ N ≤ 0 := by omega
  have q3 : ¬ N = 0 := by omega
  have nt2 : (47 : TypeId) ≠ 9 ∧ (47 : TypeId) ≠ 32 := by decide
  have nt3 : (97 : TypeId) ≠ 9 ∧ (97 : TypeId) ≠ 32 := by decide
  have nt4 : (3 : TypeId) ≠ 9 ∧ (3 : TypeId) ≠ 32 := by decide
  have a1 := BX.new w 47 (.slice none 0 0) nt2
  have s1 : (w.alloc (.cells #[.slice none 0 0] 47)).heap.size = w.heap.size + 1 := by simp
  have g1 : Below w.heap.size w (w.alloc (.cells #[.slice none 0 0] 47)) := (Below.refl _ _).alloc (Nat.le_refl _) _
  clear hN
  go_enter Try.func89, Try.ntmps89
  go_upto_region 3 with (go_at_call 97; refine (HER.out _).mono ?_; rintro e wq ⟨rfl, rfl⟩)
  have g2 : Below w.heap.size w ((((w.alloc (.cells #[.slice none 0 0] 47)).alloc (.cells #[.func (.func 90) #[] #[.pointer (some ⟨X, 0, none⟩)]] 97)).alloc (.cells #[.int .i64 N] 3)).alloc (.cells #[.int .i64 0] 3)) := ((g1.alloc g1.size _).alloc (by simp; omega) _).alloc (by simp; omega) _
  have hcells : ((((w.alloc (.cells #[.slice none 0 0] 47)).alloc (.cells #[.func (.func 90) #[] #[.pointer (some ⟨X, 0, none⟩)]] 97)).alloc (.cells #[.int .i64 N] 3)).alloc (.cells #[.int .i64 0] 3)).cell? ⟨w.heap.size, 0, none⟩ = some (.slice none 0 0) ∧
      ((((w.alloc (.cells #[.slice none 0 0] 47)).alloc (.cells #[.func (.func 90) #[] #[.pointer (some ⟨X, 0, none⟩)]] 97)).alloc (.cells #[.int .i64 N] 3)).alloc (.cells #[.int .i64 0] 3)).cell? ⟨w.heap.size + 1 + 1, 0, none⟩ = some (.int .i64 N) ∧
      ((((w.alloc (.cells #[.slice none 0 0] 47)).alloc (.cells #[.func (.func 90) #[] #[.pointer (some ⟨X, 0, none⟩)]] 97)).alloc (.cells #[.int .i64 N] 3)).alloc (.cells #[.int .i64 0] 3)).cell? ⟨w.heap.size + 1 + 1 + 1, 0, none⟩ = some (.int .i64 0) := by
    generalize hw1 : w.alloc (.cells #[.slice none 0 0] 47) = w1 at *
    have b2 := BX.new w1 97 (.func (.func 90) #[] #[.pointer (some ⟨X, 0, none⟩)]) nt3
    generalize hw2 : w1.alloc (.cells #[.func (.func 90) #[] #[.pointer (some ⟨X, 0, none⟩)]] 97) = w2 at *
    have s2 : w2.heap.size = w.heap.size + 1 + 1 := by rw [← hw2]; simp [s1]
    have h2 : Below w1.heap.size w1 w2 := by rw [← hw2]; exact (Below.refl _ _).alloc (Nat.le_refl _) _
    have b3 := BX.new w2 3 (.int .i64 N) nt4
    generalize hw3 : w2.alloc (.cells #[.int .i64 N] 3) = w3 at *
    have s3 : w3.heap.size = w.heap.size + 1 + 1 + 1 := by rw [← hw3]; simp [s2]
    have h3 : Below w2.heap.size w2 w3 := by rw [← hw3]; exact (Below.refl _ _).alloc (Nat.le_refl _) _
    have b4 := BX.new w3 3 (.int .i64 0) nt4
    have h4 : Below w3.heap.size w3 (w3.alloc (.cells #[.int .i64 0] 3)) := (Below.refl _ _).alloc (Nat.le_refl _) _
    rw [s2] at b3
    rw [s3] at b4
    exact ⟨(a1.later (h2.trans ((h3.trans (h4.mono h3.size)).mono h2.size))).cell, (b3.later h4).cell, b4.cell⟩
  obtain ⟨d2, d4, d3⟩ := hcells
  clear a1 s1 g1
  generalize (((w.alloc (.cells #[.slice none 0 0] 47)).alloc (.cells #[.func (.func 90) #[] #[.pointer (some ⟨X, 0, none⟩)]] 97)).alloc (.cells #[.int .i64 N] 3)).alloc (.cells #[.int .i64 0] 3) = w0 at *
  go_loopg [9] 1 (fun q pv wr => pv = .pointer (some ⟨w.heap.size + 1 + 1 + 1, 0, none⟩) ∧ wr = w0)
  case atStart => exact ⟨rfl, rfl⟩
  case round =>
    obtain ⟨rfl, rfl⟩ := hrel
    go_wp2_with fail
    go_end0
    exact ⟨rfl, g2⟩
set_option maxRecDepth 100000 in
set_option maxHeartbeats 2000000 in
theorem wrongWords_nil (k b : Int) (w : World) (hk : kOk k b = true) :
    Calls Try.prog 70 #[.slice none 0 0, .int .i64 b, .int .i64 k] w (WsPost k b [] w) := by
  obtain ⟨hX, hB⟩ := WX.made w
  have HWR : Hid (Calls Try.prog 89 #[.int .i64 k, .int .i64 b, .slice none 0 0, .func (.func 90) #[] #[.pointer (some ⟨w.heap.size + 1, 0, none⟩)]] ((w.alloc (.cells #[] 9)).alloc (.cells #[.slice (some ⟨w.heap.size, 0, none⟩) 0 0] 32)) fun e w' => e = .returned (.tuple #[]) ∧ ∃ a cap l', w'.cell? ⟨w.heap.size + 1, 0, none⟩ = some (.slice a (List.length l') cap) ∧ Hid (OS w.heap.size w' (.slice a (List.length l') cap) l' ∧ Below w.heap.size w w' ∧ (∀ t, t ∈ l' ↔ WwP k b [] t) ∧ l'.length ≤ 1000)) := by
    refine (wrong_nil (w.heap.size + 1) k b _ (kOk_parts hk).1).mono ?_
    rintro e w' ⟨rfl, hb⟩
    obtain ⟨v, h2, h3, h4⟩ := hX.later hb
    obtain ⟨a, cap, rfl⟩ := h3.read.slice
    refine ⟨rfl, a, cap, [], by unfold World.cell?; simp only [h2]; rfl, h3, hB.trans (hb.mono hB.size), fun t => ⟨fun h => by simp at h, fun ⟨i, u, h, _⟩ => ?_⟩, by simp⟩
    have := kL_rng k
    simp at h; omega
  clear hX hB hk
  go_enter Try.func70, Try.ntmps70
  go_wp2_with (go_at_call 89; refine HWR.out.mono ?_; rintro e w5 ⟨rfl, a, cap, l', hc5, HP⟩)
  have HO := Lib.hid (ordered_any (.slice a (List.length l') cap) l' w.heap.size w5 HP.out.1 (by have := HP.out.2.2.2; omega) HP.out.2.1.size)
  refine HO.out.mono ?_
  rintro e w6 ⟨v6, rfl, ho6, hb6⟩
  obtain ⟨o1, o2⟩ := ordS_asc l'
  have HF : Hid (WsPost k b [] w (.returned v6) w6) := ⟨v6, ordS l', rfl, ho6, o1, fun t => (o2 t).trans (HP.out.2.2.1 t), Nat.le_trans (ordS_len l') HP.out.2.2.2, HP.out.2.1.trans hb6⟩
  obtain ⟨a6, c6, rfl⟩ := ho6.read.slice
  go_wp2_with fail
  go_ret
  exact HF.out
set_option maxRecDepth 100000 in
set_option maxHeartbeats 2000000 in
theorem wrongWords_any (k : Int) (b : Nat) (xs : List Int) (g c : Nat) (w : World) (ho : OI 0 w (.slice (some ⟨g, 0, none⟩) xs.length c) xs) (hk : kOk k b = true) (hb36 : b ≤ 36) (hxl : xs.length ≤ 20) (hxd : ∀ z ∈ xs, 0 ≤ z ∧ z < (b : Int)) :
    Calls Try.prog 70 #[.slice (some ⟨g, 0, none⟩) xs.length c, .int .i64 b, .int .i64 k] w (WsPost k b xs w) := by
  obtain ⟨hX, hB⟩ := WX.made w
  have HWR : Hid (Calls Try.prog 89 #[.int .i64 k, .int .i64 b, .slice (some ⟨g, 0, none⟩) xs.length c, .func (.func 90) #[] #[.pointer (some ⟨w.heap.size + 1, 0, none⟩)]] ((w.alloc (.cells #[] 9)).alloc (.cells #[.slice (some ⟨w.heap.size, 0, none⟩) 0 0] 32)) fun e w' => e = .returned (.tuple #[]) ∧ ∃ a cap l', w'.cell? ⟨w.heap.size + 1, 0, none⟩ = some (.slice a (List.length l') cap) ∧ Hid (OS w.heap.size w' (.slice a (List.length l') cap) l' ∧ Below w.heap.size w w' ∧ (∀ t, t ∈ l' ↔ WwP k b xs t) ∧ l'.length ≤ 1000)) := by
    refine (wrong_any (w.heap.size + 1) w.heap.size k b xs g c _ hX (ho.later hB) hk hb36 hxl hxd).mono ?_
    rintro e w' ⟨rfl, l', h1, ⟨v, h2, h3, h4⟩, h5, h6⟩
    obtain ⟨a, cap, rfl⟩ := h3.read.slice
    exact ⟨rfl, a, cap, l', by unfold World.cell?; simp only [h2]; rfl, h3, hB.trans h1, h5, h6⟩
  clear hX hB ho hxd hk
  go_enter Try.func70, Try.ntmps70
  go_wp2_with (go_at_call 89; refine HWR.out.mono ?_; rintro e w5 ⟨rfl, a, cap, l', hc5, HP⟩)
  have HO := Lib.hid (ordered_any (.slice a (List.length l') cap) l' w.heap.size w5 HP.out.1 (by have := HP.out.2.2.2; omega) HP.out.2.1.size)
  refine HO.out.mono ?_
  rintro e w6 ⟨v6, rfl, ho6, hb6⟩
  obtain ⟨o1, o2⟩ := ordS_asc l'
  have HF : Hid (WsPost k b xs w (.returned v6) w6) := ⟨v6, ordS l', rfl, ho6, o1, fun t => (o2 t).trans (HP.out.2.2.1 t), Nat.le_trans (ordS_len l') HP.out.2.2.2, HP.out.2.1.trans hb6⟩
  obtain ⟨a6, c6, rfl⟩ := ho6.read.slice
  go_wp2_with fail
  go_ret
  exact HF.out
def wwB (s : ByteArray) (b k : Int) : Bool := digB s b 20 && kOk k b
def WwPost (s : ByteArray) (b k : Int) (w : World) (e : Ending) (w' : World) : Prop :=
  ∃ v l, e = .returned (.tuple #[v, .bool (wwB s b k)]) ∧ OS w.heap.size w' v l ∧ AscS l ∧ (∀ t, t ∈ l ↔ wwB s b k = true ∧ WwP k b (dgs s) t) ∧ l.length ≤ 2000000 ∧ Below w.heap.size w w'
theorem WwPost.no {s : ByteArray} {b k : Int} {w w' : World} (h : wwB s b k = false) (hb : Below w.heap.size w w') : WwPost s b k w (.returned (.tuple #[.slice none 0 0, .bool false])) w' :=
  ⟨_, [], by rw [h], OV.nil _ _ _, AscS.nil, fun t => by rw [h]; simp, by simp, hb⟩
set_option maxRecDepth 100000 in
set_option maxHeartbeats 2000000 in
theorem implWw_go (s : ByteArray) (b : Nat) (k : Int) (w : World) (hs : s.size ≤ 1048576) (hd : digB s b 20 = true) (hk : kOk k b = true) :
    Calls Try.prog 36 #[.string s, .int .i64 b, .int .i64 k] w (WwPost s b k w) := by
  obtain ⟨hb2, hs20, hdm⟩ := dig_mem hd
  have HD : Hid (∀ wx, Calls Try.prog 42 #[.string s, .int .i64 b] wx fun e w' => ∃ v, e = .returned (.tuple #[v, .bool true]) ∧ OI wx.heap.size w' v (dgs s) ∧ Below wx.heap.size wx w') := fun wx => by
    have HQ := Lib.hid (digitsOf_any s b 20 wx hs)
    go_enter Try.func42, Try.ntmps42
    go_wp2_with (go_at_call 61; refine HQ.out.mono ?_; rintro e w1 ⟨v, rfl, ho, hb⟩)
    go_ret2
    rw [hd, if_pos rfl] at ho
    exact ⟨v, rfl, ho, hb⟩
  have HK : Hid (∀ wx, Calls Try.prog 69 #[.int .i64 k, .int .i64 b] wx fun e w' => e = .returned (.bool true) ∧ wx = w') := fun wx => by
    have := kindOk_any k b wx
    rw [hk] at this; exact this
  have HB : Hid (wwB s b k = true) := by unfold Hid wwB; rw [hd, hk]; rfl
  have HKK := Lib.hid hk
  have HDM := Lib.hid hdm
  have hb36 : b ≤ 36 := by omega
  have hdl : (dgs s).length ≤ 20 := by rw [dgs_len]; omega
  clear hd hk hdm hb2 hs20
  go_enter Try.func36, Try.ntmps36
  go_wp2_with fail
  refine (HD.out _).mono ?_
  rintro e w1 ⟨v, rfl, ho, hb⟩
  have HW : Hid (∀ w2, Below w1.heap.size w1 w2 → Calls Try.prog 70 #[v, .int .i64 b, .int .i64 k] w2 (WsPost k b (dgs s) w2)) := fun w2 h => by
    rcases OK.shape ho with ⟨rfl, h0⟩ | ⟨g, cap, rfl, hB, hcap⟩
    · rw [h0]; exact wrongWords_nil k b w2 HKK.out
    · exact wrongWords_any k b (dgs s) g cap w2 ((ho.mono (Nat.zero_le _)).later h) HKK.out hb36 hdl HDM.out
  obtain ⟨a, c, rfl⟩ := ho.slice
  have HB1 := Lib.hid hb
  clear ho hb
  go_wp2_with (first
    | (go_at_call 69; refine (HK.out _).mono ?_; rintro e w' ⟨rfl, rfl⟩)
    | (go_at_call 70; refine (HW.out _ (Below.refl _ _)).mono ?_; rintro e w5 ⟨v5, l5, rfl, ho5, hA5, hm5, hl5, hb5⟩))
  have hF : WwPost s b k w (.returned (.tuple #[v5, .bool true])) w5 := ⟨v5, l5, by rw [HB.out], ho5.mono HB1.out.size, hA5, fun t => by rw [hm5 t, HB.out]; simp, by omega, HB1.out.trans (hb5.mono HB1.out.size)⟩
  go_ret2
  exact hF
end Go.Proofs.Ytgagjmnmfgfpfaa
