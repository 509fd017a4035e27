/- WrongWords: the program's wrong and wrongWords. -/
import Derived.Test.YtgagjmnmfgfpfaaWwG
namespace Go.Proofs.Ytgagjmnmfgfpfaa
open Go.RowKit

theorem kL_rng (k : Int) : 1 ≤ kL k ∧ kL k ≤ 3 := by unfold kL; split <;> (try split) <;> omega
theorem chg_any (k : Int) (X B : Nat) (xs : List Int) (g c k1 k2 k3 k4 i n b : Nat) (f : List Int) (l : List ByteArray) (w : World) (hE : EW X xs g c k1 k2 k3 k4 i n w) (hX : WX X B w l)
    (hin : i + n ≤ xs.length) (hxl : xs.length ≤ 20) (hf : f = (xs.drop i).take n) (hn : n = kL k) (hk : kOk k b = true) (hb36 : b ≤ 36) (hxd : ∀ z ∈ xs, 0 ≤ z ∧ z < (b : Int)) (hl : l.length ≤ 900000) :
    Calls Try.prog 98 #[.int .i64 k, .int .i64 b, .slice (some ⟨g, i, none⟩) n (c - i), .func (.func 99) #[] #[.pointer (some ⟨k1, 0, none⟩), .pointer (some ⟨k2, 0, none⟩), .pointer (some ⟨k3, 0, none⟩), .pointer (some ⟨k4, 0, none⟩)]] w (CPost X B l (fun t => ∃ u, Pr k b f u ∧ t = wOf (wAt xs i n u)) w) := by
  have hfl : f.length = kL k := by rw [hf, List.length_take, List.length_drop]; omega
  have hfd : ∀ z ∈ f, Dg (b : Int) z := fun z hz => hxd z (by rw [hf] at hz; exact List.mem_of_mem_drop (List.mem_of_mem_take hz))
  have hQ : ∀ t, (∃ u, u ∈ chs k b f ∧ t = wOf (wAt xs i n u)) ↔ ∃ u, Pr k b f u ∧ t = wOf (wAt xs i n u) := fun t =>
    ⟨fun ⟨u, h1, h2⟩ => ⟨u, (chs_iff hk hfl hfd).1 h1, h2⟩, fun ⟨u, h1, h2⟩ => ⟨u, (chs_iff hk hfl hfd).2 h1, h2⟩⟩
  obtain ⟨h1, h5⟩ := kOk_parts hk
  rcases h1 with rfl | rfl | rfl | rfl | rfl | rfl
  · exact (ch0 X B xs g c k1 k2 k3 k4 i n b f l w hE hX hin hxl hf (by rw [hn]; rfl) hb36 hxd hl).mono fun _ _ h => h.mono hQ
  · exact (ch1 X B xs g c k1 k2 k3 k4 i n b f l w hE hX hin hxl hf (by rw [hn]; decide) hb36 hxd hl).mono fun _ _ h => h.mono hQ
  · exact (ch2 X B xs g c k1 k2 k3 k4 i n b f l w hE hX hin hxl hf (by rw [hn]; decide) hb36 hxd hl).mono fun _ _ h => h.mono hQ
  · exact (ch3 X B xs g c k1 k2 k3 k4 i n b f l w hE hX hin hxl hf (by rw [hn]; decide) hb36 hxd hl).mono fun _ _ h => h.mono hQ
  · exact (ch4 X B xs g c k1 k2 k3 k4 i n b f l w hE hX hin hxl hf (by rw [hn]; decide) hb36 hxd hl).mono fun _ _ h => h.mono hQ
  · exact (ch5 X B xs g c k1 k2 k3 k4 i n b f l w hE hX hin hxl hf (by rw [hn]; rfl) hb36 hxd hl (by have := h5 rfl; omega)).mono fun _ _ h => h.mono hQ
theorem EW.made {X : Nat} {xs : List Int} {g c n : Nat} {w : World} (ho : OI 0 w (.slice (some ⟨g, 0, none⟩) xs.length c) xs) :
    EW X xs g c (w.heap.size + 1) w.heap.size (w.heap.size + 1 + 1 + 1) (w.heap.size + 1 + 1) 0 n ((((w.alloc (.cells #[.slice (some ⟨g, 0, none⟩) xs.length c] 47)).alloc (.cells #[.func (.func 90) #[] #[.pointer (some ⟨X, 0, none⟩)]] 97)).alloc (.cells #[.int .i64 n] 3)).alloc (.cells #[.int .i64 0] 3)) ∧
    Below w.heap.size w ((((w.alloc (.cells #[.slice (some ⟨g, 0, none⟩) xs.length c] 47)).alloc (.cells #[.func (.func 90) #[] #[.pointer (some ⟨X, 0, none⟩)]] 97)).alloc (.cells #[.int .i64 n] 3)).alloc (.cells #[.int .i64 0] 3)) := by
  have nt2 : (47 : TypeId) ≠ 9 ∧ (47 : TypeId) ≠ 32 := by decide
  have nt3 : (97 : TypeId) ≠ 9 ∧ (97 : TypeId) ≠ 32 := by decide
  have nt4 : (3 : TypeId) ≠ 9 ∧ (3 : TypeId) ≠ 32 := by decide
  have a1 := BX.new w 47 (.slice (some ⟨g, 0, none⟩) xs.length c) nt2
  generalize hw1 : w.alloc (.cells #[.slice (some ⟨g, 0, none⟩) xs.length c] 47) = w1 at *
  have s1 : w1.heap.size = w.heap.size + 1 := by rw [← hw1]; simp
  have g1 : Below w.heap.size w w1 := by rw [← hw1]; exact (Below.refl _ _).alloc (Nat.le_refl _) _
  have a2 := BX.new w1 97 (.func (.func 90) #[] #[.pointer (some ⟨X, 0, none⟩)]) nt3
  generalize hw2 : w1.alloc (.cells #[.func (.func 90) #[] #[.pointer (some ⟨X, 0, none⟩)]] 97) = w2 at *
  have s2 : w2.heap.size = w.heap.size + 1 + 1 := by rw [← hw2]; simp [s1]
  have g2 : Below w1.heap.size w1 w2 := by rw [← hw2]; exact (Below.refl _ _).alloc (Nat.le_refl _) _
  have a3 := BX.new w2 3 (.int .i64 n) nt4
  generalize hw3 : w2.alloc (.cells #[.int .i64 n] 3) = w3 at *
  have s3 : w3.heap.size = w.heap.size + 1 + 1 + 1 := by rw [← hw3]; simp [s2]
  have g3 : Below w2.heap.size w2 w3 := by rw [← hw3]; exact (Below.refl _ _).alloc (Nat.le_refl _) _
  have a4 := BX.new w3 3 (.int .i64 0) nt4
  generalize hw4 : w3.alloc (.cells #[.int .i64 0] 3) = w4 at *
  have g4 : Below w3.heap.size w3 w4 := by rw [← hw4]; exact (Below.refl _ _).alloc (Nat.le_refl _) _
  rw [s1] at a2
  rw [s2] at a3
  rw [s3] at a4
  have g14 : Below w1.heap.size w1 w4 := g2.trans ((g3.trans (g4.mono g3.size)).mono g2.size)
  have g24 : Below w2.heap.size w2 w4 := g3.trans (g4.mono g3.size)
  have g04 : Below w.heap.size w w4 := g1.trans (g14.mono g1.size)
  exact ⟨⟨ho.later g04, a2.later g24, a1.later g14, a4, a3.later g4⟩, g04⟩
def WrPost (X B : Nat) (k b : Int) (xs : List Int) (w : World) (e : Ending) (w' : World) : Prop :=
  e = .returned (.tuple #[]) ∧ ∃ l', Below B w w' ∧ WX X B w' l' ∧ (∀ t, t ∈ l' ↔ WwP k b xs t) ∧ l'.length ≤ 1000
set_option maxRecDepth 100000 in
set_option maxHeartbeats 4000000 in
theorem wrong_any (X B : Nat) (k : Int) (b : Nat) (xs : List Int) (g c : Nat) (w : World) (hX : WX X B w []) (ho : OI 0 w (.slice (some ⟨g, 0, none⟩) xs.length c) xs) (hk : kOk k b = true) (hb36 : b ≤ 36) (hxl : xs.length ≤ 20) (hxd : ∀ z ∈ xs, 0 ≤ z ∧ z < (b : Int)) :
    Calls Try.prog 89 #[.int .i64 k, .int .i64 b, .slice (some ⟨g, 0, none⟩) xs.length c, .func (.func 90) #[] #[.pointer (some ⟨X, 0, none⟩)]] w (WrPost X B k b xs w) := by
  obtain ⟨N, hN⟩ : ∃ N, N = kL k := ⟨_, rfl⟩
  obtain ⟨hn1, hn3⟩ := kL_rng k
  obtain ⟨hEW, hbF⟩ := EW.made (X := X) (n := N) ho
  have HER : Hid (∀ wx, Calls Try.prog 97 #[.int .i64 k] wx fun e w' => e = .returned (.int .i64 N) ∧ wx = w') := fun wx => by
    rw [hN]; exact errorLength_any k wx (kOk_parts hk).1
  have hcap := ho.read.cap
  have HEW := Lib.hid hEW
  have HBF := Lib.hid hbF
  have HX := Lib.hid hX
  have HBW : Hid (B ≤ w.heap.size) := hX.le
  rw [← hN] at hn1 hn3
  have HN := Lib.hid hN
  have HK := Lib.hid hk
  have HXD := Lib.hid hxd
  clear hEW hbF hX hN hk hxd ho
  go_enter Try.func89, Try.ntmps89
  go_upto_region 3 with (go_at_call 97; refine (HER.out _).mono ?_; rintro e wq ⟨rfl, rfl⟩)
  have HWX : Hid (WX X B _ []) := HX.out.later HBF.out
  generalize (((w.alloc (.cells #[.slice (some ⟨g, 0, none⟩) xs.length c] 47)).alloc (.cells #[.func (.func 90) #[] #[.pointer (some ⟨X, 0, none⟩)]] 97)).alloc (.cells #[.int .i64 N] 3)).alloc (.cells #[.int .i64 0] 3) = w0 at *
  go_loopg [9] (xs.length + 1) (fun q pv wr => ∃ (k3 p : Nat) (l' : List ByteArray), Hid (q + p = xs.length + 1) ∧ p ≤ xs.length + 1 ∧ pv = .pointer (some ⟨k3, 0, none⟩) ∧ Hid (EW X xs g c (w.heap.size + 1) w.heap.size k3 (w.heap.size + 1 + 1) p N wr) ∧ Hid (WX X B wr l') ∧ Hid (∀ t, t ∈ l' ↔ WwM k b xs p t) ∧ l'.length ≤ p * 40 ∧ Hid (Below B w wr))
  case atStart => exact ⟨_, 0, [], Lib.hid (by omega), by omega, rfl, HEW.out, HWX.out, Lib.hid (fun t => by simpa using WwM.zero), by simp, HBF.out.mono HBW.out⟩
  case round =>
    clear HEW HWX HX HBF
    obtain ⟨k3, p, l', HQ, hp, rfl, HE, HX, HL, hll, HB⟩ := hrel
    have d1 := HE.out.b1.cell
    have d2 := HE.out.b2.cell
    have d3 := HE.out.b3.cell
    have d4 := HE.out.b4.cell
    obtain ⟨E, hEE⟩ : ∃ E : Nat, (E : Int) = (p : Int) + (N : Int) := ⟨p + N, by omega⟩
    have hEn : E = p + N := by omega
    have hw1 : IntKind.i64.wrap ((p : Int) + (N : Int)) = (E : Int) := by rw [hEE]; exact IntWalk.i64_in _ (by omega)
    have HEN := Lib.hid hEn
    clear hEE
    by_cases hlt : E ≤ xs.length
    · have q1 : (E : Int) ≤ (xs.length : Int) := by omega
      have q2 : (p : Int) ≤ (E : Int) := by omega
      have q3 : (E : Int) ≤ (c : Int) := by omega
      have q4 : (p : Int) ≤ (c : Int) := by omega
      have q5 : E - p = N := by omega
      have hpc : ¬ c = p := by omega
      have HQ5 := Lib.hid q5
      have HCH : Hid (Calls Try.prog 98 #[.int .i64 k, .int .i64 b, .slice (some ⟨g, p, none⟩) N (c - p), .func (.func 99) #[] #[.pointer (some ⟨w.heap.size + 1, 0, none⟩), .pointer (some ⟨w.heap.size, 0, none⟩), .pointer (some ⟨k3, 0, none⟩), .pointer (some ⟨w.heap.size + 1 + 1, 0, none⟩)]] wr fun e w' => e = .returned (.tuple #[]) ∧ Hid (EW X xs g c (w.heap.size + 1) w.heap.size k3 (w.heap.size + 1 + 1) p N w') ∧ Hid (∃ l2, WX X B w' l2 ∧ (∀ t, t ∈ l2 ↔ WwM k b xs (p + 1) t) ∧ l2.length ≤ (p + 1) * 40 ∧ Below B w w')) := by
        refine (chg_any k X B xs g c _ _ k3 _ p N b _ l' wr HE.out HX.out (by omega) hxl rfl HN.out HK.out hb36 HXD.out (by omega)).mono ?_
        rintro e w' hp
        obtain ⟨rfl, l2, r1, r2, r3, r4, r5⟩ := hp
        refine ⟨rfl, HE.out.kt r2, l2, r3, fun t => ?_, by omega, HB.out.trans r1⟩
        rw [r4 t, HL.out t, WwM.succ (by rw [← HN.out]; omega), ← HN.out]
      clear hEn
      go_wp2_with (go_at_call 98; refine HCH.out.mono ?_; rintro e w5 ⟨rfl, HE5, HP5⟩; have e3 := HE5.out.b3.cell)
      have hbA : Below w5.heap.size w5 (w5.alloc (.cells #[.int .i64 ((p : Int) + 1)] 3)) := (Below.refl _ _).alloc (Nat.le_refl _) _
      have HE6 : Hid (EW X xs g c (w.heap.size + 1) w.heap.size w5.heap.size (w.heap.size + 1 + 1) (p + 1) N (w5.alloc (.cells #[.int .i64 ((p : Int) + 1)] 3))) := by
        have h := HE5.out.kt (Below.kt hbA)
        exact ⟨h.own, h.b1, h.b2, by have := BX.new w5 3 (.int .i64 ((p : Int) + 1)) (by decide); simpa using this, h.b4⟩
      obtain ⟨l2, y1, y2, y3, y4⟩ := HP5.out
      have HX6 := Lib.hid (y1.later hbA)
      have HL6 := Lib.hid y2
      have HB6 : Hid (Below B w (w5.alloc (.cells #[.int .i64 ((p : Int) + 1)] 3))) := y4.trans (hbA.mono y1.le)
      have hp1 : p + 1 ≤ xs.length := by have := HEN.out; omega
      clear y1 y2 y4 hbA HP5 HE5 q5
      go_roundg (xs.length - p)
      case measure => have := HQ.out; omega
      case rel => exact ⟨w5.heap.size, p + 1, l2, Lib.hid (by omega), by omega, rfl, HE6, HX6, HL6, y3, HB6⟩
    · have q1 : ¬ (E : Int) ≤ (xs.length : Int) := by omega
      have HFIN : Hid (WrPost X B k b xs w (.returned (.tuple #[])) wr) := ⟨rfl, l', HB.out, HX.out, fun t => (HL.out t).trans (WwM.stop (by rw [← HN.out]; omega)), by omega⟩
      clear hEn
      go_wp2_with fail
      go_end0
      exact HFIN.out
end Go.Proofs.Ytgagjmnmfgfpfaa
