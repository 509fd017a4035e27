/- WrongWords: the program's changes, kind by kind. -/
import Derived.Test.YtgagjmnmfgfpfaaWwF
import Derived.Deep.DeepCutAuto
namespace Go.Proofs.Ytgagjmnmfgfpfaa
open Go.RowKit

theorem CPost.from {X B : Nat} {l : List ByteArray} {Q : ByteArray → Prop} {w w0 : World} {e : Ending} {w' : World} (h : CPost X B l Q w0 e w') (hb : Below w.heap.size w w0) (hB : B ≤ w.heap.size) : CPost X B l Q w e w' := by
  obtain ⟨h1, l', h2, h3, h4, h5, h6⟩ := h
  exact ⟨h1, l', (hb.mono hB).trans h2, (Below.kt hb).trans h3, h4, h5, h6⟩
theorem CPost.none {X B : Nat} {l : List ByteArray} {Q : ByteArray → Prop} {w w' : World} (hX : WX X B w l) (hb : Below w.heap.size w w') (hq : ∀ t, ¬ Q t) : CPost X B l Q w (.returned (.tuple #[])) w' :=
  ⟨rfl, l, hb.mono hX.le, Below.kt hb, hX.later hb, fun t => ⟨.inl, fun h => h.elim id fun h => absurd h (hq t)⟩, by omega⟩
theorem CPost.one {X B : Nat} {l : List ByteArray} {Q : ByteArray → Prop} {s : ByteArray} {w w0 : World} {e : Ending} {w' : World} (h : WPost X B (l ++ [s]) w0 e w') (hb : Below w.heap.size w w0) (hB : B ≤ w.heap.size) (hq : ∀ t, Q t ↔ t = s) : CPost X B l Q w e w' := by
  obtain ⟨h1, h2, h3, h4⟩ := h
  refine ⟨h1, _, (hb.mono hB).trans h2, (Below.kt hb).trans h3, h4, fun t => ?_, by rw [List.length_append]; simp⟩
  rw [List.mem_append, List.mem_singleton, hq t]
theorem chs0 {b : Nat} {f u : List Int} : u ∈ chs 0 b f ↔ ∃ d : Nat, d < b ∧ (d : Int) ≠ f.getD 0 0 ∧ u = [(d : Int)] := by
  unfold chs
  rw [if_pos rfl, List.mem_map]
  constructor
  · rintro ⟨d, hd, rfl⟩
    rw [List.mem_filter, dgB_mem] at hd
    exact ⟨d.toNat, by omega, by rw [show ((d.toNat : Nat) : Int) = d by omega]; simpa using hd.2, by rw [show ((d.toNat : Nat) : Int) = d by omega]⟩
  · rintro ⟨d, h1, h2, rfl⟩
    exact ⟨d, List.mem_filter.2 ⟨dgB_mem.2 (by omega), by simpa using h2⟩, rfl⟩
theorem chs12 {k : Int} (hk : k = 1 ∨ k = 2) {b : Int} {f u : List Int} {m : Nat} (hm : f.length - 1 = m) : u ∈ chs k b f ↔ f.getD 0 0 ≠ f.getD m 0 ∧ u = (f.set 0 (f.getD m 0)).set m (f.getD 0 0) := by
  unfold chs
  rw [if_neg (by omega), if_pos hk, hm]
  by_cases h : f.getD 0 0 ≠ f.getD m 0
  · rw [if_pos h, List.mem_singleton]; exact ⟨fun e => ⟨h, e⟩, fun e => e.2⟩
  · rw [if_neg h]; exact ⟨fun e => (by cases e), fun e => absurd e.1 h⟩
theorem chs34 {k : Int} (hk : k = 3 ∨ k = 4) {b : Nat} {f u : List Int} {m : Nat} (hm : f.length - 1 = m) : u ∈ chs k b f ↔ f.getD 0 0 = f.getD m 0 ∧ ∃ d : Nat, d < b ∧ (d : Int) ≠ f.getD 0 0 ∧ u = (f.set 0 (d : Int)).set m (d : Int) := by
  unfold chs
  rw [if_neg (by omega), if_neg (by omega), if_pos hk, hm]
  by_cases h : f.getD 0 0 = f.getD m 0
  · rw [if_pos h, List.mem_map]
    constructor
    · rintro ⟨d, hd, rfl⟩
      rw [List.mem_filter, dgB_mem] at hd
      exact ⟨h, d.toNat, by omega, by rw [show ((d.toNat : Nat) : Int) = d by omega]; simpa using hd.2, by rw [show ((d.toNat : Nat) : Int) = d by omega]⟩
    · rintro ⟨_, d, h1, h2, rfl⟩
      exact ⟨d, List.mem_filter.2 ⟨dgB_mem.2 (by omega), by simpa using h2⟩, rfl⟩
  · rw [if_neg h]; exact ⟨fun e => (by cases e), fun e => absurd e.1 h⟩
theorem chs5a {b : Int} {f u : List Int} (h1 : f.getD 1 0 = 0) (h2 : 2 ≤ f.getD 0 0 ∧ f.getD 0 0 ≤ 9) : u ∈ chs 5 b f ↔ u = [1, f.getD 0 0] := by
  unfold chs
  rw [if_neg (by decide), if_neg (by decide), if_neg (by decide), if_pos ⟨h1, h2⟩, List.mem_singleton]
theorem chs5b {b : Int} {f u : List Int} (h0 : ¬ (f.getD 1 0 = 0 ∧ 2 ≤ f.getD 0 0 ∧ f.getD 0 0 ≤ 9)) (h1 : f.getD 0 0 = 1) (h2 : 2 ≤ f.getD 1 0 ∧ f.getD 1 0 ≤ 9) : u ∈ chs 5 b f ↔ u = [f.getD 1 0, 0] := by
  unfold chs
  rw [if_neg (by decide), if_neg (by decide), if_neg (by decide), if_neg h0, if_pos ⟨h1, h2⟩, List.mem_singleton]
theorem chs5n {b : Int} {f u : List Int} (h0 : ¬ (f.getD 1 0 = 0 ∧ 2 ≤ f.getD 0 0 ∧ f.getD 0 0 ≤ 9)) (h1 : ¬ (f.getD 0 0 = 1 ∧ 2 ≤ f.getD 1 0 ∧ f.getD 1 0 ≤ 9)) : ¬ u ∈ chs 5 b f := by
  unfold chs
  rw [if_neg (by decide), if_neg (by decide), if_neg (by decide), if_neg h0, if_neg h1]
  exact fun h => by cases h
theorem FW.made {X : Nat} {xs : List Int} {g c k1 k2 k3 k4 i n : Nat} {b : Int} {m : Nat} {w : World} (h : EW X xs g c k1 k2 k3 k4 i n w) :
    FW X xs g c k1 k2 k3 k4 i n b w.heap.size (w.heap.size + 1) (w.heap.size + 1 + 1) (w.heap.size + 1 + 1 + 1) m (((((w.alloc (.cells #[.int .i64 b] 2)).alloc (.cells #[.slice (some ⟨g, i, none⟩) n (c - i)] 47)).alloc (.cells #[.func (.func 99) #[] #[.pointer (some ⟨k1, 0, none⟩), .pointer (some ⟨k2, 0, none⟩), .pointer (some ⟨k3, 0, none⟩), .pointer (some ⟨k4, 0, none⟩)]] 97)).alloc (.cells #[.int .i64 m] 3))) ∧
    Below w.heap.size w (((((w.alloc (.cells #[.int .i64 b] 2)).alloc (.cells #[.slice (some ⟨g, i, none⟩) n (c - i)] 47)).alloc (.cells #[.func (.func 99) #[] #[.pointer (some ⟨k1, 0, none⟩), .pointer (some ⟨k2, 0, none⟩), .pointer (some ⟨k3, 0, none⟩), .pointer (some ⟨k4, 0, none⟩)]] 97)).alloc (.cells #[.int .i64 m] 3))) := by
  have nt1 : (2 : TypeId) ≠ 9 ∧ (2 : TypeId) ≠ 32 := by decide
  have nt2 : (47 : TypeId) ≠ 9 ∧ (47 : TypeId) ≠ 32 := by decide
  have nt3 : (97 : TypeId) ≠ 9 ∧ (97 : TypeId) ≠ 32 := by decide
  have nt4 : (3 : TypeId) ≠ 9 ∧ (3 : TypeId) ≠ 32 := by decide
  have a1 := BX.new w 2 (.int .i64 b) nt1
  generalize hw1 : w.alloc (.cells #[.int .i64 b] 2) = w1 at *
  have s1 : w1.heap.size = w.heap.size + 1 := by rw [← hw1]; simp
  have g1 : Below w.heap.size w w1 := by rw [← hw1]; exact (Below.refl _ _).alloc (Nat.le_refl _) _
  have a2 := BX.new w1 47 (.slice (some ⟨g, i, none⟩) n (c - i)) nt2
  generalize hw2 : w1.alloc (.cells #[.slice (some ⟨g, i, none⟩) n (c - i)] 47) = w2 at *
  have s2 : w2.heap.size = w.heap.size + 1 + 1 := by rw [← hw2]; simp [s1]
  have g2 : Below w1.heap.size w1 w2 := by rw [← hw2]; exact (Below.refl _ _).alloc (Nat.le_refl _) _
  have a3 := BX.new w2 97 (.func (.func 99) #[] #[.pointer (some ⟨k1, 0, none⟩), .pointer (some ⟨k2, 0, none⟩), .pointer (some ⟨k3, 0, none⟩), .pointer (some ⟨k4, 0, none⟩)]) nt3
  generalize hw3 : w2.alloc (.cells #[.func (.func 99) #[] #[.pointer (some ⟨k1, 0, none⟩), .pointer (some ⟨k2, 0, none⟩), .pointer (some ⟨k3, 0, none⟩), .pointer (some ⟨k4, 0, none⟩)]] 97) = w3 at *
  have s3 : w3.heap.size = w.heap.size + 1 + 1 + 1 := by rw [← hw3]; simp [s2]
  have g3 : Below w2.heap.size w2 w3 := by rw [← hw3]; exact (Below.refl _ _).alloc (Nat.le_refl _) _
  have a4 := BX.new w3 3 (.int .i64 m) nt4
  generalize hw4 : w3.alloc (.cells #[.int .i64 m] 3) = w4 at *
  have g4 : Below w3.heap.size w3 w4 := by rw [← hw4]; exact (Below.refl _ _).alloc (Nat.le_refl _) _
  rw [s1] at a2
  rw [s2] at a3
  rw [s3] at a4
  have g14 : Below w1.heap.size w1 w4 := g2.trans ((g3.trans (g4.mono g3.size)).mono g2.size)
  have g24 : Below w2.heap.size w2 w4 := g3.trans (g4.mono g3.size)
  have g04 : Below w.heap.size w w4 := g1.trans (g14.mono g1.size)
  exact ⟨⟨h.kt (Below.kt g04), a1.later g14, a2.later g24, a3.later g4, a4⟩, g04⟩
set_option maxRecDepth 100000 in
set_option maxHeartbeats 4000000 in
theorem ch0 (X B : Nat) (xs : List Int) (g c k1 k2 k3 k4 i n b : Nat) (f : List Int) (l : List ByteArray) (w : World) (hE : EW X xs g c k1 k2 k3 k4 i n w) (hX : WX X B w l)
    (hin : i + n ≤ xs.length) (hxl : xs.length ≤ 20) (hf : f = (xs.drop i).take n) (hn3 : n = 1) (hb36 : b ≤ 36) (hxd : ∀ z ∈ xs, 0 ≤ z ∧ z < (b : Int)) (hl : l.length ≤ 900000)  :
    Calls Try.prog 98 #[.int .i64 0, .int .i64 b, .slice (some ⟨g, i, none⟩) n (c - i), .func (.func 99) #[] #[.pointer (some ⟨k1, 0, none⟩), .pointer (some ⟨k2, 0, none⟩), .pointer (some ⟨k3, 0, none⟩), .pointer (some ⟨k4, 0, none⟩)]] w (CPost X B l (fun t => ∃ u, u ∈ chs 0 b f ∧ t = wOf (wAt xs i n u)) w) := by
  have hfl : f.length = n := by rw [hf, List.length_take, List.length_drop]; omega
  have hfm : ∀ z ∈ f, 0 ≤ z ∧ z < (b : Int) := fun z hz => hxd z (by rw [hf] at hz; exact List.mem_of_mem_drop (List.mem_of_mem_take hz))
  obtain ⟨m, hm⟩ : ∃ m, n = m + 1 := ⟨n - 1, by omega⟩
  have hmI : (n : Int) - 1 = (m : Int) := by omega
  have hwm : IntKind.i64.wrap ((n : Int) - 1) = (m : Int) := by rw [hmI]; exact IntWalk.i64_in _ (by omega)
  obtain ⟨hFW, hbF⟩ := FW.made (b := (b : Int)) (m := m) hE
  have HFR : Hid (∀ wr, FW X xs g c k1 k2 k3 k4 i n b w.heap.size (w.heap.size + 1) (w.heap.size + 1 + 1) (w.heap.size + 1 + 1 + 1) m wr → RI wr (.slice (some ⟨g, i, none⟩) n (c - i)) f) := fun wr h => by rw [hf]; exact h.e.frm hin
  have HCB : Hid (∀ v4 u w4, FW X xs g c k1 k2 k3 k4 i n b w.heap.size (w.heap.size + 1) (w.heap.size + 1 + 1) (w.heap.size + 1 + 1 + 1) m w4 → WX X B w4 l → RI w4 v4 u → u.length = n → (∀ z ∈ u, 0 ≤ z ∧ z < (b : Int)) → Calls Try.prog 99 #[v4, .pointer (some ⟨k1, 0, none⟩), .pointer (some ⟨k2, 0, none⟩), .pointer (some ⟨k3, 0, none⟩), .pointer (some ⟨k4, 0, none⟩)] w4 (WPost X B (l ++ [wOf (wAt xs i n u)]) w4)) := fun v4 u w4 h hx hr hul hu =>
    wrong1_any X B xs g c k1 k2 k3 k4 i n v4 u l w4 h.e hx hr hul hin hxl (fun z hz => by
      have := wAt_dig (i := i) (n := n) hxd hu z hz
      omega) (by omega)
  have HX := Lib.hid hX
  have HBF := Lib.hid hbF
  have HFM := Lib.hid hfm
  have HXD := Lib.hid hxd
  have HBW : Hid (B ≤ w.heap.size) := hX.le
  have HFW := Lib.hid hFW
  have HM := Lib.hid hm
  have HFL := Lib.hid hfl
  have HF := Lib.hid hf
  have h0f : 0 < f.length := by omega
  have hmf : m < f.length := by omega
  have HF1 : Hid (f.length - 1 = m) := by unfold Hid; omega
  have hn20 : f.length ≤ 20 := by omega
  have hmn : (m : Int) < (n : Int) := by omega
  have hm3 : m ≤ 2 := by omega
  have hmL : 0 ≤ m := by omega
  have HN3 := Lib.hid hn3
  clear hX hbF hfm hxd hE hFW hm hfl hf hmI hn3
  go_enter Try.func98, Try.ntmps98
  go_upto_region 3 with fail
  have HWX : Hid (WX X B _ l) := HX.out.later HBF.out
  generalize (((w.alloc (.cells #[.int .i64 b] 2)).alloc (.cells #[.slice (some ⟨g, i, none⟩) n (c - i)] 47)).alloc (.cells #[.func (.func 99) #[] #[.pointer (some ⟨k1, 0, none⟩), .pointer (some ⟨k2, 0, none⟩), .pointer (some ⟨k3, 0, none⟩), .pointer (some ⟨k4, 0, none⟩)]] 97)).alloc (.cells #[.int .i64 m] 3) = w0 at *
  have HQ : Hid (∀ t, (∃ d : Nat, d < b ∧ (d : Int) ≠ f.getD 0 0 ∧ t = wOf (wAt xs i n [(d : Int)])) ↔ ∃ u, u ∈ chs 0 b f ∧ t = wOf (wAt xs i n u)) := fun t => by
    constructor
    · rintro ⟨d, h1, h2, h3⟩
      exact ⟨_, chs0.2 ⟨d, h1, h2, rfl⟩, h3⟩
    · rintro ⟨u, hu, h⟩
      obtain ⟨d, h1, h2, rfl⟩ := chs0.1 hu
      exact ⟨d, h1, h2, h⟩
  have HEA : Hid (Calls Try.prog 113 #[.func (.func 114) #[] #[], .pointer (some ⟨w.heap.size, 0, none⟩), .pointer (some ⟨w.heap.size + 1, 0, none⟩), .pointer (some ⟨w.heap.size + 1 + 1, 0, none⟩)] w0 fun e w' => e = .returned (.tuple #[]) ∧ Hid (CPost X B l (fun t => ∃ u, u ∈ chs 0 b f ∧ t = wOf (wAt xs i n u)) w (.returned (.tuple #[])) w')) := by
    refine (each2 X B xs g c k1 k2 k3 k4 i n b _ _ _ _ m f l w0 HFW.out HWX.out hin hxl HF.out HM.out HN3.out hb36 HXD.out hl).mono ?_
    rintro e w' hp
    obtain ⟨rfl, hp2⟩ := hp
    exact ⟨rfl, CPost.from (CPost.mono ⟨rfl, hp2⟩ HQ.out) HBF.out HBW.out⟩
  go_wp2_with (go_at_call 113; refine HEA.out.mono ?_; rintro e w9 ⟨rfl, HP⟩)
  go_end0
  exact HP.out
set_option maxRecDepth 100000 in
set_option maxHeartbeats 4000000 in
theorem ch1 (X B : Nat) (xs : List Int) (g c k1 k2 k3 k4 i n b : Nat) (f : List Int) (l : List ByteArray) (w : World) (hE : EW X xs g c k1 k2 k3 k4 i n w) (hX : WX X B w l)
    (hin : i + n ≤ xs.length) (hxl : xs.length ≤ 20) (hf : f = (xs.drop i).take n) (hn3 : 2 ≤ n ∧ n ≤ 3) (hb36 : b ≤ 36) (hxd : ∀ z ∈ xs, 0 ≤ z ∧ z < (b : Int)) (hl : l.length ≤ 900000)  :
    Calls Try.prog 98 #[.int .i64 1, .int .i64 b, .slice (some ⟨g, i, none⟩) n (c - i), .func (.func 99) #[] #[.pointer (some ⟨k1, 0, none⟩), .pointer (some ⟨k2, 0, none⟩), .pointer (some ⟨k3, 0, none⟩), .pointer (some ⟨k4, 0, none⟩)]] w (CPost X B l (fun t => ∃ u, u ∈ chs 1 b f ∧ t = wOf (wAt xs i n u)) w) := by
  have hfl : f.length = n := by rw [hf, List.length_take, List.length_drop]; omega
  have hfm : ∀ z ∈ f, 0 ≤ z ∧ z < (b : Int) := fun z hz => hxd z (by rw [hf] at hz; exact List.mem_of_mem_drop (List.mem_of_mem_take hz))
  obtain ⟨m, hm⟩ : ∃ m, n = m + 1 := ⟨n - 1, by omega⟩
  have hmI : (n : Int) - 1 = (m : Int) := by omega
  have hwm : IntKind.i64.wrap ((n : Int) - 1) = (m : Int) := by rw [hmI]; exact IntWalk.i64_in _ (by omega)
  obtain ⟨hFW, hbF⟩ := FW.made (b := (b : Int)) (m := m) hE
  have HFR : Hid (∀ wr, FW X xs g c k1 k2 k3 k4 i n b w.heap.size (w.heap.size + 1) (w.heap.size + 1 + 1) (w.heap.size + 1 + 1 + 1) m wr → RI wr (.slice (some ⟨g, i, none⟩) n (c - i)) f) := fun wr h => by rw [hf]; exact h.e.frm hin
  have HCB : Hid (∀ v4 u w4, FW X xs g c k1 k2 k3 k4 i n b w.heap.size (w.heap.size + 1) (w.heap.size + 1 + 1) (w.heap.size + 1 + 1 + 1) m w4 → WX X B w4 l → RI w4 v4 u → u.length = n → (∀ z ∈ u, 0 ≤ z ∧ z < (b : Int)) → Calls Try.prog 99 #[v4, .pointer (some ⟨k1, 0, none⟩), .pointer (some ⟨k2, 0, none⟩), .pointer (some ⟨k3, 0, none⟩), .pointer (some ⟨k4, 0, none⟩)] w4 (WPost X B (l ++ [wOf (wAt xs i n u)]) w4)) := fun v4 u w4 h hx hr hul hu =>
    wrong1_any X B xs g c k1 k2 k3 k4 i n v4 u l w4 h.e hx hr hul hin hxl (fun z hz => by
      have := wAt_dig (i := i) (n := n) hxd hu z hz
      omega) (by omega)
  have HX := Lib.hid hX
  have HBF := Lib.hid hbF
  have HFM := Lib.hid hfm
  have HXD := Lib.hid hxd
  have HBW : Hid (B ≤ w.heap.size) := hX.le
  have HFW := Lib.hid hFW
  have HM := Lib.hid hm
  have HFL := Lib.hid hfl
  have HF := Lib.hid hf
  have h0f : 0 < f.length := by omega
  have hmf : m < f.length := by omega
  have HF1 : Hid (f.length - 1 = m) := by unfold Hid; omega
  have hn20 : f.length ≤ 20 := by omega
  have hmn : (m : Int) < (n : Int) := by omega
  have hm3 : m ≤ 2 := by omega
  have hmL : 1 ≤ m := by omega
  have HN3 := Lib.hid hn3
  clear hX hbF hfm hxd hE hFW hm hfl hf hmI hn3
  go_enter Try.func98, Try.ntmps98
  go_upto_region 3 with fail
  have HWX : Hid (WX X B _ l) := HX.out.later HBF.out
  generalize (((w.alloc (.cells #[.int .i64 b] 2)).alloc (.cells #[.slice (some ⟨g, i, none⟩) n (c - i)] 47)).alloc (.cells #[.func (.func 99) #[] #[.pointer (some ⟨k1, 0, none⟩), .pointer (some ⟨k2, 0, none⟩), .pointer (some ⟨k3, 0, none⟩), .pointer (some ⟨k4, 0, none⟩)]] 97)).alloc (.cells #[.int .i64 m] 3) = w0 at *
  have d5 := (HFW.out).b5.cell
  have d6 := (HFW.out).b6.cell
  have d7 := (HFW.out).b7.cell
  have d9 := (HFW.out).b9.cell
  obtain ⟨g', o', hgo, hg', hcA⟩ := (HFR.out _ (HFW.out)).at 0 (by omega)
  simp only [Option.some.injEq, Addr.mk.injEq, and_true] at hgo
  obtain ⟨rfl, rfl⟩ := hgo
  rw [Nat.add_zero] at hcA
  obtain ⟨g', o', hgo, hg', hcM⟩ := (HFR.out _ (HFW.out)).at m (by omega)
  simp only [Option.some.injEq, Addr.mk.injEq, and_true] at hgo
  obtain ⟨rfl, rfl⟩ := hgo
  obtain ⟨z0, hz0⟩ : ∃ z, f.getD 0 0 = z := ⟨_, rfl⟩
  obtain ⟨zm, hzm⟩ : ∃ z, f.getD m 0 = z := ⟨_, rfl⟩
  rw [hz0] at hcA
  rw [hzm] at hcM
  have HZ0 := Lib.hid hz0
  have HZM := Lib.hid hzm
  by_cases he : z0 = zm
  · have hbn : (z0 != zm) = false := by simp [he]
    have HNO : Hid (∀ u, ¬ u ∈ chs 1 b f) := fun u hu => by
      rw [chs12 (m := m) (by omega) HF1.out] at hu
      exact hu.1 (by rw [hz0, hzm, he])
    clear he hz0 hzm
    go_wp2_with fail
    go_quiet (fail)
    have hFW1 := HFW.out.kt (Below.kt (below_drewN (Below.refl w0.heap.size w0) nq))
    have hb1 : Below w.heap.size w (w0.drewN nq) := HBF.out.trans ((below_drewN (Below.refl w0.heap.size w0) nq).mono HBF.out.size)
    have hx1 := HWX.out.later (below_drewN (Below.refl w0.heap.size w0) nq)
    clear d5 d6 d7 d9 hcA hcM hg'
    generalize w0.drewN nq = w1 at *
    have HN := Lib.hid (CPost.none (Q := fun t => ∃ u, u ∈ chs 1 b f ∧ t = wOf (wAt xs i n u)) HX.out hb1 (fun t ⟨u, hu, _⟩ => HNO.out u hu))
    clear hFW1 hb1 hx1
    go_wp2_with fail
    go_end0
    exact HN.out
  · have hbn : (z0 != zm) = true := by simpa using he
    have HQ : Hid (∀ t, (∃ u, u ∈ chs 1 b f ∧ t = wOf (wAt xs i n u)) ↔ t = wOf (wAt xs i n ((f.set 0 zm).set m z0))) := fun t => by
      constructor
      · rintro ⟨u, hu, h⟩
        rw [chs12 (m := m) (by omega) HF1.out] at hu
        rw [h, hu.2, hz0, hzm]
      · intro h
        exact ⟨_, (chs12 (m := m) (by omega) HF1.out).2 ⟨by rw [hz0, hzm]; exact he, rfl⟩, by rw [hz0, hzm]; exact h⟩
    clear he hz0 hzm
    go_wp2_with fail
    go_quiet (fail)
    have hFW1 := HFW.out.kt (Below.kt (below_drewN (Below.refl w0.heap.size w0) nq))
    have hb1 : Below w.heap.size w (w0.drewN nq) := HBF.out.trans ((below_drewN (Below.refl w0.heap.size w0) nq).mono HBF.out.size)
    have hx1 := HWX.out.later (below_drewN (Below.refl w0.heap.size w0) nq)
    clear d5 d6 d7 d9 hcA hcM hg'
    generalize w0.drewN nq = w1 at *
    have d5 := (hFW1).b5.cell
    have d6 := (hFW1).b6.cell
    have d7 := (hFW1).b7.cell
    have d9 := (hFW1).b9.cell
    obtain ⟨g', o', hgo, hg', hcA⟩ := (HFR.out _ (hFW1)).at 0 (by omega)
    simp only [Option.some.injEq, Addr.mk.injEq, and_true] at hgo
    obtain ⟨rfl, rfl⟩ := hgo
    rw [Nat.add_zero] at hcA
    obtain ⟨g', o', hgo, hg', hcM⟩ := (HFR.out _ (hFW1)).at m (by omega)
    simp only [Option.some.injEq, Addr.mk.injEq, and_true] at hgo
    obtain ⟨rfl, rfl⟩ := hgo
    rw [HZ0.out] at hcA
    rw [HZM.out] at hcM
    have HFR1 := Lib.hid (HFR.out _ hFW1)
    have HFW1 := Lib.hid hFW1
    have HB1 := Lib.hid hb1
    have HX1 := Lib.hid hx1
    clear hFW1 hb1 hx1 hg'
    go_wp2_with fail
    refine (clone_any _ f w1 HFR1.out (by omega)).mono ?_
    rintro e w2 ⟨cv, rfl, ho, hb2⟩
    clear d5 d6 d7 d9 hcA hcM
    have hFW2 := HFW1.out.kt (Below.kt hb2)
    have d5 := (hFW2).b5.cell
    have d6 := (hFW2).b6.cell
    have d7 := (hFW2).b7.cell
    have d9 := (hFW2).b9.cell
    obtain ⟨g', o', hgo, hg', hcA⟩ := (HFR.out _ (hFW2)).at 0 (by omega)
    simp only [Option.some.injEq, Addr.mk.injEq, and_true] at hgo
    obtain ⟨rfl, rfl⟩ := hgo
    rw [Nat.add_zero] at hcA
    obtain ⟨g', o', hgo, hg', hcM⟩ := (HFR.out _ (hFW2)).at m (by omega)
    simp only [Option.some.injEq, Addr.mk.injEq, and_true] at hgo
    obtain ⟨rfl, rfl⟩ := hgo
    rw [HZ0.out] at hcA
    rw [HZM.out] at hcM
    rcases OK.shape ho with ⟨_, h0⟩ | ⟨h, cap, rfl, hB, hcap⟩
    · exfalso; have h9 := HFL.out; rw [h0] at h9; simp at h9; omega
    rw [HFL.out] at ho ⊢
    have c0 := ho.cell 0 (by omega)
    have c1 := ho.cell m (by omega)
    have y0 := ho.frozen 0
    have y1 := ho.frozen m
    have hst := ho.stored 0 zm
    have hst2 := hst.1.stored m z0
    have hb3 : Below w1.heap.size w1 (w2.setCell ⟨h, 0, none⟩ (.int .i64 zm)) := hb2.setCell (p := ⟨h, 0, none⟩) hB _
    have hFW3 := HFW1.out.kt (Below.kt hb3)
    have e5 := hFW3.b5.cell
    have e6 := hFW3.b6.cell
    have e7 := hFW3.b7.cell
    have e9 := hFW3.b9.cell
    have eA : (w2.setCell ⟨h, 0, none⟩ (.int .i64 zm)).cell? ⟨g, i, none⟩ = some (.int .i64 z0) := by
      refine Eq.trans ?_ hcA
      exact World.cell?_setCell_other (h := by intro e2; simp only [Addr.mk.injEq, and_true] at e2; have := (HFW1.out.e.own.lt g rfl).2; omega) ..
    have eM : (w2.setCell ⟨h, 0, none⟩ (.int .i64 zm)).cell? ⟨g, i + m, none⟩ = some (.int .i64 zm) := by
      refine Eq.trans ?_ hcM
      exact World.cell?_setCell_other (h := by intro e2; simp only [Addr.mk.injEq, and_true] at e2; have := (HFW1.out.e.own.lt g rfl).2; omega) ..
    have hb4 : Below w1.heap.size w1 ((w2.setCell ⟨h, 0, none⟩ (.int .i64 zm)).setCell ⟨h, m, none⟩ (.int .i64 z0)).drew := (hb3.setCell (p := ⟨h, m, none⟩) hB _).drew
    have hFW4 := HFW1.out.kt (Below.kt hb4)
    have f5 := hFW4.b5.cell
    have f6 := hFW4.b6.cell
    have f7 := hFW4.b7.cell
    have f9 := hFW4.b9.cell
    have HEA : Hid (Calls Try.prog 99 #[.slice (some ⟨h, 0, none⟩) n cap, .pointer (some ⟨k1, 0, none⟩), .pointer (some ⟨k2, 0, none⟩), .pointer (some ⟨k3, 0, none⟩), .pointer (some ⟨k4, 0, none⟩)] ((w2.setCell ⟨h, 0, none⟩ (.int .i64 zm)).setCell ⟨h, m, none⟩ (.int .i64 z0)).drew fun e w' => e = .returned (.tuple #[]) ∧ Hid (CPost X B l (fun t => ∃ u, u ∈ chs 1 b f ∧ t = wOf (wAt xs i n u)) w (.returned (.tuple #[])) w')) := by
      have hr : RI ((w2.setCell ⟨h, 0, none⟩ (.int .i64 zm)).setCell ⟨h, m, none⟩ (.int .i64 z0)).drew (.slice (some ⟨h, 0, none⟩) n cap) ((f.set 0 zm).set m z0) := OK.read (OK.drew hst2.1)
      refine (HCB.out _ _ _ hFW4 (HX1.out.later hb4) hr (by rw [List.length_set, List.length_set]; exact HFL.out) (fun z hz => ?_)).mono ?_
      · rcases List.mem_or_eq_of_mem_set hz with hz | rfl
        · rcases List.mem_or_eq_of_mem_set hz with hz | rfl
          · exact HFM.out z hz
          · rw [← HZM.out]; exact HFM.out _ (getD_mem (by omega))
        · rw [← HZ0.out]; exact HFM.out _ (getD_mem (by omega))
      · rintro e w' hp
        obtain ⟨rfl, hp2⟩ := hp
        exact ⟨rfl, CPost.one ⟨rfl, hp2⟩ (HB1.out.trans (hb4.mono HB1.out.size)) HBW.out HQ.out⟩
    clear hst hst2 hFW2 hFW3 hFW4 hb2 hb3 hb4 ho hg'
    go_wp2_with fail
    go_region
    generalize ((w2.setCell ⟨h, 0, none⟩ (.int .i64 zm)).setCell ⟨h, m, none⟩ (.int .i64 z0)).drew = w4 at *
    go_wp2_with (go_at_call 99; refine HEA.out.mono ?_; rintro e w9 ⟨rfl, HP⟩)
    go_end0
    exact HP.out
set_option maxRecDepth 100000 in
set_option maxHeartbeats 4000000 in
theorem ch2 (X B : Nat) (xs : List Int) (g c k1 k2 k3 k4 i n b : Nat) (f : List Int) (l : List ByteArray) (w : World) (hE : EW X xs g c k1 k2 k3 k4 i n w) (hX : WX X B w l)
    (hin : i + n ≤ xs.length) (hxl : xs.length ≤ 20) (hf : f = (xs.drop i).take n) (hn3 : 2 ≤ n ∧ n ≤ 3) (hb36 : b ≤ 36) (hxd : ∀ z ∈ xs, 0 ≤ z ∧ z < (b : Int)) (hl : l.length ≤ 900000)  :
    Calls Try.prog 98 #[.int .i64 2, .int .i64 b, .slice (some ⟨g, i, none⟩) n (c - i), .func (.func 99) #[] #[.pointer (some ⟨k1, 0, none⟩), .pointer (some ⟨k2, 0, none⟩), .pointer (some ⟨k3, 0, none⟩), .pointer (some ⟨k4, 0, none⟩)]] w (CPost X B l (fun t => ∃ u, u ∈ chs 2 b f ∧ t = wOf (wAt xs i n u)) w) := by
  have hfl : f.length = n := by rw [hf, List.length_take, List.length_drop]; omega
  have hfm : ∀ z ∈ f, 0 ≤ z ∧ z < (b : Int) := fun z hz => hxd z (by rw [hf] at hz; exact List.mem_of_mem_drop (List.mem_of_mem_take hz))
  obtain ⟨m, hm⟩ : ∃ m, n = m + 1 := ⟨n - 1, by omega⟩
  have hmI : (n : Int) - 1 = (m : Int) := by omega
  have hwm : IntKind.i64.wrap ((n : Int) - 1) = (m : Int) := by rw [hmI]; exact IntWalk.i64_in _ (by omega)
  obtain ⟨hFW, hbF⟩ := FW.made (b := (b : Int)) (m := m) hE
  have HFR : Hid (∀ wr, FW X xs g c k1 k2 k3 k4 i n b w.heap.size (w.heap.size + 1) (w.heap.size + 1 + 1) (w.heap.size + 1 + 1 + 1) m wr → RI wr (.slice (some ⟨g, i, none⟩) n (c - i)) f) := fun wr h => by rw [hf]; exact h.e.frm hin
  have HCB : Hid (∀ v4 u w4, FW X xs g c k1 k2 k3 k4 i n b w.heap.size (w.heap.size + 1) (w.heap.size + 1 + 1) (w.heap.size + 1 + 1 + 1) m w4 → WX X B w4 l → RI w4 v4 u → u.length = n → (∀ z ∈ u, 0 ≤ z ∧ z < (b : Int)) → Calls Try.prog 99 #[v4, .pointer (some ⟨k1, 0, none⟩), .pointer (some ⟨k2, 0, none⟩), .pointer (some ⟨k3, 0, none⟩), .pointer (some ⟨k4, 0, none⟩)] w4 (WPost X B (l ++ [wOf (wAt xs i n u)]) w4)) := fun v4 u w4 h hx hr hul hu =>
    wrong1_any X B xs g c k1 k2 k3 k4 i n v4 u l w4 h.e hx hr hul hin hxl (fun z hz => by
      have := wAt_dig (i := i) (n := n) hxd hu z hz
      omega) (by omega)
  have HX := Lib.hid hX
  have HBF := Lib.hid hbF
  have HFM := Lib.hid hfm
  have HXD := Lib.hid hxd
  have HBW : Hid (B ≤ w.heap.size) := hX.le
  have HFW := Lib.hid hFW
  have HM := Lib.hid hm
  have HFL := Lib.hid hfl
  have HF := Lib.hid hf
  have h0f : 0 < f.length := by omega
  have hmf : m < f.length := by omega
  have HF1 : Hid (f.length - 1 = m) := by unfold Hid; omega
  have hn20 : f.length ≤ 20 := by omega
  have hmn : (m : Int) < (n : Int) := by omega
  have hm3 : m ≤ 2 := by omega
  have hmL : 1 ≤ m := by omega
  have HN3 := Lib.hid hn3
  clear hX hbF hfm hxd hE hFW hm hfl hf hmI hn3
  go_enter Try.func98, Try.ntmps98
  go_upto_region 3 with fail
  have HWX : Hid (WX X B _ l) := HX.out.later HBF.out
  generalize (((w.alloc (.cells #[.int .i64 b] 2)).alloc (.cells #[.slice (some ⟨g, i, none⟩) n (c - i)] 47)).alloc (.cells #[.func (.func 99) #[] #[.pointer (some ⟨k1, 0, none⟩), .pointer (some ⟨k2, 0, none⟩), .pointer (some ⟨k3, 0, none⟩), .pointer (some ⟨k4, 0, none⟩)]] 97)).alloc (.cells #[.int .i64 m] 3) = w0 at *
  have d5 := (HFW.out).b5.cell
  have d6 := (HFW.out).b6.cell
  have d7 := (HFW.out).b7.cell
  have d9 := (HFW.out).b9.cell
  obtain ⟨g', o', hgo, hg', hcA⟩ := (HFR.out _ (HFW.out)).at 0 (by omega)
  simp only [Option.some.injEq, Addr.mk.injEq, and_true] at hgo
  obtain ⟨rfl, rfl⟩ := hgo
  rw [Nat.add_zero] at hcA
  obtain ⟨g', o', hgo, hg', hcM⟩ := (HFR.out _ (HFW.out)).at m (by omega)
  simp only [Option.some.injEq, Addr.mk.injEq, and_true] at hgo
  obtain ⟨rfl, rfl⟩ := hgo
  obtain ⟨z0, hz0⟩ : ∃ z, f.getD 0 0 = z := ⟨_, rfl⟩
  obtain ⟨zm, hzm⟩ : ∃ z, f.getD m 0 = z := ⟨_, rfl⟩
  rw [hz0] at hcA
  rw [hzm] at hcM
  have HZ0 := Lib.hid hz0
  have HZM := Lib.hid hzm
  by_cases he : z0 = zm
  · have hbn : (z0 != zm) = false := by simp [he]
    have HNO : Hid (∀ u, ¬ u ∈ chs 2 b f) := fun u hu => by
      rw [chs12 (m := m) (by omega) HF1.out] at hu
      exact hu.1 (by rw [hz0, hzm, he])
    clear he hz0 hzm
    go_wp2_with fail
    go_quiet (fail)
    have hFW1 := HFW.out.kt (Below.kt (below_drewN (Below.refl w0.heap.size w0) nq))
    have hb1 : Below w.heap.size w (w0.drewN nq) := HBF.out.trans ((below_drewN (Below.refl w0.heap.size w0) nq).mono HBF.out.size)
    have hx1 := HWX.out.later (below_drewN (Below.refl w0.heap.size w0) nq)
    clear d5 d6 d7 d9 hcA hcM hg'
    generalize w0.drewN nq = w1 at *
    have HN := Lib.hid (CPost.none (Q := fun t => ∃ u, u ∈ chs 2 b f ∧ t = wOf (wAt xs i n u)) HX.out hb1 (fun t ⟨u, hu, _⟩ => HNO.out u hu))
    clear hFW1 hb1 hx1
    go_wp2_with fail
    go_end0
    exact HN.out
  · have hbn : (z0 != zm) = true := by simpa using he
    have HQ : Hid (∀ t, (∃ u, u ∈ chs 2 b f ∧ t = wOf (wAt xs i n u)) ↔ t = wOf (wAt xs i n ((f.set 0 zm).set m z0))) := fun t => by
      constructor
      · rintro ⟨u, hu, h⟩
        rw [chs12 (m := m) (by omega) HF1.out] at hu
        rw [h, hu.2, hz0, hzm]
      · intro h
        exact ⟨_, (chs12 (m := m) (by omega) HF1.out).2 ⟨by rw [hz0, hzm]; exact he, rfl⟩, by rw [hz0, hzm]; exact h⟩
    clear he hz0 hzm
    go_wp2_with fail
    go_quiet (fail)
    have hFW1 := HFW.out.kt (Below.kt (below_drewN (Below.refl w0.heap.size w0) nq))
    have hb1 : Below w.heap.size w (w0.drewN nq) := HBF.out.trans ((below_drewN (Below.refl w0.heap.size w0) nq).mono HBF.out.size)
    have hx1 := HWX.out.later (below_drewN (Below.refl w0.heap.size w0) nq)
    clear d5 d6 d7 d9 hcA hcM hg'
    generalize w0.drewN nq = w1 at *
    have d5 := (hFW1).b5.cell
    have d6 := (hFW1).b6.cell
    have d7 := (hFW1).b7.cell
    have d9 := (hFW1).b9.cell
    obtain ⟨g', o', hgo, hg', hcA⟩ := (HFR.out _ (hFW1)).at 0 (by omega)
    simp only [Option.some.injEq, Addr.mk.injEq, and_true] at hgo
    obtain ⟨rfl, rfl⟩ := hgo
    rw [Nat.add_zero] at hcA
    obtain ⟨g', o', hgo, hg', hcM⟩ := (HFR.out _ (hFW1)).at m (by omega)
    simp only [Option.some.injEq, Addr.mk.injEq, and_true] at hgo
    obtain ⟨rfl, rfl⟩ := hgo
    rw [HZ0.out] at hcA
    rw [HZM.out] at hcM
    have HFR1 := Lib.hid (HFR.out _ hFW1)
    have HFW1 := Lib.hid hFW1
    have HB1 := Lib.hid hb1
    have HX1 := Lib.hid hx1
    clear hFW1 hb1 hx1 hg'
    go_wp2_with fail
    refine (clone_any _ f w1 HFR1.out (by omega)).mono ?_
    rintro e w2 ⟨cv, rfl, ho, hb2⟩
    clear d5 d6 d7 d9 hcA hcM
    have hFW2 := HFW1.out.kt (Below.kt hb2)
    have d5 := (hFW2).b5.cell
    have d6 := (hFW2).b6.cell
    have d7 := (hFW2).b7.cell
    have d9 := (hFW2).b9.cell
    obtain ⟨g', o', hgo, hg', hcA⟩ := (HFR.out _ (hFW2)).at 0 (by omega)
    simp only [Option.some.injEq, Addr.mk.injEq, and_true] at hgo
    obtain ⟨rfl, rfl⟩ := hgo
    rw [Nat.add_zero] at hcA
    obtain ⟨g', o', hgo, hg', hcM⟩ := (HFR.out _ (hFW2)).at m (by omega)
    simp only [Option.some.injEq, Addr.mk.injEq, and_true] at hgo
    obtain ⟨rfl, rfl⟩ := hgo
    rw [HZ0.out] at hcA
    rw [HZM.out] at hcM
    rcases OK.shape ho with ⟨_, h0⟩ | ⟨h, cap, rfl, hB, hcap⟩
    · exfalso; have h9 := HFL.out; rw [h0] at h9; simp at h9; omega
    rw [HFL.out] at ho ⊢
    have c0 := ho.cell 0 (by omega)
    have c1 := ho.cell m (by omega)
    have y0 := ho.frozen 0
    have y1 := ho.frozen m
    have hst := ho.stored 0 zm
    have hst2 := hst.1.stored m z0
    have hb3 : Below w1.heap.size w1 (w2.setCell ⟨h, 0, none⟩ (.int .i64 zm)) := hb2.setCell (p := ⟨h, 0, none⟩) hB _
    have hFW3 := HFW1.out.kt (Below.kt hb3)
    have e5 := hFW3.b5.cell
    have e6 := hFW3.b6.cell
    have e7 := hFW3.b7.cell
    have e9 := hFW3.b9.cell
    have eA : (w2.setCell ⟨h, 0, none⟩ (.int .i64 zm)).cell? ⟨g, i, none⟩ = some (.int .i64 z0) := by
      refine Eq.trans ?_ hcA
      exact World.cell?_setCell_other (h := by intro e2; simp only [Addr.mk.injEq, and_true] at e2; have := (HFW1.out.e.own.lt g rfl).2; omega) ..
    have eM : (w2.setCell ⟨h, 0, none⟩ (.int .i64 zm)).cell? ⟨g, i + m, none⟩ = some (.int .i64 zm) := by
      refine Eq.trans ?_ hcM
      exact World.cell?_setCell_other (h := by intro e2; simp only [Addr.mk.injEq, and_true] at e2; have := (HFW1.out.e.own.lt g rfl).2; omega) ..
    have hb4 : Below w1.heap.size w1 ((w2.setCell ⟨h, 0, none⟩ (.int .i64 zm)).setCell ⟨h, m, none⟩ (.int .i64 z0)).drew := (hb3.setCell (p := ⟨h, m, none⟩) hB _).drew
    have hFW4 := HFW1.out.kt (Below.kt hb4)
    have f5 := hFW4.b5.cell
    have f6 := hFW4.b6.cell
    have f7 := hFW4.b7.cell
    have f9 := hFW4.b9.cell
    have HEA : Hid (Calls Try.prog 99 #[.slice (some ⟨h, 0, none⟩) n cap, .pointer (some ⟨k1, 0, none⟩), .pointer (some ⟨k2, 0, none⟩), .pointer (some ⟨k3, 0, none⟩), .pointer (some ⟨k4, 0, none⟩)] ((w2.setCell ⟨h, 0, none⟩ (.int .i64 zm)).setCell ⟨h, m, none⟩ (.int .i64 z0)).drew fun e w' => e = .returned (.tuple #[]) ∧ Hid (CPost X B l (fun t => ∃ u, u ∈ chs 2 b f ∧ t = wOf (wAt xs i n u)) w (.returned (.tuple #[])) w')) := by
      have hr : RI ((w2.setCell ⟨h, 0, none⟩ (.int .i64 zm)).setCell ⟨h, m, none⟩ (.int .i64 z0)).drew (.slice (some ⟨h, 0, none⟩) n cap) ((f.set 0 zm).set m z0) := OK.read (OK.drew hst2.1)
      refine (HCB.out _ _ _ hFW4 (HX1.out.later hb4) hr (by rw [List.length_set, List.length_set]; exact HFL.out) (fun z hz => ?_)).mono ?_
      · rcases List.mem_or_eq_of_mem_set hz with hz | rfl
        · rcases List.mem_or_eq_of_mem_set hz with hz | rfl
          · exact HFM.out z hz
          · rw [← HZM.out]; exact HFM.out _ (getD_mem (by omega))
        · rw [← HZ0.out]; exact HFM.out _ (getD_mem (by omega))
      · rintro e w' hp
        obtain ⟨rfl, hp2⟩ := hp
        exact ⟨rfl, CPost.one ⟨rfl, hp2⟩ (HB1.out.trans (hb4.mono HB1.out.size)) HBW.out HQ.out⟩
    clear hst hst2 hFW2 hFW3 hFW4 hb2 hb3 hb4 ho hg'
    go_wp2_with fail
    go_region
    generalize ((w2.setCell ⟨h, 0, none⟩ (.int .i64 zm)).setCell ⟨h, m, none⟩ (.int .i64 z0)).drew = w4 at *
    go_wp2_with (go_at_call 99; refine HEA.out.mono ?_; rintro e w9 ⟨rfl, HP⟩)
    go_end0
    exact HP.out
set_option maxRecDepth 100000 in
set_option maxHeartbeats 4000000 in
theorem ch3 (X B : Nat) (xs : List Int) (g c k1 k2 k3 k4 i n b : Nat) (f : List Int) (l : List ByteArray) (w : World) (hE : EW X xs g c k1 k2 k3 k4 i n w) (hX : WX X B w l)
    (hin : i + n ≤ xs.length) (hxl : xs.length ≤ 20) (hf : f = (xs.drop i).take n) (hn3 : 2 ≤ n ∧ n ≤ 3) (hb36 : b ≤ 36) (hxd : ∀ z ∈ xs, 0 ≤ z ∧ z < (b : Int)) (hl : l.length ≤ 900000)  :
    Calls Try.prog 98 #[.int .i64 3, .int .i64 b, .slice (some ⟨g, i, none⟩) n (c - i), .func (.func 99) #[] #[.pointer (some ⟨k1, 0, none⟩), .pointer (some ⟨k2, 0, none⟩), .pointer (some ⟨k3, 0, none⟩), .pointer (some ⟨k4, 0, none⟩)]] w (CPost X B l (fun t => ∃ u, u ∈ chs 3 b f ∧ t = wOf (wAt xs i n u)) w) := by
  have hfl : f.length = n := by rw [hf, List.length_take, List.length_drop]; omega
  have hfm : ∀ z ∈ f, 0 ≤ z ∧ z < (b : Int) := fun z hz => hxd z (by rw [hf] at hz; exact List.mem_of_mem_drop (List.mem_of_mem_take hz))
  obtain ⟨m, hm⟩ : ∃ m, n = m + 1 := ⟨n - 1, by omega⟩
  have hmI : (n : Int) - 1 = (m : Int) := by omega
  have hwm : IntKind.i64.wrap ((n : Int) - 1) = (m : Int) := by rw [hmI]; exact IntWalk.i64_in _ (by omega)
  obtain ⟨hFW, hbF⟩ := FW.made (b := (b : Int)) (m := m) hE
  have HFR : Hid (∀ wr, FW X xs g c k1 k2 k3 k4 i n b w.heap.size (w.heap.size + 1) (w.heap.size + 1 + 1) (w.heap.size + 1 + 1 + 1) m wr → RI wr (.slice (some ⟨g, i, none⟩) n (c - i)) f) := fun wr h => by rw [hf]; exact h.e.frm hin
  have HCB : Hid (∀ v4 u w4, FW X xs g c k1 k2 k3 k4 i n b w.heap.size (w.heap.size + 1) (w.heap.size + 1 + 1) (w.heap.size + 1 + 1 + 1) m w4 → WX X B w4 l → RI w4 v4 u → u.length = n → (∀ z ∈ u, 0 ≤ z ∧ z < (b : Int)) → Calls Try.prog 99 #[v4, .pointer (some ⟨k1, 0, none⟩), .pointer (some ⟨k2, 0, none⟩), .pointer (some ⟨k3, 0, none⟩), .pointer (some ⟨k4, 0, none⟩)] w4 (WPost X B (l ++ [wOf (wAt xs i n u)]) w4)) := fun v4 u w4 h hx hr hul hu =>
    wrong1_any X B xs g c k1 k2 k3 k4 i n v4 u l w4 h.e hx hr hul hin hxl (fun z hz => by
      have := wAt_dig (i := i) (n := n) hxd hu z hz
      omega) (by omega)
  have HX := Lib.hid hX
  have HBF := Lib.hid hbF
  have HFM := Lib.hid hfm
  have HXD := Lib.hid hxd
  have HBW : Hid (B ≤ w.heap.size) := hX.le
  have HFW := Lib.hid hFW
  have HM := Lib.hid hm
  have HFL := Lib.hid hfl
  have HF := Lib.hid hf
  have h0f : 0 < f.length := by omega
  have hmf : m < f.length := by omega
  have HF1 : Hid (f.length - 1 = m) := by unfold Hid; omega
  have hn20 : f.length ≤ 20 := by omega
  have hmn : (m : Int) < (n : Int) := by omega
  have hm3 : m ≤ 2 := by omega
  have hmL : 1 ≤ m := by omega
  have HN3 := Lib.hid hn3
  clear hX hbF hfm hxd hE hFW hm hfl hf hmI hn3
  go_enter Try.func98, Try.ntmps98
  go_upto_region 3 with fail
  have HWX : Hid (WX X B _ l) := HX.out.later HBF.out
  generalize (((w.alloc (.cells #[.int .i64 b] 2)).alloc (.cells #[.slice (some ⟨g, i, none⟩) n (c - i)] 47)).alloc (.cells #[.func (.func 99) #[] #[.pointer (some ⟨k1, 0, none⟩), .pointer (some ⟨k2, 0, none⟩), .pointer (some ⟨k3, 0, none⟩), .pointer (some ⟨k4, 0, none⟩)]] 97)).alloc (.cells #[.int .i64 m] 3) = w0 at *
  have d5 := (HFW.out).b5.cell
  have d6 := (HFW.out).b6.cell
  have d7 := (HFW.out).b7.cell
  have d9 := (HFW.out).b9.cell
  obtain ⟨g', o', hgo, hg', hcA⟩ := (HFR.out _ (HFW.out)).at 0 (by omega)
  simp only [Option.some.injEq, Addr.mk.injEq, and_true] at hgo
  obtain ⟨rfl, rfl⟩ := hgo
  rw [Nat.add_zero] at hcA
  obtain ⟨g', o', hgo, hg', hcM⟩ := (HFR.out _ (HFW.out)).at m (by omega)
  simp only [Option.some.injEq, Addr.mk.injEq, and_true] at hgo
  obtain ⟨rfl, rfl⟩ := hgo
  obtain ⟨z0, hz0⟩ : ∃ z, f.getD 0 0 = z := ⟨_, rfl⟩
  obtain ⟨zm, hzm⟩ : ∃ z, f.getD m 0 = z := ⟨_, rfl⟩
  rw [hz0] at hcA
  rw [hzm] at hcM
  by_cases he : z0 = zm
  · have hbn : (z0 == zm) = true := by simp [he]
    have HQ : Hid (∀ t, (∃ d : Nat, d < b ∧ (d : Int) ≠ f.getD 0 0 ∧ t = wOf (wAt xs i n ((f.set 0 (d : Int)).set m (d : Int)))) ↔ ∃ u, u ∈ chs 3 b f ∧ t = wOf (wAt xs i n u)) := fun t => by
      constructor
      · rintro ⟨d, h1, h2, h3⟩
        exact ⟨_, (chs34 (m := m) (by omega) HF1.out).2 ⟨by rw [hz0, hzm, he], d, h1, h2, rfl⟩, h3⟩
      · rintro ⟨u, hu, h⟩
        obtain ⟨_, d, h1, h2, rfl⟩ := (chs34 (m := m) (by omega) HF1.out).1 hu
        exact ⟨d, h1, h2, h⟩
    clear he hz0 hzm
    go_wp2_with fail
    go_quiet (fail)
    have hFW1 := HFW.out.kt (Below.kt (below_drewN (Below.refl w0.heap.size w0) nq))
    have hb1 : Below w.heap.size w (w0.drewN nq) := HBF.out.trans ((below_drewN (Below.refl w0.heap.size w0) nq).mono HBF.out.size)
    have hx1 := HWX.out.later (below_drewN (Below.refl w0.heap.size w0) nq)
    clear d5 d6 d7 d9 hcA hcM hg'
    generalize w0.drewN nq = w1 at *
    have HEA : Hid (Calls Try.prog 113 #[.func (.func 116) #[] #[.pointer (some ⟨w.heap.size + 1, 0, none⟩), .pointer (some ⟨w.heap.size + 1 + 1 + 1, 0, none⟩)], .pointer (some ⟨w.heap.size, 0, none⟩), .pointer (some ⟨w.heap.size + 1, 0, none⟩), .pointer (some ⟨w.heap.size + 1 + 1, 0, none⟩)] w1 fun e w' => e = .returned (.tuple #[]) ∧ Hid (CPost X B l (fun t => ∃ u, u ∈ chs 3 b f ∧ t = wOf (wAt xs i n u)) w (.returned (.tuple #[])) w')) := by
      refine (each3 X B xs g c k1 k2 k3 k4 i n b _ _ _ _ m f l w1 hFW1 hx1 hin hxl HF.out HM.out HN3.out hb36 HXD.out hl).mono ?_
      rintro e w' hp
      obtain ⟨rfl, hp2⟩ := hp
      exact ⟨rfl, CPost.from (CPost.mono ⟨rfl, hp2⟩ HQ.out) hb1 HBW.out⟩
    clear hFW1 hb1 hx1
    go_wp2_with (go_at_call 113; refine HEA.out.mono ?_; rintro e w9 ⟨rfl, HP⟩)
    go_end0
    exact HP.out
  · have hbn : (z0 == zm) = false := by simpa using he
    have HNO : Hid (∀ u, ¬ u ∈ chs 3 b f) := fun u hu => by
      rw [chs34 (m := m) (by omega) HF1.out] at hu
      exact he (by rw [← hz0, ← hzm]; exact hu.1)
    clear he hz0 hzm
    go_wp2_with fail
    go_quiet (fail)
    have hFW1 := HFW.out.kt (Below.kt (below_drewN (Below.refl w0.heap.size w0) nq))
    have hb1 : Below w.heap.size w (w0.drewN nq) := HBF.out.trans ((below_drewN (Below.refl w0.heap.size w0) nq).mono HBF.out.size)
    have hx1 := HWX.out.later (below_drewN (Below.refl w0.heap.size w0) nq)
    clear d5 d6 d7 d9 hcA hcM hg'
    generalize w0.drewN nq = w1 at *
    have HN := Lib.hid (CPost.none (Q := fun t => ∃ u, u ∈ chs 3 b f ∧ t = wOf (wAt xs i n u)) HX.out hb1 (fun t ⟨u, hu, _⟩ => HNO.out u hu))
    clear hFW1 hb1 hx1
    go_wp2_with fail
    go_end0
    exact HN.out
set_option maxRecDepth 100000 in
set_option maxHeartbeats 4000000 in
theorem ch4 (X B : Nat) (xs : List Int) (g c k1 k2 k3 k4 i n b : Nat) (f : List Int) (l : List ByteArray) (w : World) (hE : EW X xs g c k1 k2 k3 k4 i n w) (hX : WX X B w l)
    (hin : i + n ≤ xs.length) (hxl : xs.length ≤ 20) (hf : f = (xs.drop i).take n) (hn3 : 2 ≤ n ∧ n ≤ 3) (hb36 : b ≤ 36) (hxd : ∀ z ∈ xs, 0 ≤ z ∧ z < (b : Int)) (hl : l.length ≤ 900000)  :
    Calls Try.prog 98 #[.int .i64 4, .int .i64 b, .slice (some ⟨g, i, none⟩) n (c - i), .func (.func 99) #[] #[.pointer (some ⟨k1, 0, none⟩), .pointer (some ⟨k2, 0, none⟩), .pointer (some ⟨k3, 0, none⟩), .pointer (some ⟨k4, 0, none⟩)]] w (CPost X B l (fun t => ∃ u, u ∈ chs 4 b f ∧ t = wOf (wAt xs i n u)) w) := by
  have hfl : f.length = n := by rw [hf, List.length_take, List.length_drop]; omega
  have hfm : ∀ z ∈ f, 0 ≤ z ∧ z < (b : Int) := fun z hz => hxd z (by rw [hf] at hz; exact List.mem_of_mem_drop (List.mem_of_mem_take hz))
  obtain ⟨m, hm⟩ : ∃ m, n = m + 1 := ⟨n - 1, by omega⟩
  have hmI : (n : Int) - 1 = (m : Int) := by omega
  have hwm : IntKind.i64.wrap ((n : Int) - 1) = (m : Int) := by rw [hmI]; exact IntWalk.i64_in _ (by omega)
  obtain ⟨hFW, hbF⟩ := FW.made (b := (b : Int)) (m := m) hE
  have HFR : Hid (∀ wr, FW X xs g c k1 k2 k3 k4 i n b w.heap.size (w.heap.size + 1) (w.heap.size + 1 + 1) (w.heap.size + 1 + 1 + 1) m wr → RI wr (.slice (some ⟨g, i, none⟩) n (c - i)) f) := fun wr h => by rw [hf]; exact h.e.frm hin
  have HCB : Hid (∀ v4 u w4, FW X xs g c k1 k2 k3 k4 i n b w.heap.size (w.heap.size + 1) (w.heap.size + 1 + 1) (w.heap.size + 1 + 1 + 1) m w4 → WX X B w4 l → RI w4 v4 u → u.length = n → (∀ z ∈ u, 0 ≤ z ∧ z < (b : Int)) → Calls Try.prog 99 #[v4, .pointer (some ⟨k1, 0, none⟩), .pointer (some ⟨k2, 0, none⟩), .pointer (some ⟨k3, 0, none⟩), .pointer (some ⟨k4, 0, none⟩)] w4 (WPost X B (l ++ [wOf (wAt xs i n u)]) w4)) := fun v4 u w4 h hx hr hul hu =>
    wrong1_any X B xs g c k1 k2 k3 k4 i n v4 u l w4 h.e hx hr hul hin hxl (fun z hz => by
      have := wAt_dig (i := i) (n := n) hxd hu z hz
      omega) (by omega)
  have HX := Lib.hid hX
  have HBF := Lib.hid hbF
  have HFM := Lib.hid hfm
  have HXD := Lib.hid hxd
  have HBW : Hid (B ≤ w.heap.size) := hX.le
  have HFW := Lib.hid hFW
  have HM := Lib.hid hm
  have HFL := Lib.hid hfl
  have HF := Lib.hid hf
  have h0f : 0 < f.length := by omega
  have hmf : m < f.length := by omega
  have HF1 : Hid (f.length - 1 = m) := by unfold Hid; omega
  have hn20 : f.length ≤ 20 := by omega
  have hmn : (m : Int) < (n : Int) := by omega
  have hm3 : m ≤ 2 := by omega
  have hmL : 1 ≤ m := by omega
  have HN3 := Lib.hid hn3
  clear hX hbF hfm hxd hE hFW hm hfl hf hmI hn3
  go_enter Try.func98, Try.ntmps98
  go_upto_region 3 with fail
  have HWX : Hid (WX X B _ l) := HX.out.later HBF.out
  generalize (((w.alloc (.cells #[.int .i64 b] 2)).alloc (.cells #[.slice (some ⟨g, i, none⟩) n (c - i)] 47)).alloc (.cells #[.func (.func 99) #[] #[.pointer (some ⟨k1, 0, none⟩), .pointer (some ⟨k2, 0, none⟩), .pointer (some ⟨k3, 0, none⟩), .pointer (some ⟨k4, 0, none⟩)]] 97)).alloc (.cells #[.int .i64 m] 3) = w0 at *
  have d5 := (HFW.out).b5.cell
  have d6 := (HFW.out).b6.cell
  have d7 := (HFW.out).b7.cell
  have d9 := (HFW.out).b9.cell
  obtain ⟨g', o', hgo, hg', hcA⟩ := (HFR.out _ (HFW.out)).at 0 (by omega)
  simp only [Option.some.injEq, Addr.mk.injEq, and_true] at hgo
  obtain ⟨rfl, rfl⟩ := hgo
  rw [Nat.add_zero] at hcA
  obtain ⟨g', o', hgo, hg', hcM⟩ := (HFR.out _ (HFW.out)).at m (by omega)
  simp only [Option.some.injEq, Addr.mk.injEq, and_true] at hgo
  obtain ⟨rfl, rfl⟩ := hgo
  obtain ⟨z0, hz0⟩ : ∃ z, f.getD 0 0 = z := ⟨_, rfl⟩
  obtain ⟨zm, hzm⟩ : ∃ z, f.getD m 0 = z := ⟨_, rfl⟩
  rw [hz0] at hcA
  rw [hzm] at hcM
  by_cases he : z0 = zm
  · have hbn : (z0 == zm) = true := by simp [he]
    have HQ : Hid (∀ t, (∃ d : Nat, d < b ∧ (d : Int) ≠ f.getD 0 0 ∧ t = wOf (wAt xs i n ((f.set 0 (d : Int)).set m (d : Int)))) ↔ ∃ u, u ∈ chs 4 b f ∧ t = wOf (wAt xs i n u)) := fun t => by
      constructor
      · rintro ⟨d, h1, h2, h3⟩
        exact ⟨_, (chs34 (m := m) (by omega) HF1.out).2 ⟨by rw [hz0, hzm, he], d, h1, h2, rfl⟩, h3⟩
      · rintro ⟨u, hu, h⟩
        obtain ⟨_, d, h1, h2, rfl⟩ := (chs34 (m := m) (by omega) HF1.out).1 hu
        exact ⟨d, h1, h2, h⟩
    clear he hz0 hzm
    go_wp2_with fail
    go_quiet (fail)
    have hFW1 := HFW.out.kt (Below.kt (below_drewN (Below.refl w0.heap.size w0) nq))
    have hb1 : Below w.heap.size w (w0.drewN nq) := HBF.out.trans ((below_drewN (Below.refl w0.heap.size w0) nq).mono HBF.out.size)
    have hx1 := HWX.out.later (below_drewN (Below.refl w0.heap.size w0) nq)
    clear d5 d6 d7 d9 hcA hcM hg'
    generalize w0.drewN nq = w1 at *
    have HEA : Hid (Calls Try.prog 113 #[.func (.func 116) #[] #[.pointer (some ⟨w.heap.size + 1, 0, none⟩), .pointer (some ⟨w.heap.size + 1 + 1 + 1, 0, none⟩)], .pointer (some ⟨w.heap.size, 0, none⟩), .pointer (some ⟨w.heap.size + 1, 0, none⟩), .pointer (some ⟨w.heap.size + 1 + 1, 0, none⟩)] w1 fun e w' => e = .returned (.tuple #[]) ∧ Hid (CPost X B l (fun t => ∃ u, u ∈ chs 4 b f ∧ t = wOf (wAt xs i n u)) w (.returned (.tuple #[])) w')) := by
      refine (each3 X B xs g c k1 k2 k3 k4 i n b _ _ _ _ m f l w1 hFW1 hx1 hin hxl HF.out HM.out HN3.out hb36 HXD.out hl).mono ?_
      rintro e w' hp
      obtain ⟨rfl, hp2⟩ := hp
      exact ⟨rfl, CPost.from (CPost.mono ⟨rfl, hp2⟩ HQ.out) hb1 HBW.out⟩
    clear hFW1 hb1 hx1
    go_wp2_with (go_at_call 113; refine HEA.out.mono ?_; rintro e w9 ⟨rfl, HP⟩)
    go_end0
    exact HP.out
  · have hbn : (z0 == zm) = false := by simpa using he
    have HNO : Hid (∀ u, ¬ u ∈ chs 4 b f) := fun u hu => by
      rw [chs34 (m := m) (by omega) HF1.out] at hu
      exact he (by rw [← hz0, ← hzm]; exact hu.1)
    clear he hz0 hzm
    go_wp2_with fail
    go_quiet (fail)
    have hFW1 := HFW.out.kt (Below.kt (below_drewN (Below.refl w0.heap.size w0) nq))
    have hb1 : Below w.heap.size w (w0.drewN nq) := HBF.out.trans ((below_drewN (Below.refl w0.heap.size w0) nq).mono HBF.out.size)
    have hx1 := HWX.out.later (below_drewN (Below.refl w0.heap.size w0) nq)
    clear d5 d6 d7 d9 hcA hcM hg'
    generalize w0.drewN nq = w1 at *
    have HN := Lib.hid (CPost.none (Q := fun t => ∃ u, u ∈ chs 4 b f ∧ t = wOf (wAt xs i n u)) HX.out hb1 (fun t ⟨u, hu, _⟩ => HNO.out u hu))
    clear hFW1 hb1 hx1
    go_wp2_with fail
    go_end0
    exact HN.out
set_option maxRecDepth 100000 in
set_option maxHeartbeats 4000000 in
theorem ch5 (X B : Nat) (xs : List Int) (g c k1 k2 k3 k4 i n b : Nat) (f : List Int) (l : List ByteArray) (w : World) (hE : EW X xs g c k1 k2 k3 k4 i n w) (hX : WX X B w l)
    (hin : i + n ≤ xs.length) (hxl : xs.length ≤ 20) (hf : f = (xs.drop i).take n) (hn3 : n = 2) (hb36 : b ≤ 36) (hxd : ∀ z ∈ xs, 0 ≤ z ∧ z < (b : Int)) (hl : l.length ≤ 900000) (h10 : 10 ≤ b) :
    Calls Try.prog 98 #[.int .i64 5, .int .i64 b, .slice (some ⟨g, i, none⟩) n (c - i), .func (.func 99) #[] #[.pointer (some ⟨k1, 0, none⟩), .pointer (some ⟨k2, 0, none⟩), .pointer (some ⟨k3, 0, none⟩), .pointer (some ⟨k4, 0, none⟩)]] w (CPost X B l (fun t => ∃ u, u ∈ chs 5 b f ∧ t = wOf (wAt xs i n u)) w) := by
  have hfl : f.length = n := by rw [hf, List.length_take, List.length_drop]; omega
  have hfm : ∀ z ∈ f, 0 ≤ z ∧ z < (b : Int) := fun z hz => hxd z (by rw [hf] at hz; exact List.mem_of_mem_drop (List.mem_of_mem_take hz))
  obtain ⟨m, hm⟩ : ∃ m, n = m + 1 := ⟨n - 1, by omega⟩
  have hmI : (n : Int) - 1 = (m : Int) := by omega
  have hwm : IntKind.i64.wrap ((n : Int) - 1) = (m : Int) := by rw [hmI]; exact IntWalk.i64_in _ (by omega)
  obtain ⟨hFW, hbF⟩ := FW.made (b := (b : Int)) (m := m) hE
  have HFR : Hid (∀ wr, FW X xs g c k1 k2 k3 k4 i n b w.heap.size (w.heap.size + 1) (w.heap.size + 1 + 1) (w.heap.size + 1 + 1 + 1) m wr → RI wr (.slice (some ⟨g, i, none⟩) n (c - i)) f) := fun wr h => by rw [hf]; exact h.e.frm hin
  have HCB : Hid (∀ v4 u w4, FW X xs g c k1 k2 k3 k4 i n b w.heap.size (w.heap.size + 1) (w.heap.size + 1 + 1) (w.heap.size + 1 + 1 + 1) m w4 → WX X B w4 l → RI w4 v4 u → u.length = n → (∀ z ∈ u, 0 ≤ z ∧ z < (b : Int)) → Calls Try.prog 99 #[v4, .pointer (some ⟨k1, 0, none⟩), .pointer (some ⟨k2, 0, none⟩), .pointer (some ⟨k3, 0, none⟩), .pointer (some ⟨k4, 0, none⟩)] w4 (WPost X B (l ++ [wOf (wAt xs i n u)]) w4)) := fun v4 u w4 h hx hr hul hu =>
    wrong1_any X B xs g c k1 k2 k3 k4 i n v4 u l w4 h.e hx hr hul hin hxl (fun z hz => by
      have := wAt_dig (i := i) (n := n) hxd hu z hz
      omega) (by omega)
  have HX := Lib.hid hX
  have HBF := Lib.hid hbF
  have HFM := Lib.hid hfm
  have HXD := Lib.hid hxd
  have HBW : Hid (B ≤ w.heap.size) := hX.le
  have HFW := Lib.hid hFW
  have HM := Lib.hid hm
  have HFL := Lib.hid hfl
  have HF := Lib.hid hf
  have h0f : 0 < f.length := by omega
  have hmf : m < f.length := by omega
  have HF1 : Hid (f.length - 1 = m) := by unfold Hid; omega
  have hn20 : f.length ≤ 20 := by omega
  have hmn : (m : Int) < (n : Int) := by omega
  have hm3 : m ≤ 2 := by omega
  have hmL : 1 ≤ m := by omega
  have HN3 := Lib.hid hn3
  clear hX hbF hfm hxd hE hFW hm hfl hf hmI hn3
  go_enter Try.func98, Try.ntmps98
  go_upto_region 3 with fail
  have HWX : Hid (WX X B _ l) := HX.out.later HBF.out
  obtain rfl : m = 1 := by have h1 := HM.out; have h2 := HN3.out; omega
  generalize (((w.alloc (.cells #[.int .i64 b] 2)).alloc (.cells #[.slice (some ⟨g, i, none⟩) n (c - i)] 47)).alloc (.cells #[.func (.func 99) #[] #[.pointer (some ⟨k1, 0, none⟩), .pointer (some ⟨k2, 0, none⟩), .pointer (some ⟨k3, 0, none⟩), .pointer (some ⟨k4, 0, none⟩)]] 97)).alloc (.cells #[.int .i64 ((1 : Nat) : Int)] 3) = w0 at *
  have d5 := (HFW.out).b5.cell
  have d6 := (HFW.out).b6.cell
  have d7 := (HFW.out).b7.cell
  have d9 := (HFW.out).b9.cell
  obtain ⟨g', o', hgo, hg', hcA⟩ := (HFR.out _ (HFW.out)).at 0 (by omega)
  simp only [Option.some.injEq, Addr.mk.injEq, and_true] at hgo
  obtain ⟨rfl, rfl⟩ := hgo
  rw [Nat.add_zero] at hcA
  obtain ⟨g', o', hgo, hg', hcM⟩ := (HFR.out _ (HFW.out)).at 1 (by omega)
  simp only [Option.some.injEq, Addr.mk.injEq, and_true] at hgo
  obtain ⟨rfl, rfl⟩ := hgo
  have HZ0 := HFM.out _ (getD_mem (xs := f) (k := 0) h0f)
  have HZ1 := HFM.out _ (getD_mem (xs := f) (k := 1) hmf)
  obtain ⟨z0, hz0⟩ : ∃ z, f.getD 0 0 = z := ⟨_, rfl⟩
  obtain ⟨z1, hz1⟩ : ∃ z, f.getD 1 0 = z := ⟨_, rfl⟩
  have hcA' := hcA
  have hcM' := hcM
  rw [hz0] at hcA HZ0
  rw [hz1] at hcM HZ1
  have HE0 := Lib.hid hz0
  have HE1 := Lib.hid hz1
  have hn1 : (1 : Int) < (n : Int) := by omega
  have hn0 : (0 : Int) < (n : Int) := by omega
  have hn0N : 0 < n := by omega
  by_cases h1 : z1 = 0
  · have b1 : (z1 == 0) = true := by simp [h1]
    by_cases h2 : 2 ≤ z0 ∧ z0 ≤ 9
    · have HI : Hid (∀ wx, Calls Try.prog 54 #[.int .i64 z0, .int .i64 2, .int .i64 9] wx fun e w' => e = .returned (.bool true) ∧ wx = w') := fun wx => by
        have := in_any z0 2 9 wx
        rw [show inB z0 2 9 = true by unfold inB; simp; omega] at this; exact this
      have HQ : Hid (∀ t, (∃ u, u ∈ chs 5 b f ∧ t = wOf (wAt xs i n u)) ↔ t = wOf (wAt xs i n [1, z0])) := fun t => by
        constructor
        · rintro ⟨u, hu, h⟩
          rw [chs5a (by rw [hz1]; exact h1) (by rw [hz0]; exact h2)] at hu
          rw [h, hu, hz0]
        · intro h
          exact ⟨_, (chs5a (by rw [hz1]; exact h1) (by rw [hz0]; exact h2)).2 rfl, by rw [hz0]; exact h⟩
      clear h1 hz0 hz1
      have hbA : Below w0.heap.size w0 ((w0.alloc (.cells #[.int .i64 1, .int .i64 z0] 2)).drew) := ((Below.refl _ _).alloc (Nat.le_refl _) _).drew
      have hlit : OI w0.heap.size (w0.alloc (.cells #[.int .i64 1, .int .i64 z0] 2)) (.slice (some ⟨w0.heap.size, 0, none⟩) 2 2) [1, z0] := OV.lit _ _ [.int .i64 1, .int .i64 z0] (Nat.le_refl _) (by simp [maxLen])
      have HEA : Hid (Calls Try.prog 99 #[.slice (some ⟨w0.heap.size, 0, none⟩) 2 2, .pointer (some ⟨k1, 0, none⟩), .pointer (some ⟨k2, 0, none⟩), .pointer (some ⟨k3, 0, none⟩), .pointer (some ⟨k4, 0, none⟩)] ((w0.alloc (.cells #[.int .i64 1, .int .i64 z0] 2)).drew) fun e w' => e = .returned (.tuple #[]) ∧
          w'.cell? ⟨w.heap.size + 1 + 1, 0, none⟩ = some (.func (.func 99) #[] #[.pointer (some ⟨k1, 0, none⟩), .pointer (some ⟨k2, 0, none⟩), .pointer (some ⟨k3, 0, none⟩), .pointer (some ⟨k4, 0, none⟩)]) ∧ w'.cell? ⟨w.heap.size + 1, 0, none⟩ = some (.slice (some ⟨g, i, none⟩) n (c - i)) ∧ w'.cell? ⟨g, i, none⟩ = some (.int .i64 z0) ∧
          Hid (CPost X B l (fun t => ∃ u, u ∈ chs 5 b f ∧ t = wOf (wAt xs i n u)) w (.returned (.tuple #[])) w')) := by
        have hFA := HFW.out.kt (Below.kt hbA)
        refine (HCB.out _ [1, z0] _ hFA (HWX.out.later hbA) (OK.read (OK.drew hlit)) (by have := HN3.out; simp; omega) (fun z hz => ?_)).mono ?_
        · simp only [List.mem_cons, List.not_mem_nil, or_false] at hz
          rcases hz with rfl | rfl <;> omega
        · rintro e w' hp
          obtain ⟨rfl, hp1, hp2, hp3⟩ := hp
          have hF9 := hFA.kt hp2
          obtain ⟨g', o', hgo, hg', hcQ⟩ := (HFR.out _ hF9).at 0 (by omega)
          simp only [Option.some.injEq, Addr.mk.injEq, and_true] at hgo
          obtain ⟨rfl, rfl⟩ := hgo
          exact ⟨rfl, hF9.b7.cell, hF9.b6.cell, by rw [← HE0.out]; exact hcQ, CPost.one ⟨rfl, hp1, hp2, hp3⟩ (HBF.out.trans (hbA.mono HBF.out.size)) HBW.out HQ.out⟩
      clear hlit hbA hcM' hcA'
      go_wp2_with (go_at_call 54; refine (HI.out _).mono ?_; rintro e w' ⟨rfl, rfl⟩)
      go_region_held3 (fun w' => w'.cell? ⟨w.heap.size + 1 + 1, 0, none⟩ = some (.func (.func 99) #[] #[.pointer (some ⟨k1, 0, none⟩), .pointer (some ⟨k2, 0, none⟩), .pointer (some ⟨k3, 0, none⟩), .pointer (some ⟨k4, 0, none⟩)]) ∧ w'.cell? ⟨w.heap.size + 1, 0, none⟩ = some (.slice (some ⟨g, i, none⟩) n (c - i)) ∧ w'.cell? ⟨g, i, none⟩ = some (.int .i64 z0)) (go_keep)
        ((go_at_call 99; refine HEA.out.mono ?_; rintro e w9 ⟨rfl, t1, t2, t3, HP⟩))
      go_wp2_with fail
      go_end0
      exact HP.out
    · have HI : Hid (∀ wx, Calls Try.prog 54 #[.int .i64 z0, .int .i64 2, .int .i64 9] wx fun e w' => e = .returned (.bool false) ∧ wx = w') := fun wx => by
        have := in_any z0 2 9 wx
        rw [show inB z0 2 9 = false by unfold inB; simp; omega] at this; exact this
      have HI2 : Hid (∀ wx, Calls Try.prog 54 #[.int .i64 z1, .int .i64 2, .int .i64 9] wx fun e w' => e = .returned (.bool false) ∧ wx = w') := fun wx => by
        have := in_any z1 2 9 wx
        rw [show inB z1 2 9 = false by unfold inB; simp; omega] at this; exact this
      have HNO : Hid (∀ u, ¬ u ∈ chs 5 b f) := fun u => chs5n (by rw [hz0, hz1]; omega) (by rw [hz0, hz1]; omega)
      clear h1 hz0 hz1 h2
      by_cases h3 : z0 = 1
      · have b3 : (z0 == 1) = true := by simp [h3]
        clear h3
        have HII : Hid (∀ (q : Int) wx, (q = z0 ∨ q = z1) → Calls Try.prog 54 #[.int .i64 q, .int .i64 2, .int .i64 9] wx fun e w' => e = .returned (.bool false) ∧ wx = w') := fun q wx h => h.elim (fun e => by rw [e]; exact HI.out wx) (fun e => by rw [e]; exact HI2.out wx)
        have HN := Lib.hid (CPost.none (Q := fun t => ∃ u, u ∈ chs 5 b f ∧ t = wOf (wAt xs i n u)) HX.out HBF.out (fun t ⟨u, hu, _⟩ => HNO.out u hu))
        clear hcM' hcA'
        go_wp2_with (go_at_call 54; refine (HII.out _ _ (by first | exact .inl rfl | exact .inr rfl)).mono ?_; rintro e w' ⟨rfl, rfl⟩)
        go_end0
        exact HN.out
      · have b3 : (z0 == 1) = false := by simp [h3]
        clear h3
        have HN := Lib.hid (CPost.none (Q := fun t => ∃ u, u ∈ chs 5 b f ∧ t = wOf (wAt xs i n u)) HX.out HBF.out (fun t ⟨u, hu, _⟩ => HNO.out u hu))
        clear hcM' hcA'
        go_wp2_with (go_at_call 54; refine (HI.out _).mono ?_; rintro e w' ⟨rfl, rfl⟩)
        go_end0
        exact HN.out
  · have b1 : (z1 == 0) = false := by simp [h1]
    by_cases h3 : z0 = 1
    · have b3 : (z0 == 1) = true := by simp [h3]
      by_cases h2 : 2 ≤ z1 ∧ z1 ≤ 9
      · have HI : Hid (∀ wx, Calls Try.prog 54 #[.int .i64 z1, .int .i64 2, .int .i64 9] wx fun e w' => e = .returned (.bool true) ∧ wx = w') := fun wx => by
          have := in_any z1 2 9 wx
          rw [show inB z1 2 9 = true by unfold inB; simp; omega] at this; exact this
        have HQ : Hid (∀ t, (∃ u, u ∈ chs 5 b f ∧ t = wOf (wAt xs i n u)) ↔ t = wOf (wAt xs i n [z1, 0])) := fun t => by
          have hno : ¬ (f.getD 1 0 = 0 ∧ 2 ≤ f.getD 0 0 ∧ f.getD 0 0 ≤ 9) := by rw [hz0, hz1]; omega
          constructor
          · rintro ⟨u, hu, h⟩
            rw [chs5b hno (by rw [hz0]; exact h3) (by rw [hz1]; exact h2)] at hu
            rw [h, hu, hz1]
          · intro h
            exact ⟨_, (chs5b hno (by rw [hz0]; exact h3) (by rw [hz1]; exact h2)).2 rfl, by rw [hz1]; exact h⟩
        clear h1 hz0 hz1 h3
        have hbA : Below w0.heap.size w0 ((w0.alloc (.cells #[.int .i64 z1, .int .i64 0] 2)).drew) := ((Below.refl _ _).alloc (Nat.le_refl _) _).drew
        have hlit : OI w0.heap.size (w0.alloc (.cells #[.int .i64 z1, .int .i64 0] 2)) (.slice (some ⟨w0.heap.size, 0, none⟩) 2 2) [z1, 0] := OV.lit _ _ [.int .i64 z1, .int .i64 0] (Nat.le_refl _) (by simp [maxLen])
        have HEA : Hid (Calls Try.prog 99 #[.slice (some ⟨w0.heap.size, 0, none⟩) 2 2, .pointer (some ⟨k1, 0, none⟩), .pointer (some ⟨k2, 0, none⟩), .pointer (some ⟨k3, 0, none⟩), .pointer (some ⟨k4, 0, none⟩)] ((w0.alloc (.cells #[.int .i64 z1, .int .i64 0] 2)).drew) fun e w' => e = .returned (.tuple #[]) ∧
            w'.cell? ⟨w.heap.size + 1 + 1, 0, none⟩ = some (.func (.func 99) #[] #[.pointer (some ⟨k1, 0, none⟩), .pointer (some ⟨k2, 0, none⟩), .pointer (some ⟨k3, 0, none⟩), .pointer (some ⟨k4, 0, none⟩)]) ∧ w'.cell? ⟨w.heap.size + 1, 0, none⟩ = some (.slice (some ⟨g, i, none⟩) n (c - i)) ∧ w'.cell? ⟨g, i + 1, none⟩ = some (.int .i64 z1) ∧
            Hid (CPost X B l (fun t => ∃ u, u ∈ chs 5 b f ∧ t = wOf (wAt xs i n u)) w (.returned (.tuple #[])) w')) := by
          have hFA := HFW.out.kt (Below.kt hbA)
          refine (HCB.out _ [z1, 0] _ hFA (HWX.out.later hbA) (OK.read (OK.drew hlit)) (by have := HN3.out; simp; omega) (fun z hz => ?_)).mono ?_
          · simp only [List.mem_cons, List.not_mem_nil, or_false] at hz
            rcases hz with rfl | rfl <;> omega
          · rintro e w' hp
            obtain ⟨rfl, hp1, hp2, hp3⟩ := hp
            have hF9 := hFA.kt hp2
            obtain ⟨g', o', hgo, hg', hcQ⟩ := (HFR.out _ hF9).at 1 (by omega)
            simp only [Option.some.injEq, Addr.mk.injEq, and_true] at hgo
            obtain ⟨rfl, rfl⟩ := hgo
            exact ⟨rfl, hF9.b7.cell, hF9.b6.cell, by rw [← HE1.out]; exact hcQ, CPost.one ⟨rfl, hp1, hp2, hp3⟩ (HBF.out.trans (hbA.mono HBF.out.size)) HBW.out HQ.out⟩
        clear hlit hbA hcM' hcA'
        go_wp2_with (go_at_call 54; refine (HI.out _).mono ?_; rintro e w' ⟨rfl, rfl⟩)
        go_region_held3 (fun w' => w'.cell? ⟨w.heap.size + 1 + 1, 0, none⟩ = some (.func (.func 99) #[] #[.pointer (some ⟨k1, 0, none⟩), .pointer (some ⟨k2, 0, none⟩), .pointer (some ⟨k3, 0, none⟩), .pointer (some ⟨k4, 0, none⟩)]) ∧ w'.cell? ⟨w.heap.size + 1, 0, none⟩ = some (.slice (some ⟨g, i, none⟩) n (c - i)) ∧ w'.cell? ⟨g, i + 1, none⟩ = some (.int .i64 z1)) (go_keep)
          ((go_at_call 99; refine HEA.out.mono ?_; rintro e w9 ⟨rfl, t1, t2, t3, HP⟩))
        go_wp2_with fail
        go_end0
        exact HP.out
      · have HI : Hid (∀ wx, Calls Try.prog 54 #[.int .i64 z1, .int .i64 2, .int .i64 9] wx fun e w' => e = .returned (.bool false) ∧ wx = w') := fun wx => by
          have := in_any z1 2 9 wx
          rw [show inB z1 2 9 = false by unfold inB; simp; omega] at this; exact this
        have HNO : Hid (∀ u, ¬ u ∈ chs 5 b f) := fun u => chs5n (by rw [hz0, hz1]; omega) (by rw [hz0, hz1]; omega)
        clear h1 hz0 hz1 h3 h2
        have HN := Lib.hid (CPost.none (Q := fun t => ∃ u, u ∈ chs 5 b f ∧ t = wOf (wAt xs i n u)) HX.out HBF.out (fun t ⟨u, hu, _⟩ => HNO.out u hu))
        clear hcM' hcA'
        go_wp2_with (go_at_call 54; refine (HI.out _).mono ?_; rintro e w' ⟨rfl, rfl⟩)
        go_end0
        exact HN.out
    · have b3 : (z0 == 1) = false := by simp [h3]
      have HI : Hid (∀ wx, Calls Try.prog 54 #[.int .i64 z1, .int .i64 2, .int .i64 9] wx fun e w' => e = .returned (.bool (inB z1 2 9)) ∧ wx = w') := fun wx => in_any z1 2 9 wx
      have HNO : Hid (∀ u, ¬ u ∈ chs 5 b f) := fun u => chs5n (by rw [hz0, hz1]; omega) (by rw [hz0, hz1]; omega)
      clear h1 hz0 hz1 h3
      have HN := Lib.hid (CPost.none (Q := fun t => ∃ u, u ∈ chs 5 b f ∧ t = wOf (wAt xs i n u)) HX.out HBF.out (fun t ⟨u, hu, _⟩ => HNO.out u hu))
      clear hcM' hcA'
      go_wp2_with (go_at_call 54; refine (HI.out _).mono ?_; rintro e w' ⟨rfl, rfl⟩)
      go_end0
      exact HN.out
end Go.Proofs.Ytgagjmnmfgfpfaa
