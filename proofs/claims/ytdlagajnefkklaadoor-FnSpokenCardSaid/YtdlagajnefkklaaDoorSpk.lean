/- SpeakNumber: the program's side. -/
import Derived.Test.YtdlagajnefkklaaDoorSpkP
import Derived.Test.YtdlagajnefkklaaDoorRev
import Derived.Test.YtdlagajnefkklaaDoorShJoin
namespace Go.Proofs.YtdlagajnefkklaaDoor
open Go.RowKit

theorem conv2 (g c : Nat) (x y : UInt8) (w : World) (h0 : w.cell? ⟨g, 0, none⟩ = some (.int .u8 (x.toNat : Int))) (h1 : w.cell? ⟨g, 1, none⟩ = some (.int .u8 (y.toNat : Int))) :
    (convert 28 9 (.slice (some ⟨g, 0, none⟩) 2 c)).run Tryd.prog w = .ok (.string ⟨#[x, y]⟩) w := by
  have := run_convert_bytes_arg (P := Tryd.prog) (w := w) 28 5 Tryd.underlying28 Tryd.underlying5 g 0 _ c [(x.toNat : Int), (y.toNat : Int)] rfl (fun i hi => by
    match i, hi with
    | 0, _ => exact h0
    | 1, _ => exact h1) _ Tryd.underlying9
  rw [show strOfNums [(x.toNat : Int), (y.toNat : Int)] = ⟨#[x, y]⟩ by simp [strOfNums]] at this
  exact this
theorem conv2d (x y : UInt8) (w : World) :
    (convert 28 9 (.slice (some ⟨w.heap.size, 0, none⟩) 2 2)).run Tryd.prog (w.alloc (.cells #[.int .u8 (x.toNat : Int), .int .u8 (y.toNat : Int)] 5)).drew = .ok (.string ⟨#[x, y]⟩) (w.alloc (.cells #[.int .u8 (x.toNat : Int), .int .u8 (y.toNat : Int)] 5)).drew :=
  conv2 _ _ _ _ _ (World.cell?_alloc_at _ _ _ _ rfl) (World.cell?_alloc_at _ _ _ _ rfl)

theorem OS.grown {B : Nat} {w : World} {v : Value} {l : List ByteArray} (h : OS B w v l) (o : Obj) : OS B (w.alloc o) v l := OV.alloc h o
theorem spB_v {a b : ByteArray} {n k : Int} (h : vsB a b = false) : spB a b n k = false := by unfold spB; rw [h]; rfl
theorem spB_p {a b : ByteArray} {n k : Int} (h : pkB (a.size * b.size) k = false) : spB a b n k = false := by
  unfold pkB at h; unfold spB
  rw [← Bool.and_assoc (inB k 1 8), h]; simp
theorem spB_n {a b : ByteArray} {n k : Int} (h : inB n 0 (((a.size * b.size) ^ k.toNat : Nat) - 1) = false) : spB a b n k = false := by unfold spB; rw [h]; simp
theorem spB_y {a b : ByteArray} {n k : Int} (h1 : vsB a b = true) (h2 : pkB (a.size * b.size) k = true) (h3 : inB n 0 (((a.size * b.size) ^ k.toNat : Nat) - 1) = true) : spB a b n k = true := by
  unfold pkB at h2; unfold spB
  rw [← Bool.and_assoc (inB k 1 8), h1, h2, h3]; rfl
set_option maxRecDepth 100000 in
set_option maxHeartbeats 2000000 in
theorem sp_v (a b : ByteArray) (n k : Int) (w : World) (hs : a.size + b.size ≤ 1048576) (hn : -9223372036854775808 ≤ n ∧ n ≤ 9223372036854775807) (hk : -9223372036854775808 ≤ k ∧ k ≤ 9223372036854775807) (h1 : vsB a b = false) :
    Calls Tryd.prog 19 #[.agg #[.string a, .string b], .int .i64 n, .int .i64 k] w fun e w' => e = .returned (.tuple #[.string (spS a b n k), .bool (spB a b n k)]) ∧ Below w.heap.size w w' := by
  have HV : Hid (∀ b1, vsB a b = b1 → ∀ wx, Calls Tryd.prog 20 #[.agg #[.string a, .string b]] wx fun e w' => e = .returned (.bool b1) ∧ Below wx.heap.size wx w') := fun b1 e wx => by
    have := implSpeech_any a b wx hs
    rw [e] at this; exact this
  have hb : Below w.heap.size w (w.alloc (.cells #[.string a, .string b] 37)) := (Below.refl _ _).alloc (Nat.le_refl _) _
  have hX : SX w.heap.size a b (w.alloc (.cells #[.string a, .string b] 37)) := ⟨World.cell?_alloc_at _ _ _ _ rfl, World.cell?_alloc_at _ _ _ _ rfl⟩
  have hlt := hX.lt
  have c0 := hX.c0
  have c1 := hX.c1
  have HC := Lib.hid (HV.out _ h1)
  have HR := Lib.hid (spB_v (n := n) (k := k) h1)
  clear h1 HV
  go_enter Tryd.func19, Tryd.ntmps19
  go_wp2_with fail
  generalize w.alloc (.cells #[.string a, .string b] 37) = w0 at *
  refine (HC.out _).mono ?_
  rintro e w1 ⟨rfl, hb1⟩
  have hX1 := hX.later hb1
  have hb2 := hb.trans (hb1.mono (Nat.le_of_lt hlt))
  clear c0 c1 hX hb hb1 hlt
  go_wp2_with fail
  go_ret2
  exact ⟨sp_ret (spS_no HR.out) HR.out, hb2⟩
set_option maxRecDepth 100000 in
set_option maxHeartbeats 2000000 in
theorem sp_p (a b : ByteArray) (n k : Int) (w : World) (hs : a.size + b.size ≤ 1048576) (hn : -9223372036854775808 ≤ n ∧ n ≤ 9223372036854775807) (hk : -9223372036854775808 ≤ k ∧ k ≤ 9223372036854775807) (h1 : vsB a b = true) (h2 : pkB (a.size * b.size) k = false) :
    Calls Tryd.prog 19 #[.agg #[.string a, .string b], .int .i64 n, .int .i64 k] w fun e w' => e = .returned (.tuple #[.string (spS a b n k), .bool (spB a b n k)]) ∧ Below w.heap.size w w' := by
  have HV : Hid (∀ b1, vsB a b = b1 → ∀ wx, Calls Tryd.prog 20 #[.agg #[.string a, .string b]] wx fun e w' => e = .returned (.bool b1) ∧ Below wx.heap.size wx w') := fun b1 e wx => by
    have := implSpeech_any a b wx hs
    rw [e] at this; exact this
  have hb : Below w.heap.size w (w.alloc (.cells #[.string a, .string b] 37)) := (Below.refl _ _).alloc (Nat.le_refl _) _
  have hX : SX w.heap.size a b (w.alloc (.cells #[.string a, .string b] 37)) := ⟨World.cell?_alloc_at _ _ _ _ rfl, World.cell?_alloc_at _ _ _ _ rfl⟩
  have hlt := hX.lt
  have c0 := hX.c0
  have c1 := hX.c1
  have HC := Lib.hid (HV.out _ h1)
  have HR := Lib.hid (spB_p (n := n) h2)
  have HP : Hid (∀ wx, SX w.heap.size a b wx → Calls Tryd.prog 34 #[.pointer (some ⟨w.heap.size, 0, none⟩), .int .i64 k] wx (PwPost (a.size * b.size) k.toNat false wx)) := fun wx h => by
    have := power_any w.heap.size a b k wx h h1
    rw [h2] at this; exact this
  clear h1 h2 HV
  go_enter Tryd.func19, Tryd.ntmps19
  go_wp2_with fail
  generalize w.alloc (.cells #[.string a, .string b] 37) = w0 at *
  refine (HC.out _).mono ?_
  rintro e w1 ⟨rfl, hb1⟩
  have hX1 := hX.later hb1
  have hb2 := hb.trans (hb1.mono (Nat.le_of_lt hlt))
  clear c0 c1 hX hb hb1 hlt
  go_wp2_with fail
  refine (HP.out _ hX1).mono ?_
  rintro e w2 ⟨r, rfl, _, hd⟩
  go_wp2_with fail
  go_ret2
  exact ⟨sp_ret (spS_no HR.out) HR.out, hb2.trans (hd.below.mono hb2.size)⟩
set_option maxRecDepth 100000 in
set_option maxHeartbeats 2000000 in
theorem sp_n (a b : ByteArray) (n k : Int) (w : World) (hs : a.size + b.size ≤ 1048576) (hn : -9223372036854775808 ≤ n ∧ n ≤ 9223372036854775807) (hk : -9223372036854775808 ≤ k ∧ k ≤ 9223372036854775807) (h1 : vsB a b = true) (h2 : pkB (a.size * b.size) k = true) (h3 : inB n 0 (((a.size * b.size) ^ k.toNat : Nat) - 1) = false) :
    Calls Tryd.prog 19 #[.agg #[.string a, .string b], .int .i64 n, .int .i64 k] w fun e w' => e = .returned (.tuple #[.string (spS a b n k), .bool (spB a b n k)]) ∧ Below w.heap.size w w' := by
  have HV : Hid (∀ b1, vsB a b = b1 → ∀ wx, Calls Tryd.prog 20 #[.agg #[.string a, .string b]] wx fun e w' => e = .returned (.bool b1) ∧ Below wx.heap.size wx w') := fun b1 e wx => by
    have := implSpeech_any a b wx hs
    rw [e] at this; exact this
  have hb : Below w.heap.size w (w.alloc (.cells #[.string a, .string b] 37)) := (Below.refl _ _).alloc (Nat.le_refl _) _
  have hX : SX w.heap.size a b (w.alloc (.cells #[.string a, .string b] 37)) := ⟨World.cell?_alloc_at _ _ _ _ rfl, World.cell?_alloc_at _ _ _ _ rfl⟩
  have hlt := hX.lt
  have c0 := hX.c0
  have c1 := hX.c1
  have HC := Lib.hid (HV.out _ h1)
  have HR := Lib.hid (spB_n (n := n) h3)
  have HP : Hid (∀ wx, SX w.heap.size a b wx → Calls Tryd.prog 34 #[.pointer (some ⟨w.heap.size, 0, none⟩), .int .i64 k] wx fun e w' => e = .returned (.tuple #[.int .i64 (((a.size * b.size) ^ k.toNat : Nat) : Int), .bool true]) ∧ DrS wx w') := fun wx h => by
    have := power_any w.heap.size a b k wx h h1
    rw [h2] at this
    exact this.mono fun e w' ⟨r, e1, e2, e3⟩ => ⟨by rw [e1, e2.out rfl], e3⟩
  have hP1 : 1 ≤ (a.size * b.size) ^ k.toNat := Nat.pow_pos (by have := (vsB_base h1).1; omega)
  have hP2 : (a.size * b.size) ^ k.toNat ≤ 1000000000000000 := by
    unfold pkB at h2
    rw [Bool.and_eq_true] at h2
    have h4 : (a.size * b.size) ^ k.toNat ≤ maxV := of_decide_eq_true h2.2
    exact h4
  have HI : Hid (∀ b1, inB n 0 (((a.size * b.size) ^ k.toNat : Nat) - 1) = b1 → ∀ wx, Calls Tryd.prog 37 #[.int .i64 n, .int .i64 0, .int .i64 ((((a.size * b.size) ^ k.toNat : Nat) : Int) - 1)] wx fun e w' => e = .returned (.bool b1) ∧ wx = w') := fun b1 e wx => by
    have := in_any n 0 (((a.size * b.size) ^ k.toNat : Nat) - 1) wx
    rw [e] at this; exact this
  have HI2 := Lib.hid (HI.out _ h3)
  clear h1 h2 h3 HV HI
  generalize (a.size * b.size) ^ k.toNat = P at *
  go_enter Tryd.func19, Tryd.ntmps19
  go_wp2_with fail
  generalize w.alloc (.cells #[.string a, .string b] 37) = w0 at *
  refine (HC.out _).mono ?_
  rintro e w1 ⟨rfl, hb1⟩
  have hX1 := hX.later hb1
  have hb2 := hb.trans (hb1.mono (Nat.le_of_lt hlt))
  clear c0 c1 hX hb hb1 hlt
  go_wp2_with fail
  refine (HP.out _ hX1).mono ?_
  rintro e w2 ⟨rfl, hd⟩
  go_wp2_with (go_at_call 37; refine (HI2.out _).mono ?_; rintro e w' ⟨rfl, rfl⟩)
  go_ret2
  exact ⟨sp_ret (spS_no HR.out) HR.out, hb2.trans (hd.below.mono hb2.size)⟩
theorem joinSp (a b : ByteArray) (n K bk o c : Nat) (w : World) (h1 : 1 ≤ K ∧ K ≤ 8) (h : RS w (.slice (some ⟨bk, o, none⟩) K c) (sylS a b n K).reverse) :
    Calls Tryd.prog 29 #[.slice (some ⟨bk, o, none⟩) K c, .string ⟨#[45]⟩] w fun e w' => e = .returned (.string (spT a b n K)) ∧ Below w.heap.size w w' := by
  have hl : (sylS a b n K).reverse.length = K := by rw [List.length_reverse, sylS_len]
  have hs := spT_size a b n K
  have hj : (Lib.join ((sylS a b n K).reverse.map (·.data.toList)) [45]).length = (spT a b n K).size := by rw [← spT_join]; simp
  obtain ⟨g, off, e1, e2, _⟩ := h.at 0 (by rw [hl]; omega)
  have hcap := h.cap
  rw [hl] at hcap
  have := sh_strings_Join bk o c (sylS a b n K).reverse ⟨#[45]⟩ w (fun j x hx => by
    have hj : j < (sylS a b n K).reverse.length := by
      rcases Nat.lt_or_ge j (sylS a b n K).reverse.length with h | h
      · exact h
      · rw [List.getElem?_eq_none h] at hx; simp at hx
    obtain ⟨g', off', e3, _, e4⟩ := h.at j hj
    simp only [Option.some.injEq, Addr.mk.injEq, and_true] at e3
    obtain ⟨rfl, rfl⟩ := e3
    rw [e4]
    rw [List.getElem?_eq_getElem hj] at hx
    simp only [Option.some.injEq] at hx
    rw [sAt, List.getD_eq_getElem?_getD, List.getElem?_eq_getElem hj, hx]; rfl) (by
    simp only [Option.some.injEq, Addr.mk.injEq, and_true] at e1
    omega) (by rw [hl]; omega) (by rw [hl]; omega) (by
    show (Lib.join _ [45]).length ≤ _
    rw [hj]; omega)
  rw [hl] at this
  refine this.mono fun e w' ⟨he, hb⟩ => ⟨?_, hb⟩
  rw [he]
  show Ending.returned (.string ⟨(Lib.join _ [45]).toArray⟩) = _
  rw [join_spT]
set_option maxRecDepth 100000 in
set_option maxHeartbeats 2000000 in
theorem sp_y (a b : ByteArray) (n k : Int) (w : World) (hs : a.size + b.size ≤ 1048576) (hn : -9223372036854775808 ≤ n ∧ n ≤ 9223372036854775807) (hk : -9223372036854775808 ≤ k ∧ k ≤ 9223372036854775807) (h1 : vsB a b = true) (h2 : pkB (a.size * b.size) k = true) (h3 : inB n 0 (((a.size * b.size) ^ k.toNat : Nat) - 1) = true) :
    Calls Tryd.prog 19 #[.agg #[.string a, .string b], .int .i64 n, .int .i64 k] w fun e w' => e = .returned (.tuple #[.string (spS a b n k), .bool (spB a b n k)]) ∧ Below w.heap.size w w' := by
  have HV : Hid (∀ b1, vsB a b = b1 → ∀ wx, Calls Tryd.prog 20 #[.agg #[.string a, .string b]] wx fun e w' => e = .returned (.bool b1) ∧ Below wx.heap.size wx w') := fun b1 e wx => by
    have := implSpeech_any a b wx hs
    rw [e] at this; exact this
  have hb : Below w.heap.size w (w.alloc (.cells #[.string a, .string b] 37)) := (Below.refl _ _).alloc (Nat.le_refl _) _
  have hX : SX w.heap.size a b (w.alloc (.cells #[.string a, .string b] 37)) := ⟨World.cell?_alloc_at _ _ _ _ rfl, World.cell?_alloc_at _ _ _ _ rfl⟩
  have hlt := hX.lt
  have c0 := hX.c0
  have c1 := hX.c1
  have HC := Lib.hid (HV.out _ h1)
  have HR := Lib.hid (spB_y h1 h2 h3)
  have HP : Hid (∀ wx, SX w.heap.size a b wx → Calls Tryd.prog 34 #[.pointer (some ⟨w.heap.size, 0, none⟩), .int .i64 k] wx fun e w' => e = .returned (.tuple #[.int .i64 (((a.size * b.size) ^ k.toNat : Nat) : Int), .bool true]) ∧ DrS wx w') := fun wx h => by
    have := power_any w.heap.size a b k wx h h1
    rw [h2] at this
    exact this.mono fun e w' ⟨r, e1, e2, e3⟩ => ⟨by rw [e1, e2.out rfl], e3⟩
  have hP1 : 1 ≤ (a.size * b.size) ^ k.toNat := Nat.pow_pos (by have := (vsB_base h1).1; omega)
  have hP2 : (a.size * b.size) ^ k.toNat ≤ 1000000000000000 := by
    unfold pkB at h2
    rw [Bool.and_eq_true] at h2
    have h4 : (a.size * b.size) ^ k.toNat ≤ maxV := of_decide_eq_true h2.2
    exact h4
  have HI : Hid (∀ b1, inB n 0 (((a.size * b.size) ^ k.toNat : Nat) - 1) = b1 → ∀ wx, Calls Tryd.prog 37 #[.int .i64 n, .int .i64 0, .int .i64 ((((a.size * b.size) ^ k.toNat : Nat) : Int) - 1)] wx fun e w' => e = .returned (.bool b1) ∧ wx = w') := fun b1 e wx => by
    have := in_any n 0 (((a.size * b.size) ^ k.toNat : Nat) - 1) wx
    rw [e] at this; exact this
  have HI2 := Lib.hid (HI.out _ h3)
  have hK : 1 ≤ k ∧ k ≤ 8 := by unfold pkB at h2; rw [Bool.and_eq_true, inB_iff] at h2; exact h2.1
  have hN := inB_iff.1 h3
  have HBS : Hid (∀ wx, SX w.heap.size a b wx → Calls Tryd.prog 36 #[.pointer (some ⟨w.heap.size, 0, none⟩)] wx fun e w' => e = .returned (.int .i64 ((a.size * b.size : Nat) : Int)) ∧ DrS wx w') := fun wx h => base_any w.heap.size a b wx h h1
  have hv := vsB_sz h1
  have hbb := vsB_base h1
  clear h1 h2 h3 HV HI
  generalize (a.size * b.size) ^ k.toNat = P at *
  obtain ⟨K, rfl⟩ : ∃ K : Nat, k = (K : Int) := ⟨k.toNat, by omega⟩
  obtain ⟨N, rfl⟩ : ∃ N : Nat, n = (N : Int) := ⟨n.toNat, by omega⟩
  have HST : Hid (spS a b (N : Int) (K : Int) = spT a b N K) := by
    unfold Hid
    rw [spS_yes HR.out, show ((N : Int)).toNat = N by omega, show ((K : Int)).toNat = K by omega]
  have H0 : Hid (∀ w2 : World, OS w2.heap.size (w2.alloc (.cells #[] 9)) (.slice (some ⟨w2.heap.size, 0, none⟩) 0 0) (sylS a b N 0)) := fun w2 => OV.made 9 w2 (Nat.le_refl _)
  go_enter Tryd.func19, Tryd.ntmps19
  go_wp2_with fail
  generalize w.alloc (.cells #[.string a, .string b] 37) = w0 at *
  refine (HC.out _).mono ?_
  rintro e w1 ⟨rfl, hb1⟩
  have hX1 := hX.later hb1
  have hb2 := hb.trans (hb1.mono (Nat.le_of_lt hlt))
  clear c0 c1 hX hb hb1 hlt
  go_wp2_with fail
  refine (HP.out _ hX1).mono ?_
  rintro e w2 ⟨rfl, hd⟩
  have hX2 := hX1.later hd.below
  have hb3 := hb2.trans (hd.below.mono hb2.size)
  clear hX1 hb2 hd
  have c1 := hX2.c1
  go_wp2_with (go_at_call 37; refine (HI2.out _).mono ?_; rintro e w' ⟨rfl, rfl⟩)
  go_region_held3 (fun w' => w'.cell? ⟨w.heap.size, 1, none⟩ = some (.string b)) (go_keep) (fail)
  have HS0 := Lib.hid ((H0.out w2).later ((Below.refl (w2.alloc (.cells #[] 9)).heap.size (w2.alloc (.cells #[] 9))).drew))
  have hbr : Below w2.heap.size w2 (w2.alloc (.cells #[] 9)).drew := ((Below.refl _ _).alloc (Nat.le_refl _) _).drew
  have HX := Lib.hid hX2
  clear c1 hX2 H0
  go_wp2_with fail
  go_loopw [1, 10, 35] (fun nv ov iv wr => ∃ i : Nat, i ≤ K ∧ iv = .int .i64 i ∧ nv = .int .i64 ((N / (a.size * b.size) ^ i : Nat) : Int) ∧ OS w2.heap.size wr ov (sylS a b N i) ∧ Below w2.heap.size w2 wr) (fun _ _ iv _ => K - (intOf iv).toNat)
  case atStart => exact ⟨0, Nat.zero_le _, rfl, by simp, HS0.out, hbr⟩
  case round =>
    obtain ⟨i, hi, rfl, rfl, ho, hb⟩ := hrel
    clear hbr HS0
    by_cases hlt : i < K
    · have HD : Hid (N / (a.size * b.size) ^ (i + 1) = N / (a.size * b.size) ^ i / (a.size * b.size)) := div_pow_succ _ _ _
      have HSY := Lib.hid (sylS_succ a b N i)
      have HSN : Hid (sylN a b N i = syl a b (N / (a.size * b.size) ^ i % (a.size * b.size))) := rfl
      have hqN : N / (a.size * b.size) ^ i ≤ N := Nat.div_le_self _ _
      have hd1 : N / (a.size * b.size) ^ i % (a.size * b.size) < a.size * b.size := Nat.mod_lt _ (by omega)
      have hdq : N / (a.size * b.size) ^ i % (a.size * b.size) / b.size < a.size := Nat.div_lt_of_lt_mul (by rw [Nat.mul_comm b.size a.size]; exact hd1)
      have hdr : N / (a.size * b.size) ^ i % (a.size * b.size) % b.size < b.size := Nat.mod_lt _ (by omega)
      have HSB : Hid (syl a b (N / (a.size * b.size) ^ i % (a.size * b.size)) = ⟨#[bA a (N / (a.size * b.size) ^ i % (a.size * b.size) / b.size), bA b (N / (a.size * b.size) ^ i % (a.size * b.size) % b.size)]⟩) := rfl
      have HB := Lib.hid fun wx h => HBS.out wx (HX.out.later h)
      have HW : Hid (∀ w3, DrS wr w3 → Below w2.heap.size w2 w3) := fun w3 h => hb.trans (h.below.mono hb.size)
      generalize N / (a.size * b.size) ^ i = q at *
      generalize a.size * b.size = Bn at *
      have E1 : (q : Int) % (Bn : Int) = ((q % Bn : Nat) : Int) := (Int.natCast_emod q Bn).symm
      have E2 : (q : Int) / (Bn : Int) = ((q / Bn : Nat) : Int) := (Int.natCast_ediv q Bn).symm
      have hBn : ¬ Bn = 0 := by omega
      have hm0 : ¬ b.size = 0 := by omega
      have g1 : ((q % Bn : Nat) : Int) / (b.size : Int) = ((q % Bn / b.size : Nat) : Int) := (Int.natCast_ediv (q % Bn) b.size).symm
      have g2 : ((q % Bn : Nat) : Int) % (b.size : Int) = ((q % Bn % b.size : Nat) : Int) := (Int.natCast_emod (q % Bn) b.size).symm
      have g3 : ((q % Bn : Nat) : Int).tdiv (b.size : Int) = ((q % Bn / b.size : Nat) : Int) := by rw [Int.tdiv_eq_ediv_of_nonneg (by omega)]; exact g1
      have g4 : ((q % Bn : Nat) : Int).tmod (b.size : Int) = ((q % Bn % b.size : Nat) : Int) := by rw [Int.tmod_eq_emod_of_nonneg (by omega)]; exact g2
      have hqq : q / Bn ≤ q := Nat.div_le_self _ _
      have hdB : q % Bn ≤ 120 := by omega
      generalize q / Bn = qq at *
      generalize q % Bn = d at *
      generalize d / b.size = dq at *
      generalize d % b.size = dr at *
      have h5 : (0 : Int) ≤ (dq : Int) := by omega
      have h6 : (dq : Int) < (a.size : Int) := by omega
      have h7 : (0 : Int) ≤ (dr : Int) := by omega
      have h8 : (dr : Int) < (b.size : Int) := by omega
      have h9 : IntKind.i64.wrap (dq : Int) = (dq : Int) := IntWalk.i64_in _ (by omega)
      have h10 : IntKind.i64.wrap (dr : Int) = (dr : Int) := IntWalk.i64_in _ (by omega)
      have hba := bA_get a dq hdq
      have hbb := bA_get b dr hdr
      have HP2 : Hid (sylN a b N i = ⟨#[a[dq], b[dr]]⟩) := by unfold Hid; rw [HSN.out, HSB.out, hba, hbb]
      clear hba hbb HSN HSB
      go_wp2_with fail
      refine (HB.out _ hb).mono ?_
      rintro e w3 ⟨rfl, hd3⟩
      have hb3 := HW.out _ hd3
      have ho3 := ho.later hd3.below
      have hX3 := HX.out.later hb3
      have c0 := hX3.c0
      have c1 := hX3.c1
      have k2 := conv2d a[dq] b[dr] w3
      obtain ⟨oa, oc, rfl⟩ := ho3.read.slice
      rw [sylS_len] at ho3
      simp only [sylS_len]
      have hpl : (ss (sylS a b N i)).length ≤ 1099511627776 := by rw [ss_length, sylS_len]; omega
      go_wp2_with fail
      refine wp_region_held_drew (S := fun w' => w'.cell? ⟨w.heap.size, 0, none⟩ = some (.string a) ∧ w'.cell? ⟨w.heap.size, 1, none⟩ = some (.string b)) (by kernel_rfl) (by (try dsimp only); go_keep) (fun hHeld => ?_)
      refine wpAnyH_take (i := 0) (oi := ⟨some 40, _, _, _, _, _⟩) (v := ?va0) rfl (by kernel_rfl) (by kernel_rfl) (by kernel_rfl) (fun _ _ _ h => h) (Or.inl ⟨by rfl, ?ya0⟩) (by assumption) ?ra0
      case ya0 => (intro w hSw; (try dsimp only at hSw); go_simp; all_goals (with_reducible rfl))
      try simp only [Act.put, List.setIfInBounds_toArray, List.set_cons_zero, List.set_cons_succ]
      refine wpAnyH_take (i := 1) (oi := ⟨some 41, _, _, _, _, _⟩) (v := ?va1) rfl (by kernel_rfl) (by kernel_rfl) (by kernel_rfl) (fun _ _ _ h => h) (Or.inl ⟨by rfl, ?ya1⟩) (by assumption) ?ra1
      case ya1 => (intro w hSw; (try dsimp only at hSw); go_simp; all_goals (with_reducible rfl))
      try simp only [Act.put, List.setIfInBounds_toArray, List.set_cons_zero, List.set_cons_succ]
      refine wpAnyH_take (i := 2) (oi := ⟨some 42, _, _, _, _, _⟩) (v := ?va2) rfl (by kernel_rfl) (by kernel_rfl) (by kernel_rfl) (fun _ _ _ h => h) (Or.inl ⟨by rfl, ?ya2⟩) (by assumption) ?ra2
      case ya2 => (intro w hSw; (try dsimp only at hSw); go_simp; all_goals (with_reducible rfl))
      try simp only [Act.put, List.setIfInBounds_toArray, List.set_cons_zero, List.set_cons_succ]
      refine wpAnyH_take (i := 3) (oi := ⟨some 43, _, _, _, _, _⟩) (v := ?va3) rfl (by kernel_rfl) (by kernel_rfl) (by kernel_rfl) (fun _ _ _ h => h) (Or.inl ⟨by rfl, ?ya3⟩) (by assumption) ?ra3
      case ya3 => (intro w hSw; (try dsimp only at hSw); go_simp; all_goals (with_reducible rfl))
      try simp only [Act.put, List.setIfInBounds_toArray, List.set_cons_zero, List.set_cons_succ]
      refine wpAnyH_take (i := 4) (oi := ⟨some 44, _, _, _, _, _⟩) (v := ?va4) rfl (by kernel_rfl) (by kernel_rfl) (by kernel_rfl) (fun _ _ _ h => h) (Or.inl ⟨by rfl, ?ya4⟩) (by assumption) ?ra4
      case ya4 => (intro w hSw; (try dsimp only at hSw); go_simp; all_goals (with_reducible rfl))
      try simp only [Act.put, List.setIfInBounds_toArray, List.set_cons_zero, List.set_cons_succ]
      refine wpAnyH_take (i := 5) (oi := ⟨some 45, _, _, _, _, _⟩) (v := ?va5) rfl (by kernel_rfl) (by kernel_rfl) (by kernel_rfl) (fun _ _ _ h => h) (Or.inl ⟨by rfl, ?ya5⟩) (by assumption) ?ra5
      case ya5 => (intro w hSw; (try dsimp only at hSw); go_simp; all_goals (with_reducible rfl))
      try simp only [Act.put, List.setIfInBounds_toArray, List.set_cons_zero, List.set_cons_succ]
      refine wpAnyH_take (i := 6) (oi := ⟨some 46, _, _, _, _, _⟩) (v := ?va6) rfl (by kernel_rfl) (by kernel_rfl) (by kernel_rfl) (fun _ _ _ h => h) (Or.inl ⟨by rfl, ?ya6⟩) (by assumption) ?ra6
      case ya6 => (intro w hSw; (try dsimp only at hSw); go_simp; all_goals (with_reducible rfl))
      try simp only [Act.put, List.setIfInBounds_toArray, List.set_cons_zero, List.set_cons_succ]
      refine wpAnyH_take (i := 7) (oi := ⟨some 47, _, _, _, _, _⟩) (v := ?va7) rfl (by kernel_rfl) (by kernel_rfl) (by kernel_rfl) (fun _ _ _ h => h) (Or.inl ⟨by rfl, ?ya7⟩) (by assumption) ?ra7
      case ya7 => (intro w hSw; (try dsimp only at hSw); go_simp; all_goals (with_reducible rfl))
      try simp only [Act.put, List.setIfInBounds_toArray, List.set_cons_zero, List.set_cons_succ]
      refine wpAnyH_take (i := 8) (oi := ⟨some 48, _, _, _, _, _⟩) (v := ?va8) rfl (by kernel_rfl) (by kernel_rfl) (by kernel_rfl) (fun _ _ _ h => h) (Or.inl ⟨by rfl, ?ya8⟩) (by assumption) ?ra8
      case ya8 => (intro w hSw; (try dsimp only at hSw); go_simp; all_goals (with_reducible rfl))
      try simp only [Act.put, List.setIfInBounds_toArray, List.set_cons_zero, List.set_cons_succ]
      refine wpAnyH_take (i := 9) (oi := ⟨some 49, _, _, _, _, _⟩) (v := ?va9) rfl (by kernel_rfl) (by kernel_rfl) (by kernel_rfl) (fun _ _ _ h => h) (Or.inl ⟨by rfl, ?ya9⟩) (by assumption) ?ra9
      case ya9 => (intro w hSw; (try dsimp only at hSw); go_simp; all_goals (with_reducible rfl))
      try simp only [Act.put, List.setIfInBounds_toArray, List.set_cons_zero, List.set_cons_succ]
      refine wpAnyH_take (i := 10) (oi := ⟨some 50, _, _, _, _, _⟩) (v := ?va10) rfl (by kernel_rfl) (by kernel_rfl) (by kernel_rfl) (fun _ _ _ h => h) (Or.inl ⟨by rfl, ?ya10⟩) (by assumption) ?ra10
      case ya10 => (intro w hSw; (try dsimp only at hSw); go_simp; all_goals (with_reducible rfl))
      try simp only [Act.put, List.setIfInBounds_toArray, List.set_cons_zero, List.set_cons_succ]
      refine wpAnyH_take (i := 11) (oi := ⟨some 51, _, _, _, _, _⟩) (v := ?va11) rfl (by kernel_rfl) (by kernel_rfl) (by kernel_rfl) (fun _ _ _ h => h) (Or.inl ⟨by rfl, ?ya11⟩) (by assumption) ?ra11
      case ya11 => (intro w hSw; (try dsimp only at hSw); go_simp; all_goals (with_reducible rfl))
      try simp only [Act.put, List.setIfInBounds_toArray, List.set_cons_zero, List.set_cons_succ]
      refine wpAnyH_take (i := 12) (oi := ⟨some 52, _, _, _, _, _⟩) (v := ?va12) rfl (by kernel_rfl) (by kernel_rfl) (by kernel_rfl) (fun _ _ _ h => h) (Or.inl ⟨by rfl, ?ya12⟩) (by assumption) ?ra12
      case ya12 => (intro w hSw; (try dsimp only at hSw); go_simp; all_goals (with_reducible rfl))
      try simp only [Act.put, List.setIfInBounds_toArray, List.set_cons_zero, List.set_cons_succ]
      refine wpAnyH_ready (rs := [13]) (by kernel_rfl) (by simp) ?_
      refine AllReadyH.cons rfl (fun K hK => ?_) AllReadyH.nil
      go_simp
      refine hK.out _ _ ?_ (fun hHeld => ?_)
      · (try dsimp only)
        go_keep
      clear hK K
      try simp only [Act.put, List.setIfInBounds_toArray, List.set_cons_zero, List.set_cons_succ]
      refine wpAnyH_ready (rs := [14]) (by kernel_rfl) (by simp) ?_
      refine AllReadyH.cons rfl (fun K hK => ?_) AllReadyH.nil
      go_simp
      refine hK.out _ _ ?_ (fun hHeld => ?_)
      · (try dsimp only)
        go_keep
      clear hK K
      try simp only [Act.put, List.setIfInBounds_toArray, List.set_cons_zero, List.set_cons_succ]
      refine wpAnyH_ready (rs := [15]) (by kernel_rfl) (by simp) ?_
      refine AllReadyH.cons rfl (fun K hK => ?_) AllReadyH.nil
      go_simp
      refine hK.out _ _ ?_ (fun hHeld => ?_)
      · (try dsimp only)
        go_keep
      clear hK K
      try simp only [Act.put, List.setIfInBounds_toArray, List.set_cons_zero, List.set_cons_succ]
      have HZ : Hid ((w3.alloc (.cells #[.int .u8 (a[dq].toNat : Int), .int .u8 (b[dr].toNat : Int)] 5)).heap.size = w3.heap.size + 1) := by unfold Hid; simp
      have HO4 : Hid (OV 9 w2.heap.size ((w3.alloc (.cells #[.int .u8 (a[dq].toNat : Int), .int .u8 (b[dr].toNat : Int)] 5)).alloc (.cells #[.string ⟨#[a[dq], b[dr]]⟩] 9)).drew (.slice oa i oc) (ss (sylS a b N i))) := (OV.alloc (OV.alloc ho3 _) _).drew
      have HC4 : Hid (((w3.alloc (.cells #[.int .u8 (a[dq].toNat : Int), .int .u8 (b[dr].toNat : Int)] 5)).alloc (.cells #[.string ⟨#[a[dq], b[dr]]⟩] 9)).drew.cell? ⟨w3.heap.size + 1, 0, none⟩ = some (.string ⟨#[a[dq], b[dr]]⟩)) := World.cell?_alloc_at _ _ _ _ HZ.out.symm
      have HB4 : Hid (Below w2.heap.size w2 ((w3.alloc (.cells #[.int .u8 (a[dq].toNat : Int), .int .u8 (b[dr].toNat : Int)] 5)).alloc (.cells #[.string ⟨#[a[dq], b[dr]]⟩] 9)).drew) := ((hb3.alloc hb3.size _).alloc (by rw [HZ.out]; have := hb3.size; omega) _).drew
      have HS4 : Hid (w2.heap.size ≤ ((w3.alloc (.cells #[.int .u8 (a[dq].toNat : Int), .int .u8 (b[dr].toNat : Int)] 5)).alloc (.cells #[.string ⟨#[a[dq], b[dr]]⟩] 9)).drew.heap.size) := HB4.out.size
      refine wpAnyH_ready (rs := [16]) (by kernel_rfl) (by simp) ?_
      refine AllReadyH.cons rfl (fun K hK => ?_) AllReadyH.nil
      refine step_app Tryd.underlying43 info_str rfl (by omega) (by rfl) _ _ (by rfl) w2.heap.size _ _ (by rfl) HO4.out ⟨w3.heap.size + 1, 0, none⟩ 1 (.string ⟨#[a[dq], b[dr]]⟩) (by rfl) HC4.out rfl hpl HS4.out ?_
      intro v' w4 ho4 hgr
      have hb4 := own_below HB4.out HO4.out hgr HS4.out
      have hX4 := HX.out.later hb4
      have d0 := hX4.c0
      have d1 := hX4.c1
      have ho5 : OS w2.heap.size w4 v' (sylS a b N (i + 1)) := by
        unfold OS
        rw [HSY.out, HP2.out]
        simpa [ss] using ho4
      obtain ⟨va, vc, rfl⟩ := ho5.read.slice
      refine hK.out _ _ (by (try dsimp only); go_keep) (fun hHeld => ?_)
      clear hK K ho4 hgr
      try simp only [Act.put, List.setIfInBounds_toArray, List.set_cons_zero, List.set_cons_succ]
      refine wpAnyH_take (i := 17) (oi := ⟨some 10, _, _, _, _, _⟩) (v := ?va17) rfl (by kernel_rfl) (by kernel_rfl) (by kernel_rfl) (fun _ _ _ h => h) (Or.inl ⟨by rfl, ?ya17⟩) (by assumption) ?ra17
      case ya17 => (intro w hSw; (try dsimp only at hSw); go_simp; all_goals (with_reducible rfl))
      try simp only [Act.put, List.setIfInBounds_toArray, List.set_cons_zero, List.set_cons_succ]
      refine wpAnyH_done (by kernel_rfl) ?_ _
      go_wp2_with fail
      refine (HB.out _ hb4).mono ?_
      rintro e w5 ⟨rfl, hd5⟩
      have ho6 := ho5.later hd5.below
      have hb6 := hb4.trans (hd5.below.mono hb4.size)
      go_wp2_with fail
      go_roundw
      case rel => exact ⟨i + 1, by omega, by go_num, by rw [HD.out], ho6, hb6⟩
      case measure => first | (simp [intOf]; done) | (simp [intOf]; omega)
    · obtain rfl : i = K := by omega
      have hlen : (sylS a b N i).length = i := sylS_len _ _ _ _
      have HRV := Lib.hid (revS_any _ _ _ _ ho (by rw [hlen]; omega) (by rw [hlen]; omega))
      obtain ⟨oa, oc, rfl⟩ := ho.read.slice
      rw [hlen] at HRV
      simp only [hlen]
      clear hlen
      go_wp2_with fail
      refine HRV.out.mono ?_
      rintro e w4 ⟨rfl, hrs, hb4⟩
      obtain ⟨bk, o, rfl, _⟩ := hrs.at 0 (by rw [List.length_reverse, sylS_len]; omega)
      have HJ := Lib.hid (joinSp a b N i bk o oc w4 (by omega) hrs)
      go_wp2_with (go_at_call 29; refine HJ.out.mono ?_; rintro e w5 ⟨rfl, hb5⟩)
      go_ret2
      have hbz : Below w2.heap.size w2 w4 := hb.trans (hb4.mono (Nat.le_refl _))
      exact ⟨sp_ret HST.out HR.out, hb3.trans ((hbz.trans (hb5.mono hbz.size)).mono hb3.size)⟩
theorem implSp_any (a b : ByteArray) (n k : Int) (w : World) (hs : a.size + b.size ≤ 1048576) (hn : -9223372036854775808 ≤ n ∧ n ≤ 9223372036854775807) (hk : -9223372036854775808 ≤ k ∧ k ≤ 9223372036854775807) :
    Calls Tryd.prog 19 #[.agg #[.string a, .string b], .int .i64 n, .int .i64 k] w fun e w' => e = .returned (.tuple #[.string (spS a b n k), .bool (spB a b n k)]) ∧ Below w.heap.size w w' := by
  cases h1 : vsB a b
  · exact sp_v a b n k w hs hn hk h1
  cases h2 : pkB (a.size * b.size) k
  · exact sp_p a b n k w hs hn hk h1 h2
  cases h3 : inB n 0 (((a.size * b.size) ^ k.toNat : Nat) - 1)
  · exact sp_n a b n k w hs hn hk h1 h2 h3
  · exact sp_y a b n k w hs hn hk h1 h2 h3
end Go.Proofs.YtdlagajnefkklaaDoor
