/- SpeakNumber: the reference's side, and the law. -/
import Derived.Test.YtdlagajnefkklaaSpk
namespace Go.Proofs.Ytdlagajnefkklaa
open Go.RowKit

set_option maxRecDepth 100000 in
set_option maxHeartbeats 2000000 in
theorem spr_v (a b : ByteArray) (n k : Int) (w : World) (hs : a.size + b.size ≤ 1048576) (hn : -9223372036854775808 ≤ n ∧ n ≤ 9223372036854775807) (hk : -9223372036854775808 ≤ k ∧ k ≤ 9223372036854775807) (h1 : vsB a b = false) :
    Calls Try.prog 34 #[.agg #[.string a, .string b], .int .i64 n, .int .i64 k] w fun e w' => e = .returned (.tuple #[.string (spS a b n k), .bool (spB a b n k)]) ∧ Below w.heap.size w w' := by
  have HV : Hid (∀ b1, vsB a b = b1 → ∀ wx, SX w.heap.size a b wx → Calls Try.prog 36 #[.pointer (some ⟨w.heap.size, 0, none⟩)] wx fun e w' => e = .returned (.bool b1) ∧ Below wx.heap.size wx w') := fun b1 e wx h => by
    have := l07Speech_any a b w.heap.size wx hs h.c0 h.c1
    rw [e] at this; exact this
  have HK : Hid (∀ b1, inB k 1 8 = b1 → ∀ wx, Calls Try.prog 46 #[.int .i64 k, .int .i64 1, .int .i64 8] wx fun e w' => e = .returned (.bool b1) ∧ wx = w') := fun b1 e wx => by
    have := l00In_any k 1 8 wx
    rw [e] at this; exact this
  have hb : Below w.heap.size w (w.alloc (.cells #[.string a, .string b] 26)) := (Below.refl _ _).alloc (Nat.le_refl _) _
  have hX : SX w.heap.size a b (w.alloc (.cells #[.string a, .string b] 26)) := ⟨World.cell?_alloc_at _ _ _ _ rfl, World.cell?_alloc_at _ _ _ _ rfl⟩
  have hlt := hX.lt
  have HC := Lib.hid (HV.out _ h1)
  have HR := Lib.hid (spB_v (n := n) (k := k) h1)
  clear h1 HV HK
  go_enter Try.func34, Try.ntmps34
  go_wp2_with fail
  generalize w.alloc (.cells #[.string a, .string b] 26) = w0 at *
  refine (HC.out _ hX).mono ?_
  rintro e w1 ⟨rfl, hb1⟩
  have hX1 := hX.later hb1
  have hb2 := hb.trans (hb1.mono (Nat.le_of_lt hlt))
  clear hX hb hb1 hlt
  go_wp2_with fail
  go_ret2
  exact ⟨sp_ret (spS_no HR.out) HR.out, hb2⟩
set_option maxRecDepth 100000 in
set_option maxHeartbeats 2000000 in
theorem spr_k (a b : ByteArray) (n k : Int) (w : World) (hs : a.size + b.size ≤ 1048576) (hn : -9223372036854775808 ≤ n ∧ n ≤ 9223372036854775807) (hk : -9223372036854775808 ≤ k ∧ k ≤ 9223372036854775807) (h1 : vsB a b = true) (h2 : inB k 1 8 = false) :
    Calls Try.prog 34 #[.agg #[.string a, .string b], .int .i64 n, .int .i64 k] w fun e w' => e = .returned (.tuple #[.string (spS a b n k), .bool (spB a b n k)]) ∧ Below w.heap.size w w' := by
  have HV : Hid (∀ b1, vsB a b = b1 → ∀ wx, SX w.heap.size a b wx → Calls Try.prog 36 #[.pointer (some ⟨w.heap.size, 0, none⟩)] wx fun e w' => e = .returned (.bool b1) ∧ Below wx.heap.size wx w') := fun b1 e wx h => by
    have := l07Speech_any a b w.heap.size wx hs h.c0 h.c1
    rw [e] at this; exact this
  have HK : Hid (∀ b1, inB k 1 8 = b1 → ∀ wx, Calls Try.prog 46 #[.int .i64 k, .int .i64 1, .int .i64 8] wx fun e w' => e = .returned (.bool b1) ∧ wx = w') := fun b1 e wx => by
    have := l00In_any k 1 8 wx
    rw [e] at this; exact this
  have hb : Below w.heap.size w (w.alloc (.cells #[.string a, .string b] 26)) := (Below.refl _ _).alloc (Nat.le_refl _) _
  have hX : SX w.heap.size a b (w.alloc (.cells #[.string a, .string b] 26)) := ⟨World.cell?_alloc_at _ _ _ _ rfl, World.cell?_alloc_at _ _ _ _ rfl⟩
  have hlt := hX.lt
  have HC := Lib.hid (HV.out _ h1)
  have HR := Lib.hid (spB_p (a := a) (b := b) (n := n) (k := k) (by unfold pkB; rw [h2]; rfl))
  have HI := Lib.hid (HK.out _ h2)
  clear h1 h2 HV HK
  go_enter Try.func34, Try.ntmps34
  go_wp2_with fail
  generalize w.alloc (.cells #[.string a, .string b] 26) = w0 at *
  refine (HC.out _ hX).mono ?_
  rintro e w1 ⟨rfl, hb1⟩
  have hX1 := hX.later hb1
  have hb2 := hb.trans (hb1.mono (Nat.le_of_lt hlt))
  clear hX hb hb1 hlt
  go_wp2_with (go_at_call 46; refine (HI.out _).mono ?_; rintro e w' ⟨rfl, rfl⟩)
  go_ret2
  exact ⟨sp_ret (spS_no HR.out) HR.out, hb2⟩
set_option maxRecDepth 100000 in
set_option maxHeartbeats 2000000 in
theorem spr_p (a b : ByteArray) (n k : Int) (w : World) (hs : a.size + b.size ≤ 1048576) (hn : -9223372036854775808 ≤ n ∧ n ≤ 9223372036854775807) (hk : -9223372036854775808 ≤ k ∧ k ≤ 9223372036854775807) (h1 : vsB a b = true) (h2 : inB k 1 8 = true) (h3 : pkB (a.size * b.size) k = false) :
    Calls Try.prog 34 #[.agg #[.string a, .string b], .int .i64 n, .int .i64 k] w fun e w' => e = .returned (.tuple #[.string (spS a b n k), .bool (spB a b n k)]) ∧ Below w.heap.size w w' := by
  have HV : Hid (∀ b1, vsB a b = b1 → ∀ wx, SX w.heap.size a b wx → Calls Try.prog 36 #[.pointer (some ⟨w.heap.size, 0, none⟩)] wx fun e w' => e = .returned (.bool b1) ∧ Below wx.heap.size wx w') := fun b1 e wx h => by
    have := l07Speech_any a b w.heap.size wx hs h.c0 h.c1
    rw [e] at this; exact this
  have HK : Hid (∀ b1, inB k 1 8 = b1 → ∀ wx, Calls Try.prog 46 #[.int .i64 k, .int .i64 1, .int .i64 8] wx fun e w' => e = .returned (.bool b1) ∧ wx = w') := fun b1 e wx => by
    have := l00In_any k 1 8 wx
    rw [e] at this; exact this
  have hb : Below w.heap.size w (w.alloc (.cells #[.string a, .string b] 26)) := (Below.refl _ _).alloc (Nat.le_refl _) _
  have hX : SX w.heap.size a b (w.alloc (.cells #[.string a, .string b] 26)) := ⟨World.cell?_alloc_at _ _ _ _ rfl, World.cell?_alloc_at _ _ _ _ rfl⟩
  have hlt := hX.lt
  have HC := Lib.hid (HV.out _ h1)
  have HR := Lib.hid (spB_p (n := n) h3)
  have HI := Lib.hid (HK.out _ h2)
  have hkk := inB_iff.1 h2
  have hv := vsB_sz h1
  have hbb := vsB_base h1
  have hBq : (a.size : Int) * (b.size : Int) = ((a.size * b.size : Nat) : Int) := (Int.natCast_mul _ _).symm
  have hwr : IntKind.i64.wrap ((a.size : Int) * (b.size : Int)) = ((a.size * b.size : Nat) : Int) := by rw [hBq]; exact IntWalk.i64_in _ (by omega)
  clear hBq
  obtain ⟨q, rfl⟩ : ∃ q : Nat, k = (q : Int) := ⟨k.toNat, by omega⟩
  have HP : Hid (∀ wx, Calls Try.prog 55 #[.int .i64 ((a.size * b.size : Nat) : Int), .int .i64 q] wx (PwPost (a.size * b.size) q false wx)) := fun wx => by
    have := l07Power_any (a.size * b.size) q wx hbb (by omega)
    rw [show pwB (a.size * b.size) q = false by unfold pkB at h3; rw [h2, show ((q : Int)).toNat = q by omega] at h3; exact h3] at this
    exact this
  clear h1 h2 h3 HV HK
  have c0 := hX.c0
  generalize a.size * b.size = Bn at *
  go_enter Try.func34, Try.ntmps34
  go_wp2_with fail
  generalize w.alloc (.cells #[.string a, .string b] 26) = w0 at *
  refine (HC.out _ hX).mono ?_
  rintro e w1 ⟨rfl, hb1⟩
  have hX1 := hX.later hb1
  have hb2 := hb.trans (hb1.mono (Nat.le_of_lt hlt))
  clear hX hb hb1 hlt
  have c0 := hX1.c0
  have c1 := hX1.c1
  go_wp2_with (first | (go_at_call 46; refine (HI.out _).mono ?_; rintro e w' ⟨rfl, rfl⟩) | (go_at_call 55; refine (HP.out _).mono ?_; rintro e w2 ⟨r, rfl, _, hd⟩))
  go_ret2
  exact ⟨sp_ret (spS_no HR.out) HR.out, hb2.trans (hd.below.mono hb2.size)⟩
set_option maxRecDepth 100000 in
set_option maxHeartbeats 2000000 in
theorem spr_n (a b : ByteArray) (n k : Int) (w : World) (hs : a.size + b.size ≤ 1048576) (hn : -9223372036854775808 ≤ n ∧ n ≤ 9223372036854775807) (hk : -9223372036854775808 ≤ k ∧ k ≤ 9223372036854775807) (h1 : vsB a b = true) (h2 : inB k 1 8 = true) (h3 : pkB (a.size * b.size) k = true) (h4 : inB n 0 (((a.size * b.size) ^ k.toNat : Nat) - 1) = false) :
    Calls Try.prog 34 #[.agg #[.string a, .string b], .int .i64 n, .int .i64 k] w fun e w' => e = .returned (.tuple #[.string (spS a b n k), .bool (spB a b n k)]) ∧ Below w.heap.size w w' := by
  have HV : Hid (∀ b1, vsB a b = b1 → ∀ wx, SX w.heap.size a b wx → Calls Try.prog 36 #[.pointer (some ⟨w.heap.size, 0, none⟩)] wx fun e w' => e = .returned (.bool b1) ∧ Below wx.heap.size wx w') := fun b1 e wx h => by
    have := l07Speech_any a b w.heap.size wx hs h.c0 h.c1
    rw [e] at this; exact this
  have HK : Hid (∀ b1, inB k 1 8 = b1 → ∀ wx, Calls Try.prog 46 #[.int .i64 k, .int .i64 1, .int .i64 8] wx fun e w' => e = .returned (.bool b1) ∧ wx = w') := fun b1 e wx => by
    have := l00In_any k 1 8 wx
    rw [e] at this; exact this
  have hb : Below w.heap.size w (w.alloc (.cells #[.string a, .string b] 26)) := (Below.refl _ _).alloc (Nat.le_refl _) _
  have hX : SX w.heap.size a b (w.alloc (.cells #[.string a, .string b] 26)) := ⟨World.cell?_alloc_at _ _ _ _ rfl, World.cell?_alloc_at _ _ _ _ rfl⟩
  have hlt := hX.lt
  have HC := Lib.hid (HV.out _ h1)
  have HR := Lib.hid (spB_n (n := n) h4)
  have HI := Lib.hid (HK.out _ h2)
  have hkk := inB_iff.1 h2
  have hv := vsB_sz h1
  have hbb := vsB_base h1
  have hBq : (a.size : Int) * (b.size : Int) = ((a.size * b.size : Nat) : Int) := (Int.natCast_mul _ _).symm
  have hwr : IntKind.i64.wrap ((a.size : Int) * (b.size : Int)) = ((a.size * b.size : Nat) : Int) := by rw [hBq]; exact IntWalk.i64_in _ (by omega)
  clear hBq
  obtain ⟨K, rfl⟩ : ∃ K : Nat, k = (K : Int) := ⟨k.toNat, by omega⟩
  have hKN : ((K : Int)).toNat = K := by omega
  rw [hKN] at h4
  have h5 : pwB (a.size * b.size) K = true := by unfold pkB at h3; rw [h2, hKN] at h3; exact h3
  have HP : Hid (∀ wx, Calls Try.prog 55 #[.int .i64 ((a.size * b.size : Nat) : Int), .int .i64 K] wx fun e w' => e = .returned (.tuple #[.int .i64 (((a.size * b.size) ^ K : Nat) : Int), .bool true]) ∧ DrS wx w') := fun wx => by
    have := l07Power_any (a.size * b.size) K wx hbb (by omega)
    rw [h5] at this
    exact this.mono fun e w' ⟨r, e1, e2, e3⟩ => ⟨by rw [e1, e2.out rfl], e3⟩
  have hP1 : 1 ≤ (a.size * b.size) ^ K := Nat.pow_pos (by omega)
  have hP2 : (a.size * b.size) ^ K ≤ 1000000000000000 := by
    have h6 : (a.size * b.size) ^ K ≤ maxV := of_decide_eq_true h5
    exact h6
  have HI2 : Hid (∀ wx, Calls Try.prog 46 #[.int .i64 n, .int .i64 0, .int .i64 ((((a.size * b.size) ^ K : Nat) : Int) - 1)] wx fun e w' => e = .returned (.bool false) ∧ wx = w') := fun wx => by
    have := l00In_any n 0 (((a.size * b.size) ^ K : Nat) - 1) wx
    rw [h4] at this; exact this
  clear h1 h2 h3 h4 h5 HV HK hKN
  generalize (a.size * b.size) ^ K = P at *
  generalize a.size * b.size = Bn at *
  go_enter Try.func34, Try.ntmps34
  go_wp2_with fail
  generalize w.alloc (.cells #[.string a, .string b] 26) = w0 at *
  refine (HC.out _ hX).mono ?_
  rintro e w1 ⟨rfl, hb1⟩
  have hX1 := hX.later hb1
  have hb2 := hb.trans (hb1.mono (Nat.le_of_lt hlt))
  clear hX hb hb1 hlt
  have c0 := hX1.c0
  have c1 := hX1.c1
  go_wp2_with fail
  refine (HI.out _).mono ?_
  rintro e w' ⟨rfl, rfl⟩
  go_wp2_with fail
  refine (HP.out _).mono ?_
  rintro e w2 ⟨rfl, hd⟩
  go_wp2_with fail
  refine (HI2.out _).mono ?_
  rintro e w' ⟨rfl, rfl⟩
  go_wp2_with fail
  go_ret2
  exact ⟨sp_ret (spS_no HR.out) HR.out, hb2.trans (hd.below.mono hb2.size)⟩
set_option maxRecDepth 100000 in
set_option maxHeartbeats 2000000 in
theorem spr_y (a b : ByteArray) (n k : Int) (w : World) (hs : a.size + b.size ≤ 1048576) (hn : -9223372036854775808 ≤ n ∧ n ≤ 9223372036854775807) (hk : -9223372036854775808 ≤ k ∧ k ≤ 9223372036854775807) (h1 : vsB a b = true) (h2 : inB k 1 8 = true) (h3 : pkB (a.size * b.size) k = true) (h4 : inB n 0 (((a.size * b.size) ^ k.toNat : Nat) - 1) = true) :
    Calls Try.prog 34 #[.agg #[.string a, .string b], .int .i64 n, .int .i64 k] w fun e w' => e = .returned (.tuple #[.string (spS a b n k), .bool (spB a b n k)]) ∧ Below w.heap.size w w' := by
  have HV : Hid (∀ b1, vsB a b = b1 → ∀ wx, SX w.heap.size a b wx → Calls Try.prog 36 #[.pointer (some ⟨w.heap.size, 0, none⟩)] wx fun e w' => e = .returned (.bool b1) ∧ Below wx.heap.size wx w') := fun b1 e wx h => by
    have := l07Speech_any a b w.heap.size wx hs h.c0 h.c1
    rw [e] at this; exact this
  have HK : Hid (∀ b1, inB k 1 8 = b1 → ∀ wx, Calls Try.prog 46 #[.int .i64 k, .int .i64 1, .int .i64 8] wx fun e w' => e = .returned (.bool b1) ∧ wx = w') := fun b1 e wx => by
    have := l00In_any k 1 8 wx
    rw [e] at this; exact this
  have hb : Below w.heap.size w (w.alloc (.cells #[.string a, .string b] 26)) := (Below.refl _ _).alloc (Nat.le_refl _) _
  have hX : SX w.heap.size a b (w.alloc (.cells #[.string a, .string b] 26)) := ⟨World.cell?_alloc_at _ _ _ _ rfl, World.cell?_alloc_at _ _ _ _ rfl⟩
  have hlt := hX.lt
  have HC := Lib.hid (HV.out _ h1)
  have HR := Lib.hid (spB_y h1 h3 h4)
  have HI := Lib.hid (HK.out _ h2)
  have hkk := inB_iff.1 h2
  have hv := vsB_sz h1
  have hbb := vsB_base h1
  have hBq : (a.size : Int) * (b.size : Int) = ((a.size * b.size : Nat) : Int) := (Int.natCast_mul _ _).symm
  have hwr : IntKind.i64.wrap ((a.size : Int) * (b.size : Int)) = ((a.size * b.size : Nat) : Int) := by rw [hBq]; exact IntWalk.i64_in _ (by omega)
  clear hBq
  obtain ⟨K, rfl⟩ : ∃ K : Nat, k = (K : Int) := ⟨k.toNat, by omega⟩
  have hKN : ((K : Int)).toNat = K := by omega
  rw [hKN] at h4
  have h5 : pwB (a.size * b.size) K = true := by unfold pkB at h3; rw [h2, hKN] at h3; exact h3
  have HP : Hid (∀ wx, Calls Try.prog 55 #[.int .i64 ((a.size * b.size : Nat) : Int), .int .i64 K] wx fun e w' => e = .returned (.tuple #[.int .i64 (((a.size * b.size) ^ K : Nat) : Int), .bool true]) ∧ DrS wx w') := fun wx => by
    have := l07Power_any (a.size * b.size) K wx hbb (by omega)
    rw [h5] at this
    exact this.mono fun e w' ⟨r, e1, e2, e3⟩ => ⟨by rw [e1, e2.out rfl], e3⟩
  have hP1 : 1 ≤ (a.size * b.size) ^ K := Nat.pow_pos (by omega)
  have hP2 : (a.size * b.size) ^ K ≤ 1000000000000000 := by
    have h6 : (a.size * b.size) ^ K ≤ maxV := of_decide_eq_true h5
    exact h6
  have HI2 : Hid (∀ wx, Calls Try.prog 46 #[.int .i64 n, .int .i64 0, .int .i64 ((((a.size * b.size) ^ K : Nat) : Int) - 1)] wx fun e w' => e = .returned (.bool true) ∧ wx = w') := fun wx => by
    have := l00In_any n 0 (((a.size * b.size) ^ K : Nat) - 1) wx
    rw [h4] at this; exact this
  have hN := inB_iff.1 h4
  obtain ⟨N, rfl⟩ : ∃ N : Nat, n = (N : Int) := ⟨n.toNat, by omega⟩
  have HST : Hid (spS a b (N : Int) (K : Int) = spT a b N K) := by
    unfold Hid
    rw [spS_yes HR.out, show ((N : Int)).toNat = N by omega, hKN]
  clear h1 h2 h3 h4 h5 HV HK hKN
  generalize (a.size * b.size) ^ K = P at *
  go_enter Try.func34, Try.ntmps34
  go_wp2_with fail
  generalize w.alloc (.cells #[.string a, .string b] 26) = w0 at *
  refine (HC.out _ hX).mono ?_
  rintro e w1 ⟨rfl, hb1⟩
  have hX1 := hX.later hb1
  have hb2 := hb.trans (hb1.mono (Nat.le_of_lt hlt))
  clear hX hb hb1 hlt
  have c0 := hX1.c0
  have c1 := hX1.c1
  have HX1 := Lib.hid hX1
  go_wp2_with fail
  refine (HI.out _).mono ?_
  rintro e w' ⟨rfl, rfl⟩
  go_wp2_with fail
  refine (HP.out _).mono ?_
  rintro e w2 ⟨rfl, hd⟩
  go_wp2_with fail
  refine (HI2.out _).mono ?_
  rintro e w' ⟨rfl, rfl⟩
  go_wp2_with fail
  have HX := Lib.hid (hX1.later hd.below)
  have hb3 := hb2.trans (hd.below.mono hb2.size)
  clear c0 c1 hX1 HX1 hb2 hd hwr
  rw [← Int.natCast_mul]
  go_loopw [1, 12, 13] (fun nv ov iv wr => ∃ (i : Nat) (u : ByteArray), i ≤ K ∧ iv = .int .i64 i ∧ nv = .int .i64 ((N / (a.size * b.size) ^ i : Nat) : Int) ∧ ov = .string u ∧ u.size ≤ 1000 ∧ Hid (u = spT a b N i) ∧ Below w2.heap.size w2 wr) (fun _ _ iv _ => K - (intOf iv).toNat)
  case atStart => exact ⟨0, _, Nat.zero_le _, rfl, by simp, rfl, (by show (0 : Nat) ≤ 1000; omega), rfl, Below.refl _ _⟩
  case round =>
    obtain ⟨i, u, hi, rfl, rfl, rfl, hus, HU, hb⟩ := hrel
    by_cases hlt : i < K
    · have HD : Hid (N / (a.size * b.size) ^ (i + 1) = N / (a.size * b.size) ^ i / (a.size * b.size)) := div_pow_succ _ _ _
      have HG0 : Hid (i = 0 → spT a b N (i + 1) = sylN a b N i ++ ByteArray.empty) := fun h => by subst h; rfl
      have HGM : Hid (0 < i → spT a b N (i + 1) = (sylN a b N i ++ dash) ++ spT a b N i) := spT_more a b N i
      have HGZ : Hid ((spT a b N (i + 1)).size ≤ 1000) := by have := spT_size a b N (i + 1); unfold Hid; omega
      have HSN : Hid (sylN a b N i = syl a b (N / (a.size * b.size) ^ i % (a.size * b.size))) := rfl
      have hqN : N / (a.size * b.size) ^ i ≤ N := Nat.div_le_self _ _
      have hd1 : N / (a.size * b.size) ^ i % (a.size * b.size) < a.size * b.size := Nat.mod_lt _ (by omega)
      have hdq : N / (a.size * b.size) ^ i % (a.size * b.size) / b.size < a.size := Nat.div_lt_of_lt_mul (by rw [Nat.mul_comm b.size a.size]; exact hd1)
      have hdr : N / (a.size * b.size) ^ i % (a.size * b.size) % b.size < b.size := Nat.mod_lt _ (by omega)
      have HSB : Hid (syl a b (N / (a.size * b.size) ^ i % (a.size * b.size)) = ⟨#[bA a (N / (a.size * b.size) ^ i % (a.size * b.size) / b.size), bA b (N / (a.size * b.size) ^ i % (a.size * b.size) % b.size)]⟩) := rfl
      generalize N / (a.size * b.size) ^ i = q at *
      generalize a.size * b.size = Bn at *
      have hqq : q / Bn ≤ q := Nat.div_le_self _ _
      have E1 : (q : Int) % (Bn : Int) = ((q % Bn : Nat) : Int) := (Int.natCast_emod q Bn).symm
      have E2 : (q : Int) / (Bn : Int) = ((q / Bn : Nat) : Int) := (Int.natCast_ediv q Bn).symm
      have hBn : ¬ Bn = 0 := by omega
      have hm0 : ¬ b.size = 0 := by omega
      have g1 : ((q % Bn : Nat) : Int) / (b.size : Int) = ((q % Bn / b.size : Nat) : Int) := (Int.natCast_ediv (q % Bn) b.size).symm
      have g2 : ((q % Bn : Nat) : Int) % (b.size : Int) = ((q % Bn % b.size : Nat) : Int) := (Int.natCast_emod (q % Bn) b.size).symm
      have g3 : ((q % Bn : Nat) : Int).tdiv (b.size : Int) = ((q % Bn / b.size : Nat) : Int) := by rw [Int.tdiv_eq_ediv_of_nonneg (by omega)]; exact g1
      have g4 : ((q % Bn : Nat) : Int).tmod (b.size : Int) = ((q % Bn % b.size : Nat) : Int) := by rw [Int.tmod_eq_emod_of_nonneg (by omega)]; exact g2
      have hdB : q % Bn ≤ 120 := by omega
      generalize q / Bn = qq at *
      generalize q % Bn = d at *
      generalize d / b.size = dq at *
      generalize d % b.size = dr at *
      have h5 : (0 : Int) ≤ (dq : Int) := by omega
      have h6 : (dq : Int) < (a.size : Int) := by omega
      have h7 : (0 : Int) ≤ (dr : Int) := by omega
      have h8 : (dr : Int) < (b.size : Int) := by omega
      have h9 : IntKind.i64.wrap (dq : Int) = (dq : Int) := IntWalk.i64_in _ (by omega)
      have h10 : IntKind.i64.wrap (dr : Int) = (dr : Int) := IntWalk.i64_in _ (by omega)
      have hba := bA_get a dq hdq
      have hbb := bA_get b dr hdr
      have HP2 : Hid (sylN a b N i = ⟨#[a[dq], b[dr]]⟩) := by unfold Hid; rw [HSN.out, HSB.out, hba, hbb]
      have hX3 := HX.out.later hb
      have c0 := hX3.c0
      have c1 := hX3.c1
      have k2 := conv2d a[dq] b[dr] wr
      clear hba hbb HSN HSB
      go_wp2_with fail
      refine wp_region_held_drew (S := fun w' => w'.cell? ⟨w.heap.size, 0, none⟩ = some (.string a) ∧ w'.cell? ⟨w.heap.size, 1, none⟩ = some (.string b)) (by kernel_rfl) (by (try dsimp only); go_keep) (fun hHeld => ?_)
      refine wpAnyH_take (i := 0) (oi := ⟨some 57, _, _, _, _, _⟩) (v := ?va0) rfl (by kernel_rfl) (by kernel_rfl) (by kernel_rfl) (fun _ _ _ h => h) (Or.inl ⟨by rfl, ?ya0⟩) (by assumption) ?ra0
      case ya0 => (intro w hSw; (try dsimp only at hSw); go_simp; all_goals (with_reducible rfl))
      try simp only [Act.put, List.setIfInBounds_toArray, List.set_cons_zero, List.set_cons_succ]
      refine wpAnyH_take (i := 1) (oi := ⟨some 58, _, _, _, _, _⟩) (v := ?va1) rfl (by kernel_rfl) (by kernel_rfl) (by kernel_rfl) (fun _ _ _ h => h) (Or.inl ⟨by rfl, ?ya1⟩) (by assumption) ?ra1
      case ya1 => (intro w hSw; (try dsimp only at hSw); go_simp; all_goals (with_reducible rfl))
      try simp only [Act.put, List.setIfInBounds_toArray, List.set_cons_zero, List.set_cons_succ]
      refine wpAnyH_take (i := 2) (oi := ⟨some 59, _, _, _, _, _⟩) (v := ?va2) rfl (by kernel_rfl) (by kernel_rfl) (by kernel_rfl) (fun _ _ _ h => h) (Or.inl ⟨by rfl, ?ya2⟩) (by assumption) ?ra2
      case ya2 => (intro w hSw; (try dsimp only at hSw); go_simp; all_goals (with_reducible rfl))
      try simp only [Act.put, List.setIfInBounds_toArray, List.set_cons_zero, List.set_cons_succ]
      refine wpAnyH_take (i := 3) (oi := ⟨some 60, _, _, _, _, _⟩) (v := ?va3) rfl (by kernel_rfl) (by kernel_rfl) (by kernel_rfl) (fun _ _ _ h => h) (Or.inl ⟨by rfl, ?ya3⟩) (by assumption) ?ra3
      case ya3 => (intro w hSw; (try dsimp only at hSw); go_simp; all_goals (with_reducible rfl))
      try simp only [Act.put, List.setIfInBounds_toArray, List.set_cons_zero, List.set_cons_succ]
      refine wpAnyH_take (i := 4) (oi := ⟨some 61, _, _, _, _, _⟩) (v := ?va4) rfl (by kernel_rfl) (by kernel_rfl) (by kernel_rfl) (fun _ _ _ h => h) (Or.inl ⟨by rfl, ?ya4⟩) (by assumption) ?ra4
      case ya4 => (intro w hSw; (try dsimp only at hSw); go_simp; all_goals (with_reducible rfl))
      try simp only [Act.put, List.setIfInBounds_toArray, List.set_cons_zero, List.set_cons_succ]
      refine wpAnyH_take (i := 5) (oi := ⟨some 62, _, _, _, _, _⟩) (v := ?va5) rfl (by kernel_rfl) (by kernel_rfl) (by kernel_rfl) (fun _ _ _ h => h) (Or.inl ⟨by rfl, ?ya5⟩) (by assumption) ?ra5
      case ya5 => (intro w hSw; (try dsimp only at hSw); go_simp; all_goals (with_reducible rfl))
      try simp only [Act.put, List.setIfInBounds_toArray, List.set_cons_zero, List.set_cons_succ]
      refine wpAnyH_take (i := 6) (oi := ⟨some 63, _, _, _, _, _⟩) (v := ?va6) rfl (by kernel_rfl) (by kernel_rfl) (by kernel_rfl) (fun _ _ _ h => h) (Or.inl ⟨by rfl, ?ya6⟩) (by assumption) ?ra6
      case ya6 => (intro w hSw; (try dsimp only at hSw); go_simp; all_goals (with_reducible rfl))
      try simp only [Act.put, List.setIfInBounds_toArray, List.set_cons_zero, List.set_cons_succ]
      refine wpAnyH_take (i := 7) (oi := ⟨some 64, _, _, _, _, _⟩) (v := ?va7) rfl (by kernel_rfl) (by kernel_rfl) (by kernel_rfl) (fun _ _ _ h => h) (Or.inl ⟨by rfl, ?ya7⟩) (by assumption) ?ra7
      case ya7 => (intro w hSw; (try dsimp only at hSw); go_simp; all_goals (with_reducible rfl))
      try simp only [Act.put, List.setIfInBounds_toArray, List.set_cons_zero, List.set_cons_succ]
      refine wpAnyH_take (i := 8) (oi := ⟨some 65, _, _, _, _, _⟩) (v := ?va8) rfl (by kernel_rfl) (by kernel_rfl) (by kernel_rfl) (fun _ _ _ h => h) (Or.inl ⟨by rfl, ?ya8⟩) (by assumption) ?ra8
      case ya8 => (intro w hSw; (try dsimp only at hSw); go_simp; all_goals (with_reducible rfl))
      try simp only [Act.put, List.setIfInBounds_toArray, List.set_cons_zero, List.set_cons_succ]
      refine wpAnyH_take (i := 9) (oi := ⟨some 66, _, _, _, _, _⟩) (v := ?va9) rfl (by kernel_rfl) (by kernel_rfl) (by kernel_rfl) (fun _ _ _ h => h) (Or.inl ⟨by rfl, ?ya9⟩) (by assumption) ?ra9
      case ya9 => (intro w hSw; (try dsimp only at hSw); go_simp; all_goals (with_reducible rfl))
      try simp only [Act.put, List.setIfInBounds_toArray, List.set_cons_zero, List.set_cons_succ]
      refine wpAnyH_take (i := 10) (oi := ⟨some 67, _, _, _, _, _⟩) (v := ?va10) rfl (by kernel_rfl) (by kernel_rfl) (by kernel_rfl) (fun _ _ _ h => h) (Or.inl ⟨by rfl, ?ya10⟩) (by assumption) ?ra10
      case ya10 => (intro w hSw; (try dsimp only at hSw); go_simp; all_goals (with_reducible rfl))
      try simp only [Act.put, List.setIfInBounds_toArray, List.set_cons_zero, List.set_cons_succ]
      refine wpAnyH_take (i := 11) (oi := ⟨some 68, _, _, _, _, _⟩) (v := ?va11) rfl (by kernel_rfl) (by kernel_rfl) (by kernel_rfl) (fun _ _ _ h => h) (Or.inl ⟨by rfl, ?ya11⟩) (by assumption) ?ra11
      case ya11 => (intro w hSw; (try dsimp only at hSw); go_simp; all_goals (with_reducible rfl))
      try simp only [Act.put, List.setIfInBounds_toArray, List.set_cons_zero, List.set_cons_succ]
      refine wpAnyH_ready (rs := [12]) (by kernel_rfl) (by simp) ?_
      refine AllReadyH.cons rfl (fun K hK => ?_) AllReadyH.nil
      go_simp
      refine hK.out _ _ ?_ (fun hHeld => ?_)
      · (try dsimp only)
        go_keep
      clear hK K
      try simp only [Act.put, List.setIfInBounds_toArray, List.set_cons_zero, List.set_cons_succ]
      refine wpAnyH_ready (rs := [13]) (by kernel_rfl) (by simp) ?_
      refine AllReadyH.cons rfl (fun K hK => ?_) AllReadyH.nil
      go_simp
      refine hK.out _ _ ?_ (fun hHeld => ?_)
      · (try dsimp only)
        go_keep
      clear hK K
      try simp only [Act.put, List.setIfInBounds_toArray, List.set_cons_zero, List.set_cons_succ]
      refine wpAnyH_take (i := 14) (oi := ⟨some 15, _, _, _, _, _⟩) (v := ?va14) rfl (by kernel_rfl) (by kernel_rfl) (by kernel_rfl) (fun _ _ _ h => h) (Or.inl ⟨by rfl, ?ya14⟩) (by assumption) ?ra14
      case ya14 => (intro w hSw; (try dsimp only at hSw); go_simp; all_goals (with_reducible rfl))
      try simp only [Act.put, List.setIfInBounds_toArray, List.set_cons_zero, List.set_cons_succ]
      refine wpAnyH_done (by kernel_rfl) ?_ _
      have hb5 : Below w2.heap.size w2 (wr.alloc (.cells #[.int .u8 (a[dq].toNat : Int), .int .u8 (b[dr].toNat : Int)] 5)).drew := (hb.alloc hb.size _).drew
      have HB5 := Lib.hid hb5
      clear hb5
      have hz2 : (⟨#[a[dq], b[dr]]⟩ : ByteArray).size = 2 := rfl
      generalize (wr.alloc (.cells #[.int .u8 (a[dq].toNat : Int), .int .u8 (b[dr].toNat : Int)] 5)).drew = w5 at *
      clear k2 hX3 hHeld c0 c1
      generalize a[dq] = x at *
      generalize b[dr] = y at *
      generalize hsy : (⟨#[x, y]⟩ : ByteArray) = sy at *
      have HSY := Lib.hid hsy
      clear hsy
      by_cases h0 : i = 0
      · have HU0 : Hid (u = ByteArray.empty) := by unfold Hid; rw [HU.out, h0]; rfl
        have HN : Hid (sy ++ u = spT a b N (i + 1)) := by unfold Hid; rw [HG0.out h0, HP2.out, HU0.out]
        have HZ : Hid ((sy ++ u).size ≤ 1000) := by unfold Hid; rw [HN.out]; exact HGZ.out
        have hi0 : ¬ 0 < (i : Int) := by omega
        clear h0
        go_wp2_with fail
        go_roundw
        case rel => exact ⟨i + 1, _, by omega, by go_num, by rw [HD.out], rfl, HZ.out, HN, HB5.out⟩
        case measure => first | (simp [intOf]; done) | (simp [intOf]; omega)
      · have hi0 : 0 < (i : Int) := by omega
        have HN : Hid ((sy ++ ⟨#[45]⟩) ++ u = spT a b N (i + 1)) := by unfold Hid; rw [HGM.out (by omega), HP2.out, HU.out]; rfl
        have HZ : Hid (((sy ++ ⟨#[45]⟩) ++ u).size ≤ 1000) := by unfold Hid; rw [HN.out]; exact HGZ.out
        have hds : (sy ++ ⟨#[45]⟩).size ≤ 3 := by rw [ByteArray.size_append, hz2]; exact Nat.le_refl _
        clear h0
        go_wp2_with fail
        go_roundw
        case rel => exact ⟨i + 1, _, by omega, by go_num, by rw [HD.out], rfl, HZ.out, HN, HB5.out⟩
        case measure => first | (simp [intOf]; done) | (simp [intOf]; omega)
    · obtain rfl : i = K := by omega
      go_wp2_with fail
      go_ret2
      exact ⟨sp_ret (HST.out.trans HU.out.symm) HR.out, hb3.trans (hb.mono hb3.size)⟩
theorem specSp_any (a b : ByteArray) (n k : Int) (w : World) (hs : a.size + b.size ≤ 1048576) (hn : -9223372036854775808 ≤ n ∧ n ≤ 9223372036854775807) (hk : -9223372036854775808 ≤ k ∧ k ≤ 9223372036854775807) :
    Calls Try.prog 34 #[.agg #[.string a, .string b], .int .i64 n, .int .i64 k] w fun e w' => e = .returned (.tuple #[.string (spS a b n k), .bool (spB a b n k)]) ∧ Below w.heap.size w w' := by
  cases h1 : vsB a b
  · exact spr_v a b n k w hs hn hk h1
  cases h2 : inB k 1 8
  · exact spr_k a b n k w hs hn hk h1 h2
  cases h3 : pkB (a.size * b.size) k
  · exact spr_p a b n k w hs hn hk h1 h2 h3
  cases h4 : inB n 0 (((a.size * b.size) ^ k.toNat : Nat) - 1)
  · exact spr_n a b n k w hs hn hk h1 h2 h3 h4
  · exact spr_y a b n k w hs hn hk h1 h2 h3 h4
end Go.Proofs.Ytdlagajnefkklaa
