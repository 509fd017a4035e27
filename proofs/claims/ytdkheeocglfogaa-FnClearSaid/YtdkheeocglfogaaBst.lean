/- ClearSymbols: the reference's search. -/
import Derived.Test.YtdkheeocglfogaaGro
import Derived.Test.YtdkheeocglfogaaFamS
namespace Go.Proofs.Ytdkheeocglfogaa
open Go.RowKit

def BPost (s : ByteArray) (r : List Nat) (w : World) (e : Ending) (w' : World) : Prop := ∃ q, e = .returned (.string q) ∧ bz q = r.map (bI s) ∧ Below w.heap.size w w'
theorem bz_map_len {s q : ByteArray} {t : List Nat} (h : bz q = t.map (bI s)) : q.size = t.length := by rw [← bz_len, h, List.length_map]
set_option maxHeartbeats 4000000 in
set_option maxRecDepth 100000 in
theorem l07Best_any (X : Nat) (s : ByteArray) (v : Value) (l : List ByteArray) (wa : World) (hbx : LX X s v wa) (hx : RS wa v l) (hm : l.length ≤ 1048576) (hs : s.size ≤ 18) (h2 : Hid (∀ i, i < l.length → (sAt l i).size = 2)) :
    ∀ (k i : Nat) (t b : List Nat) (qt qb : ByteArray) (w : World), i + k = s.size → Asc i t → Asc s.size b → bz qt = t.map (bI s) → bz qb = b.map (bI s) → Below wa.heap.size wa w →
    Calls Try.prog 46 #[.pointer (some ⟨X, 0, none⟩), .int .i64 (i : Nat), .string qt, .string qb] w (BPost s (gro (lk s l) s.size k t b) w) := by
  have HC : Hid (∀ wr, Below wa.heap.size wa wr → wr.cell? ⟨X, 0, none⟩ = some (.string s)) := fun wr h => (h.cell (p := ⟨X, 0, none⟩) hbx.lt).trans hbx.c0
  have HAL : Hid (∀ i j b, i < s.size → j < s.size → lk s l i j = b → ∀ wr, Below wa.heap.size wa wr → Calls Try.prog 41 #[.pointer (some ⟨X, 0, none⟩), .int .u8 (bI s j), .int .u8 (bI s i)] wr fun e w' => e = .returned (.bool b) ∧ wr = w') := fun i j b hi hj e wr h => by
    have := l07Alike_any X s v l (bAt s j) (bAt s i) wr (hbx.later h) (hx.later h) hm h2.out
    rw [lk_symm] at e
    unfold lk at e
    rw [e] at this
    exact this
  clear hbx hx h2
  intro k
  induction k with
  | zero =>
    intro i t b qt qb w hi ht hb ht2 hb2 hw
    have s1 := bz_map_len ht2
    have s2 := bz_map_len hb2
    have i1 : i ≤ 18 := by omega
    have l1 : t.length ≤ i := by simpa using asc_len t 0 i ht.1 fun j hj => ⟨Nat.zero_le _, ht.2 j hj⟩
    have l2 : b.length ≤ s.size := by simpa using asc_len b 0 s.size hb.1 fun j hj => ⟨Nat.zero_le _, hb.2 j hj⟩
    have c0 := HC.out w hw
    have b2 : ((i : Int) == s.size) = true := by simp; omega
    have HT := Lib.hid ht2
    have HB := Lib.hid hb2
    clear ht2 hb2
    by_cases hc : t.length ≤ b.length
    · have HQ : Hid (gro (lk s l) s.size 0 t b = b) := gro_cut _ _ _ _ _ (by simpa using hc)
      have b1 : decide ((qt.size : Int) + s.size - i ≤ qb.size) = true := by simp; omega
      have q1 : qt.size ≤ 18 := by omega
      have q2 : qb.size ≤ 18 := by omega
      clear hc hi s1 s2 ht hb l1 l2
      go_enter Try.func46, Try.ntmps46
      go_wp2_with fail
      go_ret
      rw [HQ.out]
      exact ⟨_, rfl, HB.out, Below.refl _ _⟩
    · have HQ : Hid (gro (lk s l) s.size 0 t b = t) := gro_end _ _ _ _ hc
      have b1 : decide ((qt.size : Int) + s.size - i ≤ qb.size) = false := by simp; omega
      have q1 : qt.size ≤ 18 := by omega
      have q2 : qb.size ≤ 18 := by omega
      clear hc ht hb s1 s2 l1 l2
      go_enter Try.func46, Try.ntmps46
      go_wp2_with fail
      go_ret
      rw [HQ.out]
      exact ⟨_, rfl, HT.out, Below.refl _ _⟩
  | succ k ih =>
    have IH := Lib.hid ih
    clear ih
    intro i t b qt qb w hi ht hb ht2 hb2 hw
    have s1 := bz_map_len ht2
    have s2 := bz_map_len hb2
    have i1 : i ≤ 18 := by omega
    have l1 : t.length ≤ i := by simpa using asc_len t 0 i ht.1 fun j hj => ⟨Nat.zero_le _, ht.2 j hj⟩
    have l2 : b.length ≤ s.size := by simpa using asc_len b 0 s.size hb.1 fun j hj => ⟨Nat.zero_le _, hb.2 j hj⟩
    have c0 := HC.out w hw
    have b2 : ((i : Int) == s.size) = false := by simp; omega
    have hin : s.size - (k + 1) = i := by omega
    have HT := Lib.hid ht2
    have HB := Lib.hid hb2
    have HTA := Lib.hid ht
    have HBA := Lib.hid hb
    clear ht2 hb2
    by_cases hc : t.length + (k + 1) ≤ b.length
    · have HQ : Hid (gro (lk s l) s.size (k + 1) t b = b) := gro_cut _ _ _ _ _ hc
      have b1 : decide ((qt.size : Int) + s.size - i ≤ qb.size) = true := by simp; omega
      have q1 : qt.size ≤ 18 := by omega
      have q2 : qb.size ≤ 18 := by omega
      clear hc hin ht hb s1 s2 l1 l2
      go_enter Try.func46, Try.ntmps46
      go_wp2_with fail
      go_ret
      rw [HQ.out]
      exact ⟨_, rfl, HB.out, Below.refl _ _⟩
    · have b1 : decide ((qt.size : Int) + s.size - i ≤ qb.size) = false := by simp; omega
      have HQY : Hid ((t.all fun j => !lk s l i j) = true → gro (lk s l) s.size (k + 1) t b = gro (lk s l) s.size k t (gro (lk s l) s.size k (t ++ [i]) b)) := fun h => by
        have := gro_yes (lk s l) s.size k t b hc (by rw [hin]; exact h)
        rw [hin] at this; exact this
      have HQN : Hid ((t.all fun j => !lk s l i j) = false → gro (lk s l) s.size (k + 1) t b = gro (lk s l) s.size k t b) := fun h => gro_no (lk s l) s.size k t b hc (by rw [hin]; exact h)
      have HASC : Hid (Asc (i + 1) (t ++ [i]) ∧ Asc (i + 1) t) := ⟨ht.snoc, ht.mono (by omega)⟩
      have HB2 : Hid (Asc s.size (gro (lk s l) s.size k (t ++ [i]) b)) := gro_asc _ _ _ _ _ (by omega) (by rw [show s.size - k = i + 1 by omega]; exact ht.snoc) hb
      have hil : i < s.size := by omega
      have HX2 := Lib.hid (bz_one s i hil)
      have hx1 : (s.extract i (i + 1)).size = 1 := by rw [← bz_len, HX2.out]; rfl
      have HQN2 : Hid (bz (qt ++ s.extract i (i + 1)) = (t ++ [i]).map (bI s)) := by unfold Hid; rw [bz_append, HT.out, HX2.out, List.map_append]; rfl
      have HI1 : Hid (∀ wr, Below wa.heap.size wa wr → Calls Try.prog 46 #[.pointer (some ⟨X, 0, none⟩), .int .i64 ((i : Int) + 1), .string (qt ++ s.extract i (i + 1)), .string qb] wr (BPost s (gro (lk s l) s.size k (t ++ [i]) b) wr)) := fun wr h => IH.out (i + 1) _ b _ _ wr (by omega) HASC.out.1 hb HQN2.out HB.out h
      have HI2 : Hid (∀ b qb wr, Asc s.size b → bz qb = b.map (bI s) → Below wa.heap.size wa wr → Calls Try.prog 46 #[.pointer (some ⟨X, 0, none⟩), .int .i64 ((i : Int) + 1), .string qt, .string qb] wr (BPost s (gro (lk s l) s.size k t b) wr)) := fun b qb wr hb h2 h => IH.out (i + 1) t b _ _ wr (by omega) HASC.out.2 hb HT.out h2 h
      have f1 : (i : Int) < (s.size : Int) := by omega
      have HLT : Hid (∀ a, a ∈ t → a < s.size) := fun a ha => by have := ht.2 a ha; omega
      have q1 : qt.size ≤ 18 := by omega
      have q2 : qb.size ≤ 18 := by omega
      have S1 := Lib.hid s1
      clear hc hin ht hb IH HASC HTA s1 s2 l1 l2
      go_enter Try.func46, Try.ntmps46
      go_wp2_with fail
      go_loopw [9, 10] (fun fv jv wr => ∃ j : Nat, j ≤ qt.size ∧ jv = .int .i64 j ∧ fv = .bool ((t.take j).all fun a => !lk s l i a) ∧ Below w.heap.size w wr) (fun _ jv _ => qt.size - (intOf jv).toNat)
      case atStart => exact ⟨0, Nat.zero_le _, rfl, rfl, Below.refl _ _⟩
      case round =>
        obtain ⟨j, hj, rfl, rfl, hb⟩ := hrel
        have hbw := hw.trans (hb.mono hw.size)
        have c0 := HC.out _ hbw
        by_cases hjl : j < qt.size
        · have hjt : j < t.length := by rw [← S1.out]; exact hjl
          have f2 : (j : Int) < (qt.size : Int) := by omega
          have HTK : Hid (((t.take (j + 1)).all fun a => !lk s l i a) = (((t.take j).all fun a => !lk s l i a) && !lk s l i t[j])) := by
            unfold Hid
            rw [List.take_succ_eq_append_getElem hjt, List.all_append]; simp
          have hqj : Hid ((qt[j].toNat : Int) = bI s t[j]) := by
            unfold Hid
            rw [← bz_get qt j hjl, HT.out]
            simp [hjt]
          have hsm : Hid ((s[i].toNat : Int) = bI s i) := by unfold Hid bI; rw [bAt_get s i hil]
          have HLA : Hid (∀ b, lk s l i t[j] = b → ∀ n, Calls Try.prog 41 #[.pointer (some ⟨X, 0, none⟩), .int .u8 (qt[j].toNat : Int), .int .u8 (s[i].toNat : Int)] (wr.drewN n) fun e w' => e = .returned (.bool b) ∧ wr.drewN n = w') := fun b e n => by
            rw [hqj.out, hsm.out]
            exact HAL.out i t[j] b hil (HLT.out _ (List.getElem_mem _)) e _ (below_drewN hbw n)
          cases hf : (t.take j).all fun a => !lk s l i a
          · rw [hf] at HTK
            clear hf HLA
            go_wp2_with fail
            go_quiet (fail)
            go_wp2_with fail
            go_roundw
            case rel => exact ⟨j + 1, by omega, by go_num, by rw [HTK.out]; rfl, below_drewN hb _⟩
            case measure => first | (simp [intOf]; done) | (simp [intOf]; omega)
          · cases hal : lk s l i t[j]
            · have HA := Lib.hid (HLA.out _ hal)
              rw [hf, hal] at HTK
              clear hf hal HLA
              go_wp2_with fail
              go_quiet ((go_at_call 41; exact quiet_same (HA.out _)))
              go_wp2_with fail
              go_roundw
              case rel => exact ⟨j + 1, by omega, by go_num, by rw [HTK.out]; rfl, below_drewN hb _⟩
              case measure => first | (simp [intOf]; done) | (simp [intOf]; omega)
            · have HA := Lib.hid (HLA.out _ hal)
              rw [hf, hal] at HTK
              clear hf hal HLA
              go_wp2_with fail
              go_quiet ((go_at_call 41; exact quiet_same (HA.out _)))
              go_wp2_with fail
              go_roundw
              case rel => exact ⟨j + 1, by omega, by go_num, by rw [HTK.out]; rfl, below_drewN hb _⟩
              case measure => first | (simp [intOf]; done) | (simp [intOf]; omega)
        · have hje : (t.take j).all (fun a => !lk s l i a) = t.all fun a => !lk s l i a := by rw [List.take_of_length_le (by rw [← S1.out]; omega)]
          cases hf : t.all fun a => !lk s l i a
          · have HR := Lib.hid (HQN.out hf)
            have HI := Lib.hid (HI2.out b qb _ HBA.out HB.out hbw)
            rw [hje, hf]
            clear hje hf
            go_wp2_with fail
            refine HI.out.mono ?_
            rintro e w5 ⟨q, rfl, h5, hb5⟩
            go_wp2_with fail
            go_ret
            rw [HR.out]
            exact ⟨_, rfl, h5, hb.trans (hb5.mono hb.size)⟩
          · have HR := Lib.hid (HQY.out hf)
            have HI := Lib.hid (HI1.out _ hbw)
            rw [hje, hf]
            clear hje hf
            go_wp2_with fail
            refine HI.out.mono ?_
            rintro e w5 ⟨q, rfl, h5, hb5⟩
            have hb6 := hb.trans (hb5.mono hb.size)
            have hbw6 := hw.trans (hb6.mono hw.size)
            have HI3 := Lib.hid (HI2.out _ q _ HB2.out h5 hbw6)
            go_wp2_with fail
            refine HI3.out.mono ?_
            rintro e w7 ⟨q7, rfl, h7, hb7⟩
            go_wp2_with fail
            go_ret
            rw [HR.out]
            exact ⟨_, rfl, h7, hb6.trans (hb7.mono hb6.size)⟩
end Go.Proofs.Ytdkheeocglfogaa
