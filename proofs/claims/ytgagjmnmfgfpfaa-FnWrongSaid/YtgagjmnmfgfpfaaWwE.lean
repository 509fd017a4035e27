/- WrongWords: the program's callbacks, second part: wrong$1, and the makers of changes. -/
import Derived.Test.YtgagjmnmfgfpfaaWwC
import Derived.RegionTactic
import Derived.ChangeAlike
import Derived.BigRegion
namespace Go.Proofs.Ytgagjmnmfgfpfaa
open Go.RowKit

theorem BX.set {w : World} {k : Nat} {T : TypeId} {v : Value} (h : BX w k T v) (v' : Value) : BX (w.setCell ⟨k, 0, none⟩ v') k T v' :=
  ⟨by simp only [World.setCell, Array.getElem?_modify, if_pos, h.1, Option.map_some]; rfl, h.2⟩
theorem BX.setOther {w : World} {k j : Nat} {T : TypeId} {v : Value} (h : BX w k T v) (hn : k ≠ j) (o : Nat) (v' : Value) : BX (w.setCell ⟨j, o, none⟩ v') k T v :=
  ⟨(heap_setCell_other _ _ _ _ hn).trans h.1, h.2⟩
theorem BX.alloc {w : World} {k : Nat} {T : TypeId} {v : Value} (h : BX w k T v) (o : Obj) : BX (w.alloc o) k T v := h.later ((Below.refl _ _).alloc (Nat.le_refl _) o)
theorem RK.dropO {kd : IntKind} {g off n cap : Nat} {w : World} {xs : List Int} (h : RK kd w (.slice (some ⟨g, off, none⟩) n cap) xs) (k : Nat) (hk : k ≤ xs.length) : RK kd w (.slice (some ⟨g, off + k, none⟩) (xs.length - k) (cap - k)) (xs.drop k) := by
  have hcap := h.cap
  refine ⟨some ⟨g, off + k, none⟩, cap - k, by rw [List.length_map, List.length_drop], by rw [List.length_map, List.length_drop]; omega, fun j hj => ?_⟩
  rw [List.length_map, List.length_drop] at hj
  obtain ⟨g', off', h1, h2, h3⟩ := h.at (k + j) (by omega)
  simp only [Option.some.injEq, Addr.mk.injEq, and_true] at h1
  obtain ⟨rfl, rfl⟩ := h1
  refine ⟨g, off + k, rfl, ?_⟩
  rw [Nat.add_assoc, h3]
  have e : k + j < xs.length := by omega
  simp [e]
/-- The boxes of wrong: the callback, the digits, the place, the length. -/
structure EW (X : Nat) (xs : List Int) (g c k1 k2 k3 k4 i n : Nat) (w : World) : Prop where
  own : OI 0 w (.slice (some ⟨g, 0, none⟩) xs.length c) xs
  b1 : BX w k1 97 (.func (.func 90) #[] #[.pointer (some ⟨X, 0, none⟩)])
  b2 : BX w k2 47 (.slice (some ⟨g, 0, none⟩) xs.length c)
  b3 : BX w k3 3 (.int .i64 i)
  b4 : BX w k4 3 (.int .i64 n)
theorem EW.kt {X : Nat} {xs : List Int} {g c k1 k2 k3 k4 i n : Nat} {w w' : World} (h : EW X xs g c k1 k2 k3 k4 i n w) (hk : KT w w') : EW X xs g c k1 k2 k3 k4 i n w' :=
  ⟨h.own.kt hk, h.b1.kt hk, h.b2.kt hk, h.b3.kt hk, h.b4.kt hk⟩
set_option maxRecDepth 100000 in
set_option maxHeartbeats 4000000 in
theorem wrong1_any (X B : Nat) (xs : List Int) (g c k1 k2 k3 k4 i n : Nat) (tv : Value) (u : List Int) (l : List ByteArray) (w : World) (hE : EW X xs g c k1 k2 k3 k4 i n w) (hX : WX X B w l) (hu : RI w tv u) (hun : u.length = n) (hin : i + n ≤ xs.length) (hxl : xs.length ≤ 20) (h35 : ∀ z ∈ wAt xs i n u, 0 ≤ z ∧ z ≤ 35) (hl : l.length ≤ 1000000) :
    Calls Try.prog 99 #[tv, .pointer (some ⟨k1, 0, none⟩), .pointer (some ⟨k2, 0, none⟩), .pointer (some ⟨k3, 0, none⟩), .pointer (some ⟨k4, 0, none⟩)] w (WPost X B (l ++ [wOf (wAt xs i n u)]) w) := by
  obtain ⟨ta, tc, rfl⟩ := hu.slice
  rw [hun] at hu
  have hr := hE.own.read
  have hcap := hr.cap
  have hwl := wAt_len hin hun
  have HDO : Hid (∀ v4 w4, RI w4 v4 (wAt xs i n u) → Below w.heap.size w w4 → Calls Try.prog 90 #[v4, .pointer (some ⟨X, 0, none⟩)] w4 fun e w' => e = .returned (.tuple #[]) ∧
      w'.cell? ⟨k1, 0, none⟩ = some (.func (.func 90) #[] #[.pointer (some ⟨X, 0, none⟩)]) ∧ w'.cell? ⟨k2, 0, none⟩ = some (.slice (some ⟨g, 0, none⟩) xs.length c) ∧ w'.cell? ⟨k3, 0, none⟩ = some (.int .i64 i) ∧ w'.cell? ⟨k4, 0, none⟩ = some (.int .i64 n) ∧
      WPost X B (l ++ [wOf (wAt xs i n u)]) w (.returned (.tuple #[])) w') := fun v4 w4 hr4 hb4 => by
    refine (ww1_any X B v4 (wAt xs i n u) l w4 hr4 h35 (by omega) hl (hX.later hb4)).mono ?_
    rintro e w' ⟨rfl, h1, h2, h3⟩
    have e4 := (hE.kt (Below.kt hb4)).kt h2
    have hBX : B ≤ w.heap.size := by
      obtain ⟨_, _, _, h⟩ := id hX
      exact Nat.le_trans h (Nat.le_of_lt hX.lt)
    exact ⟨rfl, e4.b1.cell, e4.b2.cell, e4.b3.cell, e4.b4.cell, rfl, (hb4.mono hBX).trans h1, (Below.kt hb4).trans h2, h3⟩
  obtain ⟨E, hEE⟩ : ∃ E : Nat, (E : Int) = (i : Int) + (n : Int) := ⟨i + n, by omega⟩
  have hEn : E = i + n := by omega
  have HEN := Lib.hid hEn
  have hw1 : IntKind.i64.wrap ((i : Int) + (n : Int)) = (E : Int) := by rw [hEE]; exact IntWalk.i64_in _ (by omega)
  have HR1 : Hid (RI w (.slice (some ⟨g, 0, none⟩) i c) (xs.take i)) := RK.take hr i (by omega)
  have HR3' := RK.dropO hr E (by omega)
  rw [Nat.zero_add] at HR3'
  have HU := Lib.hid hu
  have HE := Lib.hid hE
  have p1 : (i : Int) ≤ (c : Int) := by omega
  have p2 : (E : Int) ≤ (xs.length : Int) := by omega
  have p3 : (E : Int) ≤ (c : Int) := by omega
  have p4 : (xs.length : Int) ≤ (c : Int) := by omega
  have p5 : (0 : Int) ≤ (i : Int) := by omega
  have p6 : (0 : Int) ≤ (E : Int) := by omega
  clear hEE hu hX hl h35 hr hE
  by_cases hc : c = E
  · have hxe : xs.length = E := by omega
    have HR3 : Hid (RI w (.slice (some ⟨g, 0, none⟩) 0 0) (xs.drop E)) := by
      unfold Hid
      rw [← hxe, List.drop_length]
      exact RV.nil w _ 0 (by simp)
    clear hxe
    clear HR3' hEn
    obtain rfl : E = c := hc.symm
    have HL3 : RVV ((w.alloc (.cells #[.slice (some ⟨g, 0, none⟩) i E, .slice ta n tc, .slice (some ⟨g, 0, none⟩) 0 0] 47)).drew) (.slice (some ⟨w.heap.size, 0, none⟩) 3 3) [(xs.take i).map (Value.int .i64), u.map (Value.int .i64), (xs.drop E).map (Value.int .i64)] := by
      have hbA : Below w.heap.size w ((w.alloc (.cells #[.slice (some ⟨g, 0, none⟩) i E, .slice ta n tc, .slice (some ⟨g, 0, none⟩) 0 0] 47)).drew) := ((Below.refl _ _).alloc (Nat.le_refl _) _).drew
      have hLit : OV 47 w.heap.size (w.alloc (.cells #[.slice (some ⟨g, 0, none⟩) i E, .slice ta n tc, .slice (some ⟨g, 0, none⟩) 0 0] 47)) (.slice (some ⟨w.heap.size, 0, none⟩) 3 3) [.slice (some ⟨g, 0, none⟩) i E, .slice ta n tc, .slice (some ⟨g, 0, none⟩) 0 0] := OV.lit 47 w [.slice (some ⟨g, 0, none⟩) i E, .slice ta n tc, .slice (some ⟨g, 0, none⟩) 0 0] (Nat.le_refl _) (by simp [maxLen])
      refine ⟨_, hLit.drew.read, rfl, fun j hj => ?_⟩
      have : j = 0 ∨ j = 1 ∨ j = 2 := by simp at hj; omega
      rcases this with rfl | rfl | rfl
      · exact RK.later HR1.out hbA
      · exact RK.later HU.out hbA
      · exact RK.later HR3.out hbA
    have HCT := Lib.hid (catI_any _ _ _ HL3 (by simp) (by simp [tlC]; omega) (fun j hj => by
      have : j = 0 ∨ j = 1 ∨ j = 2 := by simp at hj; omega
      rcases this with rfl | rfl | rfl <;> (intro z hz; obtain ⟨q, _, rfl⟩ := List.mem_map.1 hz; rfl)))
    have HCC : Hid (Calls Try.prog 100 #[.slice (some ⟨w.heap.size, 0, none⟩) 3 3] ((w.alloc (.cells #[.slice (some ⟨g, 0, none⟩) i E, .slice ta n tc, .slice (some ⟨g, 0, none⟩) 0 0] 47)).drew) fun e w4 => ∃ v4, e = .returned v4 ∧ RI w4 v4 (wAt xs i n u) ∧ Below w.heap.size w w4 ∧
        w4.cell? ⟨k1, 0, none⟩ = some (.func (.func 90) #[] #[.pointer (some ⟨X, 0, none⟩)]) ∧ w4.cell? ⟨k2, 0, none⟩ = some (.slice (some ⟨g, 0, none⟩) xs.length E) ∧ w4.cell? ⟨k3, 0, none⟩ = some (.int .i64 i) ∧ w4.cell? ⟨k4, 0, none⟩ = some (.int .i64 n)) := by
      refine HCT.out.mono ?_
      rintro e w4 ⟨v4, rfl, ho4, hb4⟩
      have hbA : Below w.heap.size w ((w.alloc (.cells #[.slice (some ⟨g, 0, none⟩) i E, .slice ta n tc, .slice (some ⟨g, 0, none⟩) 0 0] 47)).drew) := ((Below.refl _ _).alloc (Nat.le_refl _) _).drew
      have hbb := hbA.trans (hb4.mono hbA.size)
      have e4 := HE.out.kt (Below.kt hbb)
      refine ⟨v4, rfl, ?_, hbb, e4.b1.cell, e4.b2.cell, e4.b3.cell, e4.b4.cell⟩
      have := OV.read ho4
      unfold RI RK wAt
      rw [← HEN.out]
      simpa using this
    clear HL3 HCT
    have s1 := HE.out.b1.cell
    have s2 := HE.out.b2.cell
    have s3 := HE.out.b3.cell
    have s4 := HE.out.b4.cell
    go_enter Try.func99, Try.ntmps99
    go_region_held3 (fun w' => w'.cell? ⟨k1, 0, none⟩ = some (.func (.func 90) #[] #[.pointer (some ⟨X, 0, none⟩)]) ∧ w'.cell? ⟨k2, 0, none⟩ = some (.slice (some ⟨g, 0, none⟩) xs.length E) ∧ w'.cell? ⟨k3, 0, none⟩ = some (.int .i64 i) ∧ w'.cell? ⟨k4, 0, none⟩ = some (.int .i64 n)) (go_keep)
      ((first
        | (go_at_call 100; refine HCC.out.mono ?_; rintro e w4 ⟨v4, rfl, ho4, hb4, t1, t2, t3, t4⟩)
        | (go_at_call 90; refine (HDO.out _ _ ho4 hb4).mono ?_; rintro e w5 ⟨rfl, q1, q2, q3, q4, hfin⟩)))
    have HFI := Lib.hid hfin
    clear hfin
    go_wp2_with fail
    go_end0
    exact HFI.out
  · have HR3 := Lib.hid HR3'
    clear HR3' hEn
    have HL3 : RVV ((w.alloc (.cells #[.slice (some ⟨g, 0, none⟩) i c, .slice ta n tc, .slice (some ⟨g, E, none⟩) (xs.length - E) (c - E)] 47)).drew) (.slice (some ⟨w.heap.size, 0, none⟩) 3 3) [(xs.take i).map (Value.int .i64), u.map (Value.int .i64), (xs.drop E).map (Value.int .i64)] := by
      have hbA : Below w.heap.size w ((w.alloc (.cells #[.slice (some ⟨g, 0, none⟩) i c, .slice ta n tc, .slice (some ⟨g, E, none⟩) (xs.length - E) (c - E)] 47)).drew) := ((Below.refl _ _).alloc (Nat.le_refl _) _).drew
      have hLit : OV 47 w.heap.size (w.alloc (.cells #[.slice (some ⟨g, 0, none⟩) i c, .slice ta n tc, .slice (some ⟨g, E, none⟩) (xs.length - E) (c - E)] 47)) (.slice (some ⟨w.heap.size, 0, none⟩) 3 3) [.slice (some ⟨g, 0, none⟩) i c, .slice ta n tc, .slice (some ⟨g, E, none⟩) (xs.length - E) (c - E)] := OV.lit 47 w [.slice (some ⟨g, 0, none⟩) i c, .slice ta n tc, .slice (some ⟨g, E, none⟩) (xs.length - E) (c - E)] (Nat.le_refl _) (by simp [maxLen])
      refine ⟨_, hLit.drew.read, rfl, fun j hj => ?_⟩
      have : j = 0 ∨ j = 1 ∨ j = 2 := by simp at hj; omega
      rcases this with rfl | rfl | rfl
      · exact RK.later HR1.out hbA
      · exact RK.later HU.out hbA
      · exact RK.later HR3.out hbA
    have HCT := Lib.hid (catI_any _ _ _ HL3 (by simp) (by simp [tlC]; omega) (fun j hj => by
      have : j = 0 ∨ j = 1 ∨ j = 2 := by simp at hj; omega
      rcases this with rfl | rfl | rfl <;> (intro z hz; obtain ⟨q, _, rfl⟩ := List.mem_map.1 hz; rfl)))
    have HCC : Hid (Calls Try.prog 100 #[.slice (some ⟨w.heap.size, 0, none⟩) 3 3] ((w.alloc (.cells #[.slice (some ⟨g, 0, none⟩) i c, .slice ta n tc, .slice (some ⟨g, E, none⟩) (xs.length - E) (c - E)] 47)).drew) fun e w4 => ∃ v4, e = .returned v4 ∧ RI w4 v4 (wAt xs i n u) ∧ Below w.heap.size w w4 ∧
        w4.cell? ⟨k1, 0, none⟩ = some (.func (.func 90) #[] #[.pointer (some ⟨X, 0, none⟩)]) ∧ w4.cell? ⟨k2, 0, none⟩ = some (.slice (some ⟨g, 0, none⟩) xs.length c) ∧ w4.cell? ⟨k3, 0, none⟩ = some (.int .i64 i) ∧ w4.cell? ⟨k4, 0, none⟩ = some (.int .i64 n)) := by
      refine HCT.out.mono ?_
      rintro e w4 ⟨v4, rfl, ho4, hb4⟩
      have hbA : Below w.heap.size w ((w.alloc (.cells #[.slice (some ⟨g, 0, none⟩) i c, .slice ta n tc, .slice (some ⟨g, E, none⟩) (xs.length - E) (c - E)] 47)).drew) := ((Below.refl _ _).alloc (Nat.le_refl _) _).drew
      have hbb := hbA.trans (hb4.mono hbA.size)
      have e4 := HE.out.kt (Below.kt hbb)
      refine ⟨v4, rfl, ?_, hbb, e4.b1.cell, e4.b2.cell, e4.b3.cell, e4.b4.cell⟩
      have := OV.read ho4
      unfold RI RK wAt
      rw [← HEN.out]
      simpa using this
    clear HL3 HCT
    have s1 := HE.out.b1.cell
    have s2 := HE.out.b2.cell
    have s3 := HE.out.b3.cell
    have s4 := HE.out.b4.cell
    go_enter Try.func99, Try.ntmps99
    go_region_held3 (fun w' => w'.cell? ⟨k1, 0, none⟩ = some (.func (.func 90) #[] #[.pointer (some ⟨X, 0, none⟩)]) ∧ w'.cell? ⟨k2, 0, none⟩ = some (.slice (some ⟨g, 0, none⟩) xs.length c) ∧ w'.cell? ⟨k3, 0, none⟩ = some (.int .i64 i) ∧ w'.cell? ⟨k4, 0, none⟩ = some (.int .i64 n)) (go_keep)
      ((first
        | (go_at_call 100; refine HCC.out.mono ?_; rintro e w4 ⟨v4, rfl, ho4, hb4, t1, t2, t3, t4⟩)
        | (go_at_call 90; refine (HDO.out _ _ ho4 hb4).mono ?_; rintro e w5 ⟨rfl, q1, q2, q3, q4, hfin⟩)))
    have HFI := Lib.hid hfin
    clear hfin
    go_wp2_with fail
    go_end0
    exact HFI.out
end Go.Proofs.Ytgagjmnmfgfpfaa
