/- likes: of each symbol those alike to it, as bits. -/
import Derived.Test.YtdkheeocglfogaaClr
import Derived.Test.YtdkheeocglfogaaMsk
import Derived.Deep.DeepCutAuto
namespace Go.Proofs.Ytdkheeocglfogaa
open Go.RowKit

theorem info_uint : (Try.prog.info? 63).map (fun i => (i.zero, i.size, i.bytes)) = some (some (.int .u64 0), 1, 8) := by kernel_rfl
abbrev OU := OK 63 .u64
abbrev RU := RK .u64
/-- The symbols i and j are alike. -/
def lk (s : ByteArray) (l : List ByteArray) (i j : Nat) : Bool := alkB l (bAt s i) (bAt s j)
def lkR (s : ByteArray) (l : List ByteArray) (i : Nat) : Nat := msk s.size (lk s l i)
/-- The rows, of which those below i are made, and the row i up to j. -/
def lkP (s : ByteArray) (l : List ByteArray) (i j : Nat) : List Int := (List.range s.size).map fun r => if r < i then (lkR s l r : Int) else if r = i then (msk j (lk s l i) : Int) else 0
def lkL (s : ByteArray) (l : List ByteArray) : List Int := (List.range s.size).map fun r => (lkR s l r : Int)
theorem lkP_len (s : ByteArray) (l : List ByteArray) (i j : Nat) : (lkP s l i j).length = s.size := by simp [lkP]
theorem lkL_len (s : ByteArray) (l : List ByteArray) : (lkL s l).length = s.size := by simp [lkL]
theorem lkP_start (s : ByteArray) (l : List ByteArray) : lkP s l 0 0 = List.replicate s.size 0 := by
  apply List.ext_getElem
  · simp [lkP]
  · intro k h1 h2
    simp [lkP, msk]
theorem lkP_end (s : ByteArray) (l : List ByteArray) : lkP s l s.size 0 = lkL s l := by
  apply List.ext_getElem
  · simp [lkP, lkL]
  · intro k h1 h2
    simp [lkP] at h1
    simp [lkP, lkL, h1]
theorem lkP_row (s : ByteArray) (l : List ByteArray) (i : Nat) : lkP s l i s.size = lkP s l (i + 1) 0 := by
  apply List.ext_getElem
  · simp [lkP]
  · intro k h1 h2
    simp only [lkP, List.getElem_map, List.getElem_range]
    by_cases h3 : k < i
    · simp [h3, show k < i + 1 by omega]
    · by_cases h4 : k = i
      · subst h4; simp [lkR]
      · simp [h3, h4, show ¬ k < i + 1 by omega, msk]
theorem lkP_at (s : ByteArray) (l : List ByteArray) (i j : Nat) (hi : i < s.size) : (lkP s l i j).getD i 0 = (msk j (lk s l i) : Int) := by
  unfold lkP; simp [hi]
theorem lkP_set (s : ByteArray) (l : List ByteArray) (i j : Nat) (hi : i < s.size) : (lkP s l i j).set i (msk (j + 1) (lk s l i) : Int) = lkP s l i (j + 1) := by
  apply List.ext_getElem
  · simp [lkP]
  · intro k h1 h2
    rw [List.getElem_set]
    by_cases h3 : i = k
    · subst h3; simp [lkP]
    · rw [if_neg h3]
      simp only [lkP, List.getElem_map, List.getElem_range]
      by_cases h4 : k < i
      · simp [h4]
      · simp [h4, show ¬ k = i by omega]
theorem msk_no {j : Nat} {p : Nat → Bool} (h : p j = false) : msk (j + 1) p = msk j p := by show msk j p ||| (if p j then 2 ^ j else 0) = msk j p; rw [h]; simp
theorem msk_yes {j : Nat} (p : Nat → Bool) (hj : j < 20) (h : p j = true) : bits .or .u64 (msk j p : Int) ((2 ^ j : Nat) : Int) = (msk (j + 1) p : Nat) := by
  have h1 := msk_lt j p
  have h2 := pow18 hj
  rw [bits_or_u64_nat _ _ (by omega) (by omega)]
  show _ = ((msk j p ||| (if p j then 2 ^ j else 0) : Nat) : Int)
  rw [h]; rfl
def LksPost (s : ByteArray) (l : List ByteArray) (w : World) (e : Ending) (w' : World) : Prop := ∃ a c, e = .returned (.slice a s.size c) ∧ OU w.heap.size w' (.slice a s.size c) (lkL s l) ∧ Below w.heap.size w w'
set_option maxHeartbeats 2000000 in
set_option maxRecDepth 100000 in
theorem likes_any (X : Nat) (s : ByteArray) (v : Value) (l : List ByteArray) (w : World) (hbx : LX X s v w) (hx : RS w v l) (hm : l.length ≤ 1048576) (hs : s.size ≤ 18) :
    Calls Try.prog 47 #[.pointer (some ⟨X, 0, none⟩)] w (LksPost s l w) := by
  have HBX := Lib.hid hbx
  have HX := Lib.hid hx
  have hlt := hbx.lt
  have c0 := hbx.c0
  have HC : Hid (∀ wr, Below w.heap.size w wr → wr.cell? ⟨X, 0, none⟩ = some (.string s)) := fun wr h => (h.cell (p := ⟨X, 0, none⟩) hlt).trans hbx.c0
  clear hbx hx
  go_enter Try.func47, Try.ntmps47
  go_wp2_with (at_make; refine wpl_make Try.underlying61 info_uint rfl (by omega) rfl _ _ rfl w.heap.size .i64 .i64 _ _ s.size rfl rfl rfl rfl (by omega) (Nat.le_refl _) ?_; intro w1 hown hgr hlt1; have hb1 : Below w.heap.size w w1 := (Below.refl _ _).grown hgr (Nat.le_refl _) (by simp); have c1 := HC.out _ hb1)
  have ho : OU w.heap.size w1 (.slice (some ⟨w.heap.size, 0, none⟩) s.size s.size) (lkP s l 0 0) := by
    rw [lkP_start]; unfold OU OK; rw [List.map_replicate]; exact hown
  clear hgr hlt1 hown c0 c1
  go_loopw [17] (fun iv wr => ∃ i : Nat, i ≤ s.size ∧ iv = .int .i64 i ∧ OU w.heap.size wr (.slice (some ⟨w.heap.size, 0, none⟩) s.size s.size) (lkP s l i 0) ∧ Below w.heap.size w wr) (fun iv _ => s.size - (intOf iv).toNat)
  case atStart => exact ⟨0, Nat.zero_le _, rfl, ho, hb1⟩
  case round =>
    clear ho hb1
    obtain ⟨i, hi, rfl, ho, hb⟩ := hrel
    by_cases hil : i < s.size
    · have c0 := HC.out _ hb
      go_wp2_with fail
      clear c0
      go_loopw [25] (fun jv wr => ∃ j : Nat, j ≤ s.size ∧ jv = .int .i64 j ∧ OU w.heap.size wr (.slice (some ⟨w.heap.size, 0, none⟩) s.size s.size) (lkP s l i j) ∧ Below w.heap.size w wr) (fun jv _ => s.size - (intOf jv).toNat)
      case atStart => exact ⟨0, Nat.zero_le _, rfl, ho, hb⟩
      case round =>
        clear ho hb
        obtain ⟨j, hj, rfl, ho, hb⟩ := hrel
        by_cases hjl : j < s.size
        · have c0 := HC.out _ hb
          have hz := hb.size
          have HAL : Hid (∀ b, lk s l i j = b → ∀ wx, Below wr.heap.size wr wx → Calls Try.prog 42 #[.pointer (some ⟨X, 0, none⟩), .int .u8 (s[i].toNat : Int), .int .u8 (s[j].toNat : Int)] wx fun e w' => e = .returned (.bool b) ∧ Below wx.heap.size wx w') := fun b e wx h => by
            have := alike_any X s v l s[i] s[j] wx (HBX.out.later (hb.trans (h.mono hz))) (HX.out.later (hb.trans (h.mono hz))) hm
            rw [← bAt_get s i hil, ← bAt_get s j hjl] at this
            unfold lk at e
            rw [e] at this
            rw [bAt_get s i hil, bAt_get s j hjl] at this
            exact this
          have f1 : (i : Int) < (s.size : Int) := by omega
          have f2 : (j : Int) < (s.size : Int) := by omega
          cases hal : lk s l i j
          · have HA := Lib.hid (HAL.out _ hal)
            have HR : Hid (lkP s l i (j + 1) = lkP s l i j) := by unfold Hid lkP; rw [msk_no hal]
            clear hal HAL
            go_wp2_with fail
            refine wp_region_held_drew (S := fun w' => w'.cell? ⟨X, 0, none⟩ = some (.string s)) (by kernel_rfl) (by (try dsimp only); go_keep) (fun hHeld => ?_)
            refine wpAnyH_take (i := 0) (oi := ⟨some 28, _, _, _, _, _⟩) (v := ?va0) rfl (by kernel_rfl) (by kernel_rfl) (by kernel_rfl) (fun _ _ _ h => h) (Or.inl ⟨by rfl, ?ya0⟩) (by assumption) ?ra0
            case ya0 => (intro w hSw; (try dsimp only at hSw); go_simp; all_goals (with_reducible rfl))
            try simp only [Act.put, List.setIfInBounds_toArray, List.set_cons_zero, List.set_cons_succ]
            refine wpAnyH_take (i := 1) (oi := ⟨some 29, _, _, _, _, _⟩) (v := ?va1) rfl (by kernel_rfl) (by kernel_rfl) (by kernel_rfl) (fun _ _ _ h => h) (Or.inl ⟨by rfl, ?ya1⟩) (by assumption) ?ra1
            case ya1 => (intro w hSw; (try dsimp only at hSw); go_simp; all_goals (with_reducible rfl))
            try simp only [Act.put, List.setIfInBounds_toArray, List.set_cons_zero, List.set_cons_succ]
            refine wpAnyH_take (i := 2) (oi := ⟨some 30, _, _, _, _, _⟩) (v := ?va2) rfl (by kernel_rfl) (by kernel_rfl) (by kernel_rfl) (fun _ _ _ h => h) (Or.inl ⟨by rfl, ?ya2⟩) (by assumption) ?ra2
            case ya2 => (intro w hSw; (try dsimp only at hSw); go_simp; all_goals (with_reducible rfl))
            try simp only [Act.put, List.setIfInBounds_toArray, List.set_cons_zero, List.set_cons_succ]
            refine wpAnyH_take (i := 3) (oi := ⟨some 31, _, _, _, _, _⟩) (v := ?va3) rfl (by kernel_rfl) (by kernel_rfl) (by kernel_rfl) (fun _ _ _ h => h) (Or.inl ⟨by rfl, ?ya3⟩) (by assumption) ?ra3
            case ya3 => (intro w hSw; (try dsimp only at hSw); go_simp; all_goals (with_reducible rfl))
            try simp only [Act.put, List.setIfInBounds_toArray, List.set_cons_zero, List.set_cons_succ]
            refine wpAnyH_take (i := 4) (oi := ⟨some 32, _, _, _, _, _⟩) (v := ?va4) rfl (by kernel_rfl) (by kernel_rfl) (by kernel_rfl) (fun _ _ _ h => h) (Or.inl ⟨by rfl, ?ya4⟩) (by assumption) ?ra4
            case ya4 => (intro w hSw; (try dsimp only at hSw); go_simp; all_goals (with_reducible rfl))
            try simp only [Act.put, List.setIfInBounds_toArray, List.set_cons_zero, List.set_cons_succ]
            refine wpAnyH_take (i := 5) (oi := ⟨some 33, _, _, _, _, _⟩) (v := ?va5) rfl (by kernel_rfl) (by kernel_rfl) (by kernel_rfl) (fun _ _ _ h => h) (Or.inl ⟨by rfl, ?ya5⟩) (by assumption) ?ra5
            case ya5 => (intro w hSw; (try dsimp only at hSw); go_simp; all_goals (with_reducible rfl))
            try simp only [Act.put, List.setIfInBounds_toArray, List.set_cons_zero, List.set_cons_succ]
            refine wpAnyH_take (i := 6) (oi := ⟨some 34, _, _, _, _, _⟩) (v := ?va6) rfl (by kernel_rfl) (by kernel_rfl) (by kernel_rfl) (fun _ _ _ h => h) (Or.inl ⟨by rfl, ?ya6⟩) (by assumption) ?ra6
            case ya6 => (intro w hSw; (try dsimp only at hSw); go_simp; all_goals (with_reducible rfl))
            try simp only [Act.put, List.setIfInBounds_toArray, List.set_cons_zero, List.set_cons_succ]
            refine wpAnyH_take (i := 7) (oi := ⟨some 35, _, _, _, _, _⟩) (v := ?va7) rfl (by kernel_rfl) (by kernel_rfl) (by kernel_rfl) (fun _ _ _ h => h) (Or.inl ⟨by rfl, ?ya7⟩) (by assumption) ?ra7
            case ya7 => (intro w hSw; (try dsimp only at hSw); go_simp; all_goals (with_reducible rfl))
            try simp only [Act.put, List.setIfInBounds_toArray, List.set_cons_zero, List.set_cons_succ]
            refine wpAnyH_take (i := 8) (oi := ⟨some 36, _, _, _, _, _⟩) (v := ?va8) rfl (by kernel_rfl) (by kernel_rfl) (by kernel_rfl) (fun _ _ _ h => h) (Or.inl ⟨by rfl, ?ya8⟩) (by assumption) ?ra8
            case ya8 => (intro w hSw; (try dsimp only at hSw); go_simp; all_goals (with_reducible rfl))
            try simp only [Act.put, List.setIfInBounds_toArray, List.set_cons_zero, List.set_cons_succ]
            refine wpAnyH_take (i := 9) (oi := ⟨some 37, _, _, _, _, _⟩) (v := ?va9) rfl (by kernel_rfl) (by kernel_rfl) (by kernel_rfl) (fun _ _ _ h => h) (Or.inl ⟨by rfl, ?ya9⟩) (by assumption) ?ra9
            case ya9 => (intro w hSw; (try dsimp only at hSw); go_simp; all_goals (with_reducible rfl))
            try simp only [Act.put, List.setIfInBounds_toArray, List.set_cons_zero, List.set_cons_succ]
            refine wpAnyH_take (i := 10) (oi := ⟨some 38, _, _, _, _, _⟩) (v := ?va10) rfl (by kernel_rfl) (by kernel_rfl) (by kernel_rfl) (fun _ _ _ h => h) (Or.inl ⟨by rfl, ?ya10⟩) (by assumption) ?ra10
            case ya10 => (intro w hSw; (try dsimp only at hSw); go_simp; all_goals (with_reducible rfl))
            try simp only [Act.put, List.setIfInBounds_toArray, List.set_cons_zero, List.set_cons_succ]
            refine wpAnyH_take (i := 11) (oi := ⟨some 39, _, _, _, _, _⟩) (v := ?va11) rfl (by kernel_rfl) (by kernel_rfl) (by kernel_rfl) (fun _ _ _ h => h) (Or.inl ⟨by rfl, ?ya11⟩) (by assumption) ?ra11
            case ya11 => (intro w hSw; (try dsimp only at hSw); go_simp; all_goals (with_reducible rfl))
            try simp only [Act.put, List.setIfInBounds_toArray, List.set_cons_zero, List.set_cons_succ]
            refine wpAnyH_take (i := 12) (oi := ⟨some 40, _, _, _, _, _⟩) (v := ?va12) rfl (by kernel_rfl) (by kernel_rfl) (by kernel_rfl) (fun _ _ _ h => h) (Or.inl ⟨by rfl, ?ya12⟩) (by assumption) ?ra12
            case ya12 => (intro w hSw; (try dsimp only at hSw); go_simp; all_goals (with_reducible rfl))
            try simp only [Act.put, List.setIfInBounds_toArray, List.set_cons_zero, List.set_cons_succ]
            refine wpAnyH_ready (rs := [13]) (by kernel_rfl) (by simp) ?_
            refine AllReadyH.cons rfl (fun K hK => ?_) AllReadyH.nil
            go_simp
            (go_at_call 42; refine (HA.out _ (by first | exact (Below.refl _ _).drew | exact below_drewN (Below.refl _ _) _)).mono ?_; rintro e w3 ⟨rfl, hb3⟩)
            have hb4 : Below wr.heap.size wr w3 := (Below.refl wr.heap.size wr).drew.trans hb3
            replace c0 := (hb4.cell (p := ⟨X, 0, none⟩) (Nat.lt_of_lt_of_le hlt hz)).trans c0
            replace ho := ho.later hb4
            replace hb := hb.trans (hb4.mono hz)
            go_wp2_with fail
            refine hK.out _ _ (by exact c0) (fun hHeld => ?_)
            clear hK K c0 hb3 hb4
            try simp only [Act.put, List.setIfInBounds_toArray, List.set_cons_zero, List.set_cons_succ]
            refine wpAnyH_done (by kernel_rfl) ?_ _
            go_wp2_with fail
            go_roundw
            case rel => exact ⟨j + 1, by omega, by go_num, by rw [HR.out]; exact ho, hb⟩
            case measure => first | (simp [intOf]; done) | (simp [intOf]; omega)
          · have HA := Lib.hid (HAL.out _ hal)
            have HR := Lib.hid (lkP_set s l i j hil)
            have HM := Lib.hid (msk_yes (lk s l i) (show j < 20 by omega) hal)
            clear hal HAL
            go_wp2_with fail
            refine wp_region_held_drew (S := fun w' => w'.cell? ⟨X, 0, none⟩ = some (.string s)) (by kernel_rfl) (by (try dsimp only); go_keep) (fun hHeld => ?_)
            refine wpAnyH_take (i := 0) (oi := ⟨some 28, _, _, _, _, _⟩) (v := ?vb0) rfl (by kernel_rfl) (by kernel_rfl) (by kernel_rfl) (fun _ _ _ h => h) (Or.inl ⟨by rfl, ?yb0⟩) (by assumption) ?rb0
            case yb0 => (intro w hSw; (try dsimp only at hSw); go_simp; all_goals (with_reducible rfl))
            try simp only [Act.put, List.setIfInBounds_toArray, List.set_cons_zero, List.set_cons_succ]
            refine wpAnyH_take (i := 1) (oi := ⟨some 29, _, _, _, _, _⟩) (v := ?vb1) rfl (by kernel_rfl) (by kernel_rfl) (by kernel_rfl) (fun _ _ _ h => h) (Or.inl ⟨by rfl, ?yb1⟩) (by assumption) ?rb1
            case yb1 => (intro w hSw; (try dsimp only at hSw); go_simp; all_goals (with_reducible rfl))
            try simp only [Act.put, List.setIfInBounds_toArray, List.set_cons_zero, List.set_cons_succ]
            refine wpAnyH_take (i := 2) (oi := ⟨some 30, _, _, _, _, _⟩) (v := ?vb2) rfl (by kernel_rfl) (by kernel_rfl) (by kernel_rfl) (fun _ _ _ h => h) (Or.inl ⟨by rfl, ?yb2⟩) (by assumption) ?rb2
            case yb2 => (intro w hSw; (try dsimp only at hSw); go_simp; all_goals (with_reducible rfl))
            try simp only [Act.put, List.setIfInBounds_toArray, List.set_cons_zero, List.set_cons_succ]
            refine wpAnyH_take (i := 3) (oi := ⟨some 31, _, _, _, _, _⟩) (v := ?vb3) rfl (by kernel_rfl) (by kernel_rfl) (by kernel_rfl) (fun _ _ _ h => h) (Or.inl ⟨by rfl, ?yb3⟩) (by assumption) ?rb3
            case yb3 => (intro w hSw; (try dsimp only at hSw); go_simp; all_goals (with_reducible rfl))
            try simp only [Act.put, List.setIfInBounds_toArray, List.set_cons_zero, List.set_cons_succ]
            refine wpAnyH_take (i := 4) (oi := ⟨some 32, _, _, _, _, _⟩) (v := ?vb4) rfl (by kernel_rfl) (by kernel_rfl) (by kernel_rfl) (fun _ _ _ h => h) (Or.inl ⟨by rfl, ?yb4⟩) (by assumption) ?rb4
            case yb4 => (intro w hSw; (try dsimp only at hSw); go_simp; all_goals (with_reducible rfl))
            try simp only [Act.put, List.setIfInBounds_toArray, List.set_cons_zero, List.set_cons_succ]
            refine wpAnyH_take (i := 5) (oi := ⟨some 33, _, _, _, _, _⟩) (v := ?vb5) rfl (by kernel_rfl) (by kernel_rfl) (by kernel_rfl) (fun _ _ _ h => h) (Or.inl ⟨by rfl, ?yb5⟩) (by assumption) ?rb5
            case yb5 => (intro w hSw; (try dsimp only at hSw); go_simp; all_goals (with_reducible rfl))
            try simp only [Act.put, List.setIfInBounds_toArray, List.set_cons_zero, List.set_cons_succ]
            refine wpAnyH_take (i := 6) (oi := ⟨some 34, _, _, _, _, _⟩) (v := ?vb6) rfl (by kernel_rfl) (by kernel_rfl) (by kernel_rfl) (fun _ _ _ h => h) (Or.inl ⟨by rfl, ?yb6⟩) (by assumption) ?rb6
            case yb6 => (intro w hSw; (try dsimp only at hSw); go_simp; all_goals (with_reducible rfl))
            try simp only [Act.put, List.setIfInBounds_toArray, List.set_cons_zero, List.set_cons_succ]
            refine wpAnyH_take (i := 7) (oi := ⟨some 35, _, _, _, _, _⟩) (v := ?vb7) rfl (by kernel_rfl) (by kernel_rfl) (by kernel_rfl) (fun _ _ _ h => h) (Or.inl ⟨by rfl, ?yb7⟩) (by assumption) ?rb7
            case yb7 => (intro w hSw; (try dsimp only at hSw); go_simp; all_goals (with_reducible rfl))
            try simp only [Act.put, List.setIfInBounds_toArray, List.set_cons_zero, List.set_cons_succ]
            refine wpAnyH_take (i := 8) (oi := ⟨some 36, _, _, _, _, _⟩) (v := ?vb8) rfl (by kernel_rfl) (by kernel_rfl) (by kernel_rfl) (fun _ _ _ h => h) (Or.inl ⟨by rfl, ?yb8⟩) (by assumption) ?rb8
            case yb8 => (intro w hSw; (try dsimp only at hSw); go_simp; all_goals (with_reducible rfl))
            try simp only [Act.put, List.setIfInBounds_toArray, List.set_cons_zero, List.set_cons_succ]
            refine wpAnyH_take (i := 9) (oi := ⟨some 37, _, _, _, _, _⟩) (v := ?vb9) rfl (by kernel_rfl) (by kernel_rfl) (by kernel_rfl) (fun _ _ _ h => h) (Or.inl ⟨by rfl, ?yb9⟩) (by assumption) ?rb9
            case yb9 => (intro w hSw; (try dsimp only at hSw); go_simp; all_goals (with_reducible rfl))
            try simp only [Act.put, List.setIfInBounds_toArray, List.set_cons_zero, List.set_cons_succ]
            refine wpAnyH_take (i := 10) (oi := ⟨some 38, _, _, _, _, _⟩) (v := ?vb10) rfl (by kernel_rfl) (by kernel_rfl) (by kernel_rfl) (fun _ _ _ h => h) (Or.inl ⟨by rfl, ?yb10⟩) (by assumption) ?rb10
            case yb10 => (intro w hSw; (try dsimp only at hSw); go_simp; all_goals (with_reducible rfl))
            try simp only [Act.put, List.setIfInBounds_toArray, List.set_cons_zero, List.set_cons_succ]
            refine wpAnyH_take (i := 11) (oi := ⟨some 39, _, _, _, _, _⟩) (v := ?vb11) rfl (by kernel_rfl) (by kernel_rfl) (by kernel_rfl) (fun _ _ _ h => h) (Or.inl ⟨by rfl, ?yb11⟩) (by assumption) ?rb11
            case yb11 => (intro w hSw; (try dsimp only at hSw); go_simp; all_goals (with_reducible rfl))
            try simp only [Act.put, List.setIfInBounds_toArray, List.set_cons_zero, List.set_cons_succ]
            refine wpAnyH_take (i := 12) (oi := ⟨some 40, _, _, _, _, _⟩) (v := ?vb12) rfl (by kernel_rfl) (by kernel_rfl) (by kernel_rfl) (fun _ _ _ h => h) (Or.inl ⟨by rfl, ?yb12⟩) (by assumption) ?rb12
            case yb12 => (intro w hSw; (try dsimp only at hSw); go_simp; all_goals (with_reducible rfl))
            try simp only [Act.put, List.setIfInBounds_toArray, List.set_cons_zero, List.set_cons_succ]
            refine wpAnyH_ready (rs := [13]) (by kernel_rfl) (by simp) ?_
            refine AllReadyH.cons rfl (fun K hK => ?_) AllReadyH.nil
            go_simp
            (go_at_call 42; refine (HA.out _ (by first | exact (Below.refl _ _).drew | exact below_drewN (Below.refl _ _) _)).mono ?_; rintro e w3 ⟨rfl, hb3⟩)
            have hb4 : Below wr.heap.size wr w3 := (Below.refl wr.heap.size wr).drew.trans hb3
            replace c0 := (hb4.cell (p := ⟨X, 0, none⟩) (Nat.lt_of_lt_of_le hlt hz)).trans c0
            replace ho := ho.later hb4
            replace hb := hb.trans (hb4.mono hz)
            go_wp2_with fail
            refine hK.out _ _ (by exact c0) (fun hHeld => ?_)
            clear hK K c0 hb3 hb4
            try simp only [Act.put, List.setIfInBounds_toArray, List.set_cons_zero, List.set_cons_succ]
            refine wpAnyH_done (by kernel_rfl) ?_ _
            have hcz := ho.cell i (by rw [lkP_len]; exact hil)
            rw [lkP_at s l i j hil] at hcz
            have hfz := ho.frozen i
            have hst := (ho.stored i (msk (j + 1) (lk s l i) : Nat)).1
            rw [HR.out] at hst
            have HST := Lib.hid hst
            have hbs : Below w.heap.size w (w3.setCell ⟨w.heap.size, i, none⟩ (.int .u64 (msk (j + 1) (lk s l i) : Nat))) := hb.setCell (Nat.le_refl _) _
            clear hst ho
            have hm2 := msk_20 hs (lk s l i)
            clear hm2
            generalize msk j (lk s l i) = m1 at *
            generalize msk (j + 1) (lk s l i) = m2 at *
            obtain ⟨P, hP⟩ : ∃ P : Nat, P = 2 ^ j := ⟨_, rfl⟩
            have hP2 : P < 1048576 := by rw [hP]; exact pow18 (by omega)
            have hw2 : IntKind.u64.wrap ((2 : Int) ^ j) = (P : Int) := by
              rw [show ((2 : Int) ^ j) = (P : Int) by rw [hP]; simp, IntKind.wrap_u64]; omega
            have hbm : bits .or .u64 (m1 : Int) (P : Int) = (m2 : Int) := by rw [hP]; exact HM.out
            clear hP
            go_upto_region 9 with fail
            refine wp_region_qtail 8 (by kernel_rfl) (by kernel_rfl) ?_; simp only [List.take_succ_cons, List.take_zero, List.drop_succ_cons, List.drop_zero]; (repeat (go_big_quiet_step (fail))); refine wpQuiet_nil ?_
            go_wp2_with fail
            go_roundw
            case rel => exact ⟨j + 1, by omega, by go_num, by first | exact HST.out | exact HST.out.drewM _, by first | exact hbs | exact below_drewN hbs _⟩
            case measure => first | (simp [intOf]; done) | (simp [intOf]; omega)
        · obtain rfl : j = s.size := by omega
          rw [lkP_row] at ho
          go_wp2_with fail
          go_roundw
          case rel => exact ⟨i + 1, by omega, by go_num, ho, hb⟩
          case measure => first | (simp [intOf]; done) | (simp [intOf]; omega)
    · obtain rfl : i = s.size := by omega
      rw [lkP_end] at ho
      go_wp2_with fail
      go_ret
      exact ⟨_, _, rfl, ho, hb⟩
end Go.Proofs.Ytdkheeocglfogaa
