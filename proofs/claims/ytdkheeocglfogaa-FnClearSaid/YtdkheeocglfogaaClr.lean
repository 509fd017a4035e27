/- IsClear: the two sides. -/
import Derived.Test.YtdkheeocglfogaaAre
namespace Go.Proofs.Ytdkheeocglfogaa
open Go.RowKit

def inS (q : ByteArray) (x : Int) : Bool := decide (x ∈ bz q)
set_option maxHeartbeats 400000 in
theorem isClear1_any (q : ByteArray) (c : Int) (X : Nat) (w : World) (hc : 0 ≤ c ∧ c ≤ 255) (hq : q.size ≤ 1048576) (c0 : w.cell? ⟨X, 0, none⟩ = some (.string q)) :
    Calls Try.prog 44 #[.int .u8 c, .pointer (some ⟨X, 0, none⟩)] w fun e w' => e = .returned (.bool (inS q c)) ∧ w = w' := by
  have HI := Lib.hid (indexByte_any q c w hc)
  have HM := Lib.hid (ix_mem (bz q) c)
  generalize ix (bz q) c = z at *
  go_enter Try.func44, Try.ntmps44
  go_wp2_with (go_at_call 45; refine HI.out.mono ?_; rintro e w' ⟨rfl, rfl⟩)
  go_ret
  exact ⟨ret_bool HM.out, rfl⟩
set_option maxHeartbeats 1000000 in
theorem different_in (t q : ByteArray) (X : Nat) (w : World) (hs : t.size ≤ 1048576) (hq : q.size ≤ 1048576) (c0 : w.cell? ⟨X, 0, none⟩ = some (.string q)) :
    Calls Try.prog 36 #[.string t, .func (.func 44) #[] #[.pointer (some ⟨X, 0, none⟩)]] w fun e w' => e = .returned (.bool (diffB (inS q) (bz t))) ∧ Below w.heap.size w w' := by
  have hXl : X < w.heap.size := World.block_lt_of_cell? w _ c0
  go_enter Try.func36, Try.ntmps36
  go_wp2_with fail
  go_loopw [8] (fun iv wr => ∃ k : Nat, k ≤ t.size ∧ iv = .int .i64 k ∧ Hid (∀ i, i < k → ((inS q) ((bz t).getD i 0) && !decide ((bz t).getD i 0 ∈ (bz t).take i)) = true) ∧ Below w.heap.size w wr) (fun iv _ => t.size - (intOf iv).toNat)
  case atStart => exact ⟨0, Nat.zero_le _, rfl, fun i hi => by omega, Below.refl _ _⟩
  case round =>
    obtain ⟨k, hk, rfl, HK, hb⟩ := hrel
    by_cases hlt : k < t.size
    · have hg := bz_get t k hlt
      have hb255 := bz_in t ((bz t).getD k 0) (by have := bz_len t; simp [show k < (bz t).length by omega])
      have HX : Hid (∀ wx, Calls Try.prog 45 #[.string (t.extract 0 k), .int .u8 (t[k].toNat : Int)] wx fun e w' => e = .returned (.int .i64 (ix ((bz t).take k) ((bz t).getD k 0))) ∧ wx = w') := fun wx => by
        have := indexByte_any (t.extract 0 k) (t[k].toNat : Int) wx (by rw [← hg]; exact hb255)
        rw [bz_extract, List.drop_zero, ← hg] at this
        rw [← hg]; exact this
      have HB255 : Hid (0 ≤ (bz t).getD k 0 ∧ (bz t).getD k 0 ≤ 255) := hb255
      have HL : Hid (∀ (b : Bool), (inS q) ((bz t).getD k 0) = b → ∀ n, Calls Try.prog 44 #[.int .u8 (t[k].toNat : Int), .pointer (some ⟨X, 0, none⟩)] (wr.drewN n) fun e w' => e = .returned (.bool b) ∧ wr.drewN n = w') := fun b h n => by
        have h2 := isClear1_any q (t[k].toNat : Int) X (wr.drewN n) (by rw [← hg]; exact HB255.out) hq ((below_drewN hb n).cell (p := ⟨X, 0, none⟩) hXl ▸ c0)
        rw [← hg, h] at h2
        rw [← hg]; exact h2
      have HM := Lib.hid (ix_mem ((bz t).take k) ((bz t).getD k 0))
      have hl : (bz t).length = t.size := bz_len t
      have HN := Lib.hid hl
      clear hl hg hb255
      by_cases h1 : (inS q) ((bz t).getD k 0) = true
      · have H1 := Lib.hid h1
        clear h1
        by_cases h2 : 0 ≤ ix ((bz t).take k) ((bz t).getD k 0)
        · have HR : Hid (diffB (inS q) (bz t) = false) := by
            have hm := HM.out
            rw [decide_eq_true h2] at hm
            exact diffB_no k (by rw [HN.out]; exact hlt) (by rw [← hm]; simp)
          generalize ix ((bz t).take k) ((bz t).getD k 0) = z at *
          go_wp2_with fail
          go_quiet (first | (go_at_call 44; exact quiet_same (HL.out _ H1.out _)) | (go_at_call 45; exact quiet_same (HX.out _)))
          go_wp2_with fail
          go_ret
          exact ⟨ret_bool HR.out.symm, below_drewN hb _⟩
        · have HK2 : Hid (∀ i, i < k + 1 → ((inS q) ((bz t).getD i 0) && !decide ((bz t).getD i 0 ∈ (bz t).take i)) = true) := fun i hi => by
            by_cases e : i = k
            · subst e
              have hm := HM.out
              rw [decide_eq_false h2] at hm
              rw [← hm, H1.out]; rfl
            · exact HK.out i (by omega)
          generalize ix ((bz t).take k) ((bz t).getD k 0) = z at *
          go_wp2_with fail
          go_quiet (first | (go_at_call 44; exact quiet_same (HL.out _ H1.out _)) | (go_at_call 45; exact quiet_same (HX.out _)))
          go_wp2_with fail
          go_roundw
          case rel => exact ⟨k + 1, by omega, by go_num, HK2, below_drewN hb _⟩
          case measure => first | (simp [intOf]; done) | (simp [intOf]; omega)
      · simp only [Bool.not_eq_true] at h1
        have H1 := Lib.hid h1
        have HR : Hid (diffB (inS q) (bz t) = false) := diffB_no k (by rw [HN.out]; exact hlt) (by rw [h1]; rfl)
        clear h1
        go_wp2_with fail
        go_quiet (first | (go_at_call 44; exact quiet_same (HL.out _ H1.out _)) | (go_at_call 45; exact quiet_same (HX.out _)))
        go_wp2_with fail
        go_ret
        exact ⟨ret_bool HR.out.symm, below_drewN hb _⟩
    · have HR : Hid (diffB (inS q) (bz t) = true) := diffB_yes fun i hi => HK.out i (by have := bz_len t; omega)
      go_wp2_with fail
      go_ret
      exact ⟨ret_bool HR.out.symm, hb⟩

def bAt (t : ByteArray) (i : Nat) : UInt8 := t.data.toList.getD i 0
theorem bAt_get (t : ByteArray) (i : Nat) (h : i < t.size) : bAt t i = t[i] := by
  unfold bAt
  have h2 : i < t.data.toList.length := by simpa using h
  rw [List.getD_eq_getElem?_getD, List.getElem?_eq_getElem h2]
  rfl
def alN (n : Nat) (p : Nat → Bool) : Bool := (List.range n).all p
theorem alN_iff {n : Nat} {p : Nat → Bool} : alN n p = true ↔ ∀ i, i < n → p i = true := by
  unfold alN; rw [List.all_eq_true]; simp [List.mem_range]
theorem alN_no {n : Nat} {p : Nat → Bool} (k : Nat) (hk : k < n) (h : p k = false) : alN n p = false := by
  cases e : alN n p with
  | false => rfl
  | true => have := alN_iff.1 e k hk; rw [h] at this; cases this
def rowC (l : List ByteArray) (t : ByteArray) (i : Nat) : Bool := alN i fun j => !alkB l (bAt t i) (bAt t j)
def icB (s : ByteArray) (l : List ByteArray) (t : ByteArray) : Bool := vlB s l && (diffB (inS s) (bz t) && alN t.size (rowC l t))
theorem icB_v {s : ByteArray} {l : List ByteArray} {t : ByteArray} (h : vlB s l = false) : icB s l t = false := by unfold icB; rw [h]; rfl
theorem icB_d {s : ByteArray} {l : List ByteArray} {t : ByteArray} (h : diffB (inS s) (bz t) = false) : icB s l t = false := by unfold icB; rw [h]; simp
theorem icB_y {s : ByteArray} {l : List ByteArray} {t : ByteArray} (h1 : vlB s l = true) (h2 : diffB (inS s) (bz t) = true) : icB s l t = alN t.size (rowC l t) := by unfold icB; rw [h1, h2]; rfl

set_option maxRecDepth 100000 in
set_option maxHeartbeats 2000000 in
theorem implIC_any (s : ByteArray) (v : Value) (l : List ByteArray) (t : ByteArray) (w : World) (hx : RS w v l) (hs : s.size ≤ 1048576) (hm : l.length ≤ 1048576) (ht : t.size ≤ 1048576) :
    Calls Try.prog 18 #[.agg #[.string s, v], .string t] w fun e w' => e = .returned (.bool (icB s l t)) ∧ Below w.heap.size w w' := by
  have HV : Hid (∀ b, vlB s l = b → ∀ wx vx, RS wx vx l → Calls Try.prog 13 #[.agg #[.string s, vx]] wx fun e w' => e = .returned (.bool b) ∧ Below wx.heap.size wx w') := fun b e wx vx h => by
    have := implVL_any s vx l wx h hs hm
    rw [e] at this; exact this
  have HD : Hid (∀ b, diffB (inS s) (bz t) = b → ∀ wx X, wx.cell? ⟨X, 0, none⟩ = some (.string s) → Calls Try.prog 36 #[.string t, .func (.func 44) #[] #[.pointer (some ⟨X, 0, none⟩)]] wx fun e w' => e = .returned (.bool b) ∧ Below wx.heap.size wx w') := fun b e wx X h => by
    have := different_in t s X wx ht hs h
    rw [e] at this; exact this
  obtain ⟨a, c, rfl⟩ := hx.slice
  have hb : Below w.heap.size w (w.alloc (.cells #[.string s, .slice a l.length c] 27)) := (Below.refl _ _).alloc (Nat.le_refl _) _
  have hX : LX w.heap.size s (.slice a l.length c) (w.alloc (.cells #[.string s, .slice a l.length c] 27)) := ⟨World.cell?_alloc_at _ _ _ _ rfl, World.cell?_alloc_at _ _ _ _ rfl⟩
  have hx0 := hx.later hb
  have hlt := hX.lt
  have hmf : ∀ (fn : Fn) (first cap : Array Value) (w : World), (Instr.makeFunc fn first cap).run Try.prog w = .ok (.func fn first cap) w := fun _ _ _ _ => rfl
  clear hx
  cases h1 : vlB s l
  · have HC := Lib.hid (HV.out _ h1)
    have HR : Hid (icB s l t = false) := icB_v h1
    have c0 := hX.c0
    have c1 := hX.c1
    clear h1 HV HD
    go_enter Try.func18, Try.ntmps18
    go_wp2_with fail
    generalize w.alloc (.cells #[.string s, .slice a l.length c] 27) = w0 at *
    refine (HC.out _ _ hx0).mono ?_
    rintro e w1 ⟨rfl, hb1⟩
    go_wp2_with fail
    go_ret
    exact ⟨ret_bool HR.out.symm, hb.trans (hb1.mono (Nat.le_of_lt hlt))⟩
  · have HC := Lib.hid (HV.out _ h1)
    have H1 := Lib.hid h1
    clear h1
    cases h2 : diffB (inS s) (bz t)
    · have HDD := Lib.hid (HD.out _ h2)
      have HR : Hid (icB s l t = false) := icB_d h2
      have c0 := hX.c0
      have c1 := hX.c1
      clear h2 HV HD
      go_enter Try.func18, Try.ntmps18
      go_wp2_with fail
      generalize w.alloc (.cells #[.string s, .slice a l.length c] 27) = w0 at *
      refine (HC.out _ _ hx0).mono ?_
      rintro e w1 ⟨rfl, hb1⟩
      go_wp2_with fail
      refine (HDD.out _ _ (hX.later hb1).c0).mono ?_
      rintro e w2 ⟨rfl, hb2⟩
      go_wp2_with fail
      go_ret
      exact ⟨ret_bool HR.out.symm, hb.trans ((hb1.trans (hb2.mono hb1.size)).mono (Nat.le_of_lt hlt))⟩
    · have HDD := Lib.hid (HD.out _ h2)
      have HR : Hid (icB s l t = alN t.size (rowC l t)) := icB_y H1.out h2
      have c0 := hX.c0
      have c1 := hX.c1
      clear h2 HV HD
      go_enter Try.func18, Try.ntmps18
      go_wp2_with fail
      generalize w.alloc (.cells #[.string s, .slice a l.length c] 27) = w0 at *
      refine (HC.out _ _ hx0).mono ?_
      rintro e w1 ⟨rfl, hb1⟩
      go_wp2_with fail
      refine (HDD.out _ _ (hX.later hb1).c0).mono ?_
      rintro e w2 ⟨rfl, hb2⟩
      have hb3 := hb1.trans (hb2.mono hb1.size)
      have HX := Lib.hid (hX.later hb3)
      have HRS := Lib.hid (hx0.later hb3)
      have HB := Lib.hid (hb.trans (hb3.mono (Nat.le_of_lt hlt)))
      clear hX hx0 hb hb1 hb2 hb3 hlt c0 c1 HC HDD hmf
      go_wp2_with fail
      go_loopw [18] (fun iv wr => ∃ k : Nat, k ≤ t.size ∧ iv = .int .i64 k ∧ Hid (∀ i, i < k → rowC l t i = true) ∧ Below w2.heap.size w2 wr) (fun iv _ => t.size - (intOf iv).toNat)
      case atStart => exact ⟨0, Nat.zero_le _, rfl, fun i hi => by omega, Below.refl _ _⟩
      case round =>
        obtain ⟨k, hk, rfl, HK, hb⟩ := hrel
        by_cases hlt : k < t.size
        · have HKN : Hid (rowC l t k = false → icB s l t = false) := fun h => HR.out.trans (alN_no k hlt h)
          have HKY : Hid (rowC l t k = true → ∀ i, i < k + 1 → rowC l t i = true) := fun h i hi => by
            by_cases e : i = k
            · subst e; exact h
            · exact HK.out i (by omega)
          clear HK
          go_wp2_with fail
          go_loopw [22] (fun jv wr => ∃ j : Nat, j ≤ k ∧ jv = .int .i64 j ∧ Hid (∀ i, i < j → alkB l (bAt t k) (bAt t i) = false) ∧ Below w2.heap.size w2 wr) (fun jv _ => k - (intOf jv).toNat)
          case atStart => exact ⟨0, Nat.zero_le _, rfl, fun i hi => by omega, hb⟩
          case round =>
            obtain ⟨j, hj, rfl, HJ, hb⟩ := hrel
            by_cases hlj : j < k
            · have hjt : j < t.size := by omega
              have f0 : (0 : Int) ≤ (k : Int) := by omega
              have f1 : (k : Int) < (t.size : Int) := by omega
              have f2 : (0 : Int) ≤ (j : Int) := by omega
              have f3 : (j : Int) < (t.size : Int) := by omega
              have HAL : Hid (∀ b, alkB l (bAt t k) (bAt t j) = b → Calls Try.prog 42 #[.pointer (some ⟨w.heap.size, 0, none⟩), .int .u8 (t[k].toNat : Int), .int .u8 (t[j].toNat : Int)] wr.drew fun e w' => e = .returned (.bool b) ∧ Below wr.drew.heap.size wr.drew w') := fun b e => by
                have := alike_any w.heap.size s _ l t[k] t[j] wr.drew (HX.out.later hb.drew) (HRS.out.later hb.drew) hm
                rw [← bAt_get t k hlt, ← bAt_get t j hjt] at this
                rw [e] at this
                rw [bAt_get t k hlt, bAt_get t j hjt] at this
                exact this
              have HN : Hid (alkB l (bAt t k) (bAt t j) = true → rowC l t k = false) := fun h => alN_no j hlj (by rw [h]; rfl)
              have HY : Hid (alkB l (bAt t k) (bAt t j) = false → ∀ i, i < j + 1 → alkB l (bAt t k) (bAt t i) = false) := fun h i hi => by
                by_cases e : i = j
                · subst e; exact h
                · exact HJ.out i (by omega)
              clear HJ
              cases hal : alkB l (bAt t k) (bAt t j)
              · have HA := Lib.hid (HAL.out _ hal)
                have HY2 := Lib.hid (HY.out hal)
                clear hal HAL HN HY
                go_wp2_with fail
                refine wp_region_held_drew (S := fun _ => True) (by kernel_rfl) trivial (fun hHeld => ?_)
                refine wpAnyH_take (i := 0) (oi := ⟨some 25, _, _, _, _, _⟩) (v := ?va0) rfl (by kernel_rfl) (by kernel_rfl) (by kernel_rfl) (fun _ _ _ h => h) (Or.inl ⟨by rfl, ?ya0⟩) (by assumption) ?ra0
                case ya0 => (intro w hSw; (try dsimp only at hSw); go_simp; all_goals (with_reducible rfl))
                try simp only [Act.put, List.setIfInBounds_toArray, List.set_cons_zero, List.set_cons_succ]
                refine wpAnyH_take (i := 1) (oi := ⟨some 26, _, _, _, _, _⟩) (v := ?va1) rfl (by kernel_rfl) (by kernel_rfl) (by kernel_rfl) (fun _ _ _ h => h) (Or.inl ⟨by rfl, ?ya1⟩) (by assumption) ?ra1
                case ya1 => (intro w hSw; (try dsimp only at hSw); go_simp; all_goals (with_reducible rfl))
                try simp only [Act.put, List.setIfInBounds_toArray, List.set_cons_zero, List.set_cons_succ]
                refine wpAnyH_take (i := 2) (oi := ⟨some 27, _, _, _, _, _⟩) (v := ?va2) rfl (by kernel_rfl) (by kernel_rfl) (by kernel_rfl) (fun _ _ _ h => h) (Or.inl ⟨by rfl, ?ya2⟩) (by assumption) ?ra2
                case ya2 => (intro w hSw; (try dsimp only at hSw); go_simp; all_goals (with_reducible rfl))
                try simp only [Act.put, List.setIfInBounds_toArray, List.set_cons_zero, List.set_cons_succ]
                refine wpAnyH_take (i := 3) (oi := ⟨some 28, _, _, _, _, _⟩) (v := ?va3) rfl (by kernel_rfl) (by kernel_rfl) (by kernel_rfl) (fun _ _ _ h => h) (Or.inl ⟨by rfl, ?ya3⟩) (by assumption) ?ra3
                case ya3 => (intro w hSw; (try dsimp only at hSw); go_simp; all_goals (with_reducible rfl))
                try simp only [Act.put, List.setIfInBounds_toArray, List.set_cons_zero, List.set_cons_succ]
                refine wpAnyH_take (i := 4) (oi := ⟨some 29, _, _, _, _, _⟩) (v := ?va4) rfl (by kernel_rfl) (by kernel_rfl) (by kernel_rfl) (fun _ _ _ h => h) (Or.inl ⟨by rfl, ?ya4⟩) (by assumption) ?ra4
                case ya4 => (intro w hSw; (try dsimp only at hSw); go_simp; all_goals (with_reducible rfl))
                try simp only [Act.put, List.setIfInBounds_toArray, List.set_cons_zero, List.set_cons_succ]
                refine wpAnyH_take (i := 5) (oi := ⟨some 30, _, _, _, _, _⟩) (v := ?va5) rfl (by kernel_rfl) (by kernel_rfl) (by kernel_rfl) (fun _ _ _ h => h) (Or.inl ⟨by rfl, ?ya5⟩) (by assumption) ?ra5
                case ya5 => (intro w hSw; (try dsimp only at hSw); go_simp; all_goals (with_reducible rfl))
                try simp only [Act.put, List.setIfInBounds_toArray, List.set_cons_zero, List.set_cons_succ]
                refine wpAnyH_ready (rs := [6]) (by kernel_rfl) (by simp) ?_
                refine AllReadyH.cons rfl (fun K hK => ?_) AllReadyH.nil
                go_simp
                (go_at_call 42; refine HA.out.mono ?_; rintro e w3 ⟨rfl, hb3⟩)
                have hb4 : Below w2.heap.size w2 w3 := hb.trans ((Below.trans ((Below.refl _ _).drew) hb3).mono hb.size)
                go_wp2_with fail
                refine hK.out _ _ trivial (fun hHeld => ?_)
                clear hK K
                try simp only [Act.put, List.setIfInBounds_toArray, List.set_cons_zero, List.set_cons_succ]
                refine wpAnyH_done (by kernel_rfl) ?_ _
                go_wp2_with fail
                go_roundw
                case rel => exact ⟨j + 1, by omega, by go_num, HY2, hb4⟩
                case measure => first | (simp [intOf]; done) | (simp [intOf]; omega)
              · have HA := Lib.hid (HAL.out _ hal)
                have HF := Lib.hid (HKN.out (HN.out hal))
                clear hal HAL HN HY
                go_wp2_with fail
                refine wp_region_held_drew (S := fun _ => True) (by kernel_rfl) trivial (fun hHeld => ?_)
                refine wpAnyH_take (i := 0) (oi := ⟨some 25, _, _, _, _, _⟩) (v := ?vb0) rfl (by kernel_rfl) (by kernel_rfl) (by kernel_rfl) (fun _ _ _ h => h) (Or.inl ⟨by rfl, ?yb0⟩) (by assumption) ?rb0
                case yb0 => (intro w hSw; (try dsimp only at hSw); go_simp; all_goals (with_reducible rfl))
                try simp only [Act.put, List.setIfInBounds_toArray, List.set_cons_zero, List.set_cons_succ]
                refine wpAnyH_take (i := 1) (oi := ⟨some 26, _, _, _, _, _⟩) (v := ?vb1) rfl (by kernel_rfl) (by kernel_rfl) (by kernel_rfl) (fun _ _ _ h => h) (Or.inl ⟨by rfl, ?yb1⟩) (by assumption) ?rb1
                case yb1 => (intro w hSw; (try dsimp only at hSw); go_simp; all_goals (with_reducible rfl))
                try simp only [Act.put, List.setIfInBounds_toArray, List.set_cons_zero, List.set_cons_succ]
                refine wpAnyH_take (i := 2) (oi := ⟨some 27, _, _, _, _, _⟩) (v := ?vb2) rfl (by kernel_rfl) (by kernel_rfl) (by kernel_rfl) (fun _ _ _ h => h) (Or.inl ⟨by rfl, ?yb2⟩) (by assumption) ?rb2
                case yb2 => (intro w hSw; (try dsimp only at hSw); go_simp; all_goals (with_reducible rfl))
                try simp only [Act.put, List.setIfInBounds_toArray, List.set_cons_zero, List.set_cons_succ]
                refine wpAnyH_take (i := 3) (oi := ⟨some 28, _, _, _, _, _⟩) (v := ?vb3) rfl (by kernel_rfl) (by kernel_rfl) (by kernel_rfl) (fun _ _ _ h => h) (Or.inl ⟨by rfl, ?yb3⟩) (by assumption) ?rb3
                case yb3 => (intro w hSw; (try dsimp only at hSw); go_simp; all_goals (with_reducible rfl))
                try simp only [Act.put, List.setIfInBounds_toArray, List.set_cons_zero, List.set_cons_succ]
                refine wpAnyH_take (i := 4) (oi := ⟨some 29, _, _, _, _, _⟩) (v := ?vb4) rfl (by kernel_rfl) (by kernel_rfl) (by kernel_rfl) (fun _ _ _ h => h) (Or.inl ⟨by rfl, ?yb4⟩) (by assumption) ?rb4
                case yb4 => (intro w hSw; (try dsimp only at hSw); go_simp; all_goals (with_reducible rfl))
                try simp only [Act.put, List.setIfInBounds_toArray, List.set_cons_zero, List.set_cons_succ]
                refine wpAnyH_take (i := 5) (oi := ⟨some 30, _, _, _, _, _⟩) (v := ?vb5) rfl (by kernel_rfl) (by kernel_rfl) (by kernel_rfl) (fun _ _ _ h => h) (Or.inl ⟨by rfl, ?yb5⟩) (by assumption) ?rb5
                case yb5 => (intro w hSw; (try dsimp only at hSw); go_simp; all_goals (with_reducible rfl))
                try simp only [Act.put, List.setIfInBounds_toArray, List.set_cons_zero, List.set_cons_succ]
                refine wpAnyH_ready (rs := [6]) (by kernel_rfl) (by simp) ?_
                refine AllReadyH.cons rfl (fun K hK => ?_) AllReadyH.nil
                go_simp
                (go_at_call 42; refine HA.out.mono ?_; rintro e w3 ⟨rfl, hb3⟩)
                have hb4 : Below w2.heap.size w2 w3 := hb.trans ((Below.trans ((Below.refl _ _).drew) hb3).mono hb.size)
                go_wp2_with fail
                refine hK.out _ _ trivial (fun hHeld => ?_)
                clear hK K
                try simp only [Act.put, List.setIfInBounds_toArray, List.set_cons_zero, List.set_cons_succ]
                refine wpAnyH_done (by kernel_rfl) ?_ _
                go_wp2_with fail
                go_ret
                exact ⟨ret_bool HF.out.symm, HB.out.trans (hb4.mono HB.out.size)⟩
            · have HY2 := Lib.hid (HKY.out (alN_iff.2 fun i hi => by rw [HJ.out i (by omega)]; rfl))
              go_wp2_with fail
              go_roundw
              case rel => exact ⟨k + 1, by omega, by go_num, HY2, hb⟩
              case measure => first | (simp [intOf]; done) | (simp [intOf]; omega)
        · have HF : Hid (icB s l t = true) := HR.out.trans (alN_iff.2 fun i hi => HK.out i (by omega))
          go_wp2_with fail
          go_ret
          exact ⟨ret_bool HF.out.symm, HB.out.trans (hb.mono HB.out.size)⟩
end Go.Proofs.Ytdkheeocglfogaa
