/- Likenesses: the program's ValidLikeness. -/
import Derived.Test.YtdkheeocglfogaaSym
namespace Go.Proofs.Ytdkheeocglfogaa
open Go.RowKit

set_option maxHeartbeats 1000000 in
theorem different_symbols (s : ByteArray) (w : World) (hs : s.size ≤ 1048576) :
    Calls Try.prog 36 #[.string s, .func (.func 37) #[] #[]] w fun e w' => e = .returned (.bool (diffB isS (bz s))) ∧ Below w.heap.size w w' := by
  go_enter Try.func36, Try.ntmps36
  go_wp2_with fail
  go_loopw [8] (fun iv wr => ∃ k : Nat, k ≤ s.size ∧ iv = .int .i64 k ∧ Hid (∀ i, i < k → (isS ((bz s).getD i 0) && !decide ((bz s).getD i 0 ∈ (bz s).take i)) = true) ∧ Below w.heap.size w wr) (fun iv _ => s.size - (intOf iv).toNat)
  case atStart => exact ⟨0, Nat.zero_le _, rfl, fun i hi => by omega, Below.refl _ _⟩
  case round =>
    obtain ⟨k, hk, rfl, HK, hb⟩ := hrel
    by_cases hlt : k < s.size
    · have hg := bz_get s k hlt
      have hb255 := bz_in s ((bz s).getD k 0) (by have := bz_len s; simp [show k < (bz s).length by omega])
      have HX : Hid (∀ wx, Calls Try.prog 45 #[.string (s.extract 0 k), .int .u8 (s[k].toNat : Int)] wx fun e w' => e = .returned (.int .i64 (ix ((bz s).take k) ((bz s).getD k 0))) ∧ wx = w') := fun wx => by
        have := indexByte_any (s.extract 0 k) (s[k].toNat : Int) wx (by rw [← hg]; exact hb255)
        rw [bz_extract, List.drop_zero, ← hg] at this
        rw [← hg]; exact this
      have HB255 : Hid (0 ≤ (bz s).getD k 0 ∧ (bz s).getD k 0 ≤ 255) := hb255
      have HL : Hid (∀ (b : Bool), isS ((bz s).getD k 0) = b → ∀ wx, Calls Try.prog 37 #[.int .u8 (s[k].toNat : Int)] wx fun e w' => e = .returned (.bool b) ∧ wx = w') := fun b h wx => by
        rw [← hg]; exact isSymbol_is _ b h wx (HB255.out)
      have HM := Lib.hid (ix_mem ((bz s).take k) ((bz s).getD k 0))
      have hl : (bz s).length = s.size := bz_len s
      have HN := Lib.hid hl
      clear hl hg hb255
      by_cases h1 : isS ((bz s).getD k 0) = true
      · have H1 := Lib.hid h1
        clear h1
        by_cases h2 : 0 ≤ ix ((bz s).take k) ((bz s).getD k 0)
        · have HR : Hid (diffB isS (bz s) = false) := by
            have hm := HM.out
            rw [decide_eq_true h2] at hm
            exact diffB_no k (by rw [HN.out]; exact hlt) (by rw [← hm]; simp)
          generalize ix ((bz s).take k) ((bz s).getD k 0) = z at *
          go_wp2_with fail
          go_quiet (first | (go_at_call 37; exact quiet_same (HL.out _ H1.out _)) | (go_at_call 45; exact quiet_same (HX.out _)))
          go_wp2_with fail
          go_ret
          exact ⟨ret_bool HR.out.symm, below_drewN hb _⟩
        · have HK2 : Hid (∀ i, i < k + 1 → (isS ((bz s).getD i 0) && !decide ((bz s).getD i 0 ∈ (bz s).take i)) = true) := fun i hi => by
            by_cases e : i = k
            · subst e
              have hm := HM.out
              rw [decide_eq_false h2] at hm
              rw [← hm, H1.out]; rfl
            · exact HK.out i (by omega)
          generalize ix ((bz s).take k) ((bz s).getD k 0) = z at *
          go_wp2_with fail
          go_quiet (first | (go_at_call 37; exact quiet_same (HL.out _ H1.out _)) | (go_at_call 45; exact quiet_same (HX.out _)))
          go_wp2_with fail
          go_roundw
          case rel => exact ⟨k + 1, by omega, by go_num, HK2, below_drewN hb _⟩
          case measure => first | (simp [intOf]; done) | (simp [intOf]; omega)
      · simp only [Bool.not_eq_true] at h1
        have H1 := Lib.hid h1
        have HR : Hid (diffB isS (bz s) = false) := diffB_no k (by rw [HN.out]; exact hlt) (by rw [h1]; rfl)
        clear h1
        go_wp2_with fail
        go_quiet (first | (go_at_call 37; exact quiet_same (HL.out _ H1.out _)) | (go_at_call 45; exact quiet_same (HX.out _)))
        go_wp2_with fail
        go_ret
        exact ⟨ret_bool HR.out.symm, below_drewN hb _⟩
    · have HR : Hid (diffB isS (bz s) = true) := diffB_yes fun i hi => HK.out i (by have := bz_len s; omega)
      go_wp2_with fail
      go_ret
      exact ⟨ret_bool HR.out.symm, hb⟩


theorem size2 {s : ByteArray} (h : s.size = 2) : ∃ a b : UInt8, s = ⟨#[a, b]⟩ := by
  obtain ⟨⟨l⟩⟩ := s
  match l, h with
  | [a, b], _ => exact ⟨a, b, rfl⟩
def turnS (p : ByteArray) : ByteArray := p.extract 1 2 ++ p.extract 0 1
theorem ex01 (a b : UInt8) : (⟨#[a, b]⟩ : ByteArray).extract 0 1 = ⟨#[a]⟩ := rfl
theorem ex12 (a b : UInt8) : (⟨#[a, b]⟩ : ByteArray).extract 1 2 = ⟨#[b]⟩ := rfl
theorem app1 (a b : UInt8) : (⟨#[b]⟩ : ByteArray) ++ ⟨#[a]⟩ = ⟨#[b, a]⟩ := by
  apply ba_ext; simp
theorem turnS2 (a b : UInt8) : turnS ⟨#[a, b]⟩ = ⟨#[b, a]⟩ := by unfold turnS; rw [ex01, ex12, app1]
/-- A pair of different symbols of the text sy. -/
def pairOk (sy p : ByteArray) : Bool := decide (p.size = 2) && (!decide ((bz p).getD 0 0 = (bz p).getD 1 0) && (decide ((bz p).getD 0 0 ∈ bz sy) && decide ((bz p).getD 1 0 ∈ bz sy)))
def pairAt (sy : ByteArray) (l : List ByteArray) (i : Nat) : Bool := pairOk sy (sAt l i) && (!hasS (l.take i) (sAt l i) && !hasS (l.take i) (turnS (sAt l i)))
def pairsB (sy : ByteArray) (l : List ByteArray) : Bool := (List.range l.length).all (pairAt sy l)
/-- What ValidLikeness answers. -/
def vlB (sy : ByteArray) (l : List ByteArray) : Bool := (inB sy.size 1 18 && diffB isS (bz sy)) && (decide (l.length ≤ 40) && pairsB sy l)
theorem pairOk2 (sy : ByteArray) (a b : UInt8) : pairOk sy ⟨#[a, b]⟩ = (!decide (a = b) && (decide ((a.toNat : Int) ∈ bz sy) && decide ((b.toNat : Int) ∈ bz sy))) := by
  have e : decide ((a.toNat : Int) = (b.toNat : Int)) = decide (a = b) := decide_eq_decide.2 ⟨fun h => UInt8.toNat_inj.1 (by omega), fun h => by rw [h]⟩
  unfold pairOk
  have h0 : (bz ⟨#[a, b]⟩).getD 0 0 = (a.toNat : Int) := rfl
  have h1 : (bz ⟨#[a, b]⟩).getD 1 0 = (b.toNat : Int) := rfl
  rw [h0, h1, e]; rfl
theorem pairOk_no {sy p : ByteArray} (h : ¬ p.size = 2) : pairOk sy p = false := by unfold pairOk; rw [decide_eq_false h]; rfl
theorem pairOk_size {sy p : ByteArray} (h : pairOk sy p = true) : p.size = 2 := by
  unfold pairOk at h; simp only [Bool.and_eq_true, decide_eq_true_eq] at h; exact h.1
theorem pairAt_ok {sy : ByteArray} {l : List ByteArray} {i : Nat} (h : pairAt sy l i = true) : pairOk sy (sAt l i) = true := by
  unfold pairAt at h; simp only [Bool.and_eq_true] at h; exact h.1
theorem pairsB_no {sy : ByteArray} {l : List ByteArray} (k : Nat) (hk : k < l.length) (h : pairAt sy l k = false) : pairsB sy l = false := by
  unfold pairsB
  rw [← Bool.not_eq_true, List.all_eq_true]
  intro hh
  have := hh k (List.mem_range.2 hk)
  rw [h] at this; cases this
theorem pairsB_yes {sy : ByteArray} {l : List ByteArray} (h : ∀ k, k < l.length → pairAt sy l k = true) : pairsB sy l = true := by
  unfold pairsB
  rw [List.all_eq_true]; intro k hk; exact h k (List.mem_range.1 hk)
theorem vlB_no {sy : ByteArray} {l : List ByteArray} (k : Nat) (hk : k < l.length) (h : pairAt sy l k = false) : vlB sy l = false := by unfold vlB; rw [pairsB_no k hk h]; simp
theorem vlB_yes {sy : ByteArray} {l : List ByteArray} (h1 : inB sy.size 1 18 = true) (h2 : diffB isS (bz sy) = true) (h3 : l.length ≤ 40) (h : ∀ k, k < l.length → pairAt sy l k = true) : vlB sy l = true := by
  unfold vlB; rw [pairsB_yes h, h1, h2, decide_eq_true h3]; rfl

/-- A likeness in memory, its box X. -/
structure LX (X : Nat) (s : ByteArray) (v : Value) (w : World) : Prop where
  c0 : w.cell? ⟨X, 0, none⟩ = some (.string s)
  c1 : w.cell? ⟨X, 1, none⟩ = some v
theorem LX.lt {X : Nat} {s : ByteArray} {v : Value} {w : World} (h : LX X s v w) : X < w.heap.size := World.block_lt_of_cell? w _ h.c0
theorem LX.later {X : Nat} {s : ByteArray} {v : Value} {w w' : World} (h : LX X s v w) (hb : Below w.heap.size w w') : LX X s v w' := by
  have hl := h.lt
  refine ⟨?_, ?_⟩
  · rw [hb.cell (p := ⟨X, 0, none⟩) hl]; exact h.c0
  · rw [hb.cell (p := ⟨X, 1, none⟩) hl]; exact h.c1
set_option maxHeartbeats 400000 in
theorem turned_any (a b : UInt8) (w : World) :
    Calls Try.prog 40 #[.string ⟨#[a, b]⟩] w fun e w' => e = .returned (.string ⟨#[b, a]⟩) ∧ ∃ n, w' = w.drewN n := by
  have h1 := ex01 a b
  have h2 := ex12 a b
  have h3 := app1 a b
  go_enter Try.func40, Try.ntmps40
  go_wp2_with fail
  go_quiet (fail)
  go_wp2_with fail
  go_ret
  exact ⟨rfl, _, rfl⟩
theorem Drw_of {w w' : World} (h : ∃ n, w' = w.drewN n) : Below w.heap.size w w' := by
  obtain ⟨n, rfl⟩ := h
  exact below_drewN (Below.refl _ _) _
section
variable {P : Program} {f : FuncId} {args : Array Value} {w : World} {a b : Nat} {v : Value}
/-- The same in a second region that draws its order. -/
theorem quiet_same2 (h : Calls P f args (w.drewN (a + b)) fun e w' => e = .returned v ∧ w.drewN (a + b) = w') : Calls P f args (w.drewN (a + b)) fun e w'' => e = .returned v ∧ ∃ n, w'' = w.drewN (a + n) :=
  h.mono fun _ _ ⟨he, hm⟩ => ⟨he, b, hm.symm⟩
theorem quiet_ex2 (h : Calls P f args (w.drewN (a + b)) fun e w' => e = .returned v ∧ ∃ m, w' = (w.drewN (a + b)).drewN m) : Calls P f args (w.drewN (a + b)) fun e w'' => e = .returned v ∧ ∃ n, w'' = w.drewN (a + n) :=
  h.mono fun _ _ ⟨he, m, hm⟩ => ⟨he, b + m, by rw [hm, World.drewN_drewN, Nat.add_assoc]⟩
end
theorem contains_b (s : ByteArray) (c : UInt8) (b : Bool) (hb : Hid (decide ((c.toNat : Int) ∈ bz s) = b)) (w : World) :
    Calls Try.prog 38 #[.string s, .string ⟨#[c]⟩] w fun e w' => e = .returned (.bool b) ∧ w = w' := contains1 s c b hb.out w

set_option maxRecDepth 100000 in
set_option maxHeartbeats 4000000 in
theorem implVL_any (s : ByteArray) (v : Value) (l : List ByteArray) (w : World) (hx : RS w v l) (hs : s.size ≤ 1048576) (hm : l.length ≤ 1048576) :
    Calls Try.prog 13 #[.agg #[.string s, v]] w fun e w' => e = .returned (.bool (vlB s l)) ∧ Below w.heap.size w w' := by
  obtain ⟨a, c, rfl⟩ := hx.slice
  have hcap := hx.cap
  unfold maxLen at hcap
  have hb : Below w.heap.size w (w.alloc (.cells #[.string s, .slice a l.length c] 27)) := (Below.refl _ _).alloc (Nat.le_refl _) _
  have hbx : LX w.heap.size s (.slice a l.length c) (w.alloc (.cells #[.string s, .slice a l.length c] 27)) := ⟨World.cell?_alloc_at _ _ _ _ rfl, World.cell?_alloc_at _ _ _ _ rfl⟩
  replace hx := hx.later hb
  have c0 := hbx.c0
  have c1 := hbx.c1
  cases q1 : inB s.size 1 18
  · have HR : Hid (vlB s l = false) := by unfold Hid vlB; rw [q1]; rfl
    go_enter Try.func13, Try.ntmps13
    go_wp2_with (go_at_call 35; refine (in_any _ _ _ _).mono ?_; rintro e w' ⟨rfl, rfl⟩)
    go_ret
    exact ⟨ret_bool HR.out.symm, hb⟩
  · cases q2 : diffB isS (bz s)
    · have HR : Hid (vlB s l = false) := by unfold Hid vlB; rw [q2]; simp
      have HD : Hid (∀ wx, Calls Try.prog 36 #[.string s, .func (.func 37) #[] #[]] wx fun e w' => e = .returned (.bool false) ∧ Below wx.heap.size wx w') := fun wx => by
        have := different_symbols s wx hs
        rw [q2] at this; exact this
      clear q2
      go_enter Try.func13, Try.ntmps13
      go_wp2_with (first | (go_at_call 35; refine (in_any _ _ _ _).mono ?_; rintro e w' ⟨rfl, rfl⟩) | (go_at_call 36; refine (HD.out _).mono ?_; rintro e w1 ⟨rfl, hb1⟩))
      go_ret
      exact ⟨ret_bool HR.out.symm, hb.trans (hb1.mono hb.size)⟩
    · have HD : Hid (∀ wx, Calls Try.prog 36 #[.string s, .func (.func 37) #[] #[]] wx fun e w' => e = .returned (.bool true) ∧ Below wx.heap.size wx w') := fun wx => by
        have := different_symbols s wx hs
        rw [q2] at this; exact this
      have Q1 := Lib.hid q1
      have Q2 := Lib.hid q2
      clear q2
      by_cases h40 : (l.length : Int) ≤ 40
      · go_enter Try.func13, Try.ntmps13
        go_wp2_with (first | (go_at_call 35; refine (in_any _ _ _ _).mono ?_; rintro e w' ⟨rfl, rfl⟩) | fail)
        generalize w.alloc (.cells #[.string s, .slice a l.length c] 27) = w0 at *
        refine (HD.out _).mono ?_
        rintro e w1 ⟨rfl, hb1⟩
        replace hbx := hbx.later hb1
        replace hx := hx.later hb1
        replace hb := hb.trans (hb1.mono hb.size)
        clear hb1
        have c0 := hbx.c0
        have c1 := hbx.c1
        go_wp2_with fail
        clear q1 c0 c1
        go_loopw [25] (fun iv wr => ∃ k : Nat, k ≤ l.length ∧ iv = .int .i64 k ∧ Hid (∀ i, i < k → pairAt s l i = true) ∧ Below w1.heap.size w1 wr) (fun iv _ => l.length - (intOf iv).toNat)
        case atStart => exact ⟨0, Nat.zero_le _, rfl, fun i hi => by omega, Below.refl _ _⟩
        case round =>
          obtain ⟨k, hk, rfl, HK, hb2⟩ := hrel
          have hbx := hbx.later hb2
          have hx := hx.later hb2
          have c0 := hbx.c0
          have c1 := hbx.c1
          by_cases hlt : k < l.length
          · obtain ⟨ga, off, rfl, hg, hc⟩ := hx.at k hlt
            have hck : (k : Int) ≤ c := by omega
            have HA : Hid (pairAt s l k = (pairOk s (sAt l k) && (!hasS (l.take k) (sAt l k) && !hasS (l.take k) (turnS (sAt l k))))) := rfl
            have HNO : Hid (pairAt s l k = false → vlB s l = false) := vlB_no k hlt
            have HYES : Hid (pairAt s l k = true → ∀ i, i < k + 1 → pairAt s l i = true) := fun h i hi => by
              by_cases e : i = k
              · subst e; exact h
              · exact HK.out i (by omega)
            have htk : Hid (∀ wx, Below wr.heap.size wr wx → RS wx (.slice (some ⟨ga, off, none⟩) k c) (l.take k)) := fun wx h => (hx.later h).take k hk (by unfold maxLen; omega)
            have hl2 : Hid ((l.take k).length ≤ 1099511627776) := by unfold Hid; rw [List.length_take]; omega
            generalize sAt l k = p at *
            by_cases h2 : p.size = 2
            · obtain ⟨x, y, rfl⟩ := size2 h2
              have hxy1 := ex01 x y
              have hxy2 := ex12 x y
              have hi0 : ∀ h, (⟨#[x, y]⟩ : ByteArray)[0]'h = x := fun _ => rfl
              have hi1 : ∀ h, (⟨#[x, y]⟩ : ByteArray)[1]'h = y := fun _ => rfl
              rw [turnS2, pairOk2] at HA
              clear h2
              by_cases h3 : x = y
              · have HR : Hid (vlB s l = false) := HNO.out (by rw [HA.out, decide_eq_true h3]; rfl)
                subst h3
                go_wp2_with fail
                go_quiet (fail)
                go_wp2_with fail
                go_ret
                exact ⟨ret_bool HR.out.symm, hb.trans ((below_drewN hb2 _).mono hb.size)⟩
              · have b3 : ((x.toNat : Int) == y.toNat) = false := by rw [beq_eq_false_iff_ne]; exact fun e => h3 (UInt8.toNat_inj.1 (by omega))
                have H3 := Lib.hid h3
                clear h3
                cases m1 : decide ((x.toNat : Int) ∈ bz s)
                · have HR : Hid (vlB s l = false) := HNO.out (by rw [HA.out, m1]; simp)
                  have M1 := Lib.hid m1
                  clear m1
                  go_wp2_with fail
                  go_quiet ((go_at_call 38; exact quiet_same (contains_b s x _ M1 _)))
                  go_wp2_with fail
                  go_ret
                  exact ⟨ret_bool HR.out.symm, hb.trans ((below_drewN hb2 _).mono hb.size)⟩
                · have M1 := Lib.hid m1
                  clear m1
                  cases m2 : decide ((y.toNat : Int) ∈ bz s)
                  · have HR : Hid (vlB s l = false) := HNO.out (by rw [HA.out, m2]; simp)
                    have M2 := Lib.hid m2
                    clear m2
                    go_wp2_with fail
                    go_quiet ((go_at_call 38; first | exact quiet_same (contains_b s x _ M1 _) | exact quiet_same (contains_b s y _ M2 _)))
                    go_wp2_with fail
                    go_ret
                    exact ⟨ret_bool HR.out.symm, hb.trans ((below_drewN hb2 _).mono hb.size)⟩
                  · have M2 := Lib.hid m2
                    clear m2
                    have hz : Hid (∀ wx, Below wr.heap.size wr wx → ∀ q b, hasS (l.take k) q = b → Calls Try.prog 39 #[.slice (some ⟨ga, off, none⟩) k c, .string q] wx fun e w' => e = .returned (.bool b) ∧ wx = w') := fun wx h q b e => by
                      have := containsStr_any _ (l.take k) q wx (htk.out wx h) hl2.out
                      rw [e] at this; exact this
                    cases m3 : hasS (l.take k) ⟨#[x, y]⟩
                    · have M3 := Lib.hid m3
                      clear m3
                      cases m4 : hasS (l.take k) ⟨#[y, x]⟩
                      · have HR := Lib.hid (HYES.out (by rw [HA.out, M1.out, M2.out, M3.out, m4, decide_eq_false H3.out]; rfl))
                        have M4 := Lib.hid m4
                        clear m4
                        go_wp2_with fail
                        go_quiet ((go_at_call 38; first | exact quiet_same (contains_b s x _ M1 _) | exact quiet_same (contains_b s y _ M2 _)))
                        go_wp2_with fail
                        go_quiet (first
                          | (go_at_call 40; exact quiet_ex2 (turned_any x y _))
                          | (go_at_call 39; first | exact quiet_same2 (hz.out _ (below_drewN (Below.refl _ _) _) _ _ M3.out) | exact quiet_same2 (hz.out _ (below_drewN (Below.refl _ _) _) _ _ M4.out)))
                        go_wp2_with fail
                        go_roundw
                        case rel => exact ⟨k + 1, by omega, by go_num, HR, below_drewN hb2 _⟩
                        case measure => first | (simp [intOf]; done) | (simp [intOf]; omega)
                      · have HR : Hid (vlB s l = false) := HNO.out (by rw [HA.out, m4]; simp)
                        have M4 := Lib.hid m4
                        clear m4
                        go_wp2_with fail
                        go_quiet ((go_at_call 38; first | exact quiet_same (contains_b s x _ M1 _) | exact quiet_same (contains_b s y _ M2 _)))
                        go_wp2_with fail
                        go_quiet (first
                          | (go_at_call 40; exact quiet_ex2 (turned_any x y _))
                          | (go_at_call 39; first | exact quiet_same2 (hz.out _ (below_drewN (Below.refl _ _) _) _ _ M3.out) | exact quiet_same2 (hz.out _ (below_drewN (Below.refl _ _) _) _ _ M4.out)))
                        go_wp2_with fail
                        go_ret
                        exact ⟨ret_bool HR.out.symm, hb.trans ((below_drewN (below_drewN hb2 _) _).mono hb.size)⟩
                    · have HR : Hid (vlB s l = false) := HNO.out (by rw [HA.out, m3]; simp)
                      have M3 := Lib.hid m3
                      clear m3
                      go_wp2_with fail
                      go_quiet ((go_at_call 38; first | exact quiet_same (contains_b s x _ M1 _) | exact quiet_same (contains_b s y _ M2 _)))
                      go_wp2_with fail
                      go_quiet ((go_at_call 39; exact quiet_same2 (hz.out _ (below_drewN (Below.refl _ _) _) _ _ M3.out)))
                      go_wp2_with fail
                      go_ret
                      exact ⟨ret_bool HR.out.symm, hb.trans ((below_drewN (below_drewN hb2 _) _).mono hb.size)⟩
            · have HR : Hid (vlB s l = false) := HNO.out (by rw [HA.out, pairOk_no h2]; rfl)
              have b2 : ((p.size : Int) != 2) = true := by rw [bne_iff_ne]; omega
              clear h2
              go_wp2_with fail
              go_quiet (fail)
              go_wp2_with fail
              go_ret
              exact ⟨ret_bool HR.out.symm, hb.trans ((below_drewN hb2 _).mono hb.size)⟩
          · have HR : Hid (vlB s l = true) := vlB_yes Q1.out Q2.out (by omega) fun i hi => HK.out i (by omega)
            go_wp2_with fail
            go_ret
            exact ⟨ret_bool HR.out.symm, hb.trans (hb2.mono hb.size)⟩
      · have HR : Hid (vlB s l = false) := by unfold Hid vlB; rw [decide_eq_false (show ¬ l.length ≤ 40 by omega)]; simp
        go_enter Try.func13, Try.ntmps13
        go_wp2_with (first | (go_at_call 35; refine (in_any _ _ _ _).mono ?_; rintro e w' ⟨rfl, rfl⟩) | fail)
        generalize w.alloc (.cells #[.string s, .slice a l.length c] 27) = w0 at *
        refine (HD.out _).mono ?_
        rintro e w1 ⟨rfl, hb1⟩
        replace hbx := hbx.later hb1
        replace hx := hx.later hb1
        replace hb := hb.trans (hb1.mono hb.size)
        clear hb1
        have c0 := hbx.c0
        have c1 := hbx.c1
        go_wp2_with fail
        go_ret
        exact ⟨ret_bool HR.out.symm, hb⟩
end Go.Proofs.Ytdkheeocglfogaa
