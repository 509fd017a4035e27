/- Barcodes: the program's and the reference's ValidBarcode. -/
import Derived.Test.YtjjohniabgamjaaWidths2
import Derived.Test.YtjjohniabgamjaaStrs
namespace Go.Proofs.Ytjjohniabgamjaa
open Go.RowKit

theorem isPattern_any (p : ByteArray) (w : World) (hp : p.size ≤ 1048576) :
    Calls Try.prog 56 #[.string p] w fun e w' => e = .returned (.bool (pok p)) ∧ Below w.heap.size w w' := by
  go_enter Try.func56, Try.ntmps56
  go_wp2_with fail
  refine (widthsOf_any p _ hp).mono ?_
  rintro e w1 ⟨v1, xs, rfl, h1, H1, hb1⟩
  go_wp2_with fail
  go_ret
  exact ⟨rfl, hb1⟩
theorem isPattern_is (p : ByteArray) (b : Bool) (h : Hid (pok p = b)) (w : World) (hp : p.size ≤ 1048576) :
    Calls Try.prog 56 #[.string p] w fun e w' => e = .returned (.bool b) ∧ Below w.heap.size w w' := by
  have := isPattern_any p w hp
  rw [h.out] at this; exact this
theorem l08Pattern_is (p : ByteArray) (b : Bool) (h : Hid (pok p = b)) (w : World) (hp : p.size ≤ 1048576) :
    Calls Try.prog 40 #[.string p] w fun e w' => e = .returned (.bool b) ∧ w = w' := by
  have := l08Pattern_any p w hp
  rw [h.out] at this; exact this
theorem elementsOf_any (p : ByteArray) (w : World) (hp : p.size ≤ 1048576) (hok : Hid (pok p = true)) :
    Calls Try.prog 58 #[.string p] w fun e w' => ∃ v, e = .returned v ∧ OI w.heap.size w' v (pw p) ∧ Below w.heap.size w w' := by
  go_enter Try.func58, Try.ntmps58
  go_wp2_with fail
  refine (widthsOf_any p _ hp).mono ?_
  rintro e w1 ⟨v1, xs, rfl, h1, H1, hb1⟩
  obtain rfl := H1.out hok.out
  obtain ⟨a, c, rfl⟩ := h1.slice
  go_wp2_with fail
  go_ret
  exact ⟨_, rfl, h1, hb1⟩
set_option maxHeartbeats 1000000 in
theorem l08Sum_any (v : Value) (xs : List Int) (w : World) (hx : RI w v xs) (hb : ∀ x ∈ xs, 0 ≤ x ∧ x ≤ 100000) (hm : xs.length ≤ 1048576) :
    Calls Try.prog 64 #[v] w fun e w' => e = .returned (.int .i64 (isum xs)) ∧ w = w' := by
  obtain ⟨a, c, rfl⟩ := hx.slice
  go_enter Try.func64, Try.ntmps64
  go_wp2_with fail
  go_loop [3, 4] (fun sv iv => ∃ k : Nat, k ≤ xs.length ∧ iv = .int .i64 k ∧ sv = .int .i64 (isum (xs.take k))) (fun _ iv => xs.length - (intOf iv).toNat)
  case atStart => exact ⟨0, Nat.zero_le _, rfl, by simp [isum]⟩
  case round =>
    obtain ⟨k, hk, rfl, rfl⟩ := hrel
    by_cases hlt : k < xs.length
    · obtain ⟨g, off, rfl, hg, hc⟩ := hx.at k hlt
      have h1 := hb (xs.getD k 0) (by simp [hlt])
      have h2 := isum_take_bd 100000 xs k (by omega) hb
      have HS := Lib.hid (isum_snoc xs k hlt)
      generalize xs.getD k 0 = x at *
      go_wp2_with fail
      go_round
      case rel => exact ⟨k + 1, by omega, by go_num, by rw [HS.out]⟩
      case measure => first | (simp [intOf]; done) | (simp [intOf]; omega)
    · go_wp2_with fail
      go_ret
      have : k = xs.length := by omega
      subst this
      exact ⟨ret_i64 (by rw [List.take_length]), rfl⟩

/-- A barcode in memory, its box X. -/
structure BX (X : Nat) (s r : ByteArray) (v : Value) (g : Int) (w : World) : Prop where
  c0 : w.cell? ⟨X, 0, none⟩ = some (.string s)
  c1 : w.cell? ⟨X, 1, none⟩ = some (.string r)
  c2 : w.cell? ⟨X, 2, none⟩ = some v
  c3 : w.cell? ⟨X, 3, none⟩ = some (.int .i64 g)
theorem BX.lt {X : Nat} {s r : ByteArray} {v : Value} {g : Int} {w : World} (h : BX X s r v g w) : X < w.heap.size := World.block_lt_of_cell? w _ h.c0
theorem BX.later {X : Nat} {s r : ByteArray} {v : Value} {g : Int} {w w' : World} (h : BX X s r v g w) (hb : Below w.heap.size w w') : BX X s r v g w' := by
  have hl := h.lt
  refine ⟨?_, ?_, ?_, ?_⟩
  · rw [hb.cell (p := ⟨X, 0, none⟩) hl]; exact h.c0
  · rw [hb.cell (p := ⟨X, 1, none⟩) hl]; exact h.c1
  · rw [hb.cell (p := ⟨X, 2, none⟩) hl]; exact h.c2
  · rw [hb.cell (p := ⟨X, 3, none⟩) hl]; exact h.c3

def patAt (l : List ByteArray) (i : Nat) : Bool := (pok (sAt l i) && decide ((sAt l i).size = (sAt l 0).size)) && (decide (isum (pw (sAt l i)) = isum (pw (sAt l 0))) && !hasS (l.take i) (sAt l i))
def barH (s r : ByteArray) (l : List ByteArray) (g : Int) : Bool := (pok s && pok r) && (inB l.length 1 36 && inB g 0 4)
def barP (s r p : ByteArray) (g : Int) : Bool := (decide (r.size % 2 = 1) && decide (p.size % 2 = s.size % 2)) && (decide (s.size % 2 = 1) == decide (0 < g))
def patsB (l : List ByteArray) : Bool := (List.range l.length).all (patAt l)
/-- What both answer. -/
def barB (s r : ByteArray) (l : List ByteArray) (g : Int) : Bool := barH s r l g && (patsB l && barP s r (sAt l 0) g)
theorem patsB_no {l : List ByteArray} (k : Nat) (hk : k < l.length) (h : patAt l k = false) : patsB l = false := by
  unfold patsB
  rw [← Bool.not_eq_true, List.all_eq_true]
  intro hh
  have := hh k (List.mem_range.2 hk)
  rw [h] at this; cases this
theorem patsB_yes {l : List ByteArray} (h : ∀ k, k < l.length → patAt l k = true) : patsB l = true := by
  unfold patsB
  rw [List.all_eq_true]; intro k hk; exact h k (List.mem_range.1 hk)
theorem barB_no1 {s r : ByteArray} {l : List ByteArray} {g : Int} (h : barH s r l g = false) : barB s r l g = false := by unfold barB; rw [h]; rfl
theorem barB_no2 {s r : ByteArray} {l : List ByteArray} {g : Int} (k : Nat) (hk : k < l.length) (h : patAt l k = false) : barB s r l g = false := by unfold barB; rw [patsB_no k hk h]; simp
theorem barB_all {s r : ByteArray} {l : List ByteArray} {g : Int} (h : barH s r l g = true) (h' : ∀ k, k < l.length → patAt l k = true) : barB s r l g = barP s r (sAt l 0) g := by unfold barB; rw [h, patsB_yes h']; rfl
theorem patAt_pok {l : List ByteArray} {k : Nat} (h : patAt l k = true) : pok (sAt l k) = true := by
  unfold patAt at h; simp only [Bool.and_eq_true] at h; exact h.1.1
theorem pw_100 {p : ByteArray} (h : pok p = true) : ∀ x ∈ pw p, 0 ≤ x ∧ x ≤ 100000 := fun x hx => by have := pw_in p (pok_okB h) x hx; omega
theorem pw_len1 {p : ByteArray} (h : pok p = true) : (pw p).length ≤ 1048576 := by have := pok_size h; rw [pw_len]; omega

set_option maxRecDepth 100000 in
set_option maxHeartbeats 4000000 in
theorem implBar_any (s r : ByteArray) (v : Value) (l : List ByteArray) (g : Int) (w : World) (hx : RS w v l) (hs : s.size ≤ 1048576) (hr : r.size ≤ 1048576) (hm : l.length ≤ 1048576) (hz : ∀ k, k < l.length → (sAt l k).size ≤ 1048576) :
    Calls Try.prog 33 #[.agg #[.string s, .string r, v, .int .i64 g]] w fun e w' => e = .returned (.bool (barB s r l g)) ∧ Below w.heap.size w w' := by
  obtain ⟨a, c, rfl⟩ := hx.slice
  have hcap := hx.cap
  unfold maxLen at hcap
  have HZ := Lib.hid hz
  clear hz
  have hb : Below w.heap.size w (w.alloc (.cells #[.string s, .string r, .slice a l.length c, .int .i64 g] 48)) := (Below.refl _ _).alloc (Nat.le_refl _) _
  have hbx : BX w.heap.size s r (.slice a l.length c) g (w.alloc (.cells #[.string s, .string r, .slice a l.length c, .int .i64 g] 48)) := ⟨World.cell?_alloc_at _ _ _ _ rfl, World.cell?_alloc_at _ _ _ _ rfl, World.cell?_alloc_at _ _ _ _ rfl, World.cell?_alloc_at _ _ _ _ rfl⟩
  replace hx := hx.later hb
  have c0 := hbx.c0
  have c1 := hbx.c1
  have c2 := hbx.c2
  have c3 := hbx.c3
  cases p1 : pok s
  · have P1 := Lib.hid p1
    have HR : Hid (barB s r l g = false) := barB_no1 (by unfold barH; rw [p1]; rfl)
    clear p1
    go_enter Try.func33, Try.ntmps33
    go_wp2_with fail
    generalize w.alloc (.cells #[.string s, .string r, .slice a l.length c, .int .i64 g] 48) = w0 at *
    refine (isPattern_is s _ P1 _ hs).mono ?_
    rintro e w1 ⟨rfl, hb1⟩
    replace hbx := hbx.later hb1
    replace hx := hx.later hb1
    replace hb := hb.trans (hb1.mono hb.size)
    clear hb1
    have c0 := hbx.c0
    have c1 := hbx.c1
    have c2 := hbx.c2
    have c3 := hbx.c3
    go_wp2_with fail
    go_ret
    exact ⟨ret_bool HR.out.symm, hb⟩
  · have P1 := Lib.hid p1
    clear p1
    cases p2 : pok r
    · have P2 := Lib.hid p2
      have HR : Hid (barB s r l g = false) := barB_no1 (by unfold barH; rw [p2]; simp)
      clear p2
      go_enter Try.func33, Try.ntmps33
      go_wp2_with fail
      generalize w.alloc (.cells #[.string s, .string r, .slice a l.length c, .int .i64 g] 48) = w0 at *
      refine (isPattern_is s _ P1 _ hs).mono ?_
      rintro e w1 ⟨rfl, hb1⟩
      replace hbx := hbx.later hb1
      replace hx := hx.later hb1
      replace hb := hb.trans (hb1.mono hb.size)
      clear hb1
      have c0 := hbx.c0
      have c1 := hbx.c1
      have c2 := hbx.c2
      have c3 := hbx.c3
      go_wp2_with fail
      refine (isPattern_is r _ P2 _ hr).mono ?_
      rintro e w2 ⟨rfl, hb1⟩
      replace hbx := hbx.later hb1
      replace hx := hx.later hb1
      replace hb := hb.trans (hb1.mono hb.size)
      clear hb1
      have c0 := hbx.c0
      have c1 := hbx.c1
      have c2 := hbx.c2
      have c3 := hbx.c3
      go_wp2_with fail
      go_ret
      exact ⟨ret_bool HR.out.symm, hb⟩
    · have P2 := Lib.hid p2
      clear p2
      by_cases h34 : (inB l.length 1 36 && inB g 0 4) = true
      · have h5 := h34
        rw [Bool.and_eq_true, show ∀ n a b : Int, (inB n a b = true) = (a ≤ n ∧ n ≤ b) from fun n a b => by simp [inB], show ∀ n a b : Int, (inB n a b = true) = (a ≤ n ∧ n ≤ b) from fun n a b => by simp [inB]] at h5
        obtain ⟨⟨n1, n2⟩, n3, n4⟩ := h5
        have HH : Hid (barH s r l g = true) := by unfold Hid barH; rw [P1.out, P2.out, h34]; rfl
        have q1 : inB l.length 1 36 = true := (Bool.and_eq_true _ _ ▸ h34 : _ ∧ _).1
        have q2 : inB g 0 4 = true := (Bool.and_eq_true _ _ ▸ h34 : _ ∧ _).2
        clear h34
        go_enter Try.func33, Try.ntmps33
        go_wp2_with fail
        generalize w.alloc (.cells #[.string s, .string r, .slice a l.length c, .int .i64 g] 48) = w0 at *
        refine (isPattern_is s _ P1 _ hs).mono ?_
        rintro e w1 ⟨rfl, hb1⟩
        replace hbx := hbx.later hb1
        replace hx := hx.later hb1
        replace hb := hb.trans (hb1.mono hb.size)
        clear hb1
        have c0 := hbx.c0
        have c1 := hbx.c1
        have c2 := hbx.c2
        have c3 := hbx.c3
        go_wp2_with fail
        refine (isPattern_is r _ P2 _ hr).mono ?_
        rintro e w2 ⟨rfl, hb1⟩
        replace hbx := hbx.later hb1
        replace hx := hx.later hb1
        replace hb := hb.trans (hb1.mono hb.size)
        clear hb1
        have c0 := hbx.c0
        have c1 := hbx.c1
        have c2 := hbx.c2
        have c3 := hbx.c3
        go_wp2_with (go_at_call 39; refine (in_any _ _ _ _).mono ?_; rintro e w' ⟨rfl, rfl⟩)
        clear q1 q2 c0 c1 c2 c3
        go_loopw [33] (fun iv wr => ∃ k : Nat, k ≤ l.length ∧ iv = .int .i64 k ∧ Hid (∀ i, i < k → patAt l i = true) ∧ Below w2.heap.size w2 wr) (fun iv _ => l.length - (intOf iv).toNat)
        case atStart => exact ⟨0, Nat.zero_le _, rfl, fun i hi => by omega, Below.refl _ _⟩
        case round =>
          obtain ⟨k, hk, rfl, HK, hb2⟩ := hrel
          have hbw := hb2
          replace hbx := hbx.later hb2
          replace hx := hx.later hb2
          replace hb := hb.trans (hb2.mono hb.size)
          clear hb2
          have c2 := hbx.c2
          by_cases hlt : k < l.length
          · obtain ⟨ga, off, rfl, hg, hc⟩ := hx.at k hlt
            obtain ⟨ga0, off0, e0, hg0, hc00⟩ := hx.at 0 (by omega)
            simp only [Option.some.injEq, Addr.mk.injEq, and_true] at e0
            obtain ⟨rfl, rfl⟩ := e0
            have hzk := HZ.out k hlt
            have hz0 := HZ.out 0 (by omega)
            have hck : (k : Int) ≤ c := by omega
            have HA : Hid (patAt l k = ((pok (sAt l k) && decide ((sAt l k).size = (sAt l 0).size)) && (decide (isum (pw (sAt l k)) = isum (pw (sAt l 0))) && !hasS (l.take k) (sAt l k)))) := rfl
            have HNO : Hid (patAt l k = false → barB s r l g = false) := barB_no2 k hlt
            have HYES : Hid (patAt l k = true → ∀ i, i < k + 1 → patAt l i = true) := fun h i hi => by
              by_cases e : i = k
              · subst e; exact h
              · exact HK.out i (by omega)
            have HP0 : Hid (pok (sAt l k) = true → pok (sAt l 0) = true) := fun h => by
              by_cases e : k = 0
              · subst e; exact h
              · exact patAt_pok (HK.out 0 (by omega))
            have htk : Hid (∀ wx, Below wr.heap.size wr wx → RS wx (.slice (some ⟨ga, off, none⟩) k c) (l.take k)) := fun wx h => (hx.later h).take k hk (by unfold maxLen; omega)
            have hl2 : (l.take k).length ≤ 1099511627776 := by rw [List.length_take]; omega
            have hc0 := hc00
            rw [Nat.add_zero] at hc0
            clear hc00
            generalize sAt l k = p at *
            generalize sAt l 0 = q at *
            cases h1 : pok p
            · have H1 := Lib.hid h1
              have HR : Hid (barB s r l g = false) := HNO.out (by rw [HA.out, h1]; rfl)
              clear h1
              go_wp2_with fail
              refine (isPattern_is p _ H1 _ hzk).mono ?_
              rintro e w3 ⟨rfl, hb1⟩
              replace hbx := hbx.later hb1
              replace hx := hx.later hb1
              replace hb := hb.trans (hb1.mono hb.size)
              clear hb1
              have c0 := hbx.c0
              have c1 := hbx.c1
              have c2 := hbx.c2
              have c3 := hbx.c3
              go_wp2_with fail
              go_ret
              exact ⟨ret_bool HR.out.symm, hb⟩
            · have H1 := Lib.hid h1
              have H0 := Lib.hid (HP0.out h1)
              clear h1 HP0
              by_cases h2 : p.size = q.size
              · have b2 : ((p.size : Int) != q.size) = false := by rw [h2]; simp
                have H2 := Lib.hid h2
                clear h2
                by_cases h3 : isum (pw p) = isum (pw q)
                · have b3 : (isum (pw p) != isum (pw q)) = false := by rw [h3]; simp
                  have H3 := Lib.hid h3
                  have HS1 : Hid (∀ wx vx, RI wx vx (pw p) → Calls Try.prog 57 #[vx] wx fun e w' => e = .returned (.int .i64 (isum (pw p))) ∧ wx = w') := fun wx vx h => sum_any _ _ _ h (pw_100 H1.out) (pw_len1 H1.out)
                  have HS2 : Hid (∀ wx vx, RI wx vx (pw q) → Calls Try.prog 57 #[vx] wx fun e w' => e = .returned (.int .i64 (isum (pw q))) ∧ wx = w') := fun wx vx h => sum_any _ _ _ h (pw_100 H0.out) (pw_len1 H0.out)
                  clear h3
                  generalize isum (pw p) = z1 at *
                  generalize isum (pw q) = z2 at *
                  cases h4 : hasS (l.take k) p
                  · have HR := Lib.hid (HYES.out (by rw [HA.out, H1.out, h4, decide_eq_true H2.out, decide_eq_true H3.out]; rfl))
                    have HCT : Hid (∀ wx vx, RS wx vx (l.take k) → Calls Try.prog 59 #[vx, .string p] wx fun e w' => e = .returned (.bool false) ∧ wx = w') := fun wx vx h => by
                      have := containsStr_any vx (l.take k) p wx h hl2
                      rw [h4] at this; exact this
                    clear h4
                    go_wp2_with fail
                    refine (isPattern_is p _ H1 _ hzk).mono ?_
                    rintro e w3 ⟨rfl, hb1⟩
                    have hb3 := hb1
                    have hcz := (hb1.cell (p := ⟨ga, off, none⟩) hg).trans hc0
                    replace hbx := hbx.later hb1
                    replace hx := hx.later hb1
                    replace hb := hb.trans (hb1.mono hb.size)
                    clear hb1
                    have c0 := hbx.c0
                    have c1 := hbx.c1
                    have c2 := hbx.c2
                    have c3 := hbx.c3
                    go_wp2_with fail
                    refine (elementsOf_any p _ hzk H1).mono ?_
                    rintro e w4 ⟨v4, rfl, o4, hb1⟩
                    have hb3 := hb3.trans (hb1.mono hb3.size)
                    replace hbx := hbx.later hb1
                    replace hx := hx.later hb1
                    replace hb := hb.trans (hb1.mono hb.size)
                    clear hb1
                    have c0 := hbx.c0
                    have c1 := hbx.c1
                    have c2 := hbx.c2
                    have c3 := hbx.c3
                    go_wp2_with fail
                    refine (HS1.out _ _ o4.read).mono ?_
                    rintro e w' ⟨rfl, rfl⟩
                    go_wp2_with fail
                    refine (elementsOf_any q _ hz0 H0).mono ?_
                    rintro e w5 ⟨v5, rfl, o5, hb1⟩
                    have hb3 := hb3.trans (hb1.mono hb3.size)
                    replace hbx := hbx.later hb1
                    replace hx := hx.later hb1
                    replace hb := hb.trans (hb1.mono hb.size)
                    clear hb1
                    have c0 := hbx.c0
                    have c1 := hbx.c1
                    have c2 := hbx.c2
                    have c3 := hbx.c3
                    go_wp2_with fail
                    refine (HS2.out _ _ o5.read).mono ?_
                    rintro e w' ⟨rfl, rfl⟩
                    go_wp2_with fail
                    refine (HCT.out _ _ (htk.out _ hb3)).mono ?_
                    rintro e w' ⟨rfl, rfl⟩
                    go_wp2_with fail
                    go_roundw
                    case rel => exact ⟨k + 1, by omega, by go_num, HR, hbw.trans (hb3.mono hbw.size)⟩
                    case measure => first | (simp [intOf]; done) | (simp [intOf]; omega)
                  · have HR : Hid (barB s r l g = false) := HNO.out (by rw [HA.out, h4]; simp)
                    have HCT : Hid (∀ wx vx, RS wx vx (l.take k) → Calls Try.prog 59 #[vx, .string p] wx fun e w' => e = .returned (.bool true) ∧ wx = w') := fun wx vx h => by
                      have := containsStr_any vx (l.take k) p wx h hl2
                      rw [h4] at this; exact this
                    clear h4
                    go_wp2_with fail
                    refine (isPattern_is p _ H1 _ hzk).mono ?_
                    rintro e w3 ⟨rfl, hb1⟩
                    have hb3 := hb1
                    have hcz := (hb1.cell (p := ⟨ga, off, none⟩) hg).trans hc0
                    replace hbx := hbx.later hb1
                    replace hx := hx.later hb1
                    replace hb := hb.trans (hb1.mono hb.size)
                    clear hb1
                    have c0 := hbx.c0
                    have c1 := hbx.c1
                    have c2 := hbx.c2
                    have c3 := hbx.c3
                    go_wp2_with fail
                    refine (elementsOf_any p _ hzk H1).mono ?_
                    rintro e w4 ⟨v4, rfl, o4, hb1⟩
                    have hb3 := hb3.trans (hb1.mono hb3.size)
                    replace hbx := hbx.later hb1
                    replace hx := hx.later hb1
                    replace hb := hb.trans (hb1.mono hb.size)
                    clear hb1
                    have c0 := hbx.c0
                    have c1 := hbx.c1
                    have c2 := hbx.c2
                    have c3 := hbx.c3
                    go_wp2_with fail
                    refine (HS1.out _ _ o4.read).mono ?_
                    rintro e w' ⟨rfl, rfl⟩
                    go_wp2_with fail
                    refine (elementsOf_any q _ hz0 H0).mono ?_
                    rintro e w5 ⟨v5, rfl, o5, hb1⟩
                    have hb3 := hb3.trans (hb1.mono hb3.size)
                    replace hbx := hbx.later hb1
                    replace hx := hx.later hb1
                    replace hb := hb.trans (hb1.mono hb.size)
                    clear hb1
                    have c0 := hbx.c0
                    have c1 := hbx.c1
                    have c2 := hbx.c2
                    have c3 := hbx.c3
                    go_wp2_with fail
                    refine (HS2.out _ _ o5.read).mono ?_
                    rintro e w' ⟨rfl, rfl⟩
                    go_wp2_with fail
                    refine (HCT.out _ _ (htk.out _ hb3)).mono ?_
                    rintro e w' ⟨rfl, rfl⟩
                    go_wp2_with fail
                    go_ret
                    exact ⟨ret_bool HR.out.symm, hb⟩
                · have b3 : (isum (pw p) != isum (pw q)) = true := by rw [bne_iff_ne]; exact h3
                  have HR : Hid (barB s r l g = false) := HNO.out (by rw [HA.out, decide_eq_false h3]; simp)
                  have HS1 : Hid (∀ wx vx, RI wx vx (pw p) → Calls Try.prog 57 #[vx] wx fun e w' => e = .returned (.int .i64 (isum (pw p))) ∧ wx = w') := fun wx vx h => sum_any _ _ _ h (pw_100 H1.out) (pw_len1 H1.out)
                  have HS2 : Hid (∀ wx vx, RI wx vx (pw q) → Calls Try.prog 57 #[vx] wx fun e w' => e = .returned (.int .i64 (isum (pw q))) ∧ wx = w') := fun wx vx h => sum_any _ _ _ h (pw_100 H0.out) (pw_len1 H0.out)
                  clear h3
                  generalize isum (pw p) = z1 at *
                  generalize isum (pw q) = z2 at *
                  go_wp2_with fail
                  refine (isPattern_is p _ H1 _ hzk).mono ?_
                  rintro e w3 ⟨rfl, hb1⟩
                  have hb3 := hb1
                  have hcz := (hb1.cell (p := ⟨ga, off, none⟩) hg).trans hc0
                  replace hbx := hbx.later hb1
                  replace hx := hx.later hb1
                  replace hb := hb.trans (hb1.mono hb.size)
                  clear hb1
                  have c0 := hbx.c0
                  have c1 := hbx.c1
                  have c2 := hbx.c2
                  have c3 := hbx.c3
                  go_wp2_with fail
                  refine (elementsOf_any p _ hzk H1).mono ?_
                  rintro e w4 ⟨v4, rfl, o4, hb1⟩
                  have hb3 := hb3.trans (hb1.mono hb3.size)
                  replace hbx := hbx.later hb1
                  replace hx := hx.later hb1
                  replace hb := hb.trans (hb1.mono hb.size)
                  clear hb1
                  have c0 := hbx.c0
                  have c1 := hbx.c1
                  have c2 := hbx.c2
                  have c3 := hbx.c3
                  go_wp2_with fail
                  refine (HS1.out _ _ o4.read).mono ?_
                  rintro e w' ⟨rfl, rfl⟩
                  go_wp2_with fail
                  refine (elementsOf_any q _ hz0 H0).mono ?_
                  rintro e w5 ⟨v5, rfl, o5, hb1⟩
                  have hb3 := hb3.trans (hb1.mono hb3.size)
                  replace hbx := hbx.later hb1
                  replace hx := hx.later hb1
                  replace hb := hb.trans (hb1.mono hb.size)
                  clear hb1
                  have c0 := hbx.c0
                  have c1 := hbx.c1
                  have c2 := hbx.c2
                  have c3 := hbx.c3
                  go_wp2_with fail
                  refine (HS2.out _ _ o5.read).mono ?_
                  rintro e w' ⟨rfl, rfl⟩
                  go_wp2_with fail
                  go_ret
                  exact ⟨ret_bool HR.out.symm, hb⟩
              · have b2 : ((p.size : Int) != q.size) = true := by rw [bne_iff_ne]; omega
                have HR : Hid (barB s r l g = false) := HNO.out (by rw [HA.out, decide_eq_false h2]; simp)
                clear h2
                go_wp2_with fail
                refine (isPattern_is p _ H1 _ hzk).mono ?_
                rintro e w3 ⟨rfl, hb1⟩
                replace hbx := hbx.later hb1
                replace hx := hx.later hb1
                replace hb := hb.trans (hb1.mono hb.size)
                clear hb1
                have c0 := hbx.c0
                have c1 := hbx.c1
                have c2 := hbx.c2
                have c3 := hbx.c3
                go_wp2_with fail
                go_ret
                exact ⟨ret_bool HR.out.symm, hb⟩
          · have HR : Hid (barB s r l g = barP s r (sAt l 0) g) := barB_all HH.out fun i hi => HK.out i (by omega)
            obtain ⟨ga0, off0, rfl, hg0, hc0⟩ := hx.at 0 (by omega)
            rw [Nat.add_zero] at hc0
            have c0 := hbx.c0
            have c1 := hbx.c1
            have c3 := hbx.c3
            generalize sAt l 0 = q at *
            by_cases e1 : (r.size : Int) % 2 = 1
            · have b1 : ((r.size : Int) % 2 == 1) = true := by rw [beq_iff_eq]; exact e1
              by_cases e2 : (q.size : Int) % 2 = (s.size : Int) % 2
              · have b2 : ((q.size : Int) % 2 == (s.size : Int) % 2) = true := by rw [beq_iff_eq]; exact e2
                have HV : Hid (barP s r q g = (((s.size : Int) % 2 == 1) == decide (0 < g))) := by
                  unfold Hid barP
                  rw [decide_eq_true (show r.size % 2 = 1 by omega), decide_eq_true (show q.size % 2 = s.size % 2 by omega)]
                  rw [show ((s.size : Int) % 2 == 1) = decide (s.size % 2 = 1) from by rw [Bool.eq_iff_iff]; simp; omega]; rfl
                clear e1 e2
                go_wp2_with fail
                all_goals (go_ret; refine ⟨ret_bool ?_, hb⟩; rw [HR.out, HV.out])
              · have b2 : ((q.size : Int) % 2 == (s.size : Int) % 2) = false := by rw [beq_eq_false_iff_ne]; exact e2
                have HV : Hid (barP s r q g = false) := by
                  unfold Hid barP
                  rw [decide_eq_false (show ¬ q.size % 2 = s.size % 2 by omega)]; simp
                clear e1 e2
                go_wp2_with fail
                all_goals (go_ret; refine ⟨ret_bool ?_, hb⟩; rw [HR.out, HV.out])
            · have b1 : ((r.size : Int) % 2 == 1) = false := by rw [beq_eq_false_iff_ne]; exact e1
              have HV : Hid (barP s r q g = false) := by
                unfold Hid barP
                rw [decide_eq_false (show ¬ r.size % 2 = 1 by omega)]; rfl
              clear e1
              go_wp2_with fail
              all_goals (go_ret; refine ⟨ret_bool ?_, hb⟩; rw [HR.out, HV.out])
      · have HR : Hid (barB s r l g = false) := barB_no1 (by unfold barH; rw [Bool.not_eq_true] at h34; rw [h34]; simp)
        cases q1 : inB l.length 1 36
        · clear h34
          go_enter Try.func33, Try.ntmps33
          go_wp2_with fail
          generalize w.alloc (.cells #[.string s, .string r, .slice a l.length c, .int .i64 g] 48) = w0 at *
          refine (isPattern_is s _ P1 _ hs).mono ?_
          rintro e w1 ⟨rfl, hb1⟩
          replace hbx := hbx.later hb1
          replace hx := hx.later hb1
          replace hb := hb.trans (hb1.mono hb.size)
          clear hb1
          have c0 := hbx.c0
          have c1 := hbx.c1
          have c2 := hbx.c2
          have c3 := hbx.c3
          go_wp2_with fail
          refine (isPattern_is r _ P2 _ hr).mono ?_
          rintro e w2 ⟨rfl, hb1⟩
          replace hbx := hbx.later hb1
          replace hx := hx.later hb1
          replace hb := hb.trans (hb1.mono hb.size)
          clear hb1
          have c0 := hbx.c0
          have c1 := hbx.c1
          have c2 := hbx.c2
          have c3 := hbx.c3
          go_wp2_with (go_at_call 39; refine (in_any _ _ _ _).mono ?_; rintro e w' ⟨rfl, rfl⟩)
          go_ret
          exact ⟨ret_bool HR.out.symm, hb⟩
        · have q2 : inB g 0 4 = false := by rw [q1] at h34; simpa using h34
          clear h34
          go_enter Try.func33, Try.ntmps33
          go_wp2_with fail
          generalize w.alloc (.cells #[.string s, .string r, .slice a l.length c, .int .i64 g] 48) = w0 at *
          refine (isPattern_is s _ P1 _ hs).mono ?_
          rintro e w1 ⟨rfl, hb1⟩
          replace hbx := hbx.later hb1
          replace hx := hx.later hb1
          replace hb := hb.trans (hb1.mono hb.size)
          clear hb1
          have c0 := hbx.c0
          have c1 := hbx.c1
          have c2 := hbx.c2
          have c3 := hbx.c3
          go_wp2_with fail
          refine (isPattern_is r _ P2 _ hr).mono ?_
          rintro e w2 ⟨rfl, hb1⟩
          replace hbx := hbx.later hb1
          replace hx := hx.later hb1
          replace hb := hb.trans (hb1.mono hb.size)
          clear hb1
          have c0 := hbx.c0
          have c1 := hbx.c1
          have c2 := hbx.c2
          have c3 := hbx.c3
          go_wp2_with (go_at_call 39; refine (in_any _ _ _ _).mono ?_; rintro e w' ⟨rfl, rfl⟩)
          go_ret
          exact ⟨ret_bool HR.out.symm, hb⟩
end Go.Proofs.Ytjjohniabgamjaa
