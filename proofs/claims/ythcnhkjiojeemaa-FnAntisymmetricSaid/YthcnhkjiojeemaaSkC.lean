/- seeker.clashes: the walk. -/
import Derived.Test.YthcnhkjiojeemaaSkM
import Derived.Deep.QuietTactic
import Derived.BigQuiet
namespace Go.Proofs.Ythcnhkjiojeemaa
open Go.RowKit

/-- The seeker's box: its order and its table. -/
structure SkAt (p n G C : Nat) (w : World) : Prop where
  c0 : w.cell? ⟨p, 0, none⟩ = some (.int .i64 n)
  c1 : w.cell? ⟨p, 1, none⟩ = some (.slice (some ⟨G, 0, none⟩) n C)
theorem SkAt.later {p n G C : Nat} {w w' : World} (h : SkAt p n G C w) (hb : Below w.heap.size w w') : SkAt p n G C w' :=
  ⟨(hb.cell (p := ⟨p, 0, none⟩) (World.block_lt_of_cell? w _ h.c0)).trans h.c0, (hb.cell (p := ⟨p, 1, none⟩) (World.block_lt_of_cell? w _ h.c1)).trans h.c1⟩
theorem SkAt.chgR {p n G C B S : Nat} {w w' : World} (h : SkAt p n G C w) (hc : ChgR B S w w') (hp : p < B ∨ S ≤ p) : SkAt p n G C w' :=
  ⟨(hc.cell p 0 (World.block_lt_of_cell? w _ h.c0) hp).trans h.c0, (hc.cell p 1 (World.block_lt_of_cell? w _ h.c1) hp).trans h.c1⟩
def ClhPost (n : Nat) (t : Nat → Nat → Int) (w : World) (e : Ending) (w' : World) : Prop := ∃ b, e = .returned (.bool b) ∧ Hid (b = true ↔ Clash n t) ∧ Drw w w'
theorem ClhPost.yes {n : Nat} {t : Nat → Nat → Int} {w w' : World} (h : Clash n t) (hd : Drw w w') : ClhPost n t w (.returned (.bool true)) w' := ⟨true, rfl, Lib.hid ⟨fun _ => h, fun _ => rfl⟩, hd⟩
theorem ClhPost.no {n : Nat} {t : Nat → Nat → Int} {w w' : World} (h : ¬ Clash n t) (hd : Drw w w') : ClhPost n t w (.returned (.bool false)) w' := ⟨false, rfl, Lib.hid ⟨fun h => by (cases h), fun h2 => absurd h2 h⟩, hd⟩
/-- No clash at (x, y). -/
def NoC (n : Nat) (t : Nat → Nat → Int) (x y : Nat) : Prop := ¬ ClS t x y ∧ ∀ c, c < n → ¬ ClA n t x y c
set_option maxRecDepth 100000 in
set_option maxHeartbeats 4000000 in
theorem clashes_any (n p : Nat) (hn : 1 ≤ n ∧ n ≤ 5) (B S G : Nat) (H P : Nat → Nat) (C : Nat) (t : Nat → Nat → Int) (w : World) (ht : TbAt B S G H P C n t w) (hsk : SkAt p n G C w) (hbd : ∀ i j, i < n → j < n → -1 ≤ t i j ∧ t i j < n) :
    Calls Try.prog 62 #[.pointer (some ⟨p, 0, none⟩)] w (ClhPost n t w) := by
  have HT : Hid (∀ wx, Drw w wx → TbAt B S G H P C n t wx ∧ SkAt p n G C wx) := fun wx h => ⟨ht.later h.below, hsk.later h.below⟩
  have HBD := Lib.hid hbd
  have c0 := hsk.c0
  have c1 := hsk.c1
  obtain ⟨hn1, hn5⟩ := hn
  clear ht hsk hbd
  go_enter Try.func62, Try.ntmps62
  go_wp2_with fail
  clear c0 c1
  go_loopw [17] (fun iv wr => ∃ x : Nat, x ≤ n ∧ iv = .int .i64 x ∧ Hid (∀ x', x' < x → ∀ y', y' < x' → NoC n t x' y') ∧ Drw w wr) (fun iv _ => n - (intOf iv).toNat)
  case atStart => exact ⟨0, Nat.zero_le _, rfl, Lib.hid (fun x' h => by omega), Drw.refl _⟩
  case round =>
    obtain ⟨x, hx, rfl, HX, hd⟩ := hrel
    by_cases hxn : x < n
    · have hxi : (x : Int) < (n : Int) := by omega
      go_wp2_with fail
      go_loopw [21] (fun iv wr => ∃ y : Nat, y ≤ x ∧ iv = .int .i64 y ∧ Hid (∀ y', y' < y → NoC n t x y') ∧ Drw w wr) (fun iv _ => x - (intOf iv).toNat)
      case atStart => exact ⟨0, Nat.zero_le _, rfl, Lib.hid (fun x' h => by omega), hd⟩
      case round =>
        clear hd
        obtain ⟨y, hy, rfl, HY, hd⟩ := hrel
        by_cases hyx : y < x
        · have hyi : (y : Int) < (x : Int) := by omega
          have hyn : (y : Int) < (n : Int) := by omega
          obtain ⟨ht, hsk⟩ := HT.out _ hd
          have r1 := ht.row x hxn
          have r2 := ht.cell x y hxn (by omega)
          have r3 := ht.row y (by omega)
          have r4 := ht.cell y x (by omega) hxn
          have HS : Hid (ClS t x y ↔ 0 ≤ t x y ∧ t x y = t y x) := Iff.rfl
          clear ht hsk
          generalize t x y = a at *
          generalize t y x = b at *
          by_cases hcs : 0 ≤ a ∧ a = b
          · obtain ⟨ha0, rfl⟩ := hcs
            have HR : Hid (Clash n t) := ⟨x, y, hxn, hyx, .inl (HS.out.2 ⟨ha0, rfl⟩)⟩
            have hd1 : decide (0 ≤ a) = true := by simpa using ha0
            go_wp2_with fail
            go_quiet (fail)
            go_wp2_with fail
            go_ret
            exact ClhPost.yes HR.out (hd.more _)
          · have HNS : Hid (¬ ClS t x y) := fun h => hcs (HS.out.1 h)
            have key : Hid True := trivial
            by_cases ha0 : 0 ≤ a
            · have hab : (a == b) = false := by simp; exact fun e => hcs ⟨ha0, e⟩
              have hd1 : decide (0 ≤ a) = true := by simpa using ha0
              clear hcs
              go_wp2_with fail
              go_quiet (fail)
              generalize hwq : wr.drewN nq = wq at *
              replace hd : Drw w wq := by rw [← hwq]; exact hd.more _
              clear hwq r1 r2 r3 r4
              have c0 := (HT.out _ hd).2.c0
              go_wp2_with fail
              clear c0
              go_loopw [53] (fun iv wr => ∃ c : Nat, c ≤ n ∧ iv = .int .i64 c ∧ Hid (∀ c', c' < c → ¬ ClA n t x y c') ∧ Drw w wr) (fun iv _ => n - (intOf iv).toNat)
              case atStart => exact ⟨0, Nat.zero_le _, rfl, Lib.hid (fun c' h => by omega), hd⟩
              case round =>
                clear hd
                obtain ⟨c, hc, rfl, HA, hd⟩ := hrel
                by_cases hcn : c < n
                · have hci : (c : Int) < (n : Int) := by omega
                  obtain ⟨ht, _⟩ := HT.out _ hd
                  have r1 := ht.row c hcn
                  have r2 := ht.cell c x hcn hxn
                  have r3 := ht.cell c y hcn (by omega)
                  have HS2 : Hid (ClA n t x y c ↔ 0 ≤ t c x ∧ 0 ≤ t c y ∧ 0 ≤ t (t c x).toNat y ∧ t (t c x).toNat y = t (t c y).toNat x) := Iff.rfl
                  have b1 := HBD.out c x hcn hxn
                  have b2 := HBD.out c y hcn (by omega)
                  clear ht
                  generalize t c x = p1 at *
                  generalize t c y = q1 at *
                  go_wp2_with fail
                  go_quiet (fail)
                  generalize hwq : wr.drewN nq = wq at *
                  replace hd : Drw w wq := by rw [← hwq]; exact hd.more _
                  clear hwq r1 r2 r3
                  by_cases hp0 : 0 ≤ p1
                  · have e1 : decide (0 ≤ p1) = true := by simpa using hp0
                    by_cases hq0 : 0 ≤ q1
                    · have e2 : decide (0 ≤ q1) = true := by simpa using hq0
                      obtain ⟨pp, rfl⟩ := Int.eq_ofNat_of_zero_le hp0
                      obtain ⟨qq, rfl⟩ := Int.eq_ofNat_of_zero_le hq0
                      obtain ⟨ht, _⟩ := HT.out _ hd
                      have hpn : pp < n := by omega
                      have hqn : qq < n := by omega
                      have r1 := ht.row pp hpn
                      have r2 := ht.cell pp y hpn (by omega)
                      have r3 := ht.row qq hqn
                      have r4 := ht.cell qq x hqn hxn
                      rw [Int.toNat_natCast, Int.toNat_natCast] at HS2
                      have hpi : (pp : Int) < (n : Int) := by omega
                      have hqi : (qq : Int) < (n : Int) := by omega
                      clear ht b1 b2
                      generalize t pp y = d1 at *
                      generalize t qq x = d2 at *
                      by_cases hd0 : 0 ≤ d1
                      · have e3 : decide (0 ≤ d1) = true := by simpa using hd0
                        by_cases hde : d1 = d2
                        · have HR : Hid (Clash n t) := ⟨x, y, hxn, hyx, .inr ⟨c, hcn, HS2.out.2 ⟨hp0, hq0, hd0, hde⟩⟩⟩
                          have e4 : (d1 == d2) = true := by simp [hde]
                          clear hde
                          go_wp2_with fail
                          go_quiet (fail)
                          go_wp2_with fail
                          go_ret
                          exact ClhPost.yes HR.out (hd.more _)
                        · have HNo : Hid (¬ ClA n t x y c) := fun h => hde (HS2.out.1 h).2.2.2
                          have e4 : (d1 == d2) = false := by simp [hde]
                          clear hde HS2
                          have HNA : Hid (∀ c', c' < c + 1 → ¬ ClA n t x y c') := fun c' hc' => by
                            by_cases e : c' = c
                            · subst e; exact HNo.out
                            · exact HA.out c' (by omega)
                          go_wp2_with fail
                          go_quiet (fail)
                          go_wp2_with fail
                          go_roundw
                          case rel => exact ⟨c + 1, by omega, by go_num, HNA, by first | exact hd.more _ | exact hd⟩
                          case measure => first | (simp [intOf]; done) | (simp [intOf]; omega)
                      · have e3 : decide (0 ≤ d1) = false := by simpa using hd0
                        have HNo : Hid (¬ ClA n t x y c) := fun h => hd0 (HS2.out.1 h).2.2.1
                        clear HS2
                        have HNA : Hid (∀ c', c' < c + 1 → ¬ ClA n t x y c') := fun c' hc' => by
                          by_cases e : c' = c
                          · subst e; exact HNo.out
                          · exact HA.out c' (by omega)
                        go_wp2_with fail
                        go_quiet (fail)
                        go_wp2_with fail
                        go_roundw
                        case rel => exact ⟨c + 1, by omega, by go_num, HNA, by first | exact hd.more _ | exact hd⟩
                        case measure => first | (simp [intOf]; done) | (simp [intOf]; omega)
                    · have e2 : decide (0 ≤ q1) = false := by simpa using hq0
                      have HNo : Hid (¬ ClA n t x y c) := fun h => hq0 (HS2.out.1 h).2.1
                      clear HS2
                      have HNA : Hid (∀ c', c' < c + 1 → ¬ ClA n t x y c') := fun c' hc' => by
                        by_cases e : c' = c
                        · subst e; exact HNo.out
                        · exact HA.out c' (by omega)
                      go_wp2_with fail
                      go_quiet (fail)
                      go_wp2_with fail
                      go_roundw
                      case rel => exact ⟨c + 1, by omega, by go_num, HNA, by first | exact hd.more _ | exact hd⟩
                      case measure => first | (simp [intOf]; done) | (simp [intOf]; omega)
                  · have e1 : decide (0 ≤ p1) = false := by simpa using hp0
                    have HNo : Hid (¬ ClA n t x y c) := fun h => hp0 (HS2.out.1 h).1
                    clear HS2
                    have HNA : Hid (∀ c', c' < c + 1 → ¬ ClA n t x y c') := fun c' hc' => by
                      by_cases e : c' = c
                      · subst e; exact HNo.out
                      · exact HA.out c' (by omega)
                    go_wp2_with fail
                    go_quiet (fail)
                    go_wp2_with fail
                    go_roundw
                    case rel => exact ⟨c + 1, by omega, by go_num, HNA, by first | exact hd.more _ | exact hd⟩
                    case measure => first | (simp [intOf]; done) | (simp [intOf]; omega)
                · obtain rfl : c = n := by omega
                  go_wp2_with fail
                  go_roundw
                  case rel => exact ⟨y + 1, by omega, by go_num, Lib.hid (fun y' h => by
                    by_cases e : y' = y
                    · subst e; exact ⟨HNS.out, HA.out⟩
                    · exact HY.out y' (by omega)), hd⟩
                  case measure => first | (simp [intOf]; done) | (simp [intOf]; omega)
            · have hd1 : decide (0 ≤ a) = false := by simpa using ha0
              clear hcs
              go_wp2_with fail
              go_quiet (fail)
              generalize hwq : wr.drewN nq = wq at *
              replace hd : Drw w wq := by rw [← hwq]; exact hd.more _
              clear hwq r1 r2 r3 r4
              have c0 := (HT.out _ hd).2.c0
              go_wp2_with fail
              clear c0
              go_loopw [53] (fun iv wr => ∃ c : Nat, c ≤ n ∧ iv = .int .i64 c ∧ Hid (∀ c', c' < c → ¬ ClA n t x y c') ∧ Drw w wr) (fun iv _ => n - (intOf iv).toNat)
              case atStart => exact ⟨0, Nat.zero_le _, rfl, Lib.hid (fun c' h => by omega), hd⟩
              case round =>
                clear hd
                obtain ⟨c, hc, rfl, HA, hd⟩ := hrel
                by_cases hcn : c < n
                · have hci : (c : Int) < (n : Int) := by omega
                  obtain ⟨ht, _⟩ := HT.out _ hd
                  have r1 := ht.row c hcn
                  have r2 := ht.cell c x hcn hxn
                  have r3 := ht.cell c y hcn (by omega)
                  have HS2 : Hid (ClA n t x y c ↔ 0 ≤ t c x ∧ 0 ≤ t c y ∧ 0 ≤ t (t c x).toNat y ∧ t (t c x).toNat y = t (t c y).toNat x) := Iff.rfl
                  have b1 := HBD.out c x hcn hxn
                  have b2 := HBD.out c y hcn (by omega)
                  clear ht
                  generalize t c x = p1 at *
                  generalize t c y = q1 at *
                  go_wp2_with fail
                  go_quiet (fail)
                  generalize hwq : wr.drewN nq = wq at *
                  replace hd : Drw w wq := by rw [← hwq]; exact hd.more _
                  clear hwq r1 r2 r3
                  by_cases hp0 : 0 ≤ p1
                  · have e1 : decide (0 ≤ p1) = true := by simpa using hp0
                    by_cases hq0 : 0 ≤ q1
                    · have e2 : decide (0 ≤ q1) = true := by simpa using hq0
                      obtain ⟨pp, rfl⟩ := Int.eq_ofNat_of_zero_le hp0
                      obtain ⟨qq, rfl⟩ := Int.eq_ofNat_of_zero_le hq0
                      obtain ⟨ht, _⟩ := HT.out _ hd
                      have hpn : pp < n := by omega
                      have hqn : qq < n := by omega
                      have r1 := ht.row pp hpn
                      have r2 := ht.cell pp y hpn (by omega)
                      have r3 := ht.row qq hqn
                      have r4 := ht.cell qq x hqn hxn
                      rw [Int.toNat_natCast, Int.toNat_natCast] at HS2
                      have hpi : (pp : Int) < (n : Int) := by omega
                      have hqi : (qq : Int) < (n : Int) := by omega
                      clear ht b1 b2
                      generalize t pp y = d1 at *
                      generalize t qq x = d2 at *
                      by_cases hd0 : 0 ≤ d1
                      · have e3 : decide (0 ≤ d1) = true := by simpa using hd0
                        by_cases hde : d1 = d2
                        · have HR : Hid (Clash n t) := ⟨x, y, hxn, hyx, .inr ⟨c, hcn, HS2.out.2 ⟨hp0, hq0, hd0, hde⟩⟩⟩
                          have e4 : (d1 == d2) = true := by simp [hde]
                          clear hde
                          go_wp2_with fail
                          go_quiet (fail)
                          go_wp2_with fail
                          go_ret
                          exact ClhPost.yes HR.out (hd.more _)
                        · have HNo : Hid (¬ ClA n t x y c) := fun h => hde (HS2.out.1 h).2.2.2
                          have e4 : (d1 == d2) = false := by simp [hde]
                          clear hde HS2
                          have HNA : Hid (∀ c', c' < c + 1 → ¬ ClA n t x y c') := fun c' hc' => by
                            by_cases e : c' = c
                            · subst e; exact HNo.out
                            · exact HA.out c' (by omega)
                          go_wp2_with fail
                          go_quiet (fail)
                          go_wp2_with fail
                          go_roundw
                          case rel => exact ⟨c + 1, by omega, by go_num, HNA, by first | exact hd.more _ | exact hd⟩
                          case measure => first | (simp [intOf]; done) | (simp [intOf]; omega)
                      · have e3 : decide (0 ≤ d1) = false := by simpa using hd0
                        have HNo : Hid (¬ ClA n t x y c) := fun h => hd0 (HS2.out.1 h).2.2.1
                        clear HS2
                        have HNA : Hid (∀ c', c' < c + 1 → ¬ ClA n t x y c') := fun c' hc' => by
                          by_cases e : c' = c
                          · subst e; exact HNo.out
                          · exact HA.out c' (by omega)
                        go_wp2_with fail
                        go_quiet (fail)
                        go_wp2_with fail
                        go_roundw
                        case rel => exact ⟨c + 1, by omega, by go_num, HNA, by first | exact hd.more _ | exact hd⟩
                        case measure => first | (simp [intOf]; done) | (simp [intOf]; omega)
                    · have e2 : decide (0 ≤ q1) = false := by simpa using hq0
                      have HNo : Hid (¬ ClA n t x y c) := fun h => hq0 (HS2.out.1 h).2.1
                      clear HS2
                      have HNA : Hid (∀ c', c' < c + 1 → ¬ ClA n t x y c') := fun c' hc' => by
                        by_cases e : c' = c
                        · subst e; exact HNo.out
                        · exact HA.out c' (by omega)
                      go_wp2_with fail
                      go_quiet (fail)
                      go_wp2_with fail
                      go_roundw
                      case rel => exact ⟨c + 1, by omega, by go_num, HNA, by first | exact hd.more _ | exact hd⟩
                      case measure => first | (simp [intOf]; done) | (simp [intOf]; omega)
                  · have e1 : decide (0 ≤ p1) = false := by simpa using hp0
                    have HNo : Hid (¬ ClA n t x y c) := fun h => hp0 (HS2.out.1 h).1
                    clear HS2
                    have HNA : Hid (∀ c', c' < c + 1 → ¬ ClA n t x y c') := fun c' hc' => by
                      by_cases e : c' = c
                      · subst e; exact HNo.out
                      · exact HA.out c' (by omega)
                    go_wp2_with fail
                    go_quiet (fail)
                    go_wp2_with fail
                    go_roundw
                    case rel => exact ⟨c + 1, by omega, by go_num, HNA, by first | exact hd.more _ | exact hd⟩
                    case measure => first | (simp [intOf]; done) | (simp [intOf]; omega)
                · obtain rfl : c = n := by omega
                  go_wp2_with fail
                  go_roundw
                  case rel => exact ⟨y + 1, by omega, by go_num, Lib.hid (fun y' h => by
                    by_cases e : y' = y
                    · subst e; exact ⟨HNS.out, HA.out⟩
                    · exact HY.out y' (by omega)), hd⟩
                  case measure => first | (simp [intOf]; done) | (simp [intOf]; omega)
        · obtain rfl : y = x := by omega
          go_wp2_with fail
          go_roundw
          case rel => exact ⟨y + 1, by omega, by go_num, Lib.hid (fun x' h y' h2 => by
            by_cases e : x' = y
            · subst e; exact HY.out y' h2
            · exact HX.out x' (by omega) y' h2), hd⟩
          case measure => first | (simp [intOf]; done) | (simp [intOf]; omega)
    · obtain rfl : x = n := by omega
      have HR : Hid (¬ Clash x t) := by
        rintro ⟨x', y', h1, h2, h3 | ⟨c, hc, h3⟩⟩
        · exact (HX.out x' h1 y' h2).1 h3
        · exact (HX.out x' h1 y' h2).2 c hc h3
      go_wp2_with fail
      go_ret
      exact ClhPost.no HR.out hd
end Go.Proofs.Ythcnhkjiojeemaa
