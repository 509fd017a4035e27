/- The least script of two words: the program's. -/
import Derived.Test.YtgagjmnmfgfpfaaScr
namespace Go.Proofs.Ytgagjmnmfgfpfaa
open Go.RowKit

/-- Where the table of costs lies. -/
structure CTab (a b : ByteArray) (B : Nat) (Gf : Nat → Nat) (w : World) : Prop where
  row : ∀ i, i ≤ a.size → w.cell? ⟨B, i, none⟩ = some (.slice (some ⟨Gf i, 0, none⟩) (b.size + 1) (b.size + 1))
  cell : ∀ i k, i ≤ a.size → k ≤ b.size → w.cell? ⟨Gf i, k, none⟩ = some (.int .i64 (cI true a b i k))
theorem CTab.later {a b : ByteArray} {B : Nat} {Gf : Nat → Nat} {w w' : World} (h : CTab a b B Gf w) (hb : Below w.heap.size w w') : CTab a b B Gf w' := by
  refine ⟨fun i hi => ?_, fun i k hi hk => ?_⟩
  · have h1 := h.row i hi
    rw [hb.cell (p := ⟨B, i, none⟩) (World.block_lt_of_cell? w _ h1)]; exact h1
  · have h1 := h.cell i k hi hk
    rw [hb.cell (p := ⟨Gf i, k, none⟩) (World.block_lt_of_cell? w _ h1)]; exact h1
theorem ctab_of {a b : ByteArray} {B0 S : Nat} {w : World} {cs : List Value} {B : Nat} (ho : OV 78 B w (.slice (some ⟨B, 0, none⟩) (a.size + 1) (a.size + 1)) cs) (ht : Tab 3 B0 S w cs (b.size + 1) (cI true a b) 0 (a.size + 1)) : ∃ Gf, CTab a b B Gf w := by
  have hrow : ∀ i : Nat, ∃ G : Nat, i ≤ a.size → w.cell? ⟨B, i, none⟩ = some (.slice (some ⟨G, 0, none⟩) (b.size + 1) (b.size + 1)) ∧ ∀ k, k ≤ b.size → w.cell? ⟨G, k, none⟩ = some (.int .i64 (cI true a b i k)) := by
    intro i
    by_cases hi : i ≤ a.size
    · obtain ⟨G, _, hc, hr⟩ := ht i (Nat.zero_le _) (by omega)
      refine ⟨G, fun _ => ⟨?_, fun k hk => ?_⟩⟩
      · have hl : i < cs.length := by
          rcases Nat.lt_or_ge i cs.length with h | h
          · exact h
          · rw [List.getElem?_eq_none h] at hc; cases hc
        rw [ho.cell i hl]; exact hc
      · have := hr.cell k (by rw [lf_len]; omega)
        rw [lf_get _ _ _ (by omega)] at this
        exact this
    · exact ⟨0, fun h => absurd h hi⟩
  obtain ⟨q, hq⟩ := Classical.axiomOfChoice hrow
  exact ⟨q, fun i hi => (hq i hi).1, fun i k hi hk => (hq i hi).2 k hk⟩
theorem costs_tab (a b : ByteArray) (w : World) (ha : a.size ≤ 100) (hb : b.size ≤ 100) :
    Calls Try.prog 76 #[.string a, .string b, .bool true] w fun e w' => ∃ Gf, e = .returned (.slice (some ⟨w.heap.size, 0, none⟩) (a.size + 1) (a.size + 1)) ∧ CTab a b w.heap.size Gf w' ∧ Below w.heap.size w w' := by
  refine (costs_any a b true w ha hb).mono ?_
  rintro e w' ⟨cs, rfl, ho, ht, hbl⟩
  obtain ⟨Gf, h⟩ := ctab_of ho ht
  exact ⟨Gf, rfl, h, hbl⟩
set_option maxHeartbeats 4000000 in
set_option maxRecDepth 100000 in
theorem script_any (a b : ByteArray) (w : World) (ha : a.size ≤ 20) (hb : b.size ≤ 20) :
    Calls Try.prog 52 #[.string a, .string b] w fun e w' => e = .returned (.string (strOfNums (scr a b))) ∧ Below w.heap.size w w' := by
  go_enter Try.func52, Try.ntmps52
  go_wp2_with fail
  refine (costs_tab a b w (by omega) (by omega)).mono ?_
  rintro e w1 ⟨Gf, rfl, hT, hb1⟩
  have HT := Lib.hid hT
  have hsz1 := hb1.size
  have HB1 := Lib.hid hb1
  clear hT hb1
  go_wp2_with fail
  have ho0 : OB w1.heap.size (w1.alloc (.cells #[] 5)) (.slice (some ⟨w1.heap.size, 0, none⟩) 0 0) [] := OK.made _ _ _ (Nat.le_refl _)
  have hb0 : Below w1.heap.size w1 (w1.alloc (.cells #[] 5)) := (Below.refl _ _).alloc (Nat.le_refl _) _
  generalize w1.alloc (.cells #[] 5) = w2 at *
  generalize Value.slice (some ⟨w1.heap.size, 0, none⟩) 0 0 = v0 at *
  generalize hZ : w1.heap.size = Z at *
  have HZ := Lib.hid hZ
  clear hZ
  go_loopw [6, 7, 8] (fun ov iv kv wr => ∃ (m : Nat) (l : List Int) (i k : Nat), iv = .int .i64 i ∧ kv = .int .i64 k ∧ ScAt a b m l i k ∧ OB Z wr ov l ∧ Below Z w1 wr) (fun _ iv kv _ => (a.size - (intOf iv).toNat) + (b.size - (intOf kv).toNat))
  case atStart => exact ⟨0, [], 0, 0, rfl, rfl, ScAt.zero a b, ho0, hb0⟩
  case round =>
    obtain ⟨m, l, i, k, rfl, rfl, hst, ho, hb⟩ := hrel
    clear ho0 hb0
    have hi := hst.2.1
    have hk := hst.2.2.1
    have hll : l.length ≤ 1099511627776 := by have := hst.2.2.2; omega
    have hsz : Z ≤ wr.heap.size := by have := hb.size; have := HZ.out; omega
    have HS := Lib.hid hst
    have hT := HT.out.later (by rw [HZ.out]; exact hb)
    have r0 := hT.row i hi
    have c0 := hT.cell i k hi hk
    have cb := cI_bd true a b i k
    have f1 : IntKind.i64.wrap ((i : Int) + 1) = (i : Int) + 1 := IntWalk.i64_in _ (by omega)
    have f2 : IntKind.i64.wrap ((k : Int) + 1) = (k : Int) + 1 := IntWalk.i64_in _ (by omega)
    have f3 : (0 : Int) ≤ (i : Int) := by omega
    have f4 : (0 : Int) ≤ (k : Int) := by omega
    have f5 : (0 : Int) ≤ (i : Int) + 1 := by omega
    have f6 : (0 : Int) ≤ (k : Int) + 1 := by omega
    have f7 : ((i : Int) + 1).toNat = i + 1 := by omega
    have f8 : ((k : Int) + 1).toNat = k + 1 := by omega
    clear hst
    by_cases hil : i < a.size
    · have di : (i : Int) < (a.size : Int) := by omega
      have db : decide ((i : Int) < (a.size : Int)) = true := decide_eq_true di
      have r1 := hT.row (i + 1) (by omega)
      have c10 := hT.cell (i + 1) k (by omega) hk
      have b10 := cI_bd true a b (i + 1) k
      have g10 : IntKind.i64.wrap (cI true a b (i + 1) k + 1) = cI true a b (i + 1) k + 1 := IntWalk.i64_in _ (by omega)
      by_cases hkl : k < b.size
      · have dk : (k : Int) < (b.size : Int) := by omega
        have dkb : decide ((k : Int) < (b.size : Int)) = true := decide_eq_true dk
        have c11 := hT.cell (i + 1) (k + 1) (by omega) (by omega)
        have c01 := hT.cell i (k + 1) hi (by omega)
        have b11 := cI_bd true a b (i + 1) (k + 1)
        have b01 := cI_bd true a b i (k + 1)
        have g11 : IntKind.i64.wrap (cI true a b (i + 1) (k + 1) + 1) = cI true a b (i + 1) (k + 1) + 1 := IntWalk.i64_in _ (by omega)
        have g01 : IntKind.i64.wrap (cI true a b i (k + 1) + 1) = cI true a b i (k + 1) + 1 := IntWalk.i64_in _ (by omega)
        have hg1 := Lib.hid (bz_get a i hil)
        have hg2 := Lib.hid (bz_get b k hkl)
        have HX : Hid ((a[i].toNat : Int) = b[k].toNat ↔ (bz a).getD i 0 = (bz b).getD k 0) := by unfold Hid; rw [hg1.out, hg2.out]
        have E61 : Hid ((a[i].toNat : Int) = b[k].toNat → cI true a b (i + 1) (k + 1) = cI true a b i k → scS a b i k = (61, i + 1, k + 1)) := fun h1 h2 => sc61 hil hkl (HX.out.1 h1) h2
        have E68 : Hid (¬ ((a[i].toNat : Int) = b[k].toNat ∧ cI true a b (i + 1) (k + 1) = cI true a b i k) → cI true a b (i + 1) k + 1 = cI true a b i k → scS a b i k = (68, i + 1, k)) := fun h1 h2 => sc68 (fun h => h1 ⟨HX.out.2 h.2.2.1, h.2.2.2⟩) hil h2
        have E73 : Hid (¬ ((a[i].toNat : Int) = b[k].toNat ∧ cI true a b (i + 1) (k + 1) = cI true a b i k) → ¬ cI true a b (i + 1) k + 1 = cI true a b i k → cI true a b i (k + 1) + 1 = cI true a b i k → scS a b i k = (73, i, k + 1)) := fun h1 h2 h3 => sc73 (fun h => h1 ⟨HX.out.2 h.2.2.1, h.2.2.2⟩) (fun h => h2 h.2) hkl h3
        have E83 : Hid (¬ (a[i].toNat : Int) = b[k].toNat → ¬ cI true a b (i + 1) k + 1 = cI true a b i k → ¬ cI true a b i (k + 1) + 1 = cI true a b i k → cI true a b (i + 1) (k + 1) + 1 = cI true a b i k → scS a b i k = (83, i + 1, k + 1)) := fun h1 h2 h3 h4 => sc83 hil hkl (fun e => h1 (HX.out.2 e)) h2 h3 h4
        have E88 : Hid (¬ ((a[i].toNat : Int) = b[k].toNat ∧ cI true a b (i + 1) (k + 1) = cI true a b i k) → ¬ cI true a b (i + 1) k + 1 = cI true a b i k → ¬ cI true a b i (k + 1) + 1 = cI true a b i k → ¬ (¬ (a[i].toNat : Int) = b[k].toNat ∧ cI true a b (i + 1) (k + 1) + 1 = cI true a b i k) → scS a b i k = (88, i + 2, k + 2)) := fun h1 h2 h3 h4 => sc88 (fun h => h1 ⟨HX.out.2 h.1, h.2⟩) h2 h3 (fun h => h4 ⟨fun e => h.1 (HX.out.1 e), h.2⟩)
        have HB88 : Hid (scS a b i k = (88, i + 2, k + 2) → i + 2 ≤ a.size ∧ k + 2 ≤ b.size) := fun h => by
          have := scS_bd hi hk (.inl hil)
          rw [h] at this
          exact ⟨this.1, this.2.1⟩
        clear hT HX hg1 hg2
        generalize cI true a b (i + 1) (k + 1) = x11 at *
        generalize cI true a b (i + 1) k = x10 at *
        generalize cI true a b i (k + 1) = x01 at *
        generalize cI true a b i k = x00 at *
        by_cases hxy : (a[i].toNat : Int) = b[k].toNat
        · have q1 : ((a[i].toNat : Int) == b[k].toNat) = true := by simp [hxy]
          have q2 : ((a[i].toNat : Int) != b[k].toNat) = false := by simp [hxy]
          by_cases h11 : x11 = x00
          · have p11 : (x11 == x00) = true := by simp [h11]
            have HE := Lib.hid (E61.out hxy h11)
            clear hxy h11
            go_wp2_with fail
            go_quiet (fail)
            go_wp2_with (at_builtin; refine wpl_app_u8 rfl _ _ rfl Z _ _ rfl (OK.alloc (by exact ho) _) _ _ _ rfl (World.cell?_alloc_at _ _ _ _ rfl) hll (by simp; omega) ?_; intro v' w5 ho5 hgr)
            have hb5 : Below Z w1 w5 := (by first | exact app_below hb ho hsz hgr | exact app_below (below_drewN hb _) (show OB Z _ _ _ by exact ho) hsz hgr)
            go_roundw
            case rel => exact ⟨m + 1, _, (i + 1), (k + 1), by go_num, by go_num, (HS.out.next (.inl hil) HE.out), ho5, hb5⟩
            case measure => simp [intOf]; omega
          · have p11 : (x11 == x00) = false := by simp [h11]
            by_cases h10 : x10 + 1 = x00
            · have p10 : (x10 + 1 == x00) = true := by simp [h10]
              have HE := Lib.hid (E68.out (fun h => h11 h.2) h10)
              clear hxy h11 h10
              go_wp2_with fail
              go_quiet (fail)
              go_wp2_with (at_builtin; refine wpl_app_u8 rfl _ _ rfl Z _ _ rfl (OK.alloc (by exact ho) _) _ _ _ rfl (World.cell?_alloc_at _ _ _ _ rfl) hll (by simp; omega) ?_; intro v' w5 ho5 hgr)
              have hb5 : Below Z w1 w5 := (by first | exact app_below hb ho hsz hgr | exact app_below (below_drewN hb _) (show OB Z _ _ _ by exact ho) hsz hgr)
              go_roundw
              case rel => exact ⟨m + 1, _, (i + 1), k, by go_num, by go_num, (HS.out.next (.inl hil) HE.out), ho5, hb5⟩
              case measure => simp [intOf]; omega
            · have p10 : (x10 + 1 == x00) = false := by simp [h10]
              by_cases h01 : x01 + 1 = x00
              · have p01 : (x01 + 1 == x00) = true := by simp [h01]
                have HE := Lib.hid (E73.out (fun h => h11 h.2) h10 h01)
                clear hxy h11 h10 h01
                go_wp2_with fail
                go_quiet (fail)
                go_wp2_with (at_builtin; refine wpl_app_u8 rfl _ _ rfl Z _ _ rfl (OK.alloc (by exact ho) _) _ _ _ rfl (World.cell?_alloc_at _ _ _ _ rfl) hll (by simp; omega) ?_; intro v' w5 ho5 hgr)
                have hb5 : Below Z w1 w5 := (by first | exact app_below hb ho hsz hgr | exact app_below (below_drewN hb _) (show OB Z _ _ _ by exact ho) hsz hgr)
                go_roundw
                case rel => exact ⟨m + 1, _, i, (k + 1), by go_num, by go_num, (HS.out.next (.inl hil) HE.out), ho5, hb5⟩
                case measure => simp [intOf]; omega
              · have p01 : (x01 + 1 == x00) = false := by simp [h01]
                have he := E88.out (fun h => h11 h.2) h10 h01 (fun h => h.1 hxy)
                have HE := Lib.hid he
                have hbd := HB88.out he
                clear hxy h11 h10 h01 he
                go_wp2_with fail
                go_quiet (fail)
                go_wp2_with fail
                go_quiet (fail)
                go_wp2_with (at_builtin; refine wpl_app_u8 rfl _ _ rfl Z _ _ rfl (OK.alloc (by exact ho) _) _ _ _ rfl (World.cell?_alloc_at _ _ _ _ rfl) hll (by simp; omega) ?_; intro v' w5 ho5 hgr)
                have hb5 : Below Z w1 w5 := (by first | exact app_below hb ho hsz hgr | exact app_below (below_drewN hb _) (show OB Z _ _ _ by exact ho) hsz hgr)
                go_roundw
                case rel => exact ⟨m + 1, _, (i + 2), (k + 2), by go_num, by go_num, (HS.out.next (.inl hil) HE.out), ho5, hb5⟩
                case measure => simp [intOf]; omega
        · have q1 : ((a[i].toNat : Int) == b[k].toNat) = false := by simp; omega
          have q2 : ((a[i].toNat : Int) != b[k].toNat) = true := by simp; omega
          by_cases h10 : x10 + 1 = x00
          · have p10 : (x10 + 1 == x00) = true := by simp [h10]
            have HE := Lib.hid (E68.out (fun h => hxy h.1) h10)
            clear hxy h10
            go_wp2_with fail
            go_quiet (fail)
            go_wp2_with (at_builtin; refine wpl_app_u8 rfl _ _ rfl Z _ _ rfl (OK.alloc (by exact ho) _) _ _ _ rfl (World.cell?_alloc_at _ _ _ _ rfl) hll (by simp; omega) ?_; intro v' w5 ho5 hgr)
            have hb5 : Below Z w1 w5 := (by first | exact app_below hb ho hsz hgr | exact app_below (below_drewN hb _) (show OB Z _ _ _ by exact ho) hsz hgr)
            go_roundw
            case rel => exact ⟨m + 1, _, (i + 1), k, by go_num, by go_num, (HS.out.next (.inl hil) HE.out), ho5, hb5⟩
            case measure => simp [intOf]; omega
          · have p10 : (x10 + 1 == x00) = false := by simp [h10]
            by_cases h01 : x01 + 1 = x00
            · have p01 : (x01 + 1 == x00) = true := by simp [h01]
              have HE := Lib.hid (E73.out (fun h => hxy h.1) h10 h01)
              clear hxy h10 h01
              go_wp2_with fail
              go_quiet (fail)
              go_wp2_with (at_builtin; refine wpl_app_u8 rfl _ _ rfl Z _ _ rfl (OK.alloc (by exact ho) _) _ _ _ rfl (World.cell?_alloc_at _ _ _ _ rfl) hll (by simp; omega) ?_; intro v' w5 ho5 hgr)
              have hb5 : Below Z w1 w5 := (by first | exact app_below hb ho hsz hgr | exact app_below (below_drewN hb _) (show OB Z _ _ _ by exact ho) hsz hgr)
              go_roundw
              case rel => exact ⟨m + 1, _, i, (k + 1), by go_num, by go_num, (HS.out.next (.inl hil) HE.out), ho5, hb5⟩
              case measure => simp [intOf]; omega
            · have p01 : (x01 + 1 == x00) = false := by simp [h01]
              by_cases h11 : x11 + 1 = x00
              · have p11 : (x11 + 1 == x00) = true := by simp [h11]
                have HE := Lib.hid (E83.out hxy h10 h01 h11)
                clear hxy h10 h01 h11
                go_wp2_with fail
                go_quiet (fail)
                go_wp2_with fail
                go_quiet (fail)
                go_wp2_with (at_builtin; refine wpl_app_u8 rfl _ _ rfl Z _ _ rfl (OK.alloc (by exact ho) _) _ _ _ rfl (World.cell?_alloc_at _ _ _ _ rfl) hll (by simp; omega) ?_; intro v' w5 ho5 hgr)
                have hb5 : Below Z w1 w5 := (by first | exact app_below hb ho hsz hgr | exact app_below (below_drewN hb _) (show OB Z _ _ _ by exact ho) hsz hgr)
                go_roundw
                case rel => exact ⟨m + 1, _, (i + 1), (k + 1), by go_num, by go_num, (HS.out.next (.inl hil) HE.out), ho5, hb5⟩
                case measure => simp [intOf]; omega
              · have p11 : (x11 + 1 == x00) = false := by simp [h11]
                have he := E88.out (fun h => hxy h.1) h10 h01 (fun h => h11 h.2)
                have HE := Lib.hid he
                have hbd := HB88.out he
                clear hxy h10 h01 h11 he
                go_wp2_with fail
                go_quiet (fail)
                go_wp2_with fail
                go_quiet (fail)
                go_wp2_with (at_builtin; refine wpl_app_u8 rfl _ _ rfl Z _ _ rfl (OK.alloc (by exact ho) _) _ _ _ rfl (World.cell?_alloc_at _ _ _ _ rfl) hll (by simp; omega) ?_; intro v' w5 ho5 hgr)
                have hb5 : Below Z w1 w5 := (by first | exact app_below hb ho hsz hgr | exact app_below (below_drewN hb _) (show OB Z _ _ _ by exact ho) hsz hgr)
                go_roundw
                case rel => exact ⟨m + 1, _, (i + 2), (k + 2), by go_num, by go_num, (HS.out.next (.inl hil) HE.out), ho5, hb5⟩
                case measure => simp [intOf]; omega
      · have dk : ¬ (k : Int) < (b.size : Int) := by omega
        have dkb : decide ((k : Int) < (b.size : Int)) = false := decide_eq_false dk
        have h10 : cI true a b (i + 1) k + 1 = cI true a b i k := by rw [cI_right (by omega), cI_right (by omega)]; omega
        have HE : Hid (scS a b i k = (68, i + 1, k)) := sc68 (fun h => hkl h.2.1) hil h10
        clear hT
        generalize cI true a b (i + 1) k = x10 at *
        generalize cI true a b i k = x00 at *
        have p10 : (x10 + 1 == x00) = true := by simp [h10]
        clear h10
        go_wp2_with fail
        go_quiet (fail)
        go_wp2_with (at_builtin; refine wpl_app_u8 rfl _ _ rfl Z _ _ rfl (OK.alloc (by exact ho) _) _ _ _ rfl (World.cell?_alloc_at _ _ _ _ rfl) hll (by simp; omega) ?_; intro v' w5 ho5 hgr)
        have hb5 : Below Z w1 w5 := (by first | exact app_below hb ho hsz hgr | exact app_below (below_drewN hb _) (show OB Z _ _ _ by exact ho) hsz hgr)
        go_roundw
        case rel => exact ⟨m + 1, _, (i + 1), k, by go_num, by go_num, (HS.out.next (.inl hil) HE.out), ho5, hb5⟩
        case measure => simp [intOf]; omega
    · have di : ¬ (i : Int) < (a.size : Int) := by omega
      have db : decide ((i : Int) < (a.size : Int)) = false := decide_eq_false di
      by_cases hkl : k < b.size
      · have dk : (k : Int) < (b.size : Int) := by omega
        have dkb : decide ((k : Int) < (b.size : Int)) = true := decide_eq_true dk
        have c01 := hT.cell i (k + 1) hi (by omega)
        have b01 := cI_bd true a b i (k + 1)
        have g01 : IntKind.i64.wrap (cI true a b i (k + 1) + 1) = cI true a b i (k + 1) + 1 := IntWalk.i64_in _ (by omega)
        have h01 : cI true a b i (k + 1) + 1 = cI true a b i k := by rw [cI_left (by omega), cI_left (by omega)]; omega
        have HE : Hid (scS a b i k = (73, i, k + 1)) := sc73 (fun h => hil h.1) (fun h => hil h.1) hkl h01
        clear hT
        generalize cI true a b i (k + 1) = x01 at *
        generalize cI true a b i k = x00 at *
        have p01 : (x01 + 1 == x00) = true := by simp [h01]
        clear h01
        go_wp2_with fail
        go_quiet (fail)
        go_wp2_with (at_builtin; refine wpl_app_u8 rfl _ _ rfl Z _ _ rfl (OK.alloc (by exact ho) _) _ _ _ rfl (World.cell?_alloc_at _ _ _ _ rfl) hll (by simp; omega) ?_; intro v' w5 ho5 hgr)
        have hb5 : Below Z w1 w5 := (by first | exact app_below hb ho hsz hgr | exact app_below (below_drewN hb _) (show OB Z _ _ _ by exact ho) hsz hgr)
        go_roundw
        case rel => exact ⟨m + 1, _, i, (k + 1), by go_num, by go_num, (HS.out.next (.inr hkl) HE.out), ho5, hb5⟩
        case measure => simp [intOf]; omega
      · have dk : ¬ (k : Int) < (b.size : Int) := by omega
        have HV : Hid (scr a b = l) := HS.out.done (fun h => h.elim hil hkl)
        have hstr := ho.str
        clear hT
        go_wp2_with fail
        go_ret
        exact ⟨by rw [HV.out]; rfl, HB1.out.trans (hb.mono (by have := HZ.out; omega))⟩
end Go.Proofs.Ytgagjmnmfgfpfaa
