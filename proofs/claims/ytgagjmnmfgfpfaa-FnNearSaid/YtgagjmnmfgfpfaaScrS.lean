/- The least script of two words: the reference's, and the law, for all arguments. -/
import Derived.Test.YtgagjmnmfgfpfaaScrI
namespace Go.Proofs.Ytgagjmnmfgfpfaa
open Go.RowKit

/-- What ScriptOf returns. -/
def scV (a b : ByteArray) : Value := if digB a 36 20 && digB b 36 20 then .tuple #[.string (strOfNums (scr a b)), .bool true] else .tuple #[.string ByteArray.empty, .bool false]
theorem scV_shape (a b : ByteArray) : ∃ (x : ByteArray) (c : Bool), scV a b = .tuple #[.string x, .bool c] := by
  unfold scV; split <;> exact ⟨_, _, rfl⟩
theorem scV_no1 {a b : ByteArray} (h : digB a 36 20 = false) : scV a b = .tuple #[.string ByteArray.empty, .bool false] := by unfold scV; rw [h]; rfl
theorem scV_no2 {a b : ByteArray} (h : digB b 36 20 = false) : scV a b = .tuple #[.string ByteArray.empty, .bool false] := by unfold scV; rw [h]; simp
theorem scV_yes {a b : ByteArray} (h1 : digB a 36 20 = true) (h2 : digB b 36 20 = true) : scV a b = .tuple #[.string (strOfNums (scr a b)), .bool true] := by unfold scV; rw [h1, h2]; rfl
theorem l06_flat (a b : ByteArray) (w : World) (ha : a.size ≤ 100) (hb : b.size ≤ 100) :
    Calls Try.prog 47 #[.string a, .string b, .bool true] w fun e w' => e = .returned (.slice (some ⟨w.heap.size, 0, none⟩) ((a.size + 1) * (b.size + 1)) ((a.size + 1) * (b.size + 1))) ∧
      Hid (∀ j l, j ≤ a.size → l ≤ b.size → w'.cell? ⟨w.heap.size, j * (b.size + 1) + l, none⟩ = some (.int .i64 (cI true a b j l))) ∧ Below w.heap.size w w' := by
  refine (l06Costs_any a b true w ha hb).mono ?_
  rintro e w' ⟨xs, n, rfl, ho, rfl, hc, hbl⟩
  have hl : xs.length = (a.size + 1) * (b.size + 1) := by have := OV.len ho; simpa using this.symm
  refine ⟨rfl, fun j l hj hll => ?_, hbl⟩
  rw [ho.cell (j * (b.size + 1) + l) ?_, hc j l hj hll]
  rw [hl]
  have h1 : (j + 1) * (b.size + 1) ≤ (a.size + 1) * (b.size + 1) := Nat.mul_le_mul_right _ (by omega)
  rw [Nat.succ_mul] at h1
  omega
set_option maxHeartbeats 1000000 in
theorem implSc_any (a b : ByteArray) (w : World) (ha : a.size ≤ 1048576) (hb : b.size ≤ 1048576) :
    Calls Try.prog 24 #[.string a, .string b] w fun e w' => e = .returned (scV a b) ∧ Below w.heap.size w w' := by
  cases h1 : digB a 36 20
  · have H1 := Lib.hid h1
    clear h1
    go_enter Try.func24, Try.ntmps24
    go_wp2_with fail
    refine (wordOk_is a 20 _ false H1 ha).mono ?_
    rintro e w1 ⟨rfl, hb1⟩
    go_wp2_with fail
    go_ret2
    exact ⟨by rw [scV_no1 H1.out]; rfl, hb1⟩
  have H1 := Lib.hid h1
  have ha' := digB_size h1
  clear h1
  cases h2 : digB b 36 20
  · have H2 := Lib.hid h2
    clear h2
    go_enter Try.func24, Try.ntmps24
    go_wp2_with fail
    refine (wordOk_is a 20 _ true H1 ha).mono ?_
    rintro e w1 ⟨rfl, hb1⟩
    go_wp2_with fail
    refine (wordOk_is b 20 _ false H2 hb).mono ?_
    rintro e w2 ⟨rfl, hb2⟩
    go_wp2_with fail
    go_ret2
    exact ⟨by rw [scV_no2 H2.out]; rfl, hb1.trans (hb2.mono hb1.size)⟩
  have H2 := Lib.hid h2
  have hb' := digB_size h2
  clear h2
  go_enter Try.func24, Try.ntmps24
  go_wp2_with fail
  refine (wordOk_is a 20 _ true H1 ha).mono ?_
  rintro e w1 ⟨rfl, hb1⟩
  go_wp2_with fail
  refine (wordOk_is b 20 _ true H2 hb).mono ?_
  rintro e w2 ⟨rfl, hb2⟩
  go_wp2_with fail
  refine (script_any a b _ (by omega) (by omega)).mono ?_
  rintro e w3 ⟨rfl, hb3⟩
  go_wp2_with fail
  go_ret2
  exact ⟨by rw [scV_yes H1.out H2.out]; rfl, (hb1.trans (hb2.mono hb1.size)).trans (hb3.mono (Nat.le_trans hb1.size hb2.size))⟩
set_option maxHeartbeats 4000000 in
set_option maxRecDepth 100000 in
theorem specSc_any (a b : ByteArray) (w : World) (ha : a.size ≤ 1048576) (hb : b.size ≤ 1048576) :
    Calls Try.prog 25 #[.string a, .string b] w fun e w' => e = .returned (scV a b) ∧ Below w.heap.size w w' := by
  cases h1 : digB a 36 20
  · have H1 := Lib.hid h1
    clear h1
    go_enter Try.func25, Try.ntmps25
    go_wp2_with fail
    refine (l06Word_is a 20 _ false H1 ha (by omega)).mono ?_
    rintro e w1 ⟨rfl, rfl⟩
    go_wp2_with fail
    go_ret2
    exact ⟨by rw [scV_no1 H1.out]; rfl, Below.refl _ _⟩
  have H1 := Lib.hid h1
  have ha' := digB_size h1
  clear h1
  cases h2 : digB b 36 20
  · have H2 := Lib.hid h2
    clear h2
    go_enter Try.func25, Try.ntmps25
    go_wp2_with fail
    refine (l06Word_is a 20 _ true H1 ha (by omega)).mono ?_
    rintro e w1 ⟨rfl, rfl⟩
    go_wp2_with fail
    refine (l06Word_is b 20 _ false H2 hb (by omega)).mono ?_
    rintro e w2 ⟨rfl, rfl⟩
    go_wp2_with fail
    go_ret2
    exact ⟨by rw [scV_no2 H2.out]; rfl, Below.refl _ _⟩
  have H2 := Lib.hid h2
  have hb' := digB_size h2
  clear h2
  go_enter Try.func25, Try.ntmps25
  go_wp2_with fail
  refine (l06Word_is a 20 _ true H1 ha (by omega)).mono ?_
  rintro e w1 ⟨rfl, rfl⟩
  go_wp2_with fail
  refine (l06Word_is b 20 _ true H2 hb (by omega)).mono ?_
  rintro e w2 ⟨rfl, rfl⟩
  go_wp2_with fail
  refine (l06_flat a b _ (by omega) (by omega)).mono ?_
  rintro e w1 ⟨rfl, HC, hb1⟩
  obtain ⟨L, hL⟩ : ∃ L, L = (a.size + 1) * (b.size + 1) := ⟨_, rfl⟩
  have hLb : L ≤ 21 * 21 := by rw [hL]; exact Nat.mul_le_mul (by omega) (by omega)
  have HL := Lib.hid hL
  rw [← hL]
  clear hL
  clear ha hb
  go_wp2_with fail
  go_loopw [8, 9, 10] (fun sv iv kv wr => ∃ (m : Nat) (l : List Int) (i k : Nat) (S : ByteArray), iv = .int .i64 i ∧ kv = .int .i64 k ∧ sv = .string S ∧ Hid (S = strOfNums l) ∧ ScAt a b m l i k ∧ Below w1.heap.size w1 wr) (fun _ iv kv _ => (a.size - (intOf iv).toNat) + (b.size - (intOf kv).toNat))
  case atStart => exact ⟨0, [], 0, 0, _, rfl, rfl, rfl, rfl, ScAt.zero a b, Below.refl _ _⟩
  case round =>
    obtain ⟨m, l, i, k, S, rfl, rfl, rfl, HSt, hst, hb⟩ := hrel
    have hi := hst.2.1
    have hk := hst.2.2.1
    have hSz : S.size ≤ 100 := by
      rw [HSt.out, strOfNums_size]
      have := hst.2.2.2
      omega
    have HS := Lib.hid hst
    obtain ⟨p, hp⟩ : ∃ p, p = i * (b.size + 1) := ⟨_, rfl⟩
    have hp1 : (i + 1) * (b.size + 1) = p + (b.size + 1) := by rw [hp, Nat.succ_mul]
    have hpL : p + (b.size + 1) ≤ L := by rw [HL.out, ← hp1]; exact Nat.mul_le_mul_right _ (by omega)
    have hcell : ∀ j l, j ≤ a.size → l ≤ b.size → wr.cell? ⟨w.heap.size, j * (b.size + 1) + l, none⟩ = some (.int .i64 (cI true a b j l)) := fun j l h1 h2 => by
      have h3 := HC.out j l h1 h2
      rw [hb.cell (p := ⟨w.heap.size, j * (b.size + 1) + l, none⟩) (World.block_lt_of_cell? w1 _ h3)]; exact h3
    have g0 : IntKind.i64.wrap ((i : Int) * ((b.size : Int) + 1)) = (p : Int) := by
      have : (i : Int) * ((b.size : Int) + 1) = (p : Int) := by rw [hp]; push_cast; rfl
      rw [this]; exact IntWalk.i64_in _ (by omega)
    have g1 : IntKind.i64.wrap (((i : Int) + 1) * ((b.size : Int) + 1)) = (p : Int) + ((b.size : Int) + 1) := by
      have : ((i : Int) + 1) * ((b.size : Int) + 1) = (p : Int) + ((b.size : Int) + 1) := by
        have := congrArg (fun n : Nat => (n : Int)) hp1
        push_cast at this; exact this
      rw [this]; exact IntWalk.i64_in _ (by omega)
    have c0 := hcell i k hi hk
    rw [← hp] at c0
    have hT : (∀ k, i < a.size → k ≤ b.size → wr.cell? ⟨w.heap.size, p + (b.size + 1) + k, none⟩ = some (.int .i64 (cI true a b (i + 1) k))) ∧ (∀ k, i < a.size → k < b.size → wr.cell? ⟨w.heap.size, p + (b.size + 1) + k + 1, none⟩ = some (.int .i64 (cI true a b (i + 1) (k + 1)))) ∧ (∀ k, k < b.size → wr.cell? ⟨w.heap.size, p + k + 1, none⟩ = some (.int .i64 (cI true a b i (k + 1)))) := by
      refine ⟨fun k h1 h2 => ?_, fun k h1 h2 => ?_, fun k h1 => ?_⟩
      · have := hcell (i + 1) k (by omega) h2
        rw [hp1] at this; exact this
      · have := hcell (i + 1) (k + 1) (by omega) (by omega)
        rw [hp1] at this; exact this
      · have := hcell i (k + 1) hi (by omega)
        rw [← hp] at this; exact this
    have HPL : Hid (i < a.size → p + (b.size + 1) + (b.size + 1) ≤ L) := fun h => by
      have h1 : (i + 2) * (b.size + 1) ≤ L := by rw [HL.out]; exact Nat.mul_le_mul_right _ (by omega)
      rw [Nat.succ_mul, hp1] at h1; exact h1
    have cb := cI_bd true a b i k
    have f1 : IntKind.i64.wrap ((i : Int) + 1) = (i : Int) + 1 := IntWalk.i64_in _ (by omega)
    have f2 : IntKind.i64.wrap ((k : Int) + 1) = (k : Int) + 1 := IntWalk.i64_in _ (by omega)
    have f3 : (0 : Int) ≤ (i : Int) := by omega
    have f4 : (0 : Int) ≤ (k : Int) := by omega
    have f5 : (0 : Int) ≤ (i : Int) + 1 := by omega
    have f6 : (0 : Int) ≤ (k : Int) + 1 := by omega
    have f7 : ((i : Int) + 1).toNat = i + 1 := by omega
    have f8 : ((k : Int) + 1).toNat = k + 1 := by omega
    clear hst hcell hp hp1
    by_cases hil : i < a.size
    · have di : (i : Int) < (a.size : Int) := by omega
      have db : decide ((i : Int) < (a.size : Int)) = true := decide_eq_true di
      have hp1L : p + (b.size + 1) + (b.size + 1) ≤ L := HPL.out hil
      have c10 := hT.1 k hil hk
      have b10 := cI_bd true a b (i + 1) k
      have g10 : IntKind.i64.wrap (cI true a b (i + 1) k + 1) = cI true a b (i + 1) k + 1 := IntWalk.i64_in _ (by omega)
      by_cases hkl : k < b.size
      · have dk : (k : Int) < (b.size : Int) := by omega
        have dkb : decide ((k : Int) < (b.size : Int)) = true := decide_eq_true dk
        have c11 := hT.2.1 k hil hkl
        have c01 := hT.2.2 k hkl
        have b11 := cI_bd true a b (i + 1) (k + 1)
        have b01 := cI_bd true a b i (k + 1)
        have g11 : IntKind.i64.wrap (cI true a b (i + 1) (k + 1) + 1) = cI true a b (i + 1) (k + 1) + 1 := IntWalk.i64_in _ (by omega)
        have g01 : IntKind.i64.wrap (cI true a b i (k + 1) + 1) = cI true a b i (k + 1) + 1 := IntWalk.i64_in _ (by omega)
        have hg1 := Lib.hid (bz_get a i hil)
        have hg2 := Lib.hid (bz_get b k hkl)
        have HX : Hid ((a[i].toNat : Int) = b[k].toNat ↔ (bz a).getD i 0 = (bz b).getD k 0) := by unfold Hid; rw [hg1.out, hg2.out]
        have E61 : Hid ((a[i].toNat : Int) = b[k].toNat → cI true a b (i + 1) (k + 1) = cI true a b i k → scS a b i k = (61, i + 1, k + 1)) := fun h1 h2 => sc61 hil hkl (HX.out.1 h1) h2
        have E68 : Hid (¬ ((a[i].toNat : Int) = b[k].toNat ∧ cI true a b (i + 1) (k + 1) = cI true a b i k) → cI true a b (i + 1) k + 1 = cI true a b i k → scS a b i k = (68, i + 1, k)) := fun h1 h2 => sc68 (fun h => h1 ⟨HX.out.2 h.2.2.1, h.2.2.2⟩) hil h2
        have E73 : Hid (¬ ((a[i].toNat : Int) = b[k].toNat ∧ cI true a b (i + 1) (k + 1) = cI true a b i k) → ¬ cI true a b (i + 1) k + 1 = cI true a b i k → cI true a b i (k + 1) + 1 = cI true a b i k → scS a b i k = (73, i, k + 1)) := fun h1 h2 h3 => sc73 (fun h => h1 ⟨HX.out.2 h.2.2.1, h.2.2.2⟩) (fun h => h2 h.2) hkl h3
        have E83 : Hid (¬ (a[i].toNat : Int) = b[k].toNat → ¬ cI true a b (i + 1) k + 1 = cI true a b i k → ¬ cI true a b i (k + 1) + 1 = cI true a b i k → cI true a b (i + 1) (k + 1) + 1 = cI true a b i k → scS a b i k = (83, i + 1, k + 1)) := fun h1 h2 h3 h4 => sc83 hil hkl (fun e => h1 (HX.out.2 e)) h2 h3 h4
        have E88 : Hid (¬ ((a[i].toNat : Int) = b[k].toNat ∧ cI true a b (i + 1) (k + 1) = cI true a b i k) → ¬ cI true a b (i + 1) k + 1 = cI true a b i k → ¬ cI true a b i (k + 1) + 1 = cI true a b i k → ¬ (¬ (a[i].toNat : Int) = b[k].toNat ∧ cI true a b (i + 1) (k + 1) + 1 = cI true a b i k) → scS a b i k = (88, i + 2, k + 2)) := fun h1 h2 h3 h4 => sc88 (fun h => h1 ⟨HX.out.2 h.1, h.2⟩) h2 h3 (fun h => h4 ⟨fun e => h.1 (HX.out.1 e), h.2⟩)
        have HB88 : Hid (scS a b i k = (88, i + 2, k + 2) → i + 2 ≤ a.size ∧ k + 2 ≤ b.size) := fun h => by
          have := scS_bd hi hk (.inl hil)
          rw [h] at this
          exact ⟨this.1, this.2.1⟩
        clear hT HX hg1 hg2
        generalize cI true a b (i + 1) (k + 1) = x11 at *
        generalize cI true a b (i + 1) k = x10 at *
        generalize cI true a b i (k + 1) = x01 at *
        generalize cI true a b i k = x00 at *
        by_cases hxy : (a[i].toNat : Int) = b[k].toNat
        · have q1 : ((a[i].toNat : Int) == b[k].toNat) = true := by simp [hxy]
          have q2 : ((a[i].toNat : Int) != b[k].toNat) = false := by simp [hxy]
          by_cases h11 : x11 = x00
          · have p11 : (x11 == x00) = true := by simp [h11]
            have HE := Lib.hid (E61.out hxy h11)
            clear hxy h11
            go_wp2_with fail
            go_quiet (fail)
            go_wp2_with fail
            go_roundw
            case rel => exact ⟨m + 1, l ++ [_], (i + 1), (k + 1), _, by go_num, by go_num, rfl, (by unfold Hid; rw [HSt.out, strOfNums_snoc]; rfl), (HS.out.next (.inl hil) HE.out), (by first | exact hb | exact below_drewN hb _ | exact below_drewN (below_drewN hb _) _)⟩
            case measure => simp [intOf]; omega
          · have p11 : (x11 == x00) = false := by simp [h11]
            by_cases h10 : x10 + 1 = x00
            · have p10 : (x10 + 1 == x00) = true := by simp [h10]
              have HE := Lib.hid (E68.out (fun h => h11 h.2) h10)
              clear hxy h11 h10
              go_wp2_with fail
              go_quiet (fail)
              go_wp2_with fail
              go_roundw
              case rel => exact ⟨m + 1, l ++ [_], (i + 1), k, _, by go_num, by go_num, rfl, (by unfold Hid; rw [HSt.out, strOfNums_snoc]; rfl), (HS.out.next (.inl hil) HE.out), (by first | exact hb | exact below_drewN hb _ | exact below_drewN (below_drewN hb _) _)⟩
              case measure => simp [intOf]; omega
            · have p10 : (x10 + 1 == x00) = false := by simp [h10]
              by_cases h01 : x01 + 1 = x00
              · have p01 : (x01 + 1 == x00) = true := by simp [h01]
                have HE := Lib.hid (E73.out (fun h => h11 h.2) h10 h01)
                clear hxy h11 h10 h01
                go_wp2_with fail
                go_quiet (fail)
                go_wp2_with fail
                go_roundw
                case rel => exact ⟨m + 1, l ++ [_], i, (k + 1), _, by go_num, by go_num, rfl, (by unfold Hid; rw [HSt.out, strOfNums_snoc]; rfl), (HS.out.next (.inl hil) HE.out), (by first | exact hb | exact below_drewN hb _ | exact below_drewN (below_drewN hb _) _)⟩
                case measure => simp [intOf]; omega
              · have p01 : (x01 + 1 == x00) = false := by simp [h01]
                have he := E88.out (fun h => h11 h.2) h10 h01 (fun h => h.1 hxy)
                have HE := Lib.hid he
                have hbd := HB88.out he
                clear hxy h11 h10 h01 he
                go_wp2_with fail
                go_quiet (fail)
                go_wp2_with fail
                go_quiet (fail)
                go_wp2_with fail
                go_roundw
                case rel => exact ⟨m + 1, l ++ [_], (i + 2), (k + 2), _, by go_num, by go_num, rfl, (by unfold Hid; rw [HSt.out, strOfNums_snoc]; rfl), (HS.out.next (.inl hil) HE.out), (by first | exact hb | exact below_drewN hb _ | exact below_drewN (below_drewN hb _) _)⟩
                case measure => simp [intOf]; omega
        · have q1 : ((a[i].toNat : Int) == b[k].toNat) = false := by simp; omega
          have q2 : ((a[i].toNat : Int) != b[k].toNat) = true := by simp; omega
          by_cases h10 : x10 + 1 = x00
          · have p10 : (x10 + 1 == x00) = true := by simp [h10]
            have HE := Lib.hid (E68.out (fun h => hxy h.1) h10)
            clear hxy h10
            go_wp2_with fail
            go_quiet (fail)
            go_wp2_with fail
            go_roundw
            case rel => exact ⟨m + 1, l ++ [_], (i + 1), k, _, by go_num, by go_num, rfl, (by unfold Hid; rw [HSt.out, strOfNums_snoc]; rfl), (HS.out.next (.inl hil) HE.out), (by first | exact hb | exact below_drewN hb _ | exact below_drewN (below_drewN hb _) _)⟩
            case measure => simp [intOf]; omega
          · have p10 : (x10 + 1 == x00) = false := by simp [h10]
            by_cases h01 : x01 + 1 = x00
            · have p01 : (x01 + 1 == x00) = true := by simp [h01]
              have HE := Lib.hid (E73.out (fun h => hxy h.1) h10 h01)
              clear hxy h10 h01
              go_wp2_with fail
              go_quiet (fail)
              go_wp2_with fail
              go_roundw
              case rel => exact ⟨m + 1, l ++ [_], i, (k + 1), _, by go_num, by go_num, rfl, (by unfold Hid; rw [HSt.out, strOfNums_snoc]; rfl), (HS.out.next (.inl hil) HE.out), (by first | exact hb | exact below_drewN hb _ | exact below_drewN (below_drewN hb _) _)⟩
              case measure => simp [intOf]; omega
            · have p01 : (x01 + 1 == x00) = false := by simp [h01]
              by_cases h11 : x11 + 1 = x00
              · have p11 : (x11 + 1 == x00) = true := by simp [h11]
                have HE := Lib.hid (E83.out hxy h10 h01 h11)
                clear hxy h10 h01 h11
                go_wp2_with fail
                go_quiet (fail)
                go_wp2_with fail
                go_quiet (fail)
                go_wp2_with fail
                go_roundw
                case rel => exact ⟨m + 1, l ++ [_], (i + 1), (k + 1), _, by go_num, by go_num, rfl, (by unfold Hid; rw [HSt.out, strOfNums_snoc]; rfl), (HS.out.next (.inl hil) HE.out), (by first | exact hb | exact below_drewN hb _ | exact below_drewN (below_drewN hb _) _)⟩
                case measure => simp [intOf]; omega
              · have p11 : (x11 + 1 == x00) = false := by simp [h11]
                have he := E88.out (fun h => hxy h.1) h10 h01 (fun h => h11 h.2)
                have HE := Lib.hid he
                have hbd := HB88.out he
                clear hxy h10 h01 h11 he
                go_wp2_with fail
                go_quiet (fail)
                go_wp2_with fail
                go_quiet (fail)
                go_wp2_with fail
                go_roundw
                case rel => exact ⟨m + 1, l ++ [_], (i + 2), (k + 2), _, by go_num, by go_num, rfl, (by unfold Hid; rw [HSt.out, strOfNums_snoc]; rfl), (HS.out.next (.inl hil) HE.out), (by first | exact hb | exact below_drewN hb _ | exact below_drewN (below_drewN hb _) _)⟩
                case measure => simp [intOf]; omega
      · have dk : ¬ (k : Int) < (b.size : Int) := by omega
        have dkb : decide ((k : Int) < (b.size : Int)) = false := decide_eq_false dk
        have h10 : cI true a b (i + 1) k + 1 = cI true a b i k := by rw [cI_right (by omega), cI_right (by omega)]; omega
        have HE : Hid (scS a b i k = (68, i + 1, k)) := sc68 (fun h => hkl h.2.1) hil h10
        clear hT
        generalize cI true a b (i + 1) k = x10 at *
        generalize cI true a b i k = x00 at *
        have p10 : (x10 + 1 == x00) = true := by simp [h10]
        clear h10
        go_wp2_with fail
        go_quiet (fail)
        go_wp2_with fail
        go_roundw
        case rel => exact ⟨m + 1, l ++ [_], (i + 1), k, _, by go_num, by go_num, rfl, (by unfold Hid; rw [HSt.out, strOfNums_snoc]; rfl), (HS.out.next (.inl hil) HE.out), (by first | exact hb | exact below_drewN hb _ | exact below_drewN (below_drewN hb _) _)⟩
        case measure => simp [intOf]; omega
    · have di : ¬ (i : Int) < (a.size : Int) := by omega
      have db : decide ((i : Int) < (a.size : Int)) = false := decide_eq_false di
      by_cases hkl : k < b.size
      · have dk : (k : Int) < (b.size : Int) := by omega
        have dkb : decide ((k : Int) < (b.size : Int)) = true := decide_eq_true dk
        have c01 := hT.2.2 k hkl
        have b01 := cI_bd true a b i (k + 1)
        have g01 : IntKind.i64.wrap (cI true a b i (k + 1) + 1) = cI true a b i (k + 1) + 1 := IntWalk.i64_in _ (by omega)
        have h01 : cI true a b i (k + 1) + 1 = cI true a b i k := by rw [cI_left (by omega), cI_left (by omega)]; omega
        have HE : Hid (scS a b i k = (73, i, k + 1)) := sc73 (fun h => hil h.1) (fun h => hil h.1) hkl h01
        clear hT
        generalize cI true a b i (k + 1) = x01 at *
        generalize cI true a b i k = x00 at *
        have p01 : (x01 + 1 == x00) = true := by simp [h01]
        clear h01
        go_wp2_with fail
        go_quiet (fail)
        go_wp2_with fail
        go_roundw
        case rel => exact ⟨m + 1, l ++ [_], i, (k + 1), _, by go_num, by go_num, rfl, (by unfold Hid; rw [HSt.out, strOfNums_snoc]; rfl), (HS.out.next (.inr hkl) HE.out), (by first | exact hb | exact below_drewN hb _ | exact below_drewN (below_drewN hb _) _)⟩
        case measure => simp [intOf]; omega
      · have dk : ¬ (k : Int) < (b.size : Int) := by omega
        have HV : Hid (scr a b = l) := HS.out.done (fun h => h.elim hil hkl)
        clear hT
        go_wp2_with fail
        go_ret2
        exact ⟨by rw [scV_yes H1.out H2.out, HV.out, ← HSt.out]; rfl, hb1.trans (hb.mono (by have := hb1.size; omega))⟩
set_option maxHeartbeats 1000000 in
theorem lawScriptOf_any (a b : ByteArray) (w : World) :
    Calls Try.prog 8 #[.string a, .string b] w fun e w' => e = .returned (.bool true) ∧ Below w.heap.size w w' := by
  by_cases ha : (a.size : Int) ≤ 1048576
  · by_cases hb : (b.size : Int) ≤ 1048576
    · obtain ⟨x, c, hv⟩ := scV_shape a b
      have hi : ∀ w1, Calls Try.prog 24 #[.string a, .string b] w1 fun e w' => e = .returned (.tuple #[.string x, .bool c]) ∧ Below w1.heap.size w1 w' := fun w1 => by
        have := implSc_any a b w1 (by omega) (by omega)
        rw [hv] at this; exact this
      have hs : ∀ w1, Calls Try.prog 25 #[.string a, .string b] w1 fun e w' => e = .returned (.tuple #[.string x, .bool c]) ∧ Below w1.heap.size w1 w' := fun w1 => by
        have := specSc_any a b w1 (by omega) (by omega)
        rw [hv] at this; exact this
      clear hv
      go_enter Try.func8, Try.ntmps8
      go_wp2_with (first
        | (go_at_call 25; refine (hs _).mono ?_; rintro e w1 ⟨rfl, hb1⟩)
        | (go_at_call 24; refine (hi _).mono ?_; rintro e w2 ⟨rfl, hb2⟩))
      go_ret
      exact ⟨rfl, hb1.trans (hb2.mono hb1.size)⟩
    · go_enter Try.func8, Try.ntmps8
      go_wp2_with fail
      go_ret
      exact ⟨rfl, Below.refl _ _⟩
  · go_enter Try.func8, Try.ntmps8
    go_wp2_with fail
    go_ret
    exact ⟨rfl, Below.refl _ _⟩
end Go.Proofs.Ytgagjmnmfgfpfaa
