/- Dihedral groups: the program's and the reference's, and the law: for all arguments. -/
import Derived.Test.YtghmpaegmicheaaCyc2
namespace Go.Proofs.Ytghmpaegmicheaa
open Go.RowKit

theorem tmod_is {a m : Int} (hm : 0 < m) : a.tmod m = a % m ∨ (a < 0 ∧ a.tmod m = a % m - m ∧ 0 < a % m) := by
  have h := @Int.tmod_eq_emod a m
  by_cases h1 : 0 ≤ a ∨ m ∣ a
  · rw [if_pos h1] at h; left; simpa using h
  · rw [if_neg h1] at h
    right
    have h2 : ¬ m ∣ a := fun e => h1 (.inr e)
    have h3 := Int.emod_nonneg a (show m ≠ 0 by omega)
    have h4 : a % m ≠ 0 := fun e => h2 (Int.dvd_of_emod_eq_zero e)
    exact ⟨by omega, by rw [h]; omega, by omega⟩
set_option maxHeartbeats 400000 in
theorem l01Mod_any (a m : Int) (w : World) (ha : -1000 ≤ a ∧ a ≤ 1000) (hm : 0 < m ∧ m ≤ 1000) :
    Calls Try.prog 120 #[.int .i64 a, .int .i64 m] w fun e w' => e = .returned (.int .i64 (a % m)) ∧ w = w' := by
  have h1 := Int.emod_nonneg a (show m ≠ 0 by omega)
  have h2 := Int.emod_lt_of_pos a hm.1
  rcases tmod_is (a := a) hm.1 with h | ⟨_, h, h3⟩
  · have hb : 0 ≤ a.tmod m := by rw [h]; omega
    have hb2 : a.tmod m ≤ 1000 := by rw [h]; omega
    have H := Lib.hid h
    clear h h1 h2
    go_enter Try.func120, Try.ntmps120
    go_wp2_with fail
    go_ret
    exact ⟨ret_i64 H.out, rfl⟩
  · have hb : a.tmod m < 0 := by rw [h]; omega
    have hb2 : -1000 ≤ a.tmod m := by rw [h]; omega
    have H : Hid (a.tmod m + m = a % m) := by unfold Hid; rw [h]; omega
    clear h h1 h2 h3
    go_enter Try.func120, Try.ntmps120
    go_wp2_with fail
    go_ret
    exact ⟨ret_i64 H.out, rfl⟩
set_option maxHeartbeats 400000 in
theorem rest_any (a m : Int) (w : World) (ha : -1000 ≤ a ∧ a ≤ 1000) (hm : 0 < m ∧ m ≤ 1000) :
    Calls Try.prog 107 #[.int .i64 a, .int .i64 m] w fun e w' => e = .returned (.int .i64 (a % m)) ∧ w = w' := by
  have h1 := Int.emod_nonneg a (show m ≠ 0 by omega)
  have h2 := Int.emod_lt_of_pos a hm.1
  have hb : 0 ≤ a.tmod m + m := by rcases tmod_is (a := a) hm.1 with h | ⟨_, h, h3⟩ <;> (rw [h]; omega)
  have hb2 : a.tmod m + m ≤ 2000 := by rcases tmod_is (a := a) hm.1 with h | ⟨_, h, h3⟩ <;> (rw [h]; omega)
  have hb3 : -1000 ≤ a.tmod m ∧ a.tmod m ≤ 1000 := by rcases tmod_is (a := a) hm.1 with h | ⟨_, h, h3⟩ <;> (rw [h]; omega)
  have H : Hid ((a.tmod m + m) % m = a % m) := by
    unfold Hid
    rcases tmod_is (a := a) hm.1 with h | ⟨_, h, h3⟩
    · rw [h]; simp
    · rw [h, Int.sub_add_cancel]; simp
  clear h1 h2
  go_enter Try.func107, Try.ntmps107
  go_wp2_with fail
  go_ret
  exact ⟨ret_i64 (by have := H.out; first | exact this | (rw [Int.tmod_eq_emod_of_nonneg (by omega)]; exact this)), rfl⟩
def dihE (n i j : Nat) : Int :=
  if i < n ∧ j < n then ((i : Int) + (j : Int)) % (n : Int)
  else if i < n then (n : Int) + ((i : Int) + (j : Int) - (n : Int)) % (n : Int)
  else if j < n then (n : Int) + ((i : Int) - (n : Int) - (j : Int)) % (n : Int)
  else ((i : Int) - (j : Int)) % (n : Int)
def dihF (n i j : Nat) : Int := dihE n i j
set_option maxHeartbeats 1000000 in
theorem dih1_any (n i j p : Nat) (w : World) (hn : 1 ≤ n ∧ n ≤ 5) (hi : i < 2 * n) (hj : j < 2 * n) (hp : w.cell? ⟨p, 0, none⟩ = some (.int .i64 n)) :
    Calls Try.prog 106 #[.int .i64 i, .int .i64 j, .pointer (some ⟨p, 0, none⟩)] w fun e w' => e = .returned (.int .i64 (dihF n i j)) ∧ Drw w w' := by
  have HD : Hid (dihF n i j = dihE n i j) := rfl
  have hn0 : (0 : Int) < (n : Int) := by omega
  have hn5 : (n : Int) ≤ 5 := by omega
  have hR : Hid (∀ (a : Int) wx, -1000 ≤ a → a ≤ 1000 → Calls Try.prog 107 #[.int .i64 a, .int .i64 n] wx fun e w' => e = .returned (.int .i64 (a % (n : Int))) ∧ wx = w') := fun a wx h1 h2 => rest_any a n wx ⟨h1, h2⟩ (by omega)
  by_cases hin : i < n
  · have di : (i : Int) < (n : Int) := by omega
    by_cases hjn : j < n
    · have dj : (j : Int) < (n : Int) := by omega
      have HF : Hid (((i : Int) + (j : Int)) % (n : Int) = dihF n i j) := by unfold Hid; rw [HD.out]; unfold dihE; rw [if_pos ⟨hin, hjn⟩]
      have HC := Lib.hid (fun wx => hR.out ((i : Int) + (j : Int)) wx (by omega) (by omega))
      generalize ((i : Int) + (j : Int)) % (n : Int) = q at *
      go_enter Try.func106, Try.ntmps106
      go_wp2_with (go_at_call 107; refine (HC.out _).mono ?_; rintro e w' ⟨rfl, rfl⟩)
      go_ret
      exact ⟨ret_i64 HF.out, Drw.refl _⟩
    · have dj : ¬ (j : Int) < (n : Int) := by omega
      have HF : Hid ((n : Int) + ((i : Int) + (j : Int) - (n : Int)) % (n : Int) = dihF n i j) := by unfold Hid; rw [HD.out]; unfold dihE; rw [if_neg (fun h => hjn h.2), if_pos hin]
      have he := Int.emod_nonneg ((i : Int) + (j : Int) - (n : Int)) (show (n : Int) ≠ 0 by omega)
      have he2 := Int.emod_lt_of_pos ((i : Int) + (j : Int) - (n : Int)) hn0
      have HC := Lib.hid (fun wx => hR.out ((i : Int) + (j : Int) - (n : Int)) wx (by omega) (by omega))
      generalize ((i : Int) + (j : Int) - (n : Int)) % (n : Int) = q at *
      have f1 : IntKind.i64.wrap ((i : Int) + (j : Int)) = (i : Int) + (j : Int) := IntWalk.i64_in _ (by omega)
      have f2 : IntKind.i64.wrap ((i : Int) + (j : Int) - (n : Int)) = (i : Int) + (j : Int) - (n : Int) := IntWalk.i64_in _ (by omega)
      have f3 : IntKind.i64.wrap ((n : Int) + q) = (n : Int) + q := IntWalk.i64_in _ (by omega)
      go_enter Try.func106, Try.ntmps106
      go_wp2_with fail
      go_quiet ((go_at_call 107; exact quiet_same (HC.out _)))
      go_wp2_with fail
      go_ret
      exact ⟨ret_i64 HF.out, (Drw.refl _).more _⟩
  · have di : ¬ (i : Int) < (n : Int) := by omega
    by_cases hjn : j < n
    · have dj : (j : Int) < (n : Int) := by omega
      have HF : Hid ((n : Int) + ((i : Int) - (n : Int) - (j : Int)) % (n : Int) = dihF n i j) := by unfold Hid; rw [HD.out]; unfold dihE; rw [if_neg (fun h => hin h.1), if_neg hin, if_pos hjn]
      have he := Int.emod_nonneg ((i : Int) - (n : Int) - (j : Int)) (show (n : Int) ≠ 0 by omega)
      have he2 := Int.emod_lt_of_pos ((i : Int) - (n : Int) - (j : Int)) hn0
      have HC := Lib.hid (fun wx => hR.out ((i : Int) - (n : Int) - (j : Int)) wx (by omega) (by omega))
      generalize ((i : Int) - (n : Int) - (j : Int)) % (n : Int) = q at *
      have f1 : IntKind.i64.wrap ((i : Int) - (n : Int)) = (i : Int) - (n : Int) := IntWalk.i64_in _ (by omega)
      have f2 : IntKind.i64.wrap ((i : Int) - (n : Int) - (j : Int)) = (i : Int) - (n : Int) - (j : Int) := IntWalk.i64_in _ (by omega)
      have f3 : IntKind.i64.wrap ((n : Int) + q) = (n : Int) + q := IntWalk.i64_in _ (by omega)
      go_enter Try.func106, Try.ntmps106
      go_wp2_with fail
      go_quiet ((go_at_call 107; exact quiet_same (HC.out _)))
      go_wp2_with fail
      go_ret
      exact ⟨ret_i64 HF.out, (Drw.refl _).more _⟩
    · have dj : ¬ (j : Int) < (n : Int) := by omega
      have HF : Hid (((i : Int) - (j : Int)) % (n : Int) = dihF n i j) := by unfold Hid; rw [HD.out]; unfold dihE; rw [if_neg (fun h => hin h.1), if_neg hin, if_neg hjn]
      have HC := Lib.hid (fun wx => hR.out ((i : Int) - (j : Int)) wx (by omega) (by omega))
      generalize ((i : Int) - (j : Int)) % (n : Int) = q at *
      go_enter Try.func106, Try.ntmps106
      go_wp2_with (go_at_call 107; refine (HC.out _).mono ?_; rintro e w' ⟨rfl, rfl⟩)
      go_ret
      exact ⟨ret_i64 HF.out, Drw.refl _⟩
set_option maxHeartbeats 4000000 in
set_option maxRecDepth 100000 in
theorem l05Dihedral_any (n : Nat) (w : World) (hn : 1 ≤ n ∧ n ≤ 5) :
    Calls Try.prog 90 #[.int .i64 n] w fun e w' => ∃ u, e = .returned (.agg #[u]) ∧ OT w.heap.size w'.heap.size w' u (mkT (2 * n) (dihF n)) ∧ Below w.heap.size w w' := by
  have M0 : Mk w.heap.size (2 * n) (dihF n) 0 (w.heap.size + 2) (.slice none 0 0) w ((w.alloc (.cells #[.slice none 0 0] 29)).alloc (.cells #[.slice none 0 0] 29)) := by
    refine ⟨?_, ?_, ?_, ?_, ⟨by omega, by simp⟩, OT.nil _ _ _, ((Below.refl _ _).alloc (Nat.le_refl _) _).alloc (by simp) _⟩
    all_goals first | rfl | (simp [go_sem]; done) | skip
  go_enter Try.func90, Try.ntmps90
  go_wp2_with fail
  generalize (w.alloc (.cells #[.slice none 0 0] 29)).alloc (.cells #[.slice none 0 0] 29) = w2 at *
  go_loopw [4] (fun iv wr => ∃ (i S : Nat) (tv : Value), i ≤ 2 * n ∧ iv = .int .i64 i ∧ Mk w.heap.size (2 * n) (dihF n) i S tv w wr) (fun iv _ => 2 * n - (intOf iv).toNat)
  case atStart => exact ⟨0, _, _, Nat.zero_le _, rfl, M0⟩
  case round =>
    obtain ⟨i, S, tv, hi, rfl, M⟩ := hrel
    clear M0
    by_cases hil : i < 2 * n
    · have hilI : (i : Int) < 2 * (n : Int) := by omega
      go_wp2_with fail
      have hb1 : Below wr.heap.size wr (wr.alloc (.cells #[] 2)) := (Below.refl _ _).alloc (Nat.le_refl _) _
      have ho0 : OI wr.heap.size (wr.alloc (.cells #[] 2)) (.slice (some ⟨wr.heap.size, 0, none⟩) 0 0) ((rowAt (mkT (2 * n) (dihF n)) i).take 0) := OK.made _ _ _ (Nat.le_refl _)
      have hR : S ≤ wr.heap.size := M.sz.2
      have M1 := M.later hb1
      have hR2 : wr.heap.size ≤ (wr.alloc (.cells #[] 2)).heap.size := by simp
      generalize wr.alloc (.cells #[] 2) = w3 at *
      generalize Value.slice (some ⟨wr.heap.size, 0, none⟩) 0 0 = v0 at *
      generalize wr.heap.size = R at *
      clear M hb1
      go_loopw [5, 6] (fun rv jv wr => ∃ j : Nat, j ≤ 2 * n ∧ jv = .int .i64 j ∧ R ≤ wr.heap.size ∧ OI R wr rv ((rowAt (mkT (2 * n) (dihF n)) i).take j) ∧ Mk w.heap.size (2 * n) (dihF n) i S tv w wr) (fun _ jv _ => 2 * n - (intOf jv).toNat)
      case atStart => exact ⟨0, Nat.zero_le _, rfl, hR2, ho0, M1⟩
      case round =>
        obtain ⟨j, hj, rfl, hRz, ho, M⟩ := hrel
        clear ho0 M1 hR2
        by_cases hjl : j < 2 * n
        · have hjlI : (j : Int) < 2 * (n : Int) := by omega
          have HT := Lib.hid (take_row (f := dihF n) hil hjl)
          have hl : ((rowAt (mkT (2 * n) (dihF n)) i).take j).length ≤ 1099511627776 := by have := List.length_take_le j (rowAt (mkT (2 * n) (dihF n)) i); omega
          have HD : Hid (dihF n i j = dihE n i j) := rfl
          have hn0 : (0 : Int) < (n : Int) := by omega
          have hn5 : (n : Int) ≤ 5 := by omega
          by_cases hin : i < n
          · have di : (i : Int) < (n : Int) := by omega
            by_cases hjn : j < n
            · have dj : (j : Int) < (n : Int) := by omega
              have HF : Hid (((i : Int) + (j : Int)) % (n : Int) = dihF n i j) := by unfold Hid; rw [HD.out]; unfold dihE; rw [if_pos ⟨hin, hjn⟩]
              generalize dihF n i j = z at *
              go_wp2_with (first
                | (at_builtin; refine wpl_app_i64 rfl _ _ rfl R _ _ rfl (ho.alloc _) _ _ _ rfl (World.cell?_alloc_at _ _ _ _ rfl) hl (by simp; omega) ?_; intro v' w5 ho5 hgr)
                | fail)
              have hb5 : Below R wr w5 := own_below ((Below.refl R wr).alloc hRz _) (ho.alloc _) hgr (by simp; omega)
              rw [HF.out] at ho5
              go_roundw
              case rel => exact ⟨j + 1, by omega, by go_num, Nat.le_trans hRz hb5.size, by rw [HT.out]; exact ho5, M.below hR hRz hb5⟩
              case measure => first | (simp [intOf]; done) | (simp [intOf]; omega)
            · have dj : ¬ (j : Int) < (n : Int) := by omega
              have HF : Hid ((n : Int) + ((i : Int) + (j : Int)) % (n : Int) = dihF n i j) := by
                unfold Hid; rw [HD.out]; unfold dihE; rw [if_neg (fun h => hjn h.2), if_pos hin, Int.sub_emod, Int.emod_self]; simp
              have he := Int.emod_nonneg ((i : Int) + (j : Int)) (show (n : Int) ≠ 0 by omega)
              have he2 := Int.emod_lt_of_pos ((i : Int) + (j : Int)) hn0
              generalize dihF n i j = z at *
              go_wp2_with (first
                | (at_builtin; refine wpl_app_i64 rfl _ _ rfl R _ _ rfl (ho.alloc _) _ _ _ rfl (World.cell?_alloc_at _ _ _ _ rfl) hl (by simp; omega) ?_; intro v' w5 ho5 hgr)
                | fail)
              have hb5 : Below R wr w5 := own_below ((Below.refl R wr).alloc hRz _) (ho.alloc _) hgr (by simp; omega)
              rw [HF.out] at ho5
              go_roundw
              case rel => exact ⟨j + 1, by omega, by go_num, Nat.le_trans hRz hb5.size, by rw [HT.out]; exact ho5, M.below hR hRz hb5⟩
              case measure => first | (simp [intOf]; done) | (simp [intOf]; omega)
          · have di : ¬ (i : Int) < (n : Int) := by omega
            by_cases hjn : j < n
            · have dj : (j : Int) < (n : Int) := by omega
              have HF : Hid ((n : Int) + ((i : Int) - (n : Int) - (j : Int)) % (n : Int) = dihF n i j) := by unfold Hid; rw [HD.out]; unfold dihE; rw [if_neg (fun h => hin h.1), if_neg hin, if_pos hjn]
              have he := Int.emod_nonneg ((i : Int) - (n : Int) - (j : Int)) (show (n : Int) ≠ 0 by omega)
              have he2 := Int.emod_lt_of_pos ((i : Int) - (n : Int) - (j : Int)) hn0
              have HC : Hid (∀ wx, Calls Try.prog 120 #[.int .i64 ((i : Int) - (n : Int) - (j : Int)), .int .i64 n] wx fun e w' => e = .returned (.int .i64 (((i : Int) - (n : Int) - (j : Int)) % (n : Int))) ∧ wx = w') := fun wx => l01Mod_any _ _ wx (by omega) (by omega)
              generalize dihF n i j = z at *
              generalize ((i : Int) - (n : Int) - (j : Int)) % (n : Int) = q at *
              go_wp2_with (first
                | (at_builtin; refine wpl_app_i64 rfl _ _ rfl R _ _ rfl (ho.alloc _) _ _ _ rfl (World.cell?_alloc_at _ _ _ _ rfl) hl (by simp; omega) ?_; intro v' w5 ho5 hgr)
                | (go_at_call 120; refine (HC.out _).mono ?_; rintro e w' ⟨rfl, rfl⟩))
              have hb5 : Below R wr w5 := own_below ((Below.refl R wr).alloc hRz _) (ho.alloc _) hgr (by simp; omega)
              rw [HF.out] at ho5
              go_roundw
              case rel => exact ⟨j + 1, by omega, by go_num, Nat.le_trans hRz hb5.size, by rw [HT.out]; exact ho5, M.below hR hRz hb5⟩
              case measure => first | (simp [intOf]; done) | (simp [intOf]; omega)
            · have dj : ¬ (j : Int) < (n : Int) := by omega
              have HF : Hid (((i : Int) - (j : Int)) % (n : Int) = dihF n i j) := by unfold Hid; rw [HD.out]; unfold dihE; rw [if_neg (fun h => hin h.1), if_neg hin, if_neg hjn]
              have HC : Hid (∀ wx, Calls Try.prog 120 #[.int .i64 ((i : Int) - (j : Int)), .int .i64 n] wx fun e w' => e = .returned (.int .i64 (((i : Int) - (j : Int)) % (n : Int))) ∧ wx = w') := fun wx => l01Mod_any _ _ wx (by omega) (by omega)
              generalize dihF n i j = z at *
              generalize ((i : Int) - (j : Int)) % (n : Int) = q at *
              go_wp2_with (first
                | (at_builtin; refine wpl_app_i64 rfl _ _ rfl R _ _ rfl (ho.alloc _) _ _ _ rfl (World.cell?_alloc_at _ _ _ _ rfl) hl (by simp; omega) ?_; intro v' w5 ho5 hgr)
                | (go_at_call 120; refine (HC.out _).mono ?_; rintro e w' ⟨rfl, rfl⟩))
              have hb5 : Below R wr w5 := own_below ((Below.refl R wr).alloc hRz _) (ho.alloc _) hgr (by simp; omega)
              rw [HF.out] at ho5
              go_roundw
              case rel => exact ⟨j + 1, by omega, by go_num, Nat.le_trans hRz hb5.size, by rw [HT.out]; exact ho5, M.below hR hRz hb5⟩
              case measure => first | (simp [intOf]; done) | (simp [intOf]; omega)
        · obtain rfl : j = 2 * n := by omega
          rw [List.take_of_length_le (by rw [mkT_rowlen _ _ _ hil]; omega)] at ho
          obtain ⟨ra, rc, rfl⟩ := ho.slice
          rw [mkT_rowlen _ _ _ hil] at *
          obtain ⟨rs, h1, h2, h3⟩ := M.t
          have hc1 := M.c1
          have hf1 := M.f1
          have hsz := M.sz
          have hrl : rs.length ≤ 1099511627776 := by
            have := h3.1
            rw [List.length_take, mkT_len] at this
            omega
          obtain ⟨ta, tc, rfl⟩ := h1.slice
          have HNX : Hid (∀ tv' w5, OV 26 (w.heap.size + 2) w5 tv' (rs ++ [.slice ra (2 * n) rc]) → (wr.alloc (.cells #[.slice ra (2 * n) rc] 26)).grownBy w5 (Value.slice ta rs.length tc).ownBlock →
              w5.cell? ⟨w.heap.size + 1, 0, none⟩ = some (.slice ta rs.length tc) ∧ w5.frozen? ⟨w.heap.size + 1, 0, none⟩ = false ∧ Mk w.heap.size (2 * n) (dihF n) (i + 1) w5.heap.size tv' w (w5.setCell ⟨w.heap.size + 1, 0, none⟩ tv')) := fun tv' w5 hv hg => by
            have hB : Below (w.heap.size + 2) wr w5 := own_below ((Below.refl (w.heap.size + 2) wr).alloc (by omega) _) (h1.alloc _) hg (by simp; omega)
            exact ⟨(hB.cell (p := ⟨w.heap.size + 1, 0, none⟩) (by show w.heap.size + 1 < _; omega)).trans hc1, (hB.frozen (p := ⟨w.heap.size + 1, 0, none⟩) (by show w.heap.size + 1 < _; omega)).trans hf1,
              M.next hil h1 h3 (ho.mono hR) hv hg⟩
          clear M h2 h3
          go_wp2_with (at_builtin; refine wpl_app Try.underlying22 info_row rfl (by omega) rfl _ _ rfl (w.heap.size + 2) _ rs rfl (h1.alloc _) _ _ _ rfl (World.cell?_alloc_at _ _ _ _ rfl) rfl hrl (by simp; omega) ?_; intro tv' w5 hv hg; obtain ⟨hc5, hf5, M5⟩ := HNX.out tv' w5 hv hg; obtain ⟨tb, td, hte⟩ := hv.slice; simp only [List.length_append, List.length_cons, List.length_nil, Nat.zero_add] at hte; subst hte)
          go_roundw
          case rel => exact ⟨i + 1, _, _, by omega, by go_num, M5⟩
          case measure => first | (simp [intOf]; done) | (simp [intOf]; omega)
    · obtain rfl : i = 2 * n := by omega
      have ht := M.t
      rw [List.take_of_length_le (by rw [mkT_len]; exact Nat.le_refl _)] at ht
      obtain ⟨ta, tc, hte⟩ := ht.slice
      rw [mkT_len] at hte
      subst hte
      have hc0 := M.c0
      have hf0 := M.f0
      have hc1 := M.c1
      have hf1 := M.f1
      have hsz := M.sz
      have hz : w.heap.size < wr.heap.size := by omega
      have HE : Hid (OT w.heap.size (wr.setCell ⟨w.heap.size, 0, none⟩ (.slice ta (2 * n) tc)).heap.size (wr.setCell ⟨w.heap.size, 0, none⟩ (.slice ta (2 * n) tc)) (.slice ta (2 * n) tc) (mkT (2 * n) (dihF n)) ∧ Below w.heap.size w (wr.setCell ⟨w.heap.size, 0, none⟩ (.slice ta (2 * n) tc))) := by
        refine ⟨((ht.keep fun k h1 h2 => heap_setCell_other _ _ _ _ (by show k ≠ w.heap.size; omega)).monoB (by omega)).mono (by simp; omega), M.b.setCell (Nat.le_refl _) _⟩
      clear ht M
      go_wp2_with fail
      exact bodyPost_ret (v := .agg #[.slice ta (2 * n) tc]) (by simp [results, Try.results90, go_sem, hc0, hz]) rfl ⟨_, rfl, HE.out⟩

def dihX (n : Int) : List (List Int) := if inB n 1 5 then mkT (2 * n.toNat) (dihF n.toNat) else []
theorem dihX_small (n : Int) : (dihX n).length ≤ 1048576 ∧ Small (dihX n) ∧ tot (dihX n) ≤ 1048576 := by
  unfold dihX
  split
  · rename_i h
    have := inB_iff.1 h
    exact mkT_small _ _ (by omega)
  · exact ⟨by simp, fun j hj => by simp at hj, by simp [tot]⟩
set_option maxHeartbeats 2000000 in
theorem madeDih (n : Nat) (f : Nat → Nat → Int) (p : Nat) (w : World) (hn : n ≤ 1000) (hcap : True)
    (hf : Hid (∀ w1 i j, i < n → j < n → Below w.heap.size w w1 → Calls Try.prog 106 #[.int .i64 (i : Nat), .int .i64 (j : Nat), .pointer (some ⟨p, 0, none⟩)] w1 fun e w' => e = .returned (.int .i64 (f i j)) ∧ Drw w1 w')) :
    Calls Try.prog 67 #[.int .i64 n, .func (.func 106) #[] #[.pointer (some ⟨p, 0, none⟩)]] w fun e w' => ∃ v', e = .returned v' ∧ OT w.heap.size w'.heap.size w' v' (mkT n f) ∧ Below w.heap.size w w' := by
  go_enter Try.func67, Try.ntmps67
  go_wp2_with fail
  refine (blank_any n w (by omega)).mono ?_
  rintro e w1 ⟨v, rfl, ho, hb⟩
  rw [← upTo_none n f] at ho
  have hl0 := mkT_len n (upTo f 0 0)
  obtain ⟨a, c, hv⟩ := ho.slice
  rw [hl0] at hv
  subst hv
  generalize hS : w1.heap.size = S at *
  have hSw : S ≤ w1.heap.size := by omega
  clear hl0 hS
  go_wp2_with fail
  go_loopw [12] (fun iv wr => ∃ i : Nat, i ≤ n ∧ iv = .int .i64 i ∧ S ≤ wr.heap.size ∧ OT w.heap.size S wr (.slice a n c) (mkT n (upTo f i 0)) ∧ Below w.heap.size w wr) (fun iv _ => n - (intOf iv).toNat)
  case atStart => exact ⟨0, Nat.zero_le _, rfl, hSw, ho, hb⟩
  case round =>
    obtain ⟨i, hi, rfl, hSz, ho, hb⟩ := hrel
    clear hSw
    by_cases hil : i < n
    · obtain ⟨g, c0, H, rc, hv, hc, hne, hBH, hHS, hcell⟩ := ho.at i (by rw [mkT_len]; exact hil) (by rw [mkT_rowlen _ _ _ hil]; omega)
      rw [mkT_len] at hv
      rw [mkT_rowlen _ _ _ hil] at hc
      simp only [Value.slice.injEq, true_and] at hv
      obtain ⟨rfl, rfl⟩ := hv
      clear hcell
      go_wp2_with fail
      go_loopw [20] (fun jv wr => ∃ j : Nat, j ≤ n ∧ jv = .int .i64 j ∧ S ≤ wr.heap.size ∧ OT w.heap.size S wr (.slice (some ⟨g, 0, none⟩) n c) (mkT n (upTo f i j)) ∧ Below w.heap.size w wr) (fun jv _ => n - (intOf jv).toNat)
      case atStart => exact ⟨0, Nat.zero_le _, rfl, hSz, ho, hb⟩
      case round =>
        obtain ⟨j, hj, rfl, hSz, ho, hb⟩ := hrel
        clear hc
        by_cases hjl : j < n
        · obtain ⟨g', c0', H', rc', hv, hc, hne, hBH, hHS, hcell⟩ := ho.at i (by rw [mkT_len]; exact hil) (by rw [mkT_rowlen _ _ _ hil]; omega)
          rw [mkT_len] at hv
          rw [mkT_rowlen _ _ _ hil] at hc
          simp only [Value.slice.injEq, Option.some.injEq, Addr.mk.injEq, true_and, and_true] at hv
          obtain ⟨rfl, rfl⟩ := hv
          have HST : Hid (∀ wy, Below wr.heap.size wr wy → wy.cell? ⟨g, i, none⟩ = some (.slice (some ⟨H', 0, none⟩) n rc') ∧ wy.cell? ⟨H', j, none⟩ = some (.int .i64 ((rowAt (mkT n (upTo f i j)) i).getD j 0)) ∧ wy.frozen? ⟨H', j, none⟩ = false ∧
              (wy.setCell ⟨H', j, none⟩ (.int .i64 (f i j))).cell? ⟨g, i, none⟩ = some (.slice (some ⟨H', 0, none⟩) n rc') ∧ S ≤ (wy.setCell ⟨H', j, none⟩ (.int .i64 (f i j))).heap.size ∧ OT w.heap.size S (wy.setCell ⟨H', j, none⟩ (.int .i64 (f i j))) (.slice (some ⟨g, 0, none⟩) n c) (mkT n (upTo f i (j + 1))) ∧ Below w.heap.size w (wy.setCell ⟨H', j, none⟩ (.int .i64 (f i j)))) := fun wy hby => by
            obtain ⟨g2, c2, H2, rc2, hv2, hc2, hne2, hBH2, hHS2, hcell2⟩ := (ho.later hby hSz).at i (by rw [mkT_len]; exact hil) (by rw [mkT_rowlen _ _ _ hil]; omega)
            rw [mkT_len] at hv2
            rw [mkT_rowlen _ _ _ hil] at hc2
            simp only [Value.slice.injEq, Option.some.injEq, Addr.mk.injEq, true_and, and_true] at hv2
            obtain ⟨rfl, rfl⟩ := hv2
            have hce := (hby.cell (p := ⟨g, i, none⟩) (World.block_lt_of_cell? wr _ hc)).trans hc
            rw [hce] at hc2
            simp only [Option.some.injEq, Value.slice.injEq, Addr.mk.injEq, true_and, and_true] at hc2
            obtain ⟨rfl, rfl⟩ := hc2
            obtain ⟨hc3, hfz, hst⟩ := hcell2 j (by rw [mkT_rowlen _ _ _ hil]; exact hjl)
            have hst2 := hst (f i j)
            rw [mkT_set n f i j hil hjl] at hst2
            refine ⟨hce, hc3, hfz, ?_, by have := hby.size; simp; omega, hst2.1, (hb.trans (hby.mono hb.size)).setCell hBH2 _⟩
            have h1 := heap_setCell_other wy ⟨H', j, none⟩ g (.int .i64 (f i j)) hne2
            rw [← hce]
            unfold World.cell?
            simp only [h1]
          have f0 : (0 : Int) ≤ (i : Int) := by omega
          have f1 : (i : Int) < (n : Int) := by omega
          have f2 : (0 : Int) ≤ (j : Int) := by omega
          have f3 : (j : Int) < (n : Int) := by omega
          have hcall := hf.out wr.drew i j hil hjl hb.drew
          have HCL := Lib.hid hcall
          clear hcell hcall ho
          generalize f i j = z at *
          generalize (rowAt (mkT n (upTo f i j)) i).getD j 0 = z0 at *
          go_wp2_with fail
          go_region_held3 (fun w' => w'.cell? ⟨g, i, none⟩ = some (.slice (some ⟨H', 0, none⟩) n rc')) (first | go_keep | exact hcs | exact hcy)
            (first | (go_at_call 106; refine (HCL.out).mono ?_; rintro e w3 ⟨rfl, hd⟩; obtain ⟨hcy, hcz, hfz, hcs, hS2, ho2, hb2⟩ := HST.out w3 ((Below.refl _ wr).drew.trans hd.below)))
          go_wp2_with fail
          go_roundw
          case rel => exact ⟨j + 1, by omega, by go_num, by first | exact hS2 | simpa using hS2, by first | exact ho2 | exact ho2.drew, by first | exact hb2 | exact hb2.drew⟩
          case measure => first | (simp [intOf]; done) | (simp [intOf]; omega)
        · obtain rfl : j = n := by omega
          rw [upTo_row] at ho
          go_wp2_with fail
          go_roundw
          case rel => exact ⟨i + 1, by omega, by go_num, hSz, ho, hb⟩
          case measure => first | (simp [intOf]; done) | (simp [intOf]; omega)
    · obtain rfl : i = n := by omega
      rw [upTo_all] at ho
      go_wp2_with fail
      go_ret
      exact ⟨_, rfl, ho.mono hSz, hb⟩
set_option maxHeartbeats 1000000 in
theorem dihedral_any (q : Nat) (w : World) (h12 : 1 ≤ q ∧ q ≤ 5) :
    Calls Try.prog 66 #[.int .i64 q] w fun e w' => ∃ u, e = .returned (.agg #[u]) ∧ OT w.heap.size w'.heap.size w' u (mkT (2 * q) (dihF q)) ∧ Below w.heap.size w w' := by
  obtain ⟨h1, h2⟩ := h12
  have hs1 : w.heap.size + 1 < ((w.alloc (.cells #[.int .i64 q] 2)).alloc (.cells #[.slice none 0 0] 29)).heap.size := by simp
  have hb1 : Below w.heap.size w ((w.alloc (.cells #[.int .i64 q] 2)).alloc (.cells #[.slice none 0 0] 29)) := ((Below.refl _ _).alloc (Nat.le_refl _) _).alloc (by simp) _
  have hcp : ((w.alloc (.cells #[.int .i64 q] 2)).alloc (.cells #[.slice none 0 0] 29)).cell? ⟨w.heap.size, 0, none⟩ = some (.int .i64 q) := by
    rw [World.cell?_alloc_past _ _ _ (by simp), World.cell?_alloc_at _ _ _ _ rfl]; rfl
  have hmf : ∀ (fn : Fn) (first cap : Array Value) (w : World), (Instr.makeFunc fn first cap).run Try.prog w = .ok (.func fn first cap) w := fun _ _ _ _ => rfl
  have hM := madeDih (2 * q) (dihF q) w.heap.size ((w.alloc (.cells #[.int .i64 q] 2)).alloc (.cells #[.slice none 0 0] 29)) (by omega) trivial fun w1 i j hi hj hb =>
      dih1_any q i j w.heap.size w1 ⟨by omega, by omega⟩ hi hj ((hb.cell (p := ⟨w.heap.size, 0, none⟩) (by show w.heap.size < _; omega)).trans hcp)
  rw [show ((2 * q : Nat) : Int) = 2 * (q : Int) by omega] at hM
  have HM := Lib.hid hM
  clear hcp hM
  go_enter Try.func66, Try.ntmps66
  go_wp2_with fail
  refine (HM.out).mono ?_
  rintro e w2 ⟨u, rfl, ho, hb2⟩
  obtain ⟨ua, uc, rfl⟩ := ho.slice
  obtain ⟨hc, hf⟩ := bcell hb2
  have hz : w.heap.size + 1 < w2.heap.size := Nat.lt_of_lt_of_le hs1 hb2.size
  have HE : Hid (OT w.heap.size (w2.setCell ⟨w.heap.size + 1, 0, none⟩ (.slice ua (mkT (2 * q) (dihF q)).length uc)).heap.size (w2.setCell ⟨w.heap.size + 1, 0, none⟩ (.slice ua (mkT (2 * q) (dihF q)).length uc)) (.slice ua (mkT (2 * q) (dihF q)).length uc) (mkT (2 * q) (dihF q)) ∧ Below w.heap.size w (w2.setCell ⟨w.heap.size + 1, 0, none⟩ (.slice ua (mkT (2 * q) (dihF q)).length uc))) := by
    refine ⟨?_, (hb1.trans (hb2.mono hb1.size)).setCell (by show w.heap.size ≤ w.heap.size + 1; omega) _⟩
    exact ((ho.keep fun k h1 h2 => heap_setCell_other _ _ _ _ (by show k ≠ w.heap.size + 1; omega)).monoB (by omega)).mono (by simp)
  clear ho hb2
  go_wp2_with fail
  exact bodyPost_ret (v := .agg #[.slice ua (mkT (2 * q) (dihF q)).length uc]) (by simp [results, Try.results66, go_sem, hc, hz]) rfl ⟨_, rfl, HE.out⟩
set_option maxHeartbeats 1000000 in
theorem implDih_any (n : Int) (w : World) :
    Calls Try.prog 34 #[.int .i64 n] w (GrPost (dihX n) (inB n 1 5) w) := by
  cases hi : inB n 1 5
  · have HI := Lib.hid hi
    have HX : Hid (dihX n = []) := by unfold Hid dihX; rw [hi]; rfl
    clear hi
    go_enter Try.func34, Try.ntmps34
    go_wp2_with (go_at_call 64; refine (in_is _ _ _ _ false HI).mono ?_; rintro e w' ⟨rfl, rfl⟩)
    exact bodyPost_ret (v := .tuple #[.agg #[.slice none 0 0], .bool false]) (by simp [results, Try.results34, go_sem]) rfl ⟨_, rfl, by rw [HX.out]; exact OT.nil _ _ _, (Below.refl _ _).alloc (Nat.le_refl _) _⟩
  · have HI := Lib.hid hi
    obtain ⟨h1, h2⟩ := inB_iff.1 hi
    obtain ⟨q, rfl⟩ := Int.eq_ofNat_of_zero_le (show 0 ≤ n by omega)
    have HX : Hid (dihX (q : Int) = (mkT (2 * q) (dihF q))) := by unfold Hid dihX; rw [hi]; rfl
    have hb1 : Below w.heap.size w (w.alloc (.cells #[.slice none 0 0] 29)) := (Below.refl _ _).alloc (Nat.le_refl _) _
    have hs1 : w.heap.size < (w.alloc (.cells #[.slice none 0 0] 29)).heap.size := by simp
    clear hi
    go_enter Try.func34, Try.ntmps34
    go_wp2_with (go_at_call 64; refine (in_is _ _ _ _ true HI).mono ?_; rintro e w' ⟨rfl, rfl⟩)
    refine (dihedral_any q _ ⟨by omega, by omega⟩).mono ?_
    rintro e w2 ⟨u, rfl, ho, hb2⟩
    obtain ⟨ua, uc, rfl⟩ := ho.slice
    obtain ⟨hc, hf⟩ := bcell hb2
    have hz : w.heap.size < w2.heap.size := Nat.lt_of_lt_of_le hs1 hb2.size
    have HE : Hid (OT w.heap.size (w2.setCell ⟨w.heap.size, 0, none⟩ (.slice ua ((mkT (2 * q) (dihF q))).length uc)).heap.size (w2.setCell ⟨w.heap.size, 0, none⟩ (.slice ua ((mkT (2 * q) (dihF q))).length uc)) (.slice ua ((mkT (2 * q) (dihF q))).length uc) (dihX (q : Int)) ∧ Below w.heap.size w (w2.setCell ⟨w.heap.size, 0, none⟩ (.slice ua ((mkT (2 * q) (dihF q))).length uc))) := by
      refine ⟨?_, (hb1.trans (hb2.mono (Nat.le_of_lt hs1))).setCell (Nat.le_refl _) _⟩
      rw [HX.out]
      exact ((ho.keep fun k h1 h2 => heap_setCell_other _ _ _ _ (by show k ≠ w.heap.size; omega)).monoB (by omega)).mono (by simp)
    clear ho hb2
    go_wp2_with fail
    exact bodyPost_ret (v := .tuple #[.agg #[.slice ua ((mkT (2 * q) (dihF q))).length uc], .bool true]) (by simp [results, Try.results34, go_sem, hc, hz]) rfl ⟨_, rfl, HE.out⟩
end Go.Proofs.Ytghmpaegmicheaa
