/- l04Swaps, l04Chains, l04Totally: the reference's. -/
import Derived.Test.YthcnhkjiojeemaaTotM
import Derived.Deep.QuietTactic
import Derived.BigQuiet
namespace Go.Proofs.Ythcnhkjiojeemaa
open Go.RowKit

def CntP (c : Nat) (P : Prop) : Prop := c = 0 ↔ P
theorem CntP.yes {c : Nat} {P Q : Prop} (h : CntP c P) (hq : Q ↔ P) : CntP c Q := by unfold CntP at *; rw [hq]; exact h
theorem CntP.no {c : Nat} {Q : Prop} (hq : ¬ Q) : CntP (c + 1) Q := by unfold CntP; simp [hq]
def SwPost (b : Bool) (w : World) (e : Ending) (w' : World) : Prop := ∃ c : Nat, e = .returned (.int .i64 c) ∧ Hid (Cnt c b) ∧ Drw w w'
theorem SwPost.mk {P : Prop} {b : Bool} {w w' : World} (c : Nat) (h1 : Hid (CntP c P)) (hb : b = true ↔ P) (h2 : Drw w w') : SwPost b w (.returned (.int .i64 c)) w' := ⟨c, rfl, by unfold Hid Cnt; rw [hb]; exact h1.out, h2⟩
set_option maxHeartbeats 2000000 in
theorem l04Swaps_any (x : List (List Int)) (C : Nat) (w : World) {G O : Nat} {H F P : Nat → Nat} (hn : 1 ≤ x.length ∧ x.length ≤ 36) (hsq : SqAt G O H F P x w) :
    Calls Try.prog 74 #[.slice (some ⟨G, O, none⟩) x.length C] w (SwPost (swB x) w) := by
  have HSQ : Hid (∀ wx, Drw w wx → SqAt G O H F P x wx) := fun wx h => hsq.later h.below
  obtain ⟨hn1, hn2⟩ := hn
  clear hsq
  go_enter Try.func74, Try.ntmps74
  go_wp2_with fail
  go_loopw [3, 4] (fun cv iv wr => ∃ k c : Nat, k ≤ x.length ∧ iv = .int .i64 k ∧ cv = .int .i64 c ∧ c ≤ 36 * k ∧ Hid (CntP c (∀ i j, i < k → i < j → j < x.length → tb x i j ≠ tb x j i)) ∧ Drw w wr) (fun _ iv _ => x.length - (intOf iv).toNat)
  case atStart => exact ⟨0, 0, Nat.zero_le _, rfl, rfl, Nat.zero_le _, Lib.hid ⟨fun _ i j hi => by omega, fun _ => rfl⟩, Drw.refl _⟩
  case round =>
    obtain ⟨k, c, hk, rfl, rfl, hc, HC, hb⟩ := hrel
    by_cases hlt : k < x.length
    · have hki : (k : Int) < (x.length : Int) := by omega
      go_wp2_with fail
      go_loopw [3, 5] (fun cv jv wq => ∃ j c : Nat, k + 1 ≤ j ∧ j ≤ x.length ∧ jv = .int .i64 j ∧ cv = .int .i64 c ∧ c ≤ 36 * k + j ∧ Hid (CntP c ((∀ i j, i < k → i < j → j < x.length → tb x i j ≠ tb x j i) ∧ ∀ q, k < q → q < j → tb x k q ≠ tb x q k)) ∧ Drw w wq) (fun _ jv _ => x.length - (intOf jv).toNat)
      case atStart => exact ⟨k + 1, c, Nat.le_refl _, by omega, by go_num, rfl, by omega, Lib.hid (HC.out.yes ⟨fun h => h.1, fun h => ⟨h, fun q h1 h2 => by omega⟩⟩), hb⟩
      case round =>
        clear hb HC hc
        obtain ⟨j, c, hj0, hj, rfl, rfl, hc, HC, hb⟩ := hrel
        by_cases hjn : j < x.length
        · have hsq := HSQ.out _ hb
          have hjni : (j : Int) < (x.length : Int) := by omega
          have r1 := hsq.row k hlt
          have r2 := hsq.row j hjn
          have r3 := hsq.cell k j hlt hjn
          have r4 := hsq.cell j k hjn hlt
          clear hsq
          have HY : Hid (tb x k j ≠ tb x j k → CntP c ((∀ i j, i < k → i < j → j < x.length → tb x i j ≠ tb x j i) ∧ ∀ q, k < q → q < j + 1 → tb x k q ≠ tb x q k)) := fun hne => HC.out.yes ⟨fun h => ⟨h.1, fun q h1 h2 => h.2 q h1 (by omega)⟩, fun h => ⟨h.1, fun q h1 h2 => by
            by_cases e : q = j
            · subst e; exact hne
            · exact h.2 q h1 (by omega)⟩⟩
          have HNo : Hid (tb x k j = tb x j k → CntP (c + 1) ((∀ i j, i < k → i < j → j < x.length → tb x i j ≠ tb x j i) ∧ ∀ q, k < q → q < j + 1 → tb x k q ≠ tb x q k)) := fun he => CntP.no fun h => h.2 j (by omega) (by omega) he
          generalize tb x k j = z1 at *
          generalize tb x j k = z2 at *
          by_cases he : z1 = z2
          · have b1 : (z1 == z2) = true := by simp [he]
            have HC2 := Lib.hid (HNo.out he)
            clear he HY HNo
            go_wp2_with fail
            go_quiet (fail)
            go_wp2_with fail
            go_roundw
            case rel => exact ⟨j + 1, c + 1, by omega, by omega, by go_num, by go_num, by omega, HC2, hb.more _⟩
            case measure => first | (simp [intOf]; done) | (simp [intOf]; omega)
          · have b1 : (z1 == z2) = false := by simp [he]
            have HC2 := Lib.hid (HY.out he)
            clear he HY HNo
            go_wp2_with fail
            go_quiet (fail)
            go_wp2_with fail
            go_roundw
            case rel => exact ⟨j + 1, c, by omega, by omega, by go_num, rfl, by omega, HC2, hb.more _⟩
            case measure => first | (simp [intOf]; done) | (simp [intOf]; omega)
        · obtain rfl : j = x.length := by omega
          have HC2 : Hid (CntP c (∀ i j, i < k + 1 → i < j → j < x.length → tb x i j ≠ tb x j i)) := HC.out.yes ⟨fun h => ⟨fun i j h1 h2 h3 => h i j (by omega) h2 h3, fun q h1 h2 => h k q (by omega) h1 h2⟩, fun h i j h1 h2 h3 => by
            by_cases e : i = k
            · subst e; exact h.2 j h2 h3
            · exact h.1 i j (by omega) h2 h3⟩
          go_wp2_with fail
          go_roundw
          case rel => exact ⟨k + 1, c, by omega, by go_num, rfl, by omega, HC2, hb⟩
          case measure => first | (simp [intOf]; done) | (simp [intOf]; omega)
    · obtain rfl : k = x.length := by omega
      go_wp2_with fail
      go_ret
      exact SwPost.mk c HC (swB_iff.trans ⟨fun h i j _ h2 h3 e => h j i h3 h2 e.symm, fun h i j h1 h2 e => h j i (by omega) h2 h1 e.symm⟩) hb
set_option maxHeartbeats 4000000 in
theorem l04Chains_any (x : List (List Int)) (C : Nat) (w : World) {G O : Nat} {H F P : Nat → Nat} (hn : 1 ≤ x.length ∧ x.length ≤ 36) (hsq : SqAt G O H F P x w) (hbd : ∀ i j, i < x.length → j < x.length → 0 ≤ tb x i j ∧ tb x i j < x.length) :
    Calls Try.prog 75 #[.slice (some ⟨G, O, none⟩) x.length C] w (SwPost (chB x) w) := by
  have HSQ : Hid (∀ wx, Drw w wx → SqAt G O H F P x wx) := fun wx h => hsq.later h.below
  have HBD : Hid (∀ i j, i < x.length → j < x.length → ∃ z : Nat, tb x i j = (z : Int) ∧ z < x.length) := fun i j hi hj => by
    have := hbd i j hi hj
    obtain ⟨z, hz⟩ := Int.eq_ofNat_of_zero_le this.1
    exact ⟨z, hz, by omega⟩
  obtain ⟨hn1, hn2⟩ := hn
  clear hsq hbd
  obtain ⟨R, hR⟩ : ∃ R : Nat → Nat → Nat → Prop, R = fun r i j => tb x (tb x r i).toNat j ≠ tb x (tb x r j).toNat i := ⟨_, rfl⟩
  have HR := Lib.hid hR
  clear hR
  go_enter Try.func75, Try.ntmps75
  go_wp2_with fail
  go_loopw [3, 4] (fun cv iv wr => ∃ r c : Nat, r ≤ x.length ∧ iv = .int .i64 r ∧ cv = .int .i64 c ∧ c ≤ 1296 * r ∧ Hid (CntP c (∀ q, q < r → ∀ i j, i < x.length → i < j → j < x.length → R q i j)) ∧ Drw w wr) (fun _ iv _ => x.length - (intOf iv).toNat)
  case atStart => exact ⟨0, 0, Nat.zero_le _, rfl, rfl, Nat.zero_le _, Lib.hid ⟨fun _ i hi => by omega, fun _ => rfl⟩, Drw.refl _⟩
  case round =>
    obtain ⟨r, c, hrn, rfl, rfl, hc, HC, hb⟩ := hrel
    by_cases hrl : r < x.length
    · have hri : (r : Int) < (x.length : Int) := by omega
      obtain ⟨A, hA⟩ : ∃ A : Prop, A = ∀ q, q < r → ∀ i j, i < x.length → i < j → j < x.length → R q i j := ⟨_, rfl⟩
      rw [← hA] at HC
      have HA := Lib.hid hA
      clear hA
      go_wp2_with fail
      go_loopw [3, 5] (fun cv iv wq => ∃ k c : Nat, k ≤ x.length ∧ iv = .int .i64 k ∧ cv = .int .i64 c ∧ c ≤ 1296 * r + 36 * k ∧ Hid (CntP c (A ∧ ∀ i j, i < k → i < j → j < x.length → R r i j)) ∧ Drw w wq) (fun _ iv _ => x.length - (intOf iv).toNat)
      case atStart => exact ⟨0, c, Nat.zero_le _, rfl, rfl, by omega, Lib.hid (HC.out.yes ⟨fun h => h.1, fun h => ⟨h, fun i j hi => by omega⟩⟩), hb⟩
      case round =>
        clear hb HC hc
        obtain ⟨k, c, hk, rfl, rfl, hc, HC, hb⟩ := hrel
        by_cases hlt : k < x.length
        · have hki : (k : Int) < (x.length : Int) := by omega
          go_wp2_with fail
          go_loopw [3, 6] (fun cv jv wq => ∃ j c : Nat, k + 1 ≤ j ∧ j ≤ x.length ∧ jv = .int .i64 j ∧ cv = .int .i64 c ∧ c ≤ 1296 * r + 36 * k + j ∧ Hid (CntP c ((A ∧ ∀ i j, i < k → i < j → j < x.length → R r i j) ∧ ∀ q, k < q → q < j → R r k q)) ∧ Drw w wq) (fun _ jv _ => x.length - (intOf jv).toNat)
          case atStart => exact ⟨k + 1, c, Nat.le_refl _, by omega, by go_num, rfl, by omega, Lib.hid (HC.out.yes ⟨fun h => h.1, fun h => ⟨h, fun q h1 h2 => by omega⟩⟩), hb⟩
          case round =>
            clear hb HC hc
            obtain ⟨j, c, hj0, hj, rfl, rfl, hc, HC, hb⟩ := hrel
            by_cases hjn : j < x.length
            · have hsq := HSQ.out _ hb
              have hjni : (j : Int) < (x.length : Int) := by omega
              obtain ⟨p, hp, hpn⟩ := HBD.out r k hrl hlt
              obtain ⟨q, hq, hqn⟩ := HBD.out r j hrl hjn
              have r0 := hsq.row r hrl
              have r1 := hsq.cell r k hrl hlt
              have r2 := hsq.cell r j hrl hjn
              rw [hp] at r1
              rw [hq] at r2
              have r3 := hsq.row p hpn
              have r4 := hsq.row q hqn
              have r5 := hsq.cell p j hpn hjn
              have r6 := hsq.cell q k hqn hlt
              have hpi : (p : Int) < (x.length : Int) := by omega
              have hqi : (q : Int) < (x.length : Int) := by omega
              have HS : Hid (R r k j ↔ tb x p j ≠ tb x q k) := by unfold Hid; rw [HR.out]; simp only [hp, hq]; rfl
              clear hsq hp hq
              have HY : Hid (tb x p j ≠ tb x q k → CntP c ((A ∧ ∀ i j, i < k → i < j → j < x.length → R r i j) ∧ ∀ q, k < q → q < j + 1 → R r k q)) := fun hne => HC.out.yes ⟨fun h => ⟨h.1, fun q h1 h2 => h.2 q h1 (by omega)⟩, fun h => ⟨h.1, fun q h1 h2 => by
                by_cases e : q = j
                · subst e; exact HS.out.2 hne
                · exact h.2 q h1 (by omega)⟩⟩
              have HNo : Hid (tb x p j = tb x q k → CntP (c + 1) ((A ∧ ∀ i j, i < k → i < j → j < x.length → R r i j) ∧ ∀ q, k < q → q < j + 1 → R r k q)) := fun he => CntP.no fun h => HS.out.1 (h.2 j (by omega) (by omega)) he
              generalize tb x p j = z1 at *
              generalize tb x q k = z2 at *
              by_cases he : z1 = z2
              · have b1 : (z1 == z2) = true := by simp [he]
                have HC2 := Lib.hid (HNo.out he)
                clear he HY HNo
                go_wp2_with fail
                go_quiet (fail)
                go_wp2_with fail
                go_roundw
                case rel => exact ⟨j + 1, c + 1, by omega, by omega, by go_num, by go_num, by omega, HC2, hb.more _⟩
                case measure => first | (simp [intOf]; done) | (simp [intOf]; omega)
              · have b1 : (z1 == z2) = false := by simp [he]
                have HC2 := Lib.hid (HY.out he)
                clear he HY HNo
                go_wp2_with fail
                go_quiet (fail)
                go_wp2_with fail
                go_roundw
                case rel => exact ⟨j + 1, c, by omega, by omega, by go_num, rfl, by omega, HC2, hb.more _⟩
                case measure => first | (simp [intOf]; done) | (simp [intOf]; omega)
            · obtain rfl : j = x.length := by omega
              have HC2 : Hid (CntP c (A ∧ ∀ i j, i < k + 1 → i < j → j < x.length → R r i j)) := HC.out.yes ⟨fun h => ⟨⟨h.1, fun i j h1 h2 h3 => h.2 i j (by omega) h2 h3⟩, fun q h1 h2 => h.2 k q (by omega) h1 h2⟩, fun h => ⟨h.1.1, fun i j h1 h2 h3 => by
                by_cases e : i = k
                · subst e; exact h.2 j h2 h3
                · exact h.1.2 i j (by omega) h2 h3⟩⟩
              go_wp2_with fail
              go_roundw
              case rel => exact ⟨k + 1, c, by omega, by go_num, rfl, by omega, HC2, hb⟩
              case measure => first | (simp [intOf]; done) | (simp [intOf]; omega)
        · obtain rfl : k = x.length := by omega
          have HC2 : Hid (CntP c (∀ q, q < r + 1 → ∀ i j, i < x.length → i < j → j < x.length → R q i j)) := HC.out.yes ⟨fun h => ⟨by rw [HA.out]; exact fun q hq => h q (by omega), h r (by omega)⟩, fun h q hq => by
            by_cases e : q = r
            · subst e; exact h.2
            · have h1 := h.1
              rw [HA.out] at h1
              exact h1 q (by omega)⟩
          go_wp2_with fail
          go_roundw
          case rel => exact ⟨r + 1, c, by omega, by go_num, rfl, by omega, HC2, hb⟩
          case measure => first | (simp [intOf]; done) | (simp [intOf]; omega)
    · obtain rfl : r = x.length := by omega
      have HE : chB x = true ↔ ∀ q, q < x.length → ∀ i j, i < x.length → i < j → j < x.length → R q i j := by
        rw [chB_iff, HR.out]
        exact ⟨fun h q hq i j _ h2 h3 e => h q j i hq h3 h2 e.symm, fun h q i j hq h1 h2 e => h q hq j i (by omega) h2 h1 e.symm⟩
      have HE := Lib.hid HE
      go_wp2_with fail
      go_ret
      exact SwPost.mk c HC HE.out hb
set_option maxHeartbeats 1000000 in
theorem l04Tot_any (x : List (List Int)) (C : Nat) (w : World) {G O : Nat} {H F P : Nat → Nat} (hn : 1 ≤ x.length ∧ x.length ≤ 36) (hsq : SqAt G O H F P x w) (hbd : ∀ i j, i < x.length → j < x.length → 0 ≤ tb x i j ∧ tb x i j < x.length) :
    Calls Try.prog 64 #[.slice (some ⟨G, O, none⟩) x.length C] w fun e w' => e = .returned (.bool (swB x && chB x)) ∧ Drw w w' := by
  have H1 := Lib.hid (l04Swaps_any x C w hn hsq)
  have H2 : Hid (∀ wx, Drw w wx → Calls Try.prog 75 #[.slice (some ⟨G, O, none⟩) x.length C] wx (SwPost (chB x) wx)) := fun wx h => l04Chains_any x C wx hn (hsq.later h.below) hbd
  clear hsq hbd
  obtain ⟨r, hr⟩ : ∃ r, r = (swB x && chB x) := ⟨_, rfl⟩
  rw [← hr]
  have HR := Lib.hid hr
  clear hr
  go_enter Try.func64, Try.ntmps64
  go_wp2_with fail
  refine H1.out.mono ?_
  rintro e w2 ⟨c1, rfl, HC1, hb⟩
  have b1 := HC1.out.bool
  generalize swB x = s1 at *
  generalize chB x = s2 at *
  cases s1
  · go_wp2_with fail
    go_ret
    exact ⟨ret_bool (by rw [HR.out]; rfl), hb⟩
  · go_wp2_with fail
    refine (H2.out _ hb).mono ?_
    rintro e w3 ⟨c2, rfl, HC2, hb2⟩
    have b2 := HC2.out.bool
    cases s2
    all_goals
      go_wp2_with fail
      go_ret
      exact ⟨ret_bool (by rw [HR.out]; rfl), hb.trans hb2⟩
end Go.Proofs.Ythcnhkjiojeemaa
