/- families, FamiliesOf: the program's. -/
import Derived.Test.YtdkheeocglfogaaFamP
import Derived.Test.YtdkheeocglfogaaLibB
namespace Go.Proofs.Ytdkheeocglfogaa
open Go.RowKit

theorem bit_test {n : Nat} (hn : n ≤ 18) (p : Nat → Bool) {j : Nat} (hj : j < n) : (bits .and .u64 ((msk n p : Int) / 2 ^ j) 1 == 1) = p j := by
  have hm := msk_20 hn p
  have e : (msk n p : Int) / 2 ^ j = ((msk n p / 2 ^ j : Nat) : Int) := by simp
  rw [e, and_1 _ (Nat.lt_of_le_of_lt (Nat.div_le_self _ _) (by omega)), msk_bit n p j hj]
  cases p j <;> rfl
theorem shl_one {n i : Nat} (hn : n ≤ 18) (hi : i < n) : IntKind.u64.wrap ((2 : Int) ^ i) = (msk n (fun j => decide (i = j)) : Nat) := by
  have h := pow18 (show i < 20 by omega)
  rw [← msk_one hi, show ((2 : Int) ^ i) = ((2 ^ i : Nat) : Int) by simp, IntKind.wrap_u64]
  generalize 2 ^ i = q at *
  omega
theorem OV.tyne2 {T1 T2 : TypeId} {B1 B2 : Nat} {w : World} {v1 v2 : Value} {cs ds : List Value} (h1 : OV T1 B1 w v1 cs) (h2 : OV T2 B2 w v2 ds) (hne : T1 ≠ T2) : v1.ownBlock = none ∨ v1.ownBlock ≠ v2.ownBlock := by
  rcases h1.2 with ⟨rfl, _⟩ | ⟨g, cap, cur, rfl, _, hg, _⟩
  · exact .inl rfl
  · refine .inr fun e => ?_
    rcases h2.2 with ⟨rfl, _⟩ | ⟨g', cap', cur', rfl, _, hg', _⟩
    · simp [Value.ownBlock] at e
    · simp only [Value.ownBlock, Option.some.injEq] at e
      subst e
      rw [hg] at hg'
      simp only [Option.some.injEq, Obj.cells.injEq] at hg'
      exact hne hg'.2.1
/-- What a pass over the likes knows: the set at its start, the set now. -/
structure PsI (A : Nat → Nat → Bool) (n i : Nat) (P Q : Nat → Bool) (j : Nat) : Prop where
  sub : ∀ k, k < n → P k = true → Q k = true
  rc : ∀ k, k < n → Q k = true → Rc A n i k
  cl : ∀ a k, a < j → k < n → P a = true → A a k = true → Q k = true
  self : Q i = true
theorem PsI.start {A : Nat → Nat → Bool} {n i : Nat} {P : Nat → Bool} (h1 : P i = true) (h2 : ∀ k, k < n → P k = true → Rc A n i k) : PsI A n i P P 0 :=
  ⟨fun _ _ h => h, h2, fun a k h => by omega, h1⟩
theorem PsI.skip {A : Nat → Nat → Bool} {n i j : Nat} {P Q : Nat → Bool} (h : PsI A n i P Q j) (hj : j < n) (hq : Q j = false) : PsI A n i P Q (j + 1) :=
  ⟨h.sub, h.rc, fun a k ha hk hp hak => by
    by_cases e : a = j
    · subst e; rw [h.sub a hj hp] at hq; cases hq
    · exact h.cl a k (by omega) hk hp hak, h.self⟩
theorem PsI.grow {A : Nat → Nat → Bool} {n i j : Nat} {P Q : Nat → Bool} (h : PsI A n i P Q j) (hj : j < n) (hq : Q j = true) : PsI A n i P (fun k => Q k || A j k) (j + 1) :=
  ⟨fun k hk hp => by rw [h.sub k hk hp]; rfl, fun k hk hq2 => by
    rw [Bool.or_eq_true] at hq2
    rcases hq2 with h2 | h2
    · exact h.rc k hk h2
    · exact .step j k (h.rc j hj hq) hk h2, fun a k ha hk hp hak => by
    by_cases e : a = j
    · subst e; rw [hak]; simp
    · rw [h.cl a k (by omega) hk hp hak]; rfl, by rw [h.self]; rfl⟩
/-- What the loop around the passes knows: the set before the last pass, the set now. -/
structure FxI (A : Nat → Nat → Bool) (n i : Nat) (B P : Nat → Bool) : Prop where
  sub : ∀ k, k < n → B k = true → P k = true
  rc : ∀ k, k < n → P k = true → Rc A n i k
  cl : ∀ a k, a < n → k < n → B a = true → A a k = true → P k = true
  self : P i = true
theorem FxI.start (A : Nat → Nat → Bool) (n i : Nat) : FxI A n i (fun _ => false) fun j => decide (i = j) :=
  ⟨fun _ _ h => absurd h (by simp), fun k _ h => (by rw [decide_eq_true_eq] at h; subst h; exact .refl), fun _ _ _ _ h => absurd h (by simp), by simp⟩
theorem PsI.done {A : Nat → Nat → Bool} {n i : Nat} {P Q : Nat → Bool} (h : PsI A n i P Q n) : FxI A n i P Q := ⟨h.sub, h.rc, h.cl, h.self⟩
theorem FxI.fix {A : Nat → Nat → Bool} {n i : Nat} {B P : Nat → Bool} (h : FxI A n i B P) (hi : i < n) (he : msk n B = msk n P) : ∀ j, j < n → P j = cmp A n i j :=
  cmp_of hi h.self (fun j k hj hk hp hjk => h.cl j k hj hk (by rw [msk_inj he j hj]; exact hp) hjk) h.rc
theorem FxI.lt {A : Nat → Nat → Bool} {n i : Nat} {B P : Nat → Bool} (h : FxI A n i B P) (he : msk n B ≠ msk n P) : msk n B < msk n P := by
  have := msk_mono h.sub
  omega
def FamPost (s : ByteArray) (l : List ByteArray) (w : World) (e : Ending) (w' : World) : Prop := ∃ v, e = .returned v ∧ OS w.heap.size w' v (fams s (lk s l) s.size) ∧ Below w.heap.size w w'
set_option maxHeartbeats 4000000 in
set_option maxRecDepth 100000 in
theorem families_any (X : Nat) (s : ByteArray) (v : Value) (l : List ByteArray) (w : World) (hbx : LX X s v w) (hx : RS w v l) (hm : l.length ≤ 1048576) (hs : s.size ≤ 18) :
    Calls Try.prog 52 #[.pointer (some ⟨X, 0, none⟩)] w (FamPost s l w) := by
  have HC : Hid (∀ wr, Below w.heap.size w wr → wr.cell? ⟨X, 0, none⟩ = some (.string s)) := fun wr h => (h.cell (p := ⟨X, 0, none⟩) hbx.lt).trans hbx.c0
  have hb0 : Below w.heap.size w (w.alloc (.cells #[] 9)) := (Below.refl _ _).alloc (Nat.le_refl _) _
  have ho : OS w.heap.size (w.alloc (.cells #[] 9)) (.slice (some ⟨w.heap.size, 0, none⟩) 0 0) (fams s (lk s l) 0) := OV.made _ _ (Nat.le_refl _)
  have hbx1 := hbx.later hb0
  have hx1 := hx.later hb0
  clear hbx hx
  go_enter Try.func52, Try.ntmps52
  go_wp2_with fail
  generalize w.alloc (.cells #[] 9) = w1 at *
  generalize Value.slice (some ⟨w.heap.size, 0, none⟩) 0 0 = v0 at *
  refine (likes_any X s v l _ hbx1 hx1 hm hs).mono ?_
  rintro e w2 ⟨ka, kc, rfl, hk, hb1⟩
  have ho2 : OS w.heap.size w2 v0 (fams s (lk s l) 0) := OS.later ho hb1
  have hz1 := hb0.size
  replace hb0 := hb0.trans (hb1.mono hb0.size)
  have hk2 : OU w.heap.size w2 (.slice ka s.size kc) (lkL s l) := OK.mono hk (by simpa using hz1)
  clear hbx1 hx1 hk ho hb1
  go_wp2_with fail
  go_loopw [3, 4, 18] (fun ov dv iv wr => ∃ k : Nat, k ≤ s.size ∧ iv = .int .i64 k ∧ dv = .int .u64 (msk s.size (dn (lk s l) s.size k) : Nat) ∧ OS w.heap.size wr ov (fams s (lk s l) k) ∧ OU w.heap.size wr (.slice ka s.size kc) (lkL s l) ∧ Below w.heap.size w wr) (fun _ _ iv _ => s.size - (intOf iv).toNat)
  case atStart => exact ⟨0, Nat.zero_le _, rfl, by rw [msk_congr (q := fun _ => false) fun j _ => dn_zero _ _ _, msk_none]; rfl, ho2, hk2, hb0⟩
  case round =>
    clear ho2 hk2 hb0
    obtain ⟨k, hk, rfl, rfl, ho, hkk, hb⟩ := hrel
    by_cases hkl : k < s.size
    · have HDN : Hid (∀ j, dn (lk s l) s.size (k + 1) j = (dn (lk s l) s.size k j || cmp (lk s l) s.size k j)) := fun j => dn_succ _ _ _ _
      cases hd : dn (lk s l) s.size k k
      · have hbt := bit_test hs (dn (lk s l) s.size k) hkl
        rw [hd] at hbt
        have HF := Lib.hid (fams_new hd)
        have h1 := shl_one hs hkl
        have HD0 : Hid (msk s.size (dn (lk s l) s.size k) = msk s.size (dn (lk s l) s.size k)) := rfl
        obtain ⟨m0, hm0⟩ : ∃ m, m = msk s.size (dn (lk s l) s.size k) := ⟨_, rfl⟩
        obtain ⟨m1, hm1⟩ : ∃ m, m = msk s.size (fun j => decide (k = j)) := ⟨_, rfl⟩
        rw [← hm0] at hbt ⊢
        rw [← hm1] at h1
        have HM0 := Lib.hid hm0
        have HM1 := Lib.hid hm1
        clear hd hm0 hm1 HD0
        go_wp2_with fail
        clear hbt h1
        go_loop [7, 8] (fun sv bv => ∃ P B : Nat → Bool, Hid (FxI (lk s l) s.size k B P) ∧ sv = .int .u64 (msk s.size P : Nat) ∧ bv = .int .u64 (msk s.size B : Nat)) (fun _ bv => 262144 - (intOf bv).toNat)
        case atStart => exact ⟨_, fun _ => false, FxI.start _ _ k, by rw [HM1.out], by rw [msk_none]; rfl⟩
        case round =>
          obtain ⟨P, B, HFX, rfl, rfl⟩ := hrel
          by_cases he : msk s.size B = msk s.size P
          · have HCP := Lib.hid (HFX.out.fix hkl he)
            have e1 : ((msk s.size B : Nat) : Int) = ((msk s.size P : Nat) : Int) := by rw [he]
            have e2 : (((msk s.size B : Nat) : Int) != ((msk s.size P : Nat) : Int)) = false := by rw [he]; simp
            clear he e1
            have hor := or_m hs (dn (lk s l) s.size k) P
            have hdn1 : msk s.size (fun j => dn (lk s l) s.size k j || P j) = msk s.size (dn (lk s l) s.size (k + 1)) := msk_congr fun j hj => by rw [HDN.out, HCP.out j hj]
            rw [hdn1, ← HM0.out] at hor
            have HCT : Hid (strOfNums (ctB s s.size P) = ctx s (cmp (lk s l) s.size k)) := by unfold Hid ctx; rw [ctB_congr HCP.out]
            have HBT : Hid (∀ j, j < s.size → (bits .and .u64 ((msk s.size P : Int) / 2 ^ j) 1 == 1) = P j) := fun j hj => bit_test hs P hj
            obtain ⟨mD, hmD⟩ : ∃ m, m = msk s.size (dn (lk s l) s.size (k + 1)) := ⟨_, rfl⟩
            rw [← hmD] at hor
            have HMD := Lib.hid hmD
            generalize msk s.size B = mB at *
            generalize msk s.size P = mP at *
            clear hdn1 hmD HFX
            have hb1 : Below wr.heap.size wr (wr.alloc (.cells #[] 5)) := (Below.refl _ _).alloc (Nat.le_refl _) _
            have hf : OB w.heap.size (wr.alloc (.cells #[] 5)) (.slice (some ⟨wr.heap.size, 0, none⟩) 0 0) (ctB s 0 P) := OK.made _ _ _ hb.size
            have hoa := OS.later ho hb1
            have hka := OK.later hkk hb1
            have hba := hb.trans (hb1.mono hb.size)
            go_wp2_with fail
            clear hb1 hor e2
            generalize wr.alloc (.cells #[] 5) = wa at *
            generalize Value.slice (some ⟨wr.heap.size, 0, none⟩) 0 0 = vf0 at *
            go_loopw [11, 54] (fun fv jv wx => ∃ j : Nat, j ≤ s.size ∧ jv = .int .i64 j ∧ OB w.heap.size wx fv (ctB s j P) ∧ OS w.heap.size wx u3 (fams s (lk s l) k) ∧ OU w.heap.size wx (.slice ka s.size kc) (lkL s l) ∧ Below w.heap.size w wx) (fun _ jv _ => s.size - (intOf jv).toNat)
            case atStart => exact ⟨0, Nat.zero_le _, rfl, hf, hoa, hka, hba⟩
            case round =>
              clear hf hoa hka hba
              obtain ⟨j, hj, rfl, hf, hoa, hka, hba⟩ := hrel
              by_cases hjl : j < s.size
              · have hbt := HBT.out j hjl
                have HCB := Lib.hid (ctB_succ s j P)
                cases hp : P j
                · rw [hp] at hbt HCB
                  clear hp
                  go_wp2_with fail
                  go_roundw
                  case rel => exact ⟨j + 1, by omega, by go_num, by rw [HCB.out]; exact hf, hoa, hka, hba⟩
                  case measure => first | (simp [intOf]; done) | (simp [intOf]; omega)
                · rw [hp] at hbt HCB
                  clear hp
                  have hcl : (ctB s j P).length ≤ 1099511627776 := by have := ctB_len s j P; omega
                  have hsz := hba.size
                  have HBG := Lib.hid (bAt_get s j hjl)
                  have f1 : (j : Int) < (s.size : Int) := by omega
                  have c0 := HC.out _ hba
                  have HKP : Hid (∀ w5 o, (wr.alloc o).grownBy w5 u11.ownBlock → OS w.heap.size w5 u3 (fams s (lk s l) k) ∧ OU w.heap.size w5 (.slice ka s.size kc) (lkL s l)) := fun w5 o hg =>
                    ⟨OV.kept (OV.alloc hoa o) hg (OV.tyne2 (OV.alloc hoa o) (OV.alloc hf o) (by decide)), OV.kept (OV.alloc hka o) hg (OV.tyne2 (OV.alloc hka o) (OV.alloc hf o) (by decide))⟩
                  go_wp2_with (at_builtin; refine wpl_app_u8 rfl _ _ rfl w.heap.size _ _ rfl (OK.alloc hf _) _ _ _ rfl (World.cell?_alloc_at _ _ _ _ rfl) hcl (by simp; omega) ?_; intro v' w5 ho5 hgr)
                  have hbs : Below w.heap.size w w5 := own_below (hba.alloc hsz _) (OK.alloc hf _) hgr (by simp; omega)
                  have hkp := HKP.out w5 _ hgr
                  go_roundw
                  case rel => exact ⟨j + 1, by omega, by go_num, by rw [HCB.out, if_pos rfl, HBG.out]; exact ho5, hkp.1, hkp.2, hbs⟩
                  case measure => first | (simp [intOf]; done) | (simp [intOf]; omega)
              · obtain rfl : j = s.size := by omega
                have hst := hf.str
                rw [HCT.out] at hst
                have HNF : Hid (ss (fams s (lk s l) (k + 1)) = ss (fams s (lk s l) k) ++ [.string (ctx s (cmp (lk s l) s.size k))]) := by unfold Hid; rw [HF.out]; unfold ss; rw [List.map_append]; rfl
                have hfl : (ss (fams s (lk s l) k)).length ≤ 1099511627776 := by rw [ss_length]; have := fams_len s (lk s l) k; omega
                have hsz := hba.size
                generalize ctx s (cmp (lk s l) s.size k) = ct at *
                have HKP : Hid (∀ w5 o, (wr.alloc o).grownBy w5 u3.ownBlock → OU w.heap.size w5 (.slice ka s.size kc) (lkL s l)) := fun w5 o hg =>
                  OV.kept (OV.alloc hka o) hg (OV.tyne2 (OV.alloc hka o) (OV.alloc hoa o) (by decide))
                go_wp2_with (at_builtin; refine wpl_app Try.underlying22 info_str rfl (by omega) rfl _ _ rfl w.heap.size _ (ss (fams s (lk s l) k)) rfl (OV.alloc hoa _) _ _ _ rfl (World.cell?_alloc_at _ _ _ _ rfl) rfl hfl (by simp; omega) ?_; intro v' w5 ho5 hgr)
                have hbs : Below w.heap.size w w5 := own_below (hba.alloc hsz _) (OV.alloc hoa _) hgr (by simp; omega)
                have hkp := HKP.out w5 _ hgr
                go_roundw
                case rel => exact ⟨k + 1, by omega, by go_num, by rw [HMD.out], by unfold OS; rw [HNF.out]; exact ho5, hkp, hbs⟩
                case measure => first | (simp [intOf]; done) | (simp [intOf]; omega)
          · have hlt := HFX.out.lt he
            have hPl := msk_20 hs P
            have e2 : (((msk s.size B : Nat) : Int) != ((msk s.size P : Nat) : Int)) = true := by simp only [bne_iff_ne, ne_eq]; omega
            clear he
            obtain ⟨mB, hmB⟩ : ∃ m, m = msk s.size B := ⟨_, rfl⟩
            obtain ⟨mP, hmP⟩ : ∃ m, m = msk s.size P := ⟨_, rfl⟩
            rw [← hmB, ← hmP] at hlt e2 ⊢
            rw [← hmP] at hPl
            have HMP := Lib.hid hmP
            clear hmB hmP
            go_wp2_with fail
            go_loop [7, 34] (fun sv jv => ∃ (j : Nat) (Q : Nat → Bool), j ≤ s.size ∧ jv = .int .i64 j ∧ sv = .int .u64 (msk s.size Q : Nat) ∧ Hid (PsI (lk s l) s.size k P Q j)) (fun _ jv => s.size - (intOf jv).toNat)
            case atStart => exact ⟨0, P, Nat.zero_le _, rfl, by rw [HMP.out], PsI.start HFX.out.self HFX.out.rc⟩
            case round =>
              obtain ⟨j, Q, hj, rfl, rfl, HP⟩ := hrel
              by_cases hjl : j < s.size
              · have HRU := hkk.read
                rw [← lkL_len s l] at HRU
                obtain ⟨g, off, rfl, hg, hc⟩ := HRU.at j (by rw [lkL_len]; exact hjl)
                have ev : (lkL s l).getD j 0 = ((msk s.size (lk s l j) : Nat) : Int) := by unfold lkL lkR; simp [hjl]
                rw [ev] at hc
                clear ev HRU
                have hbt := bit_test hs Q hjl
                have hor := or_m hs Q (lk s l j)
                cases hq : Q j
                · rw [hq] at hbt
                  have HN := Lib.hid (HP.out.skip hjl hq)
                  clear hq hor
                  generalize msk s.size (lk s l j) = ml at *
                  obtain ⟨mq, hmq⟩ : ∃ m, m = msk s.size Q := ⟨_, rfl⟩
                  rw [← hmq] at hbt ⊢
                  have HMQ := Lib.hid hmq
                  clear hmq
                  go_wp2_with fail
                  go_round
                  case rel => exact ⟨j + 1, Q, by omega, by go_num, by rw [HMQ.out], HN⟩
                  case measure => first | (simp [intOf]; done) | (simp [intOf]; omega)
                · rw [hq] at hbt
                  have HN := Lib.hid (HP.out.grow hjl hq)
                  clear hq
                  obtain ⟨mq, hmq⟩ : ∃ m, m = msk s.size Q := ⟨_, rfl⟩
                  obtain ⟨mr, hmr⟩ : ∃ m, m = msk s.size (fun k => Q k || lk s l j k) := ⟨_, rfl⟩
                  rw [← hmq] at hbt hor ⊢
                  rw [← hmr] at hor
                  have HMR := Lib.hid hmr
                  clear hmq hmr
                  generalize msk s.size (lk s l j) = ml at *
                  go_wp2_with fail
                  go_round
                  case rel => exact ⟨j + 1, _, by omega, by go_num, by rw [HMR.out], HN⟩
                  case measure => first | (simp [intOf]; done) | (simp [intOf]; omega)
              · obtain rfl : j = s.size := by omega
                go_wp2_with fail
                go_round
                case rel => exact ⟨Q, P, HP.out.done, rfl, by rw [HMP.out]⟩
                case measure => simp [intOf]; omega
      · have hbt := bit_test hs (dn (lk s l) s.size k) hkl
        rw [hd] at hbt
        have HF := Lib.hid (fams_skip hd)
        have HE : Hid (msk s.size (dn (lk s l) s.size (k + 1)) = msk s.size (dn (lk s l) s.size k)) := msk_congr fun j _ => dn_skip hd j
        generalize msk s.size (dn (lk s l) s.size k) = m0 at *
        clear hd
        go_wp2_with fail
        go_roundw
        case rel => exact ⟨k + 1, by omega, by go_num, by rw [HE.out], by rw [HF.out]; exact ho, hkk, hb⟩
        case measure => first | (simp [intOf]; done) | (simp [intOf]; omega)
    · obtain rfl : k = s.size := by omega
      go_wp2_with fail
      go_ret
      exact ⟨_, rfl, ho, hb⟩
end Go.Proofs.Ytdkheeocglfogaa
