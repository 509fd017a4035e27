/- seeker.seek: the walk, all of it. -/
import Derived.Test.YthcnhkjiojeemaaSk
namespace Go.Proofs.Ythcnhkjiojeemaa
open Go.RowKit

set_option maxRecDepth 100000 in
set_option maxHeartbeats 8000000 in
theorem seek_stepF (n k p0 : Nat) (hn : 1 ≤ n ∧ n ≤ 5) (B S G : Nat) (H P : Nat → Nat) (C : Nat) (hk : k < B) (hp0 : S ≤ p0) (Ok : World → Prop) (Fin : Nat → TF → World → World → Bool → Prop) (Prt : Nat → Nat → Nat → TF → World → World → Nat → Prop) (I : SkI n k Ok Fin Prt)
    (p : Nat) (hp : p < n * n)
    (HIH : Hid (∀ (t : TF) (w : World) (q : Int), q = ((p + 1 : Nat) : Int) → TbAt B S G H P C n t w → SkAt p0 n G C w → Vq n (p + 1) t → Ok w → Calls Try.prog 34 #[.pointer (some ⟨p0, 0, none⟩), .int .i64 q, .func (.func 35) #[] #[.pointer (some ⟨k, 0, none⟩)]] w (SkPost n k B S G H P C Fin (p + 1) t w)))
    (t : TF) (w : World) (ht : TbAt B S G H P C n t w) (hsk : SkAt p0 n G C w) (hv : Vq n p t) (hok : Ok w) :
    Calls Try.prog 34 #[.pointer (some ⟨p0, 0, none⟩), .int .i64 p, .func (.func 35) #[] #[.pointer (some ⟨k, 0, none⟩)]] w (SkPost n k B S G H P C Fin p t w) := by
  obtain ⟨m, hm⟩ : ∃ m, m = n * n := ⟨_, rfl⟩
  have hm25 : m ≤ 25 := by rw [hm]; exact Nat.le_trans (Nat.mul_le_mul hn.2 hn.2) (by decide)
  have hwm : IntKind.i64.wrap ((n : Int) * (n : Int)) = (m : Int) := by rw [← Int.natCast_mul, ← hm]; exact IntWalk.i64_in _ (by omega)
  have hpm : ((p : Int) == (m : Int)) = false := by simp; omega
  have HVQ := Lib.hid hv
  have HUN := Lib.hid hv.un
  obtain ⟨hn1, hn5⟩ := hn
  obtain ⟨x, hxe⟩ : ∃ x, x = p / n := ⟨_, rfl⟩
  obtain ⟨y, hye⟩ : ∃ y, y = p % n := ⟨_, rfl⟩
  have hy : y < n := by rw [hye]; exact Nat.mod_lt _ (by omega)
  have hx : x < n := by rw [hxe]; exact (Nat.div_lt_iff_lt_mul (by omega)).2 hp
  have HPE : Hid (p = x * n + y) := by unfold Hid; rw [hxe, hye, Nat.mul_comm, Nat.div_add_mod]
  have hq1 : (p : Int).tdiv (n : Int) = (x : Int) := by rw [Int.tdiv_eq_ediv_of_nonneg (by omega), hxe]; simp
  have hq2 : (p : Int).tmod (n : Int) = (y : Int) := by rw [Int.tmod_eq_emod_of_nonneg (by omega), hye]; simp
  have hpp : p < 25 := by omega
  have hn0 : ¬ n = 0 := by omega
  have HII := Lib.hid I
  have HSZ : Hid (S ≤ w.heap.size) := ht.sz
  have c0 := hsk.c0
  have HSKA : Hid (∀ wx, ChgR k S w wx → SkAt p0 n G C wx) := fun wx h => hsk.chgR h (.inr hp0)
  clear hm hv hxe hye hp I
  go_enter Try.func34, Try.ntmps34
  go_wp2_with fail
  go_quiet (fail)
  have hbd := below_drewN (Below.refl w.heap.size w) nq
  have ht1 := ht.later hbd
  have hch1 : ChgR k S w (w.drewN nq) := (ChgR.refl k S w).drewN nq
  have HK1 : Hid ((w.drewN nq).heap = w.heap) := rfl
  generalize w.drewN nq = w1 at *
  clear hbd hwm c0
  have c0 := (HSKA.out _ hch1).c0
  go_wp2_with fail
  go_quiet (fail)
  have hbd := below_drewN (Below.refl w1.heap.size w1) nq
  have ht2 := ht1.later hbd
  have hch2 : ChgR k S w (w1.drewN nq) := hch1.drewN nq
  have HK2 : Hid ((w1.drewN nq).heap = w.heap) := HK1.out
  generalize w1.drewN nq = w2 at *
  clear hbd hpm c0 hq1 hq2 ht1 hch1 HK1
  have hok2 := HII.out.keep hok (w' := w2) (by rw [HK2.out])
  have HPR : Hid (Prt p x y t w w2 0) := HII.out.start hx hy hok (by rw [HK2.out])
  have c0 := (HSKA.out _ hch2).c0
  clear ht hsk hok
  go_wp2_with fail
  clear c0
  go_loopw [45] (fun zv wr => ∃ c : Nat, c ≤ n ∧ zv = .int .i64 c ∧ TbAt B S G H P C n t wr ∧ ChgR k S w wr ∧ Hid (Prt p x y t w wr c) ∧ Hid (Ok wr)) (fun zv _ => n - (intOf zv).toNat)
  case atStart => exact ⟨0, Nat.zero_le _, rfl, ht2, hch2, HPR, Lib.hid hok2⟩
  case round =>
    clear ht2 hch2 HPR hok2
    obtain ⟨c, hc, rfl, ht, hch, HPR, HOK⟩ := hrel
    by_cases hcn : c < n
    · have hci : (c : Int) < (n : Int) := by omega
      have hsk := HSKA.out _ hch
      have c0 := hsk.c0
      have c1 := hsk.c1
      have r1 := ht.row x hx
      have hcap := (ht.cap.2 x hx).1
      have hxi : (x : Int) < (n : Int) := by omega
      have hyi : (y : Int) ≤ (P x : Int) := by omega
      have hyi2 : (y : Int) < (n : Int) := by omega
      have hrd := (ht.rowRead x hx).take y (by rw [mkT_rowlen _ _ _ hx]; omega)
      have HCT := Lib.hid (containsI_any _ _ (c : Int) wr hrd (by rw [List.length_take]; omega))
      have HTM := Lib.hid (take_mem (t := t) (c := (c : Int)) hx (Nat.le_of_lt hy))
      clear hsk hrd
      go_wp2_with fail
      refine HCT.out.mono ?_
      rintro e w' ⟨rfl, rfl⟩
      obtain ⟨u0, hu0⟩ : ∃ u0, u0 = decide ((c : Int) ∈ (rowAt (mkT n t) x).take y) := ⟨_, rfl⟩
      have HU0 : Hid (∀ b, b = u0 → (b = true ↔ ∃ j, j < y ∧ t x j = (c : Int))) := fun b hb => by rw [hb, hu0, decide_eq_true_iff]; exact HTM.out
      rw [← hu0]
      clear hu0 HCT HTM r1 hcap hyi
      go_wp2_with fail
      go_loop [10, 60] (fun uv rv => ∃ (r : Nat) (u : Bool), r ≤ x ∧ rv = .int .i64 r ∧ uv = .bool u ∧ Hid (u = true ↔ ((∃ j, j < y ∧ t x j = (c : Int)) ∨ ∃ r', r' < r ∧ t r' y = (c : Int)))) (fun _ rv => x - (intOf rv).toNat)
      case atStart => exact ⟨0, u0, Nat.zero_le _, rfl, rfl, Lib.hid ((HU0.out _ rfl).trans ⟨fun h => .inl h, fun h => by rcases h with h | ⟨r', h, _⟩; exact h; omega⟩)⟩
      case round =>
        obtain ⟨r, u, hr, rfl, rfl, HU⟩ := hrel
        by_cases hrx : r < x
        · have hri : (r : Int) < (x : Int) := by omega
          have hrn : (r : Int) < (n : Int) := by omega
          have r1 := ht.row r (by omega)
          have r2 := ht.cell r y (by omega) hy
          have HN : Hid (∀ b', (b' = true ↔ (u = true ∨ t r y = (c : Int))) → (b' = true ↔ ((∃ j, j < y ∧ t x j = (c : Int)) ∨ ∃ r', r' < r + 1 ∧ t r' y = (c : Int)))) := fun b' hb' => by
            rw [hb', HU.out]
            constructor
            · rintro ((h | ⟨r', h1, h2⟩) | h)
              · exact .inl h
              · exact .inr ⟨r', by omega, h2⟩
              · exact .inr ⟨r, by omega, h⟩
            · rintro (h | ⟨r', h1, h2⟩)
              · exact .inl (.inl h)
              · by_cases e : r' = r
                · subst e; exact .inr h2
                · exact .inl (.inr ⟨r', by omega, h2⟩)
          obtain ⟨zz, hzz⟩ : ∃ zz, zz = t r y := ⟨_, rfl⟩
          rw [← hzz] at r2 HN
          clear hzz
          cases u
          · by_cases he : zz = (c : Int)
            · have HB1 := Lib.hid (HN.out true (by simp [he]))
              have hb1 : (zz == (c : Int)) = true := by simp [he]
              clear HN he
              go_wp2_with fail
              go_round
              case rel => exact ⟨r + 1, true, by omega, by go_num, rfl, HB1⟩
              case measure => first | (simp [intOf]; done) | (simp [intOf]; omega)
            · have HB1 := Lib.hid (HN.out false (by simp [he]))
              have hb1 : (zz == (c : Int)) = false := by simp [he]
              clear HN he
              go_wp2_with fail
              go_round
              case rel => exact ⟨r + 1, false, by omega, by go_num, rfl, HB1⟩
              case measure => first | (simp [intOf]; done) | (simp [intOf]; omega)
          · have HB1 := Lib.hid (HN.out true (by simp))
            clear HN
            go_wp2_with fail
            go_round
            case rel => exact ⟨r + 1, true, by omega, by go_num, rfl, HB1⟩
            case measure => first | (simp [intOf]; done) | (simp [intOf]; omega)
        · obtain rfl : x = r := by omega
          clear HU0
          cases u
          case true =>
            have HNF : Hid (∀ v, Compl n p t v → v x y ≠ (c : Int)) := fun v hv e => by
              have hf := (show Compl n (x * n + y) t v by rw [← HPE.out]; exact hv).free hx hy
              rw [e] at hf
              rcases HU.out.1 rfl with ⟨j, hj, h⟩ | ⟨r', hr', h⟩
              · exact hf.2.1 j hj h
              · exact hf.1 r' hr' h
            clear HU
            go_wp2_with fail
            go_roundw
            case rel => exact ⟨c + 1, by omega, by go_num, ht, hch, Lib.hid (HII.out.skip HPR.out rfl HNF.out), HOK⟩
            case measure => first | (simp [intOf]; done) | (simp [intOf]; omega)
          case false =>
            have HFR : Hid ((∀ j, j < y → t x j ≠ (c : Int)) ∧ ∀ r', r' < x → t r' y ≠ (c : Int)) := ⟨fun j hj h => (by have := HU.out.2 (.inl ⟨j, hj, h⟩); cases this), fun r' hr' h => by have := HU.out.2 (.inr ⟨r', hr', h⟩); cases this⟩
            clear HU
            have r1 := ht.row x hx
            have r2 := ht.cell x y hx hy
            have r3 := ht.fr x y hx hy
            have hst := ht.store x y hx hy (c : Int)
            have hHx := ht.hb x hx
            have hSS := ht.sz
            have HVP : Hid (Vp n (p + 1) (upd t x y (c : Int))) := by
              have h1 := HVQ.out.v
              rw [HPE.out] at h1
              unfold Hid
              rw [HPE.out]
              exact h1.step hx hy (by omega) HFR.out.2 HFR.out.1
            have HUN2 : Hid (∀ i j, i < n → j < n → p + 1 ≤ i * n + j → upd t x y (c : Int) i j = -1) := un_upd hy HPE.out HUN.out _
            have HCH3 : Hid (ChgR k S w (wr.setCell ⟨H x, y, none⟩ (.int .i64 (c : Int)))) := hch.trans ⟨rfl, rfl, rfl, by simp, fun q _ hq => heap_setCell_other _ _ _ _ (by show q ≠ H x; omega)⟩
            have HK3 : Hid ((wr.setCell ⟨H x, y, none⟩ (.int .i64 (c : Int))).heap[k]? = wr.heap[k]?) := heap_setCell_other _ _ _ _ (by show k ≠ H x; omega)
            have HS3 := Lib.hid hst.1
            clear hst hHx
            go_wp2_with fail
            clear r1 r2 r3 c0 c1
            generalize wr.setCell ⟨H x, y, none⟩ (.int .i64 (c : Int)) = w3 at *
            refine (clashes_any n p0 ⟨hn1, hn5⟩ B S G H P C _ w3 HS3.out (HSKA.out _ HCH3.out) (fun i j hi hj => Vq.bd HVP.out HUN2.out hi hj)).mono ?_
            rintro e w4 ⟨b, rfl, HCL, hd⟩
            have ht4 := HS3.out.later hd.below
            have HDW : Hid (w4.heap = w3.heap) := by obtain ⟨nn, rfl⟩ := hd; rfl
            have hch4 : ChgR k S w w4 := HCH3.out.trans (by obtain ⟨nn, rfl⟩ := hd; exact (ChgR.refl k S w3).drewN nn)
            clear hd
            cases b
            case true =>
              have HNF : Hid (∀ v, Compl n p t v → v x y ≠ (c : Int)) := fun v hv e => by
                have h1 := (compl_step (t := t) (z := (c : Int)) hx hy).2 ⟨(show Compl n (x * n + y) t v by rw [← HPE.out]; exact hv), e⟩
                rw [← HPE.out] at h1
                exact clash_ta HUN2.out h1.ag h1.ta (HCL.out.1 rfl)
              have ht4 := ht4
              have v1 := ht4.row x hx
              have v2 := ht4.cell x y hx hy
              have v3 := ht4.fr x y hx hy
              have hst2 := ht4.store x y hx hy (-1)
              have HS4 := Lib.hid (hst2.1.congr (upd_back HUN.out HPE.out (c : Int)))
              have HC4 : Hid (ChgR k S w (w4.setCell ⟨H x, y, none⟩ (.int .i64 (-1)))) := hch4.trans ⟨rfl, rfl, rfl, by simp, fun q _ hq => heap_setCell_other _ _ _ _ (by show q ≠ H x; have := ht4.hb x hx; omega)⟩
              have HK4 : Hid ((w4.setCell ⟨H x, y, none⟩ (.int .i64 (-1))).heap[k]? = w4.heap[k]?) := heap_setCell_other _ _ _ _ (by show k ≠ H x; have := ht4.hb x hx; omega)
              have sk4 := HSKA.out _ hch4
              have s0 := sk4.c0
              have s1 := sk4.c1
              clear hst2 sk4
              go_wp2_with fail
              go_roundw
              case rel => exact ⟨c + 1, by omega, by go_num, HS4.out, HC4.out, Lib.hid (HII.out.skip HPR.out (by rw [HK4.out, HDW.out, HK3.out]) HNF.out), Lib.hid (HII.out.keep HOK.out (by rw [HK4.out, HDW.out, HK3.out]))⟩
              case measure => first | (simp [intOf]; done) | (simp [intOf]; omega)
            case false =>
              have HVQ2 : Hid (Vq n (p + 1) (upd t x y (c : Int))) := ⟨HVP.out, HUN2.out, fun h => by have := HCL.out.2 h; cases this⟩
              go_wp2_with fail
              refine (HIH.out _ w4 _ (by go_num) ht4 (HSKA.out _ hch4) HVQ2.out (HII.out.keep HOK.out (by rw [HDW.out, HK3.out]))).mono ?_
              rintro e w5 ⟨b, rfl, hch5, hfin, htb5⟩
              have hch6 := hch4.trans hch5
              have HFI := Lib.hid hfin
              have HK5 : Hid (w4.heap[k]? = wr.heap[k]?) := by unfold Hid; rw [HDW.out, HK3.out]
              clear hfin hch5
              cases b
              case true =>
                have HY : Hid (Fin p t w w5 true) := HII.out.yes HPE.out hx hy hcn HPR.out HK5.out hch4.size HFI.out
                go_wp2_with fail
                go_ret
                exact SkPost.yes hch6 HY.out
              case false =>
                have ht5 := htb5 rfl
                clear ht4 htb5
                have ht4 := ht5
                have v1 := ht4.row x hx
                have v2 := ht4.cell x y hx hy
                have v3 := ht4.fr x y hx hy
                have hst2 := ht4.store x y hx hy (-1)
                have HS4 := Lib.hid (hst2.1.congr (upd_back HUN.out HPE.out (c : Int)))
                have HC4 : Hid (ChgR k S w (w5.setCell ⟨H x, y, none⟩ (.int .i64 (-1)))) := hch6.trans ⟨rfl, rfl, rfl, by simp, fun q _ hq => heap_setCell_other _ _ _ _ (by show q ≠ H x; have := ht4.hb x hx; omega)⟩
                have HK4 : Hid ((w5.setCell ⟨H x, y, none⟩ (.int .i64 (-1))).heap[k]? = w5.heap[k]?) := heap_setCell_other _ _ _ _ (by show k ≠ H x; have := ht4.hb x hx; omega)
                have sk4 := HSKA.out _ hch6
                have s0 := sk4.c0
                have s1 := sk4.c1
                clear hst2 sk4
                have HP2 : Hid (Prt p x y t w (w5.setCell ⟨H x, y, none⟩ (.int .i64 (-1))) (c + 1)) := HII.out.no HPE.out hx hy hcn HPR.out HK5.out HFI.out HK4.out
                go_wp2_with fail
                go_roundw
                case rel => exact ⟨c + 1, by omega, by go_num, HS4.out, HC4.out, HP2, Lib.hid (HII.out.okp HP2.out)⟩
                case measure => first | (simp [intOf]; done) | (simp [intOf]; omega)
    · obtain rfl : n = c := by omega
      have HF : Hid (Fin p t w wr false) := HII.out.fin HPE.out hx hy HPR.out rfl
      go_wp2_with fail
      go_ret
      exact SkPost.no hch HF.out ht
theorem seekF_any (n k p0 : Nat) (stop : Bool) (hn : 1 ≤ n ∧ n ≤ 5) (B S G : Nat) (H P : Nat → Nat) (C : Nat) (hk : k < B) (hp0 : S ≤ p0) (Ok : World → Prop) (Fin : Nat → TF → World → World → Bool → Prop) (Prt : Nat → Nat → Nat → TF → World → World → Nat → Prop) (I : SkI n k Ok Fin Prt)
    (HDo : Hid (∀ (t : TF) (w w0 : World), Ta n t → TbAt B S G H P C n t w → Ok w → w0.heap = w.heap → Calls Try.prog 35 #[.slice (some ⟨G, 0, none⟩) n C, .pointer (some ⟨k, 0, none⟩)] w fun e w' => e = .returned (.bool stop) ∧ TbAt B S G H P C n t w' ∧ ChgR k S w w' ∧ Fin (n * n) t w0 w' stop)) :
    ∀ (d p : Nat), p + d = n * n → ∀ (t : TF) (w : World) (q : Int), q = (p : Int) → TbAt B S G H P C n t w → SkAt p0 n G C w → Vq n p t → Ok w →
      Calls Try.prog 34 #[.pointer (some ⟨p0, 0, none⟩), .int .i64 q, .func (.func 35) #[] #[.pointer (some ⟨k, 0, none⟩)]] w (SkPost n k B S G H P C Fin p t w)
  | 0, p, hp, t, w, q, hq, ht, hsk, hv, hok => by
    obtain rfl : p = n * n := by omega
    subst hq
    exact seek_endF n k p0 stop hn B S G H P C hp0 Fin Ok I.keep HDo t w ht hsk hv hok
  | d + 1, p, hp, t, w, q, hq, ht, hsk, hv, hok => by
    subst hq
    exact seek_stepF n k p0 hn B S G H P C hk hp0 Ok Fin Prt I p (by omega) (fun t w q hq ht hsk hv hok => seekF_any n k p0 stop hn B S G H P C hk hp0 Ok Fin Prt I HDo d (p + 1) (by omega) t w q hq ht hsk hv hok) t w ht hsk hv hok
set_option maxRecDepth 100000 in
set_option maxHeartbeats 8000000 in
theorem seek_stepC (n k p0 : Nat) (hn : 1 ≤ n ∧ n ≤ 5) (B S G : Nat) (H P : Nat → Nat) (C : Nat) (hk : k < B) (hp0 : S ≤ p0) (Ok : World → Prop) (Fin : Nat → TF → World → World → Bool → Prop) (Prt : Nat → Nat → Nat → TF → World → World → Nat → Prop) (I : SkI n k Ok Fin Prt)
    (p : Nat) (hp : p < n * n)
    (HIH : Hid (∀ (t : TF) (w : World) (q : Int), q = ((p + 1 : Nat) : Int) → TbAt B S G H P C n t w → SkAt p0 n G C w → Vq n (p + 1) t → Ok w → Calls Try.prog 34 #[.pointer (some ⟨p0, 0, none⟩), .int .i64 q, .func (.func 40) #[] #[.pointer (some ⟨k, 0, none⟩)]] w (SkPost n k B S G H P C Fin (p + 1) t w)))
    (t : TF) (w : World) (ht : TbAt B S G H P C n t w) (hsk : SkAt p0 n G C w) (hv : Vq n p t) (hok : Ok w) :
    Calls Try.prog 34 #[.pointer (some ⟨p0, 0, none⟩), .int .i64 p, .func (.func 40) #[] #[.pointer (some ⟨k, 0, none⟩)]] w (SkPost n k B S G H P C Fin p t w) := by
  obtain ⟨m, hm⟩ : ∃ m, m = n * n := ⟨_, rfl⟩
  have hm25 : m ≤ 25 := by rw [hm]; exact Nat.le_trans (Nat.mul_le_mul hn.2 hn.2) (by decide)
  have hwm : IntKind.i64.wrap ((n : Int) * (n : Int)) = (m : Int) := by rw [← Int.natCast_mul, ← hm]; exact IntWalk.i64_in _ (by omega)
  have hpm : ((p : Int) == (m : Int)) = false := by simp; omega
  have HVQ := Lib.hid hv
  have HUN := Lib.hid hv.un
  obtain ⟨hn1, hn5⟩ := hn
  obtain ⟨x, hxe⟩ : ∃ x, x = p / n := ⟨_, rfl⟩
  obtain ⟨y, hye⟩ : ∃ y, y = p % n := ⟨_, rfl⟩
  have hy : y < n := by rw [hye]; exact Nat.mod_lt _ (by omega)
  have hx : x < n := by rw [hxe]; exact (Nat.div_lt_iff_lt_mul (by omega)).2 hp
  have HPE : Hid (p = x * n + y) := by unfold Hid; rw [hxe, hye, Nat.mul_comm, Nat.div_add_mod]
  have hq1 : (p : Int).tdiv (n : Int) = (x : Int) := by rw [Int.tdiv_eq_ediv_of_nonneg (by omega), hxe]; simp
  have hq2 : (p : Int).tmod (n : Int) = (y : Int) := by rw [Int.tmod_eq_emod_of_nonneg (by omega), hye]; simp
  have hpp : p < 25 := by omega
  have hn0 : ¬ n = 0 := by omega
  have HII := Lib.hid I
  have HSZ : Hid (S ≤ w.heap.size) := ht.sz
  have c0 := hsk.c0
  have HSKA : Hid (∀ wx, ChgR k S w wx → SkAt p0 n G C wx) := fun wx h => hsk.chgR h (.inr hp0)
  clear hm hv hxe hye hp I
  go_enter Try.func34, Try.ntmps34
  go_wp2_with fail
  go_quiet (fail)
  have hbd := below_drewN (Below.refl w.heap.size w) nq
  have ht1 := ht.later hbd
  have hch1 : ChgR k S w (w.drewN nq) := (ChgR.refl k S w).drewN nq
  have HK1 : Hid ((w.drewN nq).heap = w.heap) := rfl
  generalize w.drewN nq = w1 at *
  clear hbd hwm c0
  have c0 := (HSKA.out _ hch1).c0
  go_wp2_with fail
  go_quiet (fail)
  have hbd := below_drewN (Below.refl w1.heap.size w1) nq
  have ht2 := ht1.later hbd
  have hch2 : ChgR k S w (w1.drewN nq) := hch1.drewN nq
  have HK2 : Hid ((w1.drewN nq).heap = w.heap) := HK1.out
  generalize w1.drewN nq = w2 at *
  clear hbd hpm c0 hq1 hq2 ht1 hch1 HK1
  have hok2 := HII.out.keep hok (w' := w2) (by rw [HK2.out])
  have HPR : Hid (Prt p x y t w w2 0) := HII.out.start hx hy hok (by rw [HK2.out])
  have c0 := (HSKA.out _ hch2).c0
  clear ht hsk hok
  go_wp2_with fail
  clear c0
  go_loopw [45] (fun zv wr => ∃ c : Nat, c ≤ n ∧ zv = .int .i64 c ∧ TbAt B S G H P C n t wr ∧ ChgR k S w wr ∧ Hid (Prt p x y t w wr c) ∧ Hid (Ok wr)) (fun zv _ => n - (intOf zv).toNat)
  case atStart => exact ⟨0, Nat.zero_le _, rfl, ht2, hch2, HPR, Lib.hid hok2⟩
  case round =>
    clear ht2 hch2 HPR hok2
    obtain ⟨c, hc, rfl, ht, hch, HPR, HOK⟩ := hrel
    by_cases hcn : c < n
    · have hci : (c : Int) < (n : Int) := by omega
      have hsk := HSKA.out _ hch
      have c0 := hsk.c0
      have c1 := hsk.c1
      have r1 := ht.row x hx
      have hcap := (ht.cap.2 x hx).1
      have hxi : (x : Int) < (n : Int) := by omega
      have hyi : (y : Int) ≤ (P x : Int) := by omega
      have hyi2 : (y : Int) < (n : Int) := by omega
      have hrd := (ht.rowRead x hx).take y (by rw [mkT_rowlen _ _ _ hx]; omega)
      have HCT := Lib.hid (containsI_any _ _ (c : Int) wr hrd (by rw [List.length_take]; omega))
      have HTM := Lib.hid (take_mem (t := t) (c := (c : Int)) hx (Nat.le_of_lt hy))
      clear hsk hrd
      go_wp2_with fail
      refine HCT.out.mono ?_
      rintro e w' ⟨rfl, rfl⟩
      obtain ⟨u0, hu0⟩ : ∃ u0, u0 = decide ((c : Int) ∈ (rowAt (mkT n t) x).take y) := ⟨_, rfl⟩
      have HU0 : Hid (∀ b, b = u0 → (b = true ↔ ∃ j, j < y ∧ t x j = (c : Int))) := fun b hb => by rw [hb, hu0, decide_eq_true_iff]; exact HTM.out
      rw [← hu0]
      clear hu0 HCT HTM r1 hcap hyi
      go_wp2_with fail
      go_loop [10, 60] (fun uv rv => ∃ (r : Nat) (u : Bool), r ≤ x ∧ rv = .int .i64 r ∧ uv = .bool u ∧ Hid (u = true ↔ ((∃ j, j < y ∧ t x j = (c : Int)) ∨ ∃ r', r' < r ∧ t r' y = (c : Int)))) (fun _ rv => x - (intOf rv).toNat)
      case atStart => exact ⟨0, u0, Nat.zero_le _, rfl, rfl, Lib.hid ((HU0.out _ rfl).trans ⟨fun h => .inl h, fun h => by rcases h with h | ⟨r', h, _⟩; exact h; omega⟩)⟩
      case round =>
        obtain ⟨r, u, hr, rfl, rfl, HU⟩ := hrel
        by_cases hrx : r < x
        · have hri : (r : Int) < (x : Int) := by omega
          have hrn : (r : Int) < (n : Int) := by omega
          have r1 := ht.row r (by omega)
          have r2 := ht.cell r y (by omega) hy
          have HN : Hid (∀ b', (b' = true ↔ (u = true ∨ t r y = (c : Int))) → (b' = true ↔ ((∃ j, j < y ∧ t x j = (c : Int)) ∨ ∃ r', r' < r + 1 ∧ t r' y = (c : Int)))) := fun b' hb' => by
            rw [hb', HU.out]
            constructor
            · rintro ((h | ⟨r', h1, h2⟩) | h)
              · exact .inl h
              · exact .inr ⟨r', by omega, h2⟩
              · exact .inr ⟨r, by omega, h⟩
            · rintro (h | ⟨r', h1, h2⟩)
              · exact .inl (.inl h)
              · by_cases e : r' = r
                · subst e; exact .inr h2
                · exact .inl (.inr ⟨r', by omega, h2⟩)
          obtain ⟨zz, hzz⟩ : ∃ zz, zz = t r y := ⟨_, rfl⟩
          rw [← hzz] at r2 HN
          clear hzz
          cases u
          · by_cases he : zz = (c : Int)
            · have HB1 := Lib.hid (HN.out true (by simp [he]))
              have hb1 : (zz == (c : Int)) = true := by simp [he]
              clear HN he
              go_wp2_with fail
              go_round
              case rel => exact ⟨r + 1, true, by omega, by go_num, rfl, HB1⟩
              case measure => first | (simp [intOf]; done) | (simp [intOf]; omega)
            · have HB1 := Lib.hid (HN.out false (by simp [he]))
              have hb1 : (zz == (c : Int)) = false := by simp [he]
              clear HN he
              go_wp2_with fail
              go_round
              case rel => exact ⟨r + 1, false, by omega, by go_num, rfl, HB1⟩
              case measure => first | (simp [intOf]; done) | (simp [intOf]; omega)
          · have HB1 := Lib.hid (HN.out true (by simp))
            clear HN
            go_wp2_with fail
            go_round
            case rel => exact ⟨r + 1, true, by omega, by go_num, rfl, HB1⟩
            case measure => first | (simp [intOf]; done) | (simp [intOf]; omega)
        · obtain rfl : x = r := by omega
          clear HU0
          cases u
          case true =>
            have HNF : Hid (∀ v, Compl n p t v → v x y ≠ (c : Int)) := fun v hv e => by
              have hf := (show Compl n (x * n + y) t v by rw [← HPE.out]; exact hv).free hx hy
              rw [e] at hf
              rcases HU.out.1 rfl with ⟨j, hj, h⟩ | ⟨r', hr', h⟩
              · exact hf.2.1 j hj h
              · exact hf.1 r' hr' h
            clear HU
            go_wp2_with fail
            go_roundw
            case rel => exact ⟨c + 1, by omega, by go_num, ht, hch, Lib.hid (HII.out.skip HPR.out rfl HNF.out), HOK⟩
            case measure => first | (simp [intOf]; done) | (simp [intOf]; omega)
          case false =>
            have HFR : Hid ((∀ j, j < y → t x j ≠ (c : Int)) ∧ ∀ r', r' < x → t r' y ≠ (c : Int)) := ⟨fun j hj h => (by have := HU.out.2 (.inl ⟨j, hj, h⟩); cases this), fun r' hr' h => by have := HU.out.2 (.inr ⟨r', hr', h⟩); cases this⟩
            clear HU
            have r1 := ht.row x hx
            have r2 := ht.cell x y hx hy
            have r3 := ht.fr x y hx hy
            have hst := ht.store x y hx hy (c : Int)
            have hHx := ht.hb x hx
            have hSS := ht.sz
            have HVP : Hid (Vp n (p + 1) (upd t x y (c : Int))) := by
              have h1 := HVQ.out.v
              rw [HPE.out] at h1
              unfold Hid
              rw [HPE.out]
              exact h1.step hx hy (by omega) HFR.out.2 HFR.out.1
            have HUN2 : Hid (∀ i j, i < n → j < n → p + 1 ≤ i * n + j → upd t x y (c : Int) i j = -1) := un_upd hy HPE.out HUN.out _
            have HCH3 : Hid (ChgR k S w (wr.setCell ⟨H x, y, none⟩ (.int .i64 (c : Int)))) := hch.trans ⟨rfl, rfl, rfl, by simp, fun q _ hq => heap_setCell_other _ _ _ _ (by show q ≠ H x; omega)⟩
            have HK3 : Hid ((wr.setCell ⟨H x, y, none⟩ (.int .i64 (c : Int))).heap[k]? = wr.heap[k]?) := heap_setCell_other _ _ _ _ (by show k ≠ H x; omega)
            have HS3 := Lib.hid hst.1
            clear hst hHx
            go_wp2_with fail
            clear r1 r2 r3 c0 c1
            generalize wr.setCell ⟨H x, y, none⟩ (.int .i64 (c : Int)) = w3 at *
            refine (clashes_any n p0 ⟨hn1, hn5⟩ B S G H P C _ w3 HS3.out (HSKA.out _ HCH3.out) (fun i j hi hj => Vq.bd HVP.out HUN2.out hi hj)).mono ?_
            rintro e w4 ⟨b, rfl, HCL, hd⟩
            have ht4 := HS3.out.later hd.below
            have HDW : Hid (w4.heap = w3.heap) := by obtain ⟨nn, rfl⟩ := hd; rfl
            have hch4 : ChgR k S w w4 := HCH3.out.trans (by obtain ⟨nn, rfl⟩ := hd; exact (ChgR.refl k S w3).drewN nn)
            clear hd
            cases b
            case true =>
              have HNF : Hid (∀ v, Compl n p t v → v x y ≠ (c : Int)) := fun v hv e => by
                have h1 := (compl_step (t := t) (z := (c : Int)) hx hy).2 ⟨(show Compl n (x * n + y) t v by rw [← HPE.out]; exact hv), e⟩
                rw [← HPE.out] at h1
                exact clash_ta HUN2.out h1.ag h1.ta (HCL.out.1 rfl)
              have ht4 := ht4
              have v1 := ht4.row x hx
              have v2 := ht4.cell x y hx hy
              have v3 := ht4.fr x y hx hy
              have hst2 := ht4.store x y hx hy (-1)
              have HS4 := Lib.hid (hst2.1.congr (upd_back HUN.out HPE.out (c : Int)))
              have HC4 : Hid (ChgR k S w (w4.setCell ⟨H x, y, none⟩ (.int .i64 (-1)))) := hch4.trans ⟨rfl, rfl, rfl, by simp, fun q _ hq => heap_setCell_other _ _ _ _ (by show q ≠ H x; have := ht4.hb x hx; omega)⟩
              have HK4 : Hid ((w4.setCell ⟨H x, y, none⟩ (.int .i64 (-1))).heap[k]? = w4.heap[k]?) := heap_setCell_other _ _ _ _ (by show k ≠ H x; have := ht4.hb x hx; omega)
              have sk4 := HSKA.out _ hch4
              have s0 := sk4.c0
              have s1 := sk4.c1
              clear hst2 sk4
              go_wp2_with fail
              go_roundw
              case rel => exact ⟨c + 1, by omega, by go_num, HS4.out, HC4.out, Lib.hid (HII.out.skip HPR.out (by rw [HK4.out, HDW.out, HK3.out]) HNF.out), Lib.hid (HII.out.keep HOK.out (by rw [HK4.out, HDW.out, HK3.out]))⟩
              case measure => first | (simp [intOf]; done) | (simp [intOf]; omega)
            case false =>
              have HVQ2 : Hid (Vq n (p + 1) (upd t x y (c : Int))) := ⟨HVP.out, HUN2.out, fun h => by have := HCL.out.2 h; cases this⟩
              go_wp2_with fail
              refine (HIH.out _ w4 _ (by go_num) ht4 (HSKA.out _ hch4) HVQ2.out (HII.out.keep HOK.out (by rw [HDW.out, HK3.out]))).mono ?_
              rintro e w5 ⟨b, rfl, hch5, hfin, htb5⟩
              have hch6 := hch4.trans hch5
              have HFI := Lib.hid hfin
              have HK5 : Hid (w4.heap[k]? = wr.heap[k]?) := by unfold Hid; rw [HDW.out, HK3.out]
              clear hfin hch5
              cases b
              case true =>
                have HY : Hid (Fin p t w w5 true) := HII.out.yes HPE.out hx hy hcn HPR.out HK5.out hch4.size HFI.out
                go_wp2_with fail
                go_ret
                exact SkPost.yes hch6 HY.out
              case false =>
                have ht5 := htb5 rfl
                clear ht4 htb5
                have ht4 := ht5
                have v1 := ht4.row x hx
                have v2 := ht4.cell x y hx hy
                have v3 := ht4.fr x y hx hy
                have hst2 := ht4.store x y hx hy (-1)
                have HS4 := Lib.hid (hst2.1.congr (upd_back HUN.out HPE.out (c : Int)))
                have HC4 : Hid (ChgR k S w (w5.setCell ⟨H x, y, none⟩ (.int .i64 (-1)))) := hch6.trans ⟨rfl, rfl, rfl, by simp, fun q _ hq => heap_setCell_other _ _ _ _ (by show q ≠ H x; have := ht4.hb x hx; omega)⟩
                have HK4 : Hid ((w5.setCell ⟨H x, y, none⟩ (.int .i64 (-1))).heap[k]? = w5.heap[k]?) := heap_setCell_other _ _ _ _ (by show k ≠ H x; have := ht4.hb x hx; omega)
                have sk4 := HSKA.out _ hch6
                have s0 := sk4.c0
                have s1 := sk4.c1
                clear hst2 sk4
                have HP2 : Hid (Prt p x y t w (w5.setCell ⟨H x, y, none⟩ (.int .i64 (-1))) (c + 1)) := HII.out.no HPE.out hx hy hcn HPR.out HK5.out HFI.out HK4.out
                go_wp2_with fail
                go_roundw
                case rel => exact ⟨c + 1, by omega, by go_num, HS4.out, HC4.out, HP2, Lib.hid (HII.out.okp HP2.out)⟩
                case measure => first | (simp [intOf]; done) | (simp [intOf]; omega)
    · obtain rfl : n = c := by omega
      have HF : Hid (Fin p t w wr false) := HII.out.fin HPE.out hx hy HPR.out rfl
      go_wp2_with fail
      go_ret
      exact SkPost.no hch HF.out ht
theorem seekC_any (n k p0 : Nat) (stop : Bool) (hn : 1 ≤ n ∧ n ≤ 5) (B S G : Nat) (H P : Nat → Nat) (C : Nat) (hk : k < B) (hp0 : S ≤ p0) (Ok : World → Prop) (Fin : Nat → TF → World → World → Bool → Prop) (Prt : Nat → Nat → Nat → TF → World → World → Nat → Prop) (I : SkI n k Ok Fin Prt)
    (HDo : Hid (∀ (t : TF) (w w0 : World), Ta n t → TbAt B S G H P C n t w → Ok w → w0.heap = w.heap → Calls Try.prog 40 #[.slice (some ⟨G, 0, none⟩) n C, .pointer (some ⟨k, 0, none⟩)] w fun e w' => e = .returned (.bool stop) ∧ TbAt B S G H P C n t w' ∧ ChgR k S w w' ∧ Fin (n * n) t w0 w' stop)) :
    ∀ (d p : Nat), p + d = n * n → ∀ (t : TF) (w : World) (q : Int), q = (p : Int) → TbAt B S G H P C n t w → SkAt p0 n G C w → Vq n p t → Ok w →
      Calls Try.prog 34 #[.pointer (some ⟨p0, 0, none⟩), .int .i64 q, .func (.func 40) #[] #[.pointer (some ⟨k, 0, none⟩)]] w (SkPost n k B S G H P C Fin p t w)
  | 0, p, hp, t, w, q, hq, ht, hsk, hv, hok => by
    obtain rfl : p = n * n := by omega
    subst hq
    exact seek_endC n k p0 stop hn B S G H P C hp0 Fin Ok I.keep HDo t w ht hsk hv hok
  | d + 1, p, hp, t, w, q, hq, ht, hsk, hv, hok => by
    subst hq
    exact seek_stepC n k p0 hn B S G H P C hk hp0 Ok Fin Prt I p (by omega) (fun t w q hq ht hsk hv hok => seekC_any n k p0 stop hn B S G H P C hk hp0 Ok Fin Prt I HDo d (p + 1) (by omega) t w q hq ht hsk hv hok) t w ht hsk hv hok
end Go.Proofs.Ythcnhkjiojeemaa
