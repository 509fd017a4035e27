/- l07Families, FamiliesOf: the reference's. -/
import Derived.Test.YtdkheeocglfogaaFamQ
import Derived.Test.YtdkheeocglfogaaFam
import Derived.Test.YtdkheeocglfogaaLikeS
import Derived.Test.YtdkheeocglfogaaAlk
namespace Go.Proofs.Ytdkheeocglfogaa
open Go.RowKit

theorem drew_later {w w' : World} {n : Nat} (h : Below w.heap.size w w') : Below w.heap.size w (w'.drewN n) := below_drewN h n
set_option maxHeartbeats 4000000 in
set_option maxRecDepth 100000 in
theorem l07Families_any (X : Nat) (s : ByteArray) (v : Value) (l : List ByteArray) (w : World) (hbx : LX X s v w) (hx : RS w v l) (hm : l.length ≤ 1048576) (hs : s.size ≤ 18) (hd : Hid (Dis s)) (h2 : Hid (∀ i, i < l.length → (sAt l i).size = 2)) :
    Calls Try.prog 50 #[.pointer (some ⟨X, 0, none⟩)] w (FamPost s l w) := by
  have HC : Hid (∀ wr, Below w.heap.size w wr → wr.cell? ⟨X, 0, none⟩ = some (.string s)) := fun wr h => (h.cell (p := ⟨X, 0, none⟩) hbx.lt).trans hbx.c0
  have HAL : Hid (∀ i j b, i < s.size → j < s.size → lk s l i j = b → ∀ wr, Below w.heap.size w wr → Calls Try.prog 41 #[.pointer (some ⟨X, 0, none⟩), .int .u8 (bI s i), .int .u8 (bI s j)] wr fun e w' => e = .returned (.bool b) ∧ wr = w') := fun i j b hi hj e wr h => by
    have := l07Alike_any X s v l (bAt s i) (bAt s j) wr (hbx.later h) (hx.later h) hm h2.out
    unfold lk at e
    rw [e] at this
    exact this
  have HIX : Hid (∀ (t : ByteArray) (L : List Nat) (j : Nat) (b : Bool), bz t = L.map (bI s) → (∀ a ∈ L, a < s.size) → j < s.size → decide (j ∈ L) = b → t.size ≤ 1048576 → ∀ wr, Calls Try.prog 51 #[.string t, .int .u8 (bI s j)] wr fun e w' => (∃ z : Int, e = .returned (.int .i64 z) ∧ decide (0 ≤ z) = b) ∧ wr = w') := fun t L j b hz hL hj hb ht wr => by
    refine (l07Index_any t (bI s j) wr ht).mono fun e w' h => ⟨⟨_, h.1, ?_⟩, h.2⟩
    rw [ix_mem, hz, ← hb]
    exact decide_eq_decide.2 (mem_bI hd.out hL hj)
  have hb : Below w.heap.size w (w.alloc (.cells #[] 9)) := (Below.refl _ _).alloc (Nat.le_refl _) _
  have ho : OS w.heap.size (w.alloc (.cells #[] 9)) (.slice (some ⟨w.heap.size, 0, none⟩) 0 0) (fams s (lk s l) 0) := OV.made _ _ (Nat.le_refl _)
  clear hbx hx
  go_enter Try.func50, Try.ntmps50
  go_wp2_with fail
  generalize w.alloc (.cells #[] 9) = w1 at *
  generalize Value.slice (some ⟨w.heap.size, 0, none⟩) 0 0 = v0 at *
  go_loopw [3, 4, 5] (fun ov tv iv wr => ∃ (k : Nat) (t : ByteArray) (T : List Nat), k ≤ s.size ∧ iv = .int .i64 k ∧ tv = .string t ∧ Hid (bz t = T.map (bI s)) ∧ t.size ≤ 18 * k ∧ Hid (∀ a ∈ T, a < s.size) ∧ Hid (∀ j, j < s.size → decide (j ∈ T) = dn (lk s l) s.size k j) ∧ OS w.heap.size wr ov (fams s (lk s l) k) ∧ Below w.heap.size w wr) (fun _ _ iv _ => s.size - (intOf iv).toNat)
  case atStart => exact ⟨0, ByteArray.empty, [], Nat.zero_le _, rfl, rfl, rfl, Nat.le_refl _, fun a ha => by simp at ha, fun j _ => by rw [dn_zero]; simp, ho, hb⟩
  case round =>
    clear ho hb
    obtain ⟨k, t, T, hk, rfl, rfl, HT, ht, HTL, HTD, ho, hb⟩ := hrel
    have c0 := HC.out _ hb
    by_cases hkl : k < s.size
    · have f1 : (k : Int) < (s.size : Int) := by omega
      have HBK := Lib.hid (bAt_get s k hkl)
      cases hdn : dn (lk s l) s.size k k
      · have HI := Lib.hid (fun wr => HIX.out t T k false HT.out HTL.out hkl ((HTD.out k hkl).trans hdn) (by omega) wr)
        have HF := Lib.hid (fams_new hdn)
        have HX1 := Lib.hid (bz_one s k hkl)
        have hxs : (s.extract k (k + 1)).size = 1 := by rw [← bz_len, HX1.out]; rfl
        clear hdn
        unfold bI at HI
        rw [HBK.out] at HI
        go_wp2_with fail
        refine (HI.out _).mono ?_
        rintro e w' ⟨⟨z, rfl, hz⟩, rfl⟩
        have hz0 : ¬ 0 ≤ z := of_decide_eq_false hz
        go_wp2_with fail
        generalize hxe : s.extract k (k + 1) = q0 at *
        clear hxe hz hz0
        go_loopw [6, 7] (fun qv jv wx => ∃ (q : ByteArray) (L : List Nat) (j : Nat), qv = .string q ∧ jv = .int .i64 j ∧ Hid (bz q = L.map (bI s)) ∧ j ≤ q.size ∧ q.size ≤ 18 ∧ Hid (q.size = L.length) ∧ Hid (BF (lk s l) s.size k L j) ∧ OS w.heap.size wx u3 (fams s (lk s l) k) ∧ Below w.heap.size w wx) (fun _ jv _ => 18 - (intOf jv).toNat)
        case atStart => exact ⟨q0, [k], 0, rfl, rfl, HX1.out, Nat.zero_le _, by omega, hxs, BF.start _ _ k hkl, ho, hb⟩
        case round =>
          clear c0 ho hb
          obtain ⟨q, L, j, rfl, rfl, HQ, hj, hq18, HQL, HB, ho, hb⟩ := hrel
          by_cases hjl : j < q.size
          · go_wp2_with fail
            go_loopw [6, 8] (fun qv mv wx => ∃ (q : ByteArray) (L : List Nat) (m : Nat), qv = .string q ∧ mv = .int .i64 m ∧ m ≤ s.size ∧ Hid (bz q = L.map (bI s)) ∧ j < q.size ∧ q.size ≤ 18 ∧ Hid (q.size = L.length) ∧ Hid (BM (lk s l) s.size k L j m) ∧ OS w.heap.size wx u3 (fams s (lk s l) k) ∧ Below w.heap.size w wx) (fun _ mv _ => s.size - (intOf mv).toNat)
            case atStart => exact ⟨q, L, 0, rfl, rfl, Nat.zero_le _, HQ, hjl, hq18, HQL, BM.start HB.out (by rw [← HQL.out]; exact hjl), ho, hb⟩
            case round =>
              clear HQ HQL HB ho hb hjl hq18 hj
              obtain ⟨q, L, m, rfl, rfl, hm', HQ, hjl, hq18, HQL, HB, ho, hb⟩ := hrel
              have c0 := HC.out _ hb
              by_cases hml : m < s.size
              · have hjL : j < L.length := by rw [← HQL.out]; exact hjl
                obtain ⟨a, ha⟩ : ∃ a, a = L.getD j 0 := ⟨_, rfl⟩
                have haL : a ∈ L := by rw [ha, show L.getD j 0 = L[j] by simp [hjL]]; exact List.getElem_mem _
                have han := (HB.out.rc a haL).1
                have hqj : Hid ((q[j].toNat : Int) = bI s a) := by
                  unfold Hid
                  rw [← bz_get q j hjl, HQ.out, ha]
                  simp [hjL]
                have hsm : Hid ((s[m].toNat : Int) = bI s m) := by unfold Hid bI; rw [bAt_get s m hml]
                have f2 : (m : Int) < (s.size : Int) := by omega
                have f3 : (j : Int) < (q.size : Int) := by omega
                have HLA : Hid (∀ b, lk s l a m = b → ∀ n, Calls Try.prog 41 #[.pointer (some ⟨X, 0, none⟩), .int .u8 (q[j].toNat : Int), .int .u8 (s[m].toNat : Int)] (wr.drewN n) fun e w' => e = .returned (.bool b) ∧ wr.drewN n = w') := fun b e n => by
                  rw [hqj.out, hsm.out]
                  exact HAL.out a m b han hml e _ (below_drewN hb n)
                obtain ⟨z, hz⟩ : ∃ z, z = ix (bz q) (bI s m) := ⟨_, rfl⟩
                have HZ : Hid (decide (0 ≤ z) = decide (m ∈ L)) := by
                  unfold Hid
                  rw [hz, ix_mem, HQ.out]
                  exact decide_eq_decide.2 (mem_bI hd.out (fun b hb => (HB.out.rc b hb).1) hml)
                have HIZ : Hid (∀ n, Calls Try.prog 51 #[.string q, .int .u8 (s[m].toNat : Int)] (wr.drewN n) fun e w' => e = .returned (.int .i64 z) ∧ wr.drewN n = w') := fun n => by
                  rw [hsm.out, hz]
                  exact l07Index_any q (bI s m) _ (by omega)
                have HAD := Lib.hid ha
                clear hz ha haL
                cases hal : lk s l a m
                · have HA := Lib.hid (HLA.out _ hal)
                  have HBN : Hid (BM (lk s l) s.size k L j (m + 1)) := HB.out.skip fun h => by rw [← HAD.out, hal] at h; cases h
                  clear hal HLA HB HZ
                  go_wp2_with fail
                  go_quiet ((go_at_call 41; exact quiet_same (HA.out _)))
                  go_wp2_with fail
                  go_roundw
                  case rel => exact ⟨q, L, m + 1, rfl, by go_num, by omega, HQ, hjl, hq18, HQL, HBN, OS.later ho (below_drewN (Below.refl _ _) _), below_drewN hb _⟩
                  case measure => first | (simp [intOf]; done) | (simp [intOf]; omega)
                · have HA := Lib.hid (HLA.out _ hal)
                  by_cases hin : m ∈ L
                  · have HBN : Hid (BM (lk s l) s.size k L j (m + 1)) := HB.out.skip fun _ => hin
                    have hz0 : ¬ z < 0 := by have := HZ.out; rw [decide_eq_true hin, decide_eq_true_eq] at this; omega
                    clear hal HLA HB HZ hin
                    go_wp2_with fail
                    go_quiet (first | (go_at_call 41; exact quiet_same (HA.out _)) | (go_at_call 51; exact quiet_same (HIZ.out _)))
                    go_wp2_with fail
                    go_roundw
                    case rel => exact ⟨q, L, m + 1, rfl, by go_num, by omega, HQ, hjl, hq18, HQL, HBN, OS.later ho (below_drewN (Below.refl _ _) _), below_drewN hb _⟩
                    case measure => first | (simp [intOf]; done) | (simp [intOf]; omega)
                  · have HBN : Hid (BM (lk s l) s.size k (L ++ [m]) j (m + 1)) := HB.out.add hml (by rw [← HAD.out]; exact hal) hin
                    have hz0 : z < 0 := by have := HZ.out; rw [decide_eq_false hin, decide_eq_false_iff_not] at this; omega
                    have HX2 := Lib.hid (bz_one s m hml)
                    have hx1 : (s.extract m (m + 1)).size = 1 := by rw [← bz_len, HX2.out]; rfl
                    have HQN : Hid (bz (q ++ s.extract m (m + 1)) = (L ++ [m]).map (bI s)) := by unfold Hid; rw [bz_append, HQ.out, HX2.out, List.map_append]; rfl
                    have HSN : Hid ((q ++ s.extract m (m + 1)).size = (L ++ [m]).length) := by unfold Hid; rw [← bz_len, HQN.out, List.length_map]
                    have hn18 : (q ++ s.extract m (m + 1)).size ≤ 18 := by rw [HSN.out]; have := HBN.out.len; omega
                    have hnj : j < (q ++ s.extract m (m + 1)).size := by rw [HSN.out, List.length_append]; omega
                    have c1 : ∀ n, (wr.drewN n).cell? ⟨X, 0, none⟩ = some (.string s) := fun n => HC.out _ (below_drewN hb n)
                    clear hal HLA HB HZ hin
                    go_wp2_with fail
                    go_quiet (first | (go_at_call 41; exact quiet_same (HA.out _)) | (go_at_call 51; exact quiet_same (HIZ.out _)))
                    go_wp2_with fail
                    go_roundw
                    case rel => exact ⟨_, L ++ [m], m + 1, rfl, by go_num, by omega, HQN, hnj, hn18, HSN, HBN, OS.later ho (below_drewN (Below.refl _ _) _), below_drewN hb _⟩
                    case measure => first | (simp [intOf]; done) | (simp [intOf]; omega)
              · obtain rfl : m = s.size := by omega
                have HBN := Lib.hid HB.out.done
                go_wp2_with fail
                go_roundw
                case rel => exact ⟨q, L, j + 1, rfl, by go_num, HQ, by omega, hq18, HQL, HBN, ho, hb⟩
                case measure => simp [intOf]; omega
          · have HFM := Lib.hid (HB.out.fam hkl (by rw [← HQL.out]; omega))
            have hqt : t.size + q.size ≤ 400 := by omega
            have HTN : Hid (bz (t ++ q) = (T ++ L).map (bI s)) := by unfold Hid; rw [bz_append, HT.out, HQ.out, List.map_append]
            have htn : (t ++ q).size ≤ 18 * (k + 1) := by
              have : (t ++ q).size = t.size + q.size := by rw [← bz_len, bz_append, List.length_append, bz_len, bz_len]
              omega
            have HTLN : Hid (∀ a ∈ T ++ L, a < s.size) := fun a ha => by
              rcases List.mem_append.1 ha with h | h
              · exact HTL.out a h
              · exact (HB.out.rc a h).1
            have HTDN : Hid (∀ j, j < s.size → decide (j ∈ T ++ L) = dn (lk s l) s.size (k + 1) j) := fun j hj => by
              rw [dn_succ, ← HTD.out j hj, ← HFM.out j hj]
              simp
            have HIX2 : Hid (∀ m, m < s.size → ∀ (b : Bool), cmp (lk s l) s.size k m = b → ∀ wx, Calls Try.prog 51 #[.string q, .int .u8 (s[m]!.toNat : Int)] wx fun e w' => (∃ z : Int, e = .returned (.int .i64 z) ∧ decide (0 ≤ z) = b) ∧ wx = w') := fun m hml b hb wx => by
              have := HIX.out q L m b HQ.out (fun a ha => (HB.out.rc a ha).1) hml ((HFM.out m hml).trans hb) (by omega) wx
              unfold bI at this
              rw [bAt_get s m hml] at this
              rwa [getElem!_pos s m hml]
            clear HB HQL HFM HT HTL HTD HQ HI
            have c0 := HC.out _ hb
            go_wp2_with fail
            clear c0
            go_loopw [9, 10] (fun fv mv wx => ∃ (f : ByteArray) (m : Nat), fv = .string f ∧ mv = .int .i64 m ∧ m ≤ s.size ∧ f.size ≤ m ∧ Hid (bz f = ctB s m (cmp (lk s l) s.size k)) ∧ OS w.heap.size wx u3 (fams s (lk s l) k) ∧ Below w.heap.size w wx) (fun _ mv _ => s.size - (intOf mv).toNat)
            case atStart => exact ⟨ByteArray.empty, 0, rfl, rfl, Nat.zero_le _, Nat.le_refl _, rfl, ho, hb⟩
            case round =>
              clear ho hb
              obtain ⟨f, m, rfl, rfl, hml', hf, HFB, ho, hb⟩ := hrel
              have c0 := HC.out _ hb
              by_cases hml : m < s.size
              · have f2 : (m : Int) < (s.size : Int) := by omega
                have HCB := Lib.hid (ctB_bI s m (cmp (lk s l) s.size k))
                have HX2 := Lib.hid (bz_one s m hml)
                have hx1 : (s.extract m (m + 1)).size = 1 := by rw [← bz_len, HX2.out]; rfl
                cases hc : cmp (lk s l) s.size k m
                · have HI := Lib.hid (HIX2.out m hml _ hc)
                  rw [getElem!_pos s m hml] at HI
                  rw [hc] at HCB
                  clear hc
                  go_wp2_with fail
                  refine (HI.out _).mono ?_
                  rintro e w' ⟨⟨z, rfl, hz⟩, rfl⟩
                  have hz0 : ¬ 0 ≤ z := of_decide_eq_false hz
                  go_wp2_with fail
                  go_roundw
                  case rel => exact ⟨f, m + 1, rfl, by go_num, by omega, by omega, by rw [HCB.out]; exact HFB, ho, hb⟩
                  case measure => first | (simp [intOf]; done) | (simp [intOf]; omega)
                · have HI := Lib.hid (HIX2.out m hml _ hc)
                  rw [getElem!_pos s m hml] at HI
                  rw [hc] at HCB
                  have HFN : Hid (bz (f ++ s.extract m (m + 1)) = ctB s (m + 1) (cmp (lk s l) s.size k)) := by unfold Hid; rw [bz_append, HFB.out, HX2.out, HCB.out]; rfl
                  have hfn : (f ++ s.extract m (m + 1)).size ≤ m + 1 := by
                    have : (f ++ s.extract m (m + 1)).size = f.size + 1 := by rw [← bz_len, bz_append, List.length_append, bz_len, bz_len, hx1]
                    omega
                  clear hc
                  go_wp2_with fail
                  refine (HI.out _).mono ?_
                  rintro e w' ⟨⟨z, rfl, hz⟩, rfl⟩
                  have hz0 : 0 ≤ z := of_decide_eq_true hz
                  go_wp2_with fail
                  go_roundw
                  case rel => exact ⟨_, m + 1, rfl, by go_num, by omega, hfn, HFN, ho, hb⟩
                  case measure => first | (simp [intOf]; done) | (simp [intOf]; omega)
              · obtain rfl : m = s.size := by omega
                have HFE := Lib.hid (ctx_of HFB.out)
                have HNF : Hid (ss (fams s (lk s l) (k + 1)) = ss (fams s (lk s l) k) ++ [.string f]) := by unfold Hid; rw [HF.out, ← HFE.out]; unfold ss; rw [List.map_append]; rfl
                have hfl : (ss (fams s (lk s l) k)).length ≤ 1099511627776 := by rw [ss_length]; have := fams_len s (lk s l) k; omega
                have hsz := hb.size
                go_wp2_with (at_builtin; refine wpl_app Try.underlying22 info_str rfl (by omega) rfl _ _ rfl w.heap.size _ (ss (fams s (lk s l) k)) rfl (OV.alloc ho _) _ _ _ rfl (World.cell?_alloc_at _ _ _ _ rfl) rfl hfl (by simp; omega) ?_; intro v' w5 ho5 hgr)
                have hbs : Below w.heap.size w w5 := own_below (hb.alloc hsz _) (OV.alloc ho _) hgr (by simp; omega)
                go_roundw
                case rel => exact ⟨k + 1, t ++ q, T ++ L, by omega, by go_num, rfl, HTN, htn, HTLN, HTDN, by unfold OS; rw [HNF.out]; exact ho5, hbs⟩
                case measure => first | (simp [intOf]; done) | (simp [intOf]; omega)
      · have HI := Lib.hid (fun wr => HIX.out t T k true HT.out HTL.out hkl ((HTD.out k hkl).trans hdn) (by omega) wr)
        have HF := Lib.hid (fams_skip hdn)
        have HTD2 : Hid (∀ j, j < s.size → decide (j ∈ T) = dn (lk s l) s.size (k + 1) j) := fun j hj => by rw [dn_skip hdn]; exact HTD.out j hj
        clear hdn
        unfold bI at HI
        rw [HBK.out] at HI
        go_wp2_with fail
        refine (HI.out _).mono ?_
        rintro e w' ⟨⟨z, rfl, hz⟩, rfl⟩
        have hz0 : 0 ≤ z := of_decide_eq_true hz
        go_wp2_with fail
        go_roundw
        case rel => exact ⟨k + 1, t, T, by omega, by go_num, rfl, HT, by omega, HTL, HTD2, by rw [HF.out]; exact ho, hb⟩
        case measure => first | (simp [intOf]; done) | (simp [intOf]; omega)
    · obtain rfl : k = s.size := by omega
      go_wp2_with fail
      go_ret
      exact ⟨_, rfl, ho, hb⟩
end Go.Proofs.Ytdkheeocglfogaa
