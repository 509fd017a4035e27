/- Patterns have their number of elements, their sum and no greater element, ascend by rank, and are counted by what they begin with: for every input. -/
import Derived.Test.YtjjohniabgamjaaPatAt
import Derived.Test.YtjjohniabgamjaaPatProp
import Derived.Test.YtjjohniabgamjaaR8
namespace Go.Proofs.Ytjjohniabgamjaa
open Go.RowKit

theorem implCountX (e m k : Int) (w : World) (he : 1 ≤ e ∧ e ≤ 10) (hm : 1 ≤ m ∧ m ≤ 20) (hk : 1 ≤ k ∧ k ≤ 4) :
    Calls Try.prog 12 #[.int .i64 e, .int .i64 m, .int .i64 k] w fun x w' => ∃ c : Nat, x = .returned (.tuple #[.int .i64 c, .bool true]) ∧ c ≤ 1048576 ∧ Hid (c = cN k.toNat e.toNat m.toNat) ∧ Below w.heap.size w w' := by
  have hc : countB e m k = true := countB_iff.2 (by omega)
  refine (implCount_any e m k w).mono fun r w' h => ⟨cN k.toNat e.toNat m.toNat, ?_, cN_bd _ _ _ (by omega) (by omega), rfl, h.2⟩
  rw [h.1, cntR, hc, if_pos rfl, cnt_cN _ _ _ (by omega) (by omega) (by omega)]
theorem implAtX (e m k r : Int) (w : World) (he : 1 ≤ e ∧ e ≤ 10) (hm : 1 ≤ m ∧ m ≤ 20) (hk : 1 ≤ k ∧ k ≤ 4) (hr0 : 0 ≤ r) (hr : Hid (r < (cN k.toNat e.toNat m.toNat : Nat))) :
    Calls Try.prog 16 #[.int .i64 e, .int .i64 m, .int .i64 k, .int .i64 r] w fun x w' => ∃ (p : ByteArray) (xs : List Int), x = .returned (.tuple #[.string p, .bool true]) ∧ Hid (p = strOfNums xs ∧ IsPat k.toNat e.toNat m.toNat r.toNat xs) ∧ Below w.heap.size w w' := by
  obtain ⟨e, rfl⟩ := Int.eq_ofNat_of_zero_le (show 0 ≤ e by omega)
  obtain ⟨m, rfl⟩ := Int.eq_ofNat_of_zero_le (show 0 ≤ m by omega)
  obtain ⟨k, rfl⟩ := Int.eq_ofNat_of_zero_le (show 0 ≤ k by omega)
  obtain ⟨r, rfl⟩ := Int.eq_ofNat_of_zero_le hr0
  have hr' := hr.out
  simp only [Int.toNat_natCast] at hr'
  refine (implAt_yes e m k r w (by omega) (by omega) (by omega) (by omega)).mono fun x w' ⟨xs, h1, h2, h3⟩ => ⟨_, xs, h1, ⟨rfl, h2⟩, h3⟩
theorem implAtNo (e m k r : Int) (w : World) (hr : Hid (((cN k.toNat e.toNat m.toNat : Nat) : Int) ≤ r)) :
    Calls Try.prog 16 #[.int .i64 e, .int .i64 m, .int .i64 k, .int .i64 r] w fun x w' => x = .returned (.tuple #[.string ByteArray.empty, .bool false]) ∧ Below w.heap.size w w' :=
  implAt_no e m k r w fun h => by
    have h1 := h.2
    have := hr.out
    simp only [inB, Bool.and_eq_true, decide_eq_true_eq] at h1
    omega

theorem patFacts (r1 r2 r3 q : Nat) (p : ByteArray) (zs : List Int) (hr : r3 < 4) (h : Hid (p = strOfNums zs ∧ IsPat (1 + (r3 : Int)).toNat (1 + (r1 : Int)).toNat (1 + (r1 : Int) + r2).toNat (q : Int).toNat zs)) (hlt : q < cN (r3 + 1) (r1 + 1) (r1 + 1 + r2)) :
    ((p.size : Int) != 1 + r1) = false ∧ Hid (∀ i (h : i < p.size), (p[i].toNat : Int) = zs.getD i 0 ∧ 49 ≤ zs.getD i 0 ∧ zs.getD i 0 ≤ 49 + r3) ∧ Hid (zs.length = p.size ∧ p.size = r1 + 1) ∧ Hid (isum zs = 48 * (r1 + 1) + (r1 + 1 + r2) ∧ IsPat (r3 + 1) (r1 + 1) (r1 + 1 + r2) q zs ∧ p = strOfNums zs) := by
  obtain ⟨rfl, h'⟩ := h.out
  rw [show (1 + (r3 : Int)).toNat = r3 + 1 by omega, show (1 + (r1 : Int)).toNat = r1 + 1 by omega, show (1 + (r1 : Int) + r2).toNat = r1 + 1 + r2 by omega, show (q : Int).toNat = q by omega] at h'
  clear h
  have hl := isPat_len _ _ _ _ _ h'
  have hin := isPat_in _ _ _ _ _ h'
  have hs := isPat_sum _ _ _ _ _ hlt h'
  have hz : (strOfNums zs).size = r1 + 1 := by rw [strOfNums_size, hl]
  refine ⟨by rw [hz]; simp; omega, ?_, ⟨by rw [hz, hl], hz⟩, ⟨by rw [hs]; omega, h', rfl⟩⟩
  intro i hi
  have hi' : i < zs.length := by rw [strOfNums_size] at hi; exact hi
  have hm := hin (zs.getD i 0) (by simp [hi'])
  refine ⟨?_, by omega, by omega⟩
  have e : (strOfNums zs)[i] = UInt8.ofNat zs[i].toNat := by
    show (strOfNums zs).data[i] = _
    simp [strOfNums]
  have e2 : zs.getD i 0 = zs[i] := by simp [hi']
  rw [e, e2]
  rw [e2] at hm
  rw [UInt8.toNat_ofNat']
  omega
theorem patOver (r1 r2 r3 q : Nat) (p : ByteArray) (zs : List Int) (ls : ByteArray) (hr : r3 < 4) (h : Hid (p = strOfNums zs ∧ IsPat (1 + (r3 : Int)).toNat (1 + (r1 : Int)).toNat (1 + (r1 : Int) + r2).toNat (q : Int).toNat zs))
    (hq : Hid (q = 0 ∨ ∃ zs, ls = strOfNums zs ∧ IsPat (r3 + 1) (r1 + 1) (r1 + 1 + r2) (q - 1) zs)) (hlt : q < cN (r3 + 1) (r1 + 1) (r1 + 1 + r2)) (h0 : 0 < q) :
    (Op.bytesLess p.toList ls.toList || p.toList == ls.toList) = false := by
  obtain ⟨rfl, h'⟩ := h.out
  rw [show (1 + (r3 : Int)).toNat = r3 + 1 by omega, show (1 + (r1 : Int)).toNat = r1 + 1 by omega, show (1 + (r1 : Int) + r2).toNat = r1 + 1 + r2 by omega, show (q : Int).toNat = q by omega] at h'
  rcases hq.out with h1 | ⟨ys, rfl, hy⟩
  · omega
  · exact pat_leq (by omega) (by omega) hy h' hlt

set_option maxHeartbeats 2000000 in
set_option maxRecDepth 100000 in
theorem lawPat_short (v0 v1 : Value) (xs ys : List Int) (w : World) (hx : RK .u8 w v0 xs) (hwx : ∀ x ∈ xs, (Lit.int .u8 x).wf = true) (hmx : xs.length ≤ maxLen)
    (hy : RK .u8 w v1 ys) (hwy : ∀ x ∈ ys, (Lit.int .u8 x).wf = true) (hmy : ys.length ≤ maxLen) (hs : long8 xs.length ys.length = false) :
    Calls Try.prog 4 #[v0, v1] w fun x w' => x = .returned (.bool true) ∧ Below w.heap.size w w' := by
  obtain ⟨a, c, rfl⟩ := hx.slice
  obtain ⟨b, d, rfl⟩ := hy.slice
  go_enter Try.func4, Try.ntmps4
  go_wp2_with fail
  refine (r8Long_any _ _ _ _ _ _ _).mono ?_
  rintro e w' ⟨rfl, rfl⟩
  go_wp2_with fail
  refine (r8At_any _ _ _ _ _ _ _ hx hwx hmx (by omega) (by omega)).mono ?_
  rintro e w' ⟨r1, rfl, hr1, rfl⟩
  obtain ⟨r1, rfl⟩ := Int.eq_ofNat_of_zero_le hr1.1
  go_wp2_with fail
  refine (r8At_any _ _ _ _ _ _ _ hy hwy hmy (by omega) (by omega)).mono ?_
  rintro e w' ⟨r2, rfl, hr2, rfl⟩
  obtain ⟨r2, rfl⟩ := Int.eq_ofNat_of_zero_le hr2.1
  go_wp2_with fail
  refine (r8At_any _ _ _ _ _ _ _ hy hwy hmy (by omega) (by omega)).mono ?_
  rintro e w' ⟨r3, rfl, hr3, rfl⟩
  obtain ⟨r3, rfl⟩ := Int.eq_ofNat_of_zero_le hr3.1
  clear hx hwx hmx hy hwy hmy hs
  go_wp2_with fail
  refine (implCountX _ _ _ _ (by omega) (by omega) (by omega)).mono ?_
  rintro e w1 ⟨n, rfl, hn, HN, hb1⟩
  have HN' : Hid (n = cN (r3 + 1) (r1 + 1) (r1 + 1 + r2)) := by
    have := HN.out
    rw [show (1 + (r3 : Int)).toNat = r3 + 1 by omega, show (1 + (r1 : Int)).toNat = r1 + 1 by omega, show (1 + (r1 : Int) + r2).toNat = r1 + 1 + r2 by omega] at this
    exact this
  have HNO : Hid (((cN (1 + (r3 : Int)).toNat (1 + (r1 : Int)).toNat (1 + (r1 : Int) + r2).toNat : Nat) : Int) ≤ (n : Int)) := (by have := HN.out; omega : ((cN (1 + (r3 : Int)).toNat (1 + (r1 : Int)).toNat (1 + (r1 : Int) + r2).toNat : Nat) : Int) ≤ (n : Int))
  have HNO2 : Hid ((n : Int) ≤ ((cN (1 + (r3 : Int)).toNat (1 + (r1 : Int)).toNat (1 + (r1 : Int) + r2).toNat : Nat) : Int)) := (by have := HN.out; omega : (n : Int) ≤ ((cN (1 + (r3 : Int)).toNat (1 + (r1 : Int)).toNat (1 + (r1 : Int) + r2).toNat : Nat) : Int))
  clear HN
  go_wp2_with fail
  go_loopw [10, 11] (fun sv wv wr => ∃ (j s : Nat), sv = .int .i64 s ∧ wv = .int .i64 ↑(j + 1) ∧ s ≤ 1048576 * j ∧ j ≤ 4 ∧ (r1 = 0 → j = 0) ∧ Hid (j ≤ min (r3 + 1) (r1 + r2)) ∧ Hid (s = pre (r3 + 1) r1 (r1 + 1 + r2) j) ∧ Below w.heap.size w wr) (fun _ wv _ => 30 - (intOf wv).toNat)
  case atStart => exact ⟨0, 0, rfl, rfl, by omega, by omega, fun _ => rfl, Nat.zero_le _, rfl, hb1⟩
  case round =>
    obtain ⟨j, s, rfl, rfl, hs, hj, hj0, HJ, HS, hb⟩ := hrel
    have hj' := HJ.out
    have hz := hb.size
    have HSb : s ≤ 4194304 := by omega
    by_cases hr0 : r1 = 0
    · have hj00 : j < 1 := by have := hj0 hr0; omega
      have HN2 : n = if 1 + r2 ≤ r3 + 1 then 1 else 0 := by
        have h1 := HN'.out
        have h2 := cN_one (r3 + 1) (1 + r2) (by omega)
        rw [hr0] at h1
        rw [h1, ← h2, show 0 + 1 + r2 = 1 + r2 by omega]
      have he1 : ((1 + (r1 : Int)) == 1) = true := by simp [hr0]
      have hgt : ¬ (1 : Int) < 1 + r1 := by omega
      have HJ0 : Hid (j < 1) := hj00
      clear hj0 hr0 hj' hj00
      by_cases h12 : r2 ≤ r3
      · have hnb : ((n : Int) != 1) = false := by rw [if_pos (by omega)] at HN2; simp [HN2]
        clear HN2
        have hj2 : ((j : Int) + 1) ≤ 1 + r3 := by have := HJ0.out; omega
        by_cases h13 : ((j : Int) + 1) < 1 + r1 + r2
        · go_wp2_with (go_at_call 15; refine (r8One_any _ _).mono ?_; rintro e w' ⟨rfl, rfl⟩)
          refine (implAtNo (1 + (r1 : Int)) (1 + (r1 : Int) + r2) (1 + (r3 : Int)) n _ HNO).mono ?_
          rintro e w2 ⟨rfl, hb2⟩
          have hbb : Below w.heap.size w w2 := hb.trans (hb2.mono hz)
          clear hb hb2 hz
          go_wp2_with fail
          go_loopw [16, 17] (fun lv qv wr => ∃ (q : Nat) (ls : ByteArray), lv = .string ls ∧ qv = .int .i64 q ∧ q ≤ 30 ∧ Hid (q = 0 ∨ ∃ zs, ls = strOfNums zs ∧ IsPat (r3 + 1) (r1 + 1) (r1 + 1 + r2) (q - 1) zs) ∧ Below w.heap.size w wr) (fun _ qv _ => 30 - (intOf qv).toNat)
          case atStart => exact ⟨0, ByteArray.empty, rfl, rfl, by omega, .inl rfl, hbb⟩
          case round =>
            obtain ⟨q, ls, rfl, rfl, hq30, HQ, hb⟩ := hrel
            clear hbb
            have hz := hb.size
            by_cases hq : q < n ∧ q < 30
            · obtain ⟨hq1, hq2⟩ := hq
              have HR : Hid ((q : Int) < (cN (1 + (r3 : Int)).toNat (1 + (r1 : Int)).toNat (1 + (r1 : Int) + r2).toNat : Nat)) := (by have := HNO2.out; omega : (q : Int) < (cN (1 + (r3 : Int)).toNat (1 + (r1 : Int)).toNat (1 + (r1 : Int) + r2).toNat : Nat))
              go_wp2_with fail
              refine (implAtX (1 + (r1 : Int)) (1 + (r1 : Int) + r2) (1 + (r3 : Int)) q _ (by omega) (by omega) (by omega) (by omega) HR).mono ?_
              rintro e w3 ⟨p, zs, rfl, HP, hb3⟩
              have hbb : Below w.heap.size w w3 := hb.trans (hb3.mono hz)
              clear hb hb3 hz HR
              obtain ⟨hsz, HB, HT, HZ⟩ := patFacts r1 r2 r3 q p zs (by omega) HP (by have := HN'.out; omega)
              by_cases hq0 : 0 < q
              · have hle : (Op.bytesLess p.toList ls.toList || p.toList == ls.toList) = false := patOver r1 r2 r3 q p zs ls (by omega) HP HQ (by have := HN'.out; omega) hq0
                go_wp2_with fail
                go_loopw [20, 21] (fun tv iv wr => ∃ (i : Nat) (t : Int), tv = .int .i64 t ∧ iv = .int .i64 i ∧ i ≤ r1 + 1 ∧ 0 ≤ t ∧ t ≤ 4 * i ∧ Hid (t + 48 * i = isum (zs.take i)) ∧ Below w.heap.size w wr) (fun _ iv _ => r1 + 1 - (intOf iv).toNat)
                case atStart => exact ⟨0, 0, rfl, rfl, by omega, by omega, by omega, by simp [Hid, isum], hbb⟩
                case round =>
                  obtain ⟨i, t, rfl, rfl, hi, ht0, ht4, HS2, hb⟩ := hrel
                  clear hbb
                  have hz9 : p.size ≤ 9 := by have := HT.out; omega
                  by_cases hi2 : i < p.size
                  · obtain ⟨hzi, h49, h49'⟩ := HB.out i hi2
                    have hb1 : 49 ≤ (p[i].toNat : Int) := by omega
                    have hb2 : (p[i].toNat : Int) ≤ 49 + r3 := by omega
                    have HSn : Hid (t + ((p[i].toNat : Int) - 48) + 48 * ((i + 1 : Nat) : Int) = isum (zs.take (i + 1))) := by
                      have h1 := HS2.out
                      have h2 := HT.out
                      have h3 : zs.take (i + 1) = zs.take i ++ [zs.getD i 0] := by
                        rw [List.take_succ_eq_append_getElem (by omega)]; simp [show i < zs.length by omega]
                      unfold Hid
                      rw [h3, isum_append, ← h1, ← hzi]
                      simp [isum]; omega
                    clear hzi h49 h49'
                    have hlt8 : i < r1 + 1 := by have := HT.out; omega
                    go_wp2_with fail
                    go_roundw
                    case rel => exact ⟨i + 1, _, rfl, by go_num, by omega, by omega, by omega, HSn, hb⟩
                    case measure => first | (simp [intOf]; done) | (simp [intOf]; omega)
                  · have ht : t = 1 + r1 + r2 := by
                      have h1 := HS2.out
                      have h2 := HT.out
                      have h3 := HZ.out.1
                      rw [List.take_of_length_le (by omega)] at h1
                      omega
                    subst ht
                    have HQ2 : Hid (q + 1 = 0 ∨ ∃ zs, p = strOfNums zs ∧ IsPat (r3 + 1) (r1 + 1) (r1 + 1 + r2) (q + 1 - 1) zs) := .inr ⟨zs, HZ.out.2.2, HZ.out.2.1⟩
                    have hip : p.size ≤ i := by omega
                    go_wp2_with fail
                    go_roundw
                    case rel => exact ⟨q + 1, p, rfl, by go_num, by omega, HQ2, hb⟩
                    case measure => first | (simp [intOf]; done) | (simp [intOf]; omega)
              · go_wp2_with fail
                go_loopw [20, 21] (fun tv iv wr => ∃ (i : Nat) (t : Int), tv = .int .i64 t ∧ iv = .int .i64 i ∧ i ≤ r1 + 1 ∧ 0 ≤ t ∧ t ≤ 4 * i ∧ Hid (t + 48 * i = isum (zs.take i)) ∧ Below w.heap.size w wr) (fun _ iv _ => r1 + 1 - (intOf iv).toNat)
                case atStart => exact ⟨0, 0, rfl, rfl, by omega, by omega, by omega, by simp [Hid, isum], hbb⟩
                case round =>
                  obtain ⟨i, t, rfl, rfl, hi, ht0, ht4, HS2, hb⟩ := hrel
                  clear hbb
                  have hz9 : p.size ≤ 9 := by have := HT.out; omega
                  by_cases hi2 : i < p.size
                  · obtain ⟨hzi, h49, h49'⟩ := HB.out i hi2
                    have hb1 : 49 ≤ (p[i].toNat : Int) := by omega
                    have hb2 : (p[i].toNat : Int) ≤ 49 + r3 := by omega
                    have HSn : Hid (t + ((p[i].toNat : Int) - 48) + 48 * ((i + 1 : Nat) : Int) = isum (zs.take (i + 1))) := by
                      have h1 := HS2.out
                      have h2 := HT.out
                      have h3 : zs.take (i + 1) = zs.take i ++ [zs.getD i 0] := by
                        rw [List.take_succ_eq_append_getElem (by omega)]; simp [show i < zs.length by omega]
                      unfold Hid
                      rw [h3, isum_append, ← h1, ← hzi]
                      simp [isum]; omega
                    clear hzi h49 h49'
                    have hlt8 : i < r1 + 1 := by have := HT.out; omega
                    go_wp2_with fail
                    go_roundw
                    case rel => exact ⟨i + 1, _, rfl, by go_num, by omega, by omega, by omega, HSn, hb⟩
                    case measure => first | (simp [intOf]; done) | (simp [intOf]; omega)
                  · have ht : t = 1 + r1 + r2 := by
                      have h1 := HS2.out
                      have h2 := HT.out
                      have h3 := HZ.out.1
                      rw [List.take_of_length_le (by omega)] at h1
                      omega
                    subst ht
                    have HQ2 : Hid (q + 1 = 0 ∨ ∃ zs, p = strOfNums zs ∧ IsPat (r3 + 1) (r1 + 1) (r1 + 1 + r2) (q + 1 - 1) zs) := .inr ⟨zs, HZ.out.2.2, HZ.out.2.1⟩
                    have hip : p.size ≤ i := by omega
                    go_wp2_with fail
                    go_roundw
                    case rel => exact ⟨q + 1, p, rfl, by go_num, by omega, HQ2, hb⟩
                    case measure => first | (simp [intOf]; done) | (simp [intOf]; omega)
            · go_wp2_with fail
              all_goals go_ret
              all_goals exact ⟨rfl, hb⟩
        · go_wp2_with (go_at_call 15; refine (r8One_any _ _).mono ?_; rintro e w' ⟨rfl, rfl⟩)
          refine (implAtNo (1 + (r1 : Int)) (1 + (r1 : Int) + r2) (1 + (r3 : Int)) n _ HNO).mono ?_
          rintro e w2 ⟨rfl, hb2⟩
          have hbb : Below w.heap.size w w2 := hb.trans (hb2.mono hz)
          clear hb hb2 hz
          go_wp2_with fail
          go_loopw [16, 17] (fun lv qv wr => ∃ (q : Nat) (ls : ByteArray), lv = .string ls ∧ qv = .int .i64 q ∧ q ≤ 30 ∧ Hid (q = 0 ∨ ∃ zs, ls = strOfNums zs ∧ IsPat (r3 + 1) (r1 + 1) (r1 + 1 + r2) (q - 1) zs) ∧ Below w.heap.size w wr) (fun _ qv _ => 30 - (intOf qv).toNat)
          case atStart => exact ⟨0, ByteArray.empty, rfl, rfl, by omega, .inl rfl, hbb⟩
          case round =>
            obtain ⟨q, ls, rfl, rfl, hq30, HQ, hb⟩ := hrel
            clear hbb
            have hz := hb.size
            by_cases hq : q < n ∧ q < 30
            · obtain ⟨hq1, hq2⟩ := hq
              have HR : Hid ((q : Int) < (cN (1 + (r3 : Int)).toNat (1 + (r1 : Int)).toNat (1 + (r1 : Int) + r2).toNat : Nat)) := (by have := HNO2.out; omega : (q : Int) < (cN (1 + (r3 : Int)).toNat (1 + (r1 : Int)).toNat (1 + (r1 : Int) + r2).toNat : Nat))
              go_wp2_with fail
              refine (implAtX (1 + (r1 : Int)) (1 + (r1 : Int) + r2) (1 + (r3 : Int)) q _ (by omega) (by omega) (by omega) (by omega) HR).mono ?_
              rintro e w3 ⟨p, zs, rfl, HP, hb3⟩
              have hbb : Below w.heap.size w w3 := hb.trans (hb3.mono hz)
              clear hb hb3 hz HR
              obtain ⟨hsz, HB, HT, HZ⟩ := patFacts r1 r2 r3 q p zs (by omega) HP (by have := HN'.out; omega)
              by_cases hq0 : 0 < q
              · have hle : (Op.bytesLess p.toList ls.toList || p.toList == ls.toList) = false := patOver r1 r2 r3 q p zs ls (by omega) HP HQ (by have := HN'.out; omega) hq0
                go_wp2_with fail
                go_loopw [20, 21] (fun tv iv wr => ∃ (i : Nat) (t : Int), tv = .int .i64 t ∧ iv = .int .i64 i ∧ i ≤ r1 + 1 ∧ 0 ≤ t ∧ t ≤ 4 * i ∧ Hid (t + 48 * i = isum (zs.take i)) ∧ Below w.heap.size w wr) (fun _ iv _ => r1 + 1 - (intOf iv).toNat)
                case atStart => exact ⟨0, 0, rfl, rfl, by omega, by omega, by omega, by simp [Hid, isum], hbb⟩
                case round =>
                  obtain ⟨i, t, rfl, rfl, hi, ht0, ht4, HS2, hb⟩ := hrel
                  clear hbb
                  have hz9 : p.size ≤ 9 := by have := HT.out; omega
                  by_cases hi2 : i < p.size
                  · obtain ⟨hzi, h49, h49'⟩ := HB.out i hi2
                    have hb1 : 49 ≤ (p[i].toNat : Int) := by omega
                    have hb2 : (p[i].toNat : Int) ≤ 49 + r3 := by omega
                    have HSn : Hid (t + ((p[i].toNat : Int) - 48) + 48 * ((i + 1 : Nat) : Int) = isum (zs.take (i + 1))) := by
                      have h1 := HS2.out
                      have h2 := HT.out
                      have h3 : zs.take (i + 1) = zs.take i ++ [zs.getD i 0] := by
                        rw [List.take_succ_eq_append_getElem (by omega)]; simp [show i < zs.length by omega]
                      unfold Hid
                      rw [h3, isum_append, ← h1, ← hzi]
                      simp [isum]; omega
                    clear hzi h49 h49'
                    have hlt8 : i < r1 + 1 := by have := HT.out; omega
                    go_wp2_with fail
                    go_roundw
                    case rel => exact ⟨i + 1, _, rfl, by go_num, by omega, by omega, by omega, HSn, hb⟩
                    case measure => first | (simp [intOf]; done) | (simp [intOf]; omega)
                  · have ht : t = 1 + r1 + r2 := by
                      have h1 := HS2.out
                      have h2 := HT.out
                      have h3 := HZ.out.1
                      rw [List.take_of_length_le (by omega)] at h1
                      omega
                    subst ht
                    have HQ2 : Hid (q + 1 = 0 ∨ ∃ zs, p = strOfNums zs ∧ IsPat (r3 + 1) (r1 + 1) (r1 + 1 + r2) (q + 1 - 1) zs) := .inr ⟨zs, HZ.out.2.2, HZ.out.2.1⟩
                    have hip : p.size ≤ i := by omega
                    go_wp2_with fail
                    go_roundw
                    case rel => exact ⟨q + 1, p, rfl, by go_num, by omega, HQ2, hb⟩
                    case measure => first | (simp [intOf]; done) | (simp [intOf]; omega)
              · go_wp2_with fail
                go_loopw [20, 21] (fun tv iv wr => ∃ (i : Nat) (t : Int), tv = .int .i64 t ∧ iv = .int .i64 i ∧ i ≤ r1 + 1 ∧ 0 ≤ t ∧ t ≤ 4 * i ∧ Hid (t + 48 * i = isum (zs.take i)) ∧ Below w.heap.size w wr) (fun _ iv _ => r1 + 1 - (intOf iv).toNat)
                case atStart => exact ⟨0, 0, rfl, rfl, by omega, by omega, by omega, by simp [Hid, isum], hbb⟩
                case round =>
                  obtain ⟨i, t, rfl, rfl, hi, ht0, ht4, HS2, hb⟩ := hrel
                  clear hbb
                  have hz9 : p.size ≤ 9 := by have := HT.out; omega
                  by_cases hi2 : i < p.size
                  · obtain ⟨hzi, h49, h49'⟩ := HB.out i hi2
                    have hb1 : 49 ≤ (p[i].toNat : Int) := by omega
                    have hb2 : (p[i].toNat : Int) ≤ 49 + r3 := by omega
                    have HSn : Hid (t + ((p[i].toNat : Int) - 48) + 48 * ((i + 1 : Nat) : Int) = isum (zs.take (i + 1))) := by
                      have h1 := HS2.out
                      have h2 := HT.out
                      have h3 : zs.take (i + 1) = zs.take i ++ [zs.getD i 0] := by
                        rw [List.take_succ_eq_append_getElem (by omega)]; simp [show i < zs.length by omega]
                      unfold Hid
                      rw [h3, isum_append, ← h1, ← hzi]
                      simp [isum]; omega
                    clear hzi h49 h49'
                    have hlt8 : i < r1 + 1 := by have := HT.out; omega
                    go_wp2_with fail
                    go_roundw
                    case rel => exact ⟨i + 1, _, rfl, by go_num, by omega, by omega, by omega, HSn, hb⟩
                    case measure => first | (simp [intOf]; done) | (simp [intOf]; omega)
                  · have ht : t = 1 + r1 + r2 := by
                      have h1 := HS2.out
                      have h2 := HT.out
                      have h3 := HZ.out.1
                      rw [List.take_of_length_le (by omega)] at h1
                      omega
                    subst ht
                    have HQ2 : Hid (q + 1 = 0 ∨ ∃ zs, p = strOfNums zs ∧ IsPat (r3 + 1) (r1 + 1) (r1 + 1 + r2) (q + 1 - 1) zs) := .inr ⟨zs, HZ.out.2.2, HZ.out.2.1⟩
                    have hip : p.size ≤ i := by omega
                    go_wp2_with fail
                    go_roundw
                    case rel => exact ⟨q + 1, p, rfl, by go_num, by omega, HQ2, hb⟩
                    case measure => first | (simp [intOf]; done) | (simp [intOf]; omega)
            · go_wp2_with fail
              all_goals go_ret
              all_goals exact ⟨rfl, hb⟩
      · have hnb : ((n : Int) != 0) = false := by rw [if_neg (by omega)] at HN2; simp [HN2]
        clear HN2
        have hj2 : ((j : Int) + 1) ≤ 1 + r3 := by have := HJ0.out; omega
        have h13 : ((j : Int) + 1) < 1 + r1 + r2 := by have := HJ0.out; omega
        go_wp2_with (go_at_call 15; refine (r8One_any _ _).mono ?_; rintro e w' ⟨rfl, rfl⟩)
        refine (implAtNo (1 + (r1 : Int)) (1 + (r1 : Int) + r2) (1 + (r3 : Int)) n _ HNO).mono ?_
        rintro e w2 ⟨rfl, hb2⟩
        have hbb : Below w.heap.size w w2 := hb.trans (hb2.mono hz)
        clear hb hb2 hz
        go_wp2_with fail
        go_loopw [16, 17] (fun lv qv wr => ∃ (q : Nat) (ls : ByteArray), lv = .string ls ∧ qv = .int .i64 q ∧ q ≤ 30 ∧ Hid (q = 0 ∨ ∃ zs, ls = strOfNums zs ∧ IsPat (r3 + 1) (r1 + 1) (r1 + 1 + r2) (q - 1) zs) ∧ Below w.heap.size w wr) (fun _ qv _ => 30 - (intOf qv).toNat)
        case atStart => exact ⟨0, ByteArray.empty, rfl, rfl, by omega, .inl rfl, hbb⟩
        case round =>
          obtain ⟨q, ls, rfl, rfl, hq30, HQ, hb⟩ := hrel
          clear hbb
          have hz := hb.size
          by_cases hq : q < n ∧ q < 30
          · obtain ⟨hq1, hq2⟩ := hq
            have HR : Hid ((q : Int) < (cN (1 + (r3 : Int)).toNat (1 + (r1 : Int)).toNat (1 + (r1 : Int) + r2).toNat : Nat)) := (by have := HNO2.out; omega : (q : Int) < (cN (1 + (r3 : Int)).toNat (1 + (r1 : Int)).toNat (1 + (r1 : Int) + r2).toNat : Nat))
            go_wp2_with fail
            refine (implAtX (1 + (r1 : Int)) (1 + (r1 : Int) + r2) (1 + (r3 : Int)) q _ (by omega) (by omega) (by omega) (by omega) HR).mono ?_
            rintro e w3 ⟨p, zs, rfl, HP, hb3⟩
            have hbb : Below w.heap.size w w3 := hb.trans (hb3.mono hz)
            clear hb hb3 hz HR
            obtain ⟨hsz, HB, HT, HZ⟩ := patFacts r1 r2 r3 q p zs (by omega) HP (by have := HN'.out; omega)
            by_cases hq0 : 0 < q
            · have hle : (Op.bytesLess p.toList ls.toList || p.toList == ls.toList) = false := patOver r1 r2 r3 q p zs ls (by omega) HP HQ (by have := HN'.out; omega) hq0
              go_wp2_with fail
              go_loopw [20, 21] (fun tv iv wr => ∃ (i : Nat) (t : Int), tv = .int .i64 t ∧ iv = .int .i64 i ∧ i ≤ r1 + 1 ∧ 0 ≤ t ∧ t ≤ 4 * i ∧ Hid (t + 48 * i = isum (zs.take i)) ∧ Below w.heap.size w wr) (fun _ iv _ => r1 + 1 - (intOf iv).toNat)
              case atStart => exact ⟨0, 0, rfl, rfl, by omega, by omega, by omega, by simp [Hid, isum], hbb⟩
              case round =>
                obtain ⟨i, t, rfl, rfl, hi, ht0, ht4, HS2, hb⟩ := hrel
                clear hbb
                have hz9 : p.size ≤ 9 := by have := HT.out; omega
                by_cases hi2 : i < p.size
                · obtain ⟨hzi, h49, h49'⟩ := HB.out i hi2
                  have hb1 : 49 ≤ (p[i].toNat : Int) := by omega
                  have hb2 : (p[i].toNat : Int) ≤ 49 + r3 := by omega
                  have HSn : Hid (t + ((p[i].toNat : Int) - 48) + 48 * ((i + 1 : Nat) : Int) = isum (zs.take (i + 1))) := by
                    have h1 := HS2.out
                    have h2 := HT.out
                    have h3 : zs.take (i + 1) = zs.take i ++ [zs.getD i 0] := by
                      rw [List.take_succ_eq_append_getElem (by omega)]; simp [show i < zs.length by omega]
                    unfold Hid
                    rw [h3, isum_append, ← h1, ← hzi]
                    simp [isum]; omega
                  clear hzi h49 h49'
                  have hlt8 : i < r1 + 1 := by have := HT.out; omega
                  go_wp2_with fail
                  go_roundw
                  case rel => exact ⟨i + 1, _, rfl, by go_num, by omega, by omega, by omega, HSn, hb⟩
                  case measure => first | (simp [intOf]; done) | (simp [intOf]; omega)
                · have ht : t = 1 + r1 + r2 := by
                    have h1 := HS2.out
                    have h2 := HT.out
                    have h3 := HZ.out.1
                    rw [List.take_of_length_le (by omega)] at h1
                    omega
                  subst ht
                  have HQ2 : Hid (q + 1 = 0 ∨ ∃ zs, p = strOfNums zs ∧ IsPat (r3 + 1) (r1 + 1) (r1 + 1 + r2) (q + 1 - 1) zs) := .inr ⟨zs, HZ.out.2.2, HZ.out.2.1⟩
                  have hip : p.size ≤ i := by omega
                  go_wp2_with fail
                  go_roundw
                  case rel => exact ⟨q + 1, p, rfl, by go_num, by omega, HQ2, hb⟩
                  case measure => first | (simp [intOf]; done) | (simp [intOf]; omega)
            · go_wp2_with fail
              go_loopw [20, 21] (fun tv iv wr => ∃ (i : Nat) (t : Int), tv = .int .i64 t ∧ iv = .int .i64 i ∧ i ≤ r1 + 1 ∧ 0 ≤ t ∧ t ≤ 4 * i ∧ Hid (t + 48 * i = isum (zs.take i)) ∧ Below w.heap.size w wr) (fun _ iv _ => r1 + 1 - (intOf iv).toNat)
              case atStart => exact ⟨0, 0, rfl, rfl, by omega, by omega, by omega, by simp [Hid, isum], hbb⟩
              case round =>
                obtain ⟨i, t, rfl, rfl, hi, ht0, ht4, HS2, hb⟩ := hrel
                clear hbb
                have hz9 : p.size ≤ 9 := by have := HT.out; omega
                by_cases hi2 : i < p.size
                · obtain ⟨hzi, h49, h49'⟩ := HB.out i hi2
                  have hb1 : 49 ≤ (p[i].toNat : Int) := by omega
                  have hb2 : (p[i].toNat : Int) ≤ 49 + r3 := by omega
                  have HSn : Hid (t + ((p[i].toNat : Int) - 48) + 48 * ((i + 1 : Nat) : Int) = isum (zs.take (i + 1))) := by
                    have h1 := HS2.out
                    have h2 := HT.out
                    have h3 : zs.take (i + 1) = zs.take i ++ [zs.getD i 0] := by
                      rw [List.take_succ_eq_append_getElem (by omega)]; simp [show i < zs.length by omega]
                    unfold Hid
                    rw [h3, isum_append, ← h1, ← hzi]
                    simp [isum]; omega
                  clear hzi h49 h49'
                  have hlt8 : i < r1 + 1 := by have := HT.out; omega
                  go_wp2_with fail
                  go_roundw
                  case rel => exact ⟨i + 1, _, rfl, by go_num, by omega, by omega, by omega, HSn, hb⟩
                  case measure => first | (simp [intOf]; done) | (simp [intOf]; omega)
                · have ht : t = 1 + r1 + r2 := by
                    have h1 := HS2.out
                    have h2 := HT.out
                    have h3 := HZ.out.1
                    rw [List.take_of_length_le (by omega)] at h1
                    omega
                  subst ht
                  have HQ2 : Hid (q + 1 = 0 ∨ ∃ zs, p = strOfNums zs ∧ IsPat (r3 + 1) (r1 + 1) (r1 + 1 + r2) (q + 1 - 1) zs) := .inr ⟨zs, HZ.out.2.2, HZ.out.2.1⟩
                  have hip : p.size ≤ i := by omega
                  go_wp2_with fail
                  go_roundw
                  case rel => exact ⟨q + 1, p, rfl, by go_num, by omega, HQ2, hb⟩
                  case measure => first | (simp [intOf]; done) | (simp [intOf]; omega)
          · go_wp2_with fail
            all_goals go_ret
            all_goals exact ⟨rfl, hb⟩
    · have he1 : ((1 + (r1 : Int)) == 1) = false := by rw [beq_eq_false_iff_ne]; omega
      have hgt : (1 : Int) < 1 + r1 := by omega
      by_cases hc : j < min (r3 + 1) (r1 + r2)
      · go_wp2_with (go_at_call 12; refine (implCountX _ _ _ _ (by omega) (by omega) (by omega)).mono ?_; rintro e w2 ⟨c2, rfl, hc2, HC2, hb2⟩)
        have HSn : Hid (s + c2 = pre (r3 + 1) r1 (r1 + 1 + r2) (j + 1)) := by
          have h1 := HS.out
          have h2 := HC2.out
          rw [show (1 + (r3 : Int)).toNat = r3 + 1 by omega, show (1 + (r1 : Int) - 1).toNat = r1 by omega, show (1 + (r1 : Int) + r2 - (j + 1)).toNat = r1 + 1 + r2 - (j + 1) by omega] at h2
          have h3 := pre_step (k := r3 + 1) (l := r1) (m := r1 + 1 + r2) (j := j) (by omega)
          unfold Hid
          omega
        clear HC2
        go_roundw
        case rel => exact ⟨j + 1, s + c2, by go_num, by go_num, by omega, by omega, by omega, (by omega : j + 1 ≤ min (r3 + 1) (r1 + r2)), HSn, hb.trans (hb2.mono hz)⟩
        case measure => first | (simp [intOf]; done) | (simp [intOf]; omega)
      · have hns : n = s := by
          have h1 := HS.out
          have h2 := HN'.out
          have h3 := HJ.out
          obtain ⟨r, rfl⟩ : ∃ r, r1 = r + 1 := ⟨r1 - 1, by omega⟩
          rw [cN_less (r3 + 1) r (r + 1 + 1 + r2) j (by omega) (by omega)] at h2
          omega
        have hnb : ((n : Int) != s) = false := by rw [hns]; simp
        clear hns hj'
        by_cases hj2 : ((j : Int) + 1) ≤ 1 + r3
        · have h13 : ¬ ((j : Int) + 1) < 1 + r1 + r2 := by omega
          go_wp2_with fail
          refine (implAtNo (1 + (r1 : Int)) (1 + (r1 : Int) + r2) (1 + (r3 : Int)) n _ HNO).mono ?_
          rintro e w2 ⟨rfl, hb2⟩
          have hbb : Below w.heap.size w w2 := hb.trans (hb2.mono hz)
          clear hb hb2 hz
          go_wp2_with fail
          go_loopw [16, 17] (fun lv qv wr => ∃ (q : Nat) (ls : ByteArray), lv = .string ls ∧ qv = .int .i64 q ∧ q ≤ 30 ∧ Hid (q = 0 ∨ ∃ zs, ls = strOfNums zs ∧ IsPat (r3 + 1) (r1 + 1) (r1 + 1 + r2) (q - 1) zs) ∧ Below w.heap.size w wr) (fun _ qv _ => 30 - (intOf qv).toNat)
          case atStart => exact ⟨0, ByteArray.empty, rfl, rfl, by omega, .inl rfl, hbb⟩
          case round =>
            obtain ⟨q, ls, rfl, rfl, hq30, HQ, hb⟩ := hrel
            clear hbb
            have hz := hb.size
            by_cases hq : q < n ∧ q < 30
            · obtain ⟨hq1, hq2⟩ := hq
              have HR : Hid ((q : Int) < (cN (1 + (r3 : Int)).toNat (1 + (r1 : Int)).toNat (1 + (r1 : Int) + r2).toNat : Nat)) := (by have := HNO2.out; omega : (q : Int) < (cN (1 + (r3 : Int)).toNat (1 + (r1 : Int)).toNat (1 + (r1 : Int) + r2).toNat : Nat))
              go_wp2_with fail
              refine (implAtX (1 + (r1 : Int)) (1 + (r1 : Int) + r2) (1 + (r3 : Int)) q _ (by omega) (by omega) (by omega) (by omega) HR).mono ?_
              rintro e w3 ⟨p, zs, rfl, HP, hb3⟩
              have hbb : Below w.heap.size w w3 := hb.trans (hb3.mono hz)
              clear hb hb3 hz HR
              obtain ⟨hsz, HB, HT, HZ⟩ := patFacts r1 r2 r3 q p zs (by omega) HP (by have := HN'.out; omega)
              by_cases hq0 : 0 < q
              · have hle : (Op.bytesLess p.toList ls.toList || p.toList == ls.toList) = false := patOver r1 r2 r3 q p zs ls (by omega) HP HQ (by have := HN'.out; omega) hq0
                go_wp2_with fail
                go_loopw [20, 21] (fun tv iv wr => ∃ (i : Nat) (t : Int), tv = .int .i64 t ∧ iv = .int .i64 i ∧ i ≤ r1 + 1 ∧ 0 ≤ t ∧ t ≤ 4 * i ∧ Hid (t + 48 * i = isum (zs.take i)) ∧ Below w.heap.size w wr) (fun _ iv _ => r1 + 1 - (intOf iv).toNat)
                case atStart => exact ⟨0, 0, rfl, rfl, by omega, by omega, by omega, by simp [Hid, isum], hbb⟩
                case round =>
                  obtain ⟨i, t, rfl, rfl, hi, ht0, ht4, HS2, hb⟩ := hrel
                  clear hbb
                  have hz9 : p.size ≤ 9 := by have := HT.out; omega
                  by_cases hi2 : i < p.size
                  · obtain ⟨hzi, h49, h49'⟩ := HB.out i hi2
                    have hb1 : 49 ≤ (p[i].toNat : Int) := by omega
                    have hb2 : (p[i].toNat : Int) ≤ 49 + r3 := by omega
                    have HSn : Hid (t + ((p[i].toNat : Int) - 48) + 48 * ((i + 1 : Nat) : Int) = isum (zs.take (i + 1))) := by
                      have h1 := HS2.out
                      have h2 := HT.out
                      have h3 : zs.take (i + 1) = zs.take i ++ [zs.getD i 0] := by
                        rw [List.take_succ_eq_append_getElem (by omega)]; simp [show i < zs.length by omega]
                      unfold Hid
                      rw [h3, isum_append, ← h1, ← hzi]
                      simp [isum]; omega
                    clear hzi h49 h49'
                    have hlt8 : i < r1 + 1 := by have := HT.out; omega
                    go_wp2_with fail
                    go_roundw
                    case rel => exact ⟨i + 1, _, rfl, by go_num, by omega, by omega, by omega, HSn, hb⟩
                    case measure => first | (simp [intOf]; done) | (simp [intOf]; omega)
                  · have ht : t = 1 + r1 + r2 := by
                      have h1 := HS2.out
                      have h2 := HT.out
                      have h3 := HZ.out.1
                      rw [List.take_of_length_le (by omega)] at h1
                      omega
                    subst ht
                    have HQ2 : Hid (q + 1 = 0 ∨ ∃ zs, p = strOfNums zs ∧ IsPat (r3 + 1) (r1 + 1) (r1 + 1 + r2) (q + 1 - 1) zs) := .inr ⟨zs, HZ.out.2.2, HZ.out.2.1⟩
                    have hip : p.size ≤ i := by omega
                    go_wp2_with fail
                    go_roundw
                    case rel => exact ⟨q + 1, p, rfl, by go_num, by omega, HQ2, hb⟩
                    case measure => first | (simp [intOf]; done) | (simp [intOf]; omega)
              · go_wp2_with fail
                go_loopw [20, 21] (fun tv iv wr => ∃ (i : Nat) (t : Int), tv = .int .i64 t ∧ iv = .int .i64 i ∧ i ≤ r1 + 1 ∧ 0 ≤ t ∧ t ≤ 4 * i ∧ Hid (t + 48 * i = isum (zs.take i)) ∧ Below w.heap.size w wr) (fun _ iv _ => r1 + 1 - (intOf iv).toNat)
                case atStart => exact ⟨0, 0, rfl, rfl, by omega, by omega, by omega, by simp [Hid, isum], hbb⟩
                case round =>
                  obtain ⟨i, t, rfl, rfl, hi, ht0, ht4, HS2, hb⟩ := hrel
                  clear hbb
                  have hz9 : p.size ≤ 9 := by have := HT.out; omega
                  by_cases hi2 : i < p.size
                  · obtain ⟨hzi, h49, h49'⟩ := HB.out i hi2
                    have hb1 : 49 ≤ (p[i].toNat : Int) := by omega
                    have hb2 : (p[i].toNat : Int) ≤ 49 + r3 := by omega
                    have HSn : Hid (t + ((p[i].toNat : Int) - 48) + 48 * ((i + 1 : Nat) : Int) = isum (zs.take (i + 1))) := by
                      have h1 := HS2.out
                      have h2 := HT.out
                      have h3 : zs.take (i + 1) = zs.take i ++ [zs.getD i 0] := by
                        rw [List.take_succ_eq_append_getElem (by omega)]; simp [show i < zs.length by omega]
                      unfold Hid
                      rw [h3, isum_append, ← h1, ← hzi]
                      simp [isum]; omega
                    clear hzi h49 h49'
                    have hlt8 : i < r1 + 1 := by have := HT.out; omega
                    go_wp2_with fail
                    go_roundw
                    case rel => exact ⟨i + 1, _, rfl, by go_num, by omega, by omega, by omega, HSn, hb⟩
                    case measure => first | (simp [intOf]; done) | (simp [intOf]; omega)
                  · have ht : t = 1 + r1 + r2 := by
                      have h1 := HS2.out
                      have h2 := HT.out
                      have h3 := HZ.out.1
                      rw [List.take_of_length_le (by omega)] at h1
                      omega
                    subst ht
                    have HQ2 : Hid (q + 1 = 0 ∨ ∃ zs, p = strOfNums zs ∧ IsPat (r3 + 1) (r1 + 1) (r1 + 1 + r2) (q + 1 - 1) zs) := .inr ⟨zs, HZ.out.2.2, HZ.out.2.1⟩
                    have hip : p.size ≤ i := by omega
                    go_wp2_with fail
                    go_roundw
                    case rel => exact ⟨q + 1, p, rfl, by go_num, by omega, HQ2, hb⟩
                    case measure => first | (simp [intOf]; done) | (simp [intOf]; omega)
            · go_wp2_with fail
              all_goals go_ret
              all_goals exact ⟨rfl, hb⟩
        · go_wp2_with fail
          refine (implAtNo (1 + (r1 : Int)) (1 + (r1 : Int) + r2) (1 + (r3 : Int)) n _ HNO).mono ?_
          rintro e w2 ⟨rfl, hb2⟩
          have hbb : Below w.heap.size w w2 := hb.trans (hb2.mono hz)
          clear hb hb2 hz
          go_wp2_with fail
          go_loopw [16, 17] (fun lv qv wr => ∃ (q : Nat) (ls : ByteArray), lv = .string ls ∧ qv = .int .i64 q ∧ q ≤ 30 ∧ Hid (q = 0 ∨ ∃ zs, ls = strOfNums zs ∧ IsPat (r3 + 1) (r1 + 1) (r1 + 1 + r2) (q - 1) zs) ∧ Below w.heap.size w wr) (fun _ qv _ => 30 - (intOf qv).toNat)
          case atStart => exact ⟨0, ByteArray.empty, rfl, rfl, by omega, .inl rfl, hbb⟩
          case round =>
            obtain ⟨q, ls, rfl, rfl, hq30, HQ, hb⟩ := hrel
            clear hbb
            have hz := hb.size
            by_cases hq : q < n ∧ q < 30
            · obtain ⟨hq1, hq2⟩ := hq
              have HR : Hid ((q : Int) < (cN (1 + (r3 : Int)).toNat (1 + (r1 : Int)).toNat (1 + (r1 : Int) + r2).toNat : Nat)) := (by have := HNO2.out; omega : (q : Int) < (cN (1 + (r3 : Int)).toNat (1 + (r1 : Int)).toNat (1 + (r1 : Int) + r2).toNat : Nat))
              go_wp2_with fail
              refine (implAtX (1 + (r1 : Int)) (1 + (r1 : Int) + r2) (1 + (r3 : Int)) q _ (by omega) (by omega) (by omega) (by omega) HR).mono ?_
              rintro e w3 ⟨p, zs, rfl, HP, hb3⟩
              have hbb : Below w.heap.size w w3 := hb.trans (hb3.mono hz)
              clear hb hb3 hz HR
              obtain ⟨hsz, HB, HT, HZ⟩ := patFacts r1 r2 r3 q p zs (by omega) HP (by have := HN'.out; omega)
              by_cases hq0 : 0 < q
              · have hle : (Op.bytesLess p.toList ls.toList || p.toList == ls.toList) = false := patOver r1 r2 r3 q p zs ls (by omega) HP HQ (by have := HN'.out; omega) hq0
                go_wp2_with fail
                go_loopw [20, 21] (fun tv iv wr => ∃ (i : Nat) (t : Int), tv = .int .i64 t ∧ iv = .int .i64 i ∧ i ≤ r1 + 1 ∧ 0 ≤ t ∧ t ≤ 4 * i ∧ Hid (t + 48 * i = isum (zs.take i)) ∧ Below w.heap.size w wr) (fun _ iv _ => r1 + 1 - (intOf iv).toNat)
                case atStart => exact ⟨0, 0, rfl, rfl, by omega, by omega, by omega, by simp [Hid, isum], hbb⟩
                case round =>
                  obtain ⟨i, t, rfl, rfl, hi, ht0, ht4, HS2, hb⟩ := hrel
                  clear hbb
                  have hz9 : p.size ≤ 9 := by have := HT.out; omega
                  by_cases hi2 : i < p.size
                  · obtain ⟨hzi, h49, h49'⟩ := HB.out i hi2
                    have hb1 : 49 ≤ (p[i].toNat : Int) := by omega
                    have hb2 : (p[i].toNat : Int) ≤ 49 + r3 := by omega
                    have HSn : Hid (t + ((p[i].toNat : Int) - 48) + 48 * ((i + 1 : Nat) : Int) = isum (zs.take (i + 1))) := by
                      have h1 := HS2.out
                      have h2 := HT.out
                      have h3 : zs.take (i + 1) = zs.take i ++ [zs.getD i 0] := by
                        rw [List.take_succ_eq_append_getElem (by omega)]; simp [show i < zs.length by omega]
                      unfold Hid
                      rw [h3, isum_append, ← h1, ← hzi]
                      simp [isum]; omega
                    clear hzi h49 h49'
                    have hlt8 : i < r1 + 1 := by have := HT.out; omega
                    go_wp2_with fail
                    go_roundw
                    case rel => exact ⟨i + 1, _, rfl, by go_num, by omega, by omega, by omega, HSn, hb⟩
                    case measure => first | (simp [intOf]; done) | (simp [intOf]; omega)
                  · have ht : t = 1 + r1 + r2 := by
                      have h1 := HS2.out
                      have h2 := HT.out
                      have h3 := HZ.out.1
                      rw [List.take_of_length_le (by omega)] at h1
                      omega
                    subst ht
                    have HQ2 : Hid (q + 1 = 0 ∨ ∃ zs, p = strOfNums zs ∧ IsPat (r3 + 1) (r1 + 1) (r1 + 1 + r2) (q + 1 - 1) zs) := .inr ⟨zs, HZ.out.2.2, HZ.out.2.1⟩
                    have hip : p.size ≤ i := by omega
                    go_wp2_with fail
                    go_roundw
                    case rel => exact ⟨q + 1, p, rfl, by go_num, by omega, HQ2, hb⟩
                    case measure => first | (simp [intOf]; done) | (simp [intOf]; omega)
              · go_wp2_with fail
                go_loopw [20, 21] (fun tv iv wr => ∃ (i : Nat) (t : Int), tv = .int .i64 t ∧ iv = .int .i64 i ∧ i ≤ r1 + 1 ∧ 0 ≤ t ∧ t ≤ 4 * i ∧ Hid (t + 48 * i = isum (zs.take i)) ∧ Below w.heap.size w wr) (fun _ iv _ => r1 + 1 - (intOf iv).toNat)
                case atStart => exact ⟨0, 0, rfl, rfl, by omega, by omega, by omega, by simp [Hid, isum], hbb⟩
                case round =>
                  obtain ⟨i, t, rfl, rfl, hi, ht0, ht4, HS2, hb⟩ := hrel
                  clear hbb
                  have hz9 : p.size ≤ 9 := by have := HT.out; omega
                  by_cases hi2 : i < p.size
                  · obtain ⟨hzi, h49, h49'⟩ := HB.out i hi2
                    have hb1 : 49 ≤ (p[i].toNat : Int) := by omega
                    have hb2 : (p[i].toNat : Int) ≤ 49 + r3 := by omega
                    have HSn : Hid (t + ((p[i].toNat : Int) - 48) + 48 * ((i + 1 : Nat) : Int) = isum (zs.take (i + 1))) := by
                      have h1 := HS2.out
                      have h2 := HT.out
                      have h3 : zs.take (i + 1) = zs.take i ++ [zs.getD i 0] := by
                        rw [List.take_succ_eq_append_getElem (by omega)]; simp [show i < zs.length by omega]
                      unfold Hid
                      rw [h3, isum_append, ← h1, ← hzi]
                      simp [isum]; omega
                    clear hzi h49 h49'
                    have hlt8 : i < r1 + 1 := by have := HT.out; omega
                    go_wp2_with fail
                    go_roundw
                    case rel => exact ⟨i + 1, _, rfl, by go_num, by omega, by omega, by omega, HSn, hb⟩
                    case measure => first | (simp [intOf]; done) | (simp [intOf]; omega)
                  · have ht : t = 1 + r1 + r2 := by
                      have h1 := HS2.out
                      have h2 := HT.out
                      have h3 := HZ.out.1
                      rw [List.take_of_length_le (by omega)] at h1
                      omega
                    subst ht
                    have HQ2 : Hid (q + 1 = 0 ∨ ∃ zs, p = strOfNums zs ∧ IsPat (r3 + 1) (r1 + 1) (r1 + 1 + r2) (q + 1 - 1) zs) := .inr ⟨zs, HZ.out.2.2, HZ.out.2.1⟩
                    have hip : p.size ≤ i := by omega
                    go_wp2_with fail
                    go_roundw
                    case rel => exact ⟨q + 1, p, rfl, by go_num, by omega, HQ2, hb⟩
                    case measure => first | (simp [intOf]; done) | (simp [intOf]; omega)
            · go_wp2_with fail
              all_goals go_ret
              all_goals exact ⟨rfl, hb⟩
set_option maxHeartbeats 1000000 in
set_option maxRecDepth 100000 in
theorem lawPat_any (v0 v1 : Value) (xs ys : List Int) (w : World) (hx : RK .u8 w v0 xs ∧ (∀ x ∈ xs, (Lit.int .u8 x).wf = true) ∧ xs.length ≤ maxLen)
    (hy : RK .u8 w v1 ys ∧ (∀ x ∈ ys, (Lit.int .u8 x).wf = true) ∧ ys.length ≤ maxLen) :
    Calls Try.prog 4 #[v0, v1] w fun x w' => x = .returned (.bool true) ∧ Below w.heap.size w w' := by
  by_cases hs : long8 xs.length ys.length = true
  · obtain ⟨a, c, rfl⟩ := hx.1.slice
    obtain ⟨b, d, rfl⟩ := hy.1.slice
    clear hx hy
    go_enter Try.func4, Try.ntmps4
    go_wp2_with (go_at_call 13; refine (r8Long_any _ _ _ _ _ _ _).mono ?_; rintro e w' ⟨rfl, rfl⟩)
    go_ret
    exact ⟨rfl, Below.refl _ _⟩
  · exact lawPat_short v0 v1 xs ys w hx.1 hx.2.1 hx.2.2 hy.1 hy.2.1 hy.2.2 (by simpa using hs)
end Go.Proofs.Ytjjohniabgamjaa
