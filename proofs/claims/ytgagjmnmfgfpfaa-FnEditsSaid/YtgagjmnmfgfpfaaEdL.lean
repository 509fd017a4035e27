/- The law FnEdits: for every input. -/
import Derived.Test.YtgagjmnmfgfpfaaEdP
import Derived.Test.YtgagjmnmfgfpfaaApps
import Derived.Test.YtgagjmnmfgfpfaaR8
namespace Go.Proofs.Ytgagjmnmfgfpfaa
open Go.RowKit

set_option maxHeartbeats 4000000 in
set_option maxRecDepth 100000 in
theorem lawEdits_any (v0 v1 : Value) (xs ys : List Int) (w : World) (hx : RK .u8 w v0 xs ∧ (∀ x ∈ xs, (Lit.int .u8 x).wf = true) ∧ xs.length ≤ maxLen)
    (hy : RK .u8 w v1 ys ∧ (∀ x ∈ ys, (Lit.int .u8 x).wf = true) ∧ ys.length ≤ maxLen) :
    Calls Try.prog 7 #[v0, v1] w fun x w' => x = .returned (.bool true) ∧ Below w.heap.size w w' := by
  obtain ⟨hx, hxw, _⟩ := hx
  obtain ⟨hy, hyw, _⟩ := hy
  obtain ⟨a, c, rfl⟩ := hx.slice
  obtain ⟨b, d, rfl⟩ := hy.slice
  cases hs : long8 xs.length ys.length
  case true =>
    have HS := Lib.hid hs
    clear hx hy hs
    go_enter Try.func7, Try.ntmps7
    go_wp2_with fail
    refine (r8Long_any _ _ _ _ _ _ _).mono ?_
    rintro e w' ⟨rfl, rfl⟩
    rw [HS.out]
    go_wp2_with fail
    go_ret
    exact ⟨rfl, Below.refl _ _⟩
  have hm48 : xs.length ≤ 48 ∧ ys.length ≤ 48 := by unfold long8 at hs; simp at hs; omega
  obtain ⟨hxm, hym⟩ := hm48
  have HS := Lib.hid hs
  clear hs
  have hb := Below.refl w.heap.size w
  have HX : Hid (∀ wr, Below w.heap.size w wr → RK .u8 wr (.slice a xs.length c) xs) := fun wr h => hx.later h
  have HY : Hid (∀ wr, Below w.heap.size w wr → RK .u8 wr (.slice b ys.length d) ys) := fun wr h => hy.later h
  clear hx hy
  go_enter Try.func7, Try.ntmps7
  go_wp2_with fail
  refine (r8Long_any _ _ _ _ _ _ _).mono ?_
  rintro e w' ⟨rfl, rfl⟩
  rw [HS.out]
  go_wp2_with fail
  refine (r8Word_any _ xs 3 8 _ (HX.out _ hb) hxw (by omega) (by omega) (by omega)).mono ?_
  rintro e w1 ⟨as1, rfl, HA, hal, hb1⟩
  have HDA := Lib.hid (digB_mono (wOf_dig (m := 8) (by omega) HA.out (by omega)) (by omega))
  generalize wOf as1 = s at *
  replace hb := hb.trans (hb1.mono hb.size)
  clear hb1
  go_wp2_with fail
  refine (r8Word_any _ ys 3 8 _ (HY.out _ hb) hyw (by omega) (by omega) (by omega)).mono ?_
  rintro e w2 ⟨bs, rfl, HB, hbl, hb1⟩
  have HDB := Lib.hid (digB_mono (wOf_dig (m := 8) (by omega) HB.out (by omega)) (by omega))
  generalize wOf bs = t at *
  replace hb := hb.trans (hb1.mono hb.size)
  clear hb1
  clear HA HB hal hbl
  have hb1 : Below w2.heap.size w2 (w2.alloc (.cells #[.int .u8 5] 5)) := (Below.refl _ _).alloc (Nat.le_refl _) _
  have ho : OB w2.heap.size (w2.alloc (.cells #[.int .u8 5] 5)) (.slice (some ⟨w2.heap.size, 0, none⟩) 1 1) [5] := OV.lit _ _ [.int .u8 5] (Nat.le_refl _) (by simp [maxLen])
  have hxr := HX.out _ (hb.trans (hb1.mono hb.size))
  have hu1 : ∀ u ∈ xs.map (Value.int .u8), u.oneCell' = true := fun u hu => by obtain ⟨z, _, rfl⟩ := List.mem_map.1 hu; rfl
  have HOW : Hid (∀ v' w', OV 5 w2.heap.size w' v' ([5].map (Value.int .u8) ++ xs.map (Value.int .u8)) → (w2.alloc (.cells #[.int .u8 5] 5)).grownBy w' (Value.slice (some ⟨w2.heap.size, 0, none⟩) 1 1).ownBlock → RK .u8 w' v' (5 :: xs) ∧ Below w2.heap.size w2 w') := fun v' w' hv hg => by
    refine ⟨?_, own_below hb1 ho hg (by simp)⟩
    have := OV.read hv
    rw [← List.map_append] at this
    exact this
  go_wp2_with (at_builtin; refine wpl_apps Try.underlying28 info_u8 rfl (by omega) rfl _ _ rfl w2.heap.size _ _ rfl ho _ _ rfl hxr hu1 (by simp; omega) (by simp) ?_; intro v' w3 ho3 hgr)
  obtain ⟨hx3, hb2⟩ := HOW.out _ _ ho3 hgr
  have hb1 := hb2
  replace hb := hb.trans (hb1.mono hb.size)
  clear hb1
  clear ho hxr hu1 HOW ho3 hgr hb2
  refine (r8Word_any _ (5 :: xs) 3 8 _ hx3 (fun x hx => by rcases List.mem_cons.1 hx with rfl | h; rfl; exact hxw x h) (by simp; omega) (by omega) (by omega)).mono ?_
  rintro e w4 ⟨cs, rfl, HC, hcl, hb1⟩
  have HDC := Lib.hid (digB_mono (wOf_dig (m := 8) (by omega) HC.out (by omega)) (by omega))
  generalize wOf cs = u at *
  replace hb := hb.trans (hb1.mono hb.size)
  clear hb1
  clear HC hcl hx3
  go_wp2_with fail
  refine (edY s t _ HDA HDB).mono ?_
  rintro e w5 ⟨rfl, hb1⟩
  replace hb := hb.trans (hb1.mono hb.size)
  clear hb1
  go_wp2_with fail
  refine (edY t s _ HDB HDA).mono ?_
  rintro e w6 ⟨rfl, hb1⟩
  replace hb := hb.trans (hb1.mono hb.size)
  clear hb1
  go_wp2_with fail
  refine (edY s u _ HDA HDC).mono ?_
  rintro e w7 ⟨rfl, hb1⟩
  replace hb := hb.trans (hb1.mono hb.size)
  clear hb1
  go_wp2_with fail
  refine (edY u t _ HDC HDB).mono ?_
  rintro e w8 ⟨rfl, hb1⟩
  replace hb := hb.trans (hb1.mono hb.size)
  clear hb1
  go_wp2_with fail
  refine (tyY s t _ HDA HDB).mono ?_
  rintro e w9 ⟨rfl, hb1⟩
  replace hb := hb.trans (hb1.mono hb.size)
  clear hb1
  go_wp2_with fail
  refine (scY s t _ HDA HDB).mono ?_
  rintro e w10 ⟨sc, rfl, HSC, hsc, hb1⟩
  replace hb := hb.trans (hb1.mono hb.size)
  clear hb1
  go_wp2_with fail
  refine (apY sc s t _ HDA HDB HSC).mono ?_
  rintro e w11 ⟨rfl, hb1⟩
  replace hb := hb.trans (hb1.mono hb.size)
  clear hb1
  have HOA := Lib.hid (offK_all sc s t HSC.out)
  have hsy := D_symm t s
  have htr := D_tri s t u
  have hz0 := D_zero s t
  have ht1 := T_le s t
  have ht2 := D_2T s t
  have hle1 := D_le s t
  have hle2 := D_le s u
  have hle3 := D_le u t
  have l1 := dig_le HDA.out
  have l2 := dig_le HDB.out
  have l3 := dig_le HDC.out
  rw [hsy]
  clear hsy
  generalize D s t = dx at *
  generalize D s u = du at *
  generalize D u t = dv at *
  generalize T s t = tx at *
  have e0 := str_eq t
  by_cases hst : s = t
  · have hdx : dx = 0 := hz0.2 hst
    subst hst
    subst hdx
    have htx : tx = 0 := by omega
    subst htx
    clear hz0
    go_wp2_with fail
    go_loopw [22, 23] (fun nv iv wr => ∃ k : Nat, k ≤ sc.size ∧ iv = .int .i64 k ∧ nv = .int .i64 (offK sc k : Nat) ∧ Below w.heap.size w wr) (fun _ iv _ => sc.size - (intOf iv).toNat)
    case atStart => exact ⟨0, Nat.zero_le _, rfl, rfl, hb⟩
    case round =>
      clear hb
      obtain ⟨k, hk, rfl, rfl, hb⟩ := hrel
      have hof := offK_le sc k
      by_cases hkl : k < sc.size
      · have HO := Lib.hid (offK_succ sc k hkl)
        have hk0 : (k : Int) < (sc.size : Int) := by omega
        generalize offK sc k = q at *
        by_cases h61 : (sc[k].toNat : Int) = 61
        · have e5 : ((sc[k].toNat : Int) != 61) = false := by simp [h61]
          rw [if_pos h61] at HO
          clear h61
          go_wp2_with fail
          go_roundw
          case rel => exact ⟨k + 1, by omega, by go_num, by rw [HO.out]; rfl, hb⟩
          case measure => first | (simp [intOf]; done) | (simp [intOf]; omega)
        · have e5 : ((sc[k].toNat : Int) != 61) = true := by simp only [bne_iff_ne, ne_eq]; exact h61
          rw [if_neg h61] at HO
          clear h61
          go_wp2_with fail
          go_roundw
          case rel => exact ⟨k + 1, by omega, by go_num, by rw [HO.out]; go_num, hb⟩
          case measure => first | (simp [intOf]; done) | (simp [intOf]; omega)
      · obtain rfl : k = sc.size := by omega
        rw [HOA.out]
        go_wp2_with fail
        go_ret
        exact ⟨rfl, hb⟩
  · have hdx : dx ≠ 0 := fun h => hst (hz0.1 h)
    have e1 := str_ne hst
    have e2 : ((dx : Int) == 0) = false := by simp; omega
    clear hz0 hst
    go_wp2_with fail
    go_loopw [22, 23] (fun nv iv wr => ∃ k : Nat, k ≤ sc.size ∧ iv = .int .i64 k ∧ nv = .int .i64 (offK sc k : Nat) ∧ Below w.heap.size w wr) (fun _ iv _ => sc.size - (intOf iv).toNat)
    case atStart => exact ⟨0, Nat.zero_le _, rfl, rfl, hb⟩
    case round =>
      clear hb
      obtain ⟨k, hk, rfl, rfl, hb⟩ := hrel
      have hof := offK_le sc k
      by_cases hkl : k < sc.size
      · have HO := Lib.hid (offK_succ sc k hkl)
        have hk0 : (k : Int) < (sc.size : Int) := by omega
        generalize offK sc k = q at *
        by_cases h61 : (sc[k].toNat : Int) = 61
        · have e5 : ((sc[k].toNat : Int) != 61) = false := by simp [h61]
          rw [if_pos h61] at HO
          clear h61
          go_wp2_with fail
          go_roundw
          case rel => exact ⟨k + 1, by omega, by go_num, by rw [HO.out]; rfl, hb⟩
          case measure => first | (simp [intOf]; done) | (simp [intOf]; omega)
        · have e5 : ((sc[k].toNat : Int) != 61) = true := by simp only [bne_iff_ne, ne_eq]; exact h61
          rw [if_neg h61] at HO
          clear h61
          go_wp2_with fail
          go_roundw
          case rel => exact ⟨k + 1, by omega, by go_num, by rw [HO.out]; go_num, hb⟩
          case measure => first | (simp [intOf]; done) | (simp [intOf]; omega)
      · obtain rfl : k = sc.size := by omega
        rw [HOA.out]
        go_wp2_with fail
        go_ret
        exact ⟨rfl, hb⟩
end Go.Proofs.Ytgagjmnmfgfpfaa
