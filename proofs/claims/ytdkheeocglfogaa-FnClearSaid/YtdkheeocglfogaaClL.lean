/- The law FnClear: for every input. -/
import Derived.Test.YtdkheeocglfogaaClP
import Derived.Test.YtdkheeocglfogaaLkY
import Derived.Test.YtdkheeocglfogaaAre
import Derived.Deep.DeepCutAuto
namespace Go.Proofs.Ytdkheeocglfogaa
open Go.RowKit

def longB (n m : Nat) : Bool := decide (1048576 < n) || decide (1048576 < m)
theorem longB_no {n m : Nat} (h : longB n m = false) : n ≤ 1048576 ∧ m ≤ 1048576 := by simpa [longB] using h
set_option maxHeartbeats 400000 in
theorem b10Long_any (a b : Option Addr) (n m c d : Nat) (w : World) :
    Calls Try.prog 29 #[.slice a n c, .slice b m d] w fun e w' => e = .returned (.bool (longB n m)) ∧ w = w' := by
  by_cases h : 1048576 < n
  all_goals
    go_enter Try.func29, Try.ntmps29
    go_wp2
    all_goals (go_ret; exact ⟨ret_bool (by rw [Bool.eq_iff_iff]; simp [longB]; omega), rfl⟩)
theorem extLC (s : ByteArray) (i j : Nat) : (s.extract i j).size ≤ s.size := by rw [ByteArray.size_extract]; omega
set_option maxHeartbeats 16000000 in
set_option maxRecDepth 100000 in
theorem lawClear_any (v0 v1 : Value) (xs ys : List Int) (w : World) (hx : RK .u8 w v0 xs ∧ (∀ x ∈ xs, (Lit.int .u8 x).wf = true) ∧ xs.length ≤ maxLen)
    (hy : RK .u8 w v1 ys ∧ (∀ x ∈ ys, (Lit.int .u8 x).wf = true) ∧ ys.length ≤ maxLen) :
    Calls Try.prog 9 #[v0, v1] w fun x w' => x = .returned (.bool true) ∧ Below w.heap.size w w' := by
  obtain ⟨hx, hxw, hxm0⟩ := hx
  obtain ⟨hy, hyw, hym0⟩ := hy
  obtain ⟨a, c, rfl⟩ := hx.slice
  obtain ⟨a', c', rfl⟩ := hy.slice
  cases hs : longB xs.length ys.length
  case true =>
    have HS := Lib.hid hs
    clear hx hy hs
    go_enter Try.func9, Try.ntmps9
    go_wp2_with fail
    refine (b10Long_any _ _ _ _ _ _ _).mono ?_
    rintro e w' ⟨rfl, rfl⟩
    rw [HS.out]
    go_wp2_with fail
    go_ret
    exact ⟨rfl, Below.refl _ _⟩
  obtain ⟨hxm, hym⟩ := longB_no hs
  have HS := Lib.hid hs
  clear hs
  have HY : Hid (∀ wr, Below w.heap.size w wr → RK .u8 wr (.slice a' ys.length c') ys) := fun wr h => hy.later h
  go_enter Try.func9, Try.ntmps9
  go_wp2_with fail
  refine (b10Long_any _ _ _ _ _ _ _).mono ?_
  rintro e w' ⟨rfl, rfl⟩
  rw [HS.out]
  go_wp2_with fail
  refine (b10Lk_any _ xs w hx hxw hxm).mono ?_
  rintro e w1 ⟨s, pv, l, rfl, hv, hp, hs18, hl11, hb⟩
  obtain ⟨hs1, hd, _, _⟩ := vl_facts hv
  have HV := Lib.hid hv
  have C := CL.of hv
  have HBE := Lib.hid (best_clear hv)
  have HLE := Lib.hid (fun t (h : icB s l t = true) => clear_le hv h)
  have HSU := Lib.hid (C.sum hd)
  have HFO := Lib.hid (fun t (ht : ∀ c ∈ bz t, c ∈ bz s) => C.fold ht)
  have HF2 := Lib.hid (fun t (ht : ∀ c ∈ bz t, c ∈ bz s) i j (hi : i < t.size) (hj : j < t.size) => C.folded hv ht hi hj)
  have HTW := Lib.hid (fun q r a b (hq : q < (fmL s l).length) (hr : r < (fmL s l).length) (hn : q ≠ r) (ha : a < (sAt (fmL s l) q).size) (hb : b < (sAt (fmL s l) r).size) => C.two hv hq hr hn ha hb)
  have HFA := Lib.hid C.fa
  obtain ⟨pa, pc, rfl⟩ := hp.read.slice
  have hbA : Below w1.heap.size w1 (w1.alloc (.cells #[.string s, .slice pa l.length pc] 27)) := (Below.refl _ _).alloc (Nat.le_refl _) _
  have hX : LX w1.heap.size s (.slice pa l.length pc) (w1.alloc (.cells #[.string s, .slice pa l.length pc] 27)) := ⟨World.cell?_alloc_at _ _ _ _ rfl, World.cell?_alloc_at _ _ _ _ rfl⟩
  replace hp := hp.read.later hbA
  replace hb := hb.trans (hbA.mono hb.size)
  have c0 := hX.c0
  have c1 := hX.c1
  clear hx hbA hv hd C
  go_wp2_with fail
  obtain ⟨X, hXe⟩ : ∃ X, X = w1.heap.size := ⟨_, rfl⟩
  rw [← hXe] at hX c0 c1 ⊢
  generalize w1.alloc (.cells #[.string s, .slice pa l.length pc] 27) = w2 at *
  clear hXe
  refine (implCs_any s _ l w2 hp (by omega) (by omega)).mono ?_
  rintro e w3 ⟨rfl, hb1⟩
  rw [csV_yes HV.out]
  obtain ⟨q, hqe⟩ : ∃ q, q = ctx s (csP s l) := ⟨_, rfl⟩
  rw [← hqe] at HBE HLE ⊢
  clear hqe
  have hqs : q.size ≤ 18 := by
    have h1 := HBE.out.2.2
    have := asc_len (csL s l) 0 s.size (csL_asc s l).1 fun j hj => ⟨Nat.zero_le _, (csL_asc s l).2 j hj⟩
    omega
  clear c0 c1
  replace hX := hX.later hb1
  replace hp := hp.later hb1
  replace hb := hb.trans (hb1.mono hb.size)
  have c0 := hX.c0
  have c1 := hX.c1
  clear hb1
  go_wp2_with fail
  refine (implFm_any s _ l w3 hp (by omega) (by omega)).mono ?_
  rintro e w4 ⟨fv, rfl, hfo, hb1⟩
  rw [HV.out]
  obtain ⟨fa, fc, rfl⟩ := hfo.read.slice
  clear c0 c1
  replace hX := hX.later hb1
  replace hp := hp.later hb1
  replace hb := hb.trans (hb1.mono hb.size)
  have c0 := hX.c0
  have c1 := hX.c1
  clear hb1
  go_wp2_with fail
  refine (b10Sy_any _ ys s _ w4 (HY.out _ hb) hyw hym ⟨hs1.1, hs18⟩ l hp).mono ?_
  rintro e w5 ⟨t, rfl, HT, ht8, hb1⟩
  replace hfo := hfo.later hb1
  clear c0 c1
  replace hX := hX.later hb1
  replace hp := hp.later hb1
  replace hb := hb.trans (hb1.mono hb.size)
  have c0 := hX.c0
  have c1 := hX.c1
  clear hb1
  obtain ⟨u1, u2, u3, u4, u5⟩ := HFO.out t HT.out
  have hfw1 : fwV s l (fmL s l) t true = .tuple #[.string (strOfNums (foX (fmL s l) t)), .bool true] := fwV_yes (by omega) u1
  have U2 := HFO.out (strOfNums (foX (fmL s l) t)) u3
  have hfw2 : fwV s l (fmL s l) (strOfNums (foX (fmL s l) t)) true = .tuple #[.string (strOfNums (foX (fmL s l) t)), .bool true] := by
    rw [fwV_yes (by rw [u5]; omega) U2.1, u4]
  have HF2T := Lib.hid (HF2.out t HT.out)
  obtain ⟨u, hu⟩ : ∃ u, u = strOfNums (foX (fmL s l) t) := ⟨_, rfl⟩
  rw [← hu] at hfw1 hfw2 HF2T u5
  have HW1 := Lib.hid hfw1
  have HW2 := Lib.hid hfw2
  clear u1 u2 u3 u4 U2 hu hfw1 hfw2 HFO HF2
  go_wp2_with fail
  refine (implFw_any s _ l t w5 hp (by omega) (by omega) (by omega)).mono ?_
  rintro e w6 ⟨rfl, hb1⟩
  rw [HV.out, HW1.out]
  replace hfo := hfo.later hb1
  clear c0 c1
  replace hX := hX.later hb1
  replace hp := hp.later hb1
  replace hb := hb.trans (hb1.mono hb.size)
  have c0 := hX.c0
  have c1 := hX.c1
  clear hb1
  go_wp2_with fail
  refine (implFw_any s _ l u w6 hp (by omega) (by omega) (by omega)).mono ?_
  rintro e w7 ⟨rfl, hb1⟩
  rw [HV.out, HW2.out]
  replace hfo := hfo.later hb1
  clear c0 c1
  replace hX := hX.later hb1
  replace hp := hp.later hb1
  replace hb := hb.trans (hb1.mono hb.size)
  have c0 := hX.c0
  have c1 := hX.c1
  clear hb1
  have huu := str_eq u
  have hsu : ((u.size : Int) != (t.size : Int)) = false := by rw [u5]; simp
  have hq0 : ((q.size : Int) == 0) = false := by
    have := HBE.out.2.1
    exact beq_false_of_ne (by omega)
  have hq0N : ¬ q.size = 0 := by have := HBE.out.2.1; omega
  have hut : u.size = t.size := u5
  have HUT := Lib.hid hut
  clear hut u5
  go_wp2_with fail
  refine (implIC_any s _ l q w7 hp (by omega) (by omega) (by omega)).mono ?_
  rintro e w8 ⟨rfl, hb1⟩
  rw [HBE.out.1]
  replace hfo := hfo.later hb1
  clear c0 c1
  replace hX := hX.later hb1
  replace hp := hp.later hb1
  replace hb := hb.trans (hb1.mono hb.size)
  have c0 := hX.c0
  have c1 := hX.c1
  clear hb1
  have HCK := Lib.hid (HLE.out t)
  have HIC := Lib.hid (fun (bb : Bool) (hbb : icB s l t = bb) => show Calls Try.prog 18 #[.agg #[.string s, .slice pa l.length pc], .string t] w8 fun e w' => e = .returned (.bool bb) ∧ Below w8.heap.size w8 w' from by
    have := implIC_any s _ l t w8 hp (by omega) (by omega) (by omega)
    rw [hbb] at this; exact this)
  go_upto_region 11 with fail
  go_cut [98] (fun sv wx => sv = .bool false ∧ Below w8.heap.size w8 wx)
  case first =>
    cases hic : icB s l t with
    | true =>
      have hle : ¬ (q.size : Int) < (t.size : Int) := by have := HCK.out hic; omega
      have HI2 := Lib.hid (HIC.out true hic)
      clear hic HIC HLE HCK
      go_wp2_with fail
      refine HI2.out.mono ?_
      rintro e w9 ⟨rfl, hb1⟩
      go_wp2_with fail
      go_meet
      exact ⟨by rw [decide_eq_false (by omega)], hb1⟩
    | false =>
      have HI2 := Lib.hid (HIC.out false hic)
      clear hic HIC HLE HCK
      go_wp2_with fail
      refine HI2.out.mono ?_
      rintro e w9 ⟨rfl, hb1⟩
      go_wp2_with fail
      go_meet
      exact ⟨rfl, hb1⟩
  case rest =>
    obtain ⟨rfl, hb1⟩ := hcut
    replace hfo := hfo.later hb1
    generalize wc = w9 at *
    clear c0 c1
    replace hX := hX.later hb1
    replace hp := hp.later hb1
    replace hb := hb.trans (hb1.mono hb.size)
    have c0 := hX.c0
    have c1 := hX.c1
    clear hb1
    clear HIC HLE HCK HBE
    go_wp2_with fail
    have HLX : Hid (∀ wr, Below w9.heap.size w9 wr → LX X s (.slice pa l.length pc) wr ∧ RS wr (.slice pa l.length pc) l ∧ RS wr (.slice fa (fmL s l).length fc) (fmL s l)) := fun wr h => ⟨hX.later h, hp.later h, (hfo.read).later h⟩
    have HBW := Lib.hid hb
    have hF18 : (fmL s l).length ≤ 18 := HFA.out.len
    have HFS := Lib.hid HFA.out.sz
    generalize fmL s l = F at *
    clear hX hp hfo hb c0 c1 HY HFA
    have hb := Below.refl w9.heap.size w9
    go_loopw [15, 16] (fun av iv wr => ∃ (i : Nat) (al : ByteArray), i ≤ F.length ∧ iv = .int .i64 i ∧ av = .string al ∧ Hid (al.size = sumZ F i) ∧ al.size ≤ i * 18 ∧ Below w9.heap.size w9 wr) (fun _ iv _ => F.length - (intOf iv).toNat)
    case atStart => exact ⟨0, ⟨#[]⟩, Nat.zero_le _, rfl, rfl, Lib.hid rfl, by decide, hb⟩
    case round =>
      clear hb
      obtain ⟨i, al, hi, rfl, rfl, HAL, hal, hb⟩ := hrel
      obtain ⟨hX, hp, hf⟩ := HLX.out _ hb
      have c0 := hX.c0
      have c1 := hX.c1
      by_cases hlt : i < F.length
      · obtain ⟨fg, fo, hfe, hfg, hc⟩ := hf.at i hlt
        have hfz := HFS.out i hlt
        have hliI : (i : Int) < (F.length : Int) := by omega
        obtain ⟨f, hfv⟩ : ∃ f, sAt F i = f := ⟨_, rfl⟩
        have HFV := Lib.hid hfv
        rw [hfv] at hc hfz
        have hq1 : ¬ 9223372036854775807 < al.size + f.size := by omega
        have HN : Hid ((al ++ f).size = sumZ F (i + 1)) := by unfold Hid; rw [ByteArray.size_append, sumZ_succ hlt, HAL.out, HFV.out]
        have hn18 : (al ++ f).size ≤ (i + 1) * 18 := by rw [ByteArray.size_append]; omega
        obtain ⟨al2, hal2⟩ : ∃ z, al ++ f = z := ⟨_, rfl⟩
        rw [hal2] at HN hn18
        subst hfe
        clear hfv hX hp hf
        go_wp2_with fail
        clear c0 c1 hc
        go_loopw [17] (fun av wr => ∃ a : Nat, a ≤ f.size ∧ av = .int .i64 a ∧ Below w9.heap.size w9 wr) (fun av _ => f.size - (intOf av).toNat)
        case atStart => exact ⟨0, Nat.zero_le _, rfl, hb⟩
        case round =>
          clear hb hal2
          obtain ⟨a, ha, rfl, hb⟩ := hrel
          obtain ⟨hX, hp, hf⟩ := HLX.out _ hb
          obtain ⟨fg', fo', hfe, hfg, hc⟩ := hf.at i hlt
          simp only [Option.some.injEq, Addr.mk.injEq, and_true] at hfe
          obtain ⟨rfl, rfl⟩ := hfe
          rw [HFV.out] at hc
          by_cases hla : a < f.size
          · have hlaI : (a : Int) < (f.size : Int) := by omega
            clear hX hp hf
            go_wp2_with fail
            clear hc
            go_loopw [18] (fun jv wr => ∃ j : Nat, j ≤ i ∧ jv = .int .i64 j ∧ Below w9.heap.size w9 wr) (fun jv _ => i - (intOf jv).toNat)
            case atStart => exact ⟨0, Nat.zero_le _, rfl, hb⟩
            case round =>
              clear hb
              obtain ⟨j, hj, rfl, hb⟩ := hrel
              by_cases hlj : j < i
              · have hjF : j < F.length := by omega
                have hljI : (j : Int) < (i : Int) := by omega
                have hljF : (j : Int) < (F.length : Int) := by omega
                have hgz := HFS.out j hjF
                obtain ⟨g, hgv⟩ : ∃ g, sAt F j = g := ⟨_, rfl⟩
                have HGV := Lib.hid hgv
                rw [hgv] at hgz
                clear hgv
                go_wp2_with fail
                go_loopw [19] (fun bv wr => ∃ b : Nat, b ≤ g.size ∧ bv = .int .i64 b ∧ Below w9.heap.size w9 wr) (fun bv _ => g.size - (intOf bv).toNat)
                case atStart => exact ⟨0, Nat.zero_le _, rfl, hb⟩
                case round =>
                  clear hb
                  obtain ⟨b, hbz, rfl, hb⟩ := hrel
                  obtain ⟨hX, hp, hf⟩ := HLX.out _ hb
                  have c0 := hX.c0
                  have c1 := hX.c1
                  obtain ⟨fg', fo', hfe, hfg, hc⟩ := hf.at i hlt
                  simp only [Option.some.injEq, Addr.mk.injEq, and_true] at hfe
                  obtain ⟨rfl, rfl⟩ := hfe
                  obtain ⟨fg', fo', hfe, _, hcj⟩ := hf.at j hjF
                  simp only [Option.some.injEq, Addr.mk.injEq, and_true] at hfe
                  obtain ⟨rfl, rfl⟩ := hfe
                  rw [HFV.out] at hc
                  rw [HGV.out] at hcj
                  by_cases hlb : b < g.size
                  · have hlbI : (b : Int) < (g.size : Int) := by omega
                    have hTW := HTW.out i j a b hlt hjF (by omega) (by rw [HFV.out]; exact hla) (by rw [HGV.out]; exact hlb)
                    rw [HFV.out, HGV.out, bAt_get _ _ hla, bAt_get _ _ hlb] at hTW
                    obtain ⟨hne, haa⟩ := hTW
                    obtain ⟨x, hx⟩ : ∃ x, f[a] = x := ⟨_, rfl⟩
                    obtain ⟨y, hy⟩ : ∃ y, g[b] = y := ⟨_, rfl⟩
                    have hxy : ((x.toNat : Int) == (y.toNat : Int)) = false := by
                      rw [hx, hy] at hne
                      have : ¬ (x.toNat : Int) = (y.toNat : Int) := fun e => hne (UInt8.toNat_inj.1 (by omega))
                      simpa using this
                    obtain ⟨P, hP⟩ : ∃ P, f.extract a (a + 1) = P := ⟨_, rfl⟩
                    obtain ⟨Q, hQ⟩ : ∃ Q, g.extract b (b + 1) = Q := ⟨_, rfl⟩
                    rw [hP, hQ] at haa
                    have hPs : P.size ≤ 18 := by rw [← hP]; have := extLC f a (a + 1); omega
                    have hQs : Q.size ≤ 18 := by rw [← hQ]; have := extLC g b (b + 1); omega
                    have hwa : IntKind.i64.wrap ((a : Int) + 1) = (a : Int) + 1 := IntWalk.i64_in _ (by omega)
                    have hwa0 : (0 : Int) ≤ (a : Int) + 1 := by omega
                    have hwa1 : ((a : Int) + 1).toNat = a + 1 := by omega
                    have hwa2 : (a : Int) ≤ (a : Int) + 1 := by omega
                    have hwa3 : (a : Int) + 1 ≤ (f.size : Int) := by omega
                    have hwb : IntKind.i64.wrap ((b : Int) + 1) = (b : Int) + 1 := IntWalk.i64_in _ (by omega)
                    have hwb0 : (0 : Int) ≤ (b : Int) + 1 := by omega
                    have hwb1 : ((b : Int) + 1).toNat = b + 1 := by omega
                    have hwb2 : (b : Int) ≤ (b : Int) + 1 := by omega
                    have hwb3 : (b : Int) + 1 ≤ (g.size : Int) := by omega
                    clear hne hX hp hf
                    go_wp2_with fail
                    refine wp_region_held_drew (S := fun w' => (w'.cell? ⟨X, 0, none⟩ = some (.string s) ∧ w'.cell? ⟨X, 1, none⟩ = some (.slice pa l.length pc)) ∧ w'.cell? ⟨fg, fo + i, none⟩ = some (.string f) ∧ w'.cell? ⟨fg, fo + j, none⟩ = some (.string g)) (by kernel_rfl) ⟨⟨c0, c1⟩, hc, hcj⟩ (fun hHeld => ?_)
                    have hbd := hb.drew
                    obtain ⟨hX, hp, hf⟩ := HLX.out _ hbd
                    have c0 := hX.c0
                    have c1 := hX.c1
                    have HAA := Lib.hid (implAA_any s _ l P Q wr.drew hp (by omega) (by omega) (by omega) (by omega))
                    rw [haa] at HAA
                    have hcd : wr.drew.cell? ⟨fg, fo + i, none⟩ = some (.string f) := hc
                    have hcjd : wr.drew.cell? ⟨fg, fo + j, none⟩ = some (.string g) := hcj
                    have hfgd : fg < wr.drew.heap.size := hfg
                    clear hc hcj hfg hb
                    generalize wr.drew = wd at *
                    refine wpAnyH_take (i := 0) (oi := ⟨some 134, _, _, _, _, _⟩) (v := ?va0) rfl (by kernel_rfl) (by kernel_rfl) (by kernel_rfl) (fun _ _ _ h => h) (Or.inl ⟨by rfl, ?ya0⟩) (by assumption) ?ra0
                    case ya0 => (intro w hSw; (try dsimp only at hSw); go_simp; all_goals (with_reducible rfl))
                    try simp only [Act.put, List.setIfInBounds_toArray, List.set_cons_zero, List.set_cons_succ]
                    refine wpAnyH_take (i := 1) (oi := ⟨some 135, _, _, _, _, _⟩) (v := ?va1) rfl (by kernel_rfl) (by kernel_rfl) (by kernel_rfl) (fun _ _ _ h => h) (Or.inl ⟨by rfl, ?ya1⟩) (by assumption) ?ra1
                    case ya1 => (intro w hSw; (try dsimp only at hSw); go_simp; all_goals (with_reducible rfl))
                    try simp only [Act.put, List.setIfInBounds_toArray, List.set_cons_zero, List.set_cons_succ]
                    refine wpAnyH_take (i := 2) (oi := ⟨some 136, _, _, _, _, _⟩) (v := ?va2) rfl (by kernel_rfl) (by kernel_rfl) (by kernel_rfl) (fun _ _ _ h => h) (Or.inl ⟨by rfl, ?ya2⟩) (by assumption) ?ra2
                    case ya2 => (intro w hSw; (try dsimp only at hSw); go_simp; all_goals (with_reducible rfl))
                    try simp only [Act.put, List.setIfInBounds_toArray, List.set_cons_zero, List.set_cons_succ]
                    refine wpAnyH_take (i := 3) (oi := ⟨some 137, _, _, _, _, _⟩) (v := ?va3) rfl (by kernel_rfl) (by kernel_rfl) (by kernel_rfl) (fun _ _ _ h => h) (Or.inl ⟨by rfl, ?ya3⟩) (by assumption) ?ra3
                    case ya3 => (intro w hSw; (try dsimp only at hSw); go_simp; all_goals (with_reducible rfl))
                    try simp only [Act.put, List.setIfInBounds_toArray, List.set_cons_zero, List.set_cons_succ]
                    refine wpAnyH_take (i := 4) (oi := ⟨some 138, _, _, _, _, _⟩) (v := ?va4) rfl (by kernel_rfl) (by kernel_rfl) (by kernel_rfl) (fun _ _ _ h => h) (Or.inl ⟨by rfl, ?ya4⟩) (by assumption) ?ra4
                    case ya4 => (intro w hSw; (try dsimp only at hSw); go_simp; all_goals (with_reducible rfl))
                    try simp only [Act.put, List.setIfInBounds_toArray, List.set_cons_zero, List.set_cons_succ]
                    refine wpAnyH_take (i := 5) (oi := ⟨some 139, _, _, _, _, _⟩) (v := ?va5) rfl (by kernel_rfl) (by kernel_rfl) (by kernel_rfl) (fun _ _ _ h => h) (Or.inl ⟨by rfl, ?ya5⟩) (by assumption) ?ra5
                    case ya5 => (intro w hSw; (try dsimp only at hSw); go_simp; all_goals (with_reducible rfl))
                    try simp only [Act.put, List.setIfInBounds_toArray, List.set_cons_zero, List.set_cons_succ]
                    refine wpAnyH_take (i := 6) (oi := ⟨some 140, _, _, _, _, _⟩) (v := ?va6) rfl (by kernel_rfl) (by kernel_rfl) (by kernel_rfl) (fun _ _ _ h => h) (Or.inl ⟨by rfl, ?ya6⟩) (by assumption) ?ra6
                    case ya6 => (intro w hSw; (try dsimp only at hSw); go_simp; all_goals (with_reducible rfl))
                    try simp only [Act.put, List.setIfInBounds_toArray, List.set_cons_zero, List.set_cons_succ]
                    refine wpAnyH_take (i := 7) (oi := ⟨some 141, _, _, _, _, _⟩) (v := ?va7) rfl (by kernel_rfl) (by kernel_rfl) (by kernel_rfl) (fun _ _ _ h => h) (Or.inl ⟨by rfl, ?ya7⟩) (by assumption) ?ra7
                    case ya7 => (intro w hSw; (try dsimp only at hSw); go_simp; all_goals (with_reducible rfl))
                    try simp only [Act.put, List.setIfInBounds_toArray, List.set_cons_zero, List.set_cons_succ]
                    refine wpAnyH_take (i := 8) (oi := ⟨some 142, _, _, _, _, _⟩) (v := ?va8) rfl (by kernel_rfl) (by kernel_rfl) (by kernel_rfl) (fun _ _ _ h => h) (Or.inl ⟨by rfl, ?ya8⟩) (by assumption) ?ra8
                    case ya8 => (intro w hSw; (try dsimp only at hSw); go_simp; all_goals (with_reducible rfl))
                    try simp only [Act.put, List.setIfInBounds_toArray, List.set_cons_zero, List.set_cons_succ]
                    refine wpAnyH_take (i := 9) (oi := ⟨some 143, _, _, _, _, _⟩) (v := ?va9) rfl (by kernel_rfl) (by kernel_rfl) (by kernel_rfl) (fun _ _ _ h => h) (Or.inl ⟨by rfl, ?ya9⟩) (by assumption) ?ra9
                    case ya9 => (intro w hSw; (try dsimp only at hSw); go_simp; all_goals (with_reducible rfl))
                    try simp only [Act.put, List.setIfInBounds_toArray, List.set_cons_zero, List.set_cons_succ]
                    refine wpAnyH_take (i := 10) (oi := ⟨some 144, _, _, _, _, _⟩) (v := ?va10) rfl (by kernel_rfl) (by kernel_rfl) (by kernel_rfl) (fun _ _ _ h => h) (Or.inl ⟨by rfl, ?ya10⟩) (by assumption) ?ra10
                    case ya10 => (intro w hSw; (try dsimp only at hSw); go_simp; all_goals (with_reducible rfl))
                    try simp only [Act.put, List.setIfInBounds_toArray, List.set_cons_zero, List.set_cons_succ]
                    refine wpAnyH_take (i := 11) (oi := ⟨some 145, _, _, _, _, _⟩) (v := ?va11) rfl (by kernel_rfl) (by kernel_rfl) (by kernel_rfl) (fun _ _ _ h => h) (Or.inl ⟨by rfl, ?ya11⟩) (by assumption) ?ra11
                    case ya11 => (intro w hSw; (try dsimp only at hSw); go_simp; all_goals (with_reducible rfl))
                    try simp only [Act.put, List.setIfInBounds_toArray, List.set_cons_zero, List.set_cons_succ]
                    refine wpAnyH_take (i := 12) (oi := ⟨some 146, _, _, _, _, _⟩) (v := ?va12) rfl (by kernel_rfl) (by kernel_rfl) (by kernel_rfl) (fun _ _ _ h => h) (Or.inl ⟨by rfl, ?ya12⟩) (by assumption) ?ra12
                    case ya12 => (intro w hSw; (try dsimp only at hSw); go_simp; all_goals (with_reducible rfl))
                    try simp only [Act.put, List.setIfInBounds_toArray, List.set_cons_zero, List.set_cons_succ]
                    refine wpAnyH_take (i := 13) (oi := ⟨some 147, _, _, _, _, _⟩) (v := ?va13) rfl (by kernel_rfl) (by kernel_rfl) (by kernel_rfl) (fun _ _ _ h => h) (Or.inl ⟨by rfl, ?ya13⟩) (by assumption) ?ra13
                    case ya13 => (intro w hSw; (try dsimp only at hSw); go_simp; all_goals (with_reducible rfl))
                    try simp only [Act.put, List.setIfInBounds_toArray, List.set_cons_zero, List.set_cons_succ]
                    refine wpAnyH_take (i := 14) (oi := ⟨some 148, _, _, _, _, _⟩) (v := ?va14) rfl (by kernel_rfl) (by kernel_rfl) (by kernel_rfl) (fun _ _ _ h => h) (Or.inl ⟨by rfl, ?ya14⟩) (by assumption) ?ra14
                    case ya14 => (intro w hSw; (try dsimp only at hSw); go_simp; all_goals (with_reducible rfl))
                    try simp only [Act.put, List.setIfInBounds_toArray, List.set_cons_zero, List.set_cons_succ]
                    refine wpAnyH_take (i := 15) (oi := ⟨some 149, _, _, _, _, _⟩) (v := ?va15) rfl (by kernel_rfl) (by kernel_rfl) (by kernel_rfl) (fun _ _ _ h => h) (Or.inl ⟨by rfl, ?ya15⟩) (by assumption) ?ra15
                    case ya15 => (intro w hSw; (try dsimp only at hSw); go_simp; all_goals (with_reducible rfl))
                    try simp only [Act.put, List.setIfInBounds_toArray, List.set_cons_zero, List.set_cons_succ]
                    refine wpAnyH_take (i := 16) (oi := ⟨some 150, _, _, _, _, _⟩) (v := ?va16) rfl (by kernel_rfl) (by kernel_rfl) (by kernel_rfl) (fun _ _ _ h => h) (Or.inl ⟨by rfl, ?ya16⟩) (by assumption) ?ra16
                    case ya16 => (intro w hSw; (try dsimp only at hSw); go_simp; all_goals (with_reducible rfl))
                    try simp only [Act.put, List.setIfInBounds_toArray, List.set_cons_zero, List.set_cons_succ]
                    refine wpAnyH_take (i := 17) (oi := ⟨some 151, _, _, _, _, _⟩) (v := ?va17) rfl (by kernel_rfl) (by kernel_rfl) (by kernel_rfl) (fun _ _ _ h => h) (Or.inl ⟨by rfl, ?ya17⟩) (by assumption) ?ra17
                    case ya17 => (intro w hSw; (try dsimp only at hSw); go_simp; all_goals (with_reducible rfl))
                    try simp only [Act.put, List.setIfInBounds_toArray, List.set_cons_zero, List.set_cons_succ]
                    refine wpAnyH_take (i := 18) (oi := ⟨some 152, _, _, _, _, _⟩) (v := ?va18) rfl (by kernel_rfl) (by kernel_rfl) (by kernel_rfl) (fun _ _ _ h => h) (Or.inl ⟨by rfl, ?ya18⟩) (by assumption) ?ra18
                    case ya18 => (intro w hSw; (try dsimp only at hSw); go_simp; all_goals (with_reducible rfl))
                    try simp only [Act.put, List.setIfInBounds_toArray, List.set_cons_zero, List.set_cons_succ]
                    refine wpAnyH_take (i := 19) (oi := ⟨some 153, _, _, _, _, _⟩) (v := ?va19) rfl (by kernel_rfl) (by kernel_rfl) (by kernel_rfl) (fun _ _ _ h => h) (Or.inl ⟨by rfl, ?ya19⟩) (by assumption) ?ra19
                    case ya19 => (intro w hSw; (try dsimp only at hSw); go_simp; all_goals (with_reducible rfl))
                    try simp only [Act.put, List.setIfInBounds_toArray, List.set_cons_zero, List.set_cons_succ]
                    refine wpAnyH_take (i := 20) (oi := ⟨some 154, _, _, _, _, _⟩) (v := ?va20) rfl (by kernel_rfl) (by kernel_rfl) (by kernel_rfl) (fun _ _ _ h => h) (Or.inl ⟨by rfl, ?ya20⟩) (by assumption) ?ra20
                    case ya20 => (intro w hSw; (try dsimp only at hSw); go_simp; all_goals (with_reducible rfl))
                    try simp only [Act.put, List.setIfInBounds_toArray, List.set_cons_zero, List.set_cons_succ]
                    refine wpAnyH_take (i := 21) (oi := ⟨some 155, _, _, _, _, _⟩) (v := ?va21) rfl (by kernel_rfl) (by kernel_rfl) (by kernel_rfl) (fun _ _ _ h => h) (Or.inl ⟨by rfl, ?ya21⟩) (by assumption) ?ra21
                    case ya21 => (intro w hSw; (try dsimp only at hSw); go_simp; all_goals (with_reducible rfl))
                    try simp only [Act.put, List.setIfInBounds_toArray, List.set_cons_zero, List.set_cons_succ]
                    refine wpAnyH_take (i := 22) (oi := ⟨some 156, _, _, _, _, _⟩) (v := ?va22) rfl (by kernel_rfl) (by kernel_rfl) (by kernel_rfl) (fun _ _ _ h => h) (Or.inl ⟨by rfl, ?ya22⟩) (by assumption) ?ra22
                    case ya22 => (intro w hSw; (try dsimp only at hSw); go_simp; all_goals (with_reducible rfl))
                    try simp only [Act.put, List.setIfInBounds_toArray, List.set_cons_zero, List.set_cons_succ]
                    refine wpAnyH_take (i := 23) (oi := ⟨some 157, _, _, _, _, _⟩) (v := ?va23) rfl (by kernel_rfl) (by kernel_rfl) (by kernel_rfl) (fun _ _ _ h => h) (Or.inl ⟨by rfl, ?ya23⟩) (by assumption) ?ra23
                    case ya23 => (intro w hSw; (try dsimp only at hSw); go_simp; all_goals (with_reducible rfl))
                    try simp only [Act.put, List.setIfInBounds_toArray, List.set_cons_zero, List.set_cons_succ]
                    refine wpAnyH_take (i := 24) (oi := ⟨some 158, _, _, _, _, _⟩) (v := ?va24) rfl (by kernel_rfl) (by kernel_rfl) (by kernel_rfl) (fun _ _ _ h => h) (Or.inl ⟨by rfl, ?ya24⟩) (by assumption) ?ra24
                    case ya24 => (intro w hSw; (try dsimp only at hSw); go_simp; all_goals (with_reducible rfl))
                    try simp only [Act.put, List.setIfInBounds_toArray, List.set_cons_zero, List.set_cons_succ]
                    refine wpAnyH_take (i := 25) (oi := ⟨some 159, _, _, _, _, _⟩) (v := ?va25) rfl (by kernel_rfl) (by kernel_rfl) (by kernel_rfl) (fun _ _ _ h => h) (Or.inl ⟨by rfl, ?ya25⟩) (by assumption) ?ra25
                    case ya25 => (intro w hSw; (try dsimp only at hSw); go_simp; all_goals (with_reducible rfl))
                    try simp only [Act.put, List.setIfInBounds_toArray, List.set_cons_zero, List.set_cons_succ]
                    refine wpAnyH_take (i := 26) (oi := ⟨some 160, _, _, _, _, _⟩) (v := ?va26) rfl (by kernel_rfl) (by kernel_rfl) (by kernel_rfl) (fun _ _ _ h => h) (Or.inl ⟨by rfl, ?ya26⟩) (by assumption) ?ra26
                    case ya26 => (intro w hSw; (try dsimp only at hSw); go_simp; all_goals (with_reducible rfl))
                    try simp only [Act.put, List.setIfInBounds_toArray, List.set_cons_zero, List.set_cons_succ]
                    refine wpAnyH_take (i := 27) (oi := ⟨some 161, _, _, _, _, _⟩) (v := ?va27) rfl (by kernel_rfl) (by kernel_rfl) (by kernel_rfl) (fun _ _ _ h => h) (Or.inl ⟨by rfl, ?ya27⟩) (by assumption) ?ra27
                    case ya27 => (intro w hSw; (try dsimp only at hSw); go_simp; all_goals (with_reducible rfl))
                    try simp only [Act.put, List.setIfInBounds_toArray, List.set_cons_zero, List.set_cons_succ]
                    refine wpAnyH_take (i := 28) (oi := ⟨some 162, _, _, _, _, _⟩) (v := ?va28) rfl (by kernel_rfl) (by kernel_rfl) (by kernel_rfl) (fun _ _ _ h => h) (Or.inl ⟨by rfl, ?ya28⟩) (by assumption) ?ra28
                    case ya28 => (intro w hSw; (try dsimp only at hSw); go_simp; all_goals (with_reducible rfl))
                    try simp only [Act.put, List.setIfInBounds_toArray, List.set_cons_zero, List.set_cons_succ]
                    refine wpAnyH_take (i := 29) (oi := ⟨some 163, _, _, _, _, _⟩) (v := ?va29) rfl (by kernel_rfl) (by kernel_rfl) (by kernel_rfl) (fun _ _ _ h => h) (Or.inl ⟨by rfl, ?ya29⟩) (by assumption) ?ra29
                    case ya29 => (intro w hSw; (try dsimp only at hSw); go_simp; all_goals (with_reducible rfl))
                    try simp only [Act.put, List.setIfInBounds_toArray, List.set_cons_zero, List.set_cons_succ]
                    refine wpAnyH_take (i := 30) (oi := ⟨some 164, _, _, _, _, _⟩) (v := ?va30) rfl (by kernel_rfl) (by kernel_rfl) (by kernel_rfl) (fun _ _ _ h => h) (Or.inl ⟨by rfl, ?ya30⟩) (by assumption) ?ra30
                    case ya30 => (intro w hSw; (try dsimp only at hSw); go_simp; all_goals (with_reducible rfl))
                    try simp only [Act.put, List.setIfInBounds_toArray, List.set_cons_zero, List.set_cons_succ]
                    refine wpAnyH_ready (rs := [31]) (by kernel_rfl) (by simp) ?_
                    refine AllReadyH.cons rfl (fun K hK => ?_) AllReadyH.nil
                    go_simp
                    go_at_call 16
                    refine HAA.out.mono ?_
                    rintro e w12 ⟨rfl, hb12⟩
                    have t0 := (hX.later hb12).c0
                    have t1 := (hX.later hb12).c1
                    have t2 := (hb12.cell (p := ⟨fg, fo + i, none⟩) hfgd).trans hcd
                    have t3 := (hb12.cell (p := ⟨fg, fo + j, none⟩) hfgd).trans hcjd
                    have hbn := hbd.trans (hb12.mono hbd.size)
                    clear hb12
                    refine hK.out _ _ ?_ (fun hHeld => ?_)
                    · (try dsimp only)
                      go_keep
                    clear hK K
                    try simp only [Act.put, List.setIfInBounds_toArray, List.set_cons_zero, List.set_cons_succ]
                    refine wpAnyH_take (i := 32) (oi := ⟨some 166, _, _, _, _, _⟩) (v := ?vaz32) rfl (by kernel_rfl) (by kernel_rfl) (by kernel_rfl) (fun _ _ _ h => h) (Or.inl ⟨by rfl, ?yaz32⟩) (by assumption) ?raz32
                    case yaz32 => (intro w hSw; (try dsimp only at hSw); go_simp; all_goals (with_reducible rfl))
                    try simp only [Act.put, List.setIfInBounds_toArray, List.set_cons_zero, List.set_cons_succ]
                    refine wpAnyH_done (by kernel_rfl) ?_ _
                    clear t0 t1 t2 t3 hwa hwa0 hwa1 hwa2 hwa3 hwb0 hwb1 hwb2 hwb3 hP hQ hx hy hxy haa
                    go_wp2_with fail
                    go_roundw
                    case rel => exact ⟨b + 1, by omega, by go_num, hbn⟩
                    case measure => first | (simp [intOf]; done) | (simp [intOf]; omega)
                  · obtain rfl : b = g.size := by omega
                    clear hX hp hf
                    go_wp2_with fail
                    go_roundw
                    case rel => exact ⟨j + 1, by omega, by go_num, hb⟩
                    case measure => first | (simp [intOf]; done) | (simp [intOf]; omega)
              · obtain rfl : j = i := by omega
                go_wp2_with fail
                go_roundw
                case rel => exact ⟨a + 1, by omega, by go_num, hb⟩
                case measure => first | (simp [intOf]; done) | (simp [intOf]; omega)
          · obtain rfl : a = f.size := by omega
            clear hX hp hf
            go_wp2_with fail
            go_roundw
            case rel => exact ⟨i + 1, al2, by omega, by go_num, rfl, HN, hn18, hb⟩
            case measure => first | (simp [intOf]; done) | (simp [intOf]; omega)
      · obtain rfl : i = F.length := by omega
        have hals : al.size = s.size := HAL.out.trans HSU.out
        have e1 : ((al.size : Int) == (s.size : Int)) = true := by rw [hals]; simp
        have HUZ := HUT.out
        have hu8 : u.size ≤ 8 := by omega
        clear HAL hals HUZ hX hp hf
        go_wp2_with fail
        clear c0 c1
        go_loopw [20] (fun iv wr => ∃ i : Nat, i ≤ u.size ∧ iv = .int .i64 i ∧ Below w9.heap.size w9 wr) (fun iv _ => u.size - (intOf iv).toNat)
        case atStart => exact ⟨0, Nat.zero_le _, rfl, hb⟩
        case round =>
          clear hb
          obtain ⟨i, hi, rfl, hb⟩ := hrel
          by_cases hlt : i < u.size
          · have hltI : (i : Int) < (u.size : Int) := by omega
            go_wp2_with fail
            go_loopw [21] (fun jv wr => ∃ j : Nat, j ≤ i ∧ jv = .int .i64 j ∧ Below w9.heap.size w9 wr) (fun jv _ => i - (intOf jv).toNat)
            case atStart => exact ⟨0, Nat.zero_le _, rfl, hb⟩
            case round =>
              clear hb
              obtain ⟨j, hj, rfl, hb⟩ := hrel
              by_cases hlj : j < i
              · obtain ⟨hX, hp, hf⟩ := HLX.out _ hb
                have c0 := hX.c0
                have c1 := hX.c1
                have hju : j < u.size := by omega
                have hjuI : (j : Int) < (u.size : Int) := by omega
                have hljI : (j : Int) < (i : Int) := by omega
                have HUZ := HUT.out
                have hFF := HF2T.out i j (by omega) (by omega)
                rw [bAt_get _ _ hlt, bAt_get _ _ hju] at hFF
                obtain ⟨x, hx⟩ : ∃ x, u[i] = x := ⟨_, rfl⟩
                obtain ⟨y, hy⟩ : ∃ y, u[j] = y := ⟨_, rfl⟩
                obtain ⟨P, hP⟩ : ∃ P, t.extract i (i + 1) = P := ⟨_, rfl⟩
                obtain ⟨Q, hQ⟩ : ∃ Q, t.extract j (j + 1) = Q := ⟨_, rfl⟩
                obtain ⟨P2, hP2⟩ : ∃ P, u.extract i (i + 1) = P := ⟨_, rfl⟩
                obtain ⟨Q2, hQ2⟩ : ∃ Q, u.extract j (j + 1) = Q := ⟨_, rfl⟩
                rw [hx, hy, hP, hQ, hP2, hQ2] at hFF
                have hPs : P.size ≤ 18 := by rw [← hP]; have := extLC t i (i + 1); omega
                have hQs : Q.size ≤ 18 := by rw [← hQ]; have := extLC t j (j + 1); omega
                have hPs2 : P2.size ≤ 18 := by rw [← hP2]; have := extLC u i (i + 1); omega
                have hQs2 : Q2.size ≤ 18 := by rw [← hQ2]; have := extLC u j (j + 1); omega
                have hwa : IntKind.i64.wrap ((i : Int) + 1) = (i : Int) + 1 := IntWalk.i64_in _ (by omega)
                have hwa0 : (0 : Int) ≤ (i : Int) + 1 := by omega
                have hwa1 : ((i : Int) + 1).toNat = i + 1 := by omega
                have hwa2 : (i : Int) ≤ (i : Int) + 1 := by omega
                have hwa3 : (i : Int) + 1 ≤ (u.size : Int) := by omega
                have hwa4 : (i : Int) + 1 ≤ (t.size : Int) := by omega
                have hwb : IntKind.i64.wrap ((j : Int) + 1) = (j : Int) + 1 := IntWalk.i64_in _ (by omega)
                have hwb0 : (0 : Int) ≤ (j : Int) + 1 := by omega
                have hwb1 : ((j : Int) + 1).toNat = j + 1 := by omega
                have hwb2 : (j : Int) ≤ (j : Int) + 1 := by omega
                have hwb3 : (j : Int) + 1 ≤ (u.size : Int) := by omega
                have hwb4 : (j : Int) + 1 ≤ (t.size : Int) := by omega
                obtain ⟨hFF1, hab⟩ := hFF
                clear HUZ hX hp hf
                cases haa : aaB s l P Q with
                | true =>
                  have hxy : ((x.toNat : Int) != (y.toNat : Int)) = false := by rw [hFF1 haa]; simp
                  clear hFF1
                  go_wp2_with fail
                  refine wp_region_held_drew (S := fun w' => w'.cell? ⟨X, 0, none⟩ = some (.string s) ∧ w'.cell? ⟨X, 1, none⟩ = some (.slice pa l.length pc)) (by kernel_rfl) ⟨c0, c1⟩ (fun hHeld => ?_)
                  have hbd := hb.drew
                  obtain ⟨hX, hp, hf⟩ := HLX.out _ hbd
                  have c0 := hX.c0
                  have c1 := hX.c1
                  have HAA := Lib.hid (implAA_any s _ l P Q wr.drew hp (by omega) (by omega) (by omega) (by omega))
                  rw [haa] at HAA
                  have HAB := Lib.hid (fun wx (h : Below w9.heap.size w9 wx) => implAA_any s _ l P2 Q2 wx (HLX.out wx h).2.1 (by omega) (by omega) (by omega) (by omega))
                  rw [hab] at HAB
                  clear HTW HFS HF2T HSU HW1 HW2 HBW HV HT HUT hi hj hF18 hp hf hPs hQs hPs2 hQs2 hqs hs18 hl11 hs1 hxm hym hxw hyw hxm0 hym0 huu hsu hq0 hq0N ht8 haa hab hb hu8 e1 hal
                  generalize wr.drew = wd at *
                  refine wpAnyH_take (i := 0) (oi := ⟨some 178, _, _, _, _, _⟩) (v := ?vb0) rfl (by kernel_rfl) (by kernel_rfl) (by kernel_rfl) (fun _ _ _ h => h) (Or.inl ⟨by rfl, ?yb0⟩) (by assumption) ?rb0
                  case yb0 => (intro w hSw; (try dsimp only at hSw); go_simp; all_goals (with_reducible rfl))
                  try simp only [Act.put, List.setIfInBounds_toArray, List.set_cons_zero, List.set_cons_succ]
                  refine wpAnyH_take (i := 1) (oi := ⟨some 179, _, _, _, _, _⟩) (v := ?vb1) rfl (by kernel_rfl) (by kernel_rfl) (by kernel_rfl) (fun _ _ _ h => h) (Or.inl ⟨by rfl, ?yb1⟩) (by assumption) ?rb1
                  case yb1 => (intro w hSw; (try dsimp only at hSw); go_simp; all_goals (with_reducible rfl))
                  try simp only [Act.put, List.setIfInBounds_toArray, List.set_cons_zero, List.set_cons_succ]
                  refine wpAnyH_take (i := 2) (oi := ⟨some 180, _, _, _, _, _⟩) (v := ?vb2) rfl (by kernel_rfl) (by kernel_rfl) (by kernel_rfl) (fun _ _ _ h => h) (Or.inl ⟨by rfl, ?yb2⟩) (by assumption) ?rb2
                  case yb2 => (intro w hSw; (try dsimp only at hSw); go_simp; all_goals (with_reducible rfl))
                  try simp only [Act.put, List.setIfInBounds_toArray, List.set_cons_zero, List.set_cons_succ]
                  refine wpAnyH_take (i := 3) (oi := ⟨some 181, _, _, _, _, _⟩) (v := ?vb3) rfl (by kernel_rfl) (by kernel_rfl) (by kernel_rfl) (fun _ _ _ h => h) (Or.inl ⟨by rfl, ?yb3⟩) (by assumption) ?rb3
                  case yb3 => (intro w hSw; (try dsimp only at hSw); go_simp; all_goals (with_reducible rfl))
                  try simp only [Act.put, List.setIfInBounds_toArray, List.set_cons_zero, List.set_cons_succ]
                  refine wpAnyH_take (i := 4) (oi := ⟨some 182, _, _, _, _, _⟩) (v := ?vb4) rfl (by kernel_rfl) (by kernel_rfl) (by kernel_rfl) (fun _ _ _ h => h) (Or.inl ⟨by rfl, ?yb4⟩) (by assumption) ?rb4
                  case yb4 => (intro w hSw; (try dsimp only at hSw); go_simp; all_goals (with_reducible rfl))
                  try simp only [Act.put, List.setIfInBounds_toArray, List.set_cons_zero, List.set_cons_succ]
                  refine wpAnyH_take (i := 5) (oi := ⟨some 183, _, _, _, _, _⟩) (v := ?vb5) rfl (by kernel_rfl) (by kernel_rfl) (by kernel_rfl) (fun _ _ _ h => h) (Or.inl ⟨by rfl, ?yb5⟩) (by assumption) ?rb5
                  case yb5 => (intro w hSw; (try dsimp only at hSw); go_simp; all_goals (with_reducible rfl))
                  try simp only [Act.put, List.setIfInBounds_toArray, List.set_cons_zero, List.set_cons_succ]
                  refine wpAnyH_take (i := 6) (oi := ⟨some 184, _, _, _, _, _⟩) (v := ?vb6) rfl (by kernel_rfl) (by kernel_rfl) (by kernel_rfl) (fun _ _ _ h => h) (Or.inl ⟨by rfl, ?yb6⟩) (by assumption) ?rb6
                  case yb6 => (intro w hSw; (try dsimp only at hSw); go_simp; all_goals (with_reducible rfl))
                  try simp only [Act.put, List.setIfInBounds_toArray, List.set_cons_zero, List.set_cons_succ]
                  refine wpAnyH_take (i := 7) (oi := ⟨some 185, _, _, _, _, _⟩) (v := ?vb7) rfl (by kernel_rfl) (by kernel_rfl) (by kernel_rfl) (fun _ _ _ h => h) (Or.inl ⟨by rfl, ?yb7⟩) (by assumption) ?rb7
                  case yb7 => (intro w hSw; (try dsimp only at hSw); go_simp; all_goals (with_reducible rfl))
                  try simp only [Act.put, List.setIfInBounds_toArray, List.set_cons_zero, List.set_cons_succ]
                  refine wpAnyH_take (i := 8) (oi := ⟨some 186, _, _, _, _, _⟩) (v := ?vb8) rfl (by kernel_rfl) (by kernel_rfl) (by kernel_rfl) (fun _ _ _ h => h) (Or.inl ⟨by rfl, ?yb8⟩) (by assumption) ?rb8
                  case yb8 => (intro w hSw; (try dsimp only at hSw); go_simp; all_goals (with_reducible rfl))
                  try simp only [Act.put, List.setIfInBounds_toArray, List.set_cons_zero, List.set_cons_succ]
                  refine wpAnyH_take (i := 9) (oi := ⟨some 187, _, _, _, _, _⟩) (v := ?vb9) rfl (by kernel_rfl) (by kernel_rfl) (by kernel_rfl) (fun _ _ _ h => h) (Or.inl ⟨by rfl, ?yb9⟩) (by assumption) ?rb9
                  case yb9 => (intro w hSw; (try dsimp only at hSw); go_simp; all_goals (with_reducible rfl))
                  try simp only [Act.put, List.setIfInBounds_toArray, List.set_cons_zero, List.set_cons_succ]
                  refine wpAnyH_take (i := 10) (oi := ⟨some 188, _, _, _, _, _⟩) (v := ?vb10) rfl (by kernel_rfl) (by kernel_rfl) (by kernel_rfl) (fun _ _ _ h => h) (Or.inl ⟨by rfl, ?yb10⟩) (by assumption) ?rb10
                  case yb10 => (intro w hSw; (try dsimp only at hSw); go_simp; all_goals (with_reducible rfl))
                  try simp only [Act.put, List.setIfInBounds_toArray, List.set_cons_zero, List.set_cons_succ]
                  refine wpAnyH_ready (rs := [11]) (by kernel_rfl) (by simp) ?_
                  refine AllReadyH.cons rfl (fun K hK => ?_) AllReadyH.nil
                  go_simp
                  go_at_call 16
                  refine HAA.out.mono ?_
                  rintro e w12 ⟨rfl, hb12⟩
                  have t0 := (hX.later hb12).c0
                  have t1 := (hX.later hb12).c1
                  have hbn := hbd.trans (hb12.mono hbd.size)
                  have HBC := Lib.hid (HAB.out _ hbn)
                  clear hb12
                  refine hK.out _ _ ?_ (fun hHeld => ?_)
                  · (try dsimp only)
                    go_keep
                  clear hK K
                  try simp only [Act.put, List.setIfInBounds_toArray, List.set_cons_zero, List.set_cons_succ]
                  refine wpAnyH_take (i := 12) (oi := ⟨some 190, _, _, _, _, _⟩) (v := ?vb12) rfl (by kernel_rfl) (by kernel_rfl) (by kernel_rfl) (fun _ _ _ h => h) (Or.inl ⟨by rfl, ?yb12⟩) (by assumption) ?rb12
                  case yb12 => (intro w hSw; (try dsimp only at hSw); go_simp; all_goals (with_reducible rfl))
                  try simp only [Act.put, List.setIfInBounds_toArray, List.set_cons_zero, List.set_cons_succ]
                  refine wpAnyH_take (i := 13) (oi := ⟨some 191, _, _, _, _, _⟩) (v := ?vb13) rfl (by kernel_rfl) (by kernel_rfl) (by kernel_rfl) (fun _ _ _ h => h) (Or.inl ⟨by rfl, ?yb13⟩) (by assumption) ?rb13
                  case yb13 => (intro w hSw; (try dsimp only at hSw); go_simp; all_goals (with_reducible rfl))
                  try simp only [Act.put, List.setIfInBounds_toArray, List.set_cons_zero, List.set_cons_succ]
                  refine wpAnyH_take (i := 14) (oi := ⟨some 192, _, _, _, _, _⟩) (v := ?vb14) rfl (by kernel_rfl) (by kernel_rfl) (by kernel_rfl) (fun _ _ _ h => h) (Or.inl ⟨by rfl, ?yb14⟩) (by assumption) ?rb14
                  case yb14 => (intro w hSw; (try dsimp only at hSw); go_simp; all_goals (with_reducible rfl))
                  try simp only [Act.put, List.setIfInBounds_toArray, List.set_cons_zero, List.set_cons_succ]
                  refine wpAnyH_take (i := 15) (oi := ⟨some 193, _, _, _, _, _⟩) (v := ?vb15) rfl (by kernel_rfl) (by kernel_rfl) (by kernel_rfl) (fun _ _ _ h => h) (Or.inl ⟨by rfl, ?yb15⟩) (by assumption) ?rb15
                  case yb15 => (intro w hSw; (try dsimp only at hSw); go_simp; all_goals (with_reducible rfl))
                  try simp only [Act.put, List.setIfInBounds_toArray, List.set_cons_zero, List.set_cons_succ]
                  refine wpAnyH_take (i := 16) (oi := ⟨some 194, _, _, _, _, _⟩) (v := ?vb16) rfl (by kernel_rfl) (by kernel_rfl) (by kernel_rfl) (fun _ _ _ h => h) (Or.inl ⟨by rfl, ?yb16⟩) (by assumption) ?rb16
                  case yb16 => (intro w hSw; (try dsimp only at hSw); go_simp; all_goals (with_reducible rfl))
                  try simp only [Act.put, List.setIfInBounds_toArray, List.set_cons_zero, List.set_cons_succ]
                  refine wpAnyH_take (i := 17) (oi := ⟨some 195, _, _, _, _, _⟩) (v := ?vb17) rfl (by kernel_rfl) (by kernel_rfl) (by kernel_rfl) (fun _ _ _ h => h) (Or.inl ⟨by rfl, ?yb17⟩) (by assumption) ?rb17
                  case yb17 => (intro w hSw; (try dsimp only at hSw); go_simp; all_goals (with_reducible rfl))
                  try simp only [Act.put, List.setIfInBounds_toArray, List.set_cons_zero, List.set_cons_succ]
                  refine wpAnyH_take (i := 18) (oi := ⟨some 196, _, _, _, _, _⟩) (v := ?vb18) rfl (by kernel_rfl) (by kernel_rfl) (by kernel_rfl) (fun _ _ _ h => h) (Or.inl ⟨by rfl, ?yb18⟩) (by assumption) ?rb18
                  case yb18 => (intro w hSw; (try dsimp only at hSw); go_simp; all_goals (with_reducible rfl))
                  try simp only [Act.put, List.setIfInBounds_toArray, List.set_cons_zero, List.set_cons_succ]
                  refine wpAnyH_take (i := 19) (oi := ⟨some 197, _, _, _, _, _⟩) (v := ?vb19) rfl (by kernel_rfl) (by kernel_rfl) (by kernel_rfl) (fun _ _ _ h => h) (Or.inl ⟨by rfl, ?yb19⟩) (by assumption) ?rb19
                  case yb19 => (intro w hSw; (try dsimp only at hSw); go_simp; all_goals (with_reducible rfl))
                  try simp only [Act.put, List.setIfInBounds_toArray, List.set_cons_zero, List.set_cons_succ]
                  refine wpAnyH_take (i := 20) (oi := ⟨some 198, _, _, _, _, _⟩) (v := ?vb20) rfl (by kernel_rfl) (by kernel_rfl) (by kernel_rfl) (fun _ _ _ h => h) (Or.inl ⟨by rfl, ?yb20⟩) (by assumption) ?rb20
                  case yb20 => (intro w hSw; (try dsimp only at hSw); go_simp; all_goals (with_reducible rfl))
                  try simp only [Act.put, List.setIfInBounds_toArray, List.set_cons_zero, List.set_cons_succ]
                  refine wpAnyH_take (i := 21) (oi := ⟨some 199, _, _, _, _, _⟩) (v := ?vb21) rfl (by kernel_rfl) (by kernel_rfl) (by kernel_rfl) (fun _ _ _ h => h) (Or.inl ⟨by rfl, ?yb21⟩) (by assumption) ?rb21
                  case yb21 => (intro w hSw; (try dsimp only at hSw); go_simp; all_goals (with_reducible rfl))
                  try simp only [Act.put, List.setIfInBounds_toArray, List.set_cons_zero, List.set_cons_succ]
                  refine wpAnyH_take (i := 22) (oi := ⟨some 200, _, _, _, _, _⟩) (v := ?vb22) rfl (by kernel_rfl) (by kernel_rfl) (by kernel_rfl) (fun _ _ _ h => h) (Or.inl ⟨by rfl, ?yb22⟩) (by assumption) ?rb22
                  case yb22 => (intro w hSw; (try dsimp only at hSw); go_simp; all_goals (with_reducible rfl))
                  try simp only [Act.put, List.setIfInBounds_toArray, List.set_cons_zero, List.set_cons_succ]
                  refine wpAnyH_take (i := 23) (oi := ⟨some 201, _, _, _, _, _⟩) (v := ?vb23) rfl (by kernel_rfl) (by kernel_rfl) (by kernel_rfl) (fun _ _ _ h => h) (Or.inl ⟨by rfl, ?yb23⟩) (by assumption) ?rb23
                  case yb23 => (intro w hSw; (try dsimp only at hSw); go_simp; all_goals (with_reducible rfl))
                  try simp only [Act.put, List.setIfInBounds_toArray, List.set_cons_zero, List.set_cons_succ]
                  refine wpAnyH_take (i := 24) (oi := ⟨some 202, _, _, _, _, _⟩) (v := ?vb24) rfl (by kernel_rfl) (by kernel_rfl) (by kernel_rfl) (fun _ _ _ h => h) (Or.inl ⟨by rfl, ?yb24⟩) (by assumption) ?rb24
                  case yb24 => (intro w hSw; (try dsimp only at hSw); go_simp; all_goals (with_reducible rfl))
                  try simp only [Act.put, List.setIfInBounds_toArray, List.set_cons_zero, List.set_cons_succ]
                  refine wpAnyH_take (i := 25) (oi := ⟨some 203, _, _, _, _, _⟩) (v := ?vb25) rfl (by kernel_rfl) (by kernel_rfl) (by kernel_rfl) (fun _ _ _ h => h) (Or.inl ⟨by rfl, ?yb25⟩) (by assumption) ?rb25
                  case yb25 => (intro w hSw; (try dsimp only at hSw); go_simp; all_goals (with_reducible rfl))
                  try simp only [Act.put, List.setIfInBounds_toArray, List.set_cons_zero, List.set_cons_succ]
                  refine wpAnyH_take (i := 26) (oi := ⟨some 204, _, _, _, _, _⟩) (v := ?vb26) rfl (by kernel_rfl) (by kernel_rfl) (by kernel_rfl) (fun _ _ _ h => h) (Or.inl ⟨by rfl, ?yb26⟩) (by assumption) ?rb26
                  case yb26 => (intro w hSw; (try dsimp only at hSw); go_simp; all_goals (with_reducible rfl))
                  try simp only [Act.put, List.setIfInBounds_toArray, List.set_cons_zero, List.set_cons_succ]
                  refine wpAnyH_take (i := 27) (oi := ⟨some 205, _, _, _, _, _⟩) (v := ?vb27) rfl (by kernel_rfl) (by kernel_rfl) (by kernel_rfl) (fun _ _ _ h => h) (Or.inl ⟨by rfl, ?yb27⟩) (by assumption) ?rb27
                  case yb27 => (intro w hSw; (try dsimp only at hSw); go_simp; all_goals (with_reducible rfl))
                  try simp only [Act.put, List.setIfInBounds_toArray, List.set_cons_zero, List.set_cons_succ]
                  refine wpAnyH_take (i := 28) (oi := ⟨some 206, _, _, _, _, _⟩) (v := ?vb28) rfl (by kernel_rfl) (by kernel_rfl) (by kernel_rfl) (fun _ _ _ h => h) (Or.inl ⟨by rfl, ?yb28⟩) (by assumption) ?rb28
                  case yb28 => (intro w hSw; (try dsimp only at hSw); go_simp; all_goals (with_reducible rfl))
                  try simp only [Act.put, List.setIfInBounds_toArray, List.set_cons_zero, List.set_cons_succ]
                  refine wpAnyH_take (i := 29) (oi := ⟨some 207, _, _, _, _, _⟩) (v := ?vb29) rfl (by kernel_rfl) (by kernel_rfl) (by kernel_rfl) (fun _ _ _ h => h) (Or.inl ⟨by rfl, ?yb29⟩) (by assumption) ?rb29
                  case yb29 => (intro w hSw; (try dsimp only at hSw); go_simp; all_goals (with_reducible rfl))
                  try simp only [Act.put, List.setIfInBounds_toArray, List.set_cons_zero, List.set_cons_succ]
                  refine wpAnyH_take (i := 30) (oi := ⟨some 208, _, _, _, _, _⟩) (v := ?vb30) rfl (by kernel_rfl) (by kernel_rfl) (by kernel_rfl) (fun _ _ _ h => h) (Or.inl ⟨by rfl, ?yb30⟩) (by assumption) ?rb30
                  case yb30 => (intro w hSw; (try dsimp only at hSw); go_simp; all_goals (with_reducible rfl))
                  try simp only [Act.put, List.setIfInBounds_toArray, List.set_cons_zero, List.set_cons_succ]
                  refine wpAnyH_take (i := 31) (oi := ⟨some 209, _, _, _, _, _⟩) (v := ?vb31) rfl (by kernel_rfl) (by kernel_rfl) (by kernel_rfl) (fun _ _ _ h => h) (Or.inl ⟨by rfl, ?yb31⟩) (by assumption) ?rb31
                  case yb31 => (intro w hSw; (try dsimp only at hSw); go_simp; all_goals (with_reducible rfl))
                  try simp only [Act.put, List.setIfInBounds_toArray, List.set_cons_zero, List.set_cons_succ]
                  refine wpAnyH_take (i := 32) (oi := ⟨some 210, _, _, _, _, _⟩) (v := ?vb32) rfl (by kernel_rfl) (by kernel_rfl) (by kernel_rfl) (fun _ _ _ h => h) (Or.inl ⟨by rfl, ?yb32⟩) (by assumption) ?rb32
                  case yb32 => (intro w hSw; (try dsimp only at hSw); go_simp; all_goals (with_reducible rfl))
                  try simp only [Act.put, List.setIfInBounds_toArray, List.set_cons_zero, List.set_cons_succ]
                  refine wpAnyH_ready (rs := [33]) (by kernel_rfl) (by simp) ?_
                  refine AllReadyH.cons rfl (fun K hK => ?_) AllReadyH.nil
                  go_simp
                  go_at_call 16
                  refine HBC.out.mono ?_
                  rintro e w13 ⟨rfl, hb13⟩
                  obtain ⟨hX13, _, _⟩ := HLX.out _ (hbn.trans (hb13.mono hbn.size))
                  have s0 := hX13.c0
                  have s1 := hX13.c1
                  have hbz := hbn.trans (hb13.mono hbn.size)
                  clear hb13
                  refine hK.out _ _ ?_ (fun hHeld => ?_)
                  · (try dsimp only)
                    go_keep
                  clear hK K
                  try simp only [Act.put, List.setIfInBounds_toArray, List.set_cons_zero, List.set_cons_succ]
                  refine wpAnyH_take (i := 34) (oi := ⟨some 212, _, _, _, _, _⟩) (v := ?vbz34) rfl (by kernel_rfl) (by kernel_rfl) (by kernel_rfl) (fun _ _ _ h => h) (Or.inl ⟨by rfl, ?ybz34⟩) (by assumption) ?rbz34
                  case ybz34 => (intro w hSw; (try dsimp only at hSw); go_simp; all_goals (with_reducible rfl))
                  try simp only [Act.put, List.setIfInBounds_toArray, List.set_cons_zero, List.set_cons_succ]
                  refine wpAnyH_done (by kernel_rfl) ?_ _
                  clear t0 t1 s0 s1 hwa hwa0 hwa1 hwa2 hwa3 hwa4 hwb0 hwb1 hwb2 hwb3 hwb4 hP hQ hP2 hQ2 hx hy hxy
                  go_wp2_with fail
                  go_roundw
                  case rel => exact ⟨j + 1, by omega, by go_num, hbz⟩
                  case measure => first | (simp [intOf]; done) | (simp [intOf]; omega)
                | false =>
                  clear hFF1
                  go_wp2_with fail
                  refine wp_region_held_drew (S := fun w' => w'.cell? ⟨X, 0, none⟩ = some (.string s) ∧ w'.cell? ⟨X, 1, none⟩ = some (.slice pa l.length pc)) (by kernel_rfl) ⟨c0, c1⟩ (fun hHeld => ?_)
                  have hbd := hb.drew
                  obtain ⟨hX, hp, hf⟩ := HLX.out _ hbd
                  have c0 := hX.c0
                  have c1 := hX.c1
                  have HAA := Lib.hid (implAA_any s _ l P Q wr.drew hp (by omega) (by omega) (by omega) (by omega))
                  rw [haa] at HAA
                  have HAB := Lib.hid (fun wx (h : Below w9.heap.size w9 wx) => implAA_any s _ l P2 Q2 wx (HLX.out wx h).2.1 (by omega) (by omega) (by omega) (by omega))
                  rw [hab] at HAB
                  clear HTW HFS HF2T HSU HW1 HW2 HBW HV HT HUT hi hj hF18 hp hf hPs hQs hPs2 hQs2 hqs hs18 hl11 hs1 hxm hym hxw hyw hxm0 hym0 huu hsu hq0 hq0N ht8 haa hab hb hu8 e1 hal
                  generalize wr.drew = wd at *
                  refine wpAnyH_take (i := 0) (oi := ⟨some 178, _, _, _, _, _⟩) (v := ?vbq0) rfl (by kernel_rfl) (by kernel_rfl) (by kernel_rfl) (fun _ _ _ h => h) (Or.inl ⟨by rfl, ?ybq0⟩) (by assumption) ?rbq0
                  case ybq0 => (intro w hSw; (try dsimp only at hSw); go_simp; all_goals (with_reducible rfl))
                  try simp only [Act.put, List.setIfInBounds_toArray, List.set_cons_zero, List.set_cons_succ]
                  refine wpAnyH_take (i := 1) (oi := ⟨some 179, _, _, _, _, _⟩) (v := ?vbq1) rfl (by kernel_rfl) (by kernel_rfl) (by kernel_rfl) (fun _ _ _ h => h) (Or.inl ⟨by rfl, ?ybq1⟩) (by assumption) ?rbq1
                  case ybq1 => (intro w hSw; (try dsimp only at hSw); go_simp; all_goals (with_reducible rfl))
                  try simp only [Act.put, List.setIfInBounds_toArray, List.set_cons_zero, List.set_cons_succ]
                  refine wpAnyH_take (i := 2) (oi := ⟨some 180, _, _, _, _, _⟩) (v := ?vbq2) rfl (by kernel_rfl) (by kernel_rfl) (by kernel_rfl) (fun _ _ _ h => h) (Or.inl ⟨by rfl, ?ybq2⟩) (by assumption) ?rbq2
                  case ybq2 => (intro w hSw; (try dsimp only at hSw); go_simp; all_goals (with_reducible rfl))
                  try simp only [Act.put, List.setIfInBounds_toArray, List.set_cons_zero, List.set_cons_succ]
                  refine wpAnyH_take (i := 3) (oi := ⟨some 181, _, _, _, _, _⟩) (v := ?vbq3) rfl (by kernel_rfl) (by kernel_rfl) (by kernel_rfl) (fun _ _ _ h => h) (Or.inl ⟨by rfl, ?ybq3⟩) (by assumption) ?rbq3
                  case ybq3 => (intro w hSw; (try dsimp only at hSw); go_simp; all_goals (with_reducible rfl))
                  try simp only [Act.put, List.setIfInBounds_toArray, List.set_cons_zero, List.set_cons_succ]
                  refine wpAnyH_take (i := 4) (oi := ⟨some 182, _, _, _, _, _⟩) (v := ?vbq4) rfl (by kernel_rfl) (by kernel_rfl) (by kernel_rfl) (fun _ _ _ h => h) (Or.inl ⟨by rfl, ?ybq4⟩) (by assumption) ?rbq4
                  case ybq4 => (intro w hSw; (try dsimp only at hSw); go_simp; all_goals (with_reducible rfl))
                  try simp only [Act.put, List.setIfInBounds_toArray, List.set_cons_zero, List.set_cons_succ]
                  refine wpAnyH_take (i := 5) (oi := ⟨some 183, _, _, _, _, _⟩) (v := ?vbq5) rfl (by kernel_rfl) (by kernel_rfl) (by kernel_rfl) (fun _ _ _ h => h) (Or.inl ⟨by rfl, ?ybq5⟩) (by assumption) ?rbq5
                  case ybq5 => (intro w hSw; (try dsimp only at hSw); go_simp; all_goals (with_reducible rfl))
                  try simp only [Act.put, List.setIfInBounds_toArray, List.set_cons_zero, List.set_cons_succ]
                  refine wpAnyH_take (i := 6) (oi := ⟨some 184, _, _, _, _, _⟩) (v := ?vbq6) rfl (by kernel_rfl) (by kernel_rfl) (by kernel_rfl) (fun _ _ _ h => h) (Or.inl ⟨by rfl, ?ybq6⟩) (by assumption) ?rbq6
                  case ybq6 => (intro w hSw; (try dsimp only at hSw); go_simp; all_goals (with_reducible rfl))
                  try simp only [Act.put, List.setIfInBounds_toArray, List.set_cons_zero, List.set_cons_succ]
                  refine wpAnyH_take (i := 7) (oi := ⟨some 185, _, _, _, _, _⟩) (v := ?vbq7) rfl (by kernel_rfl) (by kernel_rfl) (by kernel_rfl) (fun _ _ _ h => h) (Or.inl ⟨by rfl, ?ybq7⟩) (by assumption) ?rbq7
                  case ybq7 => (intro w hSw; (try dsimp only at hSw); go_simp; all_goals (with_reducible rfl))
                  try simp only [Act.put, List.setIfInBounds_toArray, List.set_cons_zero, List.set_cons_succ]
                  refine wpAnyH_take (i := 8) (oi := ⟨some 186, _, _, _, _, _⟩) (v := ?vbq8) rfl (by kernel_rfl) (by kernel_rfl) (by kernel_rfl) (fun _ _ _ h => h) (Or.inl ⟨by rfl, ?ybq8⟩) (by assumption) ?rbq8
                  case ybq8 => (intro w hSw; (try dsimp only at hSw); go_simp; all_goals (with_reducible rfl))
                  try simp only [Act.put, List.setIfInBounds_toArray, List.set_cons_zero, List.set_cons_succ]
                  refine wpAnyH_take (i := 9) (oi := ⟨some 187, _, _, _, _, _⟩) (v := ?vbq9) rfl (by kernel_rfl) (by kernel_rfl) (by kernel_rfl) (fun _ _ _ h => h) (Or.inl ⟨by rfl, ?ybq9⟩) (by assumption) ?rbq9
                  case ybq9 => (intro w hSw; (try dsimp only at hSw); go_simp; all_goals (with_reducible rfl))
                  try simp only [Act.put, List.setIfInBounds_toArray, List.set_cons_zero, List.set_cons_succ]
                  refine wpAnyH_take (i := 10) (oi := ⟨some 188, _, _, _, _, _⟩) (v := ?vbq10) rfl (by kernel_rfl) (by kernel_rfl) (by kernel_rfl) (fun _ _ _ h => h) (Or.inl ⟨by rfl, ?ybq10⟩) (by assumption) ?rbq10
                  case ybq10 => (intro w hSw; (try dsimp only at hSw); go_simp; all_goals (with_reducible rfl))
                  try simp only [Act.put, List.setIfInBounds_toArray, List.set_cons_zero, List.set_cons_succ]
                  refine wpAnyH_ready (rs := [11]) (by kernel_rfl) (by simp) ?_
                  refine AllReadyH.cons rfl (fun K hK => ?_) AllReadyH.nil
                  go_simp
                  go_at_call 16
                  refine HAA.out.mono ?_
                  rintro e w12 ⟨rfl, hb12⟩
                  have t0 := (hX.later hb12).c0
                  have t1 := (hX.later hb12).c1
                  have hbn := hbd.trans (hb12.mono hbd.size)
                  have HBC := Lib.hid (HAB.out _ hbn)
                  clear hb12
                  refine hK.out _ _ ?_ (fun hHeld => ?_)
                  · (try dsimp only)
                    go_keep
                  clear hK K
                  try simp only [Act.put, List.setIfInBounds_toArray, List.set_cons_zero, List.set_cons_succ]
                  refine wpAnyH_take (i := 12) (oi := ⟨some 190, _, _, _, _, _⟩) (v := ?vbq12) rfl (by kernel_rfl) (by kernel_rfl) (by kernel_rfl) (fun _ _ _ h => h) (Or.inl ⟨by rfl, ?ybq12⟩) (by assumption) ?rbq12
                  case ybq12 => (intro w hSw; (try dsimp only at hSw); go_simp; all_goals (with_reducible rfl))
                  try simp only [Act.put, List.setIfInBounds_toArray, List.set_cons_zero, List.set_cons_succ]
                  refine wpAnyH_take (i := 13) (oi := ⟨some 191, _, _, _, _, _⟩) (v := undef) rfl (by kernel_rfl) (by kernel_rfl) (by kernel_rfl) (fun _ _ _ h => h) (Or.inr ⟨by kernel_rfl, rfl⟩) (by assumption) ?_
                  try simp only [Act.put, List.setIfInBounds_toArray, List.set_cons_zero, List.set_cons_succ]
                  refine wpAnyH_take (i := 14) (oi := ⟨some 192, _, _, _, _, _⟩) (v := undef) rfl (by kernel_rfl) (by kernel_rfl) (by kernel_rfl) (fun _ _ _ h => h) (Or.inr ⟨by kernel_rfl, rfl⟩) (by assumption) ?_
                  try simp only [Act.put, List.setIfInBounds_toArray, List.set_cons_zero, List.set_cons_succ]
                  refine wpAnyH_take (i := 15) (oi := ⟨some 193, _, _, _, _, _⟩) (v := undef) rfl (by kernel_rfl) (by kernel_rfl) (by kernel_rfl) (fun _ _ _ h => h) (Or.inr ⟨by kernel_rfl, rfl⟩) (by assumption) ?_
                  try simp only [Act.put, List.setIfInBounds_toArray, List.set_cons_zero, List.set_cons_succ]
                  refine wpAnyH_take (i := 16) (oi := ⟨some 194, _, _, _, _, _⟩) (v := undef) rfl (by kernel_rfl) (by kernel_rfl) (by kernel_rfl) (fun _ _ _ h => h) (Or.inr ⟨by kernel_rfl, rfl⟩) (by assumption) ?_
                  try simp only [Act.put, List.setIfInBounds_toArray, List.set_cons_zero, List.set_cons_succ]
                  refine wpAnyH_take (i := 17) (oi := ⟨some 195, _, _, _, _, _⟩) (v := undef) rfl (by kernel_rfl) (by kernel_rfl) (by kernel_rfl) (fun _ _ _ h => h) (Or.inr ⟨by kernel_rfl, rfl⟩) (by assumption) ?_
                  try simp only [Act.put, List.setIfInBounds_toArray, List.set_cons_zero, List.set_cons_succ]
                  refine wpAnyH_take (i := 18) (oi := ⟨some 196, _, _, _, _, _⟩) (v := undef) rfl (by kernel_rfl) (by kernel_rfl) (by kernel_rfl) (fun _ _ _ h => h) (Or.inr ⟨by kernel_rfl, rfl⟩) (by assumption) ?_
                  try simp only [Act.put, List.setIfInBounds_toArray, List.set_cons_zero, List.set_cons_succ]
                  refine wpAnyH_take (i := 19) (oi := ⟨some 197, _, _, _, _, _⟩) (v := undef) rfl (by kernel_rfl) (by kernel_rfl) (by kernel_rfl) (fun _ _ _ h => h) (Or.inr ⟨by kernel_rfl, rfl⟩) (by assumption) ?_
                  try simp only [Act.put, List.setIfInBounds_toArray, List.set_cons_zero, List.set_cons_succ]
                  refine wpAnyH_take (i := 20) (oi := ⟨some 198, _, _, _, _, _⟩) (v := ?vbq20) rfl (by kernel_rfl) (by kernel_rfl) (by kernel_rfl) (fun _ _ _ h => h) (Or.inl ⟨by rfl, ?ybq20⟩) (by assumption) ?rbq20
                  case ybq20 => (intro w hSw; (try dsimp only at hSw); go_simp; all_goals (with_reducible rfl))
                  try simp only [Act.put, List.setIfInBounds_toArray, List.set_cons_zero, List.set_cons_succ]
                  refine wpAnyH_take (i := 21) (oi := ⟨some 199, _, _, _, _, _⟩) (v := ?vbq21) rfl (by kernel_rfl) (by kernel_rfl) (by kernel_rfl) (fun _ _ _ h => h) (Or.inl ⟨by rfl, ?ybq21⟩) (by assumption) ?rbq21
                  case ybq21 => (intro w hSw; (try dsimp only at hSw); go_simp; all_goals (with_reducible rfl))
                  try simp only [Act.put, List.setIfInBounds_toArray, List.set_cons_zero, List.set_cons_succ]
                  refine wpAnyH_take (i := 22) (oi := ⟨some 200, _, _, _, _, _⟩) (v := ?vbq22) rfl (by kernel_rfl) (by kernel_rfl) (by kernel_rfl) (fun _ _ _ h => h) (Or.inl ⟨by rfl, ?ybq22⟩) (by assumption) ?rbq22
                  case ybq22 => (intro w hSw; (try dsimp only at hSw); go_simp; all_goals (with_reducible rfl))
                  try simp only [Act.put, List.setIfInBounds_toArray, List.set_cons_zero, List.set_cons_succ]
                  refine wpAnyH_take (i := 23) (oi := ⟨some 201, _, _, _, _, _⟩) (v := ?vbq23) rfl (by kernel_rfl) (by kernel_rfl) (by kernel_rfl) (fun _ _ _ h => h) (Or.inl ⟨by rfl, ?ybq23⟩) (by assumption) ?rbq23
                  case ybq23 => (intro w hSw; (try dsimp only at hSw); go_simp; all_goals (with_reducible rfl))
                  try simp only [Act.put, List.setIfInBounds_toArray, List.set_cons_zero, List.set_cons_succ]
                  refine wpAnyH_take (i := 24) (oi := ⟨some 202, _, _, _, _, _⟩) (v := ?vbq24) rfl (by kernel_rfl) (by kernel_rfl) (by kernel_rfl) (fun _ _ _ h => h) (Or.inl ⟨by rfl, ?ybq24⟩) (by assumption) ?rbq24
                  case ybq24 => (intro w hSw; (try dsimp only at hSw); go_simp; all_goals (with_reducible rfl))
                  try simp only [Act.put, List.setIfInBounds_toArray, List.set_cons_zero, List.set_cons_succ]
                  refine wpAnyH_take (i := 25) (oi := ⟨some 203, _, _, _, _, _⟩) (v := ?vbq25) rfl (by kernel_rfl) (by kernel_rfl) (by kernel_rfl) (fun _ _ _ h => h) (Or.inl ⟨by rfl, ?ybq25⟩) (by assumption) ?rbq25
                  case ybq25 => (intro w hSw; (try dsimp only at hSw); go_simp; all_goals (with_reducible rfl))
                  try simp only [Act.put, List.setIfInBounds_toArray, List.set_cons_zero, List.set_cons_succ]
                  refine wpAnyH_take (i := 26) (oi := ⟨some 204, _, _, _, _, _⟩) (v := ?vbq26) rfl (by kernel_rfl) (by kernel_rfl) (by kernel_rfl) (fun _ _ _ h => h) (Or.inl ⟨by rfl, ?ybq26⟩) (by assumption) ?rbq26
                  case ybq26 => (intro w hSw; (try dsimp only at hSw); go_simp; all_goals (with_reducible rfl))
                  try simp only [Act.put, List.setIfInBounds_toArray, List.set_cons_zero, List.set_cons_succ]
                  refine wpAnyH_take (i := 27) (oi := ⟨some 205, _, _, _, _, _⟩) (v := ?vbq27) rfl (by kernel_rfl) (by kernel_rfl) (by kernel_rfl) (fun _ _ _ h => h) (Or.inl ⟨by rfl, ?ybq27⟩) (by assumption) ?rbq27
                  case ybq27 => (intro w hSw; (try dsimp only at hSw); go_simp; all_goals (with_reducible rfl))
                  try simp only [Act.put, List.setIfInBounds_toArray, List.set_cons_zero, List.set_cons_succ]
                  refine wpAnyH_take (i := 28) (oi := ⟨some 206, _, _, _, _, _⟩) (v := ?vbq28) rfl (by kernel_rfl) (by kernel_rfl) (by kernel_rfl) (fun _ _ _ h => h) (Or.inl ⟨by rfl, ?ybq28⟩) (by assumption) ?rbq28
                  case ybq28 => (intro w hSw; (try dsimp only at hSw); go_simp; all_goals (with_reducible rfl))
                  try simp only [Act.put, List.setIfInBounds_toArray, List.set_cons_zero, List.set_cons_succ]
                  refine wpAnyH_take (i := 29) (oi := ⟨some 207, _, _, _, _, _⟩) (v := ?vbq29) rfl (by kernel_rfl) (by kernel_rfl) (by kernel_rfl) (fun _ _ _ h => h) (Or.inl ⟨by rfl, ?ybq29⟩) (by assumption) ?rbq29
                  case ybq29 => (intro w hSw; (try dsimp only at hSw); go_simp; all_goals (with_reducible rfl))
                  try simp only [Act.put, List.setIfInBounds_toArray, List.set_cons_zero, List.set_cons_succ]
                  refine wpAnyH_take (i := 30) (oi := ⟨some 208, _, _, _, _, _⟩) (v := ?vbq30) rfl (by kernel_rfl) (by kernel_rfl) (by kernel_rfl) (fun _ _ _ h => h) (Or.inl ⟨by rfl, ?ybq30⟩) (by assumption) ?rbq30
                  case ybq30 => (intro w hSw; (try dsimp only at hSw); go_simp; all_goals (with_reducible rfl))
                  try simp only [Act.put, List.setIfInBounds_toArray, List.set_cons_zero, List.set_cons_succ]
                  refine wpAnyH_take (i := 31) (oi := ⟨some 209, _, _, _, _, _⟩) (v := ?vbq31) rfl (by kernel_rfl) (by kernel_rfl) (by kernel_rfl) (fun _ _ _ h => h) (Or.inl ⟨by rfl, ?ybq31⟩) (by assumption) ?rbq31
                  case ybq31 => (intro w hSw; (try dsimp only at hSw); go_simp; all_goals (with_reducible rfl))
                  try simp only [Act.put, List.setIfInBounds_toArray, List.set_cons_zero, List.set_cons_succ]
                  refine wpAnyH_take (i := 32) (oi := ⟨some 210, _, _, _, _, _⟩) (v := ?vbq32) rfl (by kernel_rfl) (by kernel_rfl) (by kernel_rfl) (fun _ _ _ h => h) (Or.inl ⟨by rfl, ?ybq32⟩) (by assumption) ?rbq32
                  case ybq32 => (intro w hSw; (try dsimp only at hSw); go_simp; all_goals (with_reducible rfl))
                  try simp only [Act.put, List.setIfInBounds_toArray, List.set_cons_zero, List.set_cons_succ]
                  refine wpAnyH_ready (rs := [33]) (by kernel_rfl) (by simp) ?_
                  refine AllReadyH.cons rfl (fun K hK => ?_) AllReadyH.nil
                  go_simp
                  go_at_call 16
                  refine HBC.out.mono ?_
                  rintro e w13 ⟨rfl, hb13⟩
                  obtain ⟨hX13, _, _⟩ := HLX.out _ (hbn.trans (hb13.mono hbn.size))
                  have s0 := hX13.c0
                  have s1 := hX13.c1
                  have hbz := hbn.trans (hb13.mono hbn.size)
                  clear hb13
                  refine hK.out _ _ ?_ (fun hHeld => ?_)
                  · (try dsimp only)
                    go_keep
                  clear hK K
                  try simp only [Act.put, List.setIfInBounds_toArray, List.set_cons_zero, List.set_cons_succ]
                  refine wpAnyH_take (i := 34) (oi := ⟨some 212, _, _, _, _, _⟩) (v := ?vby34) rfl (by kernel_rfl) (by kernel_rfl) (by kernel_rfl) (fun _ _ _ h => h) (Or.inl ⟨by rfl, ?yby34⟩) (by assumption) ?rby34
                  case yby34 => (intro w hSw; (try dsimp only at hSw); go_simp; all_goals (with_reducible rfl))
                  try simp only [Act.put, List.setIfInBounds_toArray, List.set_cons_zero, List.set_cons_succ]
                  refine wpAnyH_done (by kernel_rfl) ?_ _
                  clear t0 t1 s0 s1 hwa hwa0 hwa1 hwa2 hwa3 hwa4 hwb0 hwb1 hwb2 hwb3 hwb4 hP hQ hP2 hQ2 hx hy
                  go_wp2_with fail
                  go_roundw
                  case rel => exact ⟨j + 1, by omega, by go_num, hbz⟩
                  case measure => first | (simp [intOf]; done) | (simp [intOf]; omega)
              · obtain rfl : j = i := by omega
                go_wp2_with fail
                go_roundw
                case rel => exact ⟨j + 1, by omega, by go_num, hb⟩
                case measure => first | (simp [intOf]; done) | (simp [intOf]; omega)
          · obtain rfl : i = u.size := by omega
            obtain ⟨hX, hp, hf⟩ := HLX.out _ hb
            have c0 := hX.c0
            have c1 := hX.c1
            have HVL := Lib.hid (implVL_any s _ l wr hp (by omega) (by omega))
            rw [HV.out] at HVL
            have HBB := Lib.hid (fun w' (h : Below wr.heap.size wr w') => HBW.out.trans ((hb.trans (h.mono hb.size)).mono HBW.out.size))
            clear hX hp hf
            go_wp2_with (go_at_call 13; refine HVL.out.mono ?_; rintro e w4 ⟨rfl, hb4⟩)
            go_ret
            exact ⟨rfl, HBB.out _ hb4⟩
end Go.Proofs.Ytdkheeocglfogaa
