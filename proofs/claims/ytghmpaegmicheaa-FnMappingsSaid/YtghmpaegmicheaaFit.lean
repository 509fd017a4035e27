/- Orders that fit a group: the tests of complete mappings and of antisymmetric orders, in the program and in the reference. -/
import Derived.Test.YtghmpaegmicheaaGrpC
import Derived.Test.YtghmpaegmicheaaOrd
namespace Go.Proofs.Ytghmpaegmicheaa
open Go.RowKit

def nt (o : List Int) (i : Nat) : Nat := (o.getD i 0).toNat
/-- The elements a and k of the order give the same product: x with o(x) (cm), or crosswise. -/
def fitEq (cm : Bool) (x : List (List Int)) (o : List Int) (a k : Nat) : Bool := if cm then decide (tb x a (nt o a) = tb x k (nt o k)) else decide (tb x a (nt o k) = tb x k (nt o a))
def fitK (cm : Bool) (x : List (List Int)) (o : List Int) (k : Nat) : Bool := allN k fun a => !fitEq cm x o a k
/-- .. and no element before it is the same. -/
def fitL (cm : Bool) (x : List (List Int)) (o : List Int) (k : Nat) : Bool := allN k fun a => !decide (o.getD a 0 = o.getD k 0) && !fitEq cm x o a k
def Elems (n : Nat) (o : List Int) : Prop := ∀ i, i < o.length → 0 ≤ o.getD i 0 ∧ o.getD i 0 < n
theorem Elems.nt {n : Nat} {o : List Int} (h : Elems n o) (i : Nat) (hi : i < o.length) : ∃ q : Nat, q < n ∧ o.getD i 0 = (q : Int) ∧ nt o i = q := by
  obtain ⟨h1, h2⟩ := h i hi
  obtain ⟨q, e⟩ := Int.eq_ofNat_of_zero_le h1
  exact ⟨q, by omega, e, by unfold Go.Proofs.Ytghmpaegmicheaa.nt; rw [e]; rfl⟩
theorem getD_take {o : List Int} {k i : Nat} (h : i < k) : (o.take k).getD i 0 = o.getD i 0 := by
  simp only [List.getD_eq_getElem?_getD, List.getElem?_take, if_pos h]
theorem Elems.take {n : Nat} {o : List Int} (h : Elems n o) (k : Nat) : Elems n (o.take k) := fun i hi => by
  rw [List.length_take] at hi
  rw [getD_take (by omega)]; exact h i (by omega)
theorem fitEq_take {cm : Bool} {x : List (List Int)} {o : List Int} {a k n : Nat} (ha : a < n) (hk : k < n) : fitEq cm x (o.take n) a k = fitEq cm x o a k := by
  unfold fitEq nt
  rw [getD_take ha, getD_take hk]
theorem fitK_take {cm : Bool} {x : List (List Int)} {o : List Int} {k : Nat} : fitK cm x (o.take (k + 1)) k = fitK cm x o k := by
  unfold fitK
  exact allN_congr fun i hi => by rw [fitEq_take (by omega) (by omega)]
theorem fitL_take {cm : Bool} {x : List (List Int)} {o : List Int} {k : Nat} : fitL cm x (o.take (k + 1)) k = fitL cm x o k := by
  unfold fitL
  exact allN_congr fun i hi => by rw [fitEq_take (by omega) (by omega), getD_take (by omega), getD_take (by omega)]
/-- What both tests answer. -/
def aoB (cm : Bool) (x : List (List Int)) (o : List Int) : Bool := (grpB x && (decide (o.length = x.length) && ordAt x.length o)) && allN o.length (fitK cm x o)
theorem ordAt_elems {n : Nat} {o : List Int} (h : ordAt n o = true) : Elems n o := fun i hi => by
  have := (diffB_iff.1 h).1 i hi
  rw [inB_iff] at this; omega
theorem ordAt_ne {n : Nat} {o : List Int} (h : ordAt n o = true) {a k : Nat} (ha : a < k) (hk : k < o.length) : o.getD a 0 ≠ o.getD k 0 := fun e => by
  have := (diffB_iff.1 h).2 k hk
  apply this
  rw [← e, getD_eq (by omega)]
  exact List.mem_iff_getElem.2 ⟨a, by rw [List.length_take]; omega, by simp⟩
theorem fitL_ord {cm : Bool} {x : List (List Int)} {n : Nat} {o : List Int} (h : ordAt n o = true) {k : Nat} (hk : k < o.length) : fitL cm x o k = fitK cm x o k := by
  unfold fitL fitK
  exact allN_congr fun i hi => by rw [decide_eq_false (ordAt_ne h hi hk)]; rfl

set_option maxHeartbeats 1000000 in
theorem complete_any (x : List (List Int)) (o : List Int) (ov : Value) (L g : Nat) (w : World) {G O C : Nat} {H F P : Nat → Nat} (hs : Hid (sqB x = true)) (hL : o.length = L + 1) (hLn : L < x.length) (ho : Elems x.length o) (hx : SqAt G O H F P x w) (hov : RI w ov o) (hg : w.cell? ⟨g, 0, none⟩ = some (.slice (some ⟨G, O, none⟩) x.length C)) :
    Calls Try.prog 56 #[.pointer (some ⟨g, 0, none⟩), ov] w fun e w' => e = .returned (.bool (fitK true x o L)) ∧ Drw w w' := by
  have hgl : g < w.heap.size := World.block_lt_of_cell? w _ hg
  have hn := (sqB_iff.1 hs.out).1.2
  have HX := Lib.hid hx
  have HOV := Lib.hid hov
  have HO := Lib.hid ho
  have HC : Hid (∀ wr, Drw w wr → wr.cell? ⟨g, 0, none⟩ = some (.slice (some ⟨G, O, none⟩) x.length C)) := fun wr h => by rw [h.below.cell (p := ⟨g, 0, none⟩) hgl]; exact hg
  obtain ⟨ga, goff, gc, rfl, _, _⟩ := RK.get hov 0 (by omega)
  have HL := Lib.hid hL
  rw [hL]
  clear hx hov ho hL
  go_enter Try.func56, Try.ntmps56
  go_wp2_with fail
  go_loopw [11] (fun iv wr => ∃ k : Nat, k ≤ L ∧ iv = .int .i64 k ∧ Hid (∀ i, i < k → (!fitEq true x o i L) = true) ∧ Drw w wr) (fun iv _ => L - (intOf iv).toNat)
  case atStart => exact ⟨0, Nat.zero_le _, rfl, (fun i hi => by omega), Drw.refl _⟩
  case round =>
    obtain ⟨k, hk, rfl, HK, hd⟩ := hrel
    clear hg
    have hg := HC.out wr hd
    by_cases hlt : k < L
    · have hsq := HX.out.later hd.below
      have hovr := HOV.out.later hd.below
      obtain ⟨q1, hq1, e1, n1⟩ := HO.out.nt k (by have := HL.out; omega)
      obtain ⟨q2, hq2, e2, n2⟩ := HO.out.nt L (by have := HL.out; omega)
      have hkx : k < x.length := by omega
      have r1 := hsq.row k hkx
      have r2 := hsq.row L hLn
      obtain ⟨g1, o1, f1, _, d1⟩ := hovr.at k (by have := HL.out; omega)
      obtain ⟨g2, o2, f2, _, d2⟩ := hovr.at L (by have := HL.out; omega)
      simp only [Option.some.injEq, Addr.mk.injEq, and_true] at f1 f2
      obtain ⟨rfl, rfl⟩ := f1
      obtain ⟨rfl, rfl⟩ := f2
      rw [e1] at d1
      rw [e2] at d2
      have c1 := hsq.cell k q1 hkx hq1
      have c2 := hsq.cell L q2 hLn hq2
      have HA : Hid (fitEq true x o k L = decide (tb x k q1 = tb x L q2)) := by unfold Hid fitEq; rw [n1, n2]; rfl
      have HN : Hid (fitEq true x o k L = false → ∀ i, i < k + 1 → (!fitEq true x o i L) = true) := fun hf i hi => by
        by_cases h : i = k
        · subst h; rw [hf]; rfl
        · exact HK.out i (by omega)
      have HF : Hid (fitEq true x o k L = true → fitK true x o L = false) := fun h => allN_no k hlt (by rw [h]; rfl)
      clear hsq hovr e1 e2 n1 n2
      generalize tb x k q1 = z1 at *
      generalize tb x L q2 = z2 at *
      by_cases h : z1 = z2
      · have b1 : (z1 == z2) = true := by simp [h]
        have HV : Hid (fitK true x o L = false) := HF.out (by rw [HA.out, decide_eq_true h])
        clear h
        go_wp2_with fail
        go_quiet (fail)
        go_wp2_with fail
        go_ret
        exact ⟨ret_bool HV.out.symm, hd.more _⟩
      · have b1 : (z1 == z2) = false := by simp [h]
        have HV : Hid (∀ i, i < k + 1 → (!fitEq true x o i L) = true) := HN.out (by rw [HA.out, decide_eq_false h])
        clear h
        go_wp2_with fail
        go_quiet (fail)
        go_wp2_with fail
        go_roundw
        case rel => exact ⟨k + 1, by omega, by go_num, HV, hd.more _⟩
        case measure => first | (simp [intOf]; done) | (simp [intOf]; omega)
    · have HV : Hid (fitK true x o L = true) := allN_yes fun i hi => HK.out i (by omega)
      go_wp2_with fail
      go_ret
      exact ⟨ret_bool HV.out.symm, hd⟩
set_option maxHeartbeats 1000000 in
theorem antisymmetric_any (x : List (List Int)) (o : List Int) (ov : Value) (L g : Nat) (w : World) {G O C : Nat} {H F P : Nat → Nat} (hs : Hid (sqB x = true)) (hL : o.length = L + 1) (hLn : L < x.length) (ho : Elems x.length o) (hx : SqAt G O H F P x w) (hov : RI w ov o) (hg : w.cell? ⟨g, 0, none⟩ = some (.slice (some ⟨G, O, none⟩) x.length C)) :
    Calls Try.prog 55 #[.pointer (some ⟨g, 0, none⟩), ov] w fun e w' => e = .returned (.bool (fitK false x o L)) ∧ Drw w w' := by
  have hgl : g < w.heap.size := World.block_lt_of_cell? w _ hg
  have hn := (sqB_iff.1 hs.out).1.2
  have HX := Lib.hid hx
  have HOV := Lib.hid hov
  have HO := Lib.hid ho
  have HC : Hid (∀ wr, Drw w wr → wr.cell? ⟨g, 0, none⟩ = some (.slice (some ⟨G, O, none⟩) x.length C)) := fun wr h => by rw [h.below.cell (p := ⟨g, 0, none⟩) hgl]; exact hg
  obtain ⟨ga, goff, gc, rfl, _, _⟩ := RK.get hov 0 (by omega)
  have HL := Lib.hid hL
  rw [hL]
  clear hx hov ho hL
  go_enter Try.func55, Try.ntmps55
  go_wp2_with fail
  go_loopw [11] (fun iv wr => ∃ k : Nat, k ≤ L ∧ iv = .int .i64 k ∧ Hid (∀ i, i < k → (!fitEq false x o i L) = true) ∧ Drw w wr) (fun iv _ => L - (intOf iv).toNat)
  case atStart => exact ⟨0, Nat.zero_le _, rfl, (fun i hi => by omega), Drw.refl _⟩
  case round =>
    obtain ⟨k, hk, rfl, HK, hd⟩ := hrel
    clear hg
    have hg := HC.out wr hd
    by_cases hlt : k < L
    · have hsq := HX.out.later hd.below
      have hovr := HOV.out.later hd.below
      obtain ⟨q1, hq1, e1, n1⟩ := HO.out.nt k (by have := HL.out; omega)
      obtain ⟨q2, hq2, e2, n2⟩ := HO.out.nt L (by have := HL.out; omega)
      have hkx : k < x.length := by omega
      have r1 := hsq.row k hkx
      have r2 := hsq.row L hLn
      obtain ⟨g1, o1, f1, _, d1⟩ := hovr.at k (by have := HL.out; omega)
      obtain ⟨g2, o2, f2, _, d2⟩ := hovr.at L (by have := HL.out; omega)
      simp only [Option.some.injEq, Addr.mk.injEq, and_true] at f1 f2
      obtain ⟨rfl, rfl⟩ := f1
      obtain ⟨rfl, rfl⟩ := f2
      rw [e1] at d1
      rw [e2] at d2
      have c1 := hsq.cell k q2 hkx hq2
      have c2 := hsq.cell L q1 hLn hq1
      have HA : Hid (fitEq false x o k L = decide (tb x k q2 = tb x L q1)) := by unfold Hid fitEq; rw [n1, n2]; rfl
      have HN : Hid (fitEq false x o k L = false → ∀ i, i < k + 1 → (!fitEq false x o i L) = true) := fun hf i hi => by
        by_cases h : i = k
        · subst h; rw [hf]; rfl
        · exact HK.out i (by omega)
      have HF : Hid (fitEq false x o k L = true → fitK false x o L = false) := fun h => allN_no k hlt (by rw [h]; rfl)
      clear hsq hovr e1 e2 n1 n2
      generalize tb x k q2 = z1 at *
      generalize tb x L q1 = z2 at *
      by_cases h : z1 = z2
      · have b1 : (z1 == z2) = true := by simp [h]
        have HV : Hid (fitK false x o L = false) := HF.out (by rw [HA.out, decide_eq_true h])
        clear h
        go_wp2_with fail
        go_quiet (fail)
        go_wp2_with fail
        go_ret
        exact ⟨ret_bool HV.out.symm, hd.more _⟩
      · have b1 : (z1 == z2) = false := by simp [h]
        have HV : Hid (∀ i, i < k + 1 → (!fitEq false x o i L) = true) := HN.out (by rw [HA.out, decide_eq_false h])
        clear h
        go_wp2_with fail
        go_quiet (fail)
        go_wp2_with fail
        go_roundw
        case rel => exact ⟨k + 1, by omega, by go_num, HV, hd.more _⟩
        case measure => first | (simp [intOf]; done) | (simp [intOf]; omega)
    · have HV : Hid (fitK false x o L = true) := allN_yes fun i hi => HK.out i (by omega)
      go_wp2_with fail
      go_ret
      exact ⟨ret_bool HV.out.symm, hd⟩

set_option maxRecDepth 100000 in
set_option maxHeartbeats 1000000 in
theorem fitsT_any (x : List (List Int)) (o : List Int) (ov : Value) (L g : Nat) (w : World) {G O C : Nat} {H F P : Nat → Nat} (hs : Hid (sqB x = true)) (hL : o.length = L + 1) (hLn : L < x.length) (ho : Elems x.length o) (hx : SqAt G O H F P x w) (hov : RI w ov o) (hg : w.cell? ⟨g, 0, none⟩ = some (.slice (some ⟨G, O, none⟩) x.length C)) :
    Calls Try.prog 96 #[.pointer (some ⟨g, 0, none⟩), ov, .bool true] w fun e w' => e = .returned (.bool (fitL true x o L)) ∧ Drw w w' := by
  have hgl : g < w.heap.size := World.block_lt_of_cell? w _ hg
  have hn := (sqB_iff.1 hs.out).1.2
  have HX := Lib.hid hx
  have HOV := Lib.hid hov
  have HO := Lib.hid ho
  have HC : Hid (∀ wr, Drw w wr → wr.cell? ⟨g, 0, none⟩ = some (.slice (some ⟨G, O, none⟩) x.length C)) := fun wr h => by rw [h.below.cell (p := ⟨g, 0, none⟩) hgl]; exact hg
  obtain ⟨ga, goff, gc, rfl, _, _⟩ := RK.get hov 0 (by omega)
  have HL := Lib.hid hL
  rw [hL]
  clear hx hov ho hL
  go_enter Try.func96, Try.ntmps96
  go_wp2_with fail
  go_loopw [8] (fun iv wr => ∃ k : Nat, k ≤ L ∧ iv = .int .i64 k ∧ Hid (∀ i, i < k → (!decide (o.getD i 0 = o.getD L 0) && !fitEq true x o i L) = true) ∧ Drw w wr) (fun iv _ => L - (intOf iv).toNat)
  case atStart => exact ⟨0, Nat.zero_le _, rfl, (fun i hi => by omega), Drw.refl _⟩
  case round =>
    obtain ⟨k, hk, rfl, HK, hd⟩ := hrel
    clear hg
    have hg := HC.out wr hd
    by_cases hlt : k < L
    · have hsq := HX.out.later hd.below
      have hovr := HOV.out.later hd.below
      obtain ⟨q1, hq1, e1, n1⟩ := HO.out.nt k (by have := HL.out; omega)
      obtain ⟨q2, hq2, e2, n2⟩ := HO.out.nt L (by have := HL.out; omega)
      have hkx : k < x.length := by omega
      have r1 := hsq.row k hkx
      have r2 := hsq.row L hLn
      obtain ⟨g1, o1, f1, _, d1⟩ := hovr.at k (by have := HL.out; omega)
      obtain ⟨g2, o2, f2, _, d2⟩ := hovr.at L (by have := HL.out; omega)
      simp only [Option.some.injEq, Addr.mk.injEq, and_true] at f1 f2
      obtain ⟨rfl, rfl⟩ := f1
      obtain ⟨rfl, rfl⟩ := f2
      rw [e1] at d1
      rw [e2] at d2
      have c1 := hsq.cell k q1 hkx hq1
      have c2 := hsq.cell L q2 hLn hq2
      have HA : Hid ((!decide (o.getD k 0 = o.getD L 0) && !fitEq true x o k L) = (!decide (q1 = q2) && !decide (tb x k q1 = tb x L q2))) := by
        unfold Hid fitEq; rw [n1, n2, e1, e2, show decide ((q1 : Int) = (q2 : Int)) = decide (q1 = q2) from decide_eq_decide.2 (by omega)]; rfl
      have HN : Hid ((!decide (q1 = q2) && !decide (tb x k q1 = tb x L q2)) = true → ∀ i, i < k + 1 → (!decide (o.getD i 0 = o.getD L 0) && !fitEq true x o i L) = true) := fun hf i hi => by
        by_cases h : i = k
        · subst h; exact HA.out.trans hf
        · exact HK.out i (by omega)
      have HF : Hid ((!decide (q1 = q2) && !decide (tb x k q1 = tb x L q2)) = false → fitL true x o L = false) := fun h => allN_no k hlt (HA.out.trans h)
      clear hsq hovr e1 e2 n1 n2
      by_cases h0 : q1 = q2
      · have HV : Hid (fitL true x o L = false) := HF.out (by rw [decide_eq_true h0]; rfl)
        subst h0
        go_wp2_with fail
        go_quiet (fail)
        go_wp2_with fail
        go_ret
        exact ⟨ret_bool HV.out.symm, hd.more _⟩
      · have b0 : ((q1 : Int) == q2) = false := by rw [beq_eq_false_iff_ne]; omega
        generalize tb x k q1 = z1 at *
        generalize tb x L q2 = z2 at *
        by_cases h : z1 = z2
        · have b1 : (z1 == z2) = true := by simp [h]
          have HV : Hid (fitL true x o L = false) := HF.out (by rw [decide_eq_true h]; simp)
          clear h h0
          go_wp2_with fail
          go_quiet (fail)
          go_wp2_with fail
          go_quiet (fail)
          go_wp2_with fail
          
          
          go_ret
          exact ⟨ret_bool HV.out.symm, (Drw.trans (hd.more _) ((Drw.refl _).more _))⟩
        · have b1 : (z1 == z2) = false := by simp [h]
          have HV := Lib.hid (HN.out (by rw [decide_eq_false h, decide_eq_false h0]; rfl))
          clear h h0
          go_wp2_with fail
          go_quiet (fail)
          go_wp2_with fail
          go_quiet (fail)
          go_wp2_with fail
          go_quiet (fail)
          go_wp2_with fail
          go_roundw
          case rel => exact ⟨k + 1, by omega, by go_num, HV, hd.more _⟩
          case measure => first | (simp [intOf]; done) | (simp [intOf]; omega)
    · have HV : Hid (fitL true x o L = true) := allN_yes fun i hi => HK.out i (by omega)
      go_wp2_with fail
      go_ret
      exact ⟨ret_bool HV.out.symm, hd⟩
set_option maxRecDepth 100000 in
set_option maxHeartbeats 1000000 in
theorem fitsF_any (x : List (List Int)) (o : List Int) (ov : Value) (L g : Nat) (w : World) {G O C : Nat} {H F P : Nat → Nat} (hs : Hid (sqB x = true)) (hL : o.length = L + 1) (hLn : L < x.length) (ho : Elems x.length o) (hx : SqAt G O H F P x w) (hov : RI w ov o) (hg : w.cell? ⟨g, 0, none⟩ = some (.slice (some ⟨G, O, none⟩) x.length C)) :
    Calls Try.prog 96 #[.pointer (some ⟨g, 0, none⟩), ov, .bool false] w fun e w' => e = .returned (.bool (fitL false x o L)) ∧ Drw w w' := by
  have hgl : g < w.heap.size := World.block_lt_of_cell? w _ hg
  have hn := (sqB_iff.1 hs.out).1.2
  have HX := Lib.hid hx
  have HOV := Lib.hid hov
  have HO := Lib.hid ho
  have HC : Hid (∀ wr, Drw w wr → wr.cell? ⟨g, 0, none⟩ = some (.slice (some ⟨G, O, none⟩) x.length C)) := fun wr h => by rw [h.below.cell (p := ⟨g, 0, none⟩) hgl]; exact hg
  obtain ⟨ga, goff, gc, rfl, _, _⟩ := RK.get hov 0 (by omega)
  have HL := Lib.hid hL
  rw [hL]
  clear hx hov ho hL
  go_enter Try.func96, Try.ntmps96
  go_wp2_with fail
  go_loopw [8] (fun iv wr => ∃ k : Nat, k ≤ L ∧ iv = .int .i64 k ∧ Hid (∀ i, i < k → (!decide (o.getD i 0 = o.getD L 0) && !fitEq false x o i L) = true) ∧ Drw w wr) (fun iv _ => L - (intOf iv).toNat)
  case atStart => exact ⟨0, Nat.zero_le _, rfl, (fun i hi => by omega), Drw.refl _⟩
  case round =>
    obtain ⟨k, hk, rfl, HK, hd⟩ := hrel
    clear hg
    have hg := HC.out wr hd
    by_cases hlt : k < L
    · have hsq := HX.out.later hd.below
      have hovr := HOV.out.later hd.below
      obtain ⟨q1, hq1, e1, n1⟩ := HO.out.nt k (by have := HL.out; omega)
      obtain ⟨q2, hq2, e2, n2⟩ := HO.out.nt L (by have := HL.out; omega)
      have hkx : k < x.length := by omega
      have r1 := hsq.row k hkx
      have r2 := hsq.row L hLn
      obtain ⟨g1, o1, f1, _, d1⟩ := hovr.at k (by have := HL.out; omega)
      obtain ⟨g2, o2, f2, _, d2⟩ := hovr.at L (by have := HL.out; omega)
      simp only [Option.some.injEq, Addr.mk.injEq, and_true] at f1 f2
      obtain ⟨rfl, rfl⟩ := f1
      obtain ⟨rfl, rfl⟩ := f2
      rw [e1] at d1
      rw [e2] at d2
      have c1 := hsq.cell k q2 hkx hq2
      have c2 := hsq.cell L q1 hLn hq1
      have HA : Hid ((!decide (o.getD k 0 = o.getD L 0) && !fitEq false x o k L) = (!decide (q1 = q2) && !decide (tb x k q2 = tb x L q1))) := by
        unfold Hid fitEq; rw [n1, n2, e1, e2, show decide ((q1 : Int) = (q2 : Int)) = decide (q1 = q2) from decide_eq_decide.2 (by omega)]; rfl
      have HN : Hid ((!decide (q1 = q2) && !decide (tb x k q2 = tb x L q1)) = true → ∀ i, i < k + 1 → (!decide (o.getD i 0 = o.getD L 0) && !fitEq false x o i L) = true) := fun hf i hi => by
        by_cases h : i = k
        · subst h; exact HA.out.trans hf
        · exact HK.out i (by omega)
      have HF : Hid ((!decide (q1 = q2) && !decide (tb x k q2 = tb x L q1)) = false → fitL false x o L = false) := fun h => allN_no k hlt (HA.out.trans h)
      clear hsq hovr e1 e2 n1 n2
      by_cases h0 : q1 = q2
      · have HV : Hid (fitL false x o L = false) := HF.out (by rw [decide_eq_true h0]; rfl)
        subst h0
        go_wp2_with fail
        go_quiet (fail)
        go_wp2_with fail
        go_ret
        exact ⟨ret_bool HV.out.symm, hd.more _⟩
      · have b0 : ((q1 : Int) == q2) = false := by rw [beq_eq_false_iff_ne]; omega
        generalize tb x k q2 = z1 at *
        generalize tb x L q1 = z2 at *
        by_cases h : z1 = z2
        · have b1 : (z1 == z2) = true := by simp [h]
          have HV : Hid (fitL false x o L = false) := HF.out (by rw [decide_eq_true h]; simp)
          clear h h0
          go_wp2_with fail
          go_quiet (fail)
          go_wp2_with fail
          go_quiet (fail)
          go_wp2_with fail
          go_quiet (fail)
          go_wp2_with fail
          go_ret
          exact ⟨ret_bool HV.out.symm, (Drw.trans (hd.more _) (((Drw.refl _).more _).more _))⟩
        · have b1 : (z1 == z2) = false := by simp [h]
          have HV := Lib.hid (HN.out (by rw [decide_eq_false h, decide_eq_false h0]; rfl))
          clear h h0
          go_wp2_with fail
          go_quiet (fail)
          go_wp2_with fail
          go_quiet (fail)
          go_wp2_with fail
          go_quiet (fail)
          go_wp2_with fail
          go_roundw
          case rel => exact ⟨k + 1, by omega, by go_num, HV, hd.more _⟩
          case measure => first | (simp [intOf]; done) | (simp [intOf]; omega)
    · have HV : Hid (fitL false x o L = true) := allN_yes fun i hi => HK.out i (by omega)
      go_wp2_with fail
      go_ret
      exact ⟨ret_bool HV.out.symm, hd⟩
end Go.Proofs.Ytghmpaegmicheaa
