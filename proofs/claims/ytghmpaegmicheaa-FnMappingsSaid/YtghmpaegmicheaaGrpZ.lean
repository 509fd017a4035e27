/- Centres of groups: the program's and the reference's. -/
import Derived.Test.YtghmpaegmicheaaGrpC
namespace Go.Proofs.Ytghmpaegmicheaa
open Go.RowKit


def comAt (x : List (List Int)) (a b : Nat) : Bool := decide (tb x a b = tb x b a)
def cenB (x : List (List Int)) (a : Nat) : Bool := allN x.length (comAt x a)
def cenP (x : List (List Int)) (k : Nat) : List Int := ((List.range k).filter (cenB x)).map fun (a : Nat) => (a : Int)
def cenL (x : List (List Int)) : List Int := cenP x x.length
theorem cenP_zero (x : List (List Int)) : cenP x 0 = [] := rfl
theorem cenP_yes {x : List (List Int)} {k : Nat} (h : cenB x k = true) : cenP x (k + 1) = cenP x k ++ [(k : Int)] := by
  unfold cenP; rw [List.range_succ, List.filter_append, List.map_append]; simp [h]
theorem cenP_no {x : List (List Int)} {k : Nat} (h : cenB x k = false) : cenP x (k + 1) = cenP x k := by
  unfold cenP; rw [List.range_succ, List.filter_append, List.map_append]; simp [h]
theorem cenP_len (x : List (List Int)) (k : Nat) : (cenP x k).length ≤ k := by
  unfold cenP
  rw [List.length_map]
  have := List.length_filter_le (cenB x) (List.range k)
  simpa using this
def cenS (x : List (List Int)) : List Int := if grpB x then cenL x else []

set_option maxHeartbeats 1000000 in
theorem commutes_any (x : List (List Int)) (a g : Nat) (w : World) {G O C : Nat} {H F P : Nat → Nat} (hs : Hid (sqB x = true)) (ha : a < x.length) (hx : SqAt G O H F P x w) (hg : w.cell? ⟨g, 0, none⟩ = some (.slice (some ⟨G, O, none⟩) x.length C)) :
    Calls Try.prog 77 #[.pointer (some ⟨g, 0, none⟩), .int .i64 a] w fun e w' => e = .returned (.bool (cenB x a)) ∧ Drw w w' := by
  have hgl : g < w.heap.size := World.block_lt_of_cell? w _ hg
  have hn := (sqB_iff.1 hs.out).1.2
  have HX := Lib.hid hx
  have HC : Hid (∀ wr, Drw w wr → wr.cell? ⟨g, 0, none⟩ = some (.slice (some ⟨G, O, none⟩) x.length C)) := fun wr h => by rw [h.below.cell (p := ⟨g, 0, none⟩) hgl]; exact hg
  clear hx
  go_enter Try.func77, Try.ntmps77
  go_wp2_with fail
  go_loopw [11] (fun iv wr => ∃ k : Nat, k ≤ x.length ∧ iv = .int .i64 k ∧ Hid (∀ i, i < k → comAt x a i = true) ∧ Drw w wr) (fun iv _ => x.length - (intOf iv).toNat)
  case atStart => exact ⟨0, Nat.zero_le _, rfl, (fun i hi => by omega), Drw.refl _⟩
  case round =>
    obtain ⟨k, hk, rfl, HK, hd⟩ := hrel
    clear hg
    have hg := HC.out wr hd
    by_cases hlt : k < x.length
    · have hsq := HX.out.later hd.below
      have r1 := hsq.row a ha
      have r2 := hsq.row k hlt
      have c1 := hsq.cell a k ha hlt
      have c2 := hsq.cell k a hlt ha
      have HA : Hid (comAt x a k = decide (tb x a k = tb x k a)) := rfl
      have HN : Hid (comAt x a k = true → ∀ i, i < k + 1 → comAt x a i = true) := fun hf i hi => by
        by_cases h : i = k
        · subst h; exact hf
        · exact HK.out i (by omega)
      have HF : Hid (comAt x a k = false → cenB x a = false) := fun h => allN_no k hlt h
      clear hsq
      generalize tb x a k = z1 at *
      generalize tb x k a = z2 at *
      by_cases h : z1 = z2
      · have b1 : (z1 != z2) = false := by simp [h]
        have HV : Hid (∀ i, i < k + 1 → comAt x a i = true) := HN.out (by rw [HA.out, decide_eq_true h])
        clear h
        go_wp2_with fail
        go_quiet (fail)
        go_wp2_with fail
        go_roundw
        case rel => exact ⟨k + 1, by omega, by go_num, HV, hd.more _⟩
        case measure => first | (simp [intOf]; done) | (simp [intOf]; omega)
      · have b1 : (z1 != z2) = true := by simp [h]
        have HV : Hid (cenB x a = false) := HF.out (by rw [HA.out, decide_eq_false h])
        clear h
        go_wp2_with fail
        go_quiet (fail)
        go_wp2_with fail
        go_ret
        exact ⟨ret_bool HV.out.symm, hd.more _⟩
    · have HV : Hid (cenB x a = true) := allN_yes fun i hi => HK.out i (by omega)
      go_wp2_with fail
      go_ret
      exact ⟨ret_bool HV.out.symm, hd⟩

def CenPost (x : List (List Int)) (b : Bool) (w : World) (e : Ending) (w' : World) : Prop := ∃ v, e = .returned (.tuple #[v, .bool b]) ∧ OI w.heap.size w' v (cenS x) ∧ Below w.heap.size w w'
theorem CenPost.yes {x : List (List Int)} {w w' : World} {v : Value} (hg : grpB x = true) (ho : OI w.heap.size w' v (cenL x)) (hb : Below w.heap.size w w') : CenPost x true w (.returned (.tuple #[v, .bool true])) w' :=
  ⟨v, rfl, by unfold cenS; rw [if_pos hg]; exact ho, hb⟩
theorem CenPost.no {x : List (List Int)} {w w' : World} (hg : grpB x = false) (hb : Below w.heap.size w w') : CenPost x false w (.returned (.tuple #[.slice none 0 0, .bool false])) w' :=
  ⟨_, rfl, by unfold cenS; rw [hg]; exact OK.nil _ _ _ _, hb⟩
set_option maxHeartbeats 1000000 in
theorem implCen_any (v : Value) (x : List (List Int)) (w : World) (hx : RT w v x) (hm : x.length ≤ 1048576) (hr : Small x) :
    Calls Try.prog 39 #[.agg #[v]] w (CenPost x (grpB x) w) := by
  by_cases hg : grpB x = true
  · rw [hg]
    have GP := Lib.hid (Gp.of hg)
    have hn := (Gp.of hg).n
    have hs : Hid (sqB x = true) := (Gp.of hg).sq
    obtain ⟨G, O, C, H, F, P, rfl, hat⟩ := hx.sq (Gp.of hg).sq
    have HSQ := Lib.hid hat
    have HG := Lib.hid hg
    have hb : Below w.heap.size w (w.alloc (.cells #[.slice (some ⟨G, O, none⟩) x.length C] 29)) := (Below.refl _ _).alloc (Nat.le_refl _) _
    have c0 : (w.alloc (.cells #[.slice (some ⟨G, O, none⟩) x.length C] 29)).cell? ⟨w.heap.size, 0, none⟩ = some (.slice (some ⟨G, O, none⟩) x.length C) := World.cell?_alloc_at _ _ _ _ rfl
    have hlt : w.heap.size < (w.alloc (.cells #[.slice (some ⟨G, O, none⟩) x.length C] 29)).heap.size := by simp
    replace hx := hx.later hb
    clear hat hg
    go_enter Try.func39, Try.ntmps39
    go_wp2_with fail
    generalize w.alloc (.cells #[.slice (some ⟨G, O, none⟩) x.length C] 29) = w0 at *
    refine (implVG_is _ x _ true HG hx hm hr).mono ?_
    rintro e w1 ⟨rfl, hb1⟩
    replace c0 := (hb1.cell (p := ⟨w.heap.size, 0, none⟩) hlt).trans c0
    replace hx := hx.later hb1
    replace hb := hb.trans (hb1.mono (Nat.le_of_lt hlt))
    replace hlt := Nat.lt_of_lt_of_le hlt hb1.size
    clear hb1
    have HC0 : Hid (∀ wr, Below w1.heap.size w1 wr → wr.cell? ⟨w.heap.size, 0, none⟩ = some (.slice (some ⟨G, O, none⟩) x.length C)) := fun wr h => (h.cell (p := ⟨w.heap.size, 0, none⟩) hlt).trans c0
    have HB := Lib.hid hb
    have hlt' := Nat.le_of_lt hlt
    go_wp2_with fail
    have hown : OI w1.heap.size (w1.alloc (.cells #[] 2)) (.slice (some ⟨w1.heap.size, 0, none⟩) 0 0) [] := OK.made _ _ _ (Nat.le_refl _)
    have hb1 : Below w1.heap.size w1 (w1.alloc (.cells #[] 2)) := (Below.refl _ _).alloc (Nat.le_refl _) _
    generalize w1.alloc (.cells #[] 2) = w2 at *
    generalize Value.slice (some ⟨w1.heap.size, 0, none⟩) 0 0 = v0 at *
    clear c0 hx hb hlt
    go_loopw [4, 13] (fun ov iv wr => ∃ k : Nat, k ≤ x.length ∧ iv = .int .i64 k ∧ OI w1.heap.size wr ov (cenP x k) ∧ Below w1.heap.size w1 wr) (fun _ iv _ => x.length - (intOf iv).toNat)
    case atStart => exact ⟨0, Nat.zero_le _, rfl, hown, hb1⟩
    case round =>
      obtain ⟨k, hk, rfl, ho, hw⟩ := hrel
      clear hown hb1
      have hsz := hw.size
      by_cases hkl : k < x.length
      · have hc := commutes_any x k w.heap.size wr hs hkl (HSQ.out.later (HB.out.trans (hw.mono hlt'))) (HC0.out wr hw)
        have HCM := Lib.hid hc
        clear hc
        cases hcb : cenB x k
        · rw [hcb] at HCM
          have hp := cenP_no hcb
          rw [← hp] at ho
          clear hcb hp
          go_wp2_with fail
          refine (HCM.out).mono ?_
          rintro e w2 ⟨rfl, hd⟩
          have ho2 := ho.later hd.below
          have hw2 := hw.trans (hd.below.mono hsz)
          go_wp2_with fail
          go_roundw
          case rel => exact ⟨k + 1, by omega, by go_num, ho2, hw2⟩
          case measure => first | (simp [intOf]; done) | (simp [intOf]; omega)
        · rw [hcb] at HCM
          have HP := Lib.hid (cenP_yes hcb)
          have hl := cenP_len x k
          clear hcb
          go_wp2_with fail
          refine (HCM.out).mono ?_
          rintro e w2 ⟨rfl, hd⟩
          have ho2 := ho.later hd.below
          have hw2 := hw.trans (hd.below.mono hsz)
          have hsz2 := hw2.size
          have hl2 : (cenP x k).length ≤ 1099511627776 := by omega
          clear ho hw hd
          go_wp2_with (at_builtin; refine wpl_app_i64 rfl _ _ rfl w1.heap.size _ _ rfl (ho2.alloc _) _ _ _ rfl (World.cell?_alloc_at _ _ _ _ rfl) hl2 (by simp; omega) ?_; intro v' w3 ho3 hgr)
          have hw3 : Below w1.heap.size w1 w3 := own_below (hw2.alloc hsz2 _) (ho2.alloc _) hgr (by simp; omega)
          go_roundw
          case rel => exact ⟨k + 1, by omega, by go_num, by rw [HP.out]; exact ho3, hw3⟩
          case measure => first | (simp [intOf]; done) | (simp [intOf]; omega)
      · obtain rfl : k = x.length := by omega
        go_wp2_with fail
        go_ret2
        exact CenPost.yes HG.out (ho.mono hlt') (HB.out.trans (hw.mono hlt'))
  · simp only [Bool.not_eq_true] at hg
    rw [hg]
    have HG := Lib.hid hg
    clear hg
    obtain ⟨a, c, rfl⟩ := hx.slice
    have hb : Below w.heap.size w (w.alloc (.cells #[.slice a x.length c] 29)) := (Below.refl _ _).alloc (Nat.le_refl _) _
    have c0 : (w.alloc (.cells #[.slice a x.length c] 29)).cell? ⟨w.heap.size, 0, none⟩ = some (.slice a x.length c) := World.cell?_alloc_at _ _ _ _ rfl
    have hlt : w.heap.size < (w.alloc (.cells #[.slice a x.length c] 29)).heap.size := by simp
    replace hx := hx.later hb
    go_enter Try.func39, Try.ntmps39
    go_wp2_with fail
    generalize w.alloc (.cells #[.slice a x.length c] 29) = w0 at *
    refine (implVG_is _ x _ false HG hx hm hr).mono ?_
    rintro e w1 ⟨rfl, hb1⟩
    replace c0 := (hb1.cell (p := ⟨w.heap.size, 0, none⟩) hlt).trans c0
    replace hx := hx.later hb1
    replace hb := hb.trans (hb1.mono (Nat.le_of_lt hlt))
    replace hlt := Nat.lt_of_lt_of_le hlt hb1.size
    clear hb1
    go_wp2_with fail
    go_ret2
    exact CenPost.no HG.out hb
def CenPost1 (x : List (List Int)) (w : World) (e : Ending) (w' : World) : Prop := ∃ v, e = .returned v ∧ OI w.heap.size w' v (cenL x) ∧ Below w.heap.size w w'
end Go.Proofs.Ytghmpaegmicheaa
