/- Drawn texts and lexicons: l07DrawText, l07DrawLexicon, B10Lexicon. -/
import Derived.Test.YtdlagajnefkklaaDrT
import Derived.Test.YtdlagajnefkklaaLexLaw
import Derived.Test.YtdlagajnefkklaaGap
namespace Go.Proofs.Ytdlagajnefkklaa
open Go.RowKit

def DtPost (p m : Nat) (w : World) (e : Ending) (w' : World) : Prop := ∃ z, e = .returned (.string z) ∧ z.size ≤ 100 ∧ Src p (m + 40) w' ∧ Chg [p] w w'
theorem DtPost.mk {p m : Nat} {w w' : World} {z : ByteArray} (h1 : z.size ≤ 100) (h2 : Src p (m + 40) w') (h3 : Chg [p] w w') : DtPost p m w (.returned (.string z)) w' := ⟨z, rfl, h1, h2, h3⟩
set_option maxHeartbeats 4000000 in
set_option maxRecDepth 100000 in
theorem drawText_any (p m : Nat) (w : World) (h : Src p m w) (hm : m ≤ 1000000) :
    Calls Try.prog 65 #[.pointer (some ⟨p, 0, none⟩)] w (DtPost p m w) := by
  have hpl := h.lt
  go_enter Try.func65, Try.ntmps65
  go_wp2_with fail
  refine (one_any p m 3 _ h (by omega) (by omega)).mono ?_
  rintro e w1 ⟨b, rfl, hs, hch⟩
  have hz1 := hch.size
  clear h
  cases b
  case true =>
    go_wp2_with fail
    refine (text_any p _ w1.heap.size 13 13 _ (hs.later ((Below.refl _ _).alloc (Nat.le_refl _) _)) (by omega) (by omega) (by omega) (fun k hk => ?lits)).mono ?_
    case lits =>
      have : k = 0 ∨ k = 1 ∨ k = 2 ∨ k = 3 ∨ k = 4 ∨ k = 5 ∨ k = 6 ∨ k = 7 ∨ k = 8 ∨ k = 9 ∨ k = 10 ∨ k = 11 ∨ k = 12 := by omega
      rcases this with rfl | rfl | rfl | rfl | rfl | rfl | rfl | rfl | rfl | rfl | rfl | rfl | rfl <;> exact ⟨_, World.cell?_alloc_at _ _ _ _ rfl⟩
    rintro e w2 ⟨k, hk, ⟨z, hzc, rfl⟩, hs2, hc2⟩
    have hzz : z.size ≤ 100 := by
      have : k = 0 ∨ k = 1 ∨ k = 2 ∨ k = 3 ∨ k = 4 ∨ k = 5 ∨ k = 6 ∨ k = 7 ∨ k = 8 ∨ k = 9 ∨ k = 10 ∨ k = 11 ∨ k = 12 := by omega
      rcases this with rfl | rfl | rfl | rfl | rfl | rfl | rfl | rfl | rfl | rfl | rfl | rfl | rfl <;> (rw [World.cell?_alloc_at _ _ _ _ rfl] at hzc; simp at hzc; subst hzc; decide)
    have hch2 : Chg [p] w w2 := (chg_below hch hz1 ((Below.refl w1.heap.size w1).alloc (Nat.le_refl _) _)).trans hc2
    clear hzc
    go_wp2_with fail
    go_ret
    exact .mk hzz (hs2.mono (by omega)) hch2
  case false =>
    go_wp2_with fail
    have hb1 : Below w1.heap.size w1 (w1.alloc (.cells #[] 5)) := (Below.refl _ _).alloc (Nat.le_refl _) _
    have ho : OB w1.heap.size (w1.alloc (.cells #[] 5)) (.slice (some ⟨w1.heap.size, 0, none⟩) 0 0) [] := OK.made _ _ _ (Nat.le_refl _)
    replace hs := hs.later hb1
    replace hch := chg_below hch hz1 hb1
    have hzb := hb1.size
    clear hb1
    have hpS : p < w1.heap.size := by omega
    generalize w1.alloc (.cells #[] 5) = w2 at *
    generalize Value.slice (some ⟨w1.heap.size, 0, none⟩) 0 0 = v0 at *
    generalize w1.heap.size = S at *
    refine (pick_any p _ 7 _ hs (by omega) (by omega)).mono ?_
    rintro e w3 ⟨z, rfl, hz, hs3, hc⟩
    obtain ⟨n, rfl⟩ := Int.eq_ofNat_of_zero_le hz.1
    replace ho := ho.chgP hc hpS
    have hz3 := hc.size
    replace hch := hch.trans hc
    clear hs hc
    have hn7 : n < 7 := by omega
    clear hz
    go_wp2_with fail
    refine (one_any p _ 24 _ hs3 (by omega) (by omega)).mono ?_
    rintro e w4 ⟨b, rfl, hs, hc⟩
    replace ho := ho.chgP hc hpS
    have hz4 := hc.size
    replace hch := hch.trans hc
    clear hs3 hc
    cases b
    case false =>
      have hn : n ≤ 21 := by omega
      clear hn7
      go_wp2_with fail
      go_loopw [3, 4] (fun ov nv wr => ∃ (k : Nat) (xs : List Int), nv = .int .i64 k ∧ OB S wr ov xs ∧ xs.length + k ≤ 21 ∧ Src p (m + 10 + (21 - k)) wr ∧ S ≤ wr.heap.size ∧ Chg [p] w wr) (fun _ nv _ => (intOf nv).toNat)
      case atStart => exact ⟨n, [], rfl, ho, by simp; omega, hs.mono (by omega), by omega, hch⟩
      case round =>
        clear hs ho hch
        obtain ⟨k, xs, rfl, ho, hlen, hs, hzr, hch⟩ := hrel
        by_cases hk : 0 < k
        · go_wp2_with fail
          refine (pick_any p _ 4 _ hs (by omega) (by omega)).mono ?_
          rintro e w8 ⟨z, rfl, hz, hs4, hc⟩
          replace ho := ho.chgP hc hpS
          have hz8 := hc.size
          replace hch := hch.trans hc
          clear hs hc
          have hw8 : IntKind.u8.wrap (97 + z) = 97 + z := by rw [IntKind.wrap_u8]; omega
          go_wp2_with (at_builtin; refine wpl_app_u8 rfl _ _ rfl S _ _ rfl (ho.alloc _) _ _ _ rfl (World.cell?_alloc_at _ _ _ _ rfl) (by omega) (by simp; omega) ?_; intro v' w9 ho5 hgr)
          have hbs : Below S w8 w9 := own_below ((Below.refl S w8).alloc (by omega) _) (ho.alloc _) hgr (by simp; omega)
          have hs5 : Src p (m + 10 + (21 - (k - 1))) w9 := (hs4.below hbs hpS).mono (by omega)
          have hz5 := hbs.size
          go_roundw
          case rel => exact ⟨k - 1, _, by rw [show ((k - 1 : Nat) : Int) = (k : Int) - 1 by omega], ho5, by simp; omega, hs5, by omega, chg_below hch (by omega) hbs⟩
          case measure => first | (simp [intOf]; done) | (simp [intOf]; omega)
        · by_cases hx0 : xs.length = 0
          · have hx : xs = [] := List.eq_nil_of_length_eq_zero hx0
            subst hx
            obtain ⟨oa, oc, rfl⟩ := ho.slice
            have hst := ho.str
            have HS : Hid ((strOfNums ([] : List Int)).size ≤ 100) := by unfold Hid; rw [str_size]; simp
            generalize strOfNums ([] : List Int) = zz at *
            simp only [List.length_nil] at hst
            go_wp2_with fail
            go_ret
            exact .mk HS.out (hs.mono (by omega)) hch
          · obtain ⟨oa, oc, rfl⟩ := ho.slice
            have hx1 : (0 : Int) < (xs.length : Int) := by omega
            go_wp2_with fail
            refine (one_any p _ 24 _ hs (by omega) (by omega)).mono ?_
            rintro e w8 ⟨b, rfl, hs4, hc⟩
            replace ho := ho.chgP hc hpS
            have hz8 := hc.size
            replace hch := hch.trans hc
            clear hs hc
            cases b
            · have hst := ho.str
              have HS : Hid ((strOfNums xs).size ≤ 100) := by unfold Hid; rw [str_size]; omega
              go_wp2_with fail
              go_ret
              exact .mk HS.out (hs4.mono (by omega)) hch
            · obtain ⟨og, rfl, hog, hoc⟩ := ho.at 0 (by omega)
              have hsd := ho.stored 0 65
              have hst := hsd.1.str
              have hfz := ho.frozen 0
              have HS : Hid ((strOfNums (xs.set 0 65)).size ≤ 100) := by unfold Hid; rw [str_size, List.length_set]; omega
              have hbs : Below S w8 (w8.setCell ⟨og, 0, none⟩ (.int .u8 65)) := (Below.refl S w8).setCell hog _
              generalize xs.getD 0 0 = z0 at *
              clear hsd
              go_wp2_with fail
              go_ret
              exact .mk HS.out ((hs4.below hbs hpS).mono (by omega)) (chg_below hch (by omega) hbs)
    case true =>
      clear hn7
      go_wp2_with fail
      have hb1 : Below w4.heap.size w4 (w4.alloc (.cells #[.int .i64 20, .int .i64 21] 2)) := (Below.refl _ _).alloc (Nat.le_refl _) _
      refine (among_any p _ w4.heap.size 2 2 _ (hs.later hb1) (by omega) (by omega) (by omega) (fun k hk => ?lits)).mono ?_
      case lits =>
        have : k = 0 ∨ k = 1 := by omega
        rcases this with rfl | rfl <;> exact ⟨_, World.cell?_alloc_at _ _ _ _ rfl⟩
      rintro e w5 ⟨k, hk, ⟨z, hzc, rfl⟩, hs2, hc2⟩
      have hzz : 20 ≤ z ∧ z ≤ 21 := by
        have : k = 0 ∨ k = 1 := by omega
        rcases this with rfl | rfl <;> (rw [World.cell?_alloc_at _ _ _ _ rfl] at hzc; simp at hzc; omega)
      replace ho := (ho.later hb1).chgP hc2 hpS
      have hz5 := hc2.size
      have hz6 := hb1.size
      replace hch := (chg_below hch (by omega) hb1).trans hc2
      replace hs := hs2
      clear hs2 hb1 hc2 hzc hk
      obtain ⟨n, rfl⟩ := Int.eq_ofNat_of_zero_le (show 0 ≤ z by omega)
      have hn : n ≤ 21 := by omega
      clear hzz
      have hz4 : S ≤ w5.heap.size := by omega
      go_wp2_with fail
      go_loopw [3, 4] (fun ov nv wr => ∃ (k : Nat) (xs : List Int), nv = .int .i64 k ∧ OB S wr ov xs ∧ xs.length + k ≤ 21 ∧ Src p (m + 10 + (21 - k)) wr ∧ S ≤ wr.heap.size ∧ Chg [p] w wr) (fun _ nv _ => (intOf nv).toNat)
      case atStart => exact ⟨n, [], rfl, ho, by simp; omega, hs.mono (by omega), by omega, hch⟩
      case round =>
        clear hs ho hch
        obtain ⟨k, xs, rfl, ho, hlen, hs, hzr, hch⟩ := hrel
        by_cases hk : 0 < k
        · go_wp2_with fail
          refine (pick_any p _ 4 _ hs (by omega) (by omega)).mono ?_
          rintro e w8 ⟨z, rfl, hz, hs4, hc⟩
          replace ho := ho.chgP hc hpS
          have hz8 := hc.size
          replace hch := hch.trans hc
          clear hs hc
          have hw8 : IntKind.u8.wrap (97 + z) = 97 + z := by rw [IntKind.wrap_u8]; omega
          go_wp2_with (at_builtin; refine wpl_app_u8 rfl _ _ rfl S _ _ rfl (ho.alloc _) _ _ _ rfl (World.cell?_alloc_at _ _ _ _ rfl) (by omega) (by simp; omega) ?_; intro v' w9 ho5 hgr)
          have hbs : Below S w8 w9 := own_below ((Below.refl S w8).alloc (by omega) _) (ho.alloc _) hgr (by simp; omega)
          have hs5 : Src p (m + 10 + (21 - (k - 1))) w9 := (hs4.below hbs hpS).mono (by omega)
          have hz5 := hbs.size
          go_roundw
          case rel => exact ⟨k - 1, _, by rw [show ((k - 1 : Nat) : Int) = (k : Int) - 1 by omega], ho5, by simp; omega, hs5, by omega, chg_below hch (by omega) hbs⟩
          case measure => first | (simp [intOf]; done) | (simp [intOf]; omega)
        · by_cases hx0 : xs.length = 0
          · have hx : xs = [] := List.eq_nil_of_length_eq_zero hx0
            subst hx
            obtain ⟨oa, oc, rfl⟩ := ho.slice
            have hst := ho.str
            have HS : Hid ((strOfNums ([] : List Int)).size ≤ 100) := by unfold Hid; rw [str_size]; simp
            generalize strOfNums ([] : List Int) = zz at *
            simp only [List.length_nil] at hst
            go_wp2_with fail
            go_ret
            exact .mk HS.out (hs.mono (by omega)) hch
          · obtain ⟨oa, oc, rfl⟩ := ho.slice
            have hx1 : (0 : Int) < (xs.length : Int) := by omega
            go_wp2_with fail
            refine (one_any p _ 24 _ hs (by omega) (by omega)).mono ?_
            rintro e w8 ⟨b, rfl, hs4, hc⟩
            replace ho := ho.chgP hc hpS
            have hz8 := hc.size
            replace hch := hch.trans hc
            clear hs hc
            cases b
            · have hst := ho.str
              have HS : Hid ((strOfNums xs).size ≤ 100) := by unfold Hid; rw [str_size]; omega
              go_wp2_with fail
              go_ret
              exact .mk HS.out (hs4.mono (by omega)) hch
            · obtain ⟨og, rfl, hog, hoc⟩ := ho.at 0 (by omega)
              have hsd := ho.stored 0 65
              have hst := hsd.1.str
              have hfz := ho.frozen 0
              have HS : Hid ((strOfNums (xs.set 0 65)).size ≤ 100) := by unfold Hid; rw [str_size, List.length_set]; omega
              have hbs : Below S w8 (w8.setCell ⟨og, 0, none⟩ (.int .u8 65)) := (Below.refl S w8).setCell hog _
              generalize xs.getD 0 0 = z0 at *
              clear hsd
              go_wp2_with fail
              go_ret
              exact .mk HS.out ((hs4.below hbs hpS).mono (by omega)) (chg_below hch (by omega) hbs)
theorem OS.chgP {B p : Nat} {w w' : World} {v : Value} {l : List ByteArray} (h : OS B w v l) (hc : Chg [p] w w') (hp : p < B) : OS B w' v l :=
  OS.chg h hc fun b hb hm => by
    have := OS.vb h b hb
    simp at hm
    omega
def SmS (l : List ByteArray) : Prop := ∀ k, k < l.length → (sAt l k).size ≤ 100
theorem SmS.snoc {l : List ByteArray} {z : ByteArray} (h : SmS l) (hz : z.size ≤ 100) : SmS (l ++ [z]) := fun k hk => by
  by_cases e : k < l.length
  · have := h k e
    rwa [show sAt (l ++ [z]) k = sAt l k by unfold sAt; rw [List.getD_eq_getElem?_getD, List.getElem?_append_left e, ← List.getD_eq_getElem?_getD]]
  · have e2 : k = l.length := by simp at hk; omega
    subst e2
    rw [show sAt (l ++ [z]) l.length = z by unfold sAt; simp]
    exact hz
def DlPost (p m : Nat) (w : World) (e : Ending) (w' : World) : Prop := ∃ v l, e = .returned v ∧ OS w.heap.size w' v l ∧ l.length ≤ 7 ∧ SmS l ∧ Src p (m + 300) w' ∧ Chg [p] w w'
set_option maxHeartbeats 4000000 in
set_option maxRecDepth 100000 in
theorem drawLex_any (p : Nat) (w : World) (h : Src p 0 w) :
    Calls Try.prog 49 #[.pointer (some ⟨p, 0, none⟩)] w (DlPost p 0 w) := by
  have hpl := h.lt
  go_enter Try.func49, Try.ntmps49
  go_wp2_with fail
  have hb1 : Below w.heap.size w (w.alloc (.cells #[] 9)) := (Below.refl _ _).alloc (Nat.le_refl _) _
  have ho : OS w.heap.size (w.alloc (.cells #[] 9)) (.slice (some ⟨w.heap.size, 0, none⟩) 0 0) [] := OV.made _ _ (Nat.le_refl _)
  have hs := h.later hb1
  have hch : Chg [p] w (w.alloc (.cells #[] 9)) := (Below.chg hb1).mono (by simp)
  have hz1 := hb1.size
  clear hb1 h
  generalize w.alloc (.cells #[] 9) = w1 at *
  generalize Value.slice (some ⟨w.heap.size, 0, none⟩) 0 0 = v0 at *
  refine (pick_any p _ 7 _ hs (by omega) (by omega)).mono ?_
  rintro e w2 ⟨z, rfl, hz, hs2, hc⟩
  obtain ⟨n, rfl⟩ := Int.eq_ofNat_of_zero_le hz.1
  replace ho := ho.chgP hc hpl
  have hz2 := hc.size
  replace hch := hch.trans hc
  have hn7 : n < 7 := by omega
  clear hs hc hz
  go_wp2_with fail
  go_loopw [3, 4] (fun ov nv wr => ∃ (k : Nat) (l : List ByteArray), nv = .int .i64 k ∧ OS w.heap.size wr ov l ∧ l.length + k ≤ 7 ∧ Hid (SmS l) ∧ Src p (1 + 41 * (7 - k)) wr ∧ w.heap.size ≤ wr.heap.size ∧ Chg [p] w wr) (fun _ nv _ => (intOf nv).toNat)
  case atStart => exact ⟨1 + n, [], by go_num, ho, by simp; omega, fun k hk => by simp at hk, hs2.mono (by omega), by omega, hch⟩
  case round =>
    clear hs2 ho hch
    obtain ⟨k, l, rfl, ho, hlen, HS, hs, hzr, hch⟩ := hrel
    by_cases hk : 0 < k
    · go_wp2_with fail
      refine (drawText_any p _ _ hs (by omega)).mono ?_
      rintro e w3 ⟨t, rfl, ht, hs3, hc⟩
      replace ho := ho.chgP hc hpl
      have hz3 := hc.size
      replace hch := hch.trans hc
      clear hs hc
      obtain ⟨oa, oc, rfl⟩ := ho.read.slice
      go_wp2_with fail
      go_loopw [6, 7] (fun bv iv wr => ∃ (j : Nat) (b : Bool), j ≤ l.length ∧ iv = .int .i64 j ∧ bv = .bool b ∧ OS w.heap.size wr (.slice oa l.length oc) l ∧ Src p (1 + 41 * (7 - k) + 40) wr ∧ w.heap.size ≤ wr.heap.size ∧ Chg [p] w wr) (fun _ iv _ => l.length - (intOf iv).toNat)
      case atStart => exact ⟨0, _, Nat.zero_le _, rfl, rfl, ho, hs3, by omega, hch⟩
      case round =>
        clear hs3 ho hch
        obtain ⟨j, b, hj, rfl, rfl, ho, hs, hzr, hch⟩ := hrel
        by_cases hjl : j < l.length
        · obtain ⟨g, off, rfl, hg, hci⟩ := ho.read.at j hjl
          cases b
          · go_wp2_with fail
            go_roundw
            case rel => exact ⟨j + 1, _, by omega, by go_num, rfl, ho, hs, hzr, hch⟩
            case measure => first | (simp [intOf]; done) | (simp [intOf]; omega)
          · by_cases he : sAt l j = t
            · rw [he] at hci
              have e1 := str_eq t
              clear he
              go_wp2_with fail
              go_roundw
              case rel => exact ⟨j + 1, _, by omega, by go_num, rfl, ho, hs, hzr, hch⟩
              case measure => first | (simp [intOf]; done) | (simp [intOf]; omega)
            · have e1 := str_ne he
              generalize sAt l j = s1 at *
              clear he
              go_wp2_with fail
              go_roundw
              case rel => exact ⟨j + 1, _, by omega, by go_num, rfl, ho, hs, hzr, hch⟩
              case measure => first | (simp [intOf]; done) | (simp [intOf]; omega)
        · obtain rfl : j = l.length := by omega
          have hl2 : (ss l).length ≤ 1099511627776 := by rw [ss_length]; omega
          have HSN := Lib.hid (HS.out.snoc ht)
          cases b
          · go_wp2_with fail
            refine (one_any p _ 40 _ hs (by omega) (by omega)).mono ?_
            rintro e w5 ⟨b, rfl, hs5, hc⟩
            replace ho := ho.chgP hc hpl
            have hz5 := hc.size
            replace hch := hch.trans hc
            clear hs hc
            cases b
            · go_wp2_with fail
              go_roundw
              case rel => exact ⟨k - 1, l, by rw [show ((k - 1 : Nat) : Int) = (k : Int) - 1 by omega], ho, by omega, HS, hs5.mono (by omega), by omega, hch⟩
              case measure => first | (simp [intOf]; done) | (simp [intOf]; omega)
            · go_wp2_with (at_builtin; refine wpl_app Try.underlying29 info_str rfl (by omega) rfl _ _ rfl w.heap.size _ (ss l) rfl (OV.alloc ho _) _ _ _ rfl (World.cell?_alloc_at _ _ _ _ rfl) rfl hl2 (by simp; omega) ?_; intro v' w6 ho6 hgr)
              have hbs : Below w.heap.size w5 w6 := own_below ((Below.refl w.heap.size w5).alloc (by omega) _) (OV.alloc ho _) hgr (by simp; omega)
              have hz6 := hbs.size
              have ho7 : OS w.heap.size w6 v' (l ++ [t]) := by unfold OS ss; rw [List.map_append]; exact ho6
              go_roundw
              case rel => exact ⟨k - 1, l ++ [t], by rw [show ((k - 1 : Nat) : Int) = (k : Int) - 1 by omega], ho7, by simp; omega, HSN, (hs5.below hbs hpl).mono (by omega), by omega, chg_below hch (Nat.le_refl _) hbs⟩
              case measure => first | (simp [intOf]; done) | (simp [intOf]; omega)
          · go_wp2_with (at_builtin; refine wpl_app Try.underlying29 info_str rfl (by omega) rfl _ _ rfl w.heap.size _ (ss l) rfl (OV.alloc ho _) _ _ _ rfl (World.cell?_alloc_at _ _ _ _ rfl) rfl hl2 (by simp; omega) ?_; intro v' w6 ho6 hgr)
            have hbs : Below w.heap.size wr w6 := own_below ((Below.refl w.heap.size wr).alloc (by omega) _) (OV.alloc ho _) hgr (by simp; omega)
            have hz6 := hbs.size
            have ho7 : OS w.heap.size w6 v' (l ++ [t]) := by unfold OS ss; rw [List.map_append]; exact ho6
            go_roundw
            case rel => exact ⟨k - 1, l ++ [t], by rw [show ((k - 1 : Nat) : Int) = (k : Int) - 1 by omega], ho7, by simp; omega, HSN, (hs.below hbs hpl).mono (by omega), by omega, chg_below hch (Nat.le_refl _) hbs⟩
            case measure => first | (simp [intOf]; done) | (simp [intOf]; omega)
    · go_wp2_with fail
      go_ret
      exact ⟨_, l, rfl, ho, by omega, HS.out, hs.mono (by omega), hch⟩
def LxPost (w : World) (e : Ending) (w' : World) : Prop := ∃ a l c, e = .returned (.slice a l.length c) ∧ RS w' (.slice a l.length c) l ∧ lexB l = true ∧ Below w.heap.size w w'
theorem LxPost.mk {w w' : World} {v : Value} {l : List ByteArray} (h1 : RS w' v l) (h2 : lexB l = true) (h3 : Below w.heap.size w w') : LxPost w (.returned v) w' := by
  obtain ⟨a, c, rfl⟩ := h1.slice
  exact ⟨a, l, c, rfl, h1, h2, h3⟩
set_option maxHeartbeats 1000000 in
theorem b10Lex_any (v : Value) (cs : List Int) (w : World) (hx : RK .u8 w v cs) (hw : ∀ x ∈ cs, (Lit.int .u8 x).wf = true) (hm : cs.length ≤ 1048576) :
    Calls Try.prog 28 #[v] w (LxPost w) := by
  go_enter Try.func28, Try.ntmps28
  go_wp2_with fail
  refine (from_any v cs _ hx hw hm).mono ?_
  rintro e w1 ⟨rfl, hs, hb⟩
  go_wp2_with fail
  refine (drawLex_any _ _ hs).mono ?_
  rintro e w2 ⟨v, l, rfl, ho, hl7, hsm, hs2, hc⟩
  replace hb := hc.below hb (by simp) hb.size
  have HSM := Lib.hid hsm
  clear hsm
  go_wp2_with fail
  cases hlx : lexB l
  · have HL := Lib.hid hlx
    refine (specLex_is _ l _ false HL ho.read (by omega) (fun k hk => by have := HSM.out k hk; omega)).mono ?_
    rintro e w3 ⟨rfl, hb1⟩
    replace hb := hb.trans (hb1.mono hb.size)
    clear hlx
    have HE : Hid (lexB [⟨#[102, 105, 118, 101]⟩, ⟨#[110, 105, 110, 101]⟩, ⟨#[122, 101, 114, 111]⟩] = true) := by unfold Hid; decide +kernel
    have HO : Hid (RS (w3.alloc (.cells #[.string ⟨#[102, 105, 118, 101]⟩, .string ⟨#[110, 105, 110, 101]⟩, .string ⟨#[122, 101, 114, 111]⟩] 9)) (.slice (some ⟨w3.heap.size, 0, none⟩) 3 3) [⟨#[102, 105, 118, 101]⟩, ⟨#[110, 105, 110, 101]⟩, ⟨#[122, 101, 114, 111]⟩]) :=
      OV.read (OV.lit (B := w3.heap.size) 9 w3 [.string ⟨#[102, 105, 118, 101]⟩, .string ⟨#[110, 105, 110, 101]⟩, .string ⟨#[122, 101, 114, 111]⟩] (Nat.le_refl _) (by simp [maxLen]))
    have hb2 : Below w3.heap.size w3 (w3.alloc (.cells #[.string ⟨#[102, 105, 118, 101]⟩, .string ⟨#[110, 105, 110, 101]⟩, .string ⟨#[122, 101, 114, 111]⟩] 9)) := (Below.refl _ _).alloc (Nat.le_refl _) _
    go_wp2_with fail
    go_ret
    exact .mk HO.out HE.out (hb.trans (hb2.mono hb.size))
  · have HL := Lib.hid hlx
    refine (specLex_is _ l _ true HL ho.read (by omega) (fun k hk => by have := HSM.out k hk; omega)).mono ?_
    rintro e w3 ⟨rfl, hb1⟩
    clear hlx
    have ho3 := ho.read.later hb1
    replace hb := hb.trans (hb1.mono hb.size)
    go_wp2_with fail
    go_ret
    exact .mk ho3 HL.out hb
end Go.Proofs.Ytdlagajnefkklaa
