/- Drawn likenesses: l07DrawOk, B10Likeness. -/
import Derived.Test.YtdkheeocglfogaaDrawO
import Derived.Test.YtdkheeocglfogaaStrB
import Derived.Test.YtdkheeocglfogaaLikeS
import Derived.Test.YtdkheeocglfogaaAlk
import Derived.Test.YtdkheeocglfogaaAlkT
namespace Go.Proofs.Ytdkheeocglfogaa
open Go.RowKit

/-- The symbol of a digit. -/
def sy (d : Int) : Int := if d < 10 then 48 + d else 55 + d
theorem sy_in {d : Int} (h : 0 ≤ d ∧ d ≤ 35) : 48 ≤ sy d ∧ sy d ≤ 90 := by unfold sy; split <;> omega
theorem dg_sy {d : Int} (h : 0 ≤ d ∧ d ≤ 35) : dg (sy d) = d := by
  unfold dg sy
  by_cases h1 : d < 10
  · rw [if_pos h1, if_pos (by omega)]; omega
  · rw [if_neg h1, if_neg (by omega), if_pos (by omega)]; omega
def wOf (xs : List Int) : ByteArray := strOfNums (xs.map sy)
theorem wOf_size (xs : List Int) : (wOf xs).size = xs.length := by unfold wOf; rw [str_size, List.length_map]
theorem wOf_bz {xs : List Int} (h : ∀ z ∈ xs, 0 ≤ z ∧ z ≤ 35) : bz (wOf xs) = xs.map sy := by
  unfold wOf
  exact str_bz fun z hz => by
    obtain ⟨d, hd, rfl⟩ := List.mem_map.1 hz
    have := sy_in (h d hd); omega
set_option maxHeartbeats 400000 in
theorem l01Symbol_any (d : Int) (w : World) (hd : 0 ≤ d ∧ d ≤ 35) :
    Calls Try.prog 71 #[.int .i64 d] w fun e w' => e = .returned (.int .u8 (sy d)) ∧ w = w' := by
  by_cases h : d < 10
  · have hs : Hid (48 + d = sy d) := by unfold Hid sy; rw [if_pos h]
    have f1 : IntKind.u8.wrap (48 + d) = 48 + d := IntWalk.u8_in _ (by omega)
    go_enter Try.func71, Try.ntmps71
    go_wp2_with fail
    go_ret
    exact ⟨by rw [hs.out]; rfl, rfl⟩
  · have hs : Hid (65 + d - 10 = sy d) := by unfold Hid sy; rw [if_neg h]; omega
    have f1 : IntKind.u8.wrap (65 + d - 10) = 65 + d - 10 := IntWalk.u8_in _ (by omega)
    go_enter Try.func71, Try.ntmps71
    go_wp2_with fail
    go_ret
    exact ⟨by rw [hs.out]; rfl, rfl⟩
set_option maxHeartbeats 1000000 in
theorem l01From_any (v : Value) (xs : List Int) (w : World) (hx : RI w v xs) (hd : ∀ z ∈ xs, 0 ≤ z ∧ z ≤ 35) (hm : xs.length ≤ 1048576) :
    Calls Try.prog 67 #[v] w fun e w' => e = .returned (.string (wOf xs)) ∧ Below w.heap.size w w' := by
  obtain ⟨a, c, rfl⟩ := hx.slice
  have HD := Lib.hid hd
  clear hd
  go_enter Try.func67, Try.ntmps67
  go_wp2_with fail
  have hb : Below w.heap.size w (w.alloc (.cells #[] 5)) := (Below.refl _ _).alloc (Nat.le_refl _) _
  have ho : OB w.heap.size (w.alloc (.cells #[] 5)) (.slice (some ⟨w.heap.size, 0, none⟩) 0 0) ((xs.map sy).take 0) := OK.made _ _ _ (Nat.le_refl _)
  generalize w.alloc (.cells #[] 5) = w1 at *
  generalize Value.slice (some ⟨w.heap.size, 0, none⟩) 0 0 = v0 at *
  go_loopw [3, 4] (fun ov iv wr => ∃ k : Nat, k ≤ xs.length ∧ iv = .int .i64 k ∧ OB w.heap.size wr ov ((xs.map sy).take k) ∧ Below w.heap.size w wr) (fun _ iv _ => xs.length - (intOf iv).toNat)
  case atStart => exact ⟨0, Nat.zero_le _, rfl, ho, hb⟩
  case round =>
    clear ho hb
    obtain ⟨k, hk, rfl, ho, hb⟩ := hrel
    have hz := hb.size
    by_cases hlt : k < xs.length
    · obtain ⟨g, off, rfl, hg, hc⟩ := (hx.later hb).at k hlt
      have hbd := HD.out (xs.getD k 0) (by simp [hlt])
      have HT : Hid ((xs.map sy).take (k + 1) = (xs.map sy).take k ++ [sy (xs.getD k 0)]) := by
        unfold Hid
        rw [List.take_succ_eq_append_getElem (by simpa using hlt)]
        simp [hlt]
      have hll : ((xs.map sy).take k).length ≤ 1099511627776 := by rw [List.length_take]; omega
      generalize xs.getD k 0 = d at *
      go_wp2_with (first | (go_at_call 71; refine (l01Symbol_any _ _ hbd).mono ?_; rintro e w' ⟨rfl, rfl⟩) | (at_builtin; refine wpl_app_u8 rfl _ _ rfl w.heap.size _ _ rfl (ho.alloc _) _ _ _ rfl (World.cell?_alloc_at _ _ _ _ rfl) hll (by simp; omega) ?_; intro v' w5 ho5 hgr))
      have hb5 : Below w.heap.size w w5 := own_below (hb.alloc hz _) (ho.alloc _) hgr (by simp; omega)
      go_roundw
      case rel => exact ⟨k + 1, by omega, by go_num, by rw [HT.out]; exact ho5, hb5⟩
      case measure => first | (simp [intOf]; done) | (simp [intOf]; omega)
    · obtain rfl : k = xs.length := by omega
      rw [List.take_of_length_le (by simp)] at ho
      have hst := ho.str
      have HW : Hid (strOfNums (xs.map sy) = wOf xs) := rfl
      rw [HW.out] at hst
      go_wp2_with fail
      go_ret
      exact ⟨rfl, hb⟩
/-- Symbols of different digits, without pairs. -/
theorem lk_start {xs : List Int} {n : Nat} (hp : xs.Perm (upN 36)) (h1 : 1 ≤ n) (h2 : n ≤ 18) : vlB (wOf (xs.take n)) [] = true ∧ (wOf (xs.take n)).size = n ∧ ∀ z ∈ xs.take n, 0 ≤ z ∧ z ≤ 35 := by
  have hl : xs.length = 36 := by rw [hp.length_eq, upN_len]
  have hb : ∀ z ∈ xs, 0 ≤ z ∧ z ≤ 35 := fun z hz => by have := mem_upN.1 (hp.mem_iff.1 hz); omega
  have hb2 : ∀ z ∈ xs.take n, 0 ≤ z ∧ z ≤ 35 := fun z hz => hb z (List.mem_of_mem_take hz)
  have hs : (wOf (xs.take n)).size = n := by rw [wOf_size, List.length_take]; omega
  have hnd : xs.Nodup := hp.nodup_iff.2 (by
    unfold upN
    rw [List.nodup_iff_pairwise_ne, List.pairwise_map]
    exact List.nodup_range.imp fun h e => h (by omega))
  refine ⟨vlB_yes ?_ ?_ (by simp) (fun k hk => by simp at hk), hs, hb2⟩
  · rw [hs]; unfold inB; simp; omega
  · rw [wOf_bz hb2, diffB_iff]
    refine ⟨fun k hk => ?_, fun k hk hm => ?_⟩
    · rw [List.length_map] at hk
      have hz := hb2 ((xs.take n)[k]) (List.getElem_mem hk)
      unfold isS
      rw [getD_eq (by simpa using hk), List.getElem_map, dg_sy hz]
      exact decide_eq_true hz.1
    · rw [List.length_map] at hk
      rw [List.mem_take_iff_getElem] at hm
      obtain ⟨i, hi, e⟩ := hm
      rw [getD_eq (by simpa using hk), List.getElem_map, List.getElem_map] at e
      have hi' : i < (xs.take n).length := by rw [List.length_map] at hi; omega
      have e2 := congrArg dg e
      rw [dg_sy (hb2 _ (List.getElem_mem hi')), dg_sy (hb2 _ (List.getElem_mem hk))] at e2
      have hnd2 : (xs.take n).Nodup := List.Nodup.sublist (List.take_sublist _ _) hnd
      have := (List.nodup_iff_pairwise_ne.1 hnd2)
      rw [List.pairwise_iff_getElem] at this
      exact this i k hi' hk (by omega) e2
theorem OV.heapD {T : TypeId} {B : Nat} {w w' : World} {v : Value} {cs : List Value} (h : OV T B w v cs) (he : ∀ k, v.ownBlock = some k → w'.heap[k]? = w.heap[k]?) : OV T B w' v cs := by
  refine ⟨h.1, ?_⟩
  rcases h.2 with hn | ⟨g, cap, cur, rfl, hB, hg, r⟩
  · exact .inl hn
  · exact .inr ⟨g, cap, cur, rfl, hB, by rw [he g rfl]; exact hg, r⟩
/-- The world of l07DrawOk's loop: the source p, the result's cell R, the likeness's box Y. -/
structure DK (p m R Y : Nat) (s : ByteArray) (w0 w : World) (pv : Value) (l : List ByteArray) : Prop where
  src : Src p m w
  lx : LX Y s pv w
  fz : w.frozen? ⟨Y, 1, none⟩ = false
  own : OS (Y + 1) w pv l
  chg : Chg [p] w0 w
  r0 : w.cell? ⟨R, 0, none⟩ = some (.string ⟨#[]⟩)
  r1 : w.cell? ⟨R, 1, none⟩ = some (.slice none 0 0)
  f0 : w.frozen? ⟨R, 0, none⟩ = false
  f1 : w.frozen? ⟨R, 1, none⟩ = false
  ord : (p < w0.heap.size ∧ w0.heap.size ≤ R) ∧ R < Y ∧ Y < w.heap.size
section
variable {p m R Y : Nat} {s : ByteArray} {w0 w w' : World} {pv : Value} {l : List ByteArray}
theorem DK.pick {m' : Nat} (h : DK p m R Y s w0 w pv l) (hs : Src p m' w') (hc : Chg [p] w w') : DK p m' R Y s w0 w' pv l := by
  have ho := h.ord
  have hY : w'.heap[Y]? = w.heap[Y]? := hc.block Y ho.2.2 (by simp; omega)
  have hR : w'.heap[R]? = w.heap[R]? := hc.block R (by omega) (by simp; omega)
  exact ⟨hs, ⟨(cell_keep hY).trans h.lx.c0, (cell_keep hY).trans h.lx.c1⟩, (frozen_keep hY).trans h.fz, OS.chg h.own hc fun k hk hm => by
    have := OV.vb h.own k hk
    simp at hm; omega, h.chg.trans hc, (cell_keep hR).trans h.r0, (cell_keep hR).trans h.r1, (frozen_keep hR).trans h.f0, (frozen_keep hR).trans h.f1, ho.1, ho.2.1, Nat.lt_of_lt_of_le ho.2.2 hc.size⟩
theorem DK.later (h : DK p m R Y s w0 w pv l) (hb : Below w.heap.size w w') : DK p m R Y s w0 w' pv l :=
  h.pick (h.src.later hb) ⟨hb.os, hb.tape, hb.output, hb.size, fun k hk _ => hb.block k hk⟩
/-- The store of another list of pairs. -/
theorem DK.push {w5 : World} {v' : Value} {l' : List ByteArray} (h : DK p m R Y s w0 w pv l) (hb : Below (Y + 1) w w5) (ho : OS (Y + 1) w5 v' l') :
    w5.cell? ⟨Y, 1, none⟩ = some pv ∧ w5.frozen? ⟨Y, 1, none⟩ = false ∧ DK p m R Y s w0 (w5.setCell ⟨Y, 1, none⟩ v') v' l' := by
  have hor := h.ord
  have hY : w5.heap[Y]? = w.heap[Y]? := hb.block Y (by omega)
  have hR : w5.heap[R]? = w.heap[R]? := hb.block R (by omega)
  have c1 := (cell_keep (o := 1) hY).trans h.lx.c1
  have hot : ∀ k, k ≠ Y → (w5.setCell ⟨Y, 1, none⟩ v').heap[k]? = w5.heap[k]? := fun k hk => heap_setCell_other _ _ _ _ hk
  have hR2 := (hot R (by omega)).trans hR
  refine ⟨c1, (frozen_keep hY).trans h.fz, ?_, ⟨?_, World.cell?_setCell_same _ _ _ c1⟩, (World.frozen?_setCell _ _ _ _).trans ((frozen_keep hY).trans h.fz), OV.heapD ho fun k hk => hot k (by have := OV.lt ho k hk; omega), ?_, (cell_keep hR2).trans h.r0, (cell_keep hR2).trans h.r1, (frozen_keep hR2).trans h.f0, (frozen_keep hR2).trans h.f1, hor.1, hor.2.1, ?_⟩
  · exact h.src.keep (fun k hk => (hot k (by omega)).trans (hb.block k (by omega))) (by have := hb.size; simpa using this)
  · refine (World.cell?_setCell_other (h := ?_) ..).trans ((cell_keep hY).trans h.lx.c0)
    intro e; simp at e
  · refine ⟨hb.os.trans h.chg.os, hb.tape.trans h.chg.tape, hb.output.trans h.chg.output, by have := hb.size; have := h.chg.size; simp; omega, fun k hk hn => ?_⟩
    exact ((hot k (by omega)).trans (hb.block k (by omega))).trans (h.chg.block k hk hn)
  · have := hb.size; simp; omega
end
def DkPost (p m : Nat) (w : World) (e : Ending) (w' : World) : Prop := ∃ s v l, e = .returned (.agg #[.string s, v]) ∧ vlB s l = true ∧ OS w.heap.size w' v l ∧ s.size ≤ 18 ∧ l.length ≤ 11 ∧ Src p (m + 100) w' ∧ Chg [p] w w'
theorem DK.fin {p m m0 Y : Nat} {s : ByteArray} {w wr : World} {pa : Option Addr} {pc : Nat} {l : List ByteArray} (h : DK p m w.heap.size Y s w wr (.slice pa l.length pc) l) (hv : vlB s l = true) (hm : m ≤ m0 + 100) (hl : l.length ≤ 11) (hs : s.size ≤ 18) :
    ((wr.setCell ⟨w.heap.size, 0, none⟩ (.string s)).setCell ⟨w.heap.size, 1, none⟩ (.slice pa l.length pc)).cell? ⟨w.heap.size, 0, none⟩ = some (.string s) ∧
    ((wr.setCell ⟨w.heap.size, 0, none⟩ (.string s)).setCell ⟨w.heap.size, 1, none⟩ (.slice pa l.length pc)).cell? ⟨w.heap.size, 1, none⟩ = some (.slice pa l.length pc) ∧
    DkPost p m0 w (.returned (.agg #[.string s, .slice pa l.length pc])) ((wr.setCell ⟨w.heap.size, 0, none⟩ (.string s)).setCell ⟨w.heap.size, 1, none⟩ (.slice pa l.length pc)) := by
  have ho := h.ord
  have hot : ∀ k, k ≠ w.heap.size → ((wr.setCell ⟨w.heap.size, 0, none⟩ (.string s)).setCell ⟨w.heap.size, 1, none⟩ (.slice pa l.length pc)).heap[k]? = wr.heap[k]? := fun k hk => (heap_setCell_other _ _ _ _ hk).trans (heap_setCell_other _ _ _ _ hk)
  refine ⟨?_, ?_, s, _, l, rfl, hv, ?_, hs, hl, ?_, ?_⟩
  · refine (World.cell?_setCell_other (h := ?_) ..).trans (World.cell?_setCell_same _ _ _ h.r0)
    intro e; simp at e
  · refine World.cell?_setCell_same _ _ _ (u := .slice none 0 0) ?_
    refine (World.cell?_setCell_other (h := ?_) ..).trans h.r1
    intro e; simp at e
  · exact OV.mono (OV.heapD h.own fun k hk => hot k (by have := OV.lt h.own k hk; omega)) (by omega)
  · exact (h.src.keep (fun k hk => hot k (by omega)) (by simp)).mono hm
  · exact ⟨h.chg.os, h.chg.tape, h.chg.output, by simpa using h.chg.size, fun k hk hn => (hot k (by omega)).trans (h.chg.block k hk hn)⟩
theorem OS.cut {B : Nat} {w : World} {g n cap : Nat} {l : List ByteArray} {z : ByteArray} (h : OS B w (.slice (some ⟨g, 0, none⟩) n cap) (l ++ [z])) : OS B w (.slice (some ⟨g, 0, none⟩) l.length cap) l := by
  unfold OS OV at *
  have hl : (ss (l ++ [z])).length = l.length + 1 := by rw [ss_length, List.length_append]; rfl
  have hs : ss (l ++ [z]) = ss l ++ [.string z] := by simp [ss]
  rw [ss_length]
  rcases h.2 with ⟨h', _⟩ | ⟨g', cap', cur, h', hB, hg, hn, hm, hc, ht⟩
  · simp at h'
  · simp only [Value.slice.injEq, Option.some.injEq, Addr.mk.injEq, and_true] at h'
    obtain ⟨rfl, h2, rfl⟩ := h'
    rw [hl] at hn
    refine ⟨by rw [Nat.mul_one, ss_length], .inr ⟨g, cap, cur, rfl, hB, hg, by omega, hm, hc, ?_⟩⟩
    rw [Nat.mul_one] at *
    have e := congrArg (List.take l.length) ht
    rw [List.take_take, hl, Nat.min_eq_left (by omega), hs, List.take_left' (by rw [ss_length])] at e
    exact e
set_option maxRecDepth 100000 in
set_option maxHeartbeats 8000000 in
theorem drawLk_any (p m : Nat) (w : World) (h : Src p m w) (hm : m ≤ 1000000) :
    Calls Try.prog 57 #[.pointer (some ⟨p, 0, none⟩)] w (DkPost p m w) := by
  have hpl := h.lt
  have hb0 : Below w.heap.size w (w.alloc (.cells #[.string ⟨#[]⟩, .slice none 0 0] 27)) := (Below.refl _ _).alloc (Nat.le_refl _) _
  have hR0 : (w.alloc (.cells #[.string ⟨#[]⟩, .slice none 0 0] 27)).cell? ⟨w.heap.size, 0, none⟩ = some (.string ⟨#[]⟩) := World.cell?_alloc_at _ _ _ _ rfl
  have hR1 : (w.alloc (.cells #[.string ⟨#[]⟩, .slice none 0 0] 27)).cell? ⟨w.heap.size, 1, none⟩ = some (.slice none 0 0) := World.cell?_alloc_at _ _ _ _ rfl
  have hRF : ∀ o, (w.alloc (.cells #[.string ⟨#[]⟩, .slice none 0 0] 27)).frozen? ⟨w.heap.size, o, none⟩ = false := fun o => by
    have h9 : (w.alloc (.cells #[.string ⟨#[]⟩, .slice none 0 0] 27)).heap[w.heap.size]? = some (.cells #[.string ⟨#[]⟩, .slice none 0 0] 27 (0, 0)) := heap_alloc_new w _
    unfold World.frozen?; simp only [h9]; rfl
  have hs0 := h.later hb0
  have hsz0 : w.heap.size < (w.alloc (.cells #[.string ⟨#[]⟩, .slice none 0 0] 27)).heap.size := by simp
  go_enter Try.func57, Try.ntmps57
  go_wp2_with fail
  refine (drawOrder_any p m 36 _ hs0 (by omega) (by omega)).mono ?_
  rintro e w2 ⟨ov, xs, rfl, hox, hperm, hs2, hc2⟩
  replace hox := OK.mono hox (Nat.le_of_lt hsz0)
  have hR2 := hc2.block w.heap.size hsz0 (by simp; omega)
  replace hR0 := (cell_keep hR2).trans hR0
  replace hR1 := (cell_keep hR2).trans hR1
  have hRF2 : ∀ o, w2.frozen? ⟨w.heap.size, o, none⟩ = false := fun o => (frozen_keep hR2).trans (hRF o)
  have hch : Chg [p] w w2 := ((Below.chg hb0).mono (by simp)).trans hc2
  have hsz2 : w.heap.size < w2.heap.size := Nat.lt_of_lt_of_le hsz0 hc2.size
  clear hb0 hc2 hR2 hRF hs0 hsz0 h
  go_wp2_with fail
  refine (pick_any p _ 10 _ hs2 (by omega) (by omega)).mono ?_
  rintro e w3 ⟨z, rfl, hz, hs3, hc3⟩
  replace hox := OK.chg hox hc3 (fun k hk hm => by have := OK.vb hox k hk; simp at hm; omega)
  have hR3 := hc3.block w.heap.size hsz2 (by simp; omega)
  replace hR0 := (cell_keep hR3).trans hR0
  replace hR1 := (cell_keep hR3).trans hR1
  have hRF3 : ∀ o, w3.frozen? ⟨w.heap.size, o, none⟩ = false := fun o => (frozen_keep hR3).trans (hRF2 o)
  replace hch := hch.trans hc3
  have hsz3 : w.heap.size < w3.heap.size := Nat.lt_of_lt_of_le hsz2 hc3.size
  obtain ⟨n, hn⟩ : ∃ n : Nat, (n : Int) = 1 + z := ⟨(1 + z).toNat, by omega⟩
  have hn10 : 1 ≤ n ∧ n ≤ 10 := by omega
  have hw1 : IntKind.i64.wrap (1 + z) = (n : Int) := by rw [← hn]; exact IntWalk.i64_in _ (by omega)
  clear hn hz hc3 hs2 hR3 hRF2 hsz2
  go_wp2_with fail
  clear hw1
  refine (one_any p _ 16 _ hs3 (by omega) (by omega)).mono ?_
  rintro e w4 ⟨bb, rfl, hs4, hc4⟩
  replace hox := OK.chg hox hc4 (fun k hk hm => by have := OK.vb hox k hk; simp at hm; omega)
  have hR4 := hc4.block w.heap.size hsz3 (by simp; omega)
  replace hR0 := (cell_keep hR4).trans hR0
  replace hR1 := (cell_keep hR4).trans hR1
  have hRF4 : ∀ o, w4.frozen? ⟨w.heap.size, o, none⟩ = false := fun o => (frozen_keep hR4).trans (hRF3 o)
  replace hch := hch.trans hc4
  have hsz4 : w.heap.size < w4.heap.size := Nat.lt_of_lt_of_le hsz3 hc4.size
  clear hc4 hs3 hR4 hRF3 hsz3
  cases bb with
  | true =>
    obtain ⟨hvl, hss, h35⟩ := lk_start hperm (n := 18) (by omega) (by omega)
    have hxl : xs.length = 36 := by rw [hperm.length_eq, upN_len]
    have hz4 := hch.size
    obtain ⟨oa, oc, hov⟩ := hox.slice
    subst hov
    have hrx : RI w4 (.slice oa 18 oc) (xs.take 18) := RK.take hox.read 18 (by omega)
    have hcap := hox.read.cap
    have HF := Lib.hid (l01From_any _ _ w4 hrx h35 (by rw [List.length_take]; omega))
    obtain ⟨s, hse⟩ : ∃ s, s = wOf (xs.take 18) := ⟨_, rfl⟩
    rw [← hse] at HF hvl hss
    have q1 : (18 : Int) ≤ (oc : Int) := by omega
    have q2 : (0 : Int) ≤ (18 : Int) := by omega
    have HVL := Lib.hid hvl
    have HSS := Lib.hid hss
    have HCH := Lib.hid hch
    clear hvl hss h35 hrx hperm hxl hse hox hch
    go_wp2_with (go_at_call 67; refine HF.out.mono ?_; rintro e w5 ⟨rfl, hb5⟩)
    have hs5 := hs4.later hb5
    have hR5 := hb5.block w.heap.size hsz4
    have hD0 : DK p (m + 38) w.heap.size w5.heap.size s w (w5.alloc (.cells #[.string s, .slice none 0 0] 27)) (.slice none 0 0) [] := by
      have hbA : Below w5.heap.size w5 (w5.alloc (.cells #[.string s, .slice none 0 0] 27)) := (Below.refl _ _).alloc (Nat.le_refl _) _
      have hz5 := hb5.size
      have hRA := hbA.block w.heap.size (by omega)
      refine ⟨hs5.later hbA, ⟨World.cell?_alloc_at _ _ _ _ rfl, World.cell?_alloc_at _ _ _ _ rfl⟩, ?_, OV.nil _ _ _, HCH.out.trans ⟨(hb5.trans (hbA.mono hz5)).os, (hb5.trans (hbA.mono hz5)).tape, (hb5.trans (hbA.mono hz5)).output, (hb5.trans (hbA.mono hz5)).size, fun k hk _ => (hb5.trans (hbA.mono hz5)).block k hk⟩, (cell_keep (hRA.trans hR5)).trans hR0, (cell_keep (hRA.trans hR5)).trans hR1, (frozen_keep (hRA.trans hR5)).trans (hRF4 0), (frozen_keep (hRA.trans hR5)).trans (hRF4 1), ⟨hpl, Nat.le_refl _⟩, by omega, by simp⟩
      have h9 : (w5.alloc (.cells #[.string s, .slice none 0 0] 27)).heap[w5.heap.size]? = some (.cells #[.string s, .slice none 0 0] 27 (0, 0)) := heap_alloc_new w5 _
      unfold World.frozen?; simp only [h9]; rfl
    generalize w5.alloc (.cells #[.string s, .slice none 0 0] 27) = w6 at *
    obtain ⟨Y, hY⟩ : ∃ Y, Y = w5.heap.size := ⟨_, rfl⟩
    rw [← hY] at hD0 ⊢
    have HD0 := Lib.hid hD0
    clear hR0 hR1 hRF4 hb5 hs4 hs5 hR5 hD0 hY hz4
    refine (pick_any p _ 12 _ HD0.out.src (by omega) (by omega)).mono ?_
    rintro e w7 ⟨z12, rfl, hz12, hs7, hc7⟩
    have HD7 := Lib.hid (HD0.out.pick hs7 hc7)
    obtain ⟨j0, rfl⟩ := Int.eq_ofNat_of_zero_le hz12.1
    clear HD0 hs7 hc7
    go_wp2_with fail
    go_loopw [6] (fun jv wr => ∃ (j : Nat) (pv : Value) (l : List ByteArray), jv = .int .i64 j ∧ j ≤ 11 ∧ l.length + j ≤ 11 ∧ Hid (DK p (m + 39 + 2 * (11 - j)) w.heap.size Y s w wr pv l) ∧ Hid (vlB s l = true)) (fun jv _ => (intOf jv).toNat)
    case atStart => exact ⟨j0, _, [], rfl, by omega, by simp; omega, ⟨HD7.out.src.mono (by omega), HD7.out.lx, HD7.out.fz, HD7.out.own, HD7.out.chg, HD7.out.r0, HD7.out.r1, HD7.out.f0, HD7.out.f1, HD7.out.ord⟩, HVL.out⟩
    case round =>
      clear HD7 hz12
      obtain ⟨j, pv, l, rfl, hj, hlj, HD, HV⟩ := hrel
      by_cases hj0 : 0 < j
      · have hjI : (0 : Int) < (j : Int) := by omega
        have hn1 : 1 < 18 := by omega
        have hn1I : (1 : Int) < (18 : Int) := by omega
        have hsN := HSS.out
        go_wp2_with fail
        refine (pick_any p _ 18 _ HD.out.src (by omega) (by omega)).mono ?_
        rintro e w8 ⟨a0, rfl, ha, hs8, hc8⟩
        have HD8 := Lib.hid (HD.out.pick hs8 hc8)
        obtain ⟨a, rfl⟩ := Int.eq_ofNat_of_zero_le ha.1
        clear HD hs8 hc8
        go_wp2_with fail
        refine (pick_any p _ 18 _ HD8.out.src (by omega) (by omega)).mono ?_
        rintro e w9 ⟨b0, rfl, hb, hs9, hc9⟩
        have HD := Lib.hid (HD8.out.pick hs9 hc9)
        obtain ⟨b, rfl⟩ := Int.eq_ofNat_of_zero_le hb.1
        have haN : a < s.size := by omega
        have hbN : b < s.size := by omega
        have haI : (a : Int) < (s.size : Int) := by omega
        have hbI : (b : Int) < (s.size : Int) := by omega
        obtain ⟨x, hx⟩ : ∃ x, s[a] = x := ⟨_, rfl⟩
        obtain ⟨y, hy⟩ : ∃ y, s[b] = y := ⟨_, rfl⟩
        clear HD8 hs9 hc9 hsN
        go_wp2_with fail
        have HDd := Lib.hid (HD.out.later (Below.refl _ _).drew)
        clear HD
        have HD := HDd
        clear HDd
        obtain ⟨pa, pc, hpv⟩ := HD.out.own.read.slice
        subst hpv
        have c0 := HD.out.lx.c0
        have c1 := HD.out.lx.c1
        refine wp_region_held_drew (S := fun w' => w'.cell? ⟨Y, 0, none⟩ = some (.string s)) (by kernel_rfl) c0 (fun hHeld => ?_)
        generalize w9.drew = wd at *
        refine wpAnyH_take (i := 0) (oi := ⟨some 37, _, _, _, _, _⟩) (v := ?va0) rfl (by kernel_rfl) (by kernel_rfl) (by kernel_rfl) (fun _ _ _ h => h) (Or.inl ⟨by rfl, ?ya0⟩) (by assumption) ?ra0
        case ya0 => (intro w hSw; (try dsimp only at hSw); go_simp; all_goals (with_reducible rfl))
        try simp only [Act.put, List.setIfInBounds_toArray, List.set_cons_zero, List.set_cons_succ]
        refine wpAnyH_take (i := 2) (oi := ⟨some 39, _, _, _, _, _⟩) (v := ?va2) rfl (by kernel_rfl) (by kernel_rfl) (by kernel_rfl) (fun _ _ _ h => h) (Or.inl ⟨by rfl, ?ya2⟩) (by assumption) ?ra2
        case ya2 => (intro w hSw; (try dsimp only at hSw); go_simp; all_goals (with_reducible rfl))
        try simp only [Act.put, List.setIfInBounds_toArray, List.set_cons_zero, List.set_cons_succ]
        refine wpAnyH_take (i := 3) (oi := ⟨some 40, _, _, _, _, _⟩) (v := ?va3) rfl (by kernel_rfl) (by kernel_rfl) (by kernel_rfl) (fun _ _ _ h => h) (Or.inl ⟨by rfl, ?ya3⟩) (by assumption) ?ra3
        case ya3 => (intro w hSw; (try dsimp only at hSw); go_simp; all_goals (with_reducible rfl))
        try simp only [Act.put, List.setIfInBounds_toArray, List.set_cons_zero, List.set_cons_succ]
        refine wpAnyH_take (i := 4) (oi := ⟨some 41, _, _, _, _, _⟩) (v := ?va4) rfl (by kernel_rfl) (by kernel_rfl) (by kernel_rfl) (fun _ _ _ h => h) (Or.inl ⟨by rfl, ?ya4⟩) (by assumption) ?ra4
        case ya4 => (intro w hSw; (try dsimp only at hSw); go_simp; all_goals (with_reducible rfl))
        try simp only [Act.put, List.setIfInBounds_toArray, List.set_cons_zero, List.set_cons_succ]
        refine wpAnyH_take (i := 5) (oi := ⟨some 42, _, _, _, _, _⟩) (v := ?va5) rfl (by kernel_rfl) (by kernel_rfl) (by kernel_rfl) (fun _ _ _ h => h) (Or.inl ⟨by rfl, ?ya5⟩) (by assumption) ?ra5
        case ya5 => (intro w hSw; (try dsimp only at hSw); go_simp; all_goals (with_reducible rfl))
        try simp only [Act.put, List.setIfInBounds_toArray, List.set_cons_zero, List.set_cons_succ]
        refine wpAnyH_take (i := 6) (oi := ⟨some 43, _, _, _, _, _⟩) (v := ?va6) rfl (by kernel_rfl) (by kernel_rfl) (by kernel_rfl) (fun _ _ _ h => h) (Or.inl ⟨by rfl, ?ya6⟩) (by assumption) ?ra6
        case ya6 => (intro w hSw; (try dsimp only at hSw); go_simp; all_goals (with_reducible rfl))
        try simp only [Act.put, List.setIfInBounds_toArray, List.set_cons_zero, List.set_cons_succ]
        refine wpAnyH_take (i := 7) (oi := ⟨some 44, _, _, _, _, _⟩) (v := ?va7) rfl (by kernel_rfl) (by kernel_rfl) (by kernel_rfl) (fun _ _ _ h => h) (Or.inl ⟨by rfl, ?ya7⟩) (by assumption) ?ra7
        case ya7 => (intro w hSw; (try dsimp only at hSw); go_simp; all_goals (with_reducible rfl))
        try simp only [Act.put, List.setIfInBounds_toArray, List.set_cons_zero, List.set_cons_succ]
        refine wpAnyH_take (i := 8) (oi := ⟨some 45, _, _, _, _, _⟩) (v := ?va8) rfl (by kernel_rfl) (by kernel_rfl) (by kernel_rfl) (fun _ _ _ h => h) (Or.inl ⟨by rfl, ?ya8⟩) (by assumption) ?ra8
        case ya8 => (intro w hSw; (try dsimp only at hSw); go_simp; all_goals (with_reducible rfl))
        try simp only [Act.put, List.setIfInBounds_toArray, List.set_cons_zero, List.set_cons_succ]
        refine wpAnyH_take (i := 9) (oi := ⟨some 46, _, _, _, _, _⟩) (v := ?va9) rfl (by kernel_rfl) (by kernel_rfl) (by kernel_rfl) (fun _ _ _ h => h) (Or.inl ⟨by rfl, ?ya9⟩) (by assumption) ?ra9
        case ya9 => (intro w hSw; (try dsimp only at hSw); go_simp; all_goals (with_reducible rfl))
        try simp only [Act.put, List.setIfInBounds_toArray, List.set_cons_zero, List.set_cons_succ]
        have k1 := conv2a x y wd
        have hzY := HD.out.ord.2.2
        have c1a : (wd.alloc (.cells #[.int .u8 (x.toNat : Int), .int .u8 (y.toNat : Int)] 5)).cell? ⟨Y, 1, none⟩ = some (.slice pa l.length pc) := (World.cell?_alloc_lt _ _ _ hzY).trans c1
        have c1b : ((wd.alloc (.cells #[.int .u8 (x.toNat : Int), .int .u8 (y.toNat : Int)] 5)).alloc (.cells #[.string ⟨#[x, y]⟩] 9)).cell? ⟨Y, 1, none⟩ = some (.slice pa l.length pc) := (World.cell?_alloc_lt _ _ _ (by simp; omega)).trans c1a
        have hls : (ss l).length ≤ 1099511627776 := by rw [ss_length]; omega
        have hsz : Y + 1 ≤ ((wd.alloc (.cells #[.int .u8 (x.toNat : Int), .int .u8 (y.toNat : Int)] 5)).alloc (.cells #[.string ⟨#[x, y]⟩] 9)).heap.size := by simp; omega
        have hcv : ((wd.alloc (.cells #[.int .u8 (x.toNat : Int), .int .u8 (y.toNat : Int)] 5)).alloc (.cells #[.string ⟨#[x, y]⟩] 9)).cell? ⟨wd.heap.size + 1, 0, none⟩ = some (.string ⟨#[x, y]⟩) := by
          rw [show wd.heap.size + 1 = (wd.alloc (.cells #[.int .u8 (x.toNat : Int), .int .u8 (y.toNat : Int)] 5)).heap.size by simp]
          exact World.cell?_alloc_at _ _ _ _ rfl
        have HNX : Hid (∀ v' w5, OV 9 (Y + 1) w5 v' (ss l ++ [.string ⟨#[x, y]⟩]) → ((wd.alloc (.cells #[.int .u8 (x.toNat : Int), .int .u8 (y.toNat : Int)] 5)).alloc (.cells #[.string ⟨#[x, y]⟩] 9)).grownBy w5 (Value.slice pa l.length pc).ownBlock →
            w5.cell? ⟨Y, 1, none⟩ = some (.slice pa l.length pc) ∧ w5.frozen? ⟨Y, 1, none⟩ = false ∧ w5.cell? ⟨Y, 0, none⟩ = some (.string s) ∧ (w5.setCell ⟨Y, 1, none⟩ v').cell? ⟨Y, 0, none⟩ = some (.string s) ∧
            DK p (m + 39 + 2 * (11 - j) + 1 + 1) w.heap.size Y s w (w5.setCell ⟨Y, 1, none⟩ v') v' (l ++ [⟨#[x, y]⟩])) := fun v' w5 ho hg => by
          have hbA : Below wd.heap.size wd ((wd.alloc (.cells #[.int .u8 (x.toNat : Int), .int .u8 (y.toNat : Int)] 5)).alloc (.cells #[.string ⟨#[x, y]⟩] 9)) := ((Below.refl _ _).alloc (Nat.le_refl _) _).alloc (by simp) _
          have hb5 : Below (Y + 1) wd w5 := own_below (hbA.mono hzY) (OV.alloc (OV.alloc HD.out.own _) _) hg hsz
          have ho2 : OS (Y + 1) w5 v' (l ++ [⟨#[x, y]⟩]) := by unfold OS; simpa [ss] using ho
          obtain ⟨p1, p2, p3⟩ := HD.out.push hb5 ho2
          exact ⟨p1, p2, (cell_keep (hb5.block Y (by omega))).trans HD.out.lx.c0, p3.lx.c0, p3⟩
        refine wpAnyH_ready (rs := [1, 10]) (by kernel_rfl) (by simp) ?_
        refine AllReadyH.cons rfl (fun K hK => ?cab) (AllReadyH.cons rfl (fun K hK => ?aab) AllReadyH.nil)
        case cab =>
          go_simp
          refine hK.out _ _ ?_ (fun hHeld => ?_)
          · (try dsimp only)
            go_keep
          clear hK K
          try simp only [Act.put, List.setIfInBounds_toArray, List.set_cons_zero, List.set_cons_succ]
          refine wpAnyH_ready (rs := [10]) (by kernel_rfl) (by simp) ?_
          refine AllReadyH.cons rfl (fun K hK => ?_) AllReadyH.nil
          go_simp
          refine hK.out _ _ ?_ (fun hHeld => ?_)
          · (try dsimp only)
            go_keep
          clear hK K
          try simp only [Act.put, List.setIfInBounds_toArray, List.set_cons_zero, List.set_cons_succ]
          refine wpAnyH_ready (rs := [11]) (by kernel_rfl) (by simp) ?_
          refine AllReadyH.cons rfl (fun K hK => ?_) AllReadyH.nil
          go_simp
          refine hK.out _ _ ?_ (fun hHeld => ?_)
          · (try dsimp only)
            go_keep
          clear hK K
          try simp only [Act.put, List.setIfInBounds_toArray, List.set_cons_zero, List.set_cons_succ]
          refine wpAnyH_ready (rs := [12]) (by kernel_rfl) (by simp) ?_
          refine AllReadyH.cons rfl (fun K hK => ?_) AllReadyH.nil
          go_simp
          refine hK.out _ _ ?_ (fun hHeld => ?_)
          · (try dsimp only)
            go_keep
          clear hK K
          try simp only [Act.put, List.setIfInBounds_toArray, List.set_cons_zero, List.set_cons_succ]
          refine wpAnyH_ready (rs := [13]) (by kernel_rfl) (by simp) ?_
          refine AllReadyH.cons rfl (fun K hK => ?_) AllReadyH.nil
          refine step_app Try.underlying22 info_str rfl (by omega) (by rfl) _ _ (by rfl) (Y + 1) _ _ (by rfl) (OV.alloc (OV.alloc HD.out.own _) _) ⟨wd.heap.size + 1, 0, none⟩ 1 (.string ⟨#[x, y]⟩) (by rfl) hcv rfl hls hsz ?_
          intro v' w5 ho5 hgr
          obtain ⟨va, vc, hv'⟩ := OV.slice ho5
          rw [List.length_append, ss_length, List.length_singleton] at hv'
          subst hv'
          have HP := Lib.hid (HNX.out _ w5 ho5 hgr)
          have d1 := HP.out.1
          have d2 := HP.out.2.1
          have d0 := HP.out.2.2.1
          have d3 := HP.out.2.2.2.1
          clear ho5 hgr
          refine hK.out _ _ ?_ (fun hHeld => ?_)
          · (try dsimp only)
            go_keep
          clear hK K
          try simp only [Act.put, List.setIfInBounds_toArray, List.set_cons_zero, List.set_cons_succ]
          refine wpAnyH_take (i := 14) (oi := ⟨some 51, _, _, _, _, _⟩) (v := ?vap14) rfl (by kernel_rfl) (by kernel_rfl) (by kernel_rfl) (fun _ _ _ h => h) (Or.inl ⟨by rfl, ?yap14⟩) (by assumption) ?rap14
          case yap14 => (intro w hSw; (try dsimp only at hSw); go_simp; all_goals (with_reducible rfl))
          try simp only [Act.put, List.setIfInBounds_toArray, List.set_cons_zero, List.set_cons_succ]
          refine wpAnyH_ready (rs := [15]) (by kernel_rfl) (by simp) ?_
          refine AllReadyH.cons rfl (fun K hK => ?_) AllReadyH.nil
          go_simp
          refine hK.out _ _ ?_ (fun hHeld => ?_)
          · (try dsimp only)
            go_keep
          clear hK K
          try simp only [Act.put, List.setIfInBounds_toArray, List.set_cons_zero, List.set_cons_succ]
          refine wpAnyH_done (by kernel_rfl) ?_ _
          have HD2 := Lib.hid HP.out.2.2.2.2
          clear d0 d1 d2 d3 HP c0 c1 c1a c1b k1 hcv hsz HNX hx hy
          generalize w5.setCell ⟨Y, 1, none⟩ (.slice va (l.length + 1) vc) = w6 at *
          have HLI : Hid (∀ (bb : Bool), vlB s (l ++ [⟨#[x, y]⟩]) = bb → Calls Try.prog 33 #[.pointer (some ⟨Y, 0, none⟩)] w6 fun e w' => e = .returned (.bool bb) ∧ Drd w6 w') := fun bb hbb => by
            rw [← hbb]
            exact l07Is_any s _ _ Y w6 HD2.out.lx HD2.out.own.read (by rw [HSS.out]; omega) (by simp; omega)
          cases hvl : vlB s (l ++ [⟨#[x, y]⟩]) with
          | true =>
            have HLT := Lib.hid (HLI.out true hvl)
            have HV2 := Lib.hid hvl
            clear hvl HLI
            go_wp2_with (go_at_call 33; refine HLT.out.mono ?_; rintro e w10 ⟨rfl, hd10⟩)
            obtain ⟨nd, rfl⟩ := hd10
            have HD3 := Lib.hid (HD2.out.later (below_drewN (Below.refl _ _) nd))
            go_roundw
            case rel => exact ⟨j - 1, _, _, by rw [show ((j - 1 : Nat) : Int) = (j : Int) - 1 by omega], by omega, by rw [List.length_append]; simp; omega, ⟨HD3.out.src.mono (by omega), HD3.out.lx, HD3.out.fz, HD3.out.own, HD3.out.chg, HD3.out.r0, HD3.out.r1, HD3.out.f0, HD3.out.f1, HD3.out.ord⟩, HV2⟩
            case measure => first | (simp [intOf]; done) | (simp [intOf]; omega)
          | false =>
            have HLT := Lib.hid (HLI.out false hvl)
            have hl1I : IntKind.i64.wrap ((l.length : Int) + 1 - 1) = (l.length : Int) := by rw [show (l.length : Int) + 1 - 1 = (l.length : Int) by omega]; exact IntWalk.i64_in _ (by omega)
            obtain ⟨g, hvg⟩ : ∃ g, va = some ⟨g, 0, none⟩ := by
              rcases OV.shape HD2.out.own with ⟨_, h⟩ | ⟨g, cap, h, _⟩
              · simp [ss] at h
              · simp at h; exact ⟨g, h.1⟩
            subst hvg
            have hvc : (l.length : Int) ≤ (vc : Int) := by
              have h1 := HD2.out.own.read.cap
              rw [List.length_append] at h1
              simp at h1; omega
            clear hvl HLI
            go_wp2_with (go_at_call 33; refine HLT.out.mono ?_; rintro e w10 ⟨rfl, hd10⟩; obtain ⟨nd, rfl⟩ := hd10; have HD3 := Lib.hid (HD2.out.later (below_drewN (Below.refl _ _) nd)); have e1 := HD3.out.lx.c1; have e2 := HD3.out.fz)
            have HD4 := Lib.hid (HD3.out.push (Below.refl _ _) (OS.cut HD3.out.own)).2.2
            go_roundw
            case rel => exact ⟨j - 1, _, l, by rw [show ((j - 1 : Nat) : Int) = (j : Int) - 1 by omega], by omega, by omega, ⟨HD4.out.src.mono (by omega), HD4.out.lx, HD4.out.fz, HD4.out.own, HD4.out.chg, HD4.out.r0, HD4.out.r1, HD4.out.f0, HD4.out.f1, HD4.out.ord⟩, HV⟩
            case measure => first | (simp [intOf]; done) | (simp [intOf]; omega)
        case aab =>
          go_simp
          refine hK.out _ _ ?_ (fun hHeld => ?_)
          · (try dsimp only)
            go_keep
          clear hK K
          try simp only [Act.put, List.setIfInBounds_toArray, List.set_cons_zero, List.set_cons_succ]
          refine wpAnyH_ready (rs := [1, 11]) (by kernel_rfl) (by simp) ?_
          refine AllReadyH.cons rfl (fun K hK => ?cad) (AllReadyH.cons rfl (fun K hK => ?aad) AllReadyH.nil)
          case cad =>
            go_simp
            refine hK.out _ _ ?_ (fun hHeld => ?_)
            · (try dsimp only)
              go_keep
            clear hK K
            try simp only [Act.put, List.setIfInBounds_toArray, List.set_cons_zero, List.set_cons_succ]
            refine wpAnyH_ready (rs := [11]) (by kernel_rfl) (by simp) ?_
            refine AllReadyH.cons rfl (fun K hK => ?_) AllReadyH.nil
            go_simp
            refine hK.out _ _ ?_ (fun hHeld => ?_)
            · (try dsimp only)
              go_keep
            clear hK K
            try simp only [Act.put, List.setIfInBounds_toArray, List.set_cons_zero, List.set_cons_succ]
            refine wpAnyH_ready (rs := [12]) (by kernel_rfl) (by simp) ?_
            refine AllReadyH.cons rfl (fun K hK => ?_) AllReadyH.nil
            go_simp
            refine hK.out _ _ ?_ (fun hHeld => ?_)
            · (try dsimp only)
              go_keep
            clear hK K
            try simp only [Act.put, List.setIfInBounds_toArray, List.set_cons_zero, List.set_cons_succ]
            refine wpAnyH_ready (rs := [13]) (by kernel_rfl) (by simp) ?_
            refine AllReadyH.cons rfl (fun K hK => ?_) AllReadyH.nil
            refine step_app Try.underlying22 info_str rfl (by omega) (by rfl) _ _ (by rfl) (Y + 1) _ _ (by rfl) (OV.alloc (OV.alloc HD.out.own _) _) ⟨wd.heap.size + 1, 0, none⟩ 1 (.string ⟨#[x, y]⟩) (by rfl) hcv rfl hls hsz ?_
            intro v' w5 ho5 hgr
            obtain ⟨va, vc, hv'⟩ := OV.slice ho5
            rw [List.length_append, ss_length, List.length_singleton] at hv'
            subst hv'
            have HP := Lib.hid (HNX.out _ w5 ho5 hgr)
            have d1 := HP.out.1
            have d2 := HP.out.2.1
            have d0 := HP.out.2.2.1
            have d3 := HP.out.2.2.2.1
            clear ho5 hgr
            refine hK.out _ _ ?_ (fun hHeld => ?_)
            · (try dsimp only)
              go_keep
            clear hK K
            try simp only [Act.put, List.setIfInBounds_toArray, List.set_cons_zero, List.set_cons_succ]
            refine wpAnyH_take (i := 14) (oi := ⟨some 51, _, _, _, _, _⟩) (v := ?vaq14) rfl (by kernel_rfl) (by kernel_rfl) (by kernel_rfl) (fun _ _ _ h => h) (Or.inl ⟨by rfl, ?yaq14⟩) (by assumption) ?raq14
            case yaq14 => (intro w hSw; (try dsimp only at hSw); go_simp; all_goals (with_reducible rfl))
            try simp only [Act.put, List.setIfInBounds_toArray, List.set_cons_zero, List.set_cons_succ]
            refine wpAnyH_ready (rs := [15]) (by kernel_rfl) (by simp) ?_
            refine AllReadyH.cons rfl (fun K hK => ?_) AllReadyH.nil
            go_simp
            refine hK.out _ _ ?_ (fun hHeld => ?_)
            · (try dsimp only)
              go_keep
            clear hK K
            try simp only [Act.put, List.setIfInBounds_toArray, List.set_cons_zero, List.set_cons_succ]
            refine wpAnyH_done (by kernel_rfl) ?_ _
            have HD2 := Lib.hid HP.out.2.2.2.2
            clear d0 d1 d2 d3 HP c0 c1 c1a c1b k1 hcv hsz HNX hx hy
            generalize w5.setCell ⟨Y, 1, none⟩ (.slice va (l.length + 1) vc) = w6 at *
            have HLI : Hid (∀ (bb : Bool), vlB s (l ++ [⟨#[x, y]⟩]) = bb → Calls Try.prog 33 #[.pointer (some ⟨Y, 0, none⟩)] w6 fun e w' => e = .returned (.bool bb) ∧ Drd w6 w') := fun bb hbb => by
              rw [← hbb]
              exact l07Is_any s _ _ Y w6 HD2.out.lx HD2.out.own.read (by rw [HSS.out]; omega) (by simp; omega)
            cases hvl : vlB s (l ++ [⟨#[x, y]⟩]) with
            | true =>
              have HLT := Lib.hid (HLI.out true hvl)
              have HV2 := Lib.hid hvl
              clear hvl HLI
              go_wp2_with (go_at_call 33; refine HLT.out.mono ?_; rintro e w10 ⟨rfl, hd10⟩)
              obtain ⟨nd, rfl⟩ := hd10
              have HD3 := Lib.hid (HD2.out.later (below_drewN (Below.refl _ _) nd))
              go_roundw
              case rel => exact ⟨j - 1, _, _, by rw [show ((j - 1 : Nat) : Int) = (j : Int) - 1 by omega], by omega, by rw [List.length_append]; simp; omega, ⟨HD3.out.src.mono (by omega), HD3.out.lx, HD3.out.fz, HD3.out.own, HD3.out.chg, HD3.out.r0, HD3.out.r1, HD3.out.f0, HD3.out.f1, HD3.out.ord⟩, HV2⟩
              case measure => first | (simp [intOf]; done) | (simp [intOf]; omega)
            | false =>
              have HLT := Lib.hid (HLI.out false hvl)
              have hl1I : IntKind.i64.wrap ((l.length : Int) + 1 - 1) = (l.length : Int) := by rw [show (l.length : Int) + 1 - 1 = (l.length : Int) by omega]; exact IntWalk.i64_in _ (by omega)
              obtain ⟨g, hvg⟩ : ∃ g, va = some ⟨g, 0, none⟩ := by
                rcases OV.shape HD2.out.own with ⟨_, h⟩ | ⟨g, cap, h, _⟩
                · simp [ss] at h
                · simp at h; exact ⟨g, h.1⟩
              subst hvg
              have hvc : (l.length : Int) ≤ (vc : Int) := by
                have h1 := HD2.out.own.read.cap
                rw [List.length_append] at h1
                simp at h1; omega
              clear hvl HLI
              go_wp2_with (go_at_call 33; refine HLT.out.mono ?_; rintro e w10 ⟨rfl, hd10⟩; obtain ⟨nd, rfl⟩ := hd10; have HD3 := Lib.hid (HD2.out.later (below_drewN (Below.refl _ _) nd)); have e1 := HD3.out.lx.c1; have e2 := HD3.out.fz)
              have HD4 := Lib.hid (HD3.out.push (Below.refl _ _) (OS.cut HD3.out.own)).2.2
              go_roundw
              case rel => exact ⟨j - 1, _, l, by rw [show ((j - 1 : Nat) : Int) = (j : Int) - 1 by omega], by omega, by omega, ⟨HD4.out.src.mono (by omega), HD4.out.lx, HD4.out.fz, HD4.out.own, HD4.out.chg, HD4.out.r0, HD4.out.r1, HD4.out.f0, HD4.out.f1, HD4.out.ord⟩, HV⟩
              case measure => first | (simp [intOf]; done) | (simp [intOf]; omega)
          case aad =>
            go_simp
            refine hK.out _ _ ?_ (fun hHeld => ?_)
            · (try dsimp only)
              go_keep
            clear hK K
            try simp only [Act.put, List.setIfInBounds_toArray, List.set_cons_zero, List.set_cons_succ]
            refine wpAnyH_ready (rs := [1, 12]) (by kernel_rfl) (by simp) ?_
            refine AllReadyH.cons rfl (fun K hK => ?caf) (AllReadyH.cons rfl (fun K hK => ?aaf) AllReadyH.nil)
            case caf =>
              go_simp
              refine hK.out _ _ ?_ (fun hHeld => ?_)
              · (try dsimp only)
                go_keep
              clear hK K
              try simp only [Act.put, List.setIfInBounds_toArray, List.set_cons_zero, List.set_cons_succ]
              refine wpAnyH_ready (rs := [12]) (by kernel_rfl) (by simp) ?_
              refine AllReadyH.cons rfl (fun K hK => ?_) AllReadyH.nil
              go_simp
              refine hK.out _ _ ?_ (fun hHeld => ?_)
              · (try dsimp only)
                go_keep
              clear hK K
              try simp only [Act.put, List.setIfInBounds_toArray, List.set_cons_zero, List.set_cons_succ]
              refine wpAnyH_ready (rs := [13]) (by kernel_rfl) (by simp) ?_
              refine AllReadyH.cons rfl (fun K hK => ?_) AllReadyH.nil
              refine step_app Try.underlying22 info_str rfl (by omega) (by rfl) _ _ (by rfl) (Y + 1) _ _ (by rfl) (OV.alloc (OV.alloc HD.out.own _) _) ⟨wd.heap.size + 1, 0, none⟩ 1 (.string ⟨#[x, y]⟩) (by rfl) hcv rfl hls hsz ?_
              intro v' w5 ho5 hgr
              obtain ⟨va, vc, hv'⟩ := OV.slice ho5
              rw [List.length_append, ss_length, List.length_singleton] at hv'
              subst hv'
              have HP := Lib.hid (HNX.out _ w5 ho5 hgr)
              have d1 := HP.out.1
              have d2 := HP.out.2.1
              have d0 := HP.out.2.2.1
              have d3 := HP.out.2.2.2.1
              clear ho5 hgr
              refine hK.out _ _ ?_ (fun hHeld => ?_)
              · (try dsimp only)
                go_keep
              clear hK K
              try simp only [Act.put, List.setIfInBounds_toArray, List.set_cons_zero, List.set_cons_succ]
              refine wpAnyH_take (i := 14) (oi := ⟨some 51, _, _, _, _, _⟩) (v := ?var14) rfl (by kernel_rfl) (by kernel_rfl) (by kernel_rfl) (fun _ _ _ h => h) (Or.inl ⟨by rfl, ?yar14⟩) (by assumption) ?rar14
              case yar14 => (intro w hSw; (try dsimp only at hSw); go_simp; all_goals (with_reducible rfl))
              try simp only [Act.put, List.setIfInBounds_toArray, List.set_cons_zero, List.set_cons_succ]
              refine wpAnyH_ready (rs := [15]) (by kernel_rfl) (by simp) ?_
              refine AllReadyH.cons rfl (fun K hK => ?_) AllReadyH.nil
              go_simp
              refine hK.out _ _ ?_ (fun hHeld => ?_)
              · (try dsimp only)
                go_keep
              clear hK K
              try simp only [Act.put, List.setIfInBounds_toArray, List.set_cons_zero, List.set_cons_succ]
              refine wpAnyH_done (by kernel_rfl) ?_ _
              have HD2 := Lib.hid HP.out.2.2.2.2
              clear d0 d1 d2 d3 HP c0 c1 c1a c1b k1 hcv hsz HNX hx hy
              generalize w5.setCell ⟨Y, 1, none⟩ (.slice va (l.length + 1) vc) = w6 at *
              have HLI : Hid (∀ (bb : Bool), vlB s (l ++ [⟨#[x, y]⟩]) = bb → Calls Try.prog 33 #[.pointer (some ⟨Y, 0, none⟩)] w6 fun e w' => e = .returned (.bool bb) ∧ Drd w6 w') := fun bb hbb => by
                rw [← hbb]
                exact l07Is_any s _ _ Y w6 HD2.out.lx HD2.out.own.read (by rw [HSS.out]; omega) (by simp; omega)
              cases hvl : vlB s (l ++ [⟨#[x, y]⟩]) with
              | true =>
                have HLT := Lib.hid (HLI.out true hvl)
                have HV2 := Lib.hid hvl
                clear hvl HLI
                go_wp2_with (go_at_call 33; refine HLT.out.mono ?_; rintro e w10 ⟨rfl, hd10⟩)
                obtain ⟨nd, rfl⟩ := hd10
                have HD3 := Lib.hid (HD2.out.later (below_drewN (Below.refl _ _) nd))
                go_roundw
                case rel => exact ⟨j - 1, _, _, by rw [show ((j - 1 : Nat) : Int) = (j : Int) - 1 by omega], by omega, by rw [List.length_append]; simp; omega, ⟨HD3.out.src.mono (by omega), HD3.out.lx, HD3.out.fz, HD3.out.own, HD3.out.chg, HD3.out.r0, HD3.out.r1, HD3.out.f0, HD3.out.f1, HD3.out.ord⟩, HV2⟩
                case measure => first | (simp [intOf]; done) | (simp [intOf]; omega)
              | false =>
                have HLT := Lib.hid (HLI.out false hvl)
                have hl1I : IntKind.i64.wrap ((l.length : Int) + 1 - 1) = (l.length : Int) := by rw [show (l.length : Int) + 1 - 1 = (l.length : Int) by omega]; exact IntWalk.i64_in _ (by omega)
                obtain ⟨g, hvg⟩ : ∃ g, va = some ⟨g, 0, none⟩ := by
                  rcases OV.shape HD2.out.own with ⟨_, h⟩ | ⟨g, cap, h, _⟩
                  · simp [ss] at h
                  · simp at h; exact ⟨g, h.1⟩
                subst hvg
                have hvc : (l.length : Int) ≤ (vc : Int) := by
                  have h1 := HD2.out.own.read.cap
                  rw [List.length_append] at h1
                  simp at h1; omega
                clear hvl HLI
                go_wp2_with (go_at_call 33; refine HLT.out.mono ?_; rintro e w10 ⟨rfl, hd10⟩; obtain ⟨nd, rfl⟩ := hd10; have HD3 := Lib.hid (HD2.out.later (below_drewN (Below.refl _ _) nd)); have e1 := HD3.out.lx.c1; have e2 := HD3.out.fz)
                have HD4 := Lib.hid (HD3.out.push (Below.refl _ _) (OS.cut HD3.out.own)).2.2
                go_roundw
                case rel => exact ⟨j - 1, _, l, by rw [show ((j - 1 : Nat) : Int) = (j : Int) - 1 by omega], by omega, by omega, ⟨HD4.out.src.mono (by omega), HD4.out.lx, HD4.out.fz, HD4.out.own, HD4.out.chg, HD4.out.r0, HD4.out.r1, HD4.out.f0, HD4.out.f1, HD4.out.ord⟩, HV⟩
                case measure => first | (simp [intOf]; done) | (simp [intOf]; omega)
            case aaf =>
              go_simp
              refine hK.out _ _ ?_ (fun hHeld => ?_)
              · (try dsimp only)
                go_keep
              clear hK K
              try simp only [Act.put, List.setIfInBounds_toArray, List.set_cons_zero, List.set_cons_succ]
              refine wpAnyH_ready (rs := [1]) (by kernel_rfl) (by simp) ?_
              refine AllReadyH.cons rfl (fun K hK => ?_) AllReadyH.nil
              go_simp
              refine hK.out _ _ ?_ (fun hHeld => ?_)
              · (try dsimp only)
                go_keep
              clear hK K
              try simp only [Act.put, List.setIfInBounds_toArray, List.set_cons_zero, List.set_cons_succ]
              refine wpAnyH_ready (rs := [13]) (by kernel_rfl) (by simp) ?_
              refine AllReadyH.cons rfl (fun K hK => ?_) AllReadyH.nil
              refine step_app Try.underlying22 info_str rfl (by omega) (by rfl) _ _ (by rfl) (Y + 1) _ _ (by rfl) (OV.alloc (OV.alloc HD.out.own _) _) ⟨wd.heap.size + 1, 0, none⟩ 1 (.string ⟨#[x, y]⟩) (by rfl) hcv rfl hls hsz ?_
              intro v' w5 ho5 hgr
              obtain ⟨va, vc, hv'⟩ := OV.slice ho5
              rw [List.length_append, ss_length, List.length_singleton] at hv'
              subst hv'
              have HP := Lib.hid (HNX.out _ w5 ho5 hgr)
              have d1 := HP.out.1
              have d2 := HP.out.2.1
              have d0 := HP.out.2.2.1
              have d3 := HP.out.2.2.2.1
              clear ho5 hgr
              refine hK.out _ _ ?_ (fun hHeld => ?_)
              · (try dsimp only)
                go_keep
              clear hK K
              try simp only [Act.put, List.setIfInBounds_toArray, List.set_cons_zero, List.set_cons_succ]
              refine wpAnyH_take (i := 14) (oi := ⟨some 51, _, _, _, _, _⟩) (v := ?vas14) rfl (by kernel_rfl) (by kernel_rfl) (by kernel_rfl) (fun _ _ _ h => h) (Or.inl ⟨by rfl, ?yas14⟩) (by assumption) ?ras14
              case yas14 => (intro w hSw; (try dsimp only at hSw); go_simp; all_goals (with_reducible rfl))
              try simp only [Act.put, List.setIfInBounds_toArray, List.set_cons_zero, List.set_cons_succ]
              refine wpAnyH_ready (rs := [15]) (by kernel_rfl) (by simp) ?_
              refine AllReadyH.cons rfl (fun K hK => ?_) AllReadyH.nil
              go_simp
              refine hK.out _ _ ?_ (fun hHeld => ?_)
              · (try dsimp only)
                go_keep
              clear hK K
              try simp only [Act.put, List.setIfInBounds_toArray, List.set_cons_zero, List.set_cons_succ]
              refine wpAnyH_done (by kernel_rfl) ?_ _
              have HD2 := Lib.hid HP.out.2.2.2.2
              clear d0 d1 d2 d3 HP c0 c1 c1a c1b k1 hcv hsz HNX hx hy
              generalize w5.setCell ⟨Y, 1, none⟩ (.slice va (l.length + 1) vc) = w6 at *
              have HLI : Hid (∀ (bb : Bool), vlB s (l ++ [⟨#[x, y]⟩]) = bb → Calls Try.prog 33 #[.pointer (some ⟨Y, 0, none⟩)] w6 fun e w' => e = .returned (.bool bb) ∧ Drd w6 w') := fun bb hbb => by
                rw [← hbb]
                exact l07Is_any s _ _ Y w6 HD2.out.lx HD2.out.own.read (by rw [HSS.out]; omega) (by simp; omega)
              cases hvl : vlB s (l ++ [⟨#[x, y]⟩]) with
              | true =>
                have HLT := Lib.hid (HLI.out true hvl)
                have HV2 := Lib.hid hvl
                clear hvl HLI
                go_wp2_with (go_at_call 33; refine HLT.out.mono ?_; rintro e w10 ⟨rfl, hd10⟩)
                obtain ⟨nd, rfl⟩ := hd10
                have HD3 := Lib.hid (HD2.out.later (below_drewN (Below.refl _ _) nd))
                go_roundw
                case rel => exact ⟨j - 1, _, _, by rw [show ((j - 1 : Nat) : Int) = (j : Int) - 1 by omega], by omega, by rw [List.length_append]; simp; omega, ⟨HD3.out.src.mono (by omega), HD3.out.lx, HD3.out.fz, HD3.out.own, HD3.out.chg, HD3.out.r0, HD3.out.r1, HD3.out.f0, HD3.out.f1, HD3.out.ord⟩, HV2⟩
                case measure => first | (simp [intOf]; done) | (simp [intOf]; omega)
              | false =>
                have HLT := Lib.hid (HLI.out false hvl)
                have hl1I : IntKind.i64.wrap ((l.length : Int) + 1 - 1) = (l.length : Int) := by rw [show (l.length : Int) + 1 - 1 = (l.length : Int) by omega]; exact IntWalk.i64_in _ (by omega)
                obtain ⟨g, hvg⟩ : ∃ g, va = some ⟨g, 0, none⟩ := by
                  rcases OV.shape HD2.out.own with ⟨_, h⟩ | ⟨g, cap, h, _⟩
                  · simp [ss] at h
                  · simp at h; exact ⟨g, h.1⟩
                subst hvg
                have hvc : (l.length : Int) ≤ (vc : Int) := by
                  have h1 := HD2.out.own.read.cap
                  rw [List.length_append] at h1
                  simp at h1; omega
                clear hvl HLI
                go_wp2_with (go_at_call 33; refine HLT.out.mono ?_; rintro e w10 ⟨rfl, hd10⟩; obtain ⟨nd, rfl⟩ := hd10; have HD3 := Lib.hid (HD2.out.later (below_drewN (Below.refl _ _) nd)); have e1 := HD3.out.lx.c1; have e2 := HD3.out.fz)
                have HD4 := Lib.hid (HD3.out.push (Below.refl _ _) (OS.cut HD3.out.own)).2.2
                go_roundw
                case rel => exact ⟨j - 1, _, l, by rw [show ((j - 1 : Nat) : Int) = (j : Int) - 1 by omega], by omega, by omega, ⟨HD4.out.src.mono (by omega), HD4.out.lx, HD4.out.fz, HD4.out.own, HD4.out.chg, HD4.out.r0, HD4.out.r1, HD4.out.f0, HD4.out.f1, HD4.out.ord⟩, HV⟩
                case measure => first | (simp [intOf]; done) | (simp [intOf]; omega)
      · have hjI : ¬ (0 : Int) < (j : Int) := by omega
        obtain ⟨pa, pc, hpv⟩ := HD.out.own.read.slice
        subst hpv
        have c0 := HD.out.lx.c0
        have c1 := HD.out.lx.c1
        have r0 := HD.out.r0
        have r1 := HD.out.r1
        have f0 := HD.out.f0
        have f1 := HD.out.f1
        have HFI := Lib.hid (DK.fin (m0 := m) HD.out HV.out (by omega) (by omega) (by rw [HSS.out]; omega))
        have k0 := HFI.out.1
        have k1 := HFI.out.2.1
        go_wp2_with fail
        exact bodyPost_ret (v := .agg #[.string s, .slice pa l.length pc]) (by simp [results, Try.results57, go_sem, k0, k1]) rfl HFI.out.2.2
  | false =>
    obtain ⟨hvl, hss, h35⟩ := lk_start hperm (n := n) (by omega) (by omega)
    have hxl : xs.length = 36 := by rw [hperm.length_eq, upN_len]
    have hz4 := hch.size
    obtain ⟨oa, oc, hov⟩ := hox.slice
    subst hov
    have hrx : RI w4 (.slice oa n oc) (xs.take n) := RK.take hox.read n (by omega)
    have hcap := hox.read.cap
    have HF := Lib.hid (l01From_any _ _ w4 hrx h35 (by rw [List.length_take]; omega))
    obtain ⟨s, hse⟩ : ∃ s, s = wOf (xs.take n) := ⟨_, rfl⟩
    rw [← hse] at HF hvl hss
    have q1 : (n : Int) ≤ (oc : Int) := by omega
    have q2 : (0 : Int) ≤ (n : Int) := by omega
    have HVL := Lib.hid hvl
    have HSS := Lib.hid hss
    have HCH := Lib.hid hch
    clear hvl hss h35 hrx hperm hxl hse hox hch
    go_wp2_with (go_at_call 67; refine HF.out.mono ?_; rintro e w5 ⟨rfl, hb5⟩)
    have hs5 := hs4.later hb5
    have hR5 := hb5.block w.heap.size hsz4
    have hD0 : DK p (m + 38) w.heap.size w5.heap.size s w (w5.alloc (.cells #[.string s, .slice none 0 0] 27)) (.slice none 0 0) [] := by
      have hbA : Below w5.heap.size w5 (w5.alloc (.cells #[.string s, .slice none 0 0] 27)) := (Below.refl _ _).alloc (Nat.le_refl _) _
      have hz5 := hb5.size
      have hRA := hbA.block w.heap.size (by omega)
      refine ⟨hs5.later hbA, ⟨World.cell?_alloc_at _ _ _ _ rfl, World.cell?_alloc_at _ _ _ _ rfl⟩, ?_, OV.nil _ _ _, HCH.out.trans ⟨(hb5.trans (hbA.mono hz5)).os, (hb5.trans (hbA.mono hz5)).tape, (hb5.trans (hbA.mono hz5)).output, (hb5.trans (hbA.mono hz5)).size, fun k hk _ => (hb5.trans (hbA.mono hz5)).block k hk⟩, (cell_keep (hRA.trans hR5)).trans hR0, (cell_keep (hRA.trans hR5)).trans hR1, (frozen_keep (hRA.trans hR5)).trans (hRF4 0), (frozen_keep (hRA.trans hR5)).trans (hRF4 1), ⟨hpl, Nat.le_refl _⟩, by omega, by simp⟩
      have h9 : (w5.alloc (.cells #[.string s, .slice none 0 0] 27)).heap[w5.heap.size]? = some (.cells #[.string s, .slice none 0 0] 27 (0, 0)) := heap_alloc_new w5 _
      unfold World.frozen?; simp only [h9]; rfl
    generalize w5.alloc (.cells #[.string s, .slice none 0 0] 27) = w6 at *
    obtain ⟨Y, hY⟩ : ∃ Y, Y = w5.heap.size := ⟨_, rfl⟩
    rw [← hY] at hD0 ⊢
    have HD0 := Lib.hid hD0
    clear hR0 hR1 hRF4 hb5 hs4 hs5 hR5 hD0 hY hz4
    refine (pick_any p _ 12 _ HD0.out.src (by omega) (by omega)).mono ?_
    rintro e w7 ⟨z12, rfl, hz12, hs7, hc7⟩
    have HD7 := Lib.hid (HD0.out.pick hs7 hc7)
    obtain ⟨j0, rfl⟩ := Int.eq_ofNat_of_zero_le hz12.1
    clear HD0 hs7 hc7
    go_wp2_with fail
    go_loopw [6] (fun jv wr => ∃ (j : Nat) (pv : Value) (l : List ByteArray), jv = .int .i64 j ∧ j ≤ 11 ∧ l.length + j ≤ 11 ∧ Hid (DK p (m + 39 + 2 * (11 - j)) w.heap.size Y s w wr pv l) ∧ Hid (vlB s l = true)) (fun jv _ => (intOf jv).toNat)
    case atStart => exact ⟨j0, _, [], rfl, by omega, by simp; omega, ⟨HD7.out.src.mono (by omega), HD7.out.lx, HD7.out.fz, HD7.out.own, HD7.out.chg, HD7.out.r0, HD7.out.r1, HD7.out.f0, HD7.out.f1, HD7.out.ord⟩, HVL.out⟩
    case round =>
      clear HD7 hz12
      obtain ⟨j, pv, l, rfl, hj, hlj, HD, HV⟩ := hrel
      by_cases hj0 : 0 < j
      · have hjI : (0 : Int) < (j : Int) := by omega
        by_cases hn1 : 1 < n
        · have hn1I : (1 : Int) < (n : Int) := by omega
          have hsN := HSS.out
          go_wp2_with fail
          refine (pick_any p _ n _ HD.out.src (by omega) (by omega)).mono ?_
          rintro e w8 ⟨a0, rfl, ha, hs8, hc8⟩
          have HD8 := Lib.hid (HD.out.pick hs8 hc8)
          obtain ⟨a, rfl⟩ := Int.eq_ofNat_of_zero_le ha.1
          clear HD hs8 hc8
          go_wp2_with fail
          refine (pick_any p _ n _ HD8.out.src (by omega) (by omega)).mono ?_
          rintro e w9 ⟨b0, rfl, hb, hs9, hc9⟩
          have HD := Lib.hid (HD8.out.pick hs9 hc9)
          obtain ⟨b, rfl⟩ := Int.eq_ofNat_of_zero_le hb.1
          have haN : a < s.size := by omega
          have hbN : b < s.size := by omega
          have haI : (a : Int) < (s.size : Int) := by omega
          have hbI : (b : Int) < (s.size : Int) := by omega
          obtain ⟨x, hx⟩ : ∃ x, s[a] = x := ⟨_, rfl⟩
          obtain ⟨y, hy⟩ : ∃ y, s[b] = y := ⟨_, rfl⟩
          clear HD8 hs9 hc9 hsN
          go_wp2_with fail
          have HDd := Lib.hid (HD.out.later (Below.refl _ _).drew)
          clear HD
          have HD := HDd
          clear HDd
          obtain ⟨pa, pc, hpv⟩ := HD.out.own.read.slice
          subst hpv
          have c0 := HD.out.lx.c0
          have c1 := HD.out.lx.c1
          refine wp_region_held_drew (S := fun w' => w'.cell? ⟨Y, 0, none⟩ = some (.string s)) (by kernel_rfl) c0 (fun hHeld => ?_)
          generalize w9.drew = wd at *
          refine wpAnyH_take (i := 0) (oi := ⟨some 37, _, _, _, _, _⟩) (v := ?vk0) rfl (by kernel_rfl) (by kernel_rfl) (by kernel_rfl) (fun _ _ _ h => h) (Or.inl ⟨by rfl, ?yk0⟩) (by assumption) ?rk0
          case yk0 => (intro w hSw; (try dsimp only at hSw); go_simp; all_goals (with_reducible rfl))
          try simp only [Act.put, List.setIfInBounds_toArray, List.set_cons_zero, List.set_cons_succ]
          refine wpAnyH_take (i := 2) (oi := ⟨some 39, _, _, _, _, _⟩) (v := ?vk2) rfl (by kernel_rfl) (by kernel_rfl) (by kernel_rfl) (fun _ _ _ h => h) (Or.inl ⟨by rfl, ?yk2⟩) (by assumption) ?rk2
          case yk2 => (intro w hSw; (try dsimp only at hSw); go_simp; all_goals (with_reducible rfl))
          try simp only [Act.put, List.setIfInBounds_toArray, List.set_cons_zero, List.set_cons_succ]
          refine wpAnyH_take (i := 3) (oi := ⟨some 40, _, _, _, _, _⟩) (v := ?vk3) rfl (by kernel_rfl) (by kernel_rfl) (by kernel_rfl) (fun _ _ _ h => h) (Or.inl ⟨by rfl, ?yk3⟩) (by assumption) ?rk3
          case yk3 => (intro w hSw; (try dsimp only at hSw); go_simp; all_goals (with_reducible rfl))
          try simp only [Act.put, List.setIfInBounds_toArray, List.set_cons_zero, List.set_cons_succ]
          refine wpAnyH_take (i := 4) (oi := ⟨some 41, _, _, _, _, _⟩) (v := ?vk4) rfl (by kernel_rfl) (by kernel_rfl) (by kernel_rfl) (fun _ _ _ h => h) (Or.inl ⟨by rfl, ?yk4⟩) (by assumption) ?rk4
          case yk4 => (intro w hSw; (try dsimp only at hSw); go_simp; all_goals (with_reducible rfl))
          try simp only [Act.put, List.setIfInBounds_toArray, List.set_cons_zero, List.set_cons_succ]
          refine wpAnyH_take (i := 5) (oi := ⟨some 42, _, _, _, _, _⟩) (v := ?vk5) rfl (by kernel_rfl) (by kernel_rfl) (by kernel_rfl) (fun _ _ _ h => h) (Or.inl ⟨by rfl, ?yk5⟩) (by assumption) ?rk5
          case yk5 => (intro w hSw; (try dsimp only at hSw); go_simp; all_goals (with_reducible rfl))
          try simp only [Act.put, List.setIfInBounds_toArray, List.set_cons_zero, List.set_cons_succ]
          refine wpAnyH_take (i := 6) (oi := ⟨some 43, _, _, _, _, _⟩) (v := ?vk6) rfl (by kernel_rfl) (by kernel_rfl) (by kernel_rfl) (fun _ _ _ h => h) (Or.inl ⟨by rfl, ?yk6⟩) (by assumption) ?rk6
          case yk6 => (intro w hSw; (try dsimp only at hSw); go_simp; all_goals (with_reducible rfl))
          try simp only [Act.put, List.setIfInBounds_toArray, List.set_cons_zero, List.set_cons_succ]
          refine wpAnyH_take (i := 7) (oi := ⟨some 44, _, _, _, _, _⟩) (v := ?vk7) rfl (by kernel_rfl) (by kernel_rfl) (by kernel_rfl) (fun _ _ _ h => h) (Or.inl ⟨by rfl, ?yk7⟩) (by assumption) ?rk7
          case yk7 => (intro w hSw; (try dsimp only at hSw); go_simp; all_goals (with_reducible rfl))
          try simp only [Act.put, List.setIfInBounds_toArray, List.set_cons_zero, List.set_cons_succ]
          refine wpAnyH_take (i := 8) (oi := ⟨some 45, _, _, _, _, _⟩) (v := ?vk8) rfl (by kernel_rfl) (by kernel_rfl) (by kernel_rfl) (fun _ _ _ h => h) (Or.inl ⟨by rfl, ?yk8⟩) (by assumption) ?rk8
          case yk8 => (intro w hSw; (try dsimp only at hSw); go_simp; all_goals (with_reducible rfl))
          try simp only [Act.put, List.setIfInBounds_toArray, List.set_cons_zero, List.set_cons_succ]
          refine wpAnyH_take (i := 9) (oi := ⟨some 46, _, _, _, _, _⟩) (v := ?vk9) rfl (by kernel_rfl) (by kernel_rfl) (by kernel_rfl) (fun _ _ _ h => h) (Or.inl ⟨by rfl, ?yk9⟩) (by assumption) ?rk9
          case yk9 => (intro w hSw; (try dsimp only at hSw); go_simp; all_goals (with_reducible rfl))
          try simp only [Act.put, List.setIfInBounds_toArray, List.set_cons_zero, List.set_cons_succ]
          have k1 := conv2a x y wd
          have hzY := HD.out.ord.2.2
          have c1a : (wd.alloc (.cells #[.int .u8 (x.toNat : Int), .int .u8 (y.toNat : Int)] 5)).cell? ⟨Y, 1, none⟩ = some (.slice pa l.length pc) := (World.cell?_alloc_lt _ _ _ hzY).trans c1
          have c1b : ((wd.alloc (.cells #[.int .u8 (x.toNat : Int), .int .u8 (y.toNat : Int)] 5)).alloc (.cells #[.string ⟨#[x, y]⟩] 9)).cell? ⟨Y, 1, none⟩ = some (.slice pa l.length pc) := (World.cell?_alloc_lt _ _ _ (by simp; omega)).trans c1a
          have hls : (ss l).length ≤ 1099511627776 := by rw [ss_length]; omega
          have hsz : Y + 1 ≤ ((wd.alloc (.cells #[.int .u8 (x.toNat : Int), .int .u8 (y.toNat : Int)] 5)).alloc (.cells #[.string ⟨#[x, y]⟩] 9)).heap.size := by simp; omega
          have hcv : ((wd.alloc (.cells #[.int .u8 (x.toNat : Int), .int .u8 (y.toNat : Int)] 5)).alloc (.cells #[.string ⟨#[x, y]⟩] 9)).cell? ⟨wd.heap.size + 1, 0, none⟩ = some (.string ⟨#[x, y]⟩) := by
            rw [show wd.heap.size + 1 = (wd.alloc (.cells #[.int .u8 (x.toNat : Int), .int .u8 (y.toNat : Int)] 5)).heap.size by simp]
            exact World.cell?_alloc_at _ _ _ _ rfl
          have HNX : Hid (∀ v' w5, OV 9 (Y + 1) w5 v' (ss l ++ [.string ⟨#[x, y]⟩]) → ((wd.alloc (.cells #[.int .u8 (x.toNat : Int), .int .u8 (y.toNat : Int)] 5)).alloc (.cells #[.string ⟨#[x, y]⟩] 9)).grownBy w5 (Value.slice pa l.length pc).ownBlock →
              w5.cell? ⟨Y, 1, none⟩ = some (.slice pa l.length pc) ∧ w5.frozen? ⟨Y, 1, none⟩ = false ∧ w5.cell? ⟨Y, 0, none⟩ = some (.string s) ∧ (w5.setCell ⟨Y, 1, none⟩ v').cell? ⟨Y, 0, none⟩ = some (.string s) ∧
              DK p (m + 39 + 2 * (11 - j) + 1 + 1) w.heap.size Y s w (w5.setCell ⟨Y, 1, none⟩ v') v' (l ++ [⟨#[x, y]⟩])) := fun v' w5 ho hg => by
            have hbA : Below wd.heap.size wd ((wd.alloc (.cells #[.int .u8 (x.toNat : Int), .int .u8 (y.toNat : Int)] 5)).alloc (.cells #[.string ⟨#[x, y]⟩] 9)) := ((Below.refl _ _).alloc (Nat.le_refl _) _).alloc (by simp) _
            have hb5 : Below (Y + 1) wd w5 := own_below (hbA.mono hzY) (OV.alloc (OV.alloc HD.out.own _) _) hg hsz
            have ho2 : OS (Y + 1) w5 v' (l ++ [⟨#[x, y]⟩]) := by unfold OS; simpa [ss] using ho
            obtain ⟨p1, p2, p3⟩ := HD.out.push hb5 ho2
            exact ⟨p1, p2, (cell_keep (hb5.block Y (by omega))).trans HD.out.lx.c0, p3.lx.c0, p3⟩
          refine wpAnyH_ready (rs := [1, 10]) (by kernel_rfl) (by simp) ?_
          refine AllReadyH.cons rfl (fun K hK => ?ckb) (AllReadyH.cons rfl (fun K hK => ?akb) AllReadyH.nil)
          case ckb =>
            go_simp
            refine hK.out _ _ ?_ (fun hHeld => ?_)
            · (try dsimp only)
              go_keep
            clear hK K
            try simp only [Act.put, List.setIfInBounds_toArray, List.set_cons_zero, List.set_cons_succ]
            refine wpAnyH_ready (rs := [10]) (by kernel_rfl) (by simp) ?_
            refine AllReadyH.cons rfl (fun K hK => ?_) AllReadyH.nil
            go_simp
            refine hK.out _ _ ?_ (fun hHeld => ?_)
            · (try dsimp only)
              go_keep
            clear hK K
            try simp only [Act.put, List.setIfInBounds_toArray, List.set_cons_zero, List.set_cons_succ]
            refine wpAnyH_ready (rs := [11]) (by kernel_rfl) (by simp) ?_
            refine AllReadyH.cons rfl (fun K hK => ?_) AllReadyH.nil
            go_simp
            refine hK.out _ _ ?_ (fun hHeld => ?_)
            · (try dsimp only)
              go_keep
            clear hK K
            try simp only [Act.put, List.setIfInBounds_toArray, List.set_cons_zero, List.set_cons_succ]
            refine wpAnyH_ready (rs := [12]) (by kernel_rfl) (by simp) ?_
            refine AllReadyH.cons rfl (fun K hK => ?_) AllReadyH.nil
            go_simp
            refine hK.out _ _ ?_ (fun hHeld => ?_)
            · (try dsimp only)
              go_keep
            clear hK K
            try simp only [Act.put, List.setIfInBounds_toArray, List.set_cons_zero, List.set_cons_succ]
            refine wpAnyH_ready (rs := [13]) (by kernel_rfl) (by simp) ?_
            refine AllReadyH.cons rfl (fun K hK => ?_) AllReadyH.nil
            refine step_app Try.underlying22 info_str rfl (by omega) (by rfl) _ _ (by rfl) (Y + 1) _ _ (by rfl) (OV.alloc (OV.alloc HD.out.own _) _) ⟨wd.heap.size + 1, 0, none⟩ 1 (.string ⟨#[x, y]⟩) (by rfl) hcv rfl hls hsz ?_
            intro v' w5 ho5 hgr
            obtain ⟨va, vc, hv'⟩ := OV.slice ho5
            rw [List.length_append, ss_length, List.length_singleton] at hv'
            subst hv'
            have HP := Lib.hid (HNX.out _ w5 ho5 hgr)
            have d1 := HP.out.1
            have d2 := HP.out.2.1
            have d0 := HP.out.2.2.1
            have d3 := HP.out.2.2.2.1
            clear ho5 hgr
            refine hK.out _ _ ?_ (fun hHeld => ?_)
            · (try dsimp only)
              go_keep
            clear hK K
            try simp only [Act.put, List.setIfInBounds_toArray, List.set_cons_zero, List.set_cons_succ]
            refine wpAnyH_take (i := 14) (oi := ⟨some 51, _, _, _, _, _⟩) (v := ?vkp14) rfl (by kernel_rfl) (by kernel_rfl) (by kernel_rfl) (fun _ _ _ h => h) (Or.inl ⟨by rfl, ?ykp14⟩) (by assumption) ?rkp14
            case ykp14 => (intro w hSw; (try dsimp only at hSw); go_simp; all_goals (with_reducible rfl))
            try simp only [Act.put, List.setIfInBounds_toArray, List.set_cons_zero, List.set_cons_succ]
            refine wpAnyH_ready (rs := [15]) (by kernel_rfl) (by simp) ?_
            refine AllReadyH.cons rfl (fun K hK => ?_) AllReadyH.nil
            go_simp
            refine hK.out _ _ ?_ (fun hHeld => ?_)
            · (try dsimp only)
              go_keep
            clear hK K
            try simp only [Act.put, List.setIfInBounds_toArray, List.set_cons_zero, List.set_cons_succ]
            refine wpAnyH_done (by kernel_rfl) ?_ _
            have HD2 := Lib.hid HP.out.2.2.2.2
            clear d0 d1 d2 d3 HP c0 c1 c1a c1b k1 hcv hsz HNX hx hy
            generalize w5.setCell ⟨Y, 1, none⟩ (.slice va (l.length + 1) vc) = w6 at *
            have HLI : Hid (∀ (bb : Bool), vlB s (l ++ [⟨#[x, y]⟩]) = bb → Calls Try.prog 33 #[.pointer (some ⟨Y, 0, none⟩)] w6 fun e w' => e = .returned (.bool bb) ∧ Drd w6 w') := fun bb hbb => by
              rw [← hbb]
              exact l07Is_any s _ _ Y w6 HD2.out.lx HD2.out.own.read (by rw [HSS.out]; omega) (by simp; omega)
            cases hvl : vlB s (l ++ [⟨#[x, y]⟩]) with
            | true =>
              have HLT := Lib.hid (HLI.out true hvl)
              have HV2 := Lib.hid hvl
              clear hvl HLI
              go_wp2_with (go_at_call 33; refine HLT.out.mono ?_; rintro e w10 ⟨rfl, hd10⟩)
              obtain ⟨nd, rfl⟩ := hd10
              have HD3 := Lib.hid (HD2.out.later (below_drewN (Below.refl _ _) nd))
              go_roundw
              case rel => exact ⟨j - 1, _, _, by rw [show ((j - 1 : Nat) : Int) = (j : Int) - 1 by omega], by omega, by rw [List.length_append]; simp; omega, ⟨HD3.out.src.mono (by omega), HD3.out.lx, HD3.out.fz, HD3.out.own, HD3.out.chg, HD3.out.r0, HD3.out.r1, HD3.out.f0, HD3.out.f1, HD3.out.ord⟩, HV2⟩
              case measure => first | (simp [intOf]; done) | (simp [intOf]; omega)
            | false =>
              have HLT := Lib.hid (HLI.out false hvl)
              have hl1I : IntKind.i64.wrap ((l.length : Int) + 1 - 1) = (l.length : Int) := by rw [show (l.length : Int) + 1 - 1 = (l.length : Int) by omega]; exact IntWalk.i64_in _ (by omega)
              obtain ⟨g, hvg⟩ : ∃ g, va = some ⟨g, 0, none⟩ := by
                rcases OV.shape HD2.out.own with ⟨_, h⟩ | ⟨g, cap, h, _⟩
                · simp [ss] at h
                · simp at h; exact ⟨g, h.1⟩
              subst hvg
              have hvc : (l.length : Int) ≤ (vc : Int) := by
                have h1 := HD2.out.own.read.cap
                rw [List.length_append] at h1
                simp at h1; omega
              clear hvl HLI
              go_wp2_with (go_at_call 33; refine HLT.out.mono ?_; rintro e w10 ⟨rfl, hd10⟩; obtain ⟨nd, rfl⟩ := hd10; have HD3 := Lib.hid (HD2.out.later (below_drewN (Below.refl _ _) nd)); have e1 := HD3.out.lx.c1; have e2 := HD3.out.fz)
              have HD4 := Lib.hid (HD3.out.push (Below.refl _ _) (OS.cut HD3.out.own)).2.2
              go_roundw
              case rel => exact ⟨j - 1, _, l, by rw [show ((j - 1 : Nat) : Int) = (j : Int) - 1 by omega], by omega, by omega, ⟨HD4.out.src.mono (by omega), HD4.out.lx, HD4.out.fz, HD4.out.own, HD4.out.chg, HD4.out.r0, HD4.out.r1, HD4.out.f0, HD4.out.f1, HD4.out.ord⟩, HV⟩
              case measure => first | (simp [intOf]; done) | (simp [intOf]; omega)
          case akb =>
            go_simp
            refine hK.out _ _ ?_ (fun hHeld => ?_)
            · (try dsimp only)
              go_keep
            clear hK K
            try simp only [Act.put, List.setIfInBounds_toArray, List.set_cons_zero, List.set_cons_succ]
            refine wpAnyH_ready (rs := [1, 11]) (by kernel_rfl) (by simp) ?_
            refine AllReadyH.cons rfl (fun K hK => ?ckd) (AllReadyH.cons rfl (fun K hK => ?akd) AllReadyH.nil)
            case ckd =>
              go_simp
              refine hK.out _ _ ?_ (fun hHeld => ?_)
              · (try dsimp only)
                go_keep
              clear hK K
              try simp only [Act.put, List.setIfInBounds_toArray, List.set_cons_zero, List.set_cons_succ]
              refine wpAnyH_ready (rs := [11]) (by kernel_rfl) (by simp) ?_
              refine AllReadyH.cons rfl (fun K hK => ?_) AllReadyH.nil
              go_simp
              refine hK.out _ _ ?_ (fun hHeld => ?_)
              · (try dsimp only)
                go_keep
              clear hK K
              try simp only [Act.put, List.setIfInBounds_toArray, List.set_cons_zero, List.set_cons_succ]
              refine wpAnyH_ready (rs := [12]) (by kernel_rfl) (by simp) ?_
              refine AllReadyH.cons rfl (fun K hK => ?_) AllReadyH.nil
              go_simp
              refine hK.out _ _ ?_ (fun hHeld => ?_)
              · (try dsimp only)
                go_keep
              clear hK K
              try simp only [Act.put, List.setIfInBounds_toArray, List.set_cons_zero, List.set_cons_succ]
              refine wpAnyH_ready (rs := [13]) (by kernel_rfl) (by simp) ?_
              refine AllReadyH.cons rfl (fun K hK => ?_) AllReadyH.nil
              refine step_app Try.underlying22 info_str rfl (by omega) (by rfl) _ _ (by rfl) (Y + 1) _ _ (by rfl) (OV.alloc (OV.alloc HD.out.own _) _) ⟨wd.heap.size + 1, 0, none⟩ 1 (.string ⟨#[x, y]⟩) (by rfl) hcv rfl hls hsz ?_
              intro v' w5 ho5 hgr
              obtain ⟨va, vc, hv'⟩ := OV.slice ho5
              rw [List.length_append, ss_length, List.length_singleton] at hv'
              subst hv'
              have HP := Lib.hid (HNX.out _ w5 ho5 hgr)
              have d1 := HP.out.1
              have d2 := HP.out.2.1
              have d0 := HP.out.2.2.1
              have d3 := HP.out.2.2.2.1
              clear ho5 hgr
              refine hK.out _ _ ?_ (fun hHeld => ?_)
              · (try dsimp only)
                go_keep
              clear hK K
              try simp only [Act.put, List.setIfInBounds_toArray, List.set_cons_zero, List.set_cons_succ]
              refine wpAnyH_take (i := 14) (oi := ⟨some 51, _, _, _, _, _⟩) (v := ?vkq14) rfl (by kernel_rfl) (by kernel_rfl) (by kernel_rfl) (fun _ _ _ h => h) (Or.inl ⟨by rfl, ?ykq14⟩) (by assumption) ?rkq14
              case ykq14 => (intro w hSw; (try dsimp only at hSw); go_simp; all_goals (with_reducible rfl))
              try simp only [Act.put, List.setIfInBounds_toArray, List.set_cons_zero, List.set_cons_succ]
              refine wpAnyH_ready (rs := [15]) (by kernel_rfl) (by simp) ?_
              refine AllReadyH.cons rfl (fun K hK => ?_) AllReadyH.nil
              go_simp
              refine hK.out _ _ ?_ (fun hHeld => ?_)
              · (try dsimp only)
                go_keep
              clear hK K
              try simp only [Act.put, List.setIfInBounds_toArray, List.set_cons_zero, List.set_cons_succ]
              refine wpAnyH_done (by kernel_rfl) ?_ _
              have HD2 := Lib.hid HP.out.2.2.2.2
              clear d0 d1 d2 d3 HP c0 c1 c1a c1b k1 hcv hsz HNX hx hy
              generalize w5.setCell ⟨Y, 1, none⟩ (.slice va (l.length + 1) vc) = w6 at *
              have HLI : Hid (∀ (bb : Bool), vlB s (l ++ [⟨#[x, y]⟩]) = bb → Calls Try.prog 33 #[.pointer (some ⟨Y, 0, none⟩)] w6 fun e w' => e = .returned (.bool bb) ∧ Drd w6 w') := fun bb hbb => by
                rw [← hbb]
                exact l07Is_any s _ _ Y w6 HD2.out.lx HD2.out.own.read (by rw [HSS.out]; omega) (by simp; omega)
              cases hvl : vlB s (l ++ [⟨#[x, y]⟩]) with
              | true =>
                have HLT := Lib.hid (HLI.out true hvl)
                have HV2 := Lib.hid hvl
                clear hvl HLI
                go_wp2_with (go_at_call 33; refine HLT.out.mono ?_; rintro e w10 ⟨rfl, hd10⟩)
                obtain ⟨nd, rfl⟩ := hd10
                have HD3 := Lib.hid (HD2.out.later (below_drewN (Below.refl _ _) nd))
                go_roundw
                case rel => exact ⟨j - 1, _, _, by rw [show ((j - 1 : Nat) : Int) = (j : Int) - 1 by omega], by omega, by rw [List.length_append]; simp; omega, ⟨HD3.out.src.mono (by omega), HD3.out.lx, HD3.out.fz, HD3.out.own, HD3.out.chg, HD3.out.r0, HD3.out.r1, HD3.out.f0, HD3.out.f1, HD3.out.ord⟩, HV2⟩
                case measure => first | (simp [intOf]; done) | (simp [intOf]; omega)
              | false =>
                have HLT := Lib.hid (HLI.out false hvl)
                have hl1I : IntKind.i64.wrap ((l.length : Int) + 1 - 1) = (l.length : Int) := by rw [show (l.length : Int) + 1 - 1 = (l.length : Int) by omega]; exact IntWalk.i64_in _ (by omega)
                obtain ⟨g, hvg⟩ : ∃ g, va = some ⟨g, 0, none⟩ := by
                  rcases OV.shape HD2.out.own with ⟨_, h⟩ | ⟨g, cap, h, _⟩
                  · simp [ss] at h
                  · simp at h; exact ⟨g, h.1⟩
                subst hvg
                have hvc : (l.length : Int) ≤ (vc : Int) := by
                  have h1 := HD2.out.own.read.cap
                  rw [List.length_append] at h1
                  simp at h1; omega
                clear hvl HLI
                go_wp2_with (go_at_call 33; refine HLT.out.mono ?_; rintro e w10 ⟨rfl, hd10⟩; obtain ⟨nd, rfl⟩ := hd10; have HD3 := Lib.hid (HD2.out.later (below_drewN (Below.refl _ _) nd)); have e1 := HD3.out.lx.c1; have e2 := HD3.out.fz)
                have HD4 := Lib.hid (HD3.out.push (Below.refl _ _) (OS.cut HD3.out.own)).2.2
                go_roundw
                case rel => exact ⟨j - 1, _, l, by rw [show ((j - 1 : Nat) : Int) = (j : Int) - 1 by omega], by omega, by omega, ⟨HD4.out.src.mono (by omega), HD4.out.lx, HD4.out.fz, HD4.out.own, HD4.out.chg, HD4.out.r0, HD4.out.r1, HD4.out.f0, HD4.out.f1, HD4.out.ord⟩, HV⟩
                case measure => first | (simp [intOf]; done) | (simp [intOf]; omega)
            case akd =>
              go_simp
              refine hK.out _ _ ?_ (fun hHeld => ?_)
              · (try dsimp only)
                go_keep
              clear hK K
              try simp only [Act.put, List.setIfInBounds_toArray, List.set_cons_zero, List.set_cons_succ]
              refine wpAnyH_ready (rs := [1, 12]) (by kernel_rfl) (by simp) ?_
              refine AllReadyH.cons rfl (fun K hK => ?ckf) (AllReadyH.cons rfl (fun K hK => ?akf) AllReadyH.nil)
              case ckf =>
                go_simp
                refine hK.out _ _ ?_ (fun hHeld => ?_)
                · (try dsimp only)
                  go_keep
                clear hK K
                try simp only [Act.put, List.setIfInBounds_toArray, List.set_cons_zero, List.set_cons_succ]
                refine wpAnyH_ready (rs := [12]) (by kernel_rfl) (by simp) ?_
                refine AllReadyH.cons rfl (fun K hK => ?_) AllReadyH.nil
                go_simp
                refine hK.out _ _ ?_ (fun hHeld => ?_)
                · (try dsimp only)
                  go_keep
                clear hK K
                try simp only [Act.put, List.setIfInBounds_toArray, List.set_cons_zero, List.set_cons_succ]
                refine wpAnyH_ready (rs := [13]) (by kernel_rfl) (by simp) ?_
                refine AllReadyH.cons rfl (fun K hK => ?_) AllReadyH.nil
                refine step_app Try.underlying22 info_str rfl (by omega) (by rfl) _ _ (by rfl) (Y + 1) _ _ (by rfl) (OV.alloc (OV.alloc HD.out.own _) _) ⟨wd.heap.size + 1, 0, none⟩ 1 (.string ⟨#[x, y]⟩) (by rfl) hcv rfl hls hsz ?_
                intro v' w5 ho5 hgr
                obtain ⟨va, vc, hv'⟩ := OV.slice ho5
                rw [List.length_append, ss_length, List.length_singleton] at hv'
                subst hv'
                have HP := Lib.hid (HNX.out _ w5 ho5 hgr)
                have d1 := HP.out.1
                have d2 := HP.out.2.1
                have d0 := HP.out.2.2.1
                have d3 := HP.out.2.2.2.1
                clear ho5 hgr
                refine hK.out _ _ ?_ (fun hHeld => ?_)
                · (try dsimp only)
                  go_keep
                clear hK K
                try simp only [Act.put, List.setIfInBounds_toArray, List.set_cons_zero, List.set_cons_succ]
                refine wpAnyH_take (i := 14) (oi := ⟨some 51, _, _, _, _, _⟩) (v := ?vkr14) rfl (by kernel_rfl) (by kernel_rfl) (by kernel_rfl) (fun _ _ _ h => h) (Or.inl ⟨by rfl, ?ykr14⟩) (by assumption) ?rkr14
                case ykr14 => (intro w hSw; (try dsimp only at hSw); go_simp; all_goals (with_reducible rfl))
                try simp only [Act.put, List.setIfInBounds_toArray, List.set_cons_zero, List.set_cons_succ]
                refine wpAnyH_ready (rs := [15]) (by kernel_rfl) (by simp) ?_
                refine AllReadyH.cons rfl (fun K hK => ?_) AllReadyH.nil
                go_simp
                refine hK.out _ _ ?_ (fun hHeld => ?_)
                · (try dsimp only)
                  go_keep
                clear hK K
                try simp only [Act.put, List.setIfInBounds_toArray, List.set_cons_zero, List.set_cons_succ]
                refine wpAnyH_done (by kernel_rfl) ?_ _
                have HD2 := Lib.hid HP.out.2.2.2.2
                clear d0 d1 d2 d3 HP c0 c1 c1a c1b k1 hcv hsz HNX hx hy
                generalize w5.setCell ⟨Y, 1, none⟩ (.slice va (l.length + 1) vc) = w6 at *
                have HLI : Hid (∀ (bb : Bool), vlB s (l ++ [⟨#[x, y]⟩]) = bb → Calls Try.prog 33 #[.pointer (some ⟨Y, 0, none⟩)] w6 fun e w' => e = .returned (.bool bb) ∧ Drd w6 w') := fun bb hbb => by
                  rw [← hbb]
                  exact l07Is_any s _ _ Y w6 HD2.out.lx HD2.out.own.read (by rw [HSS.out]; omega) (by simp; omega)
                cases hvl : vlB s (l ++ [⟨#[x, y]⟩]) with
                | true =>
                  have HLT := Lib.hid (HLI.out true hvl)
                  have HV2 := Lib.hid hvl
                  clear hvl HLI
                  go_wp2_with (go_at_call 33; refine HLT.out.mono ?_; rintro e w10 ⟨rfl, hd10⟩)
                  obtain ⟨nd, rfl⟩ := hd10
                  have HD3 := Lib.hid (HD2.out.later (below_drewN (Below.refl _ _) nd))
                  go_roundw
                  case rel => exact ⟨j - 1, _, _, by rw [show ((j - 1 : Nat) : Int) = (j : Int) - 1 by omega], by omega, by rw [List.length_append]; simp; omega, ⟨HD3.out.src.mono (by omega), HD3.out.lx, HD3.out.fz, HD3.out.own, HD3.out.chg, HD3.out.r0, HD3.out.r1, HD3.out.f0, HD3.out.f1, HD3.out.ord⟩, HV2⟩
                  case measure => first | (simp [intOf]; done) | (simp [intOf]; omega)
                | false =>
                  have HLT := Lib.hid (HLI.out false hvl)
                  have hl1I : IntKind.i64.wrap ((l.length : Int) + 1 - 1) = (l.length : Int) := by rw [show (l.length : Int) + 1 - 1 = (l.length : Int) by omega]; exact IntWalk.i64_in _ (by omega)
                  obtain ⟨g, hvg⟩ : ∃ g, va = some ⟨g, 0, none⟩ := by
                    rcases OV.shape HD2.out.own with ⟨_, h⟩ | ⟨g, cap, h, _⟩
                    · simp [ss] at h
                    · simp at h; exact ⟨g, h.1⟩
                  subst hvg
                  have hvc : (l.length : Int) ≤ (vc : Int) := by
                    have h1 := HD2.out.own.read.cap
                    rw [List.length_append] at h1
                    simp at h1; omega
                  clear hvl HLI
                  go_wp2_with (go_at_call 33; refine HLT.out.mono ?_; rintro e w10 ⟨rfl, hd10⟩; obtain ⟨nd, rfl⟩ := hd10; have HD3 := Lib.hid (HD2.out.later (below_drewN (Below.refl _ _) nd)); have e1 := HD3.out.lx.c1; have e2 := HD3.out.fz)
                  have HD4 := Lib.hid (HD3.out.push (Below.refl _ _) (OS.cut HD3.out.own)).2.2
                  go_roundw
                  case rel => exact ⟨j - 1, _, l, by rw [show ((j - 1 : Nat) : Int) = (j : Int) - 1 by omega], by omega, by omega, ⟨HD4.out.src.mono (by omega), HD4.out.lx, HD4.out.fz, HD4.out.own, HD4.out.chg, HD4.out.r0, HD4.out.r1, HD4.out.f0, HD4.out.f1, HD4.out.ord⟩, HV⟩
                  case measure => first | (simp [intOf]; done) | (simp [intOf]; omega)
              case akf =>
                go_simp
                refine hK.out _ _ ?_ (fun hHeld => ?_)
                · (try dsimp only)
                  go_keep
                clear hK K
                try simp only [Act.put, List.setIfInBounds_toArray, List.set_cons_zero, List.set_cons_succ]
                refine wpAnyH_ready (rs := [1]) (by kernel_rfl) (by simp) ?_
                refine AllReadyH.cons rfl (fun K hK => ?_) AllReadyH.nil
                go_simp
                refine hK.out _ _ ?_ (fun hHeld => ?_)
                · (try dsimp only)
                  go_keep
                clear hK K
                try simp only [Act.put, List.setIfInBounds_toArray, List.set_cons_zero, List.set_cons_succ]
                refine wpAnyH_ready (rs := [13]) (by kernel_rfl) (by simp) ?_
                refine AllReadyH.cons rfl (fun K hK => ?_) AllReadyH.nil
                refine step_app Try.underlying22 info_str rfl (by omega) (by rfl) _ _ (by rfl) (Y + 1) _ _ (by rfl) (OV.alloc (OV.alloc HD.out.own _) _) ⟨wd.heap.size + 1, 0, none⟩ 1 (.string ⟨#[x, y]⟩) (by rfl) hcv rfl hls hsz ?_
                intro v' w5 ho5 hgr
                obtain ⟨va, vc, hv'⟩ := OV.slice ho5
                rw [List.length_append, ss_length, List.length_singleton] at hv'
                subst hv'
                have HP := Lib.hid (HNX.out _ w5 ho5 hgr)
                have d1 := HP.out.1
                have d2 := HP.out.2.1
                have d0 := HP.out.2.2.1
                have d3 := HP.out.2.2.2.1
                clear ho5 hgr
                refine hK.out _ _ ?_ (fun hHeld => ?_)
                · (try dsimp only)
                  go_keep
                clear hK K
                try simp only [Act.put, List.setIfInBounds_toArray, List.set_cons_zero, List.set_cons_succ]
                refine wpAnyH_take (i := 14) (oi := ⟨some 51, _, _, _, _, _⟩) (v := ?vks14) rfl (by kernel_rfl) (by kernel_rfl) (by kernel_rfl) (fun _ _ _ h => h) (Or.inl ⟨by rfl, ?yks14⟩) (by assumption) ?rks14
                case yks14 => (intro w hSw; (try dsimp only at hSw); go_simp; all_goals (with_reducible rfl))
                try simp only [Act.put, List.setIfInBounds_toArray, List.set_cons_zero, List.set_cons_succ]
                refine wpAnyH_ready (rs := [15]) (by kernel_rfl) (by simp) ?_
                refine AllReadyH.cons rfl (fun K hK => ?_) AllReadyH.nil
                go_simp
                refine hK.out _ _ ?_ (fun hHeld => ?_)
                · (try dsimp only)
                  go_keep
                clear hK K
                try simp only [Act.put, List.setIfInBounds_toArray, List.set_cons_zero, List.set_cons_succ]
                refine wpAnyH_done (by kernel_rfl) ?_ _
                have HD2 := Lib.hid HP.out.2.2.2.2
                clear d0 d1 d2 d3 HP c0 c1 c1a c1b k1 hcv hsz HNX hx hy
                generalize w5.setCell ⟨Y, 1, none⟩ (.slice va (l.length + 1) vc) = w6 at *
                have HLI : Hid (∀ (bb : Bool), vlB s (l ++ [⟨#[x, y]⟩]) = bb → Calls Try.prog 33 #[.pointer (some ⟨Y, 0, none⟩)] w6 fun e w' => e = .returned (.bool bb) ∧ Drd w6 w') := fun bb hbb => by
                  rw [← hbb]
                  exact l07Is_any s _ _ Y w6 HD2.out.lx HD2.out.own.read (by rw [HSS.out]; omega) (by simp; omega)
                cases hvl : vlB s (l ++ [⟨#[x, y]⟩]) with
                | true =>
                  have HLT := Lib.hid (HLI.out true hvl)
                  have HV2 := Lib.hid hvl
                  clear hvl HLI
                  go_wp2_with (go_at_call 33; refine HLT.out.mono ?_; rintro e w10 ⟨rfl, hd10⟩)
                  obtain ⟨nd, rfl⟩ := hd10
                  have HD3 := Lib.hid (HD2.out.later (below_drewN (Below.refl _ _) nd))
                  go_roundw
                  case rel => exact ⟨j - 1, _, _, by rw [show ((j - 1 : Nat) : Int) = (j : Int) - 1 by omega], by omega, by rw [List.length_append]; simp; omega, ⟨HD3.out.src.mono (by omega), HD3.out.lx, HD3.out.fz, HD3.out.own, HD3.out.chg, HD3.out.r0, HD3.out.r1, HD3.out.f0, HD3.out.f1, HD3.out.ord⟩, HV2⟩
                  case measure => first | (simp [intOf]; done) | (simp [intOf]; omega)
                | false =>
                  have HLT := Lib.hid (HLI.out false hvl)
                  have hl1I : IntKind.i64.wrap ((l.length : Int) + 1 - 1) = (l.length : Int) := by rw [show (l.length : Int) + 1 - 1 = (l.length : Int) by omega]; exact IntWalk.i64_in _ (by omega)
                  obtain ⟨g, hvg⟩ : ∃ g, va = some ⟨g, 0, none⟩ := by
                    rcases OV.shape HD2.out.own with ⟨_, h⟩ | ⟨g, cap, h, _⟩
                    · simp [ss] at h
                    · simp at h; exact ⟨g, h.1⟩
                  subst hvg
                  have hvc : (l.length : Int) ≤ (vc : Int) := by
                    have h1 := HD2.out.own.read.cap
                    rw [List.length_append] at h1
                    simp at h1; omega
                  clear hvl HLI
                  go_wp2_with (go_at_call 33; refine HLT.out.mono ?_; rintro e w10 ⟨rfl, hd10⟩; obtain ⟨nd, rfl⟩ := hd10; have HD3 := Lib.hid (HD2.out.later (below_drewN (Below.refl _ _) nd)); have e1 := HD3.out.lx.c1; have e2 := HD3.out.fz)
                  have HD4 := Lib.hid (HD3.out.push (Below.refl _ _) (OS.cut HD3.out.own)).2.2
                  go_roundw
                  case rel => exact ⟨j - 1, _, l, by rw [show ((j - 1 : Nat) : Int) = (j : Int) - 1 by omega], by omega, by omega, ⟨HD4.out.src.mono (by omega), HD4.out.lx, HD4.out.fz, HD4.out.own, HD4.out.chg, HD4.out.r0, HD4.out.r1, HD4.out.f0, HD4.out.f1, HD4.out.ord⟩, HV⟩
                  case measure => first | (simp [intOf]; done) | (simp [intOf]; omega)
        · have hn1I : ¬ (1 : Int) < (n : Int) := by omega
          obtain ⟨pa, pc, hpv⟩ := HD.out.own.read.slice
          subst hpv
          have c0 := HD.out.lx.c0
          have c1 := HD.out.lx.c1
          have r0 := HD.out.r0
          have r1 := HD.out.r1
          have f0 := HD.out.f0
          have f1 := HD.out.f1
          have HFI := Lib.hid (DK.fin (m0 := m) HD.out HV.out (by omega) (by omega) (by rw [HSS.out]; omega))
          have k0 := HFI.out.1
          have k1 := HFI.out.2.1
          go_wp2_with fail
          exact bodyPost_ret (v := .agg #[.string s, .slice pa l.length pc]) (by simp [results, Try.results57, go_sem, k0, k1]) rfl HFI.out.2.2
      · have hjI : ¬ (0 : Int) < (j : Int) := by omega
        obtain ⟨pa, pc, hpv⟩ := HD.out.own.read.slice
        subst hpv
        have c0 := HD.out.lx.c0
        have c1 := HD.out.lx.c1
        have r0 := HD.out.r0
        have r1 := HD.out.r1
        have f0 := HD.out.f0
        have f1 := HD.out.f1
        have HFI := Lib.hid (DK.fin (m0 := m) HD.out HV.out (by omega) (by omega) (by rw [HSS.out]; omega))
        have k0 := HFI.out.1
        have k1 := HFI.out.2.1
        go_wp2_with fail
        exact bodyPost_ret (v := .agg #[.string s, .slice pa l.length pc]) (by simp [results, Try.results57, go_sem, k0, k1]) rfl HFI.out.2.2
def BlPost (w : World) (e : Ending) (w' : World) : Prop := ∃ s v l, e = .returned (.agg #[.string s, v]) ∧ vlB s l = true ∧ OS w.heap.size w' v l ∧ s.size ≤ 18 ∧ l.length ≤ 11 ∧ Below w.heap.size w w'
set_option maxHeartbeats 2000000 in
theorem b10Lk_any (v : Value) (cs : List Int) (w : World) (hx : RK .u8 w v cs) (hw : ∀ x ∈ cs, (Lit.int .u8 x).wf = true) (hm : cs.length ≤ 1048576) :
    Calls Try.prog 30 #[v] w (BlPost w) := by
  have hb0 : Below w.heap.size w (w.alloc (.cells #[.string ⟨#[]⟩, .slice none 0 0] 27)) := (Below.refl _ _).alloc (Nat.le_refl _) _
  have hR0 : (w.alloc (.cells #[.string ⟨#[]⟩, .slice none 0 0] 27)).cell? ⟨w.heap.size, 0, none⟩ = some (.string ⟨#[]⟩) := World.cell?_alloc_at _ _ _ _ rfl
  have hR1 : (w.alloc (.cells #[.string ⟨#[]⟩, .slice none 0 0] 27)).cell? ⟨w.heap.size, 1, none⟩ = some (.slice none 0 0) := World.cell?_alloc_at _ _ _ _ rfl
  have hRF : ∀ o, (w.alloc (.cells #[.string ⟨#[]⟩, .slice none 0 0] 27)).frozen? ⟨w.heap.size, o, none⟩ = false := fun o => by
    have h9 : (w.alloc (.cells #[.string ⟨#[]⟩, .slice none 0 0] 27)).heap[w.heap.size]? = some (.cells #[.string ⟨#[]⟩, .slice none 0 0] 27 (0, 0)) := heap_alloc_new w _
    unfold World.frozen?; simp only [h9]; rfl
  have hsz0 : w.heap.size < (w.alloc (.cells #[.string ⟨#[]⟩, .slice none 0 0] 27)).heap.size := by simp
  go_enter Try.func30, Try.ntmps30
  go_wp2_with fail
  have hx1 := hx.later hb0
  generalize w.alloc (.cells #[.string ⟨#[]⟩, .slice none 0 0] 27) = w1 at *
  refine (from_any v cs w1 hx1 hw hm).mono ?_
  rintro e w2 ⟨rfl, hs, hb2⟩
  have hR2 := hb2.block w.heap.size hsz0
  have hb02 := hb0.trans (hb2.mono hb0.size)
  have hsz2 := hb2.size
  clear hx hx1
  go_wp2_with fail
  refine (drawLk_any _ 0 w2 hs (by omega)).mono ?_
  rintro e w3 ⟨s, pv, l, rfl, hv, hr, hs18, hl, hs3, hc3⟩
  have hR3 := (hc3.block w.heap.size (by omega) (by simp; omega)).trans hR2
  have k0 := (cell_keep (o := 0) hR3).trans hR0
  have k1 := (cell_keep (o := 1) hR3).trans hR1
  have f0 := (frozen_keep (o := 0) hR3).trans (hRF 0)
  have f1 := (frozen_keep (o := 1) hR3).trans (hRF 1)
  obtain ⟨pa, pc, rfl⟩ := hr.read.slice
  have hb3 : Below w.heap.size w w3 := hb02.trans ⟨hc3.os, hc3.tape, hc3.output, hc3.size, fun k hk => hc3.block k (by omega) (by simp; omega)⟩
  have hot : ∀ k, k ≠ w.heap.size → ((w3.setCell ⟨w.heap.size, 0, none⟩ (.string s)).setCell ⟨w.heap.size, 1, none⟩ (.slice pa l.length pc)).heap[k]? = w3.heap[k]? := fun k hk => (heap_setCell_other _ _ _ _ hk).trans (heap_setCell_other _ _ _ _ hk)
  have HFI : Hid (((w3.setCell ⟨w.heap.size, 0, none⟩ (.string s)).setCell ⟨w.heap.size, 1, none⟩ (.slice pa l.length pc)).cell? ⟨w.heap.size, 0, none⟩ = some (.string s) ∧
      ((w3.setCell ⟨w.heap.size, 0, none⟩ (.string s)).setCell ⟨w.heap.size, 1, none⟩ (.slice pa l.length pc)).cell? ⟨w.heap.size, 1, none⟩ = some (.slice pa l.length pc) ∧
      BlPost w (.returned (.agg #[.string s, .slice pa l.length pc])) ((w3.setCell ⟨w.heap.size, 0, none⟩ (.string s)).setCell ⟨w.heap.size, 1, none⟩ (.slice pa l.length pc))) := by
    refine ⟨?_, ?_, s, _, l, rfl, hv, ?_, hs18, hl, ?_⟩
    · refine (World.cell?_setCell_other (h := ?_) ..).trans (World.cell?_setCell_same _ _ _ k0)
      intro e; simp at e
    · refine World.cell?_setCell_same _ _ _ (u := .slice none 0 0) ?_
      refine (World.cell?_setCell_other (h := ?_) ..).trans k1
      intro e; simp at e
    · exact OV.mono (OV.heapD hr fun k hk => hot k (by have := OV.lt hr k hk; omega)) (by omega)
    · exact ⟨hb3.os, hb3.tape, hb3.output, by simpa using hb3.size, fun k hk => (hot k (by omega)).trans (hb3.block k hk)⟩
  have d0 := HFI.out.1
  have d1 := HFI.out.2.1
  clear hot hr hb3 hb02 hR2 hR3
  go_wp2_with fail
  exact bodyPost_ret (v := .agg #[.string s, .slice pa l.length pc]) (by simp [results, Try.results30, go_sem, d0, d1]) rfl HFI.out.2.2
end Go.Proofs.Ytdkheeocglfogaa
