/- LeastComplete and LeastAntisymmetric: the program's search. -/
import Derived.Test.YtghmpaegmicheaaLst
import Derived.Test.YtghmpaegmicheaaCtn
import Derived.Laws.EntriesVeiled
namespace Go.Proofs.Ytghmpaegmicheaa
open Go.RowKit

/-- The block k holds cells of another type than numbers. -/
def TyAt (w : World) (k : Nat) : Prop := ∃ cs T fz, T ≠ (2 : TypeId) ∧ w.heap[k]? = some (.cells cs T fz)
theorem TyAt.lt {w : World} {k : Nat} (h : TyAt w k) : k < w.heap.size := by
  obtain ⟨cs, T, fz, _, h⟩ := h
  exact (Array.getElem?_eq_some_iff.1 h).1
theorem TyAt.of {w w' : World} {k : Nat} (h : TyAt w k) (e : w'.heap[k]? = w.heap[k]?) : TyAt w' k := by
  obtain ⟨cs, T, fz, h1, h2⟩ := h
  exact ⟨cs, T, fz, h1, e.trans h2⟩
theorem TyAt.set {w : World} {k : Nat} (h : TyAt w k) (a : Addr) (v : Value) : TyAt (w.setCell a v) k := by
  obtain ⟨cs, T, fz, h1, h2⟩ := h
  by_cases e : k = a.block
  · subst e
    refine ⟨if a.spot.isSome then cs else cs.setIfInBounds a.off v, T, fz, h1, ?_⟩
    simp only [World.setCell, Array.getElem?_modify, if_pos, h2, Option.map_some]
  · exact ⟨cs, T, fz, h1, (heap_setCell_other w a k v e).trans h2⟩
theorem OK.tyne {k : IntKind} {B : Nat} {w : World} {v : Value} {xs : List Int} {b : Nat} (h : OK 2 k B w v xs) (ht : TyAt w b) : ∀ q, v.ownBlock = some q → q ≠ b := by
  intro q hq e
  subst e
  obtain ⟨cs, T, fz, h1, h2⟩ := ht
  rcases h.2 with ⟨rfl, _⟩ | ⟨g, cap, cur, rfl, _, hg, _⟩
  · simp [Value.ownBlock] at hq
  · simp only [Value.ownBlock, Option.some.injEq] at hq
    subst hq
    rw [hg] at h2
    simp only [Option.some.injEq, Obj.cells.injEq] at h2
    exact h1 h2.2.1.symm
/-- The world of the search: the cell of the list at Bo, of the search itself at Pw, all else of interest below. -/
structure GW (Wa : World) (Bo Pw : Nat) (fv : Value) (w : World) (v : Value) (pre : List Int) : Prop where
  below : Below Wa.heap.size Wa w
  self : w.cell? ⟨Pw, 0, none⟩ = some fv
  cell : w.cell? ⟨Bo, 0, none⟩ = some v
  free : w.frozen? ⟨Bo, 0, none⟩ = false
  lo : Wa.heap.size ≤ Bo
  ne : Pw ≠ Bo
  tb : TyAt w Bo
  tp : TyAt w Pw
  own : OI Wa.heap.size w v pre
section
variable {Wa : World} {Bo Pw : Nat} {fv : Value} {w w' : World} {v v' : Value} {pre pre' : List Int}
theorem GW.drw (h : GW Wa Bo Pw fv w v pre) (hd : Drw w w') : GW Wa Bo Pw fv w' v pre := by
  have hb := hd.below
  have h1 := h.tb.lt
  have h2 := h.tp.lt
  exact ⟨h.below.trans (hb.mono h.below.size), (hb.cell (p := ⟨Pw, 0, none⟩) h2).trans h.self, (hb.cell (p := ⟨Bo, 0, none⟩) h1).trans h.cell, (hb.frozen (p := ⟨Bo, 0, none⟩) h1).trans h.free, h.lo, h.ne, h.tb.of (hb.block _ h1), h.tp.of (hb.block _ h2), h.own.later hb⟩
/-- Whatever was written elsewhere. -/
theorem GW.up (h : GW Wa Bo Pw fv w v pre) (hb : Below Wa.heap.size Wa w') (e1 : w'.heap[Bo]? = w.heap[Bo]?) (e2 : w'.heap[Pw]? = w.heap[Pw]?) (ho : OI Wa.heap.size w' v' pre') : w'.cell? ⟨Bo, 0, none⟩ = some v ∧ w'.frozen? ⟨Bo, 0, none⟩ = false ∧ GW Wa Bo Pw fv (w'.setCell ⟨Bo, 0, none⟩ v') v' pre' := by
  have h3 := h.lo
  have c1 : w'.cell? ⟨Bo, 0, none⟩ = some v := (World.cell?_of_block (a := ⟨Bo, 0, none⟩) e1).trans h.cell
  have c2 : w'.frozen? ⟨Bo, 0, none⟩ = false := (World.frozen?_of_block (a := ⟨Bo, 0, none⟩) e1).trans h.free
  have t1 := h.tb.of e1
  have t2 := h.tp.of e2
  refine ⟨c1, c2, ?_⟩
  have hB : Below Wa.heap.size Wa (w'.setCell ⟨Bo, 0, none⟩ v') := hb.setCell (p := ⟨Bo, 0, none⟩) h3 v'
  refine ⟨hB, ?_, World.cell?_setCell_same _ _ _ c1, (World.frozen?_setCell _ _ _ _).trans c2, h3, h.ne, t1.set _ _, t2.set _ _, ?_⟩
  · have := (World.cell?_of_block (a := ⟨Pw, 0, none⟩) e2).trans h.self
    have hh := heap_setCell_other w' ⟨Bo, 0, none⟩ Pw v' h.ne
    rw [← this]; unfold World.cell?; simp only [hh]
  · exact ho.heap fun k hk => heap_setCell_other w' ⟨Bo, 0, none⟩ k v' (ho.tyne t1 k hk)
end
def GPost (Wa : World) (Bo Pw : Nat) (fv : Value) (o : Option (List Int)) (pre : List Int) (e : Ending) (w' : World) : Prop :=
  ∃ v', e = .returned (.bool o.isSome) ∧ GW Wa Bo Pw fv w' v' (o.getD pre)
theorem okL_in {cm : Bool} {x : List (List Int)} {pre : List Int} {y : Int} (h : y ∈ pre) : okL cm x (pre ++ [y]) = false := by rw [okL_snoc, decide_eq_true h]; rfl
theorem okL_fit {cm : Bool} {x : List (List Int)} {pre : List Int} {y : Int} (h : ¬ y ∈ pre) : okL cm x (pre ++ [y]) = fitK cm x (pre ++ [y]) pre.length := by rw [okL_snoc, decide_eq_false h]; rfl
theorem elems_snoc {n : Nat} {pre : List Int} {k : Nat} (h : Elems n pre) (hk : k < n) : Elems n (pre ++ [(k : Int)]) := by
  intro i hi
  rw [List.getD_eq_getElem?_getD]
  by_cases e : i < pre.length
  · rw [List.getElem?_append_left e, ← List.getD_eq_getElem?_getD]; exact h i e
  · have : i = pre.length := by simp at hi; omega
    subst this
    simp; omega

/-- What both answer. -/
def lstB (cm : Bool) (x : List (List Int)) : Bool := grpB x && (lstO cm x).isSome
def lstL (cm : Bool) (x : List (List Int)) : List Int := if grpB x then (lstO cm x).getD [] else []
theorem GW.start (w1 : World) (fv : Value) : GW w1 (w1.heap.size + 1) (w1.heap.size + 1 + 1) fv (((w1.alloc (.cells #[] 2)).alloc (.cells #[.slice (some ⟨w1.heap.size, 0, none⟩) 0 0] 26)).alloc (.cells #[fv] 100)) (.slice (some ⟨w1.heap.size, 0, none⟩) 0 0) [] := by
  have hb1 : Below w1.heap.size w1 (w1.alloc (.cells #[] 2)) := (Below.refl _ _).alloc (Nat.le_refl _) _
  have ho : OI w1.heap.size (w1.alloc (.cells #[] 2)) (.slice (some ⟨w1.heap.size, 0, none⟩) 0 0) [] := OK.made _ _ _ (Nat.le_refl _)
  have z1 : (w1.alloc (.cells #[] 2)).heap.size = w1.heap.size + 1 := by simp
  generalize w1.alloc (.cells #[] 2) = w2 at *
  have hb2 : Below w2.heap.size w2 (w2.alloc (.cells #[.slice (some ⟨w1.heap.size, 0, none⟩) 0 0] 26)) := (Below.refl _ _).alloc (Nat.le_refl _) _
  have z2 : (w2.alloc (.cells #[.slice (some ⟨w1.heap.size, 0, none⟩) 0 0] 26)).heap.size = w2.heap.size + 1 := by simp
  have c2 : (w2.alloc (.cells #[.slice (some ⟨w1.heap.size, 0, none⟩) 0 0] 26)).cell? ⟨w1.heap.size + 1, 0, none⟩ = some (.slice (some ⟨w1.heap.size, 0, none⟩) 0 0) := World.cell?_alloc_at _ _ _ _ z1.symm
  have h2 : (w2.alloc (.cells #[.slice (some ⟨w1.heap.size, 0, none⟩) 0 0] 26)).heap[w1.heap.size + 1]? = some (.cells #[.slice (some ⟨w1.heap.size, 0, none⟩) 0 0] 26 (0, 0)) := by rw [← z1]; show (Array.push _ _)[_]? = _; exact Array.getElem?_push_size
  generalize w2.alloc (.cells #[.slice (some ⟨w1.heap.size, 0, none⟩) 0 0] 26) = w3 at *
  have hb3 : Below w3.heap.size w3 (w3.alloc (.cells #[fv] 100)) := (Below.refl _ _).alloc (Nat.le_refl _) _
  have c3 : (w3.alloc (.cells #[fv] 100)).cell? ⟨w1.heap.size + 1 + 1, 0, none⟩ = some fv := World.cell?_alloc_at _ _ _ _ (by rw [z2, z1])
  have h3 : (w3.alloc (.cells #[fv] 100)).heap[w1.heap.size + 1 + 1]? = some (.cells #[fv] 100 (0, 0)) := by rw [← z1, ← z2]; show (Array.push _ _)[_]? = _; exact Array.getElem?_push_size
  have h4 := (hb3.block (w1.heap.size + 1) (by omega)).trans h2
  exact ⟨hb1.trans ((hb2.trans (hb3.mono hb2.size)).mono hb1.size), c3, (hb3.cell (p := ⟨w1.heap.size + 1, 0, none⟩) (by show w1.heap.size + 1 < _; omega)).trans c2, frozen_of_row _ _ _ _ _ h4, by omega, by omega, ⟨_, _, _, by decide, h4⟩, ⟨_, _, _, by decide, h3⟩, (ho.later hb2).later hb3⟩
set_option maxRecDepth 100000 in
set_option maxHeartbeats 2000000 in
theorem growT_any (x : List (List Int)) (Wa : World) (g Pg Pr Bo Pw : Nat) {G O C : Nat} {H F P : Nat → Nat} (hs : Hid (sqB x = true)) (hx : Hid (SqAt G O H F P x Wa))
    (hg : Hid (Wa.cell? ⟨g, 0, none⟩ = some (.slice (some ⟨G, O, none⟩) x.length C))) (hpg : Hid (Wa.cell? ⟨Pg, 0, none⟩ = some (.pointer (some ⟨g, 0, none⟩))))
    (hpr : Hid (Wa.cell? ⟨Pr, 0, none⟩ = some (.func (.func 56) #[.pointer (some ⟨g, 0, none⟩)] #[]))) (fv : Value) (hfv : Hid (fv = .func (.func 97) #[] #[.pointer (some ⟨Bo, 0, none⟩), .pointer (some ⟨Pg, 0, none⟩), .pointer (some ⟨Pr, 0, none⟩), .pointer (some ⟨Pw, 0, none⟩)])) :
    ∀ (f : Nat) (pre : List Int) (v : Value) (w : World), pre.length + f = x.length → Elems x.length pre → GW Wa Bo Pw fv w v pre →
    Calls Try.prog 97 #[.pointer (some ⟨Bo, 0, none⟩), .pointer (some ⟨Pg, 0, none⟩), .pointer (some ⟨Pr, 0, none⟩), .pointer (some ⟨Pw, 0, none⟩)] w (GPost Wa Bo Pw fv (lexF x.length (okL true x) f pre) pre) := by
  have hn := (sqB_iff.1 hs.out).1
  have HW : Hid (∀ w, Below Wa.heap.size Wa w → w.cell? ⟨Pg, 0, none⟩ = some (.pointer (some ⟨g, 0, none⟩)) ∧ w.cell? ⟨Pr, 0, none⟩ = some (.func (.func 56) #[.pointer (some ⟨g, 0, none⟩)] #[]) ∧ w.cell? ⟨g, 0, none⟩ = some (.slice (some ⟨G, O, none⟩) x.length C) ∧ SqAt G O H F P x w) := fun w hb =>
    ⟨(hb.cell (p := ⟨Pg, 0, none⟩) (World.block_lt_of_cell? Wa _ hpg.out)).trans hpg.out, (hb.cell (p := ⟨Pr, 0, none⟩) (World.block_lt_of_cell? Wa _ hpr.out)).trans hpr.out, (hb.cell (p := ⟨g, 0, none⟩) (World.block_lt_of_cell? Wa _ hg.out)).trans hg.out, hx.out.later hb⟩
  intro f
  induction f with
  | zero =>
    intro pre v w hl he h
    obtain ⟨c1, c2, c3, c4⟩ := HW.out w h.below
    have c0 := h.cell
    obtain ⟨a, c, rfl⟩ := h.own.slice
    have HG := Lib.hid h
    have b1 : ((pre.length : Int) == x.length) = true := by simp; omega
    clear h c4 he
    go_enter Try.func97, Try.ntmps97
    go_wp2_with fail
    go_quiet (fail)
    go_wp2_with fail
    go_ret
    exact ⟨_, rfl, HG.out.drw ((Drw.refl _).more _)⟩
  | succ f ih =>
    have IH := Lib.hid ih
    clear ih
    intro pre v w hl he h
    obtain ⟨c1, c2, c3, c4⟩ := HW.out w h.below
    have c0 := h.cell
    obtain ⟨a, c, rfl⟩ := h.own.slice
    have HG := Lib.hid h
    have HE := Lib.hid he
    have b1 : ((pre.length : Int) == x.length) = false := by simp; omega
    clear h c4 he
    go_enter Try.func97, Try.ntmps97
    go_wp2_with fail
    go_quiet (fail)
    go_wp2_with fail
    go_loopw [19] (fun iv wr => ∃ (k : Nat) (v : Value), k ≤ x.length ∧ iv = .int .i64 k ∧ GW Wa Bo Pw fv wr v pre ∧ Hid (tryK x.length (okL true x) f pre k = lexF x.length (okL true x) (f + 1) pre)) (fun iv _ => x.length - (intOf iv).toNat)
    case atStart => exact ⟨0, _, Nat.zero_le _, rfl, HG.out.drw ((Drw.refl _).more _), rfl⟩
    case round =>
      obtain ⟨k, v, hk, rfl, h, HK⟩ := hrel
      clear c0 c1 c2 c3 HG
      obtain ⟨c1, c2, c3, c4⟩ := HW.out wr h.below
      have c0 := h.cell
      have ho := h.own
      have hsz := h.below.size
      have HH := Lib.hid h
      have HSQ := Lib.hid c4
      clear c4 h
      obtain ⟨a, c, rfl⟩ := ho.slice
      have hpl : pre.length ≤ 1099511627776 := by omega
      by_cases hlt : k < x.length
      · have HN : Hid (cand x.length (okL true x) f pre k = none → tryK x.length (okL true x) f pre (k + 1) = lexF x.length (okL true x) (f + 1) pre) := fun e => (tryK_none hlt e).symm.trans HK.out
        have HCO : Hid (∀ (b : Bool), decide ((k : Int) ∈ pre) = b → Calls Try.prog 75 #[.slice a pre.length c, .int .i64 k] wr fun e w' => e = .returned (.bool b) ∧ wr = w') := fun b hb => by
          have := containsI_any _ pre k wr ho.read hpl
          rw [hb] at this; exact this
        by_cases hm : (k : Int) ∈ pre
        · have HC := Lib.hid (HCO.out true (decide_eq_true hm))
          have HR := Lib.hid (HN.out (cand_no (okL_in hm)))
          clear HCO hm HN
          go_wp2_with (go_at_call 75; refine HC.out.mono ?_; rintro e w' ⟨rfl, rfl⟩)
          go_roundw
          case rel => exact ⟨k + 1, _, by omega, by go_num, HH.out, HR⟩
          case measure => first | (simp [intOf]; done) | (simp [intOf]; omega)
        · have HC := Lib.hid (HCO.out false (decide_eq_false hm))
          have HO : Hid (okL true x (pre ++ [(k : Int)]) = fitK true x (pre ++ [(k : Int)]) pre.length) := okL_fit hm
          have HE2 := Lib.hid (elems_snoc HE.out hlt)
          have hl2 : (pre ++ [(k : Int)]).length = pre.length + 1 := by simp
          have HL2 := Lib.hid hl2
          have hpx : pre.length < x.length := by omega
          have HF : Hid (∀ (w : World) (v : Value) (b : Bool), fitK true x (pre ++ [(k : Int)]) pre.length = b → GW Wa Bo Pw fv w v (pre ++ [(k : Int)]) → Calls Try.prog 56 #[.pointer (some ⟨g, 0, none⟩), v] w fun e w' => e = .returned (.bool b) ∧ Drw w w') := fun w v b hb h2 => by
            obtain ⟨_, _, d3, d4⟩ := HW.out w h2.below
            have := complete_any x (pre ++ [(k : Int)]) v pre.length g w hs HL2.out hpx HE2.out d4 h2.own.read d3
            rw [hb] at this; exact this
          have HU : Hid (∀ v2 w2, OI Wa.heap.size w2 v2 (pre ++ [(k : Int)]) → (wr.alloc (.cells #[.int .i64 k] 2)).grownBy w2 (Value.slice a pre.length c).ownBlock → w2.cell? ⟨Bo, 0, none⟩ = some (.slice a pre.length c) ∧ w2.frozen? ⟨Bo, 0, none⟩ = false ∧ (w2.setCell ⟨Bo, 0, none⟩ v2).cell? ⟨Bo, 0, none⟩ = some v2 ∧ (w2.setCell ⟨Bo, 0, none⟩ v2).cell? ⟨Pr, 0, none⟩ = some (.func (.func 56) #[.pointer (some ⟨g, 0, none⟩)] #[]) ∧ GW Wa Bo Pw fv (w2.setCell ⟨Bo, 0, none⟩ v2) v2 (pre ++ [(k : Int)]) ∧ ∃ gb cb, v2 = .slice (some ⟨gb, 0, none⟩) (pre.length + 1) cb) := fun v2 w2 h1 h2 => by
            have hb : Below Wa.heap.size Wa w2 := (HH.out.below.alloc hsz _).grown h2 (by simp; omega) fun j hj => (ho.lt j hj).1
            have hblk : ∀ q, TyAt wr q → w2.heap[q]? = wr.heap[q]? := fun q hq => (h2.block q (by have := hq.lt; simp; omega) (fun e => ho.tyne hq q e.symm rfl)).trans (((Below.refl wr.heap.size wr).alloc (Nat.le_refl _) _).block q hq.lt)
            obtain ⟨q1, q2, q3⟩ := HH.out.up hb (hblk _ HH.out.tb) (hblk _ HH.out.tp) h1
            refine ⟨q1, q2, q3.cell, (HW.out _ q3.below).2.1, q3, ?_⟩
            rcases h1.shape with ⟨_, e⟩ | ⟨gb, cb, e, _⟩
            · simp at e
            · exact ⟨gb, cb, by rw [e, hl2]⟩
          have HV : Hid (∀ v2 w2, GW Wa Bo Pw fv w2 v2 (pre ++ [(k : Int)]) → ∃ gb cb, v2 = .slice (some ⟨gb, 0, none⟩) (pre.length + 1) cb) := fun v2 w2 h2 => by
            rcases h2.own.shape with ⟨_, e⟩ | ⟨gb, cb, e, _⟩
            · simp at e
            · exact ⟨gb, cb, by rw [e, hl2]⟩
          have HP : Hid (∀ gb cb w2, GW Wa Bo Pw fv w2 (.slice (some ⟨gb, 0, none⟩) (pre.length + 1) cb) (pre ++ [(k : Int)]) → (pre.length : Int) + 1 ≤ cb ∧ w2.cell? ⟨Bo, 0, none⟩ = some (.slice (some ⟨gb, 0, none⟩) (pre.length + 1) cb) ∧ w2.frozen? ⟨Bo, 0, none⟩ = false ∧ GW Wa Bo Pw fv (w2.setCell ⟨Bo, 0, none⟩ (.slice (some ⟨gb, 0, none⟩) pre.length cb)) (.slice (some ⟨gb, 0, none⟩) pre.length cb) pre) := fun gb cb w2 h2 => by
            have h3 := h2.own
            have h4 := (h3.capOk _ _ _ rfl).1
            obtain ⟨q1, q2, q3⟩ := h2.up h2.below rfl rfl h3.dropLast
            simp at h4
            exact ⟨by omega, q1, q2, q3⟩
          have HSELF : Hid (∀ w v pre, GW Wa Bo Pw fv w v pre → w.cell? ⟨Pw, 0, none⟩ = some (.func (.func 97) #[] #[.pointer (some ⟨Bo, 0, none⟩), .pointer (some ⟨Pg, 0, none⟩), .pointer (some ⟨Pr, 0, none⟩), .pointer (some ⟨Pw, 0, none⟩)])) := fun w v pre h => by
            rw [← hfv.out]; exact h.self
          clear hm HCO hl2
          cases hfit : fitK true x (pre ++ [(k : Int)]) pre.length
          · have HR := Lib.hid (HN.out (cand_no (HO.out.trans hfit)))
            have HF2 := Lib.hid (fun w v h => HF.out w v false hfit h)
            clear hfit HF HO HN
            go_wp2_with (first
              | (go_at_call 75; refine HC.out.mono ?_; rintro e w' ⟨rfl, rfl⟩)
              | (at_builtin; refine wpl_app_i64 rfl _ _ rfl Wa.heap.size _ _ rfl (ho.alloc _) _ _ _ rfl (World.cell?_alloc_at _ _ _ _ rfl) hpl (by simp; omega) ?_; intro v2 w2 ho2 hgr; obtain ⟨q1, q2, q3, q4, q5, gv, cv, rfl⟩ := HU.out v2 w2 ho2 hgr; clear ho2 hgr)
              | (go_at_call 56; refine (HF2.out _ _ q5).mono ?_; rintro e w4 ⟨rfl, hd⟩; obtain ⟨e1, e2, e3, e4⟩ := HP.out _ _ _ (q5.drw hd)))
            go_roundw
            case rel => exact ⟨k + 1, _, by omega, by go_num, e4, HR⟩
            case measure => first | (simp [intOf]; done) | (simp [intOf]; omega)
          · have HB : Hid (cand x.length (okL true x) f pre k = lexF x.length (okL true x) f (pre ++ [(k : Int)])) := cand_yes (HO.out.trans hfit)
            have HF2 := Lib.hid (fun w v h => HF.out w v true hfit h)
            have HI : Hid (∀ w v, GW Wa Bo Pw fv w v (pre ++ [(k : Int)]) → Calls Try.prog 97 #[.pointer (some ⟨Bo, 0, none⟩), .pointer (some ⟨Pg, 0, none⟩), .pointer (some ⟨Pr, 0, none⟩), .pointer (some ⟨Pw, 0, none⟩)] w (GPost Wa Bo Pw fv (lexF x.length (okL true x) f (pre ++ [(k : Int)])) (pre ++ [(k : Int)]))) := fun w v h => IH.out _ v w (by have := HL2.out; omega) HE2.out h
            clear hfit HF HO
            cases hlx : lexF x.length (okL true x) f (pre ++ [(k : Int)]) with
            | none =>
              have HR := Lib.hid (HN.out (HB.out.trans hlx))
              rw [hlx] at HI
              clear hlx HB HN
              go_wp2_with (first
                | (go_at_call 75; refine HC.out.mono ?_; rintro e w' ⟨rfl, rfl⟩)
                | (at_builtin; refine wpl_app_i64 rfl _ _ rfl Wa.heap.size _ _ rfl (ho.alloc _) _ _ _ rfl (World.cell?_alloc_at _ _ _ _ rfl) hpl (by simp; omega) ?_; intro v2 w2 ho2 hgr; obtain ⟨q1, q2, q3, q4, q5, gv, cv, rfl⟩ := HU.out v2 w2 ho2 hgr; clear ho2 hgr)
                | (go_at_call 56; refine (HF2.out _ _ q5).mono ?_; rintro e w4 ⟨rfl, hd⟩; have q6 := q5.drw hd; have q7 := HSELF.out _ _ _ q6)
                | (go_at_call 97; refine (HI.out _ _ q6).mono ?_; rintro e w5 ⟨v5, rfl, q8⟩; obtain ⟨gb, cb, rfl⟩ := HV.out _ _ q8; obtain ⟨e1, e2, e3, e4⟩ := HP.out _ _ _ q8))
              go_roundw
              case rel => exact ⟨k + 1, _, by omega, by go_num, e4, HR⟩
              case measure => first | (simp [intOf]; done) | (simp [intOf]; omega)
            | some r =>
              have HR : Hid (lexF x.length (okL true x) (f + 1) pre = some r) := HK.out.symm.trans (tryK_some hlt (HB.out.trans hlx))
              rw [hlx] at HI
              clear hlx HB HN
              go_wp2_with (first
                | (go_at_call 75; refine HC.out.mono ?_; rintro e w' ⟨rfl, rfl⟩)
                | (at_builtin; refine wpl_app_i64 rfl _ _ rfl Wa.heap.size _ _ rfl (ho.alloc _) _ _ _ rfl (World.cell?_alloc_at _ _ _ _ rfl) hpl (by simp; omega) ?_; intro v2 w2 ho2 hgr; obtain ⟨q1, q2, q3, q4, q5, gv, cv, rfl⟩ := HU.out v2 w2 ho2 hgr; clear ho2 hgr)
                | (go_at_call 56; refine (HF2.out _ _ q5).mono ?_; rintro e w4 ⟨rfl, hd⟩; have q6 := q5.drw hd; have q7 := HSELF.out _ _ _ q6)
                | (go_at_call 97; refine (HI.out _ _ q6).mono ?_; rintro e w5 ⟨v5, rfl, q8⟩))
              go_ret
              rw [HR.out]
              exact ⟨_, rfl, q8⟩
      · have HR : Hid (lexF x.length (okL true x) (f + 1) pre = none) := HK.out.symm.trans (tryK_end (by omega))
        go_wp2_with fail
        go_ret
        rw [HR.out]
        exact ⟨_, rfl, HH.out⟩
set_option maxRecDepth 100000 in
set_option maxHeartbeats 2000000 in
theorem growF_any (x : List (List Int)) (Wa : World) (g Pg Pr Bo Pw : Nat) {G O C : Nat} {H F P : Nat → Nat} (hs : Hid (sqB x = true)) (hx : Hid (SqAt G O H F P x Wa))
    (hg : Hid (Wa.cell? ⟨g, 0, none⟩ = some (.slice (some ⟨G, O, none⟩) x.length C))) (hpg : Hid (Wa.cell? ⟨Pg, 0, none⟩ = some (.pointer (some ⟨g, 0, none⟩))))
    (hpr : Hid (Wa.cell? ⟨Pr, 0, none⟩ = some (.func (.func 55) #[.pointer (some ⟨g, 0, none⟩)] #[]))) (fv : Value) (hfv : Hid (fv = .func (.func 97) #[] #[.pointer (some ⟨Bo, 0, none⟩), .pointer (some ⟨Pg, 0, none⟩), .pointer (some ⟨Pr, 0, none⟩), .pointer (some ⟨Pw, 0, none⟩)])) :
    ∀ (f : Nat) (pre : List Int) (v : Value) (w : World), pre.length + f = x.length → Elems x.length pre → GW Wa Bo Pw fv w v pre →
    Calls Try.prog 97 #[.pointer (some ⟨Bo, 0, none⟩), .pointer (some ⟨Pg, 0, none⟩), .pointer (some ⟨Pr, 0, none⟩), .pointer (some ⟨Pw, 0, none⟩)] w (GPost Wa Bo Pw fv (lexF x.length (okL false x) f pre) pre) := by
  have hn := (sqB_iff.1 hs.out).1
  have HW : Hid (∀ w, Below Wa.heap.size Wa w → w.cell? ⟨Pg, 0, none⟩ = some (.pointer (some ⟨g, 0, none⟩)) ∧ w.cell? ⟨Pr, 0, none⟩ = some (.func (.func 55) #[.pointer (some ⟨g, 0, none⟩)] #[]) ∧ w.cell? ⟨g, 0, none⟩ = some (.slice (some ⟨G, O, none⟩) x.length C) ∧ SqAt G O H F P x w) := fun w hb =>
    ⟨(hb.cell (p := ⟨Pg, 0, none⟩) (World.block_lt_of_cell? Wa _ hpg.out)).trans hpg.out, (hb.cell (p := ⟨Pr, 0, none⟩) (World.block_lt_of_cell? Wa _ hpr.out)).trans hpr.out, (hb.cell (p := ⟨g, 0, none⟩) (World.block_lt_of_cell? Wa _ hg.out)).trans hg.out, hx.out.later hb⟩
  intro f
  induction f with
  | zero =>
    intro pre v w hl he h
    obtain ⟨c1, c2, c3, c4⟩ := HW.out w h.below
    have c0 := h.cell
    obtain ⟨a, c, rfl⟩ := h.own.slice
    have HG := Lib.hid h
    have b1 : ((pre.length : Int) == x.length) = true := by simp; omega
    clear h c4 he
    go_enter Try.func97, Try.ntmps97
    go_wp2_with fail
    go_quiet (fail)
    go_wp2_with fail
    go_ret
    exact ⟨_, rfl, HG.out.drw ((Drw.refl _).more _)⟩
  | succ f ih =>
    have IH := Lib.hid ih
    clear ih
    intro pre v w hl he h
    obtain ⟨c1, c2, c3, c4⟩ := HW.out w h.below
    have c0 := h.cell
    obtain ⟨a, c, rfl⟩ := h.own.slice
    have HG := Lib.hid h
    have HE := Lib.hid he
    have b1 : ((pre.length : Int) == x.length) = false := by simp; omega
    clear h c4 he
    go_enter Try.func97, Try.ntmps97
    go_wp2_with fail
    go_quiet (fail)
    go_wp2_with fail
    go_loopw [19] (fun iv wr => ∃ (k : Nat) (v : Value), k ≤ x.length ∧ iv = .int .i64 k ∧ GW Wa Bo Pw fv wr v pre ∧ Hid (tryK x.length (okL false x) f pre k = lexF x.length (okL false x) (f + 1) pre)) (fun iv _ => x.length - (intOf iv).toNat)
    case atStart => exact ⟨0, _, Nat.zero_le _, rfl, HG.out.drw ((Drw.refl _).more _), rfl⟩
    case round =>
      obtain ⟨k, v, hk, rfl, h, HK⟩ := hrel
      clear c0 c1 c2 c3 HG
      obtain ⟨c1, c2, c3, c4⟩ := HW.out wr h.below
      have c0 := h.cell
      have ho := h.own
      have hsz := h.below.size
      have HH := Lib.hid h
      have HSQ := Lib.hid c4
      clear c4 h
      obtain ⟨a, c, rfl⟩ := ho.slice
      have hpl : pre.length ≤ 1099511627776 := by omega
      by_cases hlt : k < x.length
      · have HN : Hid (cand x.length (okL false x) f pre k = none → tryK x.length (okL false x) f pre (k + 1) = lexF x.length (okL false x) (f + 1) pre) := fun e => (tryK_none hlt e).symm.trans HK.out
        have HCO : Hid (∀ (b : Bool), decide ((k : Int) ∈ pre) = b → Calls Try.prog 75 #[.slice a pre.length c, .int .i64 k] wr fun e w' => e = .returned (.bool b) ∧ wr = w') := fun b hb => by
          have := containsI_any _ pre k wr ho.read hpl
          rw [hb] at this; exact this
        by_cases hm : (k : Int) ∈ pre
        · have HC := Lib.hid (HCO.out true (decide_eq_true hm))
          have HR := Lib.hid (HN.out (cand_no (okL_in hm)))
          clear HCO hm HN
          go_wp2_with (go_at_call 75; refine HC.out.mono ?_; rintro e w' ⟨rfl, rfl⟩)
          go_roundw
          case rel => exact ⟨k + 1, _, by omega, by go_num, HH.out, HR⟩
          case measure => first | (simp [intOf]; done) | (simp [intOf]; omega)
        · have HC := Lib.hid (HCO.out false (decide_eq_false hm))
          have HO : Hid (okL false x (pre ++ [(k : Int)]) = fitK false x (pre ++ [(k : Int)]) pre.length) := okL_fit hm
          have HE2 := Lib.hid (elems_snoc HE.out hlt)
          have hl2 : (pre ++ [(k : Int)]).length = pre.length + 1 := by simp
          have HL2 := Lib.hid hl2
          have hpx : pre.length < x.length := by omega
          have HF : Hid (∀ (w : World) (v : Value) (b : Bool), fitK false x (pre ++ [(k : Int)]) pre.length = b → GW Wa Bo Pw fv w v (pre ++ [(k : Int)]) → Calls Try.prog 55 #[.pointer (some ⟨g, 0, none⟩), v] w fun e w' => e = .returned (.bool b) ∧ Drw w w') := fun w v b hb h2 => by
            obtain ⟨_, _, d3, d4⟩ := HW.out w h2.below
            have := antisymmetric_any x (pre ++ [(k : Int)]) v pre.length g w hs HL2.out hpx HE2.out d4 h2.own.read d3
            rw [hb] at this; exact this
          have HU : Hid (∀ v2 w2, OI Wa.heap.size w2 v2 (pre ++ [(k : Int)]) → (wr.alloc (.cells #[.int .i64 k] 2)).grownBy w2 (Value.slice a pre.length c).ownBlock → w2.cell? ⟨Bo, 0, none⟩ = some (.slice a pre.length c) ∧ w2.frozen? ⟨Bo, 0, none⟩ = false ∧ (w2.setCell ⟨Bo, 0, none⟩ v2).cell? ⟨Bo, 0, none⟩ = some v2 ∧ (w2.setCell ⟨Bo, 0, none⟩ v2).cell? ⟨Pr, 0, none⟩ = some (.func (.func 55) #[.pointer (some ⟨g, 0, none⟩)] #[]) ∧ GW Wa Bo Pw fv (w2.setCell ⟨Bo, 0, none⟩ v2) v2 (pre ++ [(k : Int)]) ∧ ∃ gb cb, v2 = .slice (some ⟨gb, 0, none⟩) (pre.length + 1) cb) := fun v2 w2 h1 h2 => by
            have hb : Below Wa.heap.size Wa w2 := (HH.out.below.alloc hsz _).grown h2 (by simp; omega) fun j hj => (ho.lt j hj).1
            have hblk : ∀ q, TyAt wr q → w2.heap[q]? = wr.heap[q]? := fun q hq => (h2.block q (by have := hq.lt; simp; omega) (fun e => ho.tyne hq q e.symm rfl)).trans (((Below.refl wr.heap.size wr).alloc (Nat.le_refl _) _).block q hq.lt)
            obtain ⟨q1, q2, q3⟩ := HH.out.up hb (hblk _ HH.out.tb) (hblk _ HH.out.tp) h1
            refine ⟨q1, q2, q3.cell, (HW.out _ q3.below).2.1, q3, ?_⟩
            rcases h1.shape with ⟨_, e⟩ | ⟨gb, cb, e, _⟩
            · simp at e
            · exact ⟨gb, cb, by rw [e, hl2]⟩
          have HV : Hid (∀ v2 w2, GW Wa Bo Pw fv w2 v2 (pre ++ [(k : Int)]) → ∃ gb cb, v2 = .slice (some ⟨gb, 0, none⟩) (pre.length + 1) cb) := fun v2 w2 h2 => by
            rcases h2.own.shape with ⟨_, e⟩ | ⟨gb, cb, e, _⟩
            · simp at e
            · exact ⟨gb, cb, by rw [e, hl2]⟩
          have HP : Hid (∀ gb cb w2, GW Wa Bo Pw fv w2 (.slice (some ⟨gb, 0, none⟩) (pre.length + 1) cb) (pre ++ [(k : Int)]) → (pre.length : Int) + 1 ≤ cb ∧ w2.cell? ⟨Bo, 0, none⟩ = some (.slice (some ⟨gb, 0, none⟩) (pre.length + 1) cb) ∧ w2.frozen? ⟨Bo, 0, none⟩ = false ∧ GW Wa Bo Pw fv (w2.setCell ⟨Bo, 0, none⟩ (.slice (some ⟨gb, 0, none⟩) pre.length cb)) (.slice (some ⟨gb, 0, none⟩) pre.length cb) pre) := fun gb cb w2 h2 => by
            have h3 := h2.own
            have h4 := (h3.capOk _ _ _ rfl).1
            obtain ⟨q1, q2, q3⟩ := h2.up h2.below rfl rfl h3.dropLast
            simp at h4
            exact ⟨by omega, q1, q2, q3⟩
          have HSELF : Hid (∀ w v pre, GW Wa Bo Pw fv w v pre → w.cell? ⟨Pw, 0, none⟩ = some (.func (.func 97) #[] #[.pointer (some ⟨Bo, 0, none⟩), .pointer (some ⟨Pg, 0, none⟩), .pointer (some ⟨Pr, 0, none⟩), .pointer (some ⟨Pw, 0, none⟩)])) := fun w v pre h => by
            rw [← hfv.out]; exact h.self
          clear hm HCO hl2
          cases hfit : fitK false x (pre ++ [(k : Int)]) pre.length
          · have HR := Lib.hid (HN.out (cand_no (HO.out.trans hfit)))
            have HF2 := Lib.hid (fun w v h => HF.out w v false hfit h)
            clear hfit HF HO HN
            go_wp2_with (first
              | (go_at_call 75; refine HC.out.mono ?_; rintro e w' ⟨rfl, rfl⟩)
              | (at_builtin; refine wpl_app_i64 rfl _ _ rfl Wa.heap.size _ _ rfl (ho.alloc _) _ _ _ rfl (World.cell?_alloc_at _ _ _ _ rfl) hpl (by simp; omega) ?_; intro v2 w2 ho2 hgr; obtain ⟨q1, q2, q3, q4, q5, gv, cv, rfl⟩ := HU.out v2 w2 ho2 hgr; clear ho2 hgr)
              | (go_at_call 55; refine (HF2.out _ _ q5).mono ?_; rintro e w4 ⟨rfl, hd⟩; obtain ⟨e1, e2, e3, e4⟩ := HP.out _ _ _ (q5.drw hd)))
            go_roundw
            case rel => exact ⟨k + 1, _, by omega, by go_num, e4, HR⟩
            case measure => first | (simp [intOf]; done) | (simp [intOf]; omega)
          · have HB : Hid (cand x.length (okL false x) f pre k = lexF x.length (okL false x) f (pre ++ [(k : Int)])) := cand_yes (HO.out.trans hfit)
            have HF2 := Lib.hid (fun w v h => HF.out w v true hfit h)
            have HI : Hid (∀ w v, GW Wa Bo Pw fv w v (pre ++ [(k : Int)]) → Calls Try.prog 97 #[.pointer (some ⟨Bo, 0, none⟩), .pointer (some ⟨Pg, 0, none⟩), .pointer (some ⟨Pr, 0, none⟩), .pointer (some ⟨Pw, 0, none⟩)] w (GPost Wa Bo Pw fv (lexF x.length (okL false x) f (pre ++ [(k : Int)])) (pre ++ [(k : Int)]))) := fun w v h => IH.out _ v w (by have := HL2.out; omega) HE2.out h
            clear hfit HF HO
            cases hlx : lexF x.length (okL false x) f (pre ++ [(k : Int)]) with
            | none =>
              have HR := Lib.hid (HN.out (HB.out.trans hlx))
              rw [hlx] at HI
              clear hlx HB HN
              go_wp2_with (first
                | (go_at_call 75; refine HC.out.mono ?_; rintro e w' ⟨rfl, rfl⟩)
                | (at_builtin; refine wpl_app_i64 rfl _ _ rfl Wa.heap.size _ _ rfl (ho.alloc _) _ _ _ rfl (World.cell?_alloc_at _ _ _ _ rfl) hpl (by simp; omega) ?_; intro v2 w2 ho2 hgr; obtain ⟨q1, q2, q3, q4, q5, gv, cv, rfl⟩ := HU.out v2 w2 ho2 hgr; clear ho2 hgr)
                | (go_at_call 55; refine (HF2.out _ _ q5).mono ?_; rintro e w4 ⟨rfl, hd⟩; have q6 := q5.drw hd; have q7 := HSELF.out _ _ _ q6)
                | (go_at_call 97; refine (HI.out _ _ q6).mono ?_; rintro e w5 ⟨v5, rfl, q8⟩; obtain ⟨gb, cb, rfl⟩ := HV.out _ _ q8; obtain ⟨e1, e2, e3, e4⟩ := HP.out _ _ _ q8))
              go_roundw
              case rel => exact ⟨k + 1, _, by omega, by go_num, e4, HR⟩
              case measure => first | (simp [intOf]; done) | (simp [intOf]; omega)
            | some r =>
              have HR : Hid (lexF x.length (okL false x) (f + 1) pre = some r) := HK.out.symm.trans (tryK_some hlt (HB.out.trans hlx))
              rw [hlx] at HI
              clear hlx HB HN
              go_wp2_with (first
                | (go_at_call 75; refine HC.out.mono ?_; rintro e w' ⟨rfl, rfl⟩)
                | (at_builtin; refine wpl_app_i64 rfl _ _ rfl Wa.heap.size _ _ rfl (ho.alloc _) _ _ _ rfl (World.cell?_alloc_at _ _ _ _ rfl) hpl (by simp; omega) ?_; intro v2 w2 ho2 hgr; obtain ⟨q1, q2, q3, q4, q5, gv, cv, rfl⟩ := HU.out v2 w2 ho2 hgr; clear ho2 hgr)
                | (go_at_call 55; refine (HF2.out _ _ q5).mono ?_; rintro e w4 ⟨rfl, hd⟩; have q6 := q5.drw hd; have q7 := HSELF.out _ _ _ q6)
                | (go_at_call 97; refine (HI.out _ _ q6).mono ?_; rintro e w5 ⟨v5, rfl, q8⟩))
              go_ret
              rw [HR.out]
              exact ⟨_, rfl, q8⟩
      · have HR : Hid (lexF x.length (okL false x) (f + 1) pre = none) := HK.out.symm.trans (tryK_end (by omega))
        go_wp2_with fail
        go_ret
        rw [HR.out]
        exact ⟨_, rfl, HH.out⟩
set_option maxRecDepth 100000 in
set_option maxHeartbeats 1000000 in
theorem lstT_any (v : Value) (x : List (List Int)) (g : Nat) (w : World) (hg : w.cell? ⟨g, 0, none⟩ = some v) (hx : RT w v x) (hm : x.length ≤ 1048576) (hr : Small x) :
    Calls Try.prog 54 #[.pointer (some ⟨g, 0, none⟩), .func (.func 56) #[.pointer (some ⟨g, 0, none⟩)] #[]] w fun e w' => ∃ v', e = .returned (.tuple #[v', .bool (lstB true x)]) ∧ OI w.heap.size w' v' (lstL true x) ∧ Below w.heap.size w w' := by
  have hgl : g < w.heap.size := World.block_lt_of_cell? w _ hg
  have hmf : ∀ (fn : Fn) (first cap : Array Value) (w : World), (Instr.makeFunc fn first cap).run Try.prog w = .ok (.func fn first cap) w := fun _ _ _ _ => rfl
  have hb1 : Below w.heap.size w (w.alloc (.cells #[.pointer (some ⟨g, 0, none⟩)] 67)) := (Below.refl _ _).alloc (Nat.le_refl _) _
  have hb2 : Below (w.alloc (.cells #[.pointer (some ⟨g, 0, none⟩)] 67)).heap.size (w.alloc (.cells #[.pointer (some ⟨g, 0, none⟩)] 67)) ((w.alloc (.cells #[.pointer (some ⟨g, 0, none⟩)] 67)).alloc (.cells #[.func (.func 56) #[.pointer (some ⟨g, 0, none⟩)] #[]] 99)) := (Below.refl _ _).alloc (Nat.le_refl _) _
  have hz1 : (w.alloc (.cells #[.pointer (some ⟨g, 0, none⟩)] 67)).heap.size = w.heap.size + 1 := by simp
  have hb0 : Below w.heap.size w ((w.alloc (.cells #[.pointer (some ⟨g, 0, none⟩)] 67)).alloc (.cells #[.func (.func 56) #[.pointer (some ⟨g, 0, none⟩)] #[]] 99)) := hb1.trans (hb2.mono hb1.size)
  have c1 : ((w.alloc (.cells #[.pointer (some ⟨g, 0, none⟩)] 67)).alloc (.cells #[.func (.func 56) #[.pointer (some ⟨g, 0, none⟩)] #[]] 99)).cell? ⟨w.heap.size, 0, none⟩ = some (.pointer (some ⟨g, 0, none⟩)) := (hb2.cell (p := ⟨w.heap.size, 0, none⟩) (by rw [hz1]; show w.heap.size < _; omega)).trans (World.cell?_alloc_at _ _ _ _ rfl)
  have c2 : ((w.alloc (.cells #[.pointer (some ⟨g, 0, none⟩)] 67)).alloc (.cells #[.func (.func 56) #[.pointer (some ⟨g, 0, none⟩)] #[]] 99)).cell? ⟨w.heap.size + 1, 0, none⟩ = some (.func (.func 56) #[.pointer (some ⟨g, 0, none⟩)] #[]) := World.cell?_alloc_at _ _ _ _ hz1.symm
  have hz0 : w.heap.size + 1 < ((w.alloc (.cells #[.pointer (some ⟨g, 0, none⟩)] 67)).alloc (.cells #[.func (.func 56) #[.pointer (some ⟨g, 0, none⟩)] #[]] 99)).heap.size := by simp
  have c0 := (hb0.cell (p := ⟨g, 0, none⟩) hgl).trans hg
  have hx0 := hx.later hb0
  obtain ⟨a, c, rfl⟩ := hx.slice
  clear hb1 hb2 hz1 hx
  by_cases hG : grpB x = true
  · have HB := Lib.hid hG
    have hs : Hid (sqB x = true) := (Gp.of hG).sq
    clear hG hg
    go_enter Try.func54, Try.ntmps54
    go_wp2_with fail
    generalize (w.alloc (.cells #[.pointer (some ⟨g, 0, none⟩)] 67)).alloc (.cells #[.func (.func 56) #[.pointer (some ⟨g, 0, none⟩)] #[]] 99) = w0 at *
    refine (implVG_is _ x _ true HB hx0 hm hr).mono ?_
    rintro e w1 ⟨rfl, hb1⟩
    go_wp2_with fail
    have hs1 := hb1.size
    have hb := hb0.trans (hb1.mono hb0.size)
    have d0 : Hid (w1.cell? ⟨g, 0, none⟩ = some (.slice a x.length c)) := (hb1.cell (p := ⟨g, 0, none⟩) (World.block_lt_of_cell? w0 _ c0)).trans c0
    have d1 : Hid (w1.cell? ⟨w.heap.size, 0, none⟩ = some (.pointer (some ⟨g, 0, none⟩))) := (hb1.cell (p := ⟨w.heap.size, 0, none⟩) (by show w.heap.size < _; omega)).trans c1
    have d2 : Hid (w1.cell? ⟨w.heap.size + 1, 0, none⟩ = some (.func (.func 56) #[.pointer (some ⟨g, 0, none⟩)] #[])) := (hb1.cell (p := ⟨w.heap.size + 1, 0, none⟩) (by show w.heap.size + 1 < _; omega)).trans c2
    have HX := Lib.hid (hx0.later hb1)
    have HOLD := Lib.hid hb
    clear hx0 hb0 hb1 hb c0 c1 c2 hz0 hgl
    obtain ⟨G, O, C, H, F, P, hv, hat⟩ := HX.out.sq hs.out
    simp only [Value.slice.injEq, true_and] at hv
    obtain ⟨rfl, rfl⟩ := hv
    have HG := Lib.hid (growT_any x w1 g w.heap.size (w.heap.size + 1) (w1.heap.size + 1) (w1.heap.size + 1 + 1) hs hat d0 d1 d2 _ (Lib.hid rfl) x.length [] _ _ (by simp) (fun i hi => by simp at hi) (GW.start w1 _))
    clear hat
    have HO : Hid (lexF x.length (okL true x) x.length [] = lstO true x) := rfl
    rw [HO.out] at HG
    cases ho : lstO true x with
    | none =>
      have h1 : Hid (lstB true x = false) := by unfold Hid lstB; rw [ho]; simp
      have h2 : Hid (lstL true x = []) := by unfold Hid lstL; rw [ho]; simp
      rw [ho] at HG
      clear ho
      go_wp2_with fail
      refine HG.out.mono ?_
      rintro e w4 ⟨v4, rfl, h4⟩
      go_wp2_with fail
      go_ret2
      rw [h1.out, h2.out]
      exact ⟨_, rfl, OK.nil _ _ _ _, HOLD.out.trans (h4.below.mono HOLD.out.size)⟩
    | some r =>
      have h1 : Hid (lstB true x = true) := by unfold Hid lstB; rw [ho, HB.out]; rfl
      have h2 : Hid (lstL true x = r) := by unfold Hid lstL; rw [ho, HB.out]; rfl
      rw [ho] at HG
      clear ho
      go_wp2_with fail
      refine HG.out.mono ?_
      rintro e w4 ⟨v4, rfl, h4⟩
      have c4 := h4.cell
      go_wp2_with fail
      go_ret2
      rw [h1.out, h2.out]
      exact ⟨_, rfl, h4.own.mono HOLD.out.size, HOLD.out.trans (h4.below.mono HOLD.out.size)⟩
  · simp only [Bool.not_eq_true] at hG
    have HB := Lib.hid hG
    have h1 : Hid (lstB true x = false) := by unfold Hid lstB; rw [hG]; rfl
    have h2 : Hid (lstL true x = []) := by unfold Hid lstL; rw [hG]; rfl
    clear hG hg
    go_enter Try.func54, Try.ntmps54
    go_wp2_with fail
    generalize (w.alloc (.cells #[.pointer (some ⟨g, 0, none⟩)] 67)).alloc (.cells #[.func (.func 56) #[.pointer (some ⟨g, 0, none⟩)] #[]] 99) = w0 at *
    refine (implVG_is _ x _ false HB hx0 hm hr).mono ?_
    rintro e w1 ⟨rfl, hb1⟩
    go_wp2_with fail
    go_ret2
    rw [h1.out, h2.out]
    exact ⟨_, rfl, OK.nil _ _ _ _, hb0.trans (hb1.mono hb0.size)⟩
set_option maxRecDepth 100000 in
set_option maxHeartbeats 1000000 in
theorem lstF_any (v : Value) (x : List (List Int)) (g : Nat) (w : World) (hg : w.cell? ⟨g, 0, none⟩ = some v) (hx : RT w v x) (hm : x.length ≤ 1048576) (hr : Small x) :
    Calls Try.prog 54 #[.pointer (some ⟨g, 0, none⟩), .func (.func 55) #[.pointer (some ⟨g, 0, none⟩)] #[]] w fun e w' => ∃ v', e = .returned (.tuple #[v', .bool (lstB false x)]) ∧ OI w.heap.size w' v' (lstL false x) ∧ Below w.heap.size w w' := by
  have hgl : g < w.heap.size := World.block_lt_of_cell? w _ hg
  have hmf : ∀ (fn : Fn) (first cap : Array Value) (w : World), (Instr.makeFunc fn first cap).run Try.prog w = .ok (.func fn first cap) w := fun _ _ _ _ => rfl
  have hb1 : Below w.heap.size w (w.alloc (.cells #[.pointer (some ⟨g, 0, none⟩)] 67)) := (Below.refl _ _).alloc (Nat.le_refl _) _
  have hb2 : Below (w.alloc (.cells #[.pointer (some ⟨g, 0, none⟩)] 67)).heap.size (w.alloc (.cells #[.pointer (some ⟨g, 0, none⟩)] 67)) ((w.alloc (.cells #[.pointer (some ⟨g, 0, none⟩)] 67)).alloc (.cells #[.func (.func 55) #[.pointer (some ⟨g, 0, none⟩)] #[]] 99)) := (Below.refl _ _).alloc (Nat.le_refl _) _
  have hz1 : (w.alloc (.cells #[.pointer (some ⟨g, 0, none⟩)] 67)).heap.size = w.heap.size + 1 := by simp
  have hb0 : Below w.heap.size w ((w.alloc (.cells #[.pointer (some ⟨g, 0, none⟩)] 67)).alloc (.cells #[.func (.func 55) #[.pointer (some ⟨g, 0, none⟩)] #[]] 99)) := hb1.trans (hb2.mono hb1.size)
  have c1 : ((w.alloc (.cells #[.pointer (some ⟨g, 0, none⟩)] 67)).alloc (.cells #[.func (.func 55) #[.pointer (some ⟨g, 0, none⟩)] #[]] 99)).cell? ⟨w.heap.size, 0, none⟩ = some (.pointer (some ⟨g, 0, none⟩)) := (hb2.cell (p := ⟨w.heap.size, 0, none⟩) (by rw [hz1]; show w.heap.size < _; omega)).trans (World.cell?_alloc_at _ _ _ _ rfl)
  have c2 : ((w.alloc (.cells #[.pointer (some ⟨g, 0, none⟩)] 67)).alloc (.cells #[.func (.func 55) #[.pointer (some ⟨g, 0, none⟩)] #[]] 99)).cell? ⟨w.heap.size + 1, 0, none⟩ = some (.func (.func 55) #[.pointer (some ⟨g, 0, none⟩)] #[]) := World.cell?_alloc_at _ _ _ _ hz1.symm
  have hz0 : w.heap.size + 1 < ((w.alloc (.cells #[.pointer (some ⟨g, 0, none⟩)] 67)).alloc (.cells #[.func (.func 55) #[.pointer (some ⟨g, 0, none⟩)] #[]] 99)).heap.size := by simp
  have c0 := (hb0.cell (p := ⟨g, 0, none⟩) hgl).trans hg
  have hx0 := hx.later hb0
  obtain ⟨a, c, rfl⟩ := hx.slice
  clear hb1 hb2 hz1 hx
  by_cases hG : grpB x = true
  · have HB := Lib.hid hG
    have hs : Hid (sqB x = true) := (Gp.of hG).sq
    clear hG hg
    go_enter Try.func54, Try.ntmps54
    go_wp2_with fail
    generalize (w.alloc (.cells #[.pointer (some ⟨g, 0, none⟩)] 67)).alloc (.cells #[.func (.func 55) #[.pointer (some ⟨g, 0, none⟩)] #[]] 99) = w0 at *
    refine (implVG_is _ x _ true HB hx0 hm hr).mono ?_
    rintro e w1 ⟨rfl, hb1⟩
    go_wp2_with fail
    have hs1 := hb1.size
    have hb := hb0.trans (hb1.mono hb0.size)
    have d0 : Hid (w1.cell? ⟨g, 0, none⟩ = some (.slice a x.length c)) := (hb1.cell (p := ⟨g, 0, none⟩) (World.block_lt_of_cell? w0 _ c0)).trans c0
    have d1 : Hid (w1.cell? ⟨w.heap.size, 0, none⟩ = some (.pointer (some ⟨g, 0, none⟩))) := (hb1.cell (p := ⟨w.heap.size, 0, none⟩) (by show w.heap.size < _; omega)).trans c1
    have d2 : Hid (w1.cell? ⟨w.heap.size + 1, 0, none⟩ = some (.func (.func 55) #[.pointer (some ⟨g, 0, none⟩)] #[])) := (hb1.cell (p := ⟨w.heap.size + 1, 0, none⟩) (by show w.heap.size + 1 < _; omega)).trans c2
    have HX := Lib.hid (hx0.later hb1)
    have HOLD := Lib.hid hb
    clear hx0 hb0 hb1 hb c0 c1 c2 hz0 hgl
    obtain ⟨G, O, C, H, F, P, hv, hat⟩ := HX.out.sq hs.out
    simp only [Value.slice.injEq, true_and] at hv
    obtain ⟨rfl, rfl⟩ := hv
    have HG := Lib.hid (growF_any x w1 g w.heap.size (w.heap.size + 1) (w1.heap.size + 1) (w1.heap.size + 1 + 1) hs hat d0 d1 d2 _ (Lib.hid rfl) x.length [] _ _ (by simp) (fun i hi => by simp at hi) (GW.start w1 _))
    clear hat
    have HO : Hid (lexF x.length (okL false x) x.length [] = lstO false x) := rfl
    rw [HO.out] at HG
    cases ho : lstO false x with
    | none =>
      have h1 : Hid (lstB false x = false) := by unfold Hid lstB; rw [ho]; simp
      have h2 : Hid (lstL false x = []) := by unfold Hid lstL; rw [ho]; simp
      rw [ho] at HG
      clear ho
      go_wp2_with fail
      refine HG.out.mono ?_
      rintro e w4 ⟨v4, rfl, h4⟩
      go_wp2_with fail
      go_ret2
      rw [h1.out, h2.out]
      exact ⟨_, rfl, OK.nil _ _ _ _, HOLD.out.trans (h4.below.mono HOLD.out.size)⟩
    | some r =>
      have h1 : Hid (lstB false x = true) := by unfold Hid lstB; rw [ho, HB.out]; rfl
      have h2 : Hid (lstL false x = r) := by unfold Hid lstL; rw [ho, HB.out]; rfl
      rw [ho] at HG
      clear ho
      go_wp2_with fail
      refine HG.out.mono ?_
      rintro e w4 ⟨v4, rfl, h4⟩
      have c4 := h4.cell
      go_wp2_with fail
      go_ret2
      rw [h1.out, h2.out]
      exact ⟨_, rfl, h4.own.mono HOLD.out.size, HOLD.out.trans (h4.below.mono HOLD.out.size)⟩
  · simp only [Bool.not_eq_true] at hG
    have HB := Lib.hid hG
    have h1 : Hid (lstB false x = false) := by unfold Hid lstB; rw [hG]; rfl
    have h2 : Hid (lstL false x = []) := by unfold Hid lstL; rw [hG]; rfl
    clear hG hg
    go_enter Try.func54, Try.ntmps54
    go_wp2_with fail
    generalize (w.alloc (.cells #[.pointer (some ⟨g, 0, none⟩)] 67)).alloc (.cells #[.func (.func 55) #[.pointer (some ⟨g, 0, none⟩)] #[]] 99) = w0 at *
    refine (implVG_is _ x _ false HB hx0 hm hr).mono ?_
    rintro e w1 ⟨rfl, hb1⟩
    go_wp2_with fail
    go_ret2
    rw [h1.out, h2.out]
    exact ⟨_, rfl, OK.nil _ _ _ _, hb0.trans (hb1.mono hb0.size)⟩
set_option maxHeartbeats 1000000 in
theorem implLC_any (v : Value) (x : List (List Int)) (w : World) (hx : RT w v x) (hm : x.length ≤ 1048576) (hr : Small x) :
    Calls Try.prog 21 #[.agg #[v]] w fun e w' => ∃ v', e = .returned (.tuple #[v', .bool (lstB true x)]) ∧ OI w.heap.size w' v' (lstL true x) ∧ Below w.heap.size w w' := by
  obtain ⟨a, c, rfl⟩ := hx.slice
  have hb : Below w.heap.size w (w.alloc (.cells #[.slice a x.length c] 29)) := (Below.refl _ _).alloc (Nat.le_refl _) _
  have c0 : (w.alloc (.cells #[.slice a x.length c] 29)).cell? ⟨w.heap.size, 0, none⟩ = some (.slice a x.length c) := World.cell?_alloc_at _ _ _ _ rfl
  replace hx := hx.later hb
  have hmf : ∀ (fn : Fn) (first cap : Array Value) (w : World), (Instr.makeFunc fn first cap).run Try.prog w = .ok (.func fn first cap) w := fun _ _ _ _ => rfl
  go_enter Try.func21, Try.ntmps21
  go_wp2_with fail
  generalize w.alloc (.cells #[.slice a x.length c] 29) = w0 at *
  refine (lstT_any _ x _ _ c0 hx hm hr).mono ?_
  rintro e w1 ⟨v1, rfl, ho, hb1⟩
  obtain ⟨va, vc, rfl⟩ := ho.slice
  go_wp2_with fail
  go_ret2
  exact ⟨_, rfl, ho.mono hb.size, hb.trans (hb1.mono hb.size)⟩
set_option maxHeartbeats 1000000 in
theorem implLA_any (v : Value) (x : List (List Int)) (w : World) (hx : RT w v x) (hm : x.length ≤ 1048576) (hr : Small x) :
    Calls Try.prog 14 #[.agg #[v]] w fun e w' => ∃ v', e = .returned (.tuple #[v', .bool (lstB false x)]) ∧ OI w.heap.size w' v' (lstL false x) ∧ Below w.heap.size w w' := by
  obtain ⟨a, c, rfl⟩ := hx.slice
  have hb : Below w.heap.size w (w.alloc (.cells #[.slice a x.length c] 29)) := (Below.refl _ _).alloc (Nat.le_refl _) _
  have c0 : (w.alloc (.cells #[.slice a x.length c] 29)).cell? ⟨w.heap.size, 0, none⟩ = some (.slice a x.length c) := World.cell?_alloc_at _ _ _ _ rfl
  replace hx := hx.later hb
  have hmf : ∀ (fn : Fn) (first cap : Array Value) (w : World), (Instr.makeFunc fn first cap).run Try.prog w = .ok (.func fn first cap) w := fun _ _ _ _ => rfl
  go_enter Try.func14, Try.ntmps14
  go_wp2_with fail
  generalize w.alloc (.cells #[.slice a x.length c] 29) = w0 at *
  refine (lstF_any _ x _ _ c0 hx hm hr).mono ?_
  rintro e w1 ⟨v1, rfl, ho, hb1⟩
  obtain ⟨va, vc, rfl⟩ := ho.slice
  go_wp2_with fail
  go_ret2
  exact ⟨_, rfl, ho.mono hb.size, hb.trans (hb1.mono hb.size)⟩
end Go.Proofs.Ytghmpaegmicheaa
