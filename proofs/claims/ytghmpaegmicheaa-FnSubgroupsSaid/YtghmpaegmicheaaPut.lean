/- l00Put: a number is put to its place among rising ones. -/
import Derived.Test.YtghmpaegmicheaaSub
namespace Go.Proofs.Ytghmpaegmicheaa
open Go.RowKit

def PutR (xs : List Int) (y : Int) (i : Nat) (d : Bool) (r : List Int) : Prop :=
  if d = true then ∃ p, p < i ∧ (∀ j, j < p → xs.getD j 0 < y) ∧ y < xs.getD p 0 ∧ r = xs.take p ++ y :: (xs.take i).drop p
  else r = xs.take i ∧ ∀ j, j < i → xs.getD j 0 < y
theorem PutR.start (xs : List Int) (y : Int) : PutR xs y 0 false [] := by
  unfold PutR; rw [if_neg (by simp)]; exact ⟨by simp, fun j hj => by omega⟩
theorem PutR.low {xs : List Int} {y : Int} {i : Nat} {r : List Int} (h : PutR xs y i false r) (hi : i < xs.length) (hy : xs.getD i 0 < y) : PutR xs y (i + 1) false (r ++ [xs.getD i 0]) := by
  unfold PutR at *
  rw [if_neg (by simp)] at *
  obtain ⟨h1, h2⟩ := h
  refine ⟨by rw [h1, take_snocI xs i hi], fun j hj => ?_⟩
  by_cases e : j = i
  · subst e; exact hy
  · exact h2 j (by omega)
theorem PutR.here {xs : List Int} {y : Int} {i : Nat} {r : List Int} (h : PutR xs y i false r) (hi : i < xs.length) (hy : y < xs.getD i 0) : PutR xs y (i + 1) true ((r ++ [y]) ++ [xs.getD i 0]) := by
  unfold PutR at *
  rw [if_neg (by simp)] at h
  rw [if_pos rfl]
  obtain ⟨h1, h2⟩ := h
  refine ⟨i, by omega, h2, hy, ?_⟩
  have e : (xs.take (i + 1)).drop i = [xs.getD i 0] := by
    rw [take_snocI xs i hi, List.drop_append_of_le_length (by rw [List.length_take]; omega)]
    rw [List.drop_of_length_le (by rw [List.length_take]; omega)]; rfl
  rw [h1, e]; simp
theorem PutR.high {xs : List Int} {y : Int} {i : Nat} {r : List Int} (h : PutR xs y i true r) (hi : i < xs.length) : PutR xs y (i + 1) true (r ++ [xs.getD i 0]) := by
  unfold PutR at *
  rw [if_pos rfl] at *
  obtain ⟨p, hp, h1, h2, h3⟩ := h
  refine ⟨p, by omega, h1, h2, ?_⟩
  rw [h3, take_snocI xs i hi, List.drop_append_of_le_length (by rw [List.length_take]; omega)]
  simp
theorem PutR.len {xs : List Int} {y : Int} {i : Nat} {d : Bool} {r : List Int} (h : PutR xs y i d r) (hi : i ≤ xs.length) : r.length ≤ i + 1 := by
  unfold PutR at h
  cases d
  · rw [if_neg (by simp)] at h
    rw [h.1, List.length_take]; omega
  · rw [if_pos rfl] at h
    obtain ⟨p, hp, _, _, rfl⟩ := h
    simp [List.length_take]; omega
/-- What is put: rising, with the number and those before. -/
structure Put (xs : List Int) (y : Int) (l : List Int) : Prop where
  inc : Inc l
  mem : ∀ z, z ∈ l ↔ z = y ∨ z ∈ xs
  len : l.length = xs.length + 1
theorem PutR.endF {xs : List Int} {y : Int} {r : List Int} (hx : Inc xs) (h : PutR xs y xs.length false r) : Put xs y (r ++ [y]) := by
  unfold PutR at h
  rw [if_neg (by simp), List.take_length] at h
  obtain ⟨rfl, h2⟩ := h
  refine ⟨inc_snoc hx fun z hz => ?_, fun z => ?_, by simp⟩
  · obtain ⟨j, hj, rfl⟩ := List.getElem_of_mem hz
    have := h2 j hj
    rw [getD_eq hj] at this; exact this
  · rw [List.mem_append, List.mem_singleton]; exact Or.comm
theorem inc_put {xs : List Int} {y : Int} {p : Nat} (hx : Inc xs) (h1 : ∀ j, j < p → xs.getD j 0 < y) (h2 : y < xs.getD p 0) (hp : p < xs.length) : Inc (xs.take p ++ y :: xs.drop p) := by
  have hl : (xs.take p).length = p := by rw [List.length_take]; omega
  have hg : ∀ k, (xs.take p ++ y :: xs.drop p).getD k 0 = if k < p then xs.getD k 0 else if k = p then y else xs.getD (k - 1) 0 := by
    intro k
    by_cases e1 : k < p
    · rw [if_pos e1, List.getD_eq_getElem?_getD, List.getElem?_append_left (by omega), List.getElem?_take, if_pos e1, ← List.getD_eq_getElem?_getD]
    · rw [if_neg e1, List.getD_eq_getElem?_getD, List.getElem?_append_right (by omega), hl]
      by_cases e2 : k = p
      · subst e2; rw [if_pos rfl, Nat.sub_self]; rfl
      · rw [if_neg e2, show k - p = (k - 1 - p) + 1 by omega, List.getElem?_cons_succ, List.getElem?_drop, show p + (k - 1 - p) = k - 1 by omega, ← List.getD_eq_getElem?_getD]
  intro i j hij hj
  have hlen : (xs.take p ++ y :: xs.drop p).length = xs.length + 1 := by simp [List.length_take]; omega
  rw [hlen] at hj
  rw [hg i, hg j]
  by_cases a1 : i < p
  · rw [if_pos a1]
    by_cases a2 : j < p
    · rw [if_pos a2]; exact hx i j hij (by omega)
    · rw [if_neg a2]
      by_cases a3 : j = p
      · rw [if_pos a3]; exact h1 i a1
      · rw [if_neg a3]; exact hx i (j - 1) (by omega) (by omega)
  · rw [if_neg a1, if_neg (show ¬ j < p by omega), if_neg (show ¬ j = p by omega)]
    by_cases a4 : i = p
    · rw [if_pos a4]
      by_cases a5 : j - 1 = p
      · rw [a5]; exact h2
      · have := hx p (j - 1) (by omega) (by omega)
        omega
    · rw [if_neg a4]; exact hx (i - 1) (j - 1) (by omega) (by omega)
theorem PutR.endT {xs : List Int} {y : Int} {r : List Int} (hx : Inc xs) (h : PutR xs y xs.length true r) : Put xs y r := by
  unfold PutR at h
  rw [if_pos rfl, List.take_length] at h
  obtain ⟨p, hp, h1, h2, rfl⟩ := h
  refine ⟨inc_put hx h1 h2 hp, fun z => ?_, by simp [List.length_take]; omega⟩
  rw [List.mem_append, List.mem_cons]
  have e : z ∈ xs ↔ z ∈ xs.take p ∨ z ∈ xs.drop p := by rw [← List.mem_append, List.take_append_drop]
  rw [e]
  constructor
  · rintro (h | h | h)
    · exact .inr (.inl h)
    · exact .inl h
    · exact .inr (.inr h)
  · rintro (h | h | h)
    · exact .inr (.inl h)
    · exact .inl h
    · exact .inr (.inr h)
set_option maxRecDepth 100000 in
set_option maxHeartbeats 4000000 in
theorem l00Put_any (v : Value) (xs : List Int) (y : Int) (w : World) (hx : RI w v xs) (hi : Inc xs) (hy : ¬ y ∈ xs) (hm : xs.length ≤ 1048576) :
    Calls Try.prog 72 #[v, .int .i64 y] w fun e w' => ∃ v' l, e = .returned v' ∧ Put xs y l ∧ OI w.heap.size w' v' l ∧ Below w.heap.size w w' := by
  obtain ⟨a, c, rfl⟩ := hx.slice
  have HO : Hid (OI w.heap.size (w.alloc (.cells #[] 2)) (.slice (some ⟨w.heap.size, 0, none⟩) 0 0) []) := OK.made _ _ _ (Nat.le_refl _)
  have HI := Lib.hid hi
  have HY : Hid (∀ i, i < xs.length → xs.getD i 0 ≠ y) := fun i hi2 e => hy (e ▸ getD_mem hi2)
  clear hi hy
  go_enter Try.func72, Try.ntmps72
  go_wp2_with fail
  go_loopw [5, 6, 7] (fun ov dv iv wr => ∃ (i : Nat) (d : Bool) (r : List Int), i ≤ xs.length ∧ iv = .int .i64 i ∧ dv = .bool d ∧ Hid (PutR xs y i d r) ∧ OI w.heap.size wr ov r ∧ Below w.heap.size w wr) (fun _ _ iv _ => xs.length - (intOf iv).toNat)
  case atStart => exact ⟨0, false, [], Nat.zero_le _, rfl, rfl, PutR.start xs y, HO.out, (Below.refl _ _).alloc (Nat.le_refl _) _⟩
  case round =>
    obtain ⟨i, d, r, hil, rfl, rfl, HR, ho, hb⟩ := hrel
    clear HO
    have hrl : r.length ≤ 1099511627776 := by have := HR.out.len hil; omega
    by_cases hlt : i < xs.length
    · obtain ⟨g, off, rfl, hg, hc0⟩ := hx.at i hlt
      have HC : Hid (∀ wx, Below w.heap.size w wx → wx.cell? ⟨g, off + i, none⟩ = some (.int .i64 (xs.getD i 0))) := fun wx h => (h.cell (p := ⟨g, off + i, none⟩) hg).trans hc0
      have hc := HC.out _ hb
      clear hc0
      have hne := HY.out i hlt
      cases d
      · by_cases hlow : xs.getD i 0 < y
        · have HR2 := Lib.hid (HR.out.low hlt hlow)
          clear hne HR HY
          generalize xs.getD i 0 = z at *
          go_wp2_with (at_builtin; refine wpl_app_i64 rfl _ _ rfl w.heap.size _ _ rfl (ho.alloc _) _ _ _ rfl (World.cell?_alloc_at _ _ _ _ rfl) hrl (by have := hb.size; simp; omega) ?_; intro v5 w5 ho5 hgr)
          have hb5 : Below w.heap.size w w5 := (hb.alloc hb.size _).grown hgr (by have := hb.size; simp; omega) fun j hj => (ho.lt j hj).1
          go_roundw
          case rel => exact ⟨i + 1, false, _, by omega, by go_num, rfl, HR2, ho5, hb5⟩
          case measure => first | (simp [intOf]; done) | (simp [intOf]; omega)
        · have hgt : y < xs.getD i 0 := by omega
          have HR2 := Lib.hid (HR.out.here hlt hgt)
          have hrl2 : (r ++ [y]).length ≤ 1099511627776 := by have := HR.out.len hil; simp; omega
          clear hne HR hlow HY
          generalize xs.getD i 0 = z at *
          have hge : y ≤ z := by omega
          have tok1 : True := trivial
          go_wp2_with (first
            | (at_builtin; have _t := tok1; refine wpl_app_i64 rfl _ _ rfl w.heap.size _ _ rfl (ho.alloc _) _ _ _ rfl (World.cell?_alloc_at _ _ _ _ rfl) hrl (by have := hb.size; simp; omega) ?_; intro v5 w5 ho5 hgr; have hb5 : Below w.heap.size w w5 := (hb.alloc hb.size _).grown hgr (by have := hb.size; simp; omega) fun j hj => (ho.lt j hj).1; have hc5 := HC.out _ hb5; clear tok1)
            | (at_builtin; refine wpl_app_i64 rfl _ _ rfl w.heap.size _ _ rfl (ho5.alloc _) _ _ _ rfl (World.cell?_alloc_at _ _ _ _ rfl) hrl2 (by have := hb5.size; simp; omega) ?_; intro v6 w6 ho6 hgr6))
          have hb6 : Below w.heap.size w w6 := (hb5.alloc hb5.size _).grown hgr6 (by have := hb5.size; simp; omega) fun j hj => (ho5.lt j hj).1
          go_roundw
          case rel => exact ⟨i + 1, true, _, by omega, by go_num, rfl, HR2, ho6, hb6⟩
          case measure => first | (simp [intOf]; done) | (simp [intOf]; omega)
      · have HR2 := Lib.hid (HR.out.high hlt)
        clear HR HY
        generalize xs.getD i 0 = z at *
        by_cases hlow : y < z
        · go_wp2_with (at_builtin; refine wpl_app_i64 rfl _ _ rfl w.heap.size _ _ rfl (ho.alloc _) _ _ _ rfl (World.cell?_alloc_at _ _ _ _ rfl) hrl (by have := hb.size; simp; omega) ?_; intro v5 w5 ho5 hgr)
          have hb5 : Below w.heap.size w w5 := (hb.alloc hb.size _).grown hgr (by have := hb.size; simp; omega) fun j hj => (ho.lt j hj).1
          go_roundw
          case rel => exact ⟨i + 1, true, _, by omega, by go_num, rfl, HR2, ho5, hb5⟩
          case measure => first | (simp [intOf]; done) | (simp [intOf]; omega)
        · go_wp2_with (at_builtin; refine wpl_app_i64 rfl _ _ rfl w.heap.size _ _ rfl (ho.alloc _) _ _ _ rfl (World.cell?_alloc_at _ _ _ _ rfl) hrl (by have := hb.size; simp; omega) ?_; intro v5 w5 ho5 hgr)
          have hb5 : Below w.heap.size w w5 := (hb.alloc hb.size _).grown hgr (by have := hb.size; simp; omega) fun j hj => (ho.lt j hj).1
          go_roundw
          case rel => exact ⟨i + 1, true, _, by omega, by go_num, rfl, HR2, ho5, hb5⟩
          case measure => first | (simp [intOf]; done) | (simp [intOf]; omega)
    · obtain rfl : i = xs.length := by omega
      cases d
      · have HF := Lib.hid (HR.out.endF HI.out)
        go_wp2_with (at_builtin; refine wpl_app_i64 rfl _ _ rfl w.heap.size _ _ rfl (ho.alloc _) _ _ _ rfl (World.cell?_alloc_at _ _ _ _ rfl) hrl (by have := hb.size; simp; omega) ?_; intro v5 w5 ho5 hgr)
        have hb5 : Below w.heap.size w w5 := (hb.alloc hb.size _).grown hgr (by have := hb.size; simp; omega) fun j hj => (ho.lt j hj).1
        go_ret
        exact ⟨_, _, rfl, HF.out, ho5, hb5⟩
      · have HF := Lib.hid (HR.out.endT HI.out)
        go_wp2_with fail
        go_ret
        exact ⟨_, _, rfl, HF.out, ho, hb⟩
end Go.Proofs.Ytghmpaegmicheaa
