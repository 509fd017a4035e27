/- Lists of tables: how they read, lists of tables that the call owns, and the laws' helpers over them. -/
import Derived.Test.YthcnhkjiojeemaaMat
namespace Go.Proofs.Ythcnhkjiojeemaa
open Go.RowKit

def tabAt (x : List (List (List Int))) (j : Nat) : List (List Int) := x.getD j []
theorem tabAt_lt {x : List (List (List Int))} {j : Nat} (h : j < x.length) : tabAt x j = x[j] := by unfold tabAt; simp [h]
/-- v is a slice whose tables read as those of x. -/
def R3 (w : World) (v : Value) (x : List (List (List Int))) : Prop := ∃ ts : List Value, RV w v ts ∧ ts.length = x.length ∧ ∀ j, j < x.length → RT w (ts.getD j nl) (tabAt x j)
theorem info_tab : (Try.prog.info? 24).map (fun i => (i.zero, i.size, i.bytes)) = some (some (.slice none 0 0), 1, 24) := by kernel_rfl
section
variable {w : World} {v : Value} {x : List (List (List Int))}
theorem R3.slice (h : R3 w v x) : ∃ a cap, v = .slice a x.length cap := by
  obtain ⟨rs, h1, h2, _⟩ := h
  obtain ⟨a, cap, rfl⟩ := h1.slice
  exact ⟨a, cap, by rw [h2]⟩
theorem R3.at {a : Option Addr} {n cap : Nat} (h : R3 w (.slice a n cap) x) (j : Nat) (hj : j < x.length) :
    ∃ g off r, a = some ⟨g, off, none⟩ ∧ g < w.heap.size ∧ w.cell? ⟨g, off + j, none⟩ = some r ∧ RT w r (tabAt x j) := by
  obtain ⟨rs, h1, h2, h3⟩ := h
  obtain ⟨g, off, e1, e2, e3⟩ := h1.at j (by omega)
  refine ⟨g, off, rs.getD j nl, e1, e2, ?_, h3 j hj⟩
  rw [e3]; simp [show j < rs.length by omega]
theorem R3.later {w' : World} (h : R3 w v x) (hb : Below w.heap.size w w') : R3 w' v x := by
  obtain ⟨rs, h1, h2, h3⟩ := h
  exact ⟨rs, h1.later hb, h2, fun j hj => (h3 j hj).later hb⟩
theorem R3.cap {a : Option Addr} {n cap : Nat} (h : R3 w (.slice a n cap) x) : x.length ≤ maxLen := by
  obtain ⟨rs, h1, h2, _⟩ := h
  have := h1.cap
  omega
theorem R3.drew (h : R3 w v x) : R3 w.drew v x := h
end

/-- A list of tables that the call owns: all its blocks lie from B to S, and no table lies on the block p. -/
def O3 (p : Option Nat) (B S : Nat) (w : World) (v : Value) (x : List (List (List Int))) : Prop :=
  ∃ (ts : List Value) (lo hi : Nat → Nat), OV 24 B w v ts ∧ (∀ k, v.ownBlock = some k → k < S) ∧ ts.length = x.length ∧
    ∀ j, j < x.length → OT (lo j) (hi j) w (ts.getD j nl) (tabAt x j) ∧ B ≤ lo j ∧ hi j ≤ S ∧ (∀ k, v.ownBlock = some k ∨ p = some k → k < lo j ∨ hi j ≤ k) ∧ ∀ i, i < j → hi i ≤ lo j
section
variable {p : Option Nat} {B S : Nat} {w w' : World} {v : Value} {x : List (List (List Int))}
theorem O3.read (h : O3 p B S w v x) : R3 w v x := by
  obtain ⟨ts, lo, hi, h1, _, h2, h3⟩ := h
  exact ⟨ts, h1.read, h2, fun j hj => (h3 j hj).1.read⟩
theorem O3.keep (h : O3 p B S w v x) (hk : ∀ k, B ≤ k → k < S → w'.heap[k]? = w.heap[k]?) : O3 p B S w' v x := by
  obtain ⟨ts, lo, hi, h1, h2, h3, h4⟩ := h
  exact ⟨ts, lo, hi, h1.heap fun k hb => hk k (h1.lt k hb).1 (h2 k hb), h2, h3, fun j hj => ⟨(h4 j hj).1.keep fun k a b => hk k (by have := (h4 j hj).2.1; omega) (by have := (h4 j hj).2.2.1; omega), (h4 j hj).2⟩⟩
theorem O3.later (h : O3 p B S w v x) (hb : Below w.heap.size w w') (hS : S ≤ w.heap.size) : O3 p B S w' v x := h.keep fun k _ h2 => hb.block k (by omega)
theorem O3.chgR {B0 S0 : Nat} (h : O3 p B S w v x) (hc : ChgR B0 S0 w w') (hS : S ≤ w.heap.size) (hd : S0 ≤ B ∨ S ≤ B0) : O3 p B S w' v x :=
  h.keep fun k h1 h2 => hc.block k (by omega) (by omega)
theorem O3.drew (h : O3 p B S w v x) : O3 p B S w.drew v x := h.keep fun _ _ _ => rfl
theorem O3.mono {S' : Nat} (h : O3 p B S w v x) (hS : S ≤ S') : O3 p B S' w v x := by
  obtain ⟨ts, lo, hi, h1, h2, h3, h4⟩ := h
  exact ⟨ts, lo, hi, h1, fun k hk => Nat.lt_of_lt_of_le (h2 k hk) hS, h3, fun j hj => ⟨(h4 j hj).1, (h4 j hj).2.1, Nat.le_trans (h4 j hj).2.2.1 hS, (h4 j hj).2.2.2⟩⟩
theorem O3.monoB {B' : Nat} (h : O3 p B S w v x) (hB : B' ≤ B) : O3 p B' S w v x := by
  obtain ⟨ts, lo, hi, h1, h2, h3, h4⟩ := h
  exact ⟨ts, lo, hi, h1.mono hB, h2, h3, fun j hj => ⟨(h4 j hj).1, Nat.le_trans hB (h4 j hj).2.1, (h4 j hj).2.2⟩⟩
theorem O3.nil (p : Option Nat) (B S : Nat) (w : World) : O3 p B S w (.slice none 0 0) [] := ⟨[], fun _ => B, fun _ => B, OV.nil _ B w, fun k hk => by simp [Value.ownBlock] at hk, rfl, fun j hj => by simp at hj⟩
theorem O3.slice (h : O3 p B S w v x) : ∃ a cap, v = .slice a x.length cap := h.read.slice
end

/-- How many numbers a list of tables has. -/
def tot3 (x : List (List (List Int))) : Nat := (x.map tot).sum
theorem tot3_take (x : List (List (List Int))) (k : Nat) (h : k < x.length) : tot3 (x.take (k + 1)) = tot3 (x.take k) + tot (tabAt x k) := by
  unfold tot3
  rw [List.take_succ_eq_append_getElem h, List.map_append, List.sum_append, tabAt_lt h]
  simp
theorem tot3_le (x : List (List (List Int))) (k : Nat) : tot3 (x.take k) ≤ tot3 x := by
  unfold tot3
  conv => rhs; rw [← List.take_append_drop k x]
  rw [List.map_append, List.sum_append]; omega
theorem tot3_at (x : List (List (List Int))) (k : Nat) (h : k < x.length) : tot (tabAt x k) ≤ tot3 x := by
  have h1 := tot3_take x k h
  have h2 := tot3_le x (k + 1)
  omega
def upsS : Int → List (List (List Int)) → List (List (List Int))
  | _, [] => []
  | k, r :: x => upsT k r :: upsS (k + tot r) x
theorem upsS_length : ∀ (k : Int) (x : List (List (List Int))), (upsS k x).length = x.length
  | _, [] => rfl
  | k, r :: x => by simp [upsS, upsS_length]
theorem upsS_append : ∀ (k : Int) (x y : List (List (List Int))), upsS k (x ++ y) = upsS k x ++ upsS (k + tot3 x) y
  | k, [], y => by simp [upsS, tot3]
  | k, r :: x, y => by
    have : k + (tot r : Int) + (tot3 x : Nat) = k + ((tot3 (r :: x) : Nat) : Int) := by simp [tot3]; omega
    simp only [List.cons_append, upsS, upsS_append (k + tot r) x y, this]
theorem take_snoc3 {x : List (List (List Int))} {k : Nat} (h : k < x.length) : x.take (k + 1) = x.take k ++ [tabAt x k] := by
  rw [List.take_succ_eq_append_getElem h, tabAt_lt h]
theorem upsS_step (k : Int) (x : List (List (List Int))) (i : Nat) (h : i < x.length) : upsS k (x.take (i + 1)) = upsS k (x.take i) ++ [upsT (k + tot3 (x.take i)) (tabAt x i)] := by
  rw [take_snoc3 h, upsS_append]; simp [upsS]
theorem upsS_at (k : Int) (x : List (List (List Int))) (i : Nat) (h : i < x.length) : tabAt (upsS k x) i = upsT (k + tot3 (x.take i)) (tabAt x i) := by
  have h1 : upsS k x = upsS k (x.take (i + 1)) ++ upsS (k + tot3 (x.take (i + 1))) (x.drop (i + 1)) := by rw [← upsS_append, List.take_append_drop]
  rw [h1, upsS_step k x i h]
  unfold tabAt
  have hl : (upsS k (x.take i)).length = i := by rw [upsS_length, List.length_take]; omega
  rw [List.getD_eq_getElem?_getD, List.append_assoc, List.getElem?_append_right (by omega), hl]
  simp

set_option maxHeartbeats 1000000 in
theorem eqInt64SSS_q (u v : Value) (x : List (List (List Int))) (w : World) (hx : R3 w u x) (hy : R3 w v x) (hm : x.length ≤ 1099511627776) (hr : ∀ j, j < x.length → (tabAt x j).length ≤ 1099511627776 ∧ ∀ i, i < (tabAt x j).length → (rowAt (tabAt x j) i).length ≤ 1099511627776) :
    Calls Try.prog 51 #[u, v] w fun e w' => e = .returned (.bool true) ∧ Drw w w' := by
  obtain ⟨a, c, rfl⟩ := hx.slice
  obtain ⟨b, d, rfl⟩ := hy.slice
  have HR := Lib.hid hr
  clear hr
  go_enter Try.func51, Try.ntmps51
  go_wp2_with fail
  go_loopw [5] (fun iv wr => ∃ k : Nat, k ≤ x.length ∧ iv = .int .i64 k ∧ Drw w wr) (fun iv _ => x.length - (intOf iv).toNat)
  case atStart => exact ⟨0, Nat.zero_le _, rfl, Drw.refl _⟩
  case round =>
    obtain ⟨k, hk, rfl, hd⟩ := hrel
    by_cases hlt : k < x.length
    · obtain ⟨g, off, r, rfl, hg, hc, h1⟩ := (hx.later hd.below).at k hlt
      obtain ⟨g', off', r', rfl, hg', hc', h2⟩ := (hy.later hd.below).at k hlt
      have HRK := Lib.hid (HR.out k hlt)
      go_wp2_with fail
      go_quiet ((go_at_call 23; exact quiet_drw (eqInt64SS_q _ _ _ _ (h1.drewN _) (h2.drewN _) HRK.out.1 HRK.out.2)))
      go_wp2_with fail
      go_roundw
      case rel => exact ⟨k + 1, by omega, by go_num, hd.more _⟩
      case measure => first | (simp [intOf]; done) | (simp [intOf]; omega)
    · go_wp2_with fail
      go_ret
      exact ⟨rfl, hd⟩
set_option maxHeartbeats 1000000 in
theorem markInt64SSS_any (v : Value) (x : List (List (List Int))) (k : Int) (w : World) (p : Option Nat) (B S : Nat) (hx : O3 p B S w v x) (hp : ∀ q, p = some q → q < w.heap.size) (hS : S ≤ w.heap.size) (hk : 0 ≤ k ∧ k + tot3 x ≤ 1099511627776) (hm : x.length ≤ 1099511627776) (hr : ∀ j, j < x.length → (tabAt x j).length ≤ 1099511627776) :
    Calls Try.prog 54 #[v, .int .i64 k] w fun e w' => e = .returned (.int .i64 (k + tot3 x)) ∧ O3 p B S w' v (upsS k x) ∧ ChgR B S w w' ∧ ∀ q, p = some q → w'.heap[q]? = w.heap[q]? := by
  obtain ⟨a, c, rfl⟩ := hx.slice
  obtain ⟨ts, lo, hi, hown, hvS, htl, htab⟩ := hx
  have HT := Lib.hid (tot3_le x)
  have HR := Lib.hid hr
  have HS := Lib.hid hvS
  have HB := Lib.hid (fun j hj => (htab j hj).2)
  have HTA := Lib.hid (fun j hj => (htab j hj).1)
  have HP := Lib.hid hp
  clear hvS hr htab hp
  go_enter Try.func54, Try.ntmps54
  go_wp2_with fail
  go_loopw [1, 5] (fun kv iv wr => ∃ i : Nat, i ≤ x.length ∧ iv = .int .i64 i ∧ kv = .int .i64 (k + tot3 (x.take i)) ∧ OV 24 B wr (.slice a x.length c) ts ∧ Hid (∀ j, j < x.length → OT (lo j) (hi j) wr (ts.getD j nl) (if j < i then tabAt (upsS k x) j else tabAt x j)) ∧ ChgR B S w wr ∧ Hid (∀ q, p = some q → wr.heap[q]? = w.heap[q]?)) (fun _ iv _ => x.length - (intOf iv).toNat)
  case atStart => exact ⟨0, Nat.zero_le _, rfl, by simp [tot3], hown, by simpa using HTA, ChgR.refl _ _ _, Lib.hid (fun _ _ => rfl)⟩
  case round =>
    clear hown
    obtain ⟨i, hi', rfl, rfl, hown, HTW, hch, HPW⟩ := hrel
    by_cases hlt : i < x.length
    · have ho := HTW.out i hlt
      rw [if_neg (Nat.lt_irrefl _)] at ho
      obtain ⟨g, rfl, hg, hc⟩ := hown.at i (by omega)
      rw [List.getElem?_eq_getElem (by omega)] at hc
      have hget : ts.getD i nl = ts[i]'(by omega) := by simp [show i < ts.length by omega]
      rw [← hget] at hc
      have hs : Hid (∀ w2, OT (lo i) (hi i) w2 (ts.getD i nl) (upsT (k + tot3 (x.take i)) (tabAt x i)) → ChgR (lo i) (hi i) wr w2 → OV 24 B w2 (.slice (some ⟨g, 0, none⟩) x.length c) ts ∧ Hid (∀ j, j < x.length → OT (lo j) (hi j) w2 (ts.getD j nl) (if j < i + 1 then tabAt (upsS k x) j else tabAt x j)) ∧ ChgR B S w w2 ∧ Hid (∀ q, p = some q → w2.heap[q]? = w.heap[q]?)) := fun w2 h1 h2 => by
        have hbi := HB.out i hlt
        have hsz := hch.size
        refine ⟨hown.heap fun q hq => h2.block q (hown.lt q hq).2 ?_, fun j hj => ?_, hch.trans ⟨h2.os, h2.tape, h2.output, h2.size, fun q hq hd => h2.block q hq (by omega)⟩, Lib.hid (fun q hq => (h2.block q (Nat.lt_of_lt_of_le (HP.out q hq) hsz) (hbi.2.2.1 q (.inr hq))).trans (HPW.out q hq))⟩
        · have := hbi.2.2.1 q (.inl (by simp [Value.ownBlock] at hq ⊢; omega))
          omega
        · have hbj := HB.out j hj
          by_cases e : j = i
          · subst e
            rw [if_pos (by omega), upsS_at _ _ _ hj]; exact h1
          · have hh := (HTW.out j hj).chgR h2 (by omega) (by
              rcases Nat.lt_or_gt_of_ne e with hh | hh
              · exact .inr (hbi.2.2.2 j hh)
              · exact .inl (hbj.2.2.2 i hh))
            by_cases hji : j < i
            · rw [if_pos hji] at hh; rw [if_pos (by omega)]; exact hh
            · rw [if_neg hji] at hh; rw [if_neg (by omega)]; exact hh
      have htk := tot3_take x i hlt
      have HTK := Lib.hid htk
      have ht1 := HT.out (i + 1)
      have hrl' := HR.out i hlt
      clear htk hget hown hch HTW
      generalize htt : tot3 (x.take i) = t at *
      have HTT := Lib.hid htt
      clear htt
      have htb : (t : Int) + tot (tabAt x i) ≤ tot3 x := by have := HTK.out; omega
      generalize ts.getD i nl = r at *
      go_wp2_with (go_at_call 24; refine (markInt64SS_any _ _ _ _ _ _ ho (by omega) (by omega)).mono ?_; rintro e w2 ⟨rfl, h1, h2⟩)
      obtain ⟨h3, h4, h5, h6⟩ := hs.out w2 h1 h2
      go_roundw
      case rel => exact ⟨i + 1, by omega, by go_num, by rw [HTK.out]; go_num, h3, h4, h5, h6⟩
      case measure => first | (simp [intOf]; done) | (simp [intOf]; omega)
    · go_wp2_with fail
      go_ret
      have hk' : i = x.length := by omega
      subst hk'
      rw [List.take_length] at *
      refine ⟨rfl, ⟨ts, lo, hi, hown, HS.out, by rw [upsS_length]; exact htl, fun j hj => ?_⟩, hch, HPW.out⟩
      rw [upsS_length] at hj
      have := HTW.out j hj
      rw [if_pos hj] at this
      exact ⟨this, HB.out j hj⟩
set_option maxHeartbeats 1000000 in
theorem heldInt64SSS_yes (v : Value) (x : List (List (List Int))) (k : Int) (w : World) (hx : R3 w v (upsS k x)) (hk : 0 ≤ k ∧ k + tot3 x ≤ 1099511627776) (hm : x.length ≤ 1099511627776) (hr : ∀ j, j < x.length → (tabAt x j).length ≤ 1099511627776) :
    Calls Try.prog 55 #[v, .int .i64 k] w fun e w' => e = .returned (.int .i64 (k + tot3 x)) ∧ w = w' := by
  obtain ⟨a, c, rfl⟩ := hx.slice
  have HT := Lib.hid (tot3_le x)
  have HR := Lib.hid hr
  clear hr
  rw [upsS_length] at hx ⊢
  go_enter Try.func55, Try.ntmps55
  go_wp2_with fail
  go_loop [1, 5] (fun kv iv => ∃ i : Nat, i ≤ x.length ∧ iv = .int .i64 i ∧ kv = .int .i64 (k + tot3 (x.take i))) (fun _ iv => x.length - (intOf iv).toNat)
  case atStart => exact ⟨0, Nat.zero_le _, rfl, by simp [tot3]⟩
  case round =>
    obtain ⟨i, hi, rfl, rfl⟩ := hrel
    by_cases hlt : i < x.length
    · obtain ⟨g, off, r, rfl, hg, hc, hr⟩ := hx.at i (by rw [upsS_length]; exact hlt)
      rw [upsS_at k x i hlt] at hr
      have htk := tot3_take x i hlt
      have HTK := Lib.hid htk
      have ht1 := HT.out (i + 1)
      have hrl' := HR.out i hlt
      clear htk
      generalize htt : tot3 (x.take i) = t at *
      clear htt
      have htb : (t : Int) + tot (tabAt x i) ≤ tot3 x := by have := HTK.out; omega
      go_wp2_with (go_at_call 72; refine (heldInt64SS_yes _ _ _ _ hr (by omega) (by omega)).mono ?_; rintro e w2 ⟨rfl, rfl⟩)
      go_round
      case rel => exact ⟨i + 1, by omega, by go_num, by rw [HTK.out]; go_num⟩
      case measure => first | (simp [intOf]; done) | (simp [intOf]; omega)
    · go_wp2_with fail
      go_ret
      have hk' : i = x.length := by omega
      subst hk'
      rw [List.take_length]
      exact ⟨rfl, rfl⟩
end Go.Proofs.Ythcnhkjiojeemaa
