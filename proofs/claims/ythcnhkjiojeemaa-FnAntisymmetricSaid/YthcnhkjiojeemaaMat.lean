/- Tables of rows of int64: how they read, tables that the call owns, and the laws' helpers over them. -/
import Derived.Test.YthcnhkjiojeemaaInts
namespace Go.Proofs.Ythcnhkjiojeemaa
open Go.RowKit

abbrev nl : Value := .slice none 0 0
def rowAt (x : List (List Int)) (j : Nat) : List Int := x.getD j []
theorem rowAt_lt {x : List (List Int)} {j : Nat} (h : j < x.length) : rowAt x j = x[j] := by unfold rowAt; simp [h]
/-- v is a slice whose rows read as the lists of x. -/
def RT (w : World) (v : Value) (x : List (List Int)) : Prop := ∃ rs : List Value, RV w v rs ∧ rs.length = x.length ∧ ∀ j, j < x.length → RI w (rs.getD j nl) (rowAt x j)
theorem info_row : (Try.prog.info? 29).map (fun i => (i.zero, i.size, i.bytes)) = some (some (.slice none 0 0), 1, 24) := by kernel_rfl
section
variable {w : World} {v : Value} {x : List (List Int)}
theorem RT.slice (h : RT w v x) : ∃ a cap, v = .slice a x.length cap := by
  obtain ⟨rs, h1, h2, _⟩ := h
  obtain ⟨a, cap, rfl⟩ := h1.slice
  exact ⟨a, cap, by rw [h2]⟩
theorem RT.at {a : Option Addr} {n cap : Nat} (h : RT w (.slice a n cap) x) (j : Nat) (hj : j < x.length) :
    ∃ g off r, a = some ⟨g, off, none⟩ ∧ g < w.heap.size ∧ w.cell? ⟨g, off + j, none⟩ = some r ∧ RI w r (rowAt x j) := by
  obtain ⟨rs, h1, h2, h3⟩ := h
  obtain ⟨g, off, e1, e2, e3⟩ := h1.at j (by omega)
  refine ⟨g, off, rs.getD j nl, e1, e2, ?_, h3 j hj⟩
  rw [e3]; simp [show j < rs.length by omega]
theorem RT.later {w' : World} (h : RT w v x) (hb : Below w.heap.size w w') : RT w' v x := by
  obtain ⟨rs, h1, h2, h3⟩ := h
  exact ⟨rs, h1.later hb, h2, fun j hj => (h3 j hj).later hb⟩
theorem RT.cap {a : Option Addr} {n cap : Nat} (h : RT w (.slice a n cap) x) : x.length ≤ maxLen := by
  obtain ⟨rs, h1, h2, _⟩ := h
  have := h1.cap
  omega
theorem RT.len {a : Option Addr} {n cap : Nat} (h : RT w (.slice a n cap) x) : n = x.length := by
  obtain ⟨rs, h1, h2, _⟩ := h
  have := h1.len
  omega
theorem RI.lenle (v : Value) (xs : List Int) (h : RI w v xs) : xs.length ≤ maxLen := by
  obtain ⟨a, c, rfl⟩ := h.slice
  have := h.cap
  omega
theorem RT.rowle (h : RT w v x) (j : Nat) : (rowAt x j).length ≤ maxLen := by
  obtain ⟨rs, h1, h2, h3⟩ := h
  by_cases hj : j < x.length
  · exact RI.lenle _ _ (h3 j hj)
  · unfold rowAt; rw [List.getD_eq_getElem?_getD, List.getElem?_eq_none (show x.length ≤ j by omega)]; simp
theorem RI.nil (w : World) : RI w nl [] := RV.nil w none 0 (by simp)
end

/-- Only the blocks from B to S may have turned; there may be new ones. -/
structure ChgR (B S : Nat) (w w' : World) : Prop where
  os : w'.os = w.os
  tape : w'.tape = w.tape
  output : w'.output = w.output
  size : w.heap.size ≤ w'.heap.size
  block : ∀ k, k < w.heap.size → (k < B ∨ S ≤ k) → w'.heap[k]? = w.heap[k]?
theorem ChgR.refl (B S : Nat) (w : World) : ChgR B S w w := ⟨rfl, rfl, rfl, Nat.le_refl _, fun _ _ _ => rfl⟩
theorem ChgR.trans {B S : Nat} {a b c : World} (h : ChgR B S a b) (k : ChgR B S b c) : ChgR B S a c :=
  ⟨k.os.trans h.os, k.tape.trans h.tape, k.output.trans h.output, Nat.le_trans h.size k.size, fun i hi hn => (k.block i (Nat.lt_of_lt_of_le hi h.size) hn).trans (h.block i hi hn)⟩
theorem ChgR.of_chg {B S : Nat} {l : List Nat} {w w' : World} (h : Chg l w w') (hl : ∀ k ∈ l, B ≤ k ∧ k < S) : ChgR B S w w' :=
  ⟨h.os, h.tape, h.output, h.size, fun k hk hn => h.block k hk fun hh => by have := hl k hh; omega⟩
theorem ChgR.below {B S B0 : Nat} {w0 w w' : World} (h : ChgR B S w w') (hb : Below B0 w0 w) (hB : B0 ≤ B) (hS : B0 ≤ w.heap.size) : Below B0 w0 w' :=
  hb.trans ⟨h.os, h.tape, h.output, h.size, fun k hk => h.block k (by omega) (.inl (by omega))⟩
theorem Below.chgR {B S : Nat} {w w' : World} (h : Below w.heap.size w w') : ChgR B S w w' := ⟨h.os, h.tape, h.output, h.size, fun k hk _ => h.block k hk⟩

theorem ChgR.cell {B S : Nat} {w w' : World} (h : ChgR B S w w') (b o : Nat) (hb : b < w.heap.size) (hd : b < B ∨ S ≤ b) : w'.cell? ⟨b, o, none⟩ = w.cell? ⟨b, o, none⟩ := by
  have h1 := h.block b hb hd
  unfold World.cell?
  simp only [h1]
theorem OV.heap {T : TypeId} {B : Nat} {w w' : World} {v : Value} {cs : List Value} (h : OV T B w v cs) (he : ∀ k, v.ownBlock = some k → w'.heap[k]? = w.heap[k]?) : OV T B w' v cs := by
  refine ⟨h.1, ?_⟩
  rcases h.2 with hn | ⟨g, cap, cur, rfl, hB, hg, r⟩
  · exact .inl hn
  · exact .inr ⟨g, cap, cur, rfl, hB, by rw [he g rfl]; exact hg, r⟩
theorem OK.heap {T : TypeId} {k : IntKind} {B : Nat} {w w' : World} {v : Value} {xs : List Int} (h : OK T k B w v xs) (he : ∀ k, v.ownBlock = some k → w'.heap[k]? = w.heap[k]?) : OK T k B w' v xs := OV.heap h he
theorem OK.chgR {T : TypeId} {k : IntKind} {B B0 S : Nat} {w w' : World} {v : Value} {xs : List Int} (h : OK T k B w v xs) (hc : ChgR B0 S w w') (hS : S ≤ B) : OK T k B w' v xs :=
  h.heap fun k hk => hc.block k (h.lt k hk).2 (.inr (by have := h.lt k hk; omega))

/-- The rows rs lie in blocks of their own from B to S, none of which is o; they hold the lists of x. -/
def Rows (B S : Nat) (w : World) (o : Option Nat) (rs : List Value) (x : List (List Int)) : Prop :=
  rs.length = x.length ∧ ∀ j, j < x.length → OI B w (rs.getD j nl) (rowAt x j) ∧ (∀ k, (rs.getD j nl).ownBlock = some k → k < S ∧ o ≠ some k) ∧ ∀ i, i < j → ∀ k, (rs.getD j nl).ownBlock = some k → (rs.getD i nl).ownBlock ≠ some k
section
variable {B S : Nat} {w w' : World} {o : Option Nat} {rs : List Value} {x : List (List Int)}
theorem Rows.nil (B S : Nat) (w : World) (o : Option Nat) : Rows B S w o [] [] := ⟨rfl, fun j hj => by simp at hj⟩
theorem Rows.keep (h : Rows B S w o rs x) (hk : ∀ k, B ≤ k → k < S → o ≠ some k → w'.heap[k]? = w.heap[k]?) : Rows B S w' o rs x :=
  ⟨h.1, fun j hj => ⟨(h.2 j hj).1.heap fun k hb => hk k ((h.2 j hj).1.lt k hb).1 ((h.2 j hj).2.1 k hb).1 ((h.2 j hj).2.1 k hb).2, (h.2 j hj).2⟩⟩
theorem Rows.mono {S' : Nat} (h : Rows B S w o rs x) (hS : S ≤ S') : Rows B S' w o rs x :=
  ⟨h.1, fun j hj => ⟨(h.2 j hj).1, fun k hk => ⟨by have := (h.2 j hj).2.1 k hk; omega, ((h.2 j hj).2.1 k hk).2⟩, (h.2 j hj).2.2⟩⟩
theorem Rows.snoc {S' : Nat} {v : Value} {y : List Int} (h : Rows B S w o rs x) (hr : OI S w v y) (hS' : ∀ k, v.ownBlock = some k → k < S') (ho : ∀ k, o = some k → k < S) (hSS : S ≤ S') (hB : B ≤ S) : Rows B S' w o (rs ++ [v]) (x ++ [y]) := by
  refine ⟨by simp [h.1], fun j hj => ?_⟩
  have hl := h.1
  have e1 : ∀ i, i < x.length → (rs ++ [v]).getD i nl = rs.getD i nl := fun i hi => by
    rw [List.getD_eq_getElem?_getD, List.getElem?_append_left (by omega), ← List.getD_eq_getElem?_getD]
  by_cases hjx : j < x.length
  · have e2 : rowAt (x ++ [y]) j = rowAt x j := by
      unfold rowAt
      rw [List.getD_eq_getElem?_getD, List.getElem?_append_left (by omega), ← List.getD_eq_getElem?_getD]
    rw [e1 j hjx, e2]
    obtain ⟨a, b, c⟩ := h.2 j hjx
    refine ⟨a, fun k hk => ⟨by have := b k hk; omega, (b k hk).2⟩, fun i hi k hk => ?_⟩
    rw [e1 i (by omega)]
    exact c i hi k hk
  · have hj' : j = x.length := by simp at hj; omega
    subst hj'
    have e3 : (rs ++ [v]).getD x.length nl = v := by rw [← hl]; simp
    have e4 : rowAt (x ++ [y]) x.length = y := by simp [rowAt]
    rw [e3, e4]
    refine ⟨hr.mono hB, fun k hk => ⟨hS' k hk, fun e => ?_⟩, fun i hi k hk => ?_⟩
    · have := ho k e
      have := hr.lt k hk
      omega
    · rw [e1 i hi]
      intro e
      have := (h.2 i hi).2.1 k e
      have := hr.lt k hk
      omega
theorem Rows.set {y : List Int} (h : Rows B S w o rs x) (j : Nat) (hj : j < x.length) (hr : OI B w' (rs.getD j nl) y) (hc : Chg (vb (rs.getD j nl)) w w') : Rows B S w' o rs (x.set j y) := by
  refine ⟨by simp [h.1], fun i hi => ?_⟩
  simp only [List.length_set] at hi
  obtain ⟨a, b, c⟩ := h.2 i hi
  by_cases e : i = j
  · subst e
    refine ⟨?_, b, c⟩
    have : rowAt (x.set i y) i = y := by simp [rowAt, hj]
    rw [this]; exact hr
  · refine ⟨?_, b, c⟩
    have : rowAt (x.set j y) i = rowAt x i := by
      unfold rowAt
      rw [List.getD_eq_getElem?_getD, List.getElem?_set, if_neg (Ne.symm e), ← List.getD_eq_getElem?_getD]
    rw [this]
    refine a.heap fun k hk => hc.block k (a.lt k hk).2 fun hm => ?_
    rw [mem_vb] at hm
    by_cases hij : i < j
    · exact (h.2 j hj).2.2 i hij k hm hk
    · exact c j (by omega) k hk hm
end

/-- A table that the call owns: all its blocks lie from B to S. -/
def OT (B S : Nat) (w : World) (v : Value) (x : List (List Int)) : Prop :=
  ∃ rs, OV 29 B w v rs ∧ (∀ k, v.ownBlock = some k → k < S) ∧ Rows B S w v.ownBlock rs x
section
variable {B S : Nat} {w w' : World} {v : Value} {x : List (List Int)}
theorem OT.read (h : OT B S w v x) : RT w v x := by
  obtain ⟨rs, h1, _, h2, h3⟩ := h
  exact ⟨rs, h1.read, h2, fun j hj => (h3 j hj).1.read⟩
theorem OT.keep (h : OT B S w v x) (hk : ∀ k, B ≤ k → k < S → w'.heap[k]? = w.heap[k]?) : OT B S w' v x := by
  obtain ⟨rs, h1, h2, h3⟩ := h
  exact ⟨rs, h1.heap fun k hb => hk k (h1.lt k hb).1 (h2 k hb), h2, h3.keep fun k a b _ => hk k a b⟩
theorem OT.later (h : OT B S w v x) (hb : Below w.heap.size w w') (hS : S ≤ w.heap.size) : OT B S w' v x := h.keep fun k _ h2 => hb.block k (by omega)
theorem OT.chgR {B0 S0 : Nat} (h : OT B S w v x) (hc : ChgR B0 S0 w w') (hS : S ≤ w.heap.size) (hd : S0 ≤ B ∨ S ≤ B0) : OT B S w' v x :=
  h.keep fun k h1 h2 => hc.block k (by omega) (by omega)
theorem OT.drew (h : OT B S w v x) : OT B S w.drew v x := h.keep fun _ _ _ => rfl
theorem OT.mono {S' : Nat} (h : OT B S w v x) (hS : S ≤ S') : OT B S' w v x := by
  obtain ⟨rs, h1, h2, h3⟩ := h
  exact ⟨rs, h1, fun k hk => Nat.lt_of_lt_of_le (h2 k hk) hS, h3.mono hS⟩
theorem OT.monoB {B' : Nat} (h : OT B S w v x) (hB : B' ≤ B) : OT B' S w v x := by
  obtain ⟨rs, h1, h2, h3, h4⟩ := h
  exact ⟨rs, h1.mono hB, h2, h3, fun j hj => ⟨(h4 j hj).1.mono hB, (h4 j hj).2⟩⟩
theorem OT.nil (B S : Nat) (w : World) : OT B S w (.slice none 0 0) [] := ⟨[], OV.nil _ B w, fun k hk => by simp [Value.ownBlock] at hk, Rows.nil _ _ _ _⟩
theorem OT.slice (h : OT B S w v x) : ∃ a cap, v = .slice a x.length cap := h.read.slice
end

set_option maxHeartbeats 1000000 in
theorem toInt64SS_any (v : Value) (x : List (List Int)) (w : World) (hx : RT w v x) (hm : x.length ≤ 1048576) (hr : ∀ j, j < x.length → (rowAt x j).length ≤ 1048576) :
    Calls Try.prog 21 #[v] w fun e w' => ∃ v', e = .returned v' ∧ OT w.heap.size w'.heap.size w' v' x ∧ Below w.heap.size w w' := by
  obtain ⟨a, c, rfl⟩ := hx.slice
  have HR := Lib.hid hr
  clear hr
  go_enter Try.func21, Try.ntmps21
  go_wp2_with (at_make; refine wpl_make Try.underlying24 info_row rfl (by omega) rfl _ _ rfl w.heap.size .i64 .i64 _ _ x.length rfl rfl rfl rfl (by omega) (Nat.le_refl _) ?_; intro w1 hown hgr hlt)
  have hb1 : Below w.heap.size w w1 := (Below.refl _ _).grown hgr (Nat.le_refl _) (by simp)
  clear hgr
  go_loopw [4] (fun iv wr => ∃ (k : Nat) (rs : List Value), k ≤ x.length ∧ iv = .int .i64 k ∧ Hid (rs.length = k) ∧ OV 29 w.heap.size wr (.slice (some ⟨w.heap.size, 0, none⟩) x.length x.length) (rs ++ List.replicate (x.length - k) nl) ∧ Rows w.heap.size wr.heap.size wr (some w.heap.size) rs (x.take k) ∧ w.heap.size < wr.heap.size ∧ Below w.heap.size w wr) (fun iv _ => x.length - (intOf iv).toNat)
  case atStart => exact ⟨0, [], Nat.zero_le _, rfl, rfl, by simpa using hown, Rows.nil _ _ _ _, hlt, hb1⟩
  case round =>
    obtain ⟨k, rs, hk, rfl, HK, hown, hrows, hsz, hb⟩ := hrel
    clear hb1 hlt
    by_cases hlt : k < x.length
    · obtain ⟨g, off, r, rfl, hg, hc, hri⟩ := (hx.later hb).at k hlt
      have hrk := HR.out k hlt
      go_wp2_with fail
      refine (toInt64S_any _ _ _ hri hrk).mono ?_
      rintro e w2 ⟨v1, rfl, ho1, hb2⟩
      obtain ⟨a1, c1, rfl⟩ := ho1.slice
      generalize hv1 : Value.slice a1 (rowAt x k).length c1 = v1 at *
      have HV1 := Lib.hid hv1
      clear hv1
      have hown2 := hown.later hb2
      have hkl := HK.out
      have hcz := hown2.cell k (by simp; omega)
      rw [List.getElem?_append_right (by omega)] at hcz
      have hfz := hown2.frozen k
      have h0 : (List.replicate (x.length - k) nl)[k - rs.length]? = some nl := by
        rw [List.getElem?_replicate, if_pos (by omega)]
      rw [h0] at hcz
      have hst := hown2.stored k v1
      have e : (rs ++ List.replicate (x.length - k) nl).set k v1 = (rs ++ [v1]) ++ List.replicate (x.length - (k + 1)) nl := by
        rw [List.set_append_right _ _ (by omega), hkl, Nat.sub_self, show x.length - k = (x.length - (k + 1)) + 1 by omega, List.replicate_succ, List.set_cons_zero]
        simp
      rw [e] at hst
      have hrows2 : Rows w.heap.size w2.heap.size (w2.setCell ⟨w.heap.size, k, none⟩ v1) (some w.heap.size) (rs ++ [v1]) (x.take (k + 1)) := by
        have ht : x.take (k + 1) = x.take k ++ [rowAt x k] := by rw [List.take_succ_eq_append_getElem hlt]; simp [rowAt, hlt]
        rw [ht]
        have h1 : Rows w.heap.size w2.heap.size w2 (some w.heap.size) (rs ++ [v1]) (x.take k ++ [rowAt x k]) :=
          Rows.snoc (hrows.keep fun q _ h2 _ => hb2.block q h2) ho1 (fun q hq => (ho1.lt q hq).2) (fun q hq => by simp at hq; omega) hb2.size (by omega)
        exact h1.keep fun q _ _ h3 => heap_setCell_other _ _ _ _ (fun e => h3 (by first | rw [e] | rw [← e]))
      have hb3 := (hb.trans (hb2.mono (by omega))).setCell (p := ⟨w.heap.size, k, none⟩) (Nat.le_refl _) v1
      have hk1 : (rs ++ [v1]).length = k + 1 := by simp [hkl]
      have HK1 := Lib.hid hk1
      have hsz2 := hb2.size
      clear e h0 hkl hk1 hown hown2 hrows hb2 ho1
      obtain rfl := HV1.out
      go_wp2_with fail
      go_roundw
      case rel => exact ⟨k + 1, _, by omega, by go_num, HK1, hst.1, by simpa using hrows2, by simp; omega, hb3⟩
      case measure => first | (simp [intOf]; done) | (simp [intOf]; omega)
    · have hk' : k = x.length := by omega
      subst hk'
      have hown' : OV 29 w.heap.size wr (.slice (some ⟨w.heap.size, 0, none⟩) x.length x.length) rs := by simpa using hown
      have hrows' : Rows w.heap.size wr.heap.size wr (some w.heap.size) rs x := by simpa using hrows
      go_wp2_with fail
      go_ret
      exact ⟨_, rfl, ⟨rs, hown', fun q hq => by simp [Value.ownBlock] at hq; omega, hrows'⟩, hb⟩

/-- Only draws lie between two worlds. -/
def Drw (w w' : World) : Prop := ∃ n, w' = w.drewN n
theorem Drw.refl (w : World) : Drw w w := ⟨0, rfl⟩
theorem Drw.more {w w' : World} (h : Drw w w') (n : Nat) : Drw w (w'.drewN n) := by
  obtain ⟨m, rfl⟩ := h
  exact ⟨m + n, World.drewN_drewN _ _ _⟩
theorem Drw.trans {w w' w'' : World} (h : Drw w w') (h' : Drw w' w'') : Drw w w'' := by
  obtain ⟨n, rfl⟩ := h'
  exact h.more n
theorem Drw.below {w w' : World} (h : Drw w w') : Below w.heap.size w w' := by
  obtain ⟨n, rfl⟩ := h
  exact below_drewN (Below.refl _ _) _
theorem quiet_drw {P : Program} {f : FuncId} {args : Array Value} {w : World} {n : Nat} {v : Value}
    (h : Calls P f args (w.drewN n) fun e w' => e = .returned v ∧ Drw (w.drewN n) w') : Calls P f args (w.drewN n) fun e w'' => e = .returned v ∧ ∃ m, w'' = w.drewN m :=
  Calls.quiet_of (h.mono fun _ _ h => ⟨h.1, h.2⟩)
set_option maxHeartbeats 1000000 in
theorem eqInt64S_q (u v : Value) (xs : List Int) (w : World) (hx : RI w u xs) (hy : RI w v xs) (hm : xs.length ≤ 1099511627776) :
    Calls Try.prog 52 #[u, v] w fun e w' => e = .returned (.bool true) ∧ Drw w w' := by
  obtain ⟨a, c, rfl⟩ := hx.slice
  obtain ⟨b, d, rfl⟩ := hy.slice
  go_enter Try.func52, Try.ntmps52
  go_wp2_with fail
  go_loopw [5] (fun iv wr => ∃ k : Nat, k ≤ xs.length ∧ iv = .int .i64 k ∧ Drw w wr) (fun iv _ => xs.length - (intOf iv).toNat)
  case atStart => exact ⟨0, Nat.zero_le _, rfl, Drw.refl _⟩
  case round =>
    obtain ⟨k, hk, rfl, hd⟩ := hrel
    by_cases hlt : k < xs.length
    · obtain ⟨g, off, rfl, hg, hc⟩ := (hx.later hd.below).at k hlt
      obtain ⟨g', off', rfl, hg', hc'⟩ := (hy.later hd.below).at k hlt
      generalize xs.getD k 0 = z at *
      go_wp2_with fail
      go_quiet (fail)
      go_wp2_with fail
      go_roundw
      case rel => exact ⟨k + 1, by omega, by go_num, hd.more _⟩
      case measure => first | (simp [intOf]; done) | (simp [intOf]; omega)
    · go_wp2_with fail
      go_ret
      exact ⟨rfl, hd⟩
theorem OK.drewM {T : TypeId} {k : IntKind} {B : Nat} {w : World} {v : Value} {xs : List Int} (h : OK T k B w v xs) (n : Nat) : OK T k B (w.drewN n) v xs := h
theorem RT.drew {w : World} {v : Value} {x : List (List Int)} (h : RT w v x) : RT w.drew v x := h
theorem RK.drew {k : IntKind} {w : World} {v : Value} {x : List Int} (h : RK k w v x) : RK k w.drew v x := h
theorem RT.drewN {w : World} {v : Value} {x : List (List Int)} (h : RT w v x) (n : Nat) : RT (w.drewN n) v x := h.later (below_drewN (Below.refl _ _) _)
theorem RK.drewN {k : IntKind} {w : World} {v : Value} {x : List Int} (h : RK k w v x) (n : Nat) : RK k (w.drewN n) v x := h.later (below_drewN (Below.refl _ _) _)
set_option maxHeartbeats 1000000 in
theorem eqInt64SS_q (u v : Value) (x : List (List Int)) (w : World) (hx : RT w u x) (hy : RT w v x) (hm : x.length ≤ 1099511627776) (hr : ∀ j, j < x.length → (rowAt x j).length ≤ 1099511627776) :
    Calls Try.prog 23 #[u, v] w fun e w' => e = .returned (.bool true) ∧ Drw w w' := by
  obtain ⟨a, c, rfl⟩ := hx.slice
  obtain ⟨b, d, rfl⟩ := hy.slice
  have HR := Lib.hid hr
  clear hr
  go_enter Try.func23, Try.ntmps23
  go_wp2_with fail
  go_loopw [5] (fun iv wr => ∃ k : Nat, k ≤ x.length ∧ iv = .int .i64 k ∧ Drw w wr) (fun iv _ => x.length - (intOf iv).toNat)
  case atStart => exact ⟨0, Nat.zero_le _, rfl, Drw.refl _⟩
  case round =>
    obtain ⟨k, hk, rfl, hd⟩ := hrel
    by_cases hlt : k < x.length
    · obtain ⟨g, off, r, rfl, hg, hc, h1⟩ := (hx.later hd.below).at k hlt
      obtain ⟨g', off', r', rfl, hg', hc', h2⟩ := (hy.later hd.below).at k hlt
      have hrk := HR.out k hlt
      go_wp2_with fail
      go_quiet ((go_at_call 52; exact quiet_drw (eqInt64S_q _ _ _ _ (h1.drewN _) (h2.drewN _) hrk)))
      go_wp2_with fail
      go_roundw
      case rel => exact ⟨k + 1, by omega, by go_num, hd.more _⟩
      case measure => first | (simp [intOf]; done) | (simp [intOf]; omega)
    · go_wp2_with fail
      go_ret
      exact ⟨rfl, hd⟩

/-- How many numbers a table has. -/
def tot (x : List (List Int)) : Nat := (x.map List.length).sum
theorem tot_take (x : List (List Int)) (k : Nat) (h : k < x.length) : tot (x.take (k + 1)) = tot (x.take k) + (rowAt x k).length := by
  unfold tot
  rw [List.take_succ_eq_append_getElem h, List.map_append, List.sum_append, rowAt_lt h]
  simp
theorem tot_le (x : List (List Int)) (k : Nat) : tot (x.take k) ≤ tot x := by
  unfold tot
  conv => rhs; rw [← List.take_append_drop k x]
  rw [List.map_append, List.sum_append]; omega
theorem tot_at (x : List (List Int)) (k : Nat) (h : k < x.length) : (rowAt x k).length ≤ tot x := by
  have h1 := tot_take x k h
  have h2 := tot_le x (k + 1)
  omega
/-- The table with the numbers k, k + 1, .. in the places of x. -/
def upsT : Int → List (List Int) → List (List Int)
  | _, [] => []
  | k, r :: x => ups k r.length :: upsT (k + r.length) x
theorem upsT_length : ∀ (k : Int) (x : List (List Int)), (upsT k x).length = x.length
  | _, [] => rfl
  | k, r :: x => by simp [upsT, upsT_length]
theorem upsT_append : ∀ (k : Int) (x y : List (List Int)), upsT k (x ++ y) = upsT k x ++ upsT (k + tot x) y
  | k, [], y => by simp [upsT, tot]
  | k, r :: x, y => by
    have : k + (r.length : Int) + (tot x : Nat) = k + ((tot (r :: x) : Nat) : Int) := by simp [tot]; omega
    simp only [List.cons_append, upsT, upsT_append (k + r.length) x y, this]
theorem upsT_tot : ∀ (k : Int) (x : List (List Int)), tot (upsT k x) = tot x
  | _, [] => rfl
  | k, r :: x => by
    have := upsT_tot (k + r.length) x
    simp [tot, upsT, ups_length] at this ⊢; omega
theorem take_snocT {x : List (List Int)} {k : Nat} (h : k < x.length) : x.take (k + 1) = x.take k ++ [rowAt x k] := by
  rw [List.take_succ_eq_append_getElem h, rowAt_lt h]
theorem upsT_step (k : Int) (x : List (List Int)) (i : Nat) (h : i < x.length) : upsT k (x.take (i + 1)) = upsT k (x.take i) ++ [ups (k + tot (x.take i)) (rowAt x i).length] := by
  rw [take_snocT h, upsT_append]; simp [upsT]
theorem upsT_at (k : Int) (x : List (List Int)) (i : Nat) (h : i < x.length) : rowAt (upsT k x) i = ups (k + tot (x.take i)) (rowAt x i).length := by
  have h1 : upsT k x = upsT k (x.take (i + 1)) ++ upsT (k + tot (x.take (i + 1))) (x.drop (i + 1)) := by rw [← upsT_append, List.take_append_drop]
  rw [h1, upsT_step k x i h]
  unfold rowAt
  have hl : (upsT k (x.take i)).length = i := by rw [upsT_length, List.length_take]; omega
  rw [List.getD_eq_getElem?_getD, List.append_assoc, List.getElem?_append_right (by omega), hl]
  simp

set_option maxHeartbeats 1000000 in
theorem markInt64SS_any (v : Value) (x : List (List Int)) (k : Int) (w : World) (B S : Nat) (hx : OT B S w v x) (hk : 0 ≤ k ∧ k + tot x ≤ 1099511627776) (hm : x.length ≤ 1099511627776) :
    Calls Try.prog 24 #[v, .int .i64 k] w fun e w' => e = .returned (.int .i64 (k + tot x)) ∧ OT B S w' v (upsT k x) ∧ ChgR B S w w' := by
  obtain ⟨a, c, rfl⟩ := hx.slice
  obtain ⟨rs, hown, hvS, hrows⟩ := hx
  have HT := Lib.hid (tot_le x)
  have HS := Lib.hid hvS
  clear hvS
  go_enter Try.func24, Try.ntmps24
  go_wp2_with fail
  go_loopw [1, 5] (fun kv iv wr => ∃ i : Nat, i ≤ x.length ∧ iv = .int .i64 i ∧ kv = .int .i64 (k + tot (x.take i)) ∧ OV 29 B wr (.slice a x.length c) rs ∧ Rows B S wr (Value.slice a x.length c).ownBlock rs (upsT k (x.take i) ++ x.drop i) ∧ ChgR B S w wr) (fun _ iv _ => x.length - (intOf iv).toNat)
  case atStart => exact ⟨0, Nat.zero_le _, rfl, by simp [tot], hown, by simpa [upsT] using hrows, ChgR.refl _ _ _⟩
  case round =>
    obtain ⟨i, hi, rfl, rfl, hown, hrows, hch⟩ := hrel
    by_cases hlt : i < x.length
    · have hl : (upsT k (x.take i)).length = i := by rw [upsT_length, List.length_take]; omega
      have hl2 : (upsT k (x.take i) ++ x.drop i).length = x.length := by simp [hl]; omega
      have hri : rowAt (upsT k (x.take i) ++ x.drop i) i = rowAt x i := by
        unfold rowAt
        rw [List.getD_eq_getElem?_getD, List.getElem?_append_right (by omega), hl]
        simp [hlt]
      obtain ⟨ho, hp, hq⟩ := hrows.2 i (by omega)
      rw [hri] at ho
      have hrl : rs.length = x.length := by rw [hrows.1, hl2]
      obtain ⟨g, rfl, hg, hc⟩ := hown.at i (by omega)
      rw [List.getElem?_eq_getElem (by omega)] at hc
      have hget : rs.getD i nl = rs[i]'(by omega) := by simp [show i < rs.length by omega]
      rw [← hget] at hc
      have hs : Hid (∀ w2, OI B w2 (rs.getD i nl) (ups (k + tot (x.take i)) (rowAt x i).length) → Chg (vb (rs.getD i nl)) wr w2 → OV 29 B w2 (.slice (some ⟨g, 0, none⟩) x.length c) rs ∧ Rows B S w2 (Value.slice (some ⟨g, 0, none⟩) x.length c).ownBlock rs (upsT k (x.take (i + 1)) ++ x.drop (i + 1)) ∧ ChgR B S w w2) := fun w2 h1 h2 => by
        refine ⟨hown.chg h2 fun q hq hm => ?_, ?_, hch.trans (ChgR.of_chg h2 fun q hq => ?_)⟩
        · rw [mem_vb] at hq hm
          exact (hp q hm).2 hq
        · have := hrows.set i (by omega) h1 h2
          have e : (upsT k (x.take i) ++ x.drop i).set i (ups (k + tot (x.take i)) (rowAt x i).length) = upsT k (x.take (i + 1)) ++ x.drop (i + 1) := by
            rw [List.set_append_right _ _ (by omega), hl, Nat.sub_self, List.drop_eq_getElem_cons hlt, List.set_cons_zero, upsT_step k x i hlt, List.append_assoc]
            rfl
          rw [e] at this; exact this
        · rw [mem_vb] at hq
          exact ⟨(ho.lt q hq).1, (hp q hq).1⟩
      have htk := tot_take x i hlt
      have HTK := Lib.hid htk
      have ht1 := HT.out (i + 1)
      have hrl' := tot_at x i hlt
      clear htk hl hl2 hri hrl hget hown hrows hch hp hq
      generalize htt : tot (x.take i) = t at *
      have HTT := Lib.hid htt
      clear htt
      have htb : (t : Int) + (rowAt x i).length ≤ tot x := by have := HTK.out; omega
      generalize rs.getD i nl = r at *
      go_wp2_with (go_at_call 53; refine (markInt64S_any _ _ _ _ B ho (by omega) (by omega)).mono ?_; rintro e w2 ⟨rfl, h1, h2⟩)
      obtain ⟨h3, h4, h5⟩ := hs.out w2 h1 h2
      go_roundw
      case rel => exact ⟨i + 1, by omega, by go_num, by rw [HTK.out]; go_num, h3, h4, h5⟩
      case measure => first | (simp [intOf]; done) | (simp [intOf]; omega)
    · go_wp2_with fail
      go_ret
      have hk' : i = x.length := by omega
      subst hk'
      rw [List.take_length, List.drop_length, List.append_nil] at *
      exact ⟨rfl, ⟨rs, hown, HS.out, hrows⟩, hch⟩
set_option maxHeartbeats 1000000 in
theorem heldInt64SS_yes (v : Value) (x : List (List Int)) (k : Int) (w : World) (hx : RT w v (upsT k x)) (hk : 0 ≤ k ∧ k + tot x ≤ 1099511627776) (hm : x.length ≤ 1099511627776) :
    Calls Try.prog 72 #[v, .int .i64 k] w fun e w' => e = .returned (.int .i64 (k + tot x)) ∧ w = w' := by
  obtain ⟨a, c, rfl⟩ := hx.slice
  have HT := Lib.hid (tot_le x)
  rw [upsT_length] at hx ⊢
  go_enter Try.func72, Try.ntmps72
  go_wp2_with fail
  go_loop [1, 5] (fun kv iv => ∃ i : Nat, i ≤ x.length ∧ iv = .int .i64 i ∧ kv = .int .i64 (k + tot (x.take i))) (fun _ iv => x.length - (intOf iv).toNat)
  case atStart => exact ⟨0, Nat.zero_le _, rfl, by simp [tot]⟩
  case round =>
    obtain ⟨i, hi, rfl, rfl⟩ := hrel
    by_cases hlt : i < x.length
    · obtain ⟨g, off, r, rfl, hg, hc, hr⟩ := hx.at i (by rw [upsT_length]; exact hlt)
      rw [upsT_at k x i hlt] at hr
      have htk := tot_take x i hlt
      have HTK := Lib.hid htk
      have ht1 := HT.out (i + 1)
      have hrl' := tot_at x i hlt
      clear htk
      generalize htt : tot (x.take i) = t at *
      clear htt
      have htb : (t : Int) + (rowAt x i).length ≤ tot x := by have := HTK.out; omega
      go_wp2_with (go_at_call 56; refine (heldInt64S_yes _ _ _ _ hr (by omega) (by omega)).mono ?_; rintro e w2 ⟨rfl, rfl⟩)
      go_round
      case rel => exact ⟨i + 1, by omega, by go_num, by rw [HTK.out]; go_num⟩
      case measure => first | (simp [intOf]; done) | (simp [intOf]; omega)
    · go_wp2_with fail
      go_ret
      have hk' : i = x.length := by omega
      subst hk'
      rw [List.take_length]
      exact ⟨rfl, rfl⟩
/-- How much a table takes: its rows and its numbers. -/
def szT (x : List (List Int)) : Nat := x.length + tot x
set_option maxHeartbeats 400000 in
theorem szInt64S_yes (v : Value) (x : List Int) (n : Int) (w : World) (hx : RI w v x) (hn : n ≤ 1048576) (hs : (x.length : Int) ≤ n) :
    Calls Try.prog 46 #[v, .int .i64 n] w fun e w' => e = .returned (.int .i64 (n - x.length)) ∧ w = w' := by
  obtain ⟨a, c, rfl⟩ := hx.slice
  go_enter Try.func46, Try.ntmps46
  go_wp2_with fail
  go_ret
  exact ⟨rfl, rfl⟩
set_option maxHeartbeats 400000 in
theorem szInt64S_no (v : Value) (x : List Int) (n : Int) (w : World) (hx : RI w v x) (hn : 0 ≤ n ∧ n ≤ 1048576) (hs : ¬ (x.length : Int) ≤ n) :
    Calls Try.prog 46 #[v, .int .i64 n] w fun e w' => e = .returned (.int .i64 (-1)) ∧ w = w' := by
  obtain ⟨a, c, rfl⟩ := hx.slice
  have hl := hx.cap
  unfold maxLen at hl
  go_enter Try.func46, Try.ntmps46
  go_wp2_with fail
  go_ret
  exact ⟨rfl, rfl⟩
set_option maxHeartbeats 1000000 in
theorem szInt64SS_yes (v : Value) (x : List (List Int)) (n : Int) (w : World) (hx : RT w v x) (hn : n ≤ 1048576) (hs : (szT x : Int) ≤ n) :
    Calls Try.prog 19 #[v, .int .i64 n] w fun e w' => ∃ r : Int, e = .returned (.int .i64 r) ∧ Hid (r = n - szT x) ∧ 0 ≤ r ∧ r ≤ n ∧ w = w' := by
  obtain ⟨a, c, rfl⟩ := hx.slice
  have HT := Lib.hid (tot_le x)
  have hsz : szT x = x.length + tot x := rfl
  have HSZ := Lib.hid hsz
  have hxl : (x.length : Int) + tot x ≤ n := by omega
  clear hsz hs
  go_enter Try.func19, Try.ntmps19
  go_wp2_with fail
  go_loop [1, 5] (fun nv iv => ∃ (k : Nat) (r : Int), k ≤ x.length ∧ iv = .int .i64 k ∧ nv = .int .i64 r ∧ 0 ≤ r ∧ r ≤ n ∧ Hid (r = n - x.length - tot (x.take k))) (fun _ iv => x.length - (intOf iv).toNat)
  case atStart => exact ⟨0, _, Nat.zero_le _, rfl, rfl, by omega, by omega, by simp [Hid, tot]⟩
  case round =>
    obtain ⟨k, r, hk, rfl, rfl, hr0, hrn, HR⟩ := hrel
    by_cases hlt : k < x.length
    · obtain ⟨g, off, rv, rfl, hg, hc, hrow⟩ := hx.at k hlt
      have HN : Hid (r - (rowAt x k).length = n - x.length - tot (x.take (k + 1))) := by
        have h1 := HR.out
        have h2 := tot_take x k hlt
        unfold Hid; omega
      have hle : ((rowAt x k).length : Int) ≤ r := by
        have h1 := HR.out
        have h2 := tot_take x k hlt
        have h3 := HT.out (k + 1)
        omega
      go_wp2_with (go_at_call 46; refine (szInt64S_yes _ _ _ _ hrow (by omega) hle).mono ?_; rintro e w2 ⟨rfl, rfl⟩)
      go_round
      case rel => exact ⟨k + 1, _, by omega, by go_num, rfl, by omega, by omega, HN⟩
      case measure => first | (simp [intOf]; done) | (simp [intOf]; omega)
    · have HN : Hid (r = n - szT x) := by
        have h1 := HR.out
        have h2 := HSZ.out
        rw [List.take_of_length_le (by omega)] at h1
        unfold Hid; omega
      go_wp2_with fail
      go_ret
      exact ⟨_, rfl, HN, hr0, hrn, rfl⟩
set_option maxHeartbeats 1000000 in
theorem szInt64SS_no (v : Value) (x : List (List Int)) (n : Int) (w : World) (hx : RT w v x) (hn : 0 ≤ n ∧ n ≤ 1048576) (hs : ¬ (szT x : Int) ≤ n) :
    Calls Try.prog 19 #[v, .int .i64 n] w fun e w' => e = .returned (.int .i64 (-1)) ∧ w = w' := by
  obtain ⟨a, c, rfl⟩ := hx.slice
  have hm := hx.cap
  unfold maxLen at hm
  have hxl : ¬ (x.length : Int) + tot x ≤ n := by unfold szT at hs; omega
  clear hs
  by_cases hl : (x.length : Int) ≤ n
  · have HXL := Lib.hid hxl
    clear hxl
    go_enter Try.func19, Try.ntmps19
    go_wp2_with fail
    go_loop [1, 5] (fun nv iv => ∃ (k : Nat) (r : Int), k ≤ x.length ∧ iv = .int .i64 k ∧ nv = .int .i64 r ∧ 0 ≤ r ∧ r ≤ n ∧ Hid (r = n - x.length - tot (x.take k))) (fun _ iv => x.length - (intOf iv).toNat)
    case atStart => exact ⟨0, _, Nat.zero_le _, rfl, rfl, by omega, by omega, by simp [Hid, tot]⟩
    case round =>
      obtain ⟨k, r, hk, rfl, rfl, hr0, hrn, HR⟩ := hrel
      by_cases hlt : k < x.length
      · obtain ⟨g, off, rv, rfl, hg, hc, hrow⟩ := hx.at k hlt
        have HN : Hid (r - (rowAt x k).length = n - x.length - tot (x.take (k + 1))) := by
          have h1 := HR.out
          have h2 := tot_take x k hlt
          unfold Hid; omega
        by_cases hle : ((rowAt x k).length : Int) ≤ r
        · go_wp2_with (go_at_call 46; refine (szInt64S_yes _ _ _ _ hrow (by omega) hle).mono ?_; rintro e w2 ⟨rfl, rfl⟩)
          go_round
          case rel => exact ⟨k + 1, _, by omega, by go_num, rfl, by omega, by omega, HN⟩
          case measure => first | (simp [intOf]; done) | (simp [intOf]; omega)
        · go_wp2_with (go_at_call 46; refine (szInt64S_no _ _ _ _ hrow (by omega) hle).mono ?_; rintro e w2 ⟨rfl, rfl⟩)
          go_ret
          exact ⟨rfl, rfl⟩
      · exfalso
        have h1 := HR.out
        have h2 := HXL.out
        rw [List.take_of_length_le (by omega)] at h1
        omega
  · go_enter Try.func19, Try.ntmps19
    go_wp2_with fail
    go_ret
    exact ⟨rfl, rfl⟩
end Go.Proofs.Ythcnhkjiojeemaa
