/- The laws' helpers over slices of int64: toInt64S, eqInt64S, markInt64S, heldInt64S. -/
import Derived.Test.YthcnhkjiojeemaaRead
namespace Go.Proofs.Ythcnhkjiojeemaa
open Go.RowKit

/-- Only the blocks of the list may have turned; there may be new ones. -/
structure Chg (l : List Nat) (w w' : World) : Prop where
  os : w'.os = w.os
  tape : w'.tape = w.tape
  output : w'.output = w.output
  size : w.heap.size ≤ w'.heap.size
  block : ∀ k, k < w.heap.size → k ∉ l → w'.heap[k]? = w.heap[k]?
theorem Chg.refl (l : List Nat) (w : World) : Chg l w w := ⟨rfl, rfl, rfl, Nat.le_refl _, fun _ _ _ => rfl⟩
theorem Chg.trans {l : List Nat} {a b c : World} (h : Chg l a b) (k : Chg l b c) : Chg l a c :=
  ⟨k.os.trans h.os, k.tape.trans h.tape, k.output.trans h.output, Nat.le_trans h.size k.size, fun i hi hn => (k.block i (Nat.lt_of_lt_of_le hi h.size) hn).trans (h.block i hi hn)⟩
theorem Chg.mono {l l' : List Nat} {w w' : World} (h : Chg l w w') (hl : ∀ x ∈ l, x ∈ l') : Chg l' w w' :=
  ⟨h.os, h.tape, h.output, h.size, fun k hk hn => h.block k hk fun hh => hn (hl k hh)⟩
theorem Below.chg {w w' : World} (h : Below w.heap.size w w') : Chg [] w w' := ⟨h.os, h.tape, h.output, h.size, fun k hk _ => h.block k hk⟩
theorem chg_grown {w w' : World} {g : Nat} (h : w.grownBy w' (some g)) : Chg [g] w w' :=
  ⟨h.os, h.tape, h.output, h.size, fun k hk hn => h.block k hk (by simpa using hn)⟩
theorem Chg.below {l : List Nat} {B : Nat} {w0 w w' : World} (h : Chg l w w') (hb : Below B w0 w) (hl : ∀ k ∈ l, B ≤ k) (hB : B ≤ w.heap.size) : Below B w0 w' :=
  hb.trans ⟨h.os, h.tape, h.output, h.size, fun k hk => h.block k (by omega) fun hh => by have := hl k hh; omega⟩
/-- The blocks of a value. -/
def vb (v : Value) : List Nat := match v.ownBlock with | some k => [k] | none => []
theorem mem_vb {v : Value} {k : Nat} : k ∈ vb v ↔ v.ownBlock = some k := by
  unfold vb; cases h : v.ownBlock <;> simp [eq_comm]
theorem OV.chg {T : TypeId} {B : Nat} {w w' : World} {v : Value} {cs : List Value} {l : List Nat} (h : OV T B w v cs) (hc : Chg l w w') (hn : ∀ k ∈ vb v, k ∉ l) : OV T B w' v cs := by
  refine ⟨h.1, ?_⟩
  have hlt := h.lt
  rcases h.2 with hn' | ⟨g, cap, cur, rfl, hB, hg, r⟩
  · exact .inl hn'
  · exact .inr ⟨g, cap, cur, rfl, hB, by rw [hc.block g (hlt g rfl).2 (hn g (mem_vb.2 rfl))]; exact hg, r⟩
theorem OK.chg {T : TypeId} {k : IntKind} {B : Nat} {w w' : World} {v : Value} {xs : List Int} {l : List Nat} (h : OK T k B w v xs) (hc : Chg l w w') (hn : ∀ k ∈ vb v, k ∉ l) : OK T k B w' v xs := OV.chg h hc hn
theorem OK.vb {T : TypeId} {k : IntKind} {B : Nat} {w : World} {v : Value} {xs : List Int} (h : OK T k B w v xs) : ∀ b ∈ vb v, B ≤ b ∧ b < w.heap.size := fun b hb => h.lt b (mem_vb.1 hb)
theorem OV.vb {T : TypeId} {B : Nat} {w : World} {v : Value} {cs : List Value} (h : OV T B w v cs) : ∀ b ∈ vb v, B ≤ b ∧ b < w.heap.size := fun b hb => h.lt b (mem_vb.1 hb)

set_option maxHeartbeats 1000000 in
theorem toInt64S_any (v : Value) (xs : List Int) (w : World) (hx : RI w v xs) (hm : xs.length ≤ 1048576) :
    Calls Try.prog 50 #[v] w fun e w' => ∃ v', e = .returned v' ∧ OI w.heap.size w' v' xs ∧ Below w.heap.size w w' := by
  obtain ⟨a, c, rfl⟩ := hx.slice
  go_enter Try.func50, Try.ntmps50
  go_wp2_with (at_make; refine wpl_make_i64 rfl _ _ rfl w.heap.size .i64 .i64 _ _ xs.length rfl rfl rfl rfl (by omega) (Nat.le_refl _) ?_; intro w1 hown hgr hlt)
  have hb1 : Below w.heap.size w w1 := (Below.refl _ _).grown hgr (Nat.le_refl _) (by simp)
  clear hgr hlt
  go_loopw [4] (fun iv wr => ∃ k : Nat, k ≤ xs.length ∧ iv = .int .i64 k ∧ OI w.heap.size wr (.slice (some ⟨w.heap.size, 0, none⟩) xs.length xs.length) (xs.take k ++ List.replicate (xs.length - k) 0) ∧ Below w.heap.size w wr) (fun iv _ => xs.length - (intOf iv).toNat)
  case atStart => exact ⟨0, Nat.zero_le _, rfl, by simpa using hown, hb1⟩
  case round =>
    obtain ⟨k, hk, rfl, hown, hb⟩ := hrel
    clear hb1
    by_cases hlt : k < xs.length
    · obtain ⟨g, off, rfl, hg, hc⟩ := (hx.later hb).at k hlt
      have hfz := hown.frozen k
      have hcz := hown.cell k (by simp; omega)
      have hst := (hown.stored k (xs.getD k 0)).1
      have hb' := hb.setCell (p := ⟨w.heap.size, k, none⟩) (Nat.le_refl _) (.int .i64 (xs.getD k 0))
      have e : (xs.take k ++ List.replicate (xs.length - k) 0).set k (xs.getD k 0) = xs.take (k + 1) ++ List.replicate (xs.length - (k + 1)) 0 := by
        rw [List.set_append_right _ _ (by simp; omega)]
        rw [List.take_succ_eq_append_getElem hlt, List.append_assoc]
        congr 1
        rw [show xs.length - k = (xs.length - (k + 1)) + 1 by omega, List.replicate_succ]
        simp [Nat.min_eq_left hk, hlt]
      rw [e] at hst
      clear e hown hb
      generalize xs.getD k 0 = z at *
      go_wp2_with fail
      go_roundw
      case rel => exact ⟨k + 1, by omega, by go_num, hst, hb'⟩
      case measure => first | (simp [intOf]; done) | (simp [intOf]; omega)
    · go_wp2_with fail
      go_ret
      have hk' : k = xs.length := by omega
      subst hk'
      exact ⟨_, rfl, by simpa using hown, hb⟩

set_option maxHeartbeats 1000000 in
theorem eqInt64S_yes (u v : Value) (xs : List Int) (w : World) (hx : RI w u xs) (hy : RI w v xs) (hm : xs.length ≤ 1099511627776) :
    Calls Try.prog 52 #[u, v] w fun e w' => e = .returned (.bool true) ∧ Below w.heap.size w w' := by
  obtain ⟨a, c, rfl⟩ := hx.slice
  obtain ⟨b, d, rfl⟩ := hy.slice
  go_enter Try.func52, Try.ntmps52
  go_wp2_with fail
  go_loopw [5] (fun iv wr => ∃ k : Nat, k ≤ xs.length ∧ iv = .int .i64 k ∧ Below w.heap.size w wr) (fun iv _ => xs.length - (intOf iv).toNat)
  case atStart => exact ⟨0, Nat.zero_le _, rfl, Below.refl _ _⟩
  case round =>
    obtain ⟨k, hk, rfl, hb⟩ := hrel
    by_cases hlt : k < xs.length
    · obtain ⟨g, off, rfl, hg, hc⟩ := (hx.later hb).at k hlt
      obtain ⟨g', off', rfl, hg', hc'⟩ := (hy.later hb).at k hlt
      generalize xs.getD k 0 = z at *
      go_wp2_with fail
      go_quiet (fail)
      go_wp2_with fail
      go_roundw
      case rel => exact ⟨k + 1, by omega, by go_num, by first | exact hb | exact below_drewN hb _⟩
      case measure => first | (simp [intOf]; done) | (simp [intOf]; omega)
    · go_wp2_with fail
      go_ret
      exact ⟨rfl, hb⟩

/-- k, k + 1, .. : n numbers. -/
def ups (k : Int) (n : Nat) : List Int := (List.range n).map fun (i : Nat) => k + (i : Int)
theorem ups_length (k : Int) (n : Nat) : (ups k n).length = n := by simp [ups]
theorem ups_getD (k : Int) (n i : Nat) (h : i < n) : (ups k n).getD i 0 = k + i := by simp [ups, h]

set_option maxHeartbeats 1000000 in
theorem markInt64S_any (v : Value) (xs : List Int) (k : Int) (w : World) (B : Nat) (hx : OI B w v xs) (hk : 0 ≤ k ∧ k ≤ 1099511627776) (hm : xs.length ≤ 1099511627776) :
    Calls Try.prog 53 #[v, .int .i64 k] w fun e w' => e = .returned (.int .i64 (k + xs.length)) ∧ OI B w' v (ups k xs.length) ∧ Chg (vb v) w w' := by
  obtain ⟨a, c, rfl⟩ := hx.slice
  go_enter Try.func53, Try.ntmps53
  go_wp2_with fail
  go_loopw [1, 5] (fun kv iv wr => ∃ i : Nat, i ≤ xs.length ∧ iv = .int .i64 i ∧ kv = .int .i64 (k + i) ∧ OI B wr (.slice a xs.length c) (ups k i ++ xs.drop i) ∧ Chg (vb (.slice a xs.length c)) w wr) (fun _ iv _ => xs.length - (intOf iv).toNat)
  case atStart => exact ⟨0, Nat.zero_le _, rfl, by simp, by simpa [ups] using hx, Chg.refl _ _⟩
  case round =>
    obtain ⟨i, hi, rfl, rfl, hown, hch⟩ := hrel
    by_cases hlt : i < xs.length
    · obtain ⟨g, rfl, _, hc⟩ := hown.at i (by simp [ups]; omega)
      have hfz := hown.frozen i
      obtain ⟨hst, hgs⟩ := hown.stored i (k + i)
      have e : (ups k i ++ xs.drop i).set i (k + i) = ups k (i + 1) ++ xs.drop (i + 1) := by
        rw [List.set_append_right _ _ (by simp [ups])]
        have h2 : xs.drop i = xs[i] :: xs.drop (i + 1) := List.drop_eq_getElem_cons hlt
        rw [h2, show i - (ups k i).length = 0 by simp [ups], List.set_cons_zero]
        simp [ups, List.range_succ]
      rw [e] at hst
      have hch' := hch.trans ((chg_grown hgs).mono (by simp [vb, Value.ownBlock]))
      clear e hown hch hgs hx
      go_wp2_with fail
      go_roundw
      case rel => exact ⟨i + 1, by omega, by go_num, by go_num, hst, hch'⟩
      case measure => first | (simp [intOf]; done) | (simp [intOf]; omega)
    · go_wp2_with fail
      go_ret
      have hk' : i = xs.length := by omega
      subst hk'
      exact ⟨rfl, by simpa using hown, hch⟩

set_option maxHeartbeats 1000000 in
theorem heldInt64S_yes (v : Value) (n : Nat) (k : Int) (w : World) (hx : RI w v (ups k n)) (hk : 0 ≤ k ∧ k ≤ 1099511627776) (hm : n ≤ 1099511627776) :
    Calls Try.prog 56 #[v, .int .i64 k] w fun e w' => e = .returned (.int .i64 (k + n)) ∧ w = w' := by
  obtain ⟨a, c, rfl⟩ := hx.slice
  rw [ups_length] at hx ⊢
  go_enter Try.func56, Try.ntmps56
  go_wp2_with fail
  go_loop [1, 5] (fun kv iv => ∃ i : Nat, i ≤ n ∧ iv = .int .i64 i ∧ kv = .int .i64 (k + i)) (fun _ iv => n - (intOf iv).toNat)
  case atStart => exact ⟨0, Nat.zero_le _, rfl, by simp⟩
  case round =>
    obtain ⟨i, hi, rfl, rfl⟩ := hrel
    by_cases hlt : i < n
    · obtain ⟨g, off, rfl, hg, hc⟩ := hx.at i (by rw [ups_length]; exact hlt)
      rw [ups_getD _ _ _ hlt] at hc
      go_wp2_with fail
      go_round
      case rel => exact ⟨i + 1, by omega, by go_num, by go_num⟩
      case measure => first | (simp [intOf]; done) | (simp [intOf]; omega)
    · go_wp2_with fail
      go_ret
      have hk' : i = n := by omega
      subst hk'
      exact ⟨rfl, rfl⟩
end Go.Proofs.Ythcnhkjiojeemaa
