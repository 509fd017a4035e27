/- Orders: the program's orderOf and IsOrder, the reference's l01Order and l00Has: for all lists. -/
import Derived.Test.YthcnhkjiojeemaaGrpM
import Derived.Test.YthcnhkjiojeemaaIn
import Derived.Test.YthcnhkjiojeemaaBytesM
import Derived.Maps.OwnOps
import Derived.Maps.Views
namespace Go.Proofs.Ythcnhkjiojeemaa
open Go.RowKit Go.Maps

theorem lawK : Keyed Try.prog 2 := int_keyed Try.underlying2
theorem zeroB (w : World) : (zeroValue 4).run Try.prog w = .ok (.bool false) w := by kernel_rfl
/-- A set of numbers as a map of the call's own: it holds true at the numbers of the list, nothing elsewhere. -/
def SetM (w : World) (b n : Nat) (xs : List Int) : Prop := ∃ D : DataW Unit, IsMap D ∧ w.ownsMap Try.prog 2 (plainElem Try.prog 4) b n D ∧ ∀ z : Int, (Lit.int .i64 z).wf = true → D.atKey (.int .i64 z) (.lit (.bool false)) = .lit (.bool (decide (z ∈ xs)))
section
variable {w : World} {b n : Nat} {xs : List Int}
theorem SetM.made (w : World) : SetM (w.alloc (.map #[] 0)) w.heap.size 0 [] :=
  ⟨.map [], isMap_empty, World.ownsMap_made _ _ _ _, fun z _ => by simp [atKey_of_not_has (D := (.map [] : DataW Unit)) (k := .int .i64 z) rfl]⟩
theorem plainElem_bool_inv {P : Program} {e : TypeId} (he : P.underlying e = some .bool) {v : Value} {z : DataW Unit × List MemPlace} (h : plainElem P e v = some z) : ∃ a, v = .bool a ∧ z = (.lit (.bool a), []) := by
  unfold plainElem at h
  rw [he] at h
  cases v <;> simp at h
  exact ⟨_, rfl, h.symm⟩
theorem SetM.look (h : SetM w b n xs) {z : Int} (hz : (Lit.int .i64 z).wf = true) :
    (Instr.lookup 88 (.map (some b)) (.int .i64 z) false).run Try.prog w = .ok (.bool (decide (z ∈ xs))) w := by
  obtain ⟨D, hm, ho, ha⟩ := h
  obtain ⟨v, ps, hrun, hv⟩ := ho.lookup lawK Try.underlying88 (zeroB w) (plainElem_bool Try.underlying4 false) (keyOf_int_mk Try.underlying2 hz)
  rw [ha z hz] at hv
  obtain ⟨a, rfl, e⟩ := plainElem_bool_inv Try.underlying4 hv
  simp only [Prod.mk.injEq, DataW.lit.injEq, Lit.bool.injEq] at e
  rw [hrun, e.1]
theorem SetM.lt (h : SetM w b n xs) : b < w.heap.size := by obtain ⟨D, _, ho, _⟩ := h; exact ho.lt
theorem wpl_put {ops : Array Oper} {rest : List Oper} {o : Oper} {a : Act} {Q : Exit → Act → World → Prop}
    (hg : o.guard = none) (m x v : Operand) (hop : o.op = Op.mapUpdate 88 m x v) (hm : a.eval m = .map (some b)) (hs : SetM w b n xs) (hn : n < maxLen) (z : Int) (hx : a.eval x = .int .i64 z) (hv : a.eval v = .bool true) (hz : (Lit.int .i64 z).wf = true)
    (hK : ∀ w', SetM w' b (n + 1) (xs ++ [z]) → w.grownBy w' (some b) → wpList Try.prog ops Q rest (a.put o.dst undef) w') :
    wpList Try.prog ops Q (o :: rest) a w := by
  obtain ⟨D, hmap, ho, ha⟩ := hs
  refine wpList_mapUpdate_own _ hg _ _ _ 88 hop 2 4 lawK Try.underlying88 _ b n D hm ho hn _ _ _ hx hv (keyOf_int_mk Try.underlying2 hz) _ [] (plainElem_bool Try.underlying4 true) ?_
  intro w' h1 h2
  refine hK w' ⟨_, hmap.put _ _, h1, fun y hy => ?_⟩ h2
  by_cases e : y = z
  · subst e
    rw [atKey_put_same hmap (lawK.key (keyOf_int_mk Try.underlying2 hz))]; simp
  · rw [atKey_put_other (by intro e2; simp only [Lit.int.injEq, true_and] at e2; exact e e2), ha y hy]
    congr 2
    simp [e]
end

theorem take_snocI (xs : List Int) (k : Nat) (h : k < xs.length) : xs.take (k + 1) = xs.take k ++ [xs.getD k 0] := by
  rw [List.take_succ_eq_append_getElem h]; simp [h]
/-- The list has each number below n once: in that order. -/
def ordAt (n : Int) (xs : List Int) : Bool := diffB (fun z => inB z 0 (n - 1)) xs
theorem wf_small {z : Int} (h : 0 ≤ z ∧ z ≤ 1099511627776) : (Lit.int .i64 z).wf = true := by
  simp [Lit.wf, IntKind.min, IntKind.max, IntKind.bits, IntKind.signed]; omega
theorem RK.get {w : World} {v : Value} {xs : List Int} (h : RI w v xs) (k : Nat) (hk : k < xs.length) : ∃ g o c, v = .slice (some ⟨g, o, none⟩) xs.length c ∧ g < w.heap.size ∧ w.cell? ⟨g, o + k, none⟩ = some (.int .i64 (xs.getD k 0)) := by
  obtain ⟨a, c, rfl⟩ := h.slice
  obtain ⟨g, o, rfl, h1, h2⟩ := h.at k hk
  exact ⟨g, o, c, rfl, h1, h2⟩
set_option maxHeartbeats 1000000 in
theorem orderOf_any (v : Value) (xs : List Int) (m : Int) (w : World) (hx : RI w v xs) (hm : xs.length ≤ 1048576) :
    Calls Try.prog 45 #[v, .int .i64 m] w fun e w' => e = .returned (.bool (ordAt xs.length xs && inB xs.length 1 m)) ∧ Below w.heap.size w w' := by
  obtain ⟨a, c, rfl⟩ := hx.slice
  have hmm := @run_makeMap Try.prog
  go_enter Try.func45, Try.ntmps45
  go_wp2_with fail
  have hs0 := SetM.made w
  have hb0 : Below w.heap.size w (w.alloc (.map #[] 0)) := (Below.refl _ _).alloc (Nat.le_refl _) _
  generalize w.alloc (.map #[] 0) = w1 at *
  clear hmm
  go_loopw [11] (fun iv wr => ∃ k : Nat, k ≤ xs.length ∧ iv = .int .i64 k ∧ SetM wr w.heap.size k (xs.take k) ∧ Hid (∀ i, i < k → (inB (xs.getD i 0) 0 ((xs.length : Int) - 1) && !decide (xs.getD i 0 ∈ xs.take i)) = true) ∧ Below w.heap.size w wr) (fun iv _ => xs.length - (intOf iv).toNat)
  case atStart => exact ⟨0, Nat.zero_le _, rfl, by simpa using hs0, fun i hi => by omega, hb0⟩
  case round =>
    obtain ⟨k, hk, rfl, hset, HK, hb⟩ := hrel
    clear hs0 hb0
    by_cases hlt : k < xs.length
    · obtain ⟨g, off, rfl, hg, hc⟩ := (hx.later hb).at k hlt
      have HN : Hid ((inB (xs.getD k 0) 0 ((xs.length : Int) - 1) && !decide (xs.getD k 0 ∈ xs.take k)) = false → ordAt xs.length xs = false) := fun h => diffB_no k hlt h
      have HY : Hid ((inB (xs.getD k 0) 0 ((xs.length : Int) - 1) && !decide (xs.getD k 0 ∈ xs.take k)) = true → ∀ i, i < k + 1 → (inB (xs.getD i 0) 0 ((xs.length : Int) - 1) && !decide (xs.getD i 0 ∈ xs.take i)) = true) := fun h i hi => by
        by_cases e : i = k
        · subst e; exact h
        · exact HK.out i (by omega)
      have HT := Lib.hid (take_snocI xs k hlt)
      clear HK
      generalize xs.getD k 0 = z at *
      by_cases hin : inB z 0 ((xs.length : Int) - 1) = true
      · have hz := inB_iff.1 hin
        have hwf := wf_small (z := z) (by omega)
        have HIN : Hid (∀ wx, Calls Try.prog 32 #[.int .i64 z, .int .i64 0, .int .i64 ((xs.length : Int) - 1)] wx fun e w' => e = .returned (.bool true) ∧ wx = w') := fun wx => by
          have := in_any z 0 ((xs.length : Int) - 1) wx
          rw [hin] at this; exact this
        have hl := hset.look hwf
        by_cases hmem : z ∈ xs.take k
        · have HR : Hid (ordAt xs.length xs = false) := HN.out (by rw [hin, decide_eq_true hmem]; rfl)
          rw [decide_eq_true hmem] at hl
          clear hmem hin hz HN HY
          go_wp2_with (go_at_call 32; refine (HIN.out _).mono ?_; rintro e w' ⟨rfl, rfl⟩)
          go_ret
          exact ⟨ret_bool (by rw [HR.out]; rfl), hb⟩
        · have HR := Lib.hid (HY.out (by rw [hin, decide_eq_false hmem]; rfl))
          rw [decide_eq_false hmem] at hl
          clear hmem hin hz HN HY
          go_wp2_with (first | (go_at_call 32; refine (HIN.out _).mono ?_; rintro e w' ⟨rfl, rfl⟩) | (at_mapUpdate; refine wpl_put rfl _ _ _ rfl rfl hset (by unfold maxLen; omega) z rfl rfl hwf ?_; intro w2 hset2 hgr))
          rw [← HT.out] at hset2
          go_roundw
          case rel => exact ⟨k + 1, by omega, by go_num, hset2, HR, hb.grown hgr hb.size (fun j hj => by cases hj; exact Nat.le_refl _)⟩
          case measure => first | (simp [intOf]; done) | (simp [intOf]; omega)
      · simp only [Bool.not_eq_true] at hin
        have HR : Hid (ordAt xs.length xs = false) := HN.out (by rw [hin]; rfl)
        have HIN : Hid (∀ wx, Calls Try.prog 32 #[.int .i64 z, .int .i64 0, .int .i64 ((xs.length : Int) - 1)] wx fun e w' => e = .returned (.bool false) ∧ wx = w') := fun wx => by
          have := in_any z 0 ((xs.length : Int) - 1) wx
          rw [hin] at this; exact this
        clear hin HN HY
        go_wp2_with (go_at_call 32; refine (HIN.out _).mono ?_; rintro e w' ⟨rfl, rfl⟩)
        go_ret
        exact ⟨ret_bool (by rw [HR.out]; rfl), hb⟩
    · have HR : Hid (ordAt xs.length xs = true) := diffB_yes fun i hi => HK.out i (by omega)
      by_cases h1 : 1 ≤ (xs.length : Int)
      · go_wp2_with fail
        go_ret
        exact ⟨ret_bool (by rw [HR.out, Bool.eq_iff_iff]; simp [inB]; omega), hb⟩
      · go_wp2_with fail
        go_ret
        exact ⟨ret_bool (by rw [HR.out, Bool.eq_iff_iff]; simp [inB]; omega), hb⟩

end Go.Proofs.Ythcnhkjiojeemaa
