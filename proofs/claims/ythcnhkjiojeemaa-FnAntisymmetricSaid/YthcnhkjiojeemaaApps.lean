/- append(v, xs...) onto a row that the call owns, of a row that lies in memory. -/
import Derived.Test.YthcnhkjiojeemaaRead
import Derived.Laws.OwnMore
namespace Go.Proofs.Ythcnhkjiojeemaa
open Go.RowKit

theorem run_app_nil {P : Program} {w : World} (base : Nat) (t ty e : TypeId) (i : TypeInfo) (size : Nat) (ht : P.underlying t = some (.slice e)) (hi : P.info? e = some i)
    (v : Value) (n c : Nat) (xs : List Value) (hown : w.ownsRow base e size v n xs) :
    (Builtin.append_ #[t, t] ty #[v, .slice none 0 c]).run P w = .ok v w := by
  rcases hown.2 with ⟨rfl, rfl⟩ | ⟨g, cap, cur, rfl, _, _, hnc, _⟩
  · simp [Builtin.append_, run_underlying ht, sizeOf, typeInfo, hi, Builtin.lenOf, Builtin.firstCells]
  · simp [Builtin.append_, run_underlying ht, sizeOf, typeInfo, hi, Builtin.lenOf, Builtin.firstCells, hnc, storeCells]
/-- append(v, xs...): xs a row of one-cell elements that lies in memory. -/
theorem wpl_apps {S T : TypeId} {z : Value} {by_ : Nat} (hS : Try.prog.underlying S = some (.slice T)) (hinfo : (Try.prog.info? T).map (fun i => (i.zero, i.size, i.bytes)) = some (some z, 1, by_)) (hz1 : z.cells.size = 1) (hby : by_ ≤ 24)
    {w : World} {ops : Array Oper} {rest : List Oper} {o : Oper} {a : Act} {Q : Exit → Act → World → Prop}
    (hg : o.guard = none) (s x : Operand) (hop : o.op = Op.call { callee := Callee.builtin Builtin.append, args := #[s, x], argTypes := #[S, S] })
    (B : Nat) (v : Value) (cs : List Value) (hs : a.eval s = v) (hown : OV T B w v cs) (y : Value) (ds : List Value) (hx : a.eval x = y)
    (hy : RV w y ds) (hu1 : ∀ u ∈ ds, u.oneCell' = true) (hn : cs.length + ds.length ≤ 1099511627776) (hB : B ≤ w.heap.size)
    (hK : ∀ v' w', OV T B w' v' (cs ++ ds) → w.grownBy w' v.ownBlock → wpList Try.prog ops Q rest (a.put o.dst v') w') :
    wpList Try.prog ops Q (o :: rest) a w := by
  obtain ⟨i, hi, hz0, hz1', hz2⟩ := info_parts hinfo
  obtain ⟨ad, c, rfl⟩ := hy.slice
  cases ad with
  | none =>
    have hd : ds = [] := by
      cases ds with
      | nil => rfl
      | cons d ds => obtain ⟨g, off, h, _⟩ := hy.at 0 (by simp); cases h
    subst hd
    have hrun := run_app_nil (P := Try.prog) (w := w) B S o.type T i 1 hS hi v cs.length c cs hown
    refine wpList_plain hg fun K hK' => ?_
    unfold Oper.wp
    simp only [List.length_nil] at hx
    simp [execOp, hop, resolve, invoke, builtin, hs, hx, hrun, Result.andThen]
    refine hK' _ _ (hK v w ?_ ⟨rfl, rfl, rfl, Nat.le_refl _, fun k _ _ => rfl⟩)
    rw [List.append_nil]; exact hown
  | some ad =>
    refine wpList_append_own w hg s x S hop B T i z 1 by_ hS hi hz0 hz1' hz2 hz1 (by decide) v cs.length cs hs hown
      ad ds.length c ds hx (by simp) ?_ hu1 (by unfold maxLen; omega) ?_ hB ?_
    · intro j u hj
      have hjl : j < ds.length := (List.getElem?_eq_some_iff.1 hj).1
      obtain ⟨g, off, h, _, hc⟩ := hy.at j hjl
      simp only [Option.some.injEq] at h
      subst h
      rw [Addr.add_lit, hc]; exact hj
    · exact Nat.le_trans (Nat.mul_le_mul hn hby) (by decide)
    · intro v' w' hown' hgr _
      refine hK v' w' ?_ hgr
      unfold OV
      rw [List.length_append]
      exact hown'
/-- append(v, xs...) as one step of a region that draws its order. -/
theorem step_apps {S T : TypeId} {z : Value} {by_ : Nat} (hS : Try.prog.underlying S = some (.slice T)) (hinfo : (Try.prog.info? T).map (fun i => (i.zero, i.size, i.bytes)) = some (some z, 1, by_)) (hz1 : z.cells.size = 1) (hby : by_ ≤ 24)
    {w : World} {ops : Array Oper} {o : Oper} {a : Act} {K : Act → World → Prop} {Q : Exit → Act → World → Prop} {E : Prop}
    (hg : o.guard = none) (s x : Operand) (hop : o.op = Op.call { callee := Callee.builtin Builtin.append, args := #[s, x], argTypes := #[S, S] })
    (B : Nat) (v : Value) (cs : List Value) (hs : a.eval s = v) (hown : OV T B w v cs) (y : Value) (ds : List Value) (hx : a.eval x = y)
    (hy : RV w y ds) (hu1 : ∀ u ∈ ds, u.oneCell' = true) (hn : cs.length + ds.length ≤ 1099511627776) (hB : B ≤ w.heap.size)
    (hK : ∀ v' w', OV T B w' v' (cs ++ ds) → w.grownBy w' v.ownBlock → K (a.put o.dst v') w') :
    if Region.wanted o (yielded ops a.tmps) = true then Oper.wp Try.prog o a w K Q else E := by
  rw [if_pos (by simp [Region.wanted, hg])]
  obtain ⟨i, hi, hz0, hz1', hz2⟩ := info_parts hinfo
  obtain ⟨ad, c, rfl⟩ := hy.slice
  cases ad with
  | none =>
    have hd : ds = [] := by
      cases ds with
      | nil => rfl
      | cons d ds => obtain ⟨g, off, h, _⟩ := hy.at 0 (by simp); cases h
    subst hd
    have hrun := run_app_nil (P := Try.prog) (w := w) B S o.type T i 1 hS hi v cs.length c cs hown
    unfold Oper.wp
    simp only [List.length_nil] at hx
    simp [execOp, hop, resolve, invoke, builtin, hs, hx, hrun, Result.andThen]
    refine hK v w ?_ ⟨rfl, rfl, rfl, Nat.le_refl _, fun k _ _ => rfl⟩
    rw [List.append_nil]; exact hown
  | some ad =>
    refine wp_append_own (P := Try.prog) w s x S hop B T i z 1 by_ hS hi hz0 hz1' hz2 hz1 (by decide) v cs.length cs hs hown
      ad ds.length c ds hx (by simp) ?_ hu1 (by unfold maxLen; omega) ?_ hB ?_
    · intro j u hj
      have hjl : j < ds.length := (List.getElem?_eq_some_iff.1 hj).1
      obtain ⟨g, off, h, _, hc⟩ := hy.at j hjl
      simp only [Option.some.injEq] at h
      subst h
      rw [Addr.add_lit, hc]; exact hj
    · exact Nat.le_trans (Nat.mul_le_mul hn hby) (by decide)
    · intro v' w' hown' hgr _
      refine hK v' w' ?_ hgr
      unfold OV
      rw [List.length_append]
      exact hown'
end Go.Proofs.Ythcnhkjiojeemaa
