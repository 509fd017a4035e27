/- Where the row lies that append hands back: on its old block or behind all blocks. -/
import Derived.Test.YtgagjmnmfgfpfaaLib
namespace Go.Proofs.Ytgagjmnmfgfpfaa
open Go.RowKit

def Loc (w : World) (v v' : Value) : Prop := v'.ownBlock = v.ownBlock ∨ ∃ g, v'.ownBlock = some g ∧ w.heap.size ≤ g
theorem app_loc {P : Program} {w : World} {t ty e : TypeId} {i : TypeInfo} {z : Value} {bytes B : Nat} (ht : P.underlying t = some (.slice e)) (hi : P.info? e = some i) (hz : i.zero = some z)
    (hsize : i.size = 1) (hby : i.bytes = bytes) {v : Value} {xs : List Value} (hown : OV e B w v xs)
    {a : Addr} {c : Nat} {u : Value} (hnews : w.cell? a = some u) (h1 : u.oneCell' = true)
    (h63 : xs.length + 1 ≤ maxLen) (hbytes : (xs.length + 1) * bytes ≤ 140737488355328) {v' : Value} {w' : World}
    (hr : (Builtin.append_ #[t, t] ty #[v, .slice (some a) 1 c]).run P w = .ok v' w') : Loc w v v' := by
  have hn : ∀ j v, ([u] : List Value)[j]? = some v → w.cell? (a.add j) = some v := fun j v hj => by
    cases j with
    | zero =>
      simp at hj; subst hj
      have : a.add 0 = a := by unfold Addr.add; split <;> simp_all
      rw [this]; exact hnews
    | succ j => simp at hj
  have hl : ([u] : List Value).length = 1 * i.size := by rw [hsize]; rfl
  subst hby
  unfold maxLen at h63
  unfold OV at hown
  rcases hown.2 with ⟨rfl, h0⟩ | ⟨g, cap, cur, rfl, _, hg, _, _, hcs, _⟩
  · have h := run_append_nil (P := P) w t ty e i z ht hi hz a 1 c [u] hl hn (by omega) (by omega) (by rw [h0] at hbytes; omega)
    rw [hr] at h
    simp only [Result.ok.injEq] at h
    exact .inr ⟨w.heap.size, by rw [h.1]; rfl, Nat.le_refl _⟩
  · by_cases hroom : xs.length + 1 ≤ cap
    · have h := run_append_room (P := P) w t ty e i ht hi g xs.length cap cur hg a 1 c [u] hl hn (fun x hx => by simp at hx; subst hx; exact h1) hroom (by rw [hsize, hcs]; simp; omega)
      rw [hr] at h
      simp only [Result.ok.injEq] at h
      exact .inl (by rw [h.1]; rfl)
    · have holds : ∀ j u, xs[j]? = some u → w.cell? ((⟨g, 0, none⟩ : Addr).add j) = some u := World.ownsRow.cells hown (g := g) rfl
      have h := run_append_grow (P := P) w t ty e i z ht hi hz ⟨g, 0, none⟩ xs.length cap xs (by rw [hsize]; omega) holds a 1 c [u] hl hn (by omega) (by omega) (growslice_fits (by omega) hbytes)
      rw [hr] at h
      simp only [Result.ok.injEq] at h
      exact .inr ⟨w.heap.size, by rw [h.1]; rfl, Nat.le_refl _⟩
theorem app_run {S T : TypeId} {z : Value} {by_ : Nat} (hS : Try.prog.underlying S = some (.slice T)) (hinfo : (Try.prog.info? T).map (fun i => (i.zero, i.size, i.bytes)) = some (some z, 1, by_)) (hz1 : z.cells.size = 1) (hby : by_ ≤ 24)
    {w : World} (ty : TypeId) (B : Nat) (v : Value) (cs : List Value) (hown : OV T B w v cs) (ad : Addr) (c : Nat) (u : Value) (hu : w.cell? ad = some u) (hu1 : u.oneCell' = true) (hn : cs.length ≤ 1099511627776) (hB : B ≤ w.heap.size) :
    ∃ v' w', (Builtin.append_ #[S, S] ty #[v, .slice (some ad) 1 c]).run Try.prog w = .ok v' w' ∧ OV T B w' v' (cs ++ [u]) ∧ w.grownBy w' v.ownBlock ∧ Loc w v v' := by
  obtain ⟨i, hi, hz0, hz1', hz2⟩ := info_parts hinfo
  have hbb : (cs.length + 1) * by_ ≤ 140737488355328 := Nat.le_trans (Nat.mul_le_mul (show cs.length + 1 ≤ 1099511627777 by omega) hby) (by decide)
  obtain ⟨v', w', hr, h1, h2, _⟩ := run_append_own (P := Try.prog) w B S ty T i z 1 by_ hS hi hz0 hz1' hz2 hz1 (by decide) v cs.length cs hown ad 1 c [u] rfl (fun j w' hj => by
    cases j with
    | zero =>
      simp at hj; subst hj
      have : ad.add 0 = ad := by unfold Addr.add; split <;> simp_all
      rw [this]; exact hu
    | succ j => simp at hj) (fun u' hu' => by simp at hu'; subst hu'; exact hu1) (by unfold maxLen; omega) hbb hB
  refine ⟨v', w', hr, ?_, h2, app_loc hS hi hz0 hz1' hz2 hown hu hu1 (by unfold maxLen; omega) hbb hr⟩
  unfold OV
  rw [List.length_append]
  exact h1
/-- append(v, u), with where its row lies. -/
theorem step_appL {S T : TypeId} {z : Value} {by_ : Nat} (hS : Try.prog.underlying S = some (.slice T)) (hinfo : (Try.prog.info? T).map (fun i => (i.zero, i.size, i.bytes)) = some (some z, 1, by_)) (hz1 : z.cells.size = 1) (hby : by_ ≤ 24)
    {w : World} {ops : Array Oper} {o : Oper} {a : Act} {K : Act → World → Prop} {Q : Exit → Act → World → Prop} {E : Prop}
    (hg : o.guard = none) (s x : Operand) (hop : o.op = Op.call { callee := Callee.builtin Builtin.append, args := #[s, x], argTypes := #[S, S] })
    (B : Nat) (v : Value) (cs : List Value) (hs : a.eval s = v) (hown : OV T B w v cs) (ad : Addr) (c : Nat) (u : Value) (hx : a.eval x = .slice (some ad) 1 c)
    (hu : w.cell? ad = some u) (hu1 : u.oneCell' = true) (hn : cs.length ≤ 1099511627776) (hB : B ≤ w.heap.size)
    (hK : ∀ v' w', OV T B w' v' (cs ++ [u]) → w.grownBy w' v.ownBlock → Loc w v v' → K (a.put o.dst v') w') :
    if Region.wanted o (yielded ops a.tmps) = true then Oper.wp Try.prog o a w K Q else E := by
  rw [if_pos (by simp [Region.wanted, hg])]
  obtain ⟨v', w', hr, h2, h3, h4⟩ := app_run hS hinfo hz1 hby o.type B v cs hown ad c u hu hu1 hn hB
  unfold Oper.wp execOp
  simp only [hop, resolve, invoke, builtin, Sem.run_bind, Sem.run_pure, Result.andThen_ok, List.map_toArray, List.map_cons, List.map_nil, hs, hx, hr]
  exact hK v' w' h2 h3 h4
theorem wpl_appL {S T : TypeId} {z : Value} {by_ : Nat} (hS : Try.prog.underlying S = some (.slice T)) (hinfo : (Try.prog.info? T).map (fun i => (i.zero, i.size, i.bytes)) = some (some z, 1, by_)) (hz1 : z.cells.size = 1) (hby : by_ ≤ 24)
    {w : World} {ops : Array Oper} {rest : List Oper} {o : Oper} {a : Act} {Q : Exit → Act → World → Prop}
    (hg : o.guard = none) (s x : Operand) (hop : o.op = Op.call { callee := Callee.builtin Builtin.append, args := #[s, x], argTypes := #[S, S] })
    (B : Nat) (v : Value) (cs : List Value) (hs : a.eval s = v) (hown : OV T B w v cs) (ad : Addr) (c : Nat) (u : Value) (hx : a.eval x = .slice (some ad) 1 c)
    (hu : w.cell? ad = some u) (hu1 : u.oneCell' = true) (hn : cs.length ≤ 1099511627776) (hB : B ≤ w.heap.size)
    (hK : ∀ v' w', OV T B w' v' (cs ++ [u]) → w.grownBy w' v.ownBlock → Loc w v v' → wpList Try.prog ops Q rest (a.put o.dst v') w') :
    wpList Try.prog ops Q (o :: rest) a w := by
  refine wpList_plain hg fun K hK' => ?_
  obtain ⟨v', w', hr, h2, h3, h4⟩ := app_run hS hinfo hz1 hby o.type B v cs hown ad c u hu hu1 hn hB
  unfold Oper.wp execOp
  simp only [hop, resolve, invoke, builtin, Sem.run_bind, Sem.run_pure, Result.andThen_ok, List.map_toArray, List.map_cons, List.map_nil, hs, hx, hr]
  exact hK' _ _ (hK v' w' h2 h3 h4)
end Go.Proofs.Ytgagjmnmfgfpfaa
