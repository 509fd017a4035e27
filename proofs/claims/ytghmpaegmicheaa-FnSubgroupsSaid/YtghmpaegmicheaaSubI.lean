/- SubgroupOf: the program's side. -/
import Derived.Test.YtghmpaegmicheaaSub
import Derived.Test.YtghmpaegmicheaaSrt
namespace Go.Proofs.Ytghmpaegmicheaa
open Go.RowKit

set_option maxHeartbeats 400000 in
theorem sub1_any (v : Value) (x : List (List Int)) (z : Int) (g : Nat) (w : World) (hg : w.cell? ⟨g, 0, none⟩ = some v) (hx : RT w v x) (hm : x.length ≤ 1048576) (hr : Small x) :
    Calls Try.prog 74 #[.int .i64 z, .pointer (some ⟨g, 0, none⟩)] w fun e w' => e = .returned (.bool (!hasB x z)) ∧ Below w.heap.size w w' := by
  have H := Lib.hid (has_any v x z g w hg hx hm hr)
  clear hg hx
  go_enter Try.func74, Try.ntmps74
  go_wp2_with (go_at_call 62; refine H.out.mono ?_; rintro e w' ⟨rfl, hb⟩)
  go_ret
  exact ⟨rfl, hb⟩
set_option maxHeartbeats 1000000 in
theorem subC_any (v ev : Value) (x : List (List Int)) (es : List Int) (g : Nat) (w : World) (hG : grpB x = true) (hg : w.cell? ⟨g, 0, none⟩ = some v) (hx : RT w v x) (hm : x.length ≤ 1048576) (hr : Small x) (he : RI w ev es) (hle : es.length ≤ 1048576) :
    Calls Try.prog 73 #[ev, .func (.func 74) #[] #[.pointer (some ⟨g, 0, none⟩)]] w fun e w' => e = .returned (.bool (!rowB x.length es)) ∧ Below w.heap.size w w' := by
  have hgl : g < w.heap.size := World.block_lt_of_cell? w _ hg
  have HS : Hid (∀ z b, inB z 0 ((x.length : Int) - 1) = b → ∀ wx, Below w.heap.size w wx → Calls Try.prog 74 #[.int .i64 z, .pointer (some ⟨g, 0, none⟩)] wx fun e w' => e = .returned (.bool (!b)) ∧ Below wx.heap.size wx w') := fun z b hb wx h => by
    have := sub1_any v x z g wx ((h.cell (p := ⟨g, 0, none⟩) hgl).trans hg) (hx.later h) hm hr
    rw [show hasB x z = b by unfold hasB; rw [hG, hb]; rfl] at this; exact this
  have HI : Hid (Calls Try.prog 109 #[ev, .func (.func 74) #[] #[.pointer (some ⟨g, 0, none⟩)]] w fun e w' => ∃ r : Int, e = .returned (.int .i64 r) ∧ Hid (decide (0 ≤ r) = !rowB x.length es) ∧ Below w.heap.size w w') := by
    unfold Hid
    obtain ⟨ea, ec, rfl⟩ := he.slice
    clear hg hx
    go_enter Try.func109, Try.ntmps109
    go_wp2_with fail
    go_loopw [8] (fun iv wr => ∃ k : Nat, k ≤ es.length ∧ iv = .int .i64 k ∧ Hid (∀ i, i < k → inB (es.getD i 0) 0 ((x.length : Int) - 1) = true) ∧ Below w.heap.size w wr) (fun iv _ => es.length - (intOf iv).toNat)
    case atStart => exact ⟨0, Nat.zero_le _, rfl, fun i hi => by omega, Below.refl _ _⟩
    case round =>
      obtain ⟨k, hk, rfl, HK, hb⟩ := hrel
      by_cases hlt : k < es.length
      · obtain ⟨ga, off, rfl, hga, hc⟩ := (he.later hb).at k hlt
        have HN : Hid (inB (es.getD k 0) 0 ((x.length : Int) - 1) = false → rowB x.length es = false) := rowB_no k hlt
        have HY : Hid (inB (es.getD k 0) 0 ((x.length : Int) - 1) = true → ∀ i, i < k + 1 → inB (es.getD i 0) 0 ((x.length : Int) - 1) = true) := fun h i hi => by
          by_cases e : i = k
          · subst e; exact h
          · exact HK.out i (by omega)
        generalize es.getD k 0 = z at *
        cases hin : inB z 0 ((x.length : Int) - 1)
        · have HC := Lib.hid (HS.out z false hin)
          have HR := Lib.hid (HN.out hin)
          have h0 : (0 : Int) ≤ (k : Int) := by omega
          clear hin HN HY
          go_wp2_with (go_at_call 74; refine (HC.out _ hb).mono ?_; rintro e w1 ⟨rfl, hb1⟩)
          go_ret
          exact ⟨_, rfl, by rw [HR.out]; simp, hb.trans (hb1.mono hb.size)⟩
        · have HC := Lib.hid (HS.out z true hin)
          have HR := Lib.hid (HY.out hin)
          clear hin HN HY
          go_wp2_with (go_at_call 74; refine (HC.out _ hb).mono ?_; rintro e w1 ⟨rfl, hb1⟩)
          go_roundw
          case rel => exact ⟨k + 1, by omega, by go_num, HR, hb.trans (hb1.mono hb.size)⟩
          case measure => first | (simp [intOf]; done) | (simp [intOf]; omega)
      · have HR : Hid (rowB x.length es = true) := rowB_yes fun i hi => HK.out i (by omega)
        go_wp2_with fail
        go_ret
        exact ⟨-1, rfl, by rw [HR.out]; simp, hb⟩
  clear hg hx he HS
  go_enter Try.func73, Try.ntmps73
  go_wp2_with (go_at_call 109; refine HI.out.mono ?_; rintro e w' ⟨r, rfl, HR, hb⟩)
  go_ret
  exact ⟨ret_bool HR.out, hb⟩
def sgB (x : List (List Int)) (es : List Int) : Bool := grpB x && esB x.length es
def SgPost (x : List (List Int)) (es cs : List Int) (w : World) (e : Ending) (w' : World) : Prop := ∃ v', e = .returned (.tuple #[v', .bool (sgB x es)]) ∧ OI w.heap.size w' v' (if sgB x es then cs else []) ∧ Below w.heap.size w w'
theorem SgPost.no {x : List (List Int)} {es cs : List Int} {w w' : World} (h : sgB x es = false) (hb : Below w.heap.size w w') : SgPost x es cs w (.returned (.tuple #[.slice none 0 0, .bool false])) w' :=
  ⟨_, by rw [h], by rw [h]; exact OK.nil _ _ _ _, hb⟩
theorem SgPost.yes {x : List (List Int)} {es cs : List Int} {w w' : World} {v : Value} (h : sgB x es = true) (ho : OI w.heap.size w' v cs) (hb : Below w.heap.size w w') : SgPost x es cs w (.returned (.tuple #[v, .bool true])) w' :=
  ⟨_, by rw [h], by rw [h]; exact ho, hb⟩
/-- The product of a number of a list with the k-th element. -/
def prd (x : List (List Int)) (es : List Int) (z : Int) (k : Nat) : Int := ((mul x z.toNat (es.getD k 0).toNat : Nat) : Int)
def Part (x : List (List Int)) (es o : List Int) (i m : Nat) : Prop := ∀ k, k < m → prd x es (o.getD i 0) k ∈ o
def Dn (x : List (List Int)) (es o : List Int) (i : Nat) : Prop := ∀ j, j < i → Part x es o j es.length
theorem getD_app {o : List Int} {y : Int} {j : Nat} (h : j < o.length) : (o ++ [y]).getD j 0 = o.getD j 0 := by
  rw [List.getD_eq_getElem?_getD, List.getElem?_append_left h, ← List.getD_eq_getElem?_getD]
theorem Part.app {x : List (List Int)} {es o : List Int} {i m : Nat} (h : Part x es o i m) (hi : i < o.length) (y : Int) : Part x es (o ++ [y]) i m := fun k hk => by
  rw [getD_app hi]; exact List.mem_append.2 (.inl (h k hk))
theorem Dn.app {x : List (List Int)} {es o : List Int} {i : Nat} (h : Dn x es o i) (hi : i ≤ o.length) (y : Int) : Dn x es (o ++ [y]) i := fun j hj => (h j hj).app (by omega) y
theorem Part.more {x : List (List Int)} {es o : List Int} {i m : Nat} (h : Part x es o i m) (hm : prd x es (o.getD i 0) m ∈ o) : Part x es o i (m + 1) := fun k hk => by
  by_cases e : k = m
  · subst e; exact hm
  · exact h k (by omega)
theorem Dn.more {x : List (List Int)} {es o : List Int} {i : Nat} (h : Dn x es o i) (hp : Part x es o i es.length) : Dn x es o (i + 1) := fun j hj => by
  by_cases e : j = i
  · subst e; exact hp
  · exact h j (by omega)
/-- A closed list, sorted, is the list. -/
theorem Got.sorted {x : List (List Int)} {es o l cs : List Int} (h : Got x es o) (hd : Dn x es o o.length) (hp : l.Perm o) (ha : Asc l.length l) (hc : SubP x es cs) : l = cs := by
  refine SubP.uniq ⟨fun i j h1 h2 => ?_, fun z => ?_⟩ hc
  · have hle := ha i j h1 h2
    have hnd := (hp.nodup_iff).2 h.nd
    have hne : l.getD i 0 ≠ l.getD j 0 := fun e => by
      rw [getD_eq (show i < l.length by omega), getD_eq h2] at e
      exact (List.pairwise_iff_getElem.1 hnd i j (by omega) h2 h1) e
    omega
  · rw [hp.mem_iff]
    refine ⟨h.in_ z, fun ⟨a, e, hr⟩ => ?_⟩
    rw [e]
    refine h.all (fun b hb k hk => ?_) hr
    obtain ⟨j, hj, e2⟩ := List.getElem_of_mem hb
    have := hd j hj k hk
    unfold prd at this
    rw [getD_eq hj, e2] at this
    simpa using this
set_option maxRecDepth 100000 in
set_option maxHeartbeats 4000000 in
theorem si_g (v ev : Value) (x : List (List Int)) (es cs : List Int) (w : World) (hx : RT w v x) (hm : x.length ≤ 1048576) (hr : Small x) (he : RI w ev es) (hle : es.length ≤ 1048576) (h1 : grpB x = false) :
    Calls Try.prog 38 #[.agg #[v], ev] w (SgPost x es cs w) := by
  have HV : Hid (∀ b, grpB x = b → ∀ wx vx, RT wx vx x → Calls Try.prog 33 #[.agg #[vx]] wx fun e w' => e = .returned (.bool b) ∧ Below wx.heap.size wx w') := fun b e wx vx h => implVG_is vx x wx b e h hm hr
  obtain ⟨a, c, rfl⟩ := hx.slice
  have hb : Below w.heap.size w (w.alloc (.cells #[.slice a x.length c] 29)) := (Below.refl _ _).alloc (Nat.le_refl _) _
  have c0 : (w.alloc (.cells #[.slice a x.length c] 29)).cell? ⟨w.heap.size, 0, none⟩ = some (.slice a x.length c) := World.cell?_alloc_at _ _ _ _ rfl
  have hlt : w.heap.size < (w.alloc (.cells #[.slice a x.length c] 29)).heap.size := by simp
  have hmf : ∀ (fn : Fn) (first cap : Array Value) (w : World), (Instr.makeFunc fn first cap).run Try.prog w = .ok (.func fn first cap) w := fun _ _ _ _ => rfl
  replace hx := hx.later hb
  replace he := he.later hb
  obtain ⟨ea, ec, rfl⟩ := he.slice
  have HC := Lib.hid (HV.out _ h1)
  have HR : Hid (sgB x es = false) := by unfold Hid sgB; rw [h1]; rfl
  clear h1 HV
  go_enter Try.func38, Try.ntmps38
  go_wp2_with fail
  generalize w.alloc (.cells #[.slice a x.length c] 29) = w0 at *
  refine (HC.out _ _ hx).mono ?_
  rintro e w1 ⟨rfl, hb1⟩
  have hx1 := hx.later hb1
  have he1 := he.later hb1
  have c1 := (hb1.cell (p := ⟨w.heap.size, 0, none⟩) hlt).trans c0
  have hlt1 := Nat.lt_of_lt_of_le hlt hb1.size
  have hb2 := hb.trans (hb1.mono hb.size)
  clear hx he c0 hlt hb hb1
  go_wp2_with fail
  go_ret2
  exact SgPost.no HR.out hb2
set_option maxRecDepth 100000 in
set_option maxHeartbeats 4000000 in
theorem si_l (v ev : Value) (x : List (List Int)) (es cs : List Int) (w : World) (hx : RT w v x) (hm : x.length ≤ 1048576) (hr : Small x) (he : RI w ev es) (hle : es.length ≤ 1048576) (h1 : grpB x = true) (h2 : ¬ (es.length : Int) ≤ 10) :
    Calls Try.prog 38 #[.agg #[v], ev] w (SgPost x es cs w) := by
  have HV : Hid (∀ b, grpB x = b → ∀ wx vx, RT wx vx x → Calls Try.prog 33 #[.agg #[vx]] wx fun e w' => e = .returned (.bool b) ∧ Below wx.heap.size wx w') := fun b e wx vx h => implVG_is vx x wx b e h hm hr
  obtain ⟨a, c, rfl⟩ := hx.slice
  have hb : Below w.heap.size w (w.alloc (.cells #[.slice a x.length c] 29)) := (Below.refl _ _).alloc (Nat.le_refl _) _
  have c0 : (w.alloc (.cells #[.slice a x.length c] 29)).cell? ⟨w.heap.size, 0, none⟩ = some (.slice a x.length c) := World.cell?_alloc_at _ _ _ _ rfl
  have hlt : w.heap.size < (w.alloc (.cells #[.slice a x.length c] 29)).heap.size := by simp
  have hmf : ∀ (fn : Fn) (first cap : Array Value) (w : World), (Instr.makeFunc fn first cap).run Try.prog w = .ok (.func fn first cap) w := fun _ _ _ _ => rfl
  replace hx := hx.later hb
  replace he := he.later hb
  obtain ⟨ea, ec, rfl⟩ := he.slice
  have HC := Lib.hid (HV.out _ h1)
  have HR : Hid (sgB x es = false) := by unfold Hid sgB esB; rw [decide_eq_false (by omega)]; simp
  clear h1 HV
  go_enter Try.func38, Try.ntmps38
  go_wp2_with fail
  generalize w.alloc (.cells #[.slice a x.length c] 29) = w0 at *
  refine (HC.out _ _ hx).mono ?_
  rintro e w1 ⟨rfl, hb1⟩
  have hx1 := hx.later hb1
  have he1 := he.later hb1
  have c1 := (hb1.cell (p := ⟨w.heap.size, 0, none⟩) hlt).trans c0
  have hlt1 := Nat.lt_of_lt_of_le hlt hb1.size
  have hb2 := hb.trans (hb1.mono hb.size)
  clear hx he c0 hlt hb hb1
  go_wp2_with fail
  go_ret2
  exact SgPost.no HR.out hb2
set_option maxRecDepth 100000 in
set_option maxHeartbeats 4000000 in
theorem si_e (v ev : Value) (x : List (List Int)) (es cs : List Int) (w : World) (hx : RT w v x) (hm : x.length ≤ 1048576) (hr : Small x) (he : RI w ev es) (hle : es.length ≤ 1048576) (h1 : grpB x = true) (h2 : (es.length : Int) ≤ 10) (h3 : rowB x.length es = false) :
    Calls Try.prog 38 #[.agg #[v], ev] w (SgPost x es cs w) := by
  have HV : Hid (∀ b, grpB x = b → ∀ wx vx, RT wx vx x → Calls Try.prog 33 #[.agg #[vx]] wx fun e w' => e = .returned (.bool b) ∧ Below wx.heap.size wx w') := fun b e wx vx h => implVG_is vx x wx b e h hm hr
  obtain ⟨a, c, rfl⟩ := hx.slice
  have hb : Below w.heap.size w (w.alloc (.cells #[.slice a x.length c] 29)) := (Below.refl _ _).alloc (Nat.le_refl _) _
  have c0 : (w.alloc (.cells #[.slice a x.length c] 29)).cell? ⟨w.heap.size, 0, none⟩ = some (.slice a x.length c) := World.cell?_alloc_at _ _ _ _ rfl
  have hlt : w.heap.size < (w.alloc (.cells #[.slice a x.length c] 29)).heap.size := by simp
  have hmf : ∀ (fn : Fn) (first cap : Array Value) (w : World), (Instr.makeFunc fn first cap).run Try.prog w = .ok (.func fn first cap) w := fun _ _ _ _ => rfl
  replace hx := hx.later hb
  replace he := he.later hb
  obtain ⟨ea, ec, rfl⟩ := he.slice
  have HC := Lib.hid (HV.out _ h1)
  have HR : Hid (sgB x es = false) := by unfold Hid sgB esB; rw [h3]; simp
  have HF : Hid (∀ wx X, wx.cell? ⟨X, 0, none⟩ = some (.slice a x.length c) → RT wx (.slice a x.length c) x → RI wx (.slice ea es.length ec) es → Calls Try.prog 73 #[.slice ea es.length ec, .func (.func 74) #[] #[.pointer (some ⟨X, 0, none⟩)]] wx fun e w' => e = .returned (.bool true) ∧ Below wx.heap.size wx w') := fun wx X k1 k2 k3 => by
    have := subC_any _ _ x es X wx h1 k1 k2 hm hr k3 hle
    rw [h3] at this; exact this
  clear h1 h3 HV
  go_enter Try.func38, Try.ntmps38
  go_wp2_with fail
  generalize w.alloc (.cells #[.slice a x.length c] 29) = w0 at *
  refine (HC.out _ _ hx).mono ?_
  rintro e w1 ⟨rfl, hb1⟩
  have hx1 := hx.later hb1
  have he1 := he.later hb1
  have c1 := (hb1.cell (p := ⟨w.heap.size, 0, none⟩) hlt).trans c0
  have hlt1 := Nat.lt_of_lt_of_le hlt hb1.size
  have hb2 := hb.trans (hb1.mono hb.size)
  clear hx he c0 hlt hb hb1
  go_wp2_with fail
  refine (HF.out _ _ c1 hx1 he1).mono ?_
  rintro e w2 ⟨rfl, hb3⟩
  go_wp2_with fail
  go_ret2
  exact SgPost.no HR.out (hb2.trans (hb3.mono hb2.size))
set_option maxRecDepth 100000 in
set_option maxHeartbeats 4000000 in
theorem si_y (v ev : Value) (x : List (List Int)) (es cs : List Int) (w : World) (hx : RT w v x) (hm : x.length ≤ 1048576) (hr : Small x) (he : RI w ev es) (hle : es.length ≤ 1048576) (h1 : grpB x = true) (h2 : (es.length : Int) ≤ 10) (h3 : rowB x.length es = true) (hcs : SubP x es cs) :
    Calls Try.prog 38 #[.agg #[v], ev] w (SgPost x es cs w) := by
  have HV : Hid (∀ b, grpB x = b → ∀ wx vx, RT wx vx x → Calls Try.prog 33 #[.agg #[vx]] wx fun e w' => e = .returned (.bool b) ∧ Below wx.heap.size wx w') := fun b e wx vx h => implVG_is vx x wx b e h hm hr
  obtain ⟨a, c, rfl⟩ := hx.slice
  have hb : Below w.heap.size w (w.alloc (.cells #[.slice a x.length c] 29)) := (Below.refl _ _).alloc (Nat.le_refl _) _
  have c0 : (w.alloc (.cells #[.slice a x.length c] 29)).cell? ⟨w.heap.size, 0, none⟩ = some (.slice a x.length c) := World.cell?_alloc_at _ _ _ _ rfl
  have hlt : w.heap.size < (w.alloc (.cells #[.slice a x.length c] 29)).heap.size := by simp
  have hmf : ∀ (fn : Fn) (first cap : Array Value) (w : World), (Instr.makeFunc fn first cap).run Try.prog w = .ok (.func fn first cap) w := fun _ _ _ _ => rfl
  replace hx := hx.later hb
  replace he := he.later hb
  obtain ⟨ea, ec, rfl⟩ := he.slice
  have HC := Lib.hid (HV.out _ h1)
  have HR : Hid (sgB x es = true) := by unfold Hid sgB esB; rw [h1, h3, decide_eq_true (by omega)]; rfl
  have HES : Hid (esB x.length es = true) := by unfold Hid esB; rw [h3, decide_eq_true (by omega)]; rfl
  have HF : Hid (∀ wx X, wx.cell? ⟨X, 0, none⟩ = some (.slice a x.length c) → RT wx (.slice a x.length c) x → RI wx (.slice ea es.length ec) es → Calls Try.prog 73 #[.slice ea es.length ec, .func (.func 74) #[] #[.pointer (some ⟨X, 0, none⟩)]] wx fun e w' => e = .returned (.bool false) ∧ Below wx.heap.size wx w') := fun wx X k1 k2 k3 => by
    have := subC_any _ _ x es X wx h1 k1 k2 hm hr k3 hle
    rw [h3] at this; exact this
  have HG := Lib.hid (Gp.of h1)
  have HCS := Lib.hid hcs
  clear h1 h3 HV hcs
  go_enter Try.func38, Try.ntmps38
  go_wp2_with fail
  generalize w.alloc (.cells #[.slice a x.length c] 29) = w0 at *
  refine (HC.out _ _ hx).mono ?_
  rintro e w1 ⟨rfl, hb1⟩
  have hx1 := hx.later hb1
  have he1 := he.later hb1
  have c1 := (hb1.cell (p := ⟨w.heap.size, 0, none⟩) hlt).trans c0
  have hlt1 := Nat.lt_of_lt_of_le hlt hb1.size
  have hb2 := hb.trans (hb1.mono hb.size)
  clear hx he c0 hlt hb hb1
  go_wp2_with fail
  refine (HF.out _ _ c1 hx1 he1).mono ?_
  rintro e w2 ⟨rfl, hb3⟩
  have hx2 := hx1.later hb3
  have HE := Lib.hid (he1.later hb3)
  have c2 := (hb3.cell (p := ⟨w.heap.size, 0, none⟩) hlt1).trans c1
  have hlt2 := Nat.lt_of_lt_of_le hlt1 hb3.size
  have hb4 := hb2.trans (hb3.mono hb2.size)
  have HB := Lib.hid hb4
  clear hx1 he1 c1 hlt1 hb2 hb3 hb4 hmf
  have hs : Hid (sqB x = true) := HG.out.sq
  have hn := HG.out.n
  obtain ⟨G, O, C, H, F, P, hv, hat⟩ := hx2.sq hs.out
  simp only [Value.slice.injEq] at hv
  obtain ⟨rfl, _, rfl⟩ := hv
  have HSQ := Lib.hid hat
  have HI : Hid (Calls Try.prog 61 #[.slice (some ⟨G, O, none⟩) x.length c] w2 fun e w' => e = .returned (.int .i64 ((one x : Nat) : Int)) ∧ w2 = w') := by
    have := identity_any (C := c) x w2 hs hat
    rw [HG.out.idn_eq] at this; exact this
  have HC0 : Hid (∀ wr, Below w2.heap.size w2 wr → wr.cell? ⟨w.heap.size, 0, none⟩ = some (.slice (some ⟨G, O, none⟩) x.length c)) := fun wr h => (h.cell (p := ⟨w.heap.size, 0, none⟩) hlt2).trans c2
  have HO : Hid (OI w2.heap.size (w2.alloc (.cells #[.int .i64 ((one x : Nat) : Int)] 2)) (.slice (some ⟨w2.heap.size, 0, none⟩) 1 1) [((one x : Nat) : Int)]) := OV.lit 2 w2 [.int .i64 ((one x : Nat) : Int)] (Nat.le_refl _) (by unfold maxLen; simp)
  clear hx2 hat
  go_wp2_with (go_at_call 61; refine HI.out.mono ?_; rintro e w' ⟨rfl, rfl⟩)
  go_loopw [6, 7] (fun ov iv wr => ∃ (i : Nat) (o : List Int), i ≤ o.length ∧ iv = .int .i64 i ∧ Hid (Got x es o) ∧ Hid (Dn x es o i) ∧ OI w2.heap.size wr ov o ∧ Below w2.heap.size w2 wr) (fun _ iv _ => 10 - (intOf iv).toNat)
  case atStart => exact ⟨0, [((one x : Nat) : Int)], Nat.zero_le _, rfl, Got.start x es, (fun j hj => by omega), HO.out, (Below.refl _ _).alloc (Nat.le_refl _) _⟩
  case round =>
    obtain ⟨i, o, hi, rfl, HGT, HDN, ho, hb⟩ := hrel
    clear HO
    have ho10 := HGT.out.le HG.out HES.out
    by_cases hlt : i < o.length
    · have hi10 : i < 10 := by omega
      obtain ⟨oa, oc, rfl⟩ := ho.slice
      have HLN : Hid (i < o.length) := hlt
      have HPT : Hid (Part x es o i 0) := fun k hk => by omega
      go_wp2_with fail
      go_loopw [6, 36] (fun ov kv wr => ∃ (k : Nat) (o : List Int), k ≤ es.length ∧ kv = .int .i64 k ∧ Hid (i < o.length) ∧ Hid (Got x es o) ∧ Hid (Dn x es o i) ∧ Hid (Part x es o i k) ∧ OI w2.heap.size wr ov o ∧ Below w2.heap.size w2 wr) (fun _ kv _ => es.length - (intOf kv).toNat)
      case atStart => exact ⟨0, o, Nat.zero_le _, rfl, HLN, HGT, HDN, HPT, ho, hb⟩
      case round =>
        clear ho hb HGT HDN HPT HLN hi hlt ho10
        obtain ⟨k, o, hk, rfl, HLN, HGT, HDN, HPT, ho, hb⟩ := hrel
        have ho10 := HGT.out.le HG.out HES.out
        by_cases hlk : k < es.length
        · obtain ⟨q, hq, eq⟩ := esB_at HES.out k hlk
          obtain ⟨p, ep, hp⟩ := HGT.out.in_ (o.getD i 0) (getD_mem HLN.out)
          have hpx := hp.lt HG.out HES.out
          obtain ⟨oa, oc, rfl⟩ := ho.slice
          obtain ⟨og, rfl, _, hoc⟩ := ho.at i HLN.out
          rw [ep] at hoc
          obtain ⟨eg, eo, ee, _, hec⟩ := (HE.out.later hb).at k hlk
          subst ee
          rw [eq] at hec
          have c0 := HC0.out _ hb
          have r1 := (HSQ.out.later hb).row p hpx
          have d1 := (HSQ.out.later hb).cell p q hpx hq
          have hmul : tb x p q = ((mul x p q : Nat) : Int) := HG.out.tb_eq p q hpx hq
          rw [hmul] at d1
          have HPR : Hid (prd x es (o.getD i 0) k = ((mul x p q : Nat) : Int)) := by unfold Hid prd; rw [ep, eq]; rfl
          have HRC : Hid (Rch x es (mul x p q)) := by have := Rch.step p k hp hlk; rw [eq] at this; exact this
          have f1 : (0 : Int) ≤ (p : Int) := by omega
          have f2 : (p : Int) < (x.length : Int) := by omega
          have f3 : (0 : Int) ≤ (q : Int) := by omega
          have f4 : (q : Int) < (x.length : Int) := by omega
          have f5 : (0 : Int) ≤ (i : Int) := by omega
          have f6 : (i : Int) < (o.length : Int) := by have := HLN.out; omega
          have hol : o.length ≤ 1099511627776 := by omega
          have HCT : Hid (∀ b n, decide ((((mul x p q : Nat) : Int)) ∈ o) = b → Calls Try.prog 75 #[.slice (some ⟨og, 0, none⟩) o.length oc, .int .i64 ((mul x p q : Nat) : Int)] (wr.drewN n) fun e w' => e = .returned (.bool b) ∧ wr.drewN n = w') := fun b n hb2 => by
            have := containsI_any _ o ((mul x p q : Nat) : Int) (wr.drewN n) (OK.read (OK.later ho (below_drewN (Below.refl _ _) n))) hol
            rw [hb2] at this; exact this
          have HOW : Hid (∀ n, OI w2.heap.size (wr.drewN n) (.slice (some ⟨og, 0, none⟩) o.length oc) o ∧ Below w2.heap.size w2 (wr.drewN n)) := fun n => ⟨OK.later ho (below_drewN (Below.refl _ _) n), below_drewN hb n⟩
          have HMO : Hid (prd x es (o.getD i 0) k ∈ o → Part x es o i (k + 1)) := HPT.out.more
          have HAP : Hid (¬ (((mul x p q : Nat) : Int)) ∈ o → Got x es (o ++ [((mul x p q : Nat) : Int)]) ∧ Dn x es (o ++ [((mul x p q : Nat) : Int)]) i ∧ Part x es (o ++ [((mul x p q : Nat) : Int)]) i (k + 1)) := fun hn => by
            refine ⟨HGT.out.more HRC.out hn, HDN.out.app (Nat.le_of_lt HLN.out) _, ((HPT.out.app HLN.out _).more ?_)⟩
            rw [getD_app HLN.out, HPR.out]
            simp
          clear hmul hp ep eq HPT ho
          generalize mul x p q = m at *
          by_cases hm2 : ((m : Nat) : Int) ∈ o
          · have HC2 := Lib.hid fun n => HCT.out true n (decide_eq_true hm2)
            have HP2 : Hid (Part x es o i (k + 1)) := HMO.out (by rw [HPR.out]; exact hm2)
            clear hm2 HCT HMO HAP HRC
            go_wp2_with fail
            go_quiet (fail)
            go_wp2_with (go_at_call 75; refine (HC2.out _).mono ?_; rintro e w' ⟨rfl, rfl⟩)
            obtain ⟨ho5, hb5⟩ := HOW.out nq
            go_roundw
            case rel => exact ⟨k + 1, o, by omega, by go_num, HLN, HGT, HDN, HP2, ho5, hb5⟩
            case measure => first | (simp [intOf]; done) | (simp [intOf]; omega)
          · have HC2 := Lib.hid fun n => HCT.out false n (decide_eq_false hm2)
            have HP2 := Lib.hid (HAP.out hm2)
            clear hm2 HCT HMO HAP HRC
            go_wp2_with fail
            go_quiet (fail)
            obtain ⟨ho5, hb5⟩ := HOW.out nq
            go_wp2_with (first | (go_at_call 75; refine (HC2.out _).mono ?_; rintro e w' ⟨rfl, rfl⟩) | (at_builtin; refine wpl_app_i64 rfl _ _ rfl w2.heap.size _ _ rfl (ho5.alloc _) _ _ _ rfl (World.cell?_alloc_at _ _ _ _ rfl) hol (by have := hb5.size; simp at this; simp; omega) ?_; intro v5 w5 ho6 hgr))
            have hb6 : Below w2.heap.size w2 w5 := (hb5.alloc hb5.size _).grown hgr (by have := hb5.size; simp at this; simp; omega) fun j hj => (ho5.lt j hj).1
            have HL2 : Hid (i < (o ++ [((m : Nat) : Int)]).length) := by have := HLN.out; unfold Hid; simp; omega
            go_roundw
            case rel => exact ⟨k + 1, _, by omega, by go_num, HL2, HP2.out.1, HP2.out.2.1, HP2.out.2.2, ho6, hb6⟩
            case measure => first | (simp [intOf]; done) | (simp [intOf]; omega)
        · have HD2 : Hid (Dn x es o (i + 1)) := HDN.out.more (by rw [show es.length = k by omega]; exact HPT.out)
          have hil := HLN.out
          go_wp2_with fail
          go_roundw
          case rel => exact ⟨i + 1, o, by omega, by go_num, HGT, HD2, ho, hb⟩
          case measure => first | (simp [intOf]; done) | (simp [intOf]; omega)
    · have HD2 : Hid (Dn x es o o.length) := by rw [show o.length = i by omega]; exact HDN.out
      have HSRT := Lib.hid (sort_any _ o _ _ ho (by omega))
      obtain ⟨oa, oc, rfl⟩ := ho.slice
      go_wp2_with fail
      refine HSRT.out.mono ?_
      rintro e w5 ⟨rfl, l, hpm, hasc, ho6, hch⟩
      have hlc : l = cs := HGT.out.sorted HD2.out hpm hasc HCS.out
      have HLC := Lib.hid hlc
      have hb6 : Below w2.heap.size w2 w5 := hch.below hb (fun q hq => ((ho.vb) q hq).1) hb.size
      clear hlc hpm hasc hch
      go_wp2_with fail
      go_ret2
      exact SgPost.yes HR.out (by rw [← HLC.out]; exact ho6.mono HB.out.size) (HB.out.trans (hb6.mono HB.out.size))
theorem implSg_any (v ev : Value) (x : List (List Int)) (es cs : List Int) (w : World) (hx : RT w v x) (hm : x.length ≤ 1048576) (hr : Small x) (he : RI w ev es) (hle : es.length ≤ 1048576) (hcs : sgB x es = true → SubP x es cs) :
    Calls Try.prog 38 #[.agg #[v], ev] w (SgPost x es cs w) := by
  cases h1 : grpB x
  · exact si_g v ev x es cs w hx hm hr he hle h1
  by_cases h2 : (es.length : Int) ≤ 10
  · cases h3 : rowB x.length es
    · exact si_e v ev x es cs w hx hm hr he hle h1 h2 h3
    · exact si_y v ev x es cs w hx hm hr he hle h1 h2 h3 (hcs (by unfold sgB esB; rw [h1, h3, decide_eq_true (by omega)]; rfl))
  · exact si_l v ev x es cs w hx hm hr he hle h1 h2
end Go.Proofs.Ytghmpaegmicheaa
