/- SubgroupOf: the reference's side. -/
import Derived.Test.YtghmpaegmicheaaSubI
import Derived.Test.YtghmpaegmicheaaPut
namespace Go.Proofs.Ytghmpaegmicheaa
open Go.RowKit

/-- A rising list of reached numbers. -/
structure SetR (x : List (List Int)) (es s : List Int) : Prop where
  inc : Inc s
  in_ : ∀ z ∈ s, ∃ a : Nat, z = (a : Int) ∧ Rch x es a
  one_ : ((one x : Nat) : Int) ∈ s
theorem Inc.nodup {l : List Int} (h : Inc l) : l.Nodup := by
  rw [List.nodup_iff_pairwise_ne, List.pairwise_iff_getElem]
  intro i j hi hj hij
  have := h i j hij hj
  rw [getD_eq hi, getD_eq hj] at this
  omega
theorem SetR.got {x : List (List Int)} {es s : List Int} (h : SetR x es s) : Got x es s := ⟨h.in_, h.inc.nodup, h.one_⟩
theorem SetR.start (x : List (List Int)) (es : List Int) : SetR x es [((one x : Nat) : Int)] :=
  ⟨fun i j h1 h2 => by simp at h2; omega, fun z hz => ⟨one x, by simpa using hz, Rch.one⟩, by simp⟩
theorem SetR.put {x : List (List Int)} {es s l : List Int} {a : Nat} (h : SetR x es s) (ha : Rch x es a) (hp : Put s (a : Int) l) : SetR x es l :=
  ⟨hp.inc, fun z hz => by
    rcases (hp.mem z).1 hz with rfl | hz
    · exact ⟨a, rfl, ha⟩
    · exact h.in_ z hz, (hp.mem _).2 (.inr h.one_)⟩
theorem SetR.fin {x : List (List Int)} {es s cs : List Int} (h : SetR x es s) (hd : Dn x es s s.length) (hc : SubP x es cs) : s = cs := by
  refine SubP.uniq ⟨h.inc, fun z => ⟨h.in_ z, fun ⟨a, e, hr⟩ => ?_⟩⟩ hc
  rw [e]
  refine h.got.all (fun b hb k hk => ?_) hr
  obtain ⟨j, hj, e2⟩ := List.getElem_of_mem hb
  have := hd j hj k hk
  unfold prd at this
  rw [getD_eq hj, e2] at this
  simpa using this
/-- What a pass knows: if nothing has grown, the set is as it was, and what has been looked at is closed. -/
structure PassR (x : List (List Int)) (es s0 s : List Int) (g : Bool) (i : Nat) (k : Nat) : Prop where
  set : SetR x es s
  le : i ≤ s.length
  no : g = false → s = s0 ∧ Dn x es s i ∧ Part x es s i k
  yes : g = true → s0.length < s.length
set_option maxRecDepth 100000 in
set_option maxHeartbeats 4000000 in
theorem ss_g (v ev : Value) (x : List (List Int)) (es cs : List Int) (w : World) (hx : RT w v x) (hm : x.length ≤ 1048576) (hr : Small x) (he : RI w ev es) (hle : es.length ≤ 1048576) (h1 : grpB x = false) :
    Calls Try.prog 36 #[.agg #[v], ev] w (SgPost x es cs w) := by
  obtain ⟨a, c, rfl⟩ := hx.slice
  have HV : Hid (∀ b, grpB x = b → ∀ wx X, wx.cell? ⟨X, 0, none⟩ = some (.slice a x.length c) → RT wx (.slice a x.length c) x → Calls Try.prog 52 #[.pointer (some ⟨X, 0, none⟩)] wx fun e w' => e = .returned (.bool b) ∧ Below wx.heap.size wx w') := fun b e wx X h1 h2 => l05Is_is _ x X wx b e h1 h2 hm hr
  have hb : Below w.heap.size w (w.alloc (.cells #[.slice a x.length c] 29)) := (Below.refl _ _).alloc (Nat.le_refl _) _
  have c0 : (w.alloc (.cells #[.slice a x.length c] 29)).cell? ⟨w.heap.size, 0, none⟩ = some (.slice a x.length c) := World.cell?_alloc_at _ _ _ _ rfl
  have hlt : w.heap.size < (w.alloc (.cells #[.slice a x.length c] 29)).heap.size := by simp
  replace hx := hx.later hb
  replace he := he.later hb
  obtain ⟨ea, ec, rfl⟩ := he.slice
  have HC := Lib.hid (HV.out _ h1)
  have HR : Hid (sgB x es = false) := by unfold Hid sgB; rw [h1]; rfl
  clear h1 HV
  go_enter Try.func36, Try.ntmps36
  go_wp2_with fail
  generalize w.alloc (.cells #[.slice a x.length c] 29) = w0 at *
  refine (HC.out _ _ c0 hx).mono ?_
  rintro e w1 ⟨rfl, hb1⟩
  have hx1 := hx.later hb1
  have he1 := he.later hb1
  have c1 := (hb1.cell (p := ⟨w.heap.size, 0, none⟩) hlt).trans c0
  have hlt1 := Nat.lt_of_lt_of_le hlt hb1.size
  have hb2 := hb.trans (hb1.mono hb.size)
  clear hx he c0 hlt hb hb1
  go_wp2_with fail
  go_ret2
  exact SgPost.no HR.out hb2
set_option maxRecDepth 100000 in
set_option maxHeartbeats 4000000 in
theorem ss_l (v ev : Value) (x : List (List Int)) (es cs : List Int) (w : World) (hx : RT w v x) (hm : x.length ≤ 1048576) (hr : Small x) (he : RI w ev es) (hle : es.length ≤ 1048576) (h1 : grpB x = true) (h2 : ¬ (es.length : Int) ≤ 10) :
    Calls Try.prog 36 #[.agg #[v], ev] w (SgPost x es cs w) := by
  obtain ⟨a, c, rfl⟩ := hx.slice
  have HV : Hid (∀ b, grpB x = b → ∀ wx X, wx.cell? ⟨X, 0, none⟩ = some (.slice a x.length c) → RT wx (.slice a x.length c) x → Calls Try.prog 52 #[.pointer (some ⟨X, 0, none⟩)] wx fun e w' => e = .returned (.bool b) ∧ Below wx.heap.size wx w') := fun b e wx X h1 h2 => l05Is_is _ x X wx b e h1 h2 hm hr
  have hb : Below w.heap.size w (w.alloc (.cells #[.slice a x.length c] 29)) := (Below.refl _ _).alloc (Nat.le_refl _) _
  have c0 : (w.alloc (.cells #[.slice a x.length c] 29)).cell? ⟨w.heap.size, 0, none⟩ = some (.slice a x.length c) := World.cell?_alloc_at _ _ _ _ rfl
  have hlt : w.heap.size < (w.alloc (.cells #[.slice a x.length c] 29)).heap.size := by simp
  replace hx := hx.later hb
  replace he := he.later hb
  obtain ⟨ea, ec, rfl⟩ := he.slice
  have HC := Lib.hid (HV.out _ h1)
  have HR : Hid (sgB x es = false) := by unfold Hid sgB esB; rw [decide_eq_false (by omega)]; simp
  clear h1 HV
  go_enter Try.func36, Try.ntmps36
  go_wp2_with fail
  generalize w.alloc (.cells #[.slice a x.length c] 29) = w0 at *
  refine (HC.out _ _ c0 hx).mono ?_
  rintro e w1 ⟨rfl, hb1⟩
  have hx1 := hx.later hb1
  have he1 := he.later hb1
  have c1 := (hb1.cell (p := ⟨w.heap.size, 0, none⟩) hlt).trans c0
  have hlt1 := Nat.lt_of_lt_of_le hlt hb1.size
  have hb2 := hb.trans (hb1.mono hb.size)
  clear hx he c0 hlt hb hb1
  go_wp2_with fail
  go_ret2
  exact SgPost.no HR.out hb2
set_option maxRecDepth 100000 in
set_option maxHeartbeats 4000000 in
theorem ss_e (v ev : Value) (x : List (List Int)) (es cs : List Int) (w : World) (hx : RT w v x) (hm : x.length ≤ 1048576) (hr : Small x) (he : RI w ev es) (hle : es.length ≤ 1048576) (h1 : grpB x = true) (h2 : (es.length : Int) ≤ 10) (h3 : rowB x.length es = false) :
    Calls Try.prog 36 #[.agg #[v], ev] w (SgPost x es cs w) := by
  obtain ⟨a, c, rfl⟩ := hx.slice
  have HV : Hid (∀ b, grpB x = b → ∀ wx X, wx.cell? ⟨X, 0, none⟩ = some (.slice a x.length c) → RT wx (.slice a x.length c) x → Calls Try.prog 52 #[.pointer (some ⟨X, 0, none⟩)] wx fun e w' => e = .returned (.bool b) ∧ Below wx.heap.size wx w') := fun b e wx X h1 h2 => l05Is_is _ x X wx b e h1 h2 hm hr
  have hb : Below w.heap.size w (w.alloc (.cells #[.slice a x.length c] 29)) := (Below.refl _ _).alloc (Nat.le_refl _) _
  have c0 : (w.alloc (.cells #[.slice a x.length c] 29)).cell? ⟨w.heap.size, 0, none⟩ = some (.slice a x.length c) := World.cell?_alloc_at _ _ _ _ rfl
  have hlt : w.heap.size < (w.alloc (.cells #[.slice a x.length c] 29)).heap.size := by simp
  replace hx := hx.later hb
  replace he := he.later hb
  obtain ⟨ea, ec, rfl⟩ := he.slice
  have HC := Lib.hid (HV.out _ h1)
  have HR : Hid (sgB x es = false) := by unfold Hid sgB esB; rw [h3]; simp
  have HF : Hid (∀ wx, RI wx (.slice ea es.length ec) es → Calls Try.prog 69 #[.slice ea es.length ec, .int .i64 x.length] wx fun e w' => e = .returned (.bool false) ∧ wx = w') := fun wx k3 => by
    have := l01Below_any _ es x.length wx k3 (by omega) (by omega)
    rw [h3] at this; exact this
  clear h1 h3 HV
  go_enter Try.func36, Try.ntmps36
  go_wp2_with fail
  generalize w.alloc (.cells #[.slice a x.length c] 29) = w0 at *
  refine (HC.out _ _ c0 hx).mono ?_
  rintro e w1 ⟨rfl, hb1⟩
  have hx1 := hx.later hb1
  have he1 := he.later hb1
  have c1 := (hb1.cell (p := ⟨w.heap.size, 0, none⟩) hlt).trans c0
  have hlt1 := Nat.lt_of_lt_of_le hlt hb1.size
  have hb2 := hb.trans (hb1.mono hb.size)
  clear hx he c0 hlt hb hb1
  go_wp2_with fail
  refine (HF.out _ he1).mono ?_
  rintro e w2 ⟨rfl, rfl⟩
  go_wp2_with fail
  go_ret2
  exact SgPost.no HR.out hb2
set_option maxRecDepth 100000 in
set_option maxHeartbeats 4000000 in
theorem ss_y (v ev : Value) (x : List (List Int)) (es cs : List Int) (w : World) (hx : RT w v x) (hm : x.length ≤ 1048576) (hr : Small x) (he : RI w ev es) (hle : es.length ≤ 1048576) (h1 : grpB x = true) (h2 : (es.length : Int) ≤ 10) (h3 : rowB x.length es = true) (hcs : SubP x es cs) :
    Calls Try.prog 36 #[.agg #[v], ev] w (SgPost x es cs w) := by
  obtain ⟨a, c, rfl⟩ := hx.slice
  have HV : Hid (∀ b, grpB x = b → ∀ wx X, wx.cell? ⟨X, 0, none⟩ = some (.slice a x.length c) → RT wx (.slice a x.length c) x → Calls Try.prog 52 #[.pointer (some ⟨X, 0, none⟩)] wx fun e w' => e = .returned (.bool b) ∧ Below wx.heap.size wx w') := fun b e wx X h1 h2 => l05Is_is _ x X wx b e h1 h2 hm hr
  have hb : Below w.heap.size w (w.alloc (.cells #[.slice a x.length c] 29)) := (Below.refl _ _).alloc (Nat.le_refl _) _
  have c0 : (w.alloc (.cells #[.slice a x.length c] 29)).cell? ⟨w.heap.size, 0, none⟩ = some (.slice a x.length c) := World.cell?_alloc_at _ _ _ _ rfl
  have hlt : w.heap.size < (w.alloc (.cells #[.slice a x.length c] 29)).heap.size := by simp
  replace hx := hx.later hb
  replace he := he.later hb
  obtain ⟨ea, ec, rfl⟩ := he.slice
  have HC := Lib.hid (HV.out _ h1)
  have HR : Hid (sgB x es = true) := by unfold Hid sgB esB; rw [h1, h3, decide_eq_true (by omega)]; rfl
  have HES : Hid (esB x.length es = true) := by unfold Hid esB; rw [h3, decide_eq_true (by omega)]; rfl
  have HF : Hid (∀ wx, RI wx (.slice ea es.length ec) es → Calls Try.prog 69 #[.slice ea es.length ec, .int .i64 x.length] wx fun e w' => e = .returned (.bool true) ∧ wx = w') := fun wx k3 => by
    have := l01Below_any _ es x.length wx k3 (by omega) (by omega)
    rw [h3] at this; exact this
  have HG := Lib.hid (Gp.of h1)
  have HCS := Lib.hid hcs
  clear h1 h3 HV hcs
  go_enter Try.func36, Try.ntmps36
  go_wp2_with fail
  generalize w.alloc (.cells #[.slice a x.length c] 29) = w0 at *
  refine (HC.out _ _ c0 hx).mono ?_
  rintro e w1 ⟨rfl, hb1⟩
  have hx1 := hx.later hb1
  have he1 := he.later hb1
  have c1 := (hb1.cell (p := ⟨w.heap.size, 0, none⟩) hlt).trans c0
  have hlt1 := Nat.lt_of_lt_of_le hlt hb1.size
  have hb2 := hb.trans (hb1.mono hb.size)
  clear hx he c0 hlt hb hb1
  go_wp2_with fail
  refine (HF.out _ he1).mono ?_
  rintro e w2 ⟨rfl, rfl⟩
  have HE := Lib.hid he1
  have HB := Lib.hid hb2
  have hs : Hid (sqB x = true) := HG.out.sq
  have hn := HG.out.n
  obtain ⟨G, O, C, H, F, P, hv, hat⟩ := hx1.sq hs.out
  simp only [Value.slice.injEq] at hv
  obtain ⟨rfl, _, rfl⟩ := hv
  have HSQ := Lib.hid hat
  have HI : Hid (Calls Try.prog 70 #[.slice (some ⟨G, O, none⟩) x.length c] w1 fun e w' => e = .returned (.int .i64 ((one x : Nat) : Int)) ∧ w1 = w') := by
    have := l05Identity_any (C := c) x w1 hs hat
    rw [HG.out.idn_eq] at this; exact this
  have HC0 : Hid (∀ wr, Below w1.heap.size w1 wr → wr.cell? ⟨w.heap.size, 0, none⟩ = some (.slice (some ⟨G, O, none⟩) x.length c)) := fun wr h => (h.cell (p := ⟨w.heap.size, 0, none⟩) hlt1).trans c1
  have HO : Hid (OI w1.heap.size (w1.alloc (.cells #[.int .i64 ((one x : Nat) : Int)] 2)) (.slice (some ⟨w1.heap.size, 0, none⟩) 1 1) [((one x : Nat) : Int)]) := OV.lit 2 w1 [.int .i64 ((one x : Nat) : Int)] (Nat.le_refl _) (by unfold maxLen; simp)
  clear hx1 he1 hat hb2
  go_wp2_with (go_at_call 70; refine HI.out.mono ?_; rintro e w' ⟨rfl, rfl⟩)
  go_loopg [6, 7] 19 (fun m sv gv wr => ∃ (s : List Int) (g : Bool), m = 2 * (10 - s.length) + (if g then 1 else 0) ∧ gv = .bool g ∧ Hid (SetR x es s) ∧ Hid (g = false → Dn x es s s.length) ∧ OI w1.heap.size wr sv s ∧ Below w1.heap.size w1 wr)
  case atStart => exact ⟨[((one x : Nat) : Int)], true, by simp, rfl, SetR.start x es, (fun h => by cases h), HO.out, (Below.refl _ _).alloc (Nat.le_refl _) _⟩
  case round =>
    obtain ⟨s0, g, hgk, rfl, HS, HD, ho, hb⟩ := hrel
    clear HO
    have HGK := Lib.hid hgk
    clear hgk
    have hs10 := HS.out.got.le HG.out HES.out
    cases g
    · have hsc : s0 = cs := HS.out.fin (HD.out rfl) HCS.out
      have HSC := Lib.hid hsc
      clear hsc
      obtain ⟨oa, oc, rfl⟩ := ho.slice
      go_wp2_with fail
      go_ret2
      exact SgPost.yes HR.out (by rw [← HSC.out]; exact ho.mono HB.out.size) (HB.out.trans (hb.mono HB.out.size))
    · have HP0 : Hid (PassR x es s0 s0 false 0 0) := ⟨HS.out, Nat.zero_le _, fun _ => ⟨rfl, fun j hj => by omega, fun k hk => by omega⟩, fun h => by cases h⟩
      go_wp2_with fail
      go_loopg [6, 7, 8] 11 (fun m sv gv iv wr => ∃ (i : Nat) (s : List Int) (g : Bool), m = 11 - i ∧ iv = .int .i64 i ∧ gv = .bool g ∧ Hid (PassR x es s0 s g i 0) ∧ OI w1.heap.size wr sv s ∧ Below w1.heap.size w1 wr)
      case atStart => exact ⟨0, s0, false, rfl, rfl, rfl, HP0, ho, hb⟩
      case round =>
        clear HP0 ho hb
        obtain ⟨i, s, g, hgk2, rfl, rfl, HPS, ho, hb⟩ := hrel
        have HGK2 := Lib.hid hgk2
        clear hgk2
        have hs1 := HPS.out.set.got.le HG.out HES.out
        by_cases hlt : i < s.length
        · have HLN : Hid (i < s.length) := hlt
          obtain ⟨oa, oc, rfl⟩ := ho.slice
          go_wp2_with fail
          go_loopg [6, 7, 9] 11 (fun m sv gv kv wr => ∃ (k : Nat) (s : List Int) (g : Bool), k ≤ es.length ∧ m = 11 - k ∧ kv = .int .i64 k ∧ gv = .bool g ∧ Hid (i < s.length) ∧ Hid (PassR x es s0 s g i k) ∧ OI w1.heap.size wr sv s ∧ Below w1.heap.size w1 wr)
          case atStart => exact ⟨0, s, g, Nat.zero_le _, rfl, rfl, rfl, HLN, HPS, ho, hb⟩
          case round =>
            clear ho hb HPS HLN hlt hs1
            obtain ⟨k, s, g, hk, hgk3, rfl, rfl, HLN, HPS, ho, hb⟩ := hrel
            have HGK3 := Lib.hid hgk3
            clear hgk3
            have hs1 := HPS.out.set.got.le HG.out HES.out
            by_cases hlk : k < es.length
            · obtain ⟨q, hq, eq⟩ := esB_at HES.out k hlk
              obtain ⟨p, ep, hp⟩ := HPS.out.set.in_ (s.getD i 0) (getD_mem HLN.out)
              have hpx := hp.lt HG.out HES.out
              obtain ⟨oa, oc, rfl⟩ := ho.slice
              obtain ⟨og, rfl, _, hoc⟩ := ho.at i HLN.out
              rw [ep] at hoc
              obtain ⟨eg, eo, ee, _, hec⟩ := (HE.out.later hb).at k hlk
              subst ee
              rw [eq] at hec
              have c0 := HC0.out _ hb
              have r1 := (HSQ.out.later hb).row p hpx
              have d1 := (HSQ.out.later hb).cell p q hpx hq
              have hmul : tb x p q = ((mul x p q : Nat) : Int) := HG.out.tb_eq p q hpx hq
              rw [hmul] at d1
              have HPR : Hid (prd x es (s.getD i 0) k = ((mul x p q : Nat) : Int)) := by unfold Hid prd; rw [ep, eq]; rfl
              have HRC : Hid (Rch x es (mul x p q)) := by have := Rch.step p k hp hlk; rw [eq] at this; exact this
              have f1 : (0 : Int) ≤ (p : Int) := by omega
              have f2 : (p : Int) < (x.length : Int) := by omega
              have f3 : (0 : Int) ≤ (q : Int) := by omega
              have f4 : (q : Int) < (x.length : Int) := by omega
              have f5 : (0 : Int) ≤ (i : Int) := by omega
              have f6 : (i : Int) < (s.length : Int) := by have := HLN.out; omega
              have f7 : (0 : Int) ≤ (k : Int) := by omega
              have f8 : (k : Int) < (es.length : Int) := by omega
              have hol : s.length ≤ 1048576 := by omega
              have HCT : Hid (∀ b n, decide ((((mul x p q : Nat) : Int)) ∈ s) = b → Calls Try.prog 71 #[.slice (some ⟨og, 0, none⟩) s.length oc, .int .i64 ((mul x p q : Nat) : Int)] (wr.drewN n) fun e w' => e = .returned (.bool b) ∧ wr.drewN n = w') := fun b n hb2 => by
                have := l00Has_any _ s ((mul x p q : Nat) : Int) (wr.drewN n) (OK.read (OK.later ho (below_drewN (Below.refl _ _) n))) hol
                rw [hb2] at this; exact this
              have HOW : Hid (∀ n, OI w1.heap.size (wr.drewN n) (.slice (some ⟨og, 0, none⟩) s.length oc) s ∧ Below w1.heap.size w1 (wr.drewN n)) := fun n => ⟨OK.later ho (below_drewN (Below.refl _ _) n), below_drewN hb n⟩
              have HMO : Hid ((((mul x p q : Nat) : Int)) ∈ s → PassR x es s0 s g i (k + 1)) := fun hm2 => ⟨HPS.out.set, HPS.out.le, fun h => ⟨(HPS.out.no h).1, (HPS.out.no h).2.1, (HPS.out.no h).2.2.more (by rw [HPR.out]; exact hm2)⟩, HPS.out.yes⟩
              have HAP : Hid (∀ l, ¬ (((mul x p q : Nat) : Int)) ∈ s → Put s ((mul x p q : Nat) : Int) l → i < l.length ∧ PassR x es s0 l true i (k + 1)) := fun l hn hpt => by
                have hl := hpt.len
                refine ⟨by have := HLN.out; omega, HPS.out.set.put HRC.out hpt, by have := HLN.out; omega, fun h => (by cases h), fun _ => ?_⟩
                cases hg : g
                · have := (HPS.out.no hg).1; rw [← this]; omega
                · have := HPS.out.yes hg; omega
              have HPUT : Hid (∀ n, ¬ (((mul x p q : Nat) : Int)) ∈ s → Calls Try.prog 72 #[.slice (some ⟨og, 0, none⟩) s.length oc, .int .i64 ((mul x p q : Nat) : Int)] (wr.drewN n) fun e w' => ∃ v' l, e = .returned v' ∧ Put s ((mul x p q : Nat) : Int) l ∧ OI (wr.drewN n).heap.size w' v' l ∧ Below (wr.drewN n).heap.size (wr.drewN n) w') := fun n hn =>
                l00Put_any _ s _ (wr.drewN n) (OK.read (OK.later ho (below_drewN (Below.refl _ _) n))) HPS.out.set.inc hn hol
              clear hmul hp ep eq ho
              generalize mul x p q = m at *
              by_cases hm2 : ((m : Nat) : Int) ∈ s
              · have HC2 := Lib.hid fun n => HCT.out true n (decide_eq_true hm2)
                have HP2 := Lib.hid (HMO.out hm2)
                clear hm2 HCT HMO HAP HRC HPUT
                go_wp2_with fail
                go_quiet (fail)
                go_wp2_with (go_at_call 71; refine (HC2.out _).mono ?_; rintro e w' ⟨rfl, rfl⟩)
                obtain ⟨ho5, hb5⟩ := HOW.out nq
                go_roundg (11 - (k + 1))
                case measure => have := HGK3.out; omega
                case rel => exact ⟨k + 1, s, g, by omega, rfl, by go_num, rfl, HLN, HP2, ho5, hb5⟩
              · have HC2 := Lib.hid fun n => HCT.out false n (decide_eq_false hm2)
                have HPU := Lib.hid fun n => HPUT.out n hm2
                have HP2 := Lib.hid fun l => HAP.out l hm2
                clear hm2 HCT HMO HAP HRC HPUT
                go_wp2_with fail
                go_quiet (fail)
                obtain ⟨_, hb5⟩ := HOW.out nq
                go_wp2_with (first | (go_at_call 71; refine (HC2.out _).mono ?_; rintro e w' ⟨rfl, rfl⟩) | (go_at_call 72; refine (HPU.out _).mono ?_; rintro e w5 ⟨v5, l, rfl, hpt, ho6, hb6⟩))
                obtain ⟨hl2, hp2⟩ := HP2.out l hpt
                go_roundg (11 - (k + 1))
                case measure => have := HGK3.out; omega
                case rel => exact ⟨k + 1, l, true, by omega, rfl, by go_num, rfl, hl2, hp2, ho6.mono hb5.size, hb5.trans (hb6.mono hb5.size)⟩
            · have HP2 : Hid (PassR x es s0 s g (i + 1) 0) := ⟨HPS.out.set, by have := HLN.out; omega, fun h => ⟨(HPS.out.no h).1, (HPS.out.no h).2.1.more (by rw [show es.length = k by omega]; exact (HPS.out.no h).2.2), fun k hk => by omega⟩, HPS.out.yes⟩
              have hil := HLN.out
              go_wp2_with fail
              go_roundg (11 - (i + 1))
              case measure => have := HGK2.out; omega
              case rel => exact ⟨i + 1, s, g, rfl, by go_num, rfl, HP2, ho, hb⟩
        · have HIL : Hid (i = s.length) := by have := HPS.out.le; unfold Hid; omega
          have HDD : Hid (g = false → Dn x es s s.length) := fun h => by rw [← HIL.out]; exact (HPS.out.no h).2.1
          have HLT : Hid (∀ M, M = 2 * (10 - s0.length) + (if true = true then 1 else 0) → 2 * (10 - s.length) + (if g then 1 else 0) < M) := fun M hM => by
            rw [if_pos rfl] at hM
            cases hg : g
            · have := (HPS.out.no hg).1; subst this; simp; omega
            · have := HPS.out.yes hg; simp; omega
          have HSS := Lib.hid HPS.out.set
          obtain ⟨oa, oc, rfl⟩ := ho.slice
          go_wp2_with fail
          go_roundg (2 * (10 - s.length) + (if g then 1 else 0))
          case measure => exact HLT.out _ HGK.out
          case rel => exact ⟨s, g, rfl, rfl, HSS, HDD, ho, hb⟩
theorem specSg_any (v ev : Value) (x : List (List Int)) (es cs : List Int) (w : World) (hx : RT w v x) (hm : x.length ≤ 1048576) (hr : Small x) (he : RI w ev es) (hle : es.length ≤ 1048576) (hcs : sgB x es = true → SubP x es cs) :
    Calls Try.prog 36 #[.agg #[v], ev] w (SgPost x es cs w) := by
  cases h1 : grpB x
  · exact ss_g v ev x es cs w hx hm hr he hle h1
  by_cases h2 : (es.length : Int) ≤ 10
  · cases h3 : rowB x.length es
    · exact ss_e v ev x es cs w hx hm hr he hle h1 h2 h3
    · exact ss_y v ev x es cs w hx hm hr he hle h1 h2 h3 (hcs (by unfold sgB esB; rw [h1, h3, decide_eq_true (by omega)]; rfl))
  · exact ss_l v ev x es cs w hx hm hr he hle h1 h2
end Go.Proofs.Ytghmpaegmicheaa
