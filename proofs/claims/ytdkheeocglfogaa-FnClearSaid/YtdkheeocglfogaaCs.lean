/- ClearSymbols: the program's and the reference's, and the law. -/
import Derived.Test.YtdkheeocglfogaaGrw
import Derived.Test.YtdkheeocglfogaaBst
import Derived.Test.YtdkheeocglfogaaFoldL
import Derived.Laws.EntriesVeiled
namespace Go.Proofs.Ytdkheeocglfogaa
open Go.RowKit

def csL (s : ByteArray) (l : List ByteArray) : List Nat := gro (lk s l) s.size s.size [] []
theorem csL_asc (s : ByteArray) (l : List ByteArray) : Asc s.size (csL s l) := gro_asc _ _ _ _ _ (Nat.le_refl _) (Asc.nil _) (Asc.nil _)
def csP (s : ByteArray) (l : List ByteArray) (j : Nat) : Bool := decide (j ∈ csL s l)
noncomputable def csV (s : ByteArray) (l : List ByteArray) : Value := if vlB s l then .tuple #[.string (ctx s (csP s l)), .bool true] else .tuple #[.string ByteArray.empty, .bool false]
theorem csV_yes {s : ByteArray} {l : List ByteArray} (h : vlB s l = true) : csV s l = .tuple #[.string (ctx s (csP s l)), .bool true] := by unfold csV; rw [h]; rfl
theorem csV_no {s : ByteArray} {l : List ByteArray} (h : vlB s l = false) : csV s l = .tuple #[.string ByteArray.empty, .bool false] := by unfold csV; rw [h]; rfl
theorem csV_shape (s : ByteArray) (l : List ByteArray) : ∃ (x : ByteArray) (c : Bool), csV s l = .tuple #[.string x, .bool c] := by
  unfold csV; split <;> exact ⟨_, _, rfl⟩
theorem cs_ctx {s q : ByteArray} {l : List ByteArray} (h : bz q = (csL s l).map (bI s)) : q = ctx s (csP s l) := by
  refine ctx_of (h.trans ?_)
  unfold ctB
  have := (csL_asc s l).filter
  unfold csP
  rw [this]; rfl
set_option maxHeartbeats 1000000 in
theorem specCs_any (s : ByteArray) (v : Value) (l : List ByteArray) (w : World) (hx : RS w v l) (hs : s.size ≤ 1048576) (hm : l.length ≤ 1048576) :
    Calls Try.prog 19 #[.agg #[.string s, v]] w fun e w' => e = .returned (csV s l) ∧ Below w.heap.size w w' := by
  obtain ⟨a, c, rfl⟩ := hx.slice
  have hb : Below w.heap.size w (w.alloc (.cells #[.string s, .slice a l.length c] 27)) := (Below.refl _ _).alloc (Nat.le_refl _) _
  have hbx : LX w.heap.size s (.slice a l.length c) (w.alloc (.cells #[.string s, .slice a l.length c] 27)) := ⟨World.cell?_alloc_at _ _ _ _ rfl, World.cell?_alloc_at _ _ _ _ rfl⟩
  have hx1 := hx.later hb
  have HC := Lib.hid (l07Is_any s _ l _ _ hbx hx1 hs hm)
  cases hv : vlB s l
  · have HV := Lib.hid (csV_no hv)
    rw [hv] at HC
    clear hv
    go_enter Try.func19, Try.ntmps19
    go_wp2_with fail
    refine (HC.out).mono ?_
    rintro e w1 ⟨rfl, hd⟩
    have hb1 := hd.below
    go_wp2_with fail
    go_ret2
    rw [HV.out]
    exact ⟨rfl, hb.trans (hb1.mono hb.size)⟩
  · have HV := Lib.hid (csV_yes hv)
    obtain ⟨hs1, hd, h2, _⟩ := vl_facts hv
    have HD := Lib.hid hd
    have H2 := Lib.hid h2
    rw [hv] at HC
    clear hv hd h2
    go_enter Try.func19, Try.ntmps19
    go_wp2_with fail
    refine (HC.out).mono ?_
    rintro e w1 ⟨rfl, hd⟩
    have hb1 := hd.below
    replace hbx := hbx.later hb1
    replace hx1 := hx1.later hb1
    replace hb := hb.trans (hb1.mono hb.size)
    clear hd HC
    have HBS : Hid (Calls Try.prog 46 #[.pointer (some ⟨w.heap.size, 0, none⟩), .int .i64 0, .string ⟨#[]⟩, .string ⟨#[]⟩] w1 (BPost s (csL s l) w1)) := l07Best_any _ s _ l w1 hbx hx1 hm hs1.2 H2 s.size 0 [] [] ⟨#[]⟩ ⟨#[]⟩ w1 (by omega) (Asc.nil _) (Asc.nil _) rfl rfl (Below.refl _ _)
    go_wp2_with fail
    refine HBS.out.mono ?_
    rintro e w2 ⟨q, rfl, hq, hb2⟩
    go_wp2_with fail
    go_ret2
    rw [HV.out, ← cs_ctx hq]
    exact ⟨rfl, hb.trans (hb2.mono hb.size)⟩
structure CS0 (w2 : World) (lv nv : Value) (w5 : World) : Prop where
  below : Below w2.heap.size w2 w5
  cL : w5.cell? ⟨w2.heap.size, 0, none⟩ = some lv
  cB : w5.cell? ⟨w2.heap.size + 1, 0, none⟩ = some (.int .u64 0)
  cW : w5.cell? ⟨w2.heap.size + 1 + 1, 0, none⟩ = some nv
  fB : w5.frozen? ⟨w2.heap.size + 1, 0, none⟩ = false
  fW : w5.frozen? ⟨w2.heap.size + 1 + 1, 0, none⟩ = false
theorem CS0.start (w2 : World) (lv nv : Value) (T1 T2 T3 : TypeId) : CS0 w2 lv nv (((w2.alloc (.cells #[lv] T1)).alloc (.cells #[.int .u64 0] T2)).alloc (.cells #[nv] T3)) := by
  have hb1 : Below w2.heap.size w2 (w2.alloc (.cells #[lv] T1)) := (Below.refl _ _).alloc (Nat.le_refl _) _
  have z1 : (w2.alloc (.cells #[lv] T1)).heap.size = w2.heap.size + 1 := by simp
  have c1 : (w2.alloc (.cells #[lv] T1)).cell? ⟨w2.heap.size, 0, none⟩ = some lv := World.cell?_alloc_at _ _ _ _ rfl
  generalize w2.alloc (.cells #[lv] T1) = w3 at *
  have hb2 : Below w3.heap.size w3 (w3.alloc (.cells #[.int .u64 0] T2)) := (Below.refl _ _).alloc (Nat.le_refl _) _
  have z2 : (w3.alloc (.cells #[.int .u64 0] T2)).heap.size = w3.heap.size + 1 := by simp
  have c2 : (w3.alloc (.cells #[.int .u64 0] T2)).cell? ⟨w2.heap.size + 1, 0, none⟩ = some (.int .u64 0) := World.cell?_alloc_at _ _ _ _ z1.symm
  have h2 : (w3.alloc (.cells #[.int .u64 0] T2)).heap[w2.heap.size + 1]? = some (.cells #[.int .u64 0] T2 (0, 0)) := by rw [← z1]; show (Array.push _ _)[_]? = _; exact Array.getElem?_push_size
  generalize w3.alloc (.cells #[.int .u64 0] T2) = w4 at *
  have hb3 : Below w4.heap.size w4 (w4.alloc (.cells #[nv] T3)) := (Below.refl _ _).alloc (Nat.le_refl _) _
  have c3 : (w4.alloc (.cells #[nv] T3)).cell? ⟨w2.heap.size + 1 + 1, 0, none⟩ = some nv := World.cell?_alloc_at _ _ _ _ (by rw [z2, z1])
  have h3 : (w4.alloc (.cells #[nv] T3)).heap[w2.heap.size + 1 + 1]? = some (.cells #[nv] T3 (0, 0)) := by rw [← z1, ← z2]; show (Array.push _ _)[_]? = _; exact Array.getElem?_push_size
  have h4 := (hb3.block (w2.heap.size + 1) (by omega)).trans h2
  have d1 := (hb2.cell (p := ⟨w2.heap.size, 0, none⟩) (by show w2.heap.size < _; omega)).trans c1
  exact ⟨hb1.trans ((hb2.trans (hb3.mono hb2.size)).mono hb1.size), (hb3.cell (p := ⟨w2.heap.size, 0, none⟩) (by show w2.heap.size < _; omega)).trans d1, (hb3.cell (p := ⟨w2.heap.size + 1, 0, none⟩) (by show w2.heap.size + 1 < _; omega)).trans c2, c3, frozen_of_row _ _ _ _ _ h4, frozen_of_row _ _ _ _ _ h3⟩
theorem CS0.cw {w2 w5 : World} {lv nv : Value} (h : CS0 w2 lv nv w5) (fv : Value) : CW w2 w2.heap.size (w2.heap.size + 1) (w2.heap.size + 1 + 1) lv fv (w5.setCell ⟨w2.heap.size + 1 + 1, 0, none⟩ fv) 0 :=
  ⟨h.below.setCell (p := ⟨w2.heap.size + 1 + 1, 0, none⟩) (show w2.heap.size ≤ w2.heap.size + 1 + 1 by omega) _, (cell_other w5 _ (by omega)).trans h.cL, World.cell?_setCell_same _ _ _ h.cW, (cell_other w5 _ (by omega)).trans h.cB, (World.frozen?_setCell _ _ _ _).trans h.fB, by omega, by omega, by omega⟩
theorem grow_start {Wa w6 : World} {La Pb Pw : Nat} (s : ByteArray) (l : List ByteArray) {a : Option Addr} {c : Nat} (hs : s.size ≤ 18) (hr : RU Wa (.slice a s.size c) (lkL s l))
    (h : CW Wa La Pb Pw (.slice a s.size c) (.func (.func 48) #[] #[.pointer (some ⟨La, 0, none⟩), .pointer (some ⟨Pb, 0, none⟩), .pointer (some ⟨Pw, 0, none⟩)]) w6 0) :
    Calls Try.prog 48 #[.int .i64 0, .int .u64 0, .pointer (some ⟨La, 0, none⟩), .pointer (some ⟨Pb, 0, none⟩), .pointer (some ⟨Pw, 0, none⟩)] w6 (CPost Wa La Pb Pw (.slice a s.size c) (.func (.func 48) #[] #[.pointer (some ⟨La, 0, none⟩), .pointer (some ⟨Pb, 0, none⟩), .pointer (some ⟨Pw, 0, none⟩)]) (mt s.size (csL s l))) := by
  have := grow_any Wa La Pb Pw s l a c hs hr _ (Lib.hid rfl) s.size 0 [] [] w6 (by omega) (Asc.nil _) (Asc.nil _) (by rw [mt_nil]; exact h)
  rw [mt_nil] at this
  exact this
set_option maxRecDepth 100000 in
set_option maxHeartbeats 4000000 in
theorem implCs_any (s : ByteArray) (v : Value) (l : List ByteArray) (w : World) (hx : RS w v l) (hs : s.size ≤ 1048576) (hm : l.length ≤ 1048576) :
    Calls Try.prog 20 #[.agg #[.string s, v]] w fun e w' => e = .returned (csV s l) ∧ Below w.heap.size w w' := by
  obtain ⟨a, c, rfl⟩ := hx.slice
  have hmf : ∀ (fn : Fn) (first cap : Array Value) (w : World), (Instr.makeFunc fn first cap).run Try.prog w = .ok (.func fn first cap) w := fun _ _ _ _ => rfl
  have hb : Below w.heap.size w (w.alloc (.cells #[.string s, .slice a l.length c] 27)) := (Below.refl _ _).alloc (Nat.le_refl _) _
  have hbx : LX w.heap.size s (.slice a l.length c) (w.alloc (.cells #[.string s, .slice a l.length c] 27)) := ⟨World.cell?_alloc_at _ _ _ _ rfl, World.cell?_alloc_at _ _ _ _ rfl⟩
  have hx1 := hx.later hb
  have c0 := hbx.c0
  have c1 := hbx.c1
  cases hv : vlB s l
  · have HV := Lib.hid (csV_no hv)
    have HC : Hid (∀ wx, RS wx (.slice a l.length c) l → Calls Try.prog 13 #[.agg #[.string s, .slice a l.length c]] wx fun e w' => e = .returned (.bool false) ∧ Below wx.heap.size wx w') := fun wx h => by
      rw [← hv]; exact implVL_any s _ l wx h hs hm
    clear hv
    go_enter Try.func20, Try.ntmps20
    go_wp2_with fail
    generalize w.alloc (.cells #[.string s, .slice a l.length c] 27) = w0 at *
    refine (HC.out _ hx1).mono ?_
    rintro e w1 ⟨rfl, hb1⟩
    go_wp2_with fail
    go_ret2
    rw [HV.out]
    exact ⟨rfl, hb.trans (hb1.mono hb.size)⟩
  · have HV := Lib.hid (csV_yes hv)
    obtain ⟨hs1, _, h2, _⟩ := vl_facts hv
    have HC : Hid (∀ wx, RS wx (.slice a l.length c) l → Calls Try.prog 13 #[.agg #[.string s, .slice a l.length c]] wx fun e w' => e = .returned (.bool true) ∧ Below wx.heap.size wx w') := fun wx h => by
      rw [← hv]; exact implVL_any s _ l wx h hs hm
    clear hv h2
    go_enter Try.func20, Try.ntmps20
    go_wp2_with fail
    generalize w.alloc (.cells #[.string s, .slice a l.length c] 27) = w0 at *
    refine (HC.out _ hx1).mono ?_
    rintro e w1 ⟨rfl, hb1⟩
    replace hbx := hbx.later hb1
    replace hx1 := hx1.later hb1
    replace hb := hb.trans (hb1.mono hb.size)
    clear c0 c1 hb1
    go_wp2_with fail
    refine (likes_any _ s _ l _ hbx hx1 hm hs1.2).mono ?_
    rintro e w2 ⟨ka, kc, rfl, hk, hb2⟩
    replace hbx := hbx.later hb2
    replace hb := hb.trans (hb2.mono hb.size)
    have hku := hk.read
    have hlw := hbx.lt
    clear hk hb2 hx1 HC
    have HS0 := Lib.hid (CS0.start w2 (.slice ka s.size kc) .nilFunc 61 63 64)
    go_upto_region 5 with fail
    generalize ((w2.alloc (.cells #[.slice ka s.size kc] 61)).alloc (.cells #[.int .u64 0] 63)).alloc (.cells #[.nilFunc] 64) = w5 at *
    have e1 := HS0.out.cW
    have e2 := HS0.out.fW
    have HCW := Lib.hid (HS0.out.cw (.func (.func 48) #[] #[.pointer (some ⟨w2.heap.size, 0, none⟩), .pointer (some ⟨w2.heap.size + 1, 0, none⟩), .pointer (some ⟨w2.heap.size + 1 + 1, 0, none⟩)]))
    have e3 := HCW.out.self
    have HG2 := Lib.hid (grow_start _ _ hs1.2 hku HCW.out)
    clear HS0
    go_wp2_with fail
    refine HG2.out.mono ?_
    rintro e w6 ⟨rfl, h6⟩
    have hb6 := h6.below
    replace hbx := hbx.later hb6
    replace hb := hb.trans (hb6.mono hb.size)
    have HC : Hid (∀ wr, Below w6.heap.size w6 wr → wr.cell? ⟨w.heap.size, 0, none⟩ = some (.string s) ∧ wr.cell? ⟨w2.heap.size + 1, 0, none⟩ = some (.int .u64 (msk s.size (csP s l) : Nat))) := fun wr h => ⟨(hbx.later h).c0, (h6.later h).best⟩
    have hb7 : Below w6.heap.size w6 (w6.alloc (.cells #[] 5)) := (Below.refl _ _).alloc (Nat.le_refl _) _
    have ho : OB w6.heap.size (w6.alloc (.cells #[] 5)) (.slice (some ⟨w6.heap.size, 0, none⟩) 0 0) (ctB s 0 (csP s l)) := OK.made _ _ _ (Nat.le_refl _)
    obtain ⟨c0, c1⟩ := HC.out _ hb7
    have HBT : Hid (∀ j, j < s.size → (bits .and .u64 ((msk s.size (csP s l) : Int) / 2 ^ j) 1 == 1) = csP s l j) := fun j hj => bit_test hs1.2 _ hj
    have HCT : Hid (strOfNums (ctB s s.size (csP s l)) = ctx s (csP s l)) := rfl
    generalize csP s l = P at *
    generalize msk s.size P = mP at *
    clear HCW HG2 e1 e2 e3 hb6 h6
    go_wp2_with fail
    clear c0 c1
    generalize w6.alloc (.cells #[] 5) = w7 at *
    generalize Value.slice (some ⟨w6.heap.size, 0, none⟩) 0 0 = v0 at *
    go_loopw [7, 20] (fun ov iv wr => ∃ k : Nat, k ≤ s.size ∧ iv = .int .i64 k ∧ OB w6.heap.size wr ov (ctB s k P) ∧ Below w6.heap.size w6 wr) (fun _ iv _ => s.size - (intOf iv).toNat)
    case atStart => exact ⟨0, Nat.zero_le _, rfl, ho, hb7⟩
    case round =>
      clear ho hb7
      obtain ⟨k, hk, rfl, ho, hbr⟩ := hrel
      obtain ⟨c0, c1⟩ := HC.out _ hbr
      by_cases hkl : k < s.size
      · have hbt := HBT.out k hkl
        have HCB := Lib.hid (ctB_succ s k P)
        cases hp : P k
        · rw [hp] at hbt HCB
          clear hp
          go_wp2_with fail
          go_roundw
          case rel => exact ⟨k + 1, by omega, by go_num, by rw [HCB.out]; exact ho, hbr⟩
          case measure => first | (simp [intOf]; done) | (simp [intOf]; omega)
        · rw [hp] at hbt HCB
          clear hp
          have hcl : (ctB s k P).length ≤ 1099511627776 := by have := ctB_len s k P; omega
          have hsz := hbr.size
          have HBG := Lib.hid (bAt_get s k hkl)
          have f1 : (k : Int) < (s.size : Int) := by omega
          go_wp2_with (at_builtin; refine wpl_app_u8 rfl _ _ rfl w6.heap.size _ _ rfl (OK.alloc ho _) _ _ _ rfl (World.cell?_alloc_at _ _ _ _ rfl) hcl (by simp; omega) ?_; intro v' w8 ho8 hgr)
          have hbs : Below w6.heap.size w6 w8 := own_below (hbr.alloc hsz _) (OK.alloc ho _) hgr (by simp; omega)
          go_roundw
          case rel => exact ⟨k + 1, by omega, by go_num, by rw [HCB.out, if_pos rfl, HBG.out]; exact ho8, hbs⟩
          case measure => first | (simp [intOf]; done) | (simp [intOf]; omega)
      · obtain rfl : k = s.size := by omega
        have hst := ho.str
        rw [HCT.out] at hst
        go_wp2_with fail
        go_ret2
        rw [HV.out]
        exact ⟨rfl, hb.trans (hbr.mono hb.size)⟩
set_option maxRecDepth 100000 in
set_option maxHeartbeats 4000000 in
theorem lawClearSymbols_any (s : ByteArray) (v : Value) (l : List ByteArray) (w : World) (h1 : s.size ≤ maxLen) (hx : RSM w v l) :
    Calls Try.prog 6 #[.agg #[.string s, v]] w fun e w' => e = .returned (.bool true) ∧ Below w.heap.size w w' := by
  obtain ⟨hx, hml, hzl⟩ := hx
  obtain ⟨a, c, rfl⟩ := hx.slice
  have hb : Below w.heap.size w (w.alloc (.cells #[.string s, .slice a l.length c] 24)) := (Below.refl _ _).alloc (Nat.le_refl _) _
  have hbx : LX w.heap.size s (.slice a l.length c) (w.alloc (.cells #[.string s, .slice a l.length c] 24)) := ⟨World.cell?_alloc_at _ _ _ _ rfl, World.cell?_alloc_at _ _ _ _ rfl⟩
  replace hx := hx.later hb
  have c0 := hbx.c0
  have c1 := hbx.c1
  by_cases hs : s.size + (l.length + szS l) ≤ 1048576
  · have hm : l.length ≤ 1048576 := by omega
    have hs1 : s.size ≤ 1048576 := by omega
    obtain ⟨rs, rb, hV⟩ : ∃ (rs : ByteArray) (rb : Bool), csV s l = .tuple #[.string rs, .bool rb] := csV_shape _ _
    have HI : Hid (∀ w1 v1, RS w1 v1 l → Calls Try.prog 20 #[.agg #[.string s, v1]] w1 fun e w' => e = .returned (.tuple #[.string rs, .bool rb]) ∧ Below w1.heap.size w1 w') := fun w1 v1 h => by rw [← hV]; exact implCs_any s v1 l w1 h hs1 hm
    have HP : Hid (∀ w1 v1, RS w1 v1 l → Calls Try.prog 19 #[.agg #[.string s, v1]] w1 fun e w' => e = .returned (.tuple #[.string rs, .bool rb]) ∧ Below w1.heap.size w1 w') := fun w1 v1 h => by rw [← hV]; exact specCs_any s v1 l w1 h hs1 hm
    clear hV
    have e0 := str_eq rs
    have HS := Lib.hid hs
    clear hs hzl hml h1
    go_enter Try.func6, Try.ntmps6
    go_wp2_with fail
    generalize w.alloc (.cells #[.string s, .slice a l.length c] 24) = w0 at *
    refine (szLikeness_yes s _ l _ hx HS.out).mono ?_
    rintro e w1 ⟨n, rfl, hn, hb1⟩
    replace hbx := hbx.later hb1
    replace hx := hx.later hb1
    replace hb := hb.trans (hb1.mono hb.size)
    clear hb1
    have c0 := hbx.c0
    have c1 := hbx.c1
    go_wp2_with fail
    refine (toLikeness_any s _ l _ hx hm).mono ?_
    rintro e w2 ⟨u2, rfl, o2, hb1⟩
    replace hbx := hbx.later hb1
    replace hx := hx.later hb1
    replace hb := hb.trans (hb1.mono hb.size)
    clear hb1
    have c0 := hbx.c0
    have c1 := hbx.c1
    go_wp2_with fail
    refine (HP.out _ _ o2.read).mono ?_
    rintro e w3 ⟨rfl, hb1⟩
    replace hbx := hbx.later hb1
    replace hx := hx.later hb1
    replace hb := hb.trans (hb1.mono hb.size)
    clear hb1
    clear o2
    have c0 := hbx.c0
    have c1 := hbx.c1
    go_wp2_with fail
    refine (toLikeness_any s _ l _ hx hm).mono ?_
    rintro e w4 ⟨u4, rfl, ox, hb1⟩
    replace hbx := hbx.later hb1
    replace hx := hx.later hb1
    replace hb := hb.trans (hb1.mono hb.size)
    clear hb1
    have c0 := hbx.c0
    have c1 := hbx.c1
    have ox := ox.read
    obtain ⟨ua, uc, rfl⟩ := ox.slice
    go_wp2_with fail
    have hbX : LX w4.heap.size s (.slice ua l.length uc) (w4.alloc (.cells #[.string s, .slice ua l.length uc] 27)) := ⟨World.cell?_alloc_at _ _ _ _ rfl, World.cell?_alloc_at _ _ _ _ rfl⟩
    have hb1 : Below w4.heap.size w4 (w4.alloc (.cells #[.string s, .slice ua l.length uc] 27)) := (Below.refl _ _).alloc (Nat.le_refl _) _
    replace ox := ox.later hb1
    replace hbx := hbx.later hb1
    replace hx := hx.later hb1
    replace hb := hb.trans (hb1.mono hb.size)
    clear hb1
    generalize w4.alloc (.cells #[.string s, .slice ua l.length uc] 27) = w5 at *
    generalize w4.heap.size = X at *
    refine (HI.out _ _ ox).mono ?_
    rintro e w6 ⟨rfl, hb1⟩
    replace hbx := hbx.later hb1
    replace hbX := hbX.later hb1
    replace hx := hx.later hb1
    replace ox := ox.later hb1
    replace hb := hb.trans (hb1.mono hb.size)
    clear hb1
    have c0 := hbx.c0
    have c1 := hbx.c1
    have d0 := hbX.c0
    have d1 := hbX.c1
    go_wp2_with fail
    have hb1 : Below w6.heap.size w6 w6.drew := (Below.refl _ _).drew
    replace hb := hb.drew
    replace hx := hx.later hb1
    replace ox := ox.later hb1
    replace hbX := hbX.later hb1
    replace hbx := hbx.later hb1
    clear hb1
    go_region_held3 (fun w' => (w'.cell? ⟨X, 0, none⟩ = some (.string s) ∧ w'.cell? ⟨X, 1, none⟩ = some (.slice ua l.length uc)) ∧ w'.cell? ⟨w.heap.size, 0, none⟩ = some (.string s) ∧ w'.cell? ⟨w.heap.size, 1, none⟩ = some (.slice a l.length c)) (exact ⟨⟨hbX.c0, hbX.c1⟩, hbx.c0, hbx.c1⟩)
      (first
        | (go_at_call 12; refine (toLikeness_any s _ l _ hx hm).mono ?_; rintro e w7 ⟨u7, rfl, o7, hb1⟩; replace hbX := hbX.later hb1; replace hbx := hbx.later hb1; replace ox := ox.later hb1; replace hb := hb.trans (hb1.mono hb.size))
        | (go_at_call 14; refine (eqLikeness_yes s _ _ l _ ox o7.read hm).mono ?_; rintro e w8 ⟨rfl, hb2⟩; replace hbX := hbX.later hb2; replace hbx := hbx.later hb2; replace hb := hb.trans (hb2.mono hb.size)))
    go_wp2_with fail
    go_ret
    exact ⟨rfl, hb⟩
  · go_enter Try.func6, Try.ntmps6
    go_wp2_with fail
    generalize w.alloc (.cells #[.string s, .slice a l.length c] 24) = w0 at *
    refine (szLikeness_no s _ l _ hx h1 hml hzl hs).mono ?_
    rintro e w1 ⟨rfl, hb1⟩
    go_wp2_with fail
    go_ret
    exact ⟨rfl, hb.trans (hb1.mono hb.size)⟩
end Go.Proofs.Ytdkheeocglfogaa
