/- FnRenamed: TableText, and its text read back. -/
import Derived.Test.YthcnhkjiojeemaaDoorRnZ
import Derived.Test.YthcnhkjiojeemaaDoorRtP
import Derived.Test.YthcnhkjiojeemaaDoorShJoin
namespace Go.Proofs.YthcnhkjiojeemaaDoor
open Go.RowKit

theorem cutG_skip : ∀ (x p r : List UInt8), (∀ c, c ∈ x → c ≠ 47) → cutG p (x ++ r) = cutG (p ++ x) r
  | [], p, r, _ => by simp
  | c :: x, p, r, h => by
    rw [List.cons_append, cutG_char p _ (h c (by simp)), cutG_skip x (p ++ [c]) r fun d hd => h d (by simp [hd])]
    simp
theorem cutG_of : ∀ (ps : List (List UInt8)), ps ≠ [] → (∀ x, x ∈ ps → ∀ c, c ∈ x → c ≠ 47) → cutG [] (Lib.join ps [47]) = ps
  | [], h, _ => absurd rfl h
  | [x], _, h => by
    have := cutG_skip x [] [] (h x (by simp))
    simp only [List.append_nil, List.nil_append] at this
    show cutG [] (Lib.join [x] [47]) = [x]
    rw [show Lib.join [x] [47] = x by simp [Lib.join, List.intercalate], this]
    rfl
  | x :: y :: l, _, h => by
    rw [join_cons x (by simp), cutG_skip x [] _ (h x (by simp)), List.nil_append, cutG_dash _ _ rfl, cutG_of (y :: l) (by simp) fun z hz => h z (by simp [hz])]
theorem dgs_wOfT {xs : List Int} (hx : ∀ z ∈ xs, 0 ≤ z ∧ z ≤ 35) : dgs (wOf xs) = xs := by
  unfold dgs
  rw [wOf_bz hx, List.map_map]
  conv => rhs; rw [← List.map_id xs]
  exact List.map_congr_left fun z hz => dg_sy (hx z hz)
theorem wOf_mark {xs : List Int} (hx : ∀ z ∈ xs, 0 ≤ z ∧ z ≤ 35) : ∀ c, c ∈ (wOf xs).data.toList → c ≠ 47 := fun c hc e => by
  have h1 : ((c.toNat : Nat) : Int) ∈ bz (wOf xs) := by
    unfold bz
    exact List.mem_map.2 ⟨c, hc, rfl⟩
  rw [wOf_bz hx] at h1
  obtain ⟨d, hd, h2⟩ := List.mem_map.1 h1
  have := sy_in (hx d hd)
  subst e
  have h3 : ((47 : UInt8).toNat : Int) = 47 := rfl
  omega
/-- The text of a table, read back, is the table. -/
theorem rdT_txT (x : List (List Int)) (h0 : x ≠ []) (hx : ∀ r ∈ x, ∀ z ∈ r, 0 ≤ z ∧ z ≤ 35) : rdT (txT x x.length) = x := by
  have h1 : (cutS (txT x x.length)).map (·.data.toList) = x.map fun r => (wOf r).data.toList := by
    rw [cutS_data, txT_data, List.take_length]
    refine cutG_of _ (by simpa using h0) fun p hp c hc => ?_
    obtain ⟨r, hr, rfl⟩ := List.mem_map.1 hp
    exact wOf_mark (hx r hr) c hc
  have h2 : cutS (txT x x.length) = x.map wOf := by
    apply List.ext_getElem
    · have := congrArg List.length h1
      simpa using this
    · intro i ha hb
      have := congrArg (fun l => l[i]?) h1
      simp only [List.getElem?_map, List.getElem?_eq_getElem ha] at this
      have hb' : i < x.length := by simpa using hb
      rw [List.getElem?_eq_getElem hb'] at this
      simp only [Option.map_some, Option.some.injEq] at this
      rw [List.getElem_map]
      exact ba_ext this
  unfold rdT
  rw [h2, List.map_map]
  conv => rhs; rw [← List.map_id x]
  exact List.map_congr_left fun r hr => dgs_wOfT (hx r hr)
theorem joinTt (x : List (List Int)) (bk o c : Nat) (w : World) (h0 : 0 < x.length) (h1 : x.length ≤ 36) (h2 : ∀ i, i < x.length → (rowAt x i).length ≤ 36) (h : RS w (.slice (some ⟨bk, o, none⟩) x.length c) (x.map wOf)) :
    Calls Tryd.prog 37 #[.slice (some ⟨bk, o, none⟩) x.length c, .string ⟨#[47]⟩] w fun e w' => e = .returned (.string (txT x x.length)) ∧ Below w.heap.size w w' := by
  have hs := txT_len x (Nat.le_refl _) h2
  have hm : (x.map wOf).map (·.data.toList) = x.map fun r => (wOf r).data.toList := by rw [List.map_map]; rfl
  have hj : Lib.join ((x.map wOf).map (·.data.toList)) [47] = (txT x x.length).data.toList := by rw [txT_data, List.take_length, hm]
  have hjl : (Lib.join ((x.map wOf).map (·.data.toList)) [47]).length = (txT x x.length).size := by rw [hj]; simp
  obtain ⟨g, off, e1, e2, _⟩ := h.at 0 (by rw [List.length_map]; omega)
  have hcap := h.cap
  rw [List.length_map] at hcap
  have := sh_strings_Join bk o c (x.map wOf) ⟨#[47]⟩ w (fun j z hz => by
    have hj : j < (x.map wOf).length := by
      rcases Nat.lt_or_ge j (x.map wOf).length with h | h
      · exact h
      · rw [List.getElem?_eq_none h] at hz; simp at hz
    obtain ⟨g', off', e3, _, e4⟩ := h.at j hj
    simp only [Option.some.injEq, Addr.mk.injEq, and_true] at e3
    obtain ⟨rfl, rfl⟩ := e3
    rw [e4]
    rw [List.getElem?_eq_getElem hj] at hz
    simp only [Option.some.injEq] at hz
    rw [← hz]
    unfold sAt
    rw [List.getD_eq_getElem?_getD, List.getElem?_eq_getElem hj]
    rfl) (by
    simp only [Option.some.injEq, Addr.mk.injEq, and_true] at e1
    omega) (by rw [List.length_map]; omega) (by rw [List.length_map]; omega) (by
    show (Lib.join _ [47]).length ≤ _
    rw [hjl]; omega)
  rw [List.length_map] at this
  refine this.mono fun e w' ⟨he, hb⟩ => ⟨?_, hb⟩
  rw [he]
  show Ending.returned (.string ⟨(Lib.join _ [47]).toArray⟩) = _
  rw [hj]
theorem sym36 : ∀ d : Fin 36, ((⟨#[48, 49, 50, 51, 52, 53, 54, 55, 56, 57, 65, 66, 67, 68, 69, 70, 71, 72, 73, 74, 75, 76, 77, 78, 79, 80, 81, 82, 83, 84, 85, 86, 87, 88, 89, 90]⟩ : ByteArray)[d.val]'(by exact d.isLt)).toNat = (sy ((d.val : Nat) : Int)).toNat := by decide
set_option maxHeartbeats 1000000 in
theorem wordOf_any (v : Value) (xs : List Int) (w : World) (hx : RI w v xs) (hd : ∀ z ∈ xs, 0 ≤ z ∧ z ≤ 35) (hm : xs.length ≤ 1048576) :
    Calls Tryd.prog 36 #[v] w fun e w' => e = .returned (.string (wOf xs)) ∧ Below w.heap.size w w' := by
  obtain ⟨a, c, rfl⟩ := hx.slice
  have HD := Lib.hid hd
  clear hd
  go_enter Tryd.func36, Tryd.ntmps36
  go_wp2_with fail
  have hb : Below w.heap.size w (w.alloc (.cells #[] 5)) := (Below.refl _ _).alloc (Nat.le_refl _) _
  have ho : OB w.heap.size (w.alloc (.cells #[] 5)) (.slice (some ⟨w.heap.size, 0, none⟩) 0 0) ((xs.map sy).take 0) := OK.made _ _ _ (Nat.le_refl _)
  generalize w.alloc (.cells #[] 5) = w1 at *
  generalize Value.slice (some ⟨w.heap.size, 0, none⟩) 0 0 = v0 at *
  go_loopw [3, 9] (fun ov iv wr => ∃ k : Nat, k ≤ xs.length ∧ iv = .int .i64 k ∧ OB w.heap.size wr ov ((xs.map sy).take k) ∧ Below w.heap.size w wr) (fun _ iv _ => xs.length - (intOf iv).toNat)
  case atStart => exact ⟨0, Nat.zero_le _, rfl, ho, hb⟩
  case round =>
    clear ho hb
    obtain ⟨k, hk, rfl, ho, hb⟩ := hrel
    have hz := hb.size
    by_cases hlt : k < xs.length
    · obtain ⟨g, off, rfl, hg, hc⟩ := (hx.later hb).at k hlt
      have hbd := HD.out (xs.getD k 0) (getD_mem hlt)
      have HT : Hid ((xs.map sy).take (k + 1) = (xs.map sy).take k ++ [sy (xs.getD k 0)]) := by
        unfold Hid
        rw [List.take_succ_eq_append_getElem (by simpa using hlt)]
        simp [hlt]
      have hll : ((xs.map sy).take k).length ≤ 1099511627776 := by rw [List.length_take]; omega
      obtain ⟨d, hdd⟩ : ∃ d : Nat, xs.getD k 0 = (d : Int) := ⟨(xs.getD k 0).toNat, by omega⟩
      rw [hdd] at hc hbd HT
      have hd36 : d < 36 := by omega
      have k2 : (d : Int) < 36 := by omega
      obtain ⟨x, hxe⟩ : ∃ x, (⟨#[48, 49, 50, 51, 52, 53, 54, 55, 56, 57, 65, 66, 67, 68, 69, 70, 71, 72, 73, 74, 75, 76, 77, 78, 79, 80, 81, 82, 83, 84, 85, 86, 87, 88, 89, 90]⟩ : ByteArray)[d]'hd36 = x := ⟨_, rfl⟩
      have hsx : Hid ((x.toNat : Int) = sy d) := by
        have := sym36 ⟨d, hd36⟩
        have h2 := sy_in (d := (d : Int)) (by omega)
        unfold Hid
        rw [← hxe]
        show ((_ : Nat) : Int) = _
        rw [this]
        show (((sy (d : Int)).toNat : Nat) : Int) = _
        omega
      clear hdd
      go_wp2_with (at_builtin; refine wpl_app_u8 rfl _ _ rfl w.heap.size _ _ rfl (ho.alloc _) _ _ _ rfl (World.cell?_alloc_at _ _ _ _ rfl) hll (by simp; omega) ?_; intro v' w5 ho5 hgr)
      have hb5 : Below w.heap.size w w5 := own_below (hb.alloc hz _) (ho.alloc _) hgr (by simp; omega)
      rw [hsx.out, ← HT.out] at ho5
      clear hxe
      go_roundw
      case rel => exact ⟨k + 1, by omega, by go_num, ho5, hb5⟩
      case measure => first | (simp [intOf]; done) | (simp [intOf]; omega)
    · obtain rfl : k = xs.length := by omega
      rw [List.take_of_length_le (by simp)] at ho
      have hst := ho.str
      have HW : Hid (strOfNums (xs.map sy) = wOf xs) := rfl
      rw [HW.out] at hst
      go_wp2_with fail
      go_ret
      exact ⟨rfl, hb⟩
set_option maxHeartbeats 2000000 in
theorem implTt_any (x : List (List Int)) (v : Value) (w : World) (ht : RT w v x) (hq : qgB x = true) :
    Calls Tryd.prog 16 #[v] w fun e w' => e = .returned (.tuple #[.string (txT x x.length), .bool true]) ∧ Below w.heap.size w w' := by
  obtain ⟨⟨h1, h2⟩, h3, q⟩ := qgB_iff.1 hq
  have HQG : Hid (Calls Tryd.prog 17 #[v] w fun e w' => e = .returned (.bool true) ∧ Below w.heap.size w w') := by
    have := implQg_any v x w ht (by omega) (fun j hj => by have := h3 j hj; omega)
    rw [hq] at this; exact this
  have HR : Hid (∀ i, i < x.length → (rowAt x i).length = x.length ∧ ∀ z ∈ rowAt x i, 0 ≤ z ∧ z ≤ 35) := fun i hi => ⟨h3 i hi, fun z hz => by
    obtain ⟨k, hk, rfl⟩ := List.mem_iff_getElem.1 hz
    have hk' := hk
    rw [h3 i hi] at hk'
    have := q.bd i k hi hk'
    unfold tb at this
    rw [getD_eq hk] at this
    omega⟩
  obtain ⟨va, vc, rfl⟩ := ht.slice
  clear q hq h3
  go_enter Tryd.func16, Tryd.ntmps16
  go_wp2_with fail
  refine HQG.out.mono ?_
  rintro e w2 ⟨rfl, hb⟩
  have ht2 := ht.later hb
  go_wp2_with fail
  have H0 : Hid (OS w2.heap.size (w2.alloc (.cells #[] 9)) (.slice (some ⟨w2.heap.size, 0, none⟩) 0 0) ((x.take 0).map wOf)) := OV.made 9 w2 (Nat.le_refl _)
  have HB2 := Lib.hid hb
  clear ht hb
  go_loopw [4, 13] (fun ov iv wr => ∃ k : Nat, k ≤ x.length ∧ iv = .int .i64 k ∧ OS w2.heap.size wr ov ((x.take k).map wOf) ∧ Below w2.heap.size w2 wr) (fun _ iv _ => x.length - (intOf iv).toNat)
  case atStart => exact ⟨0, Nat.zero_le _, rfl, H0.out, (Below.refl _ _).alloc (Nat.le_refl _) _⟩
  case round =>
    obtain ⟨k, hk, rfl, ho, hb⟩ := hrel
    by_cases hlt : k < x.length
    · obtain ⟨g, off, r, rfl, hg, hc, hri⟩ := (ht2.later hb).at k hlt
      have hlk : ((x.take k).map wOf).length = k := by rw [List.length_map, List.length_take]; omega
      have HPS : Hid ((x.take (k + 1)).map wOf = (x.take k).map wOf ++ [wOf (rowAt x k)]) := by
        unfold Hid
        rw [List.take_succ_eq_append_getElem hlt, List.map_append]
        simp [rowAt, hlt]
      have hpl : (ss ((x.take k).map wOf)).length ≤ 1099511627776 := by rw [ss_length, hlk]; omega
      obtain ⟨oa, oc, rfl⟩ := ho.read.slice
      rw [hlk] at ho
      simp only [hlk]
      have hrr := HR.out k hlt
      have HW : Hid (Calls Tryd.prog 36 #[r] wr fun e w' => e = .returned (.string (wOf (rowAt x k))) ∧ Below wr.heap.size wr w') := wordOf_any r _ wr hri hrr.2 (by omega)
      obtain ⟨ra, rc, rfl⟩ := hri.slice
      clear hrr hri
      go_wp2_with fail
      refine HW.out.mono ?_
      rintro e w5 ⟨rfl, hb5⟩
      have ho5 := OV.later ho hb5
      have hs5 := hb5.size
      go_wp2_with (at_builtin; refine wpl_app Tryd.underlying41 info_str rfl (by omega) rfl _ _ rfl w2.heap.size _ _ rfl (OV.alloc ho5 _) _ _ _ rfl (World.cell?_alloc_at _ _ _ _ rfl) rfl hpl (by have := hb.size; simp; omega) ?_; intro v' w3 ho3 hgr)
      have ho4 : OS w2.heap.size w3 v' ((x.take (k + 1)).map wOf) := by
        unfold OS
        rw [HPS.out]
        simpa [ss] using ho3
      have hb4 : Below w2.heap.size w2 w3 := ((hb.trans (hb5.mono hb.size)).alloc (by have := hb.size; omega) _).grown hgr (by have := hb.size; simp; omega) fun j hj => (OV.lt ho5 j hj).1
      go_roundw
      case rel => exact ⟨k + 1, by omega, by go_num, ho4, hb4⟩
      case measure => first | (simp [intOf]; done) | (simp [intOf]; omega)
    · obtain rfl : k = x.length := by omega
      rw [List.take_length] at ho
      have HJ : Hid (∀ bk o c wx, RS wx (.slice (some ⟨bk, o, none⟩) x.length c) (x.map wOf) → Calls Tryd.prog 37 #[.slice (some ⟨bk, o, none⟩) x.length c, .string ⟨#[47]⟩] wx fun e w' => e = .returned (.string (txT x x.length)) ∧ Below wx.heap.size wx w') := fun bk o c wx h => joinTt x bk o c wx (by omega) h2 (fun i hi => by have := (HR.out i hi).1; omega) h
      have hrs := ho.read
      obtain ⟨oa, oc, rfl⟩ := hrs.slice
      rw [List.length_map] at hrs
      simp only [List.length_map]
      obtain ⟨bk, o, rfl, _⟩ := hrs.at 0 (by rw [List.length_map]; omega)
      have HRS := Lib.hid hrs
      clear hrs
      go_wp2_with (go_at_call 37; refine (HJ.out _ _ _ _ HRS.out).mono ?_; rintro e w4 ⟨rfl, hb4⟩)
      go_ret2
      exact ⟨rfl, HB2.out.trans ((hb.trans (hb4.mono hb.size)).mono HB2.out.size)⟩
end Go.Proofs.YthcnhkjiojeemaaDoor
