/- Small walks for errors of a kind: l01Digits, l00Same, wordOf, slices.Clone. -/
import Derived.Test.YtgagjmnmfgfpfaaWwQ
import Derived.Test.YtgagjmnmfgfpfaaApps
import Derived.Test.YtgagjmnmfgfpfaaMat
import Derived.Lib.SliceRun
namespace Go.Proofs.Ytgagjmnmfgfpfaa
open Go.RowKit

set_option maxHeartbeats 1000000 in
theorem l01Digits_any (s : ByteArray) (w : World) (hm : s.size ≤ 1048576) :
    Calls Try.prog 87 #[.string s] w fun e w' => ∃ v', e = .returned v' ∧ OI w.heap.size w' v' (dgs s) ∧ Below w.heap.size w w' := by
  go_enter Try.func87, Try.ntmps87
  go_wp2_with fail
  have hb : Below w.heap.size w (w.alloc (.cells #[] 2)) := (Below.refl _ _).alloc (Nat.le_refl _) _
  have ho : OI w.heap.size (w.alloc (.cells #[] 2)) (.slice (some ⟨w.heap.size, 0, none⟩) 0 0) ((dgs s).take 0) := OK.made _ _ _ (Nat.le_refl _)
  generalize w.alloc (.cells #[] 2) = w1 at *
  generalize Value.slice (some ⟨w.heap.size, 0, none⟩) 0 0 = v0 at *
  go_loopw [3, 4] (fun ov iv wr => ∃ k : Nat, k ≤ s.size ∧ iv = .int .i64 k ∧ OI w.heap.size wr ov ((dgs s).take k) ∧ Below w.heap.size w wr) (fun _ iv _ => s.size - (intOf iv).toNat)
  case atStart => exact ⟨0, Nat.zero_le _, rfl, ho, hb⟩
  case round =>
    clear ho hb
    obtain ⟨k, hk, rfl, ho, hb⟩ := hrel
    have hz := hb.size
    by_cases hlt : k < s.size
    · have hcc : 0 ≤ (s[k].toNat : Int) ∧ (s[k].toNat : Int) ≤ 255 := by have := s[k].toNat_lt; omega
      have HC : Hid (∀ wx, Calls Try.prog 80 #[.int .u8 (s[k].toNat : Int)] wx fun e w' => e = .returned (.int .i64 (dg (s[k].toNat : Int))) ∧ wx = w') := fun wx => l01Digit_any _ wx hcc
      have HT : Hid ((dgs s).take (k + 1) = (dgs s).take k ++ [dg (s[k].toNat : Int)]) := by
        unfold Hid
        rw [List.take_add_one, List.getElem?_eq_getElem (by rw [dgs_len]; exact hlt)]
        have : (dgs s)[k]'(by rw [dgs_len]; exact hlt) = dg (s[k].toNat : Int) := by
          rw [← bz_get s k hlt, getD_eq (by rw [bz_len]; exact hlt)]
          simp [dgs]
        rw [this]; rfl
      have hll : ((dgs s).take k).length ≤ 1099511627776 := by rw [List.length_take]; omega
      generalize dg (s[k].toNat : Int) = d at *
      go_wp2_with (first | (go_at_call 80; refine (HC.out _).mono ?_; rintro e w' ⟨rfl, rfl⟩) | (at_builtin; refine wpl_app_i64 rfl _ _ rfl w.heap.size _ _ rfl (ho.alloc _) _ _ _ rfl (World.cell?_alloc_at _ _ _ _ rfl) hll (by simp; omega) ?_; intro v' w5 ho5 hgr))
      have hb5 : Below w.heap.size w w5 := own_below (hb.alloc hz _) (ho.alloc _) hgr (by simp; omega)
      go_roundw
      case rel => exact ⟨k + 1, by omega, by go_num, by rw [HT.out]; exact ho5, hb5⟩
      case measure => first | (simp [intOf]; done) | (simp [intOf]; omega)
    · obtain rfl : k = s.size := by omega
      rw [List.take_of_length_le (by rw [dgs_len]; exact Nat.le_refl _)] at ho
      go_wp2_with fail
      go_ret
      exact ⟨_, rfl, ho, hb⟩
theorem list_ext_getD : ∀ (xs ys : List Int), xs.length = ys.length → (∀ i, i < xs.length → xs.getD i 0 = ys.getD i 0) → xs = ys
  | [], [], _, _ => rfl
  | [], _ :: _, h, _ => by simp at h
  | _ :: _, [], h, _ => by simp at h
  | x :: xs, y :: ys, h, hh => by
    have h0 := hh 0 (by simp)
    simp at h0
    subst h0
    rw [list_ext_getD xs ys (by simpa using h) fun i hi => by simpa using hh (i + 1) (by simpa using hi)]
set_option maxHeartbeats 1000000 in
theorem l00Same_any (u v : Value) (xs ys : List Int) (w : World) (hx : RI w u xs) (hy : RI w v ys) (hm : xs.length ≤ 1099511627776) :
    Calls Try.prog 88 #[u, v] w fun e w' => e = .returned (.bool (decide (xs = ys))) ∧ Drw w w' := by
  obtain ⟨a, c, rfl⟩ := hx.slice
  obtain ⟨b, d, rfl⟩ := hy.slice
  by_cases hl : xs.length = ys.length
  · have hl1 : ((xs.length : Int) != (ys.length : Int)) = false := by simp [hl]
    rw [← hl] at hl1 ⊢
    have HLE := Lib.hid hl
    clear hl
    have hy' : RI w (.slice b xs.length d) ys := by rw [HLE.out]; exact hy
    clear hy
    go_enter Try.func88, Try.ntmps88
    go_wp2_with fail
    go_loopw [5] (fun iv wr => ∃ k : Nat, k ≤ xs.length ∧ iv = .int .i64 k ∧ Drw w wr ∧ Hid (∀ i, i < k → xs.getD i 0 = ys.getD i 0)) (fun iv _ => xs.length - (intOf iv).toNat)
    case atStart => exact ⟨0, Nat.zero_le _, rfl, Drw.refl _, fun i hi => by omega⟩
    case round =>
      obtain ⟨k, hk, rfl, hd, HK⟩ := hrel
      by_cases hlt : k < xs.length
      · obtain ⟨g, off, rfl, hg, hc⟩ := (hx.later hd.below).at k hlt
        obtain ⟨g', off', rfl, hg', hc'⟩ := (hy'.later hd.below).at k (by rw [← HLE.out]; exact hlt)
        obtain ⟨z, hz⟩ : ∃ z, xs.getD k 0 = z := ⟨_, rfl⟩
        obtain ⟨y, hy2⟩ : ∃ y, ys.getD k 0 = y := ⟨_, rfl⟩
        rw [hz] at hc
        rw [hy2] at hc'
        by_cases he : z = y
        · have HK2 : Hid (∀ i, i < k + 1 → xs.getD i 0 = ys.getD i 0) := fun i hi => by
            by_cases e : i = k
            · subst e; rw [hz, hy2, he]
            · exact HK.out i (by omega)
          subst he
          clear hz hy2 HK
          go_wp2_with fail
          go_quiet (fail)
          go_wp2_with fail
          go_roundw
          case rel => exact ⟨k + 1, by omega, by go_num, hd.more _, HK2⟩
          case measure => first | (simp [intOf]; done) | (simp [intOf]; omega)
        · have hb1 : (z != y) = true := by simpa using he
          have HR : Hid (decide (xs = ys) = false) := decide_eq_false fun e => he (by rw [← hz, ← hy2, e])
          clear hz hy2 he HK
          go_wp2_with fail
          go_quiet (fail)
          go_wp2_with fail
          go_ret
          exact ⟨ret_bool HR.out.symm, hd.more _⟩
      · obtain rfl : k = xs.length := by omega
        have HR : Hid (decide (xs = ys) = true) := decide_eq_true (list_ext_getD xs ys HLE.out HK.out)
        go_wp2_with fail
        go_ret
        exact ⟨ret_bool HR.out.symm, hd⟩
  · have hl1 : ((xs.length : Int) != (ys.length : Int)) = true := by simp; omega
    have HR : Hid (decide (xs = ys) = false) := decide_eq_false fun e => hl (by rw [e])
    clear hl
    go_enter Try.func88, Try.ntmps88
    go_wp2_with fail
    go_ret
    exact ⟨ret_bool HR.out.symm, Drw.refl _⟩
theorem sym36 : ∀ d : Fin 36, ((⟨#[48, 49, 50, 51, 52, 53, 54, 55, 56, 57, 65, 66, 67, 68, 69, 70, 71, 72, 73, 74, 75, 76, 77, 78, 79, 80, 81, 82, 83, 84, 85, 86, 87, 88, 89, 90]⟩ : ByteArray)[d.val]'(by exact d.isLt)).toNat = (sy ((d.val : Nat) : Int)).toNat := by decide
set_option maxHeartbeats 1000000 in
theorem wordOf_any (v : Value) (xs : List Int) (w : World) (hx : RI w v xs) (hd : ∀ z ∈ xs, 0 ≤ z ∧ z ≤ 35) (hm : xs.length ≤ 1048576) :
    Calls Try.prog 91 #[v] w fun e w' => e = .returned (.string (wOf xs)) ∧ Below w.heap.size w w' := by
  obtain ⟨a, c, rfl⟩ := hx.slice
  have HD := Lib.hid hd
  clear hd
  go_enter Try.func91, Try.ntmps91
  go_wp2_with fail
  have hb : Below w.heap.size w (w.alloc (.cells #[] 5)) := (Below.refl _ _).alloc (Nat.le_refl _) _
  have ho : OB w.heap.size (w.alloc (.cells #[] 5)) (.slice (some ⟨w.heap.size, 0, none⟩) 0 0) ((xs.map sy).take 0) := OK.made _ _ _ (Nat.le_refl _)
  generalize w.alloc (.cells #[] 5) = w1 at *
  generalize Value.slice (some ⟨w.heap.size, 0, none⟩) 0 0 = v0 at *
  go_loopw [3, 9] (fun ov iv wr => ∃ k : Nat, k ≤ xs.length ∧ iv = .int .i64 k ∧ OB w.heap.size wr ov ((xs.map sy).take k) ∧ Below w.heap.size w wr) (fun _ iv _ => xs.length - (intOf iv).toNat)
  case atStart => exact ⟨0, Nat.zero_le _, rfl, ho, hb⟩
  case round =>
    clear ho hb
    obtain ⟨k, hk, rfl, ho, hb⟩ := hrel
    have hz := hb.size
    by_cases hlt : k < xs.length
    · obtain ⟨g, off, rfl, hg, hc⟩ := (hx.later hb).at k hlt
      have hbd := HD.out (xs.getD k 0) (getD_mem hlt)
      have HT : Hid ((xs.map sy).take (k + 1) = (xs.map sy).take k ++ [sy (xs.getD k 0)]) := by
        unfold Hid
        rw [List.take_succ_eq_append_getElem (by simpa using hlt)]
        simp [hlt]
      have hll : ((xs.map sy).take k).length ≤ 1099511627776 := by rw [List.length_take]; omega
      obtain ⟨d, hdd⟩ : ∃ d : Nat, xs.getD k 0 = (d : Int) := ⟨(xs.getD k 0).toNat, by omega⟩
      rw [hdd] at hc hbd HT
      have hd36 : d < 36 := by omega
      have k2 : (d : Int) < 36 := by omega
      obtain ⟨x, hxe⟩ : ∃ x, (⟨#[48, 49, 50, 51, 52, 53, 54, 55, 56, 57, 65, 66, 67, 68, 69, 70, 71, 72, 73, 74, 75, 76, 77, 78, 79, 80, 81, 82, 83, 84, 85, 86, 87, 88, 89, 90]⟩ : ByteArray)[d]'hd36 = x := ⟨_, rfl⟩
      have hsx : Hid ((x.toNat : Int) = sy d) := by
        have := sym36 ⟨d, hd36⟩
        have h2 := sy_in (d := (d : Int)) (by omega)
        unfold Hid
        rw [← hxe]
        show ((_ : Nat) : Int) = _
        rw [this]
        show (((sy (d : Int)).toNat : Nat) : Int) = _
        omega
      clear hdd
      go_wp2_with (at_builtin; refine wpl_app_u8 rfl _ _ rfl w.heap.size _ _ rfl (ho.alloc _) _ _ _ rfl (World.cell?_alloc_at _ _ _ _ rfl) hll (by simp; omega) ?_; intro v' w5 ho5 hgr)
      have hb5 : Below w.heap.size w w5 := own_below (hb.alloc hz _) (ho.alloc _) hgr (by simp; omega)
      rw [hsx.out, ← HT.out] at ho5
      clear hxe
      go_roundw
      case rel => exact ⟨k + 1, by omega, by go_num, ho5, hb5⟩
      case measure => first | (simp [intOf]; done) | (simp [intOf]; omega)
    · obtain rfl : k = xs.length := by omega
      rw [List.take_of_length_le (by simp)] at ho
      have hst := ho.str
      have HW : Hid (strOfNums (xs.map sy) = wOf xs) := rfl
      rw [HW.out] at hst
      go_wp2_with fail
      go_ret
      exact ⟨rfl, hb⟩
set_option maxRecDepth 100000 in
set_option maxHeartbeats 1000000 in
theorem clone_any (v : Value) (xs : List Int) (w : World) (hx : RI w v xs) (hm : xs.length ≤ 1048576) :
    Calls Try.prog 115 #[v] w fun e w' => ∃ v', e = .returned v' ∧ OI w.heap.size w' v' xs ∧ Below w.heap.size w w' := by
  obtain ⟨a, c, rfl⟩ := hx.slice
  cases a with
  | none =>
    have hxe : xs = [] := by
      cases xs with
      | nil => rfl
      | cons x xs => obtain ⟨g, off, h, _⟩ := hx.at 0 (by simp); cases h
    subst hxe
    have hnil := fun (w : World) => Lib.run_eql_slice_nil (P := Try.prog) w 47 2 none 0 c 0 0 Try.underlying47
    go_enter Try.func115, Try.ntmps115
    go_wp2_with fail
    go_ret
    exact ⟨_, rfl, OK.nil _ _ _ _, Below.refl _ _⟩
  | some ad =>
    have hb : Below w.heap.size w (w.alloc (.cells #[] 2)) := (Below.refl _ _).alloc (Nat.le_refl _) _
    have ho : OV 2 w.heap.size (w.alloc (.cells #[] 2)) (.slice (some ⟨w.heap.size, 0, none⟩) 0 0) [] := OV.made _ _ (Nat.le_refl _)
    have hnil := fun (w : World) => Lib.run_eql_slice_nil (P := Try.prog) w 47 2 (some ad) xs.length c 0 0 Try.underlying47
    go_enter Try.func115, Try.ntmps115
    go_wp2_with (at_builtin; refine wpl_apps Try.underlying47 info_i64 rfl (by omega) rfl _ _ rfl w.heap.size _ _ rfl ho _ _ rfl (RV.later hx hb) (fun u hu => by obtain ⟨z, _, rfl⟩ := List.mem_map.1 hu; rfl) (by simp; omega) (by simp) ?_; intro v' w2 ho2 hgr)
    have hb2 : Below w.heap.size w w2 := own_below hb ho hgr (by simp)
    have ho3 : OI w.heap.size w2 v' xs := by unfold OI OK; simpa using ho2
    go_ret
    exact ⟨_, rfl, ho3, hb2⟩
end Go.Proofs.Ytgagjmnmfgfpfaa
