/- Marks of texts in the laws: markText, markStringS, heldStringS. -/
import Derived.Test.YtdkheeocglfogaaStrs
import Derived.Test.YtdkheeocglfogaaBytesM
import Derived.Test.YtdkheeocglfogaaIdx
namespace Go.Proofs.Ytdkheeocglfogaa
open Go.RowKit

/-- The digits of a number. -/
def dgt (k : Nat) : ByteArray := if h : k = 0 then ByteArray.empty else dgt (k / 10) ++ ⟨#[UInt8.ofNat (48 + k % 10)]⟩
theorem dgt_zero : dgt 0 = ByteArray.empty := by unfold dgt; rfl
theorem dgt_pos {k : Nat} (h : 0 < k) : dgt k = dgt (k / 10) ++ ⟨#[UInt8.ofNat (48 + k % 10)]⟩ := by
  conv => lhs; unfold dgt
  rw [dif_neg (by omega)]
theorem dgt_size (k : Nat) : (dgt k).size ≤ k := by
  induction k using Nat.strongRecOn with
  | ind k ih =>
    by_cases h : k = 0
    · subst h; rw [dgt_zero]; simp
    · rw [dgt_pos (by omega), ByteArray.size_append]
      have := ih (k / 10) (by omega)
      have h1 : (⟨#[UInt8.ofNat (48 + k % 10)]⟩ : ByteArray).size = 1 := rfl
      omega
def mtx (k : Nat) : ByteArray := ⟨#[109]⟩ ++ dgt k
theorem mtx_size (k : Nat) : (mtx k).size ≤ k + 1 := by
  unfold mtx
  rw [ByteArray.size_append]
  have := dgt_size k
  have h1 : (⟨#[109]⟩ : ByteArray).size = 1 := rfl
  omega
set_option maxRecDepth 100000 in
theorem conv1 (x : UInt8) (w : World) (n : Nat) (hn : n = w.heap.size) :
    (convert 43 9 (.slice (some ⟨n, 0, none⟩) 1 1)).run Try.prog (w.alloc (.cells #[.int .u8 (x.toNat : Int)] 5)) = .ok (.string ⟨#[x]⟩) (w.alloc (.cells #[.int .u8 (x.toNat : Int)] 5)) := by
  subst hn
  have := run_convert_bytes_arg (P := Try.prog) (w := w.alloc (.cells #[.int .u8 (x.toNat : Int)] 5)) 43 5 Try.underlying43 Try.underlying5 w.heap.size 0 _ 1 [(x.toNat : Int)] rfl (fun i hi => by
    have : i = 0 := by simpa using hi
    subst this
    exact World.cell?_alloc_at _ _ _ _ rfl) _ Try.underlying9
  refine this.trans ?_
  congr 2
  unfold strOfNums
  simp
set_option maxRecDepth 100000 in
set_option maxHeartbeats 1000000 in
theorem markText_any (k : Nat) (w : World) (hk : 1 ≤ k ∧ k ≤ 4194304) :
    Calls Try.prog 55 #[.int .i64 k] w fun e w' => e = .returned (.string (mtx k)) ∧ Below w.heap.size w w' := by
  have hs0 := dgt_size k
  go_enter Try.func55, Try.ntmps55
  go_wp2_with fail
  go_loopw [0, 3] (fun kv ov wr => ∃ (m : Nat) (o : ByteArray), kv = .int .i64 m ∧ ov = .string o ∧ m ≤ k ∧ Hid (dgt m ++ o = dgt k) ∧ o.size ≤ 4194304 ∧ Below w.heap.size w wr) (fun kv _ _ => (intOf kv).toNat)
  case atStart => exact ⟨k, ByteArray.empty, rfl, rfl, Nat.le_refl _, by apply ba_ext; simp, Nat.zero_le _, Below.refl _ _⟩
  case round =>
    obtain ⟨m, o, rfl, rfl, hm, HD, ho, hb⟩ := hrel
    by_cases h0 : 0 < m
    · have e0 : ((48 + m % 10 : Nat) : Int) = 48 + (m : Int) % 10 := by omega
      have hx : ((UInt8.ofNat (48 + m % 10)).toNat : Int) = 48 + (m : Int) % 10 := by
        rw [UInt8.toNat_ofNat']; omega
      have hw8 : IntKind.u8.wrap (48 + (m : Int) % 10) = ((UInt8.ofNat (48 + m % 10)).toNat : Int) := by rw [hx, IntKind.wrap_u8]; omega
      have hc := conv1 (UInt8.ofNat (48 + m % 10)) wr wr.heap.size rfl
      have h1 : (⟨#[UInt8.ofNat (48 + m % 10)]⟩ : ByteArray).size = 1 := rfl
      have hsum : (⟨#[UInt8.ofNat (48 + m % 10)]⟩ ++ o : ByteArray).size = 1 + o.size := by rw [ByteArray.size_append]; rfl
      have HD2 : Hid (dgt (m / 10) ++ (⟨#[UInt8.ofNat (48 + m % 10)]⟩ ++ o) = dgt k) := by
        unfold Hid
        rw [← HD.out, dgt_pos h0]
        apply ba_ext; simp
      have HS2 : Hid ((⟨#[UInt8.ofNat (48 + m % 10)]⟩ ++ o : ByteArray).size ≤ 4194304) := by
        unfold Hid
        have h2 : (dgt (m / 10) ++ (⟨#[UInt8.ofNat (48 + m % 10)]⟩ ++ o) : ByteArray).size = (dgt (m / 10)).size + (⟨#[UInt8.ofNat (48 + m % 10)]⟩ ++ o : ByteArray).size := ByteArray.size_append ..
        rw [HD2.out] at h2
        omega
      have hbs : Below w.heap.size w (wr.alloc (.cells #[.int .u8 ((UInt8.ofNat (48 + m % 10)).toNat : Int)] 5)) := hb.alloc hb.size _
      have hd10 : Hid ((m : Int) / 10 = ((m / 10 : Nat) : Int)) := (by omega : (m : Int) / 10 = ((m / 10 : Nat) : Int))
      generalize UInt8.ofNat (48 + m % 10) = x at *
      clear hx e0
      go_wp2_with fail
      go_roundw
      case rel => exact ⟨m / 10, _, by first | rfl | rw [hd10.out], rfl, by omega, HD2, HS2.out, hbs⟩
      case measure => simp [intOf]; omega
    · obtain rfl : m = 0 := by omega
      have HO : Hid (o = dgt k) := by
        unfold Hid
        rw [← HD.out, dgt_zero]
        apply ba_ext; simp
      have HM : Hid (⟨#[109]⟩ ++ o = mtx k) := by unfold Hid mtx; rw [HO.out]
      go_wp2_with fail
      go_ret
      exact ⟨by rw [← HM.out]; rfl, hb⟩
/-- Marks from k on. -/
def mtL (k n : Nat) : List ByteArray := (List.range n).map fun i => mtx (k + i)
theorem mtL_len (k n : Nat) : (mtL k n).length = n := by simp [mtL]
theorem mtL_at (k n i : Nat) (h : i < n) : sAt (mtL k n) i = mtx (k + i) := by unfold sAt mtL; simp [h]
theorem OV.chg1 {T : TypeId} {B : Nat} {w w' : World} {v : Value} {cs : List Value} (h : OV T B w v cs) (hb : Below w.heap.size w w') : OV T B w' v cs := h.later hb
set_option maxHeartbeats 2000000 in
theorem markStringS_any (v : Value) (l : List ByteArray) (k : Nat) (w : World) (B : Nat) (hx : OS B w v l) (hk : 1 ≤ k ∧ k + l.length ≤ 4194304) :
    Calls Try.prog 27 #[v, .int .i64 k] w fun e w' => e = .returned (.int .i64 (k + l.length : Nat)) ∧ OS B w' v (mtL k l.length) ∧ Chg (vb v) w w' := by
  obtain ⟨a, c, rfl⟩ := hx.read.slice
  go_enter Try.func27, Try.ntmps27
  go_wp2_with fail
  go_loopw [1, 5] (fun kv iv wr => ∃ i : Nat, i ≤ l.length ∧ iv = .int .i64 i ∧ kv = .int .i64 (k + i : Nat) ∧ OV 9 B wr (.slice a l.length c) (ss (mtL k i) ++ (ss l).drop i) ∧ Chg (vb (.slice a l.length c)) w wr) (fun _ iv _ => l.length - (intOf iv).toNat)
  case atStart => exact ⟨0, Nat.zero_le _, rfl, by simp, by have h0 := hx; unfold OS at h0; simpa [mtL, ss] using h0, Chg.refl _ _⟩
  case round =>
    clear hx
    obtain ⟨i, hi, rfl, rfl, hown, hch⟩ := hrel
    by_cases hlt : i < l.length
    · go_wp2_with fail
      refine (markText_any (k + i) _ (by omega)).mono ?_
      rintro e w1 ⟨rfl, hb1⟩
      replace hown := hown.later hb1
      replace hch := hch.trans ((Below.chg hb1).mono (by simp))
      have hsl : (ss (mtL k i)).length = i := by rw [ss_length, mtL_len]
      have hss := ss_length l
      obtain ⟨g, rfl, _, hc⟩ := hown.at i (by rw [List.length_append, hsl, List.length_drop]; omega)
      have hfz := hown.frozen i
      obtain ⟨hst, hgs⟩ := hown.stored i (.string (mtx (k + i)))
      have e : (ss (mtL k i) ++ (ss l).drop i).set i (.string (mtx (k + i))) = ss (mtL k (i + 1)) ++ (ss l).drop (i + 1) := by
        rw [List.set_append_right _ _ (by omega)]
        have h2 : (ss l).drop i = (ss l)[i] :: (ss l).drop (i + 1) := List.drop_eq_getElem_cons (by omega)
        rw [h2, show i - (ss (mtL k i)).length = 0 by omega, List.set_cons_zero]
        simp [ss, mtL, List.range_succ]
      rw [e] at hst
      rw [List.getElem?_append_right (by omega), hsl, Nat.sub_self, List.getElem?_drop, Nat.add_zero] at hc
      have hcs : (w1.cell? ⟨g, i, none⟩).isSome = true := by rw [hc]; simp [hss, hlt]
      obtain ⟨u0, hu0⟩ := Option.isSome_iff_exists.1 hcs
      have HST := Lib.hid hst
      have hch' : Hid (Chg (vb (.slice (some ⟨g, 0, none⟩) l.length c)) w (w1.setCell ⟨g, i, none⟩ (.string (mtx (k + i))))) := hch.trans ((chg_grown hgs).mono (by simp [vb, Value.ownBlock]))
      clear e hown hch hgs hst hc hcs
      generalize mtx (k + i) = mx at *
      go_wp2_with fail
      go_roundw
      case rel => exact ⟨i + 1, by omega, by go_num, by go_num, HST.out, hch'.out⟩
      case measure => first | (simp [intOf]; done) | (simp [intOf]; omega)
    · obtain rfl : i = l.length := by omega
      go_wp2_with fail
      go_ret
      refine ⟨rfl, ?_, hch⟩
      have := hown
      rw [List.drop_of_length_le (by rw [ss_length]; exact Nat.le_refl _), List.append_nil] at this
      exact this
set_option maxHeartbeats 2000000 in
theorem heldStringS_yes (v : Value) (n k : Nat) (w : World) (hx : RS w v (mtL k n)) (hk : 1 ≤ k ∧ k + n ≤ 4194304) :
    Calls Try.prog 28 #[v, .int .i64 k] w fun e w' => e = .returned (.int .i64 (k + n : Nat)) ∧ Below w.heap.size w w' := by
  obtain ⟨a, c, rfl⟩ := hx.slice
  rw [mtL_len] at hx ⊢
  go_enter Try.func28, Try.ntmps28
  go_wp2_with fail
  go_loopw [1, 5] (fun kv iv wr => ∃ i : Nat, i ≤ n ∧ iv = .int .i64 i ∧ kv = .int .i64 (k + i : Nat) ∧ Below w.heap.size w wr) (fun _ iv _ => n - (intOf iv).toNat)
  case atStart => exact ⟨0, Nat.zero_le _, rfl, by simp, Below.refl _ _⟩
  case round =>
    obtain ⟨i, hi, rfl, rfl, hb⟩ := hrel
    by_cases hlt : i < n
    · obtain ⟨g, off, rfl, hg, hc⟩ := (hx.later hb).at i (by rw [mtL_len]; exact hlt)
      rw [mtL_at _ _ _ hlt] at hc
      have HT := Lib.hid (fun wx => markText_any (k + i) wx (by omega))
      have e0 := str_eq (mtx (k + i))
      generalize mtx (k + i) = mx at *
      go_wp2_with fail
      go_region_held3 (fun w' => w'.cell? ⟨g, off + i, none⟩ = some (.string mx)) (go_keep)
        (first | (go_at_call 55; refine (HT.out _).mono ?_; rintro e w3 ⟨rfl, hb3⟩; replace hc := (hb3.cell (p := ⟨g, off + i, none⟩) hg).trans hc))
      have hb4 : Below w.heap.size w w3 := hb.drew.trans (hb3.mono hb.size)
      go_wp2_with fail
      go_roundw
      case rel => exact ⟨i + 1, by omega, by go_num, by go_num, hb4⟩
      case measure => first | (simp [intOf]; done) | (simp [intOf]; omega)
    · obtain rfl : i = n := by omega
      go_wp2_with fail
      go_ret
      exact ⟨rfl, hb⟩
theorem markLikeness_any (s : ByteArray) (v : Value) (l : List ByteArray) (k : Nat) (w : World) (B : Nat) (hx : OS B w v l) (hk : 1 ≤ k ∧ k + l.length ≤ 4194304) :
    Calls Try.prog 26 #[.agg #[.string s, v], .int .i64 k] w fun e w' => e = .returned (.int .i64 (k + l.length : Nat)) ∧ Chg (vb v) w w' := by
  obtain ⟨a, c, rfl⟩ := hx.read.slice
  have hb1 : Below w.heap.size w (w.alloc (.cells #[.string s, .slice a l.length c] 27)) := (Below.refl _ _).alloc (Nat.le_refl _) _
  have hx1 := OS.later hx hb1
  go_enter Try.func26, Try.ntmps26
  go_wp2_with fail
  refine (markStringS_any _ l _ _ B hx1 hk).mono ?_
  rintro e w1 ⟨rfl, h1, h2⟩
  go_wp2_with fail
  go_ret
  exact ⟨rfl, ((Below.chg hb1).mono (by simp)).trans h2⟩
end Go.Proofs.Ytdkheeocglfogaa
