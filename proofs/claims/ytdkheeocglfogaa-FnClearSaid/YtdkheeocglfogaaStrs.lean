/- Helpers over slices of texts: toStringS, eqStringS, szStringS, slices.Index and slices.Contains. -/
import Derived.Test.YtdkheeocglfogaaInts
namespace Go.Proofs.Ytdkheeocglfogaa
open Go.RowKit

def ss (l : List ByteArray) : List Value := l.map Value.string
theorem ss_length (l : List ByteArray) : (ss l).length = l.length := by simp [ss]
def RS (w : World) (v : Value) (l : List ByteArray) : Prop := RV w v (ss l)
def OS (B : Nat) (w : World) (v : Value) (l : List ByteArray) : Prop := OV 9 B w v (ss l)
abbrev sAt (l : List ByteArray) (k : Nat) : ByteArray := l.getD k ByteArray.empty
theorem info_str : (Try.prog.info? 9).map (fun i => (i.zero, i.size, i.bytes)) = some (some (.string ByteArray.empty), 1, 16) := by kernel_rfl

section
variable {w : World} {v : Value} {l : List ByteArray} {B : Nat}
theorem RS.slice (h : RS w v l) : ∃ a cap, v = .slice a l.length cap := by have := RV.slice h; rwa [ss_length] at this
theorem RS.at {a : Option Addr} {n cap : Nat} (h : RS w (.slice a n cap) l) (j : Nat) (hj : j < l.length) : ∃ g off, a = some ⟨g, off, none⟩ ∧ g < w.heap.size ∧ w.cell? ⟨g, off + j, none⟩ = some (.string (sAt l j)) := by
  obtain ⟨g, off, h1, h2, h3⟩ := RV.at h j (by rw [ss_length]; exact hj)
  exact ⟨g, off, h1, h2, by rw [h3]; simp [ss, hj]⟩
theorem RS.len {a : Option Addr} {n cap : Nat} (h : RS w (.slice a n cap) l) : n = l.length := by have := RV.len h; rwa [ss_length] at this
theorem RS.cap {a : Option Addr} {n cap : Nat} (h : RS w (.slice a n cap) l) : l.length ≤ cap ∧ cap ≤ maxLen := by have := RV.cap h; rwa [ss_length] at this
theorem RS.later {w' : World} (h : RS w v l) (hb : Below w.heap.size w w') : RS w' v l := RV.later h hb
theorem OS.read (h : OS B w v l) : RS w v l := OV.read h
theorem OS.later {w' : World} (h : OS B w v l) (hb : Below w.heap.size w w') : OS B w' v l := OV.later h hb
theorem OS.mono {B' : Nat} (h : OS B w v l) (hB : B' ≤ B) : OS B' w v l := OV.mono h hB
theorem OS.vb (h : OS B w v l) : ∀ b ∈ vb v, B ≤ b ∧ b < w.heap.size := OV.vb h
theorem OS.chg {w' : World} {ks : List Nat} (h : OS B w v l) (hc : Chg ks w w') (hn : ∀ k ∈ Go.Proofs.Ytdkheeocglfogaa.vb v, k ∉ ks) : OS B w' v l := OV.chg h hc hn
theorem RS.take {a : Option Addr} {n cap c' : Nat} (h : RS w (.slice a n cap) l) (k : Nat) (hk : k ≤ l.length) (hc' : k ≤ c' ∧ c' ≤ maxLen) : RS w (.slice a k c') (l.take k) := by
  refine ⟨a, c', by rw [ss_length, List.length_take, Nat.min_eq_left hk], by rw [ss_length, List.length_take, Nat.min_eq_left hk]; exact hc', fun j hj => ?_⟩
  rw [ss_length, List.length_take, Nat.min_eq_left hk] at hj
  obtain ⟨g, off, h1, _, h3⟩ := h.at j (by omega)
  refine ⟨g, off, h1, ?_⟩
  rw [h3]
  simp [ss, hj, List.getElem?_take, show j < l.length by omega]
end
theorem ba_ext {s t : ByteArray} (h : s.data.toList = t.data.toList) : s = t := by
  cases s; cases t
  simp at h
  rw [h]
/-- The text is in the list. -/
def hasS (l : List ByteArray) (s : ByteArray) : Bool := l.any fun t => s.data.toList == t.data.toList
theorem hasS_iff {l : List ByteArray} {s : ByteArray} : hasS l s = true ↔ s ∈ l := by
  unfold hasS
  rw [List.any_eq_true]
  constructor
  · rintro ⟨t, ht, he⟩
    have : s = t := ba_ext (beq_iff_eq.1 he)
    rw [this]; exact ht
  · exact fun h => ⟨s, h, by simp⟩
theorem hasS_no {l : List ByteArray} {s : ByteArray} (h : ¬ s ∈ l) : hasS l s = false := by
  rw [← Bool.not_eq_true, hasS_iff]; exact h
theorem str_eq (s : ByteArray) : (s.toList == s.toList) = true := by simp
theorem str_ne {s t : ByteArray} (h : s ≠ t) : (s.toList == t.toList) = false := by
  rw [beq_eq_false_iff_ne]
  intro e
  rw [ByteArray.toList_eq, ByteArray.toList_eq] at e
  cases s; cases t
  simp at e
  exact h (by rw [e])

set_option maxHeartbeats 1000000 in
theorem toStringS_any (v : Value) (l : List ByteArray) (w : World) (hx : RS w v l) (hm : l.length ≤ 1048576) :
    Calls Try.prog 34 #[v] w fun e w' => ∃ v', e = .returned v' ∧ OS w.heap.size w' v' l ∧ Below w.heap.size w w' := by
  obtain ⟨a, c, rfl⟩ := hx.slice
  go_enter Try.func34, Try.ntmps34
  go_wp2_with (at_make; refine wpl_make Try.underlying22 info_str rfl (by omega) rfl _ _ rfl w.heap.size .i64 .i64 _ _ l.length rfl rfl rfl rfl (by omega) (Nat.le_refl _) ?_; intro w1 hown hgr hlt)
  have hb1 : Below w.heap.size w w1 := (Below.refl _ _).grown hgr (Nat.le_refl _) (by simp)
  clear hgr hlt
  go_loopw [4] (fun iv wr => ∃ k : Nat, k ≤ l.length ∧ iv = .int .i64 k ∧ OV 9 w.heap.size wr (.slice (some ⟨w.heap.size, 0, none⟩) l.length l.length) ((ss l).take k ++ List.replicate (l.length - k) (.string ByteArray.empty)) ∧ Below w.heap.size w wr) (fun iv _ => l.length - (intOf iv).toNat)
  case atStart => exact ⟨0, Nat.zero_le _, rfl, by simpa using hown, hb1⟩
  case round =>
    obtain ⟨k, hk, rfl, hown, hb⟩ := hrel
    clear hb1
    have hsl := ss_length l
    have HSL := Lib.hid hsl
    by_cases hlt : k < l.length
    · obtain ⟨g, off, rfl, hg, hc⟩ := (hx.later hb).at k hlt
      have hfz := hown.frozen k
      have hcz : wr.cell? ⟨w.heap.size, k, none⟩ = some (.string ByteArray.empty) := by
        rw [hown.cell k (by simp [hsl]; omega), List.getElem?_append_right (by simp [hsl]; omega)]
        have h0 : k - ((ss l).take k).length = 0 := by simp [hsl]; omega
        rw [h0]
        have h1 : 0 < l.length - k := by omega
        simp [h1]
      have hst := (hown.stored k (.string (sAt l k))).1
      have hb' := hb.setCell (p := ⟨w.heap.size, k, none⟩) (Nat.le_refl _) (.string (sAt l k))
      have e : ((ss l).take k ++ List.replicate (l.length - k) (Value.string ByteArray.empty)).set k (.string (sAt l k)) = (ss l).take (k + 1) ++ List.replicate (l.length - (k + 1)) (.string ByteArray.empty) := by
        rw [List.set_append_right _ _ (by simp [hsl]; omega)]
        rw [List.take_succ_eq_append_getElem (by rw [hsl]; exact hlt), List.append_assoc]
        congr 1
        rw [show l.length - k = (l.length - (k + 1)) + 1 by omega, List.replicate_succ]
        simp [hsl, Nat.min_eq_left hk, ss, hlt]
      rw [e] at hst
      clear e hown hb hsl
      generalize sAt l k = z at *
      go_wp2_with fail
      go_roundw
      case rel => exact ⟨k + 1, by omega, by go_num, hst, hb'⟩
      case measure => first | (simp [intOf]; done) | (simp [intOf]; omega)
    · have hk' : k = l.length := by omega
      subst hk'
      have hown' : OS w.heap.size wr (.slice (some ⟨w.heap.size, 0, none⟩) l.length l.length) l := by
        have := hown
        rw [List.take_of_length_le (by rw [hsl]; exact Nat.le_refl _), Nat.sub_self, List.replicate_zero, List.append_nil] at this
        exact this
      clear hsl
      go_wp2_with fail
      go_ret
      exact ⟨_, rfl, hown', hb⟩

set_option maxHeartbeats 1000000 in
theorem eqStringS_yes (u v : Value) (l : List ByteArray) (w : World) (hx : RS w u l) (hy : RS w v l) (hm : l.length ≤ 1099511627776) :
    Calls Try.prog 25 #[u, v] w fun e w' => e = .returned (.bool true) ∧ Below w.heap.size w w' := by
  obtain ⟨a, c, rfl⟩ := hx.slice
  obtain ⟨b, d, rfl⟩ := hy.slice
  go_enter Try.func25, Try.ntmps25
  go_wp2_with fail
  go_loopw [5] (fun iv wr => ∃ k : Nat, k ≤ l.length ∧ iv = .int .i64 k ∧ Below w.heap.size w wr) (fun iv _ => l.length - (intOf iv).toNat)
  case atStart => exact ⟨0, Nat.zero_le _, rfl, Below.refl _ _⟩
  case round =>
    obtain ⟨k, hk, rfl, hb⟩ := hrel
    by_cases hlt : k < l.length
    · obtain ⟨g, off, rfl, hg, hc⟩ := (hx.later hb).at k hlt
      obtain ⟨g', off', rfl, hg', hc'⟩ := (hy.later hb).at k hlt
      generalize sAt l k = z at *
      go_wp2_with fail
      go_quiet (fail)
      go_wp2_with fail
      go_roundw
      case rel => exact ⟨k + 1, by omega, by go_num, below_drewN hb _⟩
      case measure => first | (simp [intOf]; done) | (simp [intOf]; omega)
    · go_wp2_with fail
      go_ret
      exact ⟨rfl, hb⟩

/-- How much the texts take: their number, and their bytes. -/
def szS (l : List ByteArray) : Nat := (l.map fun s => s.size).sum
theorem szS_take (l : List ByteArray) (k : Nat) (h : k < l.length) : szS (l.take (k + 1)) = szS (l.take k) + (sAt l k).size := by
  unfold szS
  rw [List.take_succ_eq_append_getElem h, List.map_append, List.sum_append]
  simp [h]
theorem szS_le (l : List ByteArray) (k : Nat) : szS (l.take k) ≤ szS l := by
  unfold szS
  conv => rhs; rw [← List.take_append_drop k l]
  rw [List.map_append, List.sum_append]; omega
theorem szS_at (l : List ByteArray) (k : Nat) (h : k < l.length) : (sAt l k).size ≤ szS l := by
  have h1 := szS_take l k h
  have h2 := szS_le l (k + 1)
  omega

set_option maxHeartbeats 1000000 in
theorem szStringS_yes (v : Value) (l : List ByteArray) (n : Int) (w : World) (hx : RS w v l) (hn : n ≤ 1048576) (hs : ((l.length + szS l : Nat) : Int) ≤ n) :
    Calls Try.prog 32 #[v, .int .i64 n] w fun e w' => ∃ r : Int, e = .returned (.int .i64 r) ∧ Hid (r = n - (l.length + szS l : Nat)) ∧ 0 ≤ r ∧ w = w' := by
  obtain ⟨a, c, rfl⟩ := hx.slice
  have HL : Hid (∀ k, szS (l.take k) ≤ szS l) := szS_le l
  go_enter Try.func32, Try.ntmps32
  go_wp2_with fail
  go_loop [1, 5] (fun nv iv => ∃ (k : Nat) (r : Int), k ≤ l.length ∧ iv = .int .i64 k ∧ nv = .int .i64 r ∧ 0 ≤ r ∧ r ≤ n ∧ Hid (r = n - l.length - szS (l.take k))) (fun _ iv => l.length - (intOf iv).toNat)
  case atStart => exact ⟨0, _, Nat.zero_le _, rfl, rfl, by omega, by omega, by simp [Hid, szS]⟩
  case round =>
    obtain ⟨k, r, hk, rfl, rfl, hr0, hrn, HR⟩ := hrel
    by_cases hlt : k < l.length
    · obtain ⟨g, off, rfl, hg, hc⟩ := hx.at k hlt
      have HN : Hid (r - (sAt l k).size = n - l.length - szS (l.take (k + 1))) := by
        have h1 := HR.out
        have h2 := szS_take l k hlt
        unfold Hid; omega
      have hle : ((sAt l k).size : Int) ≤ r := by
        have h1 := HR.out
        have h2 := szS_take l k hlt
        have h3 := HL.out (k + 1)
        omega
      generalize sAt l k = z at *
      go_wp2_with fail
      go_round
      case rel => exact ⟨k + 1, _, by omega, by go_num, rfl, by omega, by omega, HN⟩
      case measure => first | (simp [intOf]; done) | (simp [intOf]; omega)
    · have HN : Hid (r = n - (l.length + szS l : Nat)) := by
        have h1 := HR.out
        rw [List.take_of_length_le (by omega)] at h1
        unfold Hid; omega
      go_wp2_with fail
      go_ret
      exact ⟨_, rfl, HN, hr0, rfl⟩
set_option maxHeartbeats 1000000 in
theorem szStringS_no (v : Value) (l : List ByteArray) (n : Int) (w : World) (hx : RS w v l) (hn : 0 ≤ n ∧ n ≤ 1048576) (hm : l.length ≤ maxLen) (hz : ∀ k, k < l.length → (sAt l k).size ≤ maxLen) (hs : ¬ ((l.length + szS l : Nat) : Int) ≤ n) :
    Calls Try.prog 32 #[v, .int .i64 n] w fun e w' => e = .returned (.int .i64 (-1)) ∧ w = w' := by
  obtain ⟨a, c, rfl⟩ := hx.slice
  unfold maxLen at hm
  by_cases hl : (l.length : Int) ≤ n
  · have HZ := Lib.hid hz
    clear hz
    go_enter Try.func32, Try.ntmps32
    go_wp2_with fail
    go_loop [1, 5] (fun nv iv => ∃ (k : Nat) (r : Int), k ≤ l.length ∧ iv = .int .i64 k ∧ nv = .int .i64 r ∧ 0 ≤ r ∧ r ≤ n ∧ Hid (r = n - l.length - szS (l.take k))) (fun _ iv => l.length - (intOf iv).toNat)
    case atStart => exact ⟨0, _, Nat.zero_le _, rfl, rfl, by omega, by omega, by simp [Hid, szS]⟩
    case round =>
      obtain ⟨k, r, hk, rfl, rfl, hr0, hrn, HR⟩ := hrel
      by_cases hlt : k < l.length
      · obtain ⟨g, off, rfl, hg, hc⟩ := hx.at k hlt
        have HN : Hid (r - (sAt l k).size = n - l.length - szS (l.take (k + 1))) := by
          have h1 := HR.out
          have h2 := szS_take l k hlt
          unfold Hid; omega
        have hzk := HZ.out k hlt
        unfold maxLen at hzk
        by_cases hle : ((sAt l k).size : Int) ≤ r
        · generalize sAt l k = z at *
          go_wp2_with fail
          go_round
          case rel => exact ⟨k + 1, _, by omega, by go_num, rfl, by omega, by omega, HN⟩
          case measure => first | (simp [intOf]; done) | (simp [intOf]; omega)
        · generalize sAt l k = z at *
          go_wp2_with fail
          go_ret
          exact ⟨rfl, rfl⟩
      · exfalso
        have h1 := HR.out
        rw [List.take_of_length_le (by omega)] at h1
        omega
  · go_enter Try.func32, Try.ntmps32
    go_wp2_with fail
    go_ret
    exact ⟨rfl, rfl⟩

set_option maxHeartbeats 1000000 in
theorem indexStr_any (v : Value) (l : List ByteArray) (s : ByteArray) (w : World) (hx : RS w v l) (hm : l.length ≤ 1099511627776) :
    Calls Try.prog 61 #[v, .string s] w fun e w' => ∃ r : Int, e = .returned (.int .i64 r) ∧ Hid (decide (0 ≤ r) = hasS l s) ∧ w = w' := by
  obtain ⟨a, c, rfl⟩ := hx.slice
  go_enter Try.func61, Try.ntmps61
  go_wp2_with fail
  go_loop [8] (fun iv => ∃ k : Nat, k ≤ l.length ∧ iv = .int .i64 k ∧ Hid (∀ i, i < k → s ≠ sAt l i)) (fun iv => l.length - (intOf iv).toNat)
  case atStart => exact ⟨0, Nat.zero_le _, rfl, fun i hi => by omega⟩
  case round =>
    obtain ⟨k, hk, rfl, HK⟩ := hrel
    by_cases hlt : k < l.length
    · obtain ⟨g, off, rfl, hg, hc⟩ := hx.at k hlt
      by_cases he : s = sAt l k
      · have HM : Hid (s ∈ l) := by unfold Hid; rw [he]; simp [hlt]
        have h0 : (0 : Int) ≤ (k : Int) := by omega
        rw [← he] at hc
        clear he
        go_wp2_with fail
        go_ret
        exact ⟨_, rfl, by unfold Hid; rw [hasS_iff.2 HM.out]; simp, rfl⟩
      · have HK2 : Hid (∀ i, i < k + 1 → s ≠ sAt l i) := fun i hi => by
          by_cases e : i = k
          · subst e; exact he
          · exact HK.out i (by omega)
        have hne := str_ne he
        clear he
        generalize sAt l k = x at *
        go_wp2_with fail
        go_round
        case rel => exact ⟨k + 1, by omega, by go_num, HK2⟩
        case measure => first | (simp [intOf]; done) | (simp [intOf]; omega)
    · have HM : Hid (¬ s ∈ l) := fun hmem => by
        obtain ⟨i, hi, rfl⟩ := List.getElem_of_mem hmem
        exact HK.out i (by omega) (by simp [hi])
      go_wp2_with fail
      go_ret
      exact ⟨_, rfl, by unfold Hid; rw [hasS_no HM.out]; simp, rfl⟩
set_option maxHeartbeats 400000 in
theorem containsStr_any (v : Value) (l : List ByteArray) (s : ByteArray) (w : World) (hx : RS w v l) (hm : l.length ≤ 1099511627776) :
    Calls Try.prog 39 #[v, .string s] w fun e w' => e = .returned (.bool (hasS l s)) ∧ w = w' := by
  go_enter Try.func39, Try.ntmps39
  go_wp2_with fail
  refine (indexStr_any _ _ _ _ hx hm).mono ?_
  rintro e w' ⟨r, rfl, HR, rfl⟩
  go_wp2_with fail
  go_ret
  exact ⟨ret_bool (by have := HR.out; exact this), rfl⟩
end Go.Proofs.Ytdkheeocglfogaa
