/- Drawn texts: among, text, l07DrawText, B10Heard. -/
import Derived.Test.YtdlagajnefkklaaFrom
import Derived.Test.YtdlagajnefkklaaLibB
import Derived.Test.YtdlagajnefkklaaStrs
import Derived.Test.YtdlagajnefkklaaBytesM
import Derived.Test.YtdlagajnefkklaaSpeech
namespace Go.Proofs.Ytdlagajnefkklaa
open Go.RowKit

theorem str_bz {xs : List Int} (h : ∀ z ∈ xs, 0 ≤ z ∧ z ≤ 255) : bz (strOfNums xs) = xs := by
  have e : (strOfNums xs).data.toList = xs.map fun n => UInt8.ofNat n.toNat := by unfold strOfNums; simp
  unfold bz
  rw [e, List.map_map]
  have : ∀ l : List Int, (∀ z ∈ l, 0 ≤ z ∧ z ≤ 255) → l.map ((fun b : UInt8 => (b.toNat : Int)) ∘ fun n => UInt8.ofNat n.toNat) = l := by
    intro l
    induction l with
    | nil => intro _; rfl
    | cons a l ih =>
      intro hl
      rw [List.map_cons, ih fun z hz => hl z (by simp [hz])]
      have := hl a (by simp)
      congr 1
      show ((UInt8.ofNat a.toNat).toNat : Int) = a
      rw [UInt8.toNat_ofNat']
      omega
  exact this xs h
theorem str_size (xs : List Int) : (strOfNums xs).size = xs.length := strOfNums_size xs
def AmPost (p m n : Nat) (g : Nat) (w : World) (e : Ending) (w' : World) : Prop := ∃ k, k < n ∧ (∃ z, w.cell? ⟨g, k, none⟩ = some (.int .i64 z) ∧ e = .returned (.int .i64 z)) ∧ Src p (m + 1) w' ∧ Chg [p] w w'
theorem among_any (p m g n c : Nat) (w : World) (h : Src p m w) (hm : m ≤ 1048576) (hn : 1 ≤ n ∧ n ≤ 200) (hg : g ≠ p) (hl : ∀ k, k < n → ∃ z, w.cell? ⟨g, k, none⟩ = some (.int .i64 z)) :
    Calls Try.prog 78 #[.pointer (some ⟨p, 0, none⟩), .slice (some ⟨g, 0, none⟩) n c] w (AmPost p m n g w) := by
  go_enter Try.func78, Try.ntmps78
  go_wp2_with fail
  refine (pick_any p m n _ h hm (by omega)).mono ?_
  rintro e w1 ⟨z, rfl, hz, hs, hc⟩
  obtain ⟨k, rfl⟩ := Int.eq_ofNat_of_zero_le hz.1
  have hk : k < n := by omega
  obtain ⟨u, hu⟩ := hl k hk
  have hu1 := (cell_keep (o := k) (hc.block g (World.block_lt_of_cell? w _ hu) (by simpa using hg))).trans hu
  go_wp2_with fail
  go_ret
  exact ⟨k, hk, ⟨u, hu, rfl⟩, hs, hc⟩
def TxPost (p m n : Nat) (g : Nat) (w : World) (e : Ending) (w' : World) : Prop := ∃ k, k < n ∧ (∃ z, w.cell? ⟨g, k, none⟩ = some (.string z) ∧ e = .returned (.string z)) ∧ Src p (m + 1) w' ∧ Chg [p] w w'
theorem text_any (p m g n c : Nat) (w : World) (h : Src p m w) (hm : m ≤ 1048576) (hn : 1 ≤ n ∧ n ≤ 200) (hg : g ≠ p) (hl : ∀ k, k < n → ∃ z, w.cell? ⟨g, k, none⟩ = some (.string z)) :
    Calls Try.prog 77 #[.pointer (some ⟨p, 0, none⟩), .slice (some ⟨g, 0, none⟩) n c] w (TxPost p m n g w) := by
  go_enter Try.func77, Try.ntmps77
  go_wp2_with fail
  refine (pick_any p m n _ h hm (by omega)).mono ?_
  rintro e w1 ⟨z, rfl, hz, hs, hc⟩
  obtain ⟨k, rfl⟩ := Int.eq_ofNat_of_zero_le hz.1
  have hk : k < n := by omega
  obtain ⟨u, hu⟩ := hl k hk
  have hu1 := (cell_keep (o := k) (hc.block g (World.block_lt_of_cell? w _ hu) (by simpa using hg))).trans hu
  go_wp2_with fail
  go_ret
  exact ⟨k, hk, ⟨u, hu, rfl⟩, hs, hc⟩
theorem OK.chgP {T : TypeId} {k : IntKind} {B p : Nat} {w w' : World} {v : Value} {xs : List Int} (h : OK T k B w v xs) (hc : Chg [p] w w') (hp : p < B) : OK T k B w' v xs :=
  h.chg hc fun b hb hm => by
    have := h.vb b hb
    simp at hm
    omega
theorem chg_below {p : Nat} {w0 w w' : World} {S : Nat} (hc : Chg [p] w0 w) (hS : w0.heap.size ≤ S) (hb : Below S w w') : Chg [p] w0 w' := by
  refine ⟨hb.os.trans hc.os, hb.tape.trans hc.tape, hb.output.trans hc.output, Nat.le_trans hc.size hb.size, fun k hk hn => ?_⟩
  rw [hb.block k (by omega)]
  exact hc.block k hk hn
def HdPost (w : World) (e : Ending) (w' : World) : Prop := ∃ z, e = .returned (.string z) ∧ letB z 20 = true ∧ z.size ≤ 6 ∧ Below w.heap.size w w'
set_option maxHeartbeats 1000000 in
theorem b10Heard_any (v : Value) (cs : List Int) (w : World) (hx : RK .u8 w v cs) (hw : ∀ x ∈ cs, (Lit.int .u8 x).wf = true) (hm : cs.length ≤ 1048576) :
    Calls Try.prog 27 #[v] w (HdPost w) := by
  go_enter Try.func27, Try.ntmps27
  go_wp2_with fail
  refine (from_any v cs _ hx hw hm).mono ?_
  rintro e w1 ⟨rfl, hs, hb⟩
  have hpl := hs.lt
  go_wp2_with fail
  have hb1 : Below w1.heap.size w1 (w1.alloc (.cells #[] 5)) := (Below.refl _ _).alloc (Nat.le_refl _) _
  have ho : OB w1.heap.size (w1.alloc (.cells #[] 5)) (.slice (some ⟨w1.heap.size, 0, none⟩) 0 0) [] := OK.made _ _ _ (Nat.le_refl _)
  replace hs := hs.later hb1
  have hz0 : w1.heap.size ≤ (w1.alloc (.cells #[] 5)).heap.size := hb1.size
  replace hb := hb.trans (hb1.mono hb.size)
  clear hb1
  generalize w1.alloc (.cells #[] 5) = w2 at *
  generalize Value.slice (some ⟨w1.heap.size, 0, none⟩) 0 0 = v0 at *
  refine (pick_any _ _ 7 _ hs (by omega) (by omega)).mono ?_
  rintro e w3 ⟨z, rfl, hz, hs3, hc⟩
  obtain ⟨n, rfl⟩ := Int.eq_ofNat_of_zero_le hz.1
  have ho3 := ho.chgP hc hpl
  have hb3 := hc.below hb (by simp) hb.size
  have hz3 := hc.size
  clear hs ho hb hc
  go_wp2_with fail
  go_loopw [4, 5] (fun ov nv wr => ∃ (k : Nat) (xs : List Int), nv = .int .i64 k ∧ OB w1.heap.size wr ov xs ∧ Hid (∀ z ∈ xs, 97 ≤ z ∧ z ≤ 100) ∧ xs.length + k ≤ 6 ∧ Src w.heap.size (1 + (6 - k)) wr ∧ w1.heap.size ≤ wr.heap.size ∧ Below w.heap.size w wr) (fun _ nv _ => (intOf nv).toNat)
  case atStart => exact ⟨n, [], rfl, ho3, fun z hz => by simp at hz, by simp; omega, hs3.mono (by omega), by omega, hb3⟩
  case round =>
    clear hs3 ho3 hb3
    obtain ⟨k, xs, rfl, ho, HX, hlen, hs, hzr, hb⟩ := hrel
    by_cases hk : 0 < k
    · go_wp2_with fail
      refine (pick_any _ _ 4 _ hs (by omega) (by omega)).mono ?_
      rintro e w4 ⟨z, rfl, hz, hs4, hc⟩
      have ho4 := ho.chgP hc hpl
      have hb4 := hc.below hb (by simp) hb.size
      have hz4 := hc.size
      clear hs ho hb hc
      have hw8 : IntKind.u8.wrap (97 + z) = 97 + z := by rw [IntKind.wrap_u8]; omega
      have HX2 : Hid (∀ y ∈ xs ++ [97 + z], 97 ≤ y ∧ y ≤ 100) := fun y hy => by
        rcases List.mem_append.1 hy with h | h
        · exact HX.out y h
        · have := List.mem_singleton.1 h; omega
      go_wp2_with (at_builtin; refine wpl_app_u8 rfl _ _ rfl w1.heap.size _ _ rfl (ho4.alloc _) _ _ _ rfl (World.cell?_alloc_at _ _ _ _ rfl) (by omega) (by simp; omega) ?_; intro v' w5 ho5 hgr)
      have hbs : Below w1.heap.size w4 w5 := own_below ((Below.refl w1.heap.size w4).alloc (by omega) _) (ho4.alloc _) hgr (by simp; omega)
      have hs5 : Src w.heap.size (1 + (6 - (k - 1))) w5 := (hs4.below hbs hpl).mono (by omega)
      have hz5 := hbs.size
      go_roundw
      case rel => exact ⟨k - 1, _, by rw [show ((k - 1 : Nat) : Int) = (k : Int) - 1 by omega], ho5, HX2, by simp; omega, hs5, by omega, hb4.trans (hbs.mono (by omega))⟩
      case measure => first | (simp [intOf]; done) | (simp [intOf]; omega)
    · have hst := ho.str
      have HL : Hid (letB (strOfNums xs) 20 = true) := by
        unfold Hid letB
        rw [str_bz (fun z hz => by have := HX.out z hz; omega), str_size, Bool.and_eq_true, List.all_eq_true]
        exact ⟨fun z hz => by have := HX.out z hz; unfold isL; simp; omega, by simp; omega⟩
      have HZ : Hid ((strOfNums xs).size ≤ 6) := by unfold Hid; rw [str_size]; omega
      go_wp2_with fail
      go_ret
      exact ⟨_, rfl, HL.out, HZ.out, hb⟩
end Go.Proofs.Ytdlagajnefkklaa
