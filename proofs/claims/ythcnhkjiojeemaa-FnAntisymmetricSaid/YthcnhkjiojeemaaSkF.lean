/- The program's FirstTotally and CountTotally. -/
import Derived.Test.YthcnhkjiojeemaaSk2
namespace Go.Proofs.Ythcnhkjiojeemaa
open Go.RowKit

set_option maxHeartbeats 2000000 in
theorem cloneTable_any (v : Value) (x : List (List Int)) (w : World) (hx : RT w v x) (hm : x.length ≤ 1048576) (hr : Small x) :
    Calls Try.prog 36 #[v] w fun e w' => ∃ v', e = .returned v' ∧ OT w.heap.size w'.heap.size w' v' x ∧ Below w.heap.size w w' := by
  obtain ⟨a, c, rfl⟩ := hx.slice
  go_enter Try.func36, Try.ntmps36
  go_wp2_with fail
  have hb : Below w.heap.size w (w.alloc (.cells #[] 29)) := (Below.refl _ _).alloc (Nat.le_refl _) _
  have ho : OT w.heap.size (w.heap.size + 1) (w.alloc (.cells #[] 29)) (.slice (some ⟨w.heap.size, 0, none⟩) 0 0) (x.take 0) := ⟨[], OV.made _ _ (Nat.le_refl _), fun k hk => by simp [Value.ownBlock] at hk; omega, Rows.nil _ _ _ _⟩
  have hsz : w.heap.size + 1 ≤ (w.alloc (.cells #[] 29)).heap.size := by simp
  generalize w.alloc (.cells #[] 29) = w1 at *
  generalize Value.slice (some ⟨w.heap.size, 0, none⟩) 0 0 = v0 at *
  go_loopw [3, 9] (fun ov iv wr => ∃ k S : Nat, k ≤ x.length ∧ iv = .int .i64 k ∧ w.heap.size ≤ S ∧ S ≤ wr.heap.size ∧ OT w.heap.size S wr ov (x.take k) ∧ Below w.heap.size w wr) (fun _ iv _ => x.length - (intOf iv).toNat)
  case atStart => exact ⟨0, _, Nat.zero_le _, rfl, by omega, hsz, ho, hb⟩
  case round =>
    clear ho hb hsz
    obtain ⟨k, S, hk, rfl, hS1, hS2, ho, hb⟩ := hrel
    by_cases hlt : k < x.length
    · obtain ⟨rs, h1, h3, hl⟩ := ho.parts
      rw [List.length_take] at hl
      have hrl : rs.length ≤ 1099511627776 := by omega
      obtain ⟨g, off, r, rfl, hg, hc, hri⟩ := (hx.later hb).at k hlt
      obtain ⟨ra, rc, rfl⟩ := hri.slice
      have hrk := hr.out k hlt
      have HTK : Hid (x.take (k + 1) = x.take k ++ [rowAt x k]) := take_snocT hlt
      have H3 := Lib.hid h3
      have H1 := Lib.hid h1
      have HCL := Lib.hid (clone_any _ _ _ hri hrk)
      clear ho hl h1 h3 hri
      go_wp2_with (first | (go_at_call 63; refine HCL.out.mono ?_; rintro e w4 ⟨u, rfl, hou, hb4⟩; obtain ⟨ua, uc, rfl⟩ := hou.slice; have h1 := H1.out.later hb4; have h3 : Rows w.heap.size S w4 _ rs _ := H3.out.keep (fun q _ h2 _ => hb4.block q (by omega)); have hz4 := hb4.size) | (at_builtin; refine wpl_app Try.underlying24 info_row rfl (by omega) rfl _ _ rfl w.heap.size _ _ rfl (h1.alloc _) _ _ _ rfl (World.cell?_alloc_at _ _ _ _ rfl) rfl (by omega) (by simp; omega) ?_; intro v' w5 hv hgr))
      have hp := OT.push h1 h3 (by omega) hS1 (hou.mono hS2) hv hgr
      rw [← HTK.out] at hp
      have hb5 : Below w.heap.size w w5 := (hb.trans (hb4.mono hb.size)).trans hp.2
      go_roundw
      case rel => exact ⟨k + 1, _, by omega, by go_num, by have := hp.2.size; omega, Nat.le_refl _, hp.1, hb5⟩
      case measure => first | (simp [intOf]; done) | (simp [intOf]; omega)
    · obtain rfl : k = x.length := by omega
      rw [List.take_of_length_le (Nat.le_refl _)] at ho
      go_wp2_with fail
      go_ret
      exact ⟨_, rfl, ho.mono hS2, hb⟩
def NsPost (n : Nat) (w : World) (e : Ending) (w' : World) : Prop := ∃ p0 G H P C, e = .returned (.pointer (some ⟨p0, 0, none⟩)) ∧ TbAt w.heap.size p0 G H P C n (fun _ _ => -1) w' ∧ SkAt p0 n G C w' ∧ Below w.heap.size w w'
set_option maxHeartbeats 1000000 in
theorem newSeeker_any (n : Nat) (w : World) (hn : 1 ≤ n ∧ n ≤ 5) :
    Calls Try.prog 33 #[.int .i64 n] w (NsPost n w) := by
  have HF : Hid (∀ (wx : World) (i j : Nat), Calls Try.prog 60 #[.int .i64 (i : Nat), .int .i64 (j : Nat)] wx fun e w' => e = .returned (.int .i64 (-1)) ∧ Drw wx w') := fun wx i j => by
    go_enter Try.func60, Try.ntmps60
    go_wp2_with fail
    go_ret
    exact ⟨rfl, Drw.refl _⟩
  have HMD := Lib.hid (madeSk n (fun _ _ => -1) w (by omega) trivial (fun wx i j _ _ _ => HF.out wx i j))
  go_enter Try.func33, Try.ntmps33
  go_wp2_with fail
  refine HMD.out.mono ?_
  rintro e w1 ⟨v, rfl, ho, hb⟩
  obtain ⟨G, H, P, C, rfl, htb⟩ := ho.tbl hn.1 (Nat.le_refl _)
  have hb1 : Below w1.heap.size w1 (w1.alloc (.cells #[.int .i64 n, .slice (some ⟨G, 0, none⟩) n C] 80)) := (Below.refl _ _).alloc (Nat.le_refl _) _
  have hfin : NsPost n w (.returned (.pointer (some ⟨w1.heap.size, 0, none⟩))) (w1.alloc (.cells #[.int .i64 n, .slice (some ⟨G, 0, none⟩) n C] 80)) :=
    ⟨_, G, H, P, C, rfl, htb.later hb1, ⟨World.cell?_alloc_at _ _ _ _ rfl, World.cell?_alloc_at _ _ _ _ rfl⟩, hb.trans (hb1.mono hb.size)⟩
  clear ho htb hb1 hb
  go_wp2_with fail
  go_ret
  exact hfin
theorem cell_keepK {w w' : World} {k o : Nat} (h : w'.heap[k]? = w.heap[k]?) : w'.cell? ⟨k, o, none⟩ = w.cell? ⟨k, o, none⟩ := by
  unfold World.cell?; simp only [h]
theorem frozen_keepK {w w' : World} {k o : Nat} (h : w'.heap[k]? = w.heap[k]?) : w'.frozen? ⟨k, o, none⟩ = w.frozen? ⟨k, o, none⟩ := by
  unfold World.frozen?; simp only [h]
def Ok1 (k : Nat) (w : World) : Prop := (∃ v, w.cell? ⟨k, 0, none⟩ = some v) ∧ w.frozen? ⟨k, 0, none⟩ = false
def Fin1 (n k p : Nat) (t : TF) (w w' : World) (b : Bool) : Prop := (b = true ∧ ∃ fv F, w'.cell? ⟨k, 0, none⟩ = some fv ∧ OT w.heap.size w'.heap.size w' fv (mkT n F) ∧ Lex n p t F) ∨ (b = false ∧ (∀ u, ¬ Compl n p t u) ∧ Ok1 k w')
def Prt1 (n k p x y : Nat) (t : TF) (_w w1 : World) (c : Nat) : Prop := Ok1 k w1 ∧ ∀ u, Compl n p t u → (c : Int) ≤ u x y
theorem skI1 (n k : Nat) : SkI n k (Ok1 k) (Fin1 n k) (Prt1 n k) := by
  have keep : ∀ {w w' : World}, Ok1 k w → w'.heap[k]? = w.heap[k]? → Ok1 k w' := fun {w w'} h e => ⟨by rw [cell_keepK e]; exact h.1, by rw [frozen_keepK e]; exact h.2⟩
  refine ⟨keep, fun hx hy h e => ⟨keep h e, fun u hu => (hu.ta.q.bd _ _ hx hy).1⟩, fun h e hu => ⟨keep h.1 e, fun u hc => by have := h.2 u hc; have := hu u hc; omega⟩, ?_, ?_, ?_, fun h => h.1, ?_⟩
  · rintro p x y c t w w1 w2 w3 rfl hx hy hc h e hz hf
    rcases hf with ⟨_, fv, F, h1, h2, h3⟩ | ⟨h1, _⟩
    · exact .inl ⟨rfl, fv, F, h1, h2.monoB hz, h3.step hx hy h.2⟩
    · cases h1
  · rintro p x y c t w w1 w2 w3 w4 rfl hx hy hc h e hf e4
    rcases hf with ⟨h1, _⟩ | ⟨_, h1, h2⟩
    · cases h1
    · refine ⟨keep h2 e4, fun u hu => ?_⟩
      have h3 := h.2 u hu
      have h4 : u x y ≠ (c : Int) := fun e => h1 u ((compl_step hx hy).2 ⟨hu, e⟩)
      omega
  · rintro p x y t w w1 w2 rfl hx hy h e
    exact .inr ⟨rfl, fun u hu => by have h1 := h.2 u hu; have h2 := (hu.ta.q.bd x y hx hy).2; omega, keep h.1 e⟩
  · rintro p t w w1 (⟨h, _⟩ | ⟨_, _, h⟩)
    · cases h
    · exact h
end Go.Proofs.Ythcnhkjiojeemaa
