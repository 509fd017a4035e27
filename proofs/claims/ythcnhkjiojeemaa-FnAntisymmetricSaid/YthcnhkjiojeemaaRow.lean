/- Rows appended to a table that the call owns; copies of rows and tables; blank tables. -/
import Derived.Test.YthcnhkjiojeemaaTb
import Derived.Test.YthcnhkjiojeemaaApps
import Derived.Lib.SliceRun
namespace Go.Proofs.Ythcnhkjiojeemaa
open Go.RowKit

theorem OT.push {B S : Nat} {w w5 : World} {v v' u : Value} {rs : List Value} {x : List (List Int)} {y : List Int} {T : TypeId} (h1 : OV 29 B w v rs) (h3 : Rows B S w v.ownBlock rs x) (hS : S ≤ w.heap.size) (hB : B ≤ S)
    (hu : OI S w u y) (hv : OV 29 B w5 v' (rs ++ [u])) (hg : (w.alloc (.cells #[u] T)).grownBy w5 v.ownBlock) : OT B w5.heap.size w5 v' (x ++ [y]) ∧ Below B w w5 := by
  have hb1 : Below w.heap.size w (w.alloc (.cells #[u] T)) := (Below.refl _ _).alloc (Nat.le_refl _) _
  have hBl : Below B w w5 := own_below ((Below.refl B w).alloc (by omega) _) (h1.alloc _) hg (by simp; omega)
  exact ⟨OT.app (h1.alloc _) (h3.keep fun k _ h2 _ => hb1.block k (by omega)) (by simp; omega) hB (hu.alloc _) hv hg, hBl⟩
theorem OT.parts {B S : Nat} {w : World} {v : Value} {x : List (List Int)} (h : OT B S w v x) : ∃ rs, OV 29 B w v rs ∧ Rows B S w v.ownBlock rs x ∧ rs.length = x.length := by
  obtain ⟨rs, h1, _, h3⟩ := h
  exact ⟨rs, h1, h3, h3.1⟩
theorem rep_snoc {α : Type} (k : Nat) (a : α) : List.replicate k a ++ [a] = List.replicate (k + 1) a := by rw [List.replicate_succ']
set_option maxHeartbeats 1000000 in
theorem l00Own_any (v : Value) (xs : List Int) (w : World) (hx : RI w v xs) (hm : xs.length ≤ 1048576) :
    Calls Try.prog 65 #[v] w fun e w' => ∃ v', e = .returned v' ∧ OI w.heap.size w' v' xs ∧ Below w.heap.size w w' := by
  go_enter Try.func65, Try.ntmps65
  have hb : Below w.heap.size w (w.alloc (.cells #[] 2)) := (Below.refl _ _).alloc (Nat.le_refl _) _
  have ho : OV 2 w.heap.size (w.alloc (.cells #[] 2)) (.slice (some ⟨w.heap.size, 0, none⟩) 0 0) [] := OV.made _ _ (Nat.le_refl _)
  go_wp2_with (at_builtin; refine wpl_apps Try.underlying29 info_i64 rfl (by omega) rfl _ _ rfl w.heap.size _ _ rfl ho _ _ rfl (RV.later hx hb) (fun u hu => by obtain ⟨z, _, rfl⟩ := List.mem_map.1 hu; rfl) (by simp; omega) (by simp) ?_; intro v' w2 ho2 hgr)
  have hb2 : Below w.heap.size w w2 := own_below hb ho hgr (by simp)
  have ho3 : OI w.heap.size w2 v' xs := by unfold OI OK; simpa using ho2
  go_ret
  exact ⟨_, rfl, ho3, hb2⟩
set_option maxRecDepth 100000 in
set_option maxHeartbeats 1000000 in
theorem clone_any (v : Value) (xs : List Int) (w : World) (hx : RI w v xs) (hm : xs.length ≤ 1048576) :
    Calls Try.prog 63 #[v] w fun e w' => ∃ v', e = .returned v' ∧ OI w.heap.size w' v' xs ∧ Below w.heap.size w w' := by
  obtain ⟨a, c, rfl⟩ := hx.slice
  cases a with
  | none =>
    have hxe : xs = [] := by
      cases xs with
      | nil => rfl
      | cons x xs => obtain ⟨g, off, h, _⟩ := hx.at 0 (by simp); cases h
    subst hxe
    have hnil := fun (w : World) => Lib.run_eql_slice_nil (P := Try.prog) w 29 2 none 0 c 0 0 Try.underlying29
    go_enter Try.func63, Try.ntmps63
    go_wp2_with fail
    go_ret
    exact ⟨_, rfl, OK.nil _ _ _ _, Below.refl _ _⟩
  | some ad =>
    have hb : Below w.heap.size w (w.alloc (.cells #[] 2)) := (Below.refl _ _).alloc (Nat.le_refl _) _
    have ho : OV 2 w.heap.size (w.alloc (.cells #[] 2)) (.slice (some ⟨w.heap.size, 0, none⟩) 0 0) [] := OV.made _ _ (Nat.le_refl _)
    have hnil := fun (w : World) => Lib.run_eql_slice_nil (P := Try.prog) w 29 2 (some ad) xs.length c 0 0 Try.underlying29
    go_enter Try.func63, Try.ntmps63
    go_wp2_with (at_builtin; refine wpl_apps Try.underlying29 info_i64 rfl (by omega) rfl _ _ rfl w.heap.size _ _ rfl ho _ _ rfl (RV.later hx hb) (fun u hu => by obtain ⟨z, _, rfl⟩ := List.mem_map.1 hu; rfl) (by simp; omega) (by simp) ?_; intro v' w2 ho2 hgr)
    have hb2 : Below w.heap.size w w2 := own_below hb ho hgr (by simp)
    have ho3 : OI w.heap.size w2 v' xs := by unfold OI OK; simpa using ho2
    go_ret
    exact ⟨_, rfl, ho3, hb2⟩
set_option maxHeartbeats 2000000 in
theorem l04Blank_any (n : Nat) (w : World) (hn : n ≤ 1048576) :
    Calls Try.prog 39 #[.int .i64 n] w fun e w' => ∃ v', e = .returned v' ∧ OT w.heap.size w'.heap.size w' v' (List.replicate n (List.replicate n 0)) ∧ Below w.heap.size w w' := by
  go_enter Try.func39, Try.ntmps39
  go_wp2_with fail
  have hb : Below w.heap.size w (w.alloc (.cells #[] 29)) := (Below.refl _ _).alloc (Nat.le_refl _) _
  have ho : OT w.heap.size (w.heap.size + 1) (w.alloc (.cells #[] 29)) (.slice (some ⟨w.heap.size, 0, none⟩) 0 0) (List.replicate 0 (List.replicate n 0)) := ⟨[], OV.made _ _ (Nat.le_refl _), fun k hk => by simp [Value.ownBlock] at hk; omega, Rows.nil _ _ _ _⟩
  have hsz : w.heap.size + 1 ≤ (w.alloc (.cells #[] 29)).heap.size := by simp
  generalize w.alloc (.cells #[] 29) = w1 at *
  generalize Value.slice (some ⟨w.heap.size, 0, none⟩) 0 0 = v0 at *
  go_loopw [3, 4] (fun ov iv wr => ∃ k S : Nat, k ≤ n ∧ iv = .int .i64 k ∧ w.heap.size ≤ S ∧ S ≤ wr.heap.size ∧ OT w.heap.size S wr ov (List.replicate k (List.replicate n 0)) ∧ Below w.heap.size w wr) (fun _ iv _ => n - (intOf iv).toNat)
  case atStart => exact ⟨0, _, Nat.zero_le _, rfl, by omega, hsz, ho, hb⟩
  case round =>
    clear ho hb hsz
    obtain ⟨k, S, hk, rfl, hS1, hS2, ho, hb⟩ := hrel
    by_cases hlt : k < n
    · obtain ⟨rs, h1, h3, hl⟩ := ho.parts
      rw [List.length_replicate] at hl
      have HL := Lib.hid hl
      have hrl : rs.length ≤ 1099511627776 := by omega
      have hki : (k : Int) < (n : Int) := by omega
      clear ho hl
      have H3 := Lib.hid h3
      have H1 := Lib.hid h1
      clear h1 h3
      go_wp2_with (first | (at_make; refine wpl_make_i64 rfl _ _ rfl wr.heap.size .i64 .i64 _ _ n rfl rfl rfl rfl (by omega) (Nat.le_refl _) ?_; intro w2 ho1 hgr2 hlt2; have hb2 : Below wr.heap.size wr w2 := (Below.refl _ _).grown hgr2 (Nat.le_refl _) (by simp); have h1 := H1.out.later hb2; have h3 : Rows w.heap.size S w2 _ rs _ := H3.out.keep (fun q _ h2 _ => hb2.block q (by omega)); have hz2 := hb2.size) | (at_builtin; refine wpl_app Try.underlying24 info_row rfl (by omega) rfl _ _ rfl w.heap.size _ _ rfl (h1.alloc _) _ _ _ rfl (World.cell?_alloc_at _ _ _ _ rfl) rfl (by omega) (by simp; omega) ?_; intro v' w5 hv hgr))
      have hp := OT.push h1 h3 (by omega) hS1 (ho1.mono hS2) hv hgr
      rw [rep_snoc] at hp
      have hb5 : Below w.heap.size w w5 := (hb.trans (hb2.mono hb.size)).trans hp.2
      go_roundw
      case rel => exact ⟨k + 1, _, by omega, by go_num, by have := hp.2.size; omega, Nat.le_refl _, hp.1, hb5⟩
      case measure => first | (simp [intOf]; done) | (simp [intOf]; omega)
    · obtain rfl : k = n := by omega
      go_wp2_with fail
      go_ret
      exact ⟨_, rfl, ho.mono hS2, hb⟩
end Go.Proofs.Ythcnhkjiojeemaa
