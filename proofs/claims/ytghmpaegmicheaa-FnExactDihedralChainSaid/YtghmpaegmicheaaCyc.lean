/- Cyclic and dihedral groups: the reference's tables, row by row. -/
import Derived.Test.YtghmpaegmicheaaMade
import Derived.Test.YtghmpaegmicheaaGrpM
import Derived.Test.YtghmpaegmicheaaIn
namespace Go.Proofs.Ytghmpaegmicheaa
open Go.RowKit

def cycF (n : Nat) (i j : Nat) : Int := (((i + j) % n : Nat) : Int)
theorem take_row {n : Nat} {f : Nat → Nat → Int} {i j : Nat} (hi : i < n) (hj : j < n) : (rowAt (mkT n f) i).take (j + 1) = (rowAt (mkT n f) i).take j ++ [f i j] := by
  rw [List.take_succ_eq_append_getElem (by rw [mkT_rowlen _ _ _ hi]; exact hj)]
  congr 2
  have := mkT_get n f i j hi hj
  rw [List.getD_eq_getElem?_getD, List.getElem?_eq_getElem (by rw [mkT_rowlen _ _ _ hi]; exact hj)] at this
  simpa using this
/-- Where the table of a group lies while it is made: its box behind h, its blocks from h + 2 on. -/
structure Mk (h : Nat) (n : Nat) (f : Nat → Nat → Int) (i S : Nat) (tv : Value) (w0 w : World) : Prop where
  c0 : w.cell? ⟨h, 0, none⟩ = some (.slice none 0 0)
  f0 : w.frozen? ⟨h, 0, none⟩ = false
  c1 : w.cell? ⟨h + 1, 0, none⟩ = some tv
  f1 : w.frozen? ⟨h + 1, 0, none⟩ = false
  sz : h + 2 ≤ S ∧ S ≤ w.heap.size
  t : OT (h + 2) S w tv ((mkT n f).take i)
  b : Below h w0 w
theorem Mk.later {h n : Nat} {f : Nat → Nat → Int} {i S : Nat} {tv : Value} {w0 w w' : World} (m : Mk h n f i S tv w0 w) (hb : Below w.heap.size w w') : Mk h n f i S tv w0 w' := by
  have hs := m.sz
  refine ⟨(hb.cell (p := ⟨h, 0, none⟩) (by show h < _; omega)).trans m.c0, (hb.frozen (p := ⟨h, 0, none⟩) (by show h < _; omega)).trans m.f0, (hb.cell (p := ⟨h + 1, 0, none⟩) (by show h + 1 < _; omega)).trans m.c1,
    (hb.frozen (p := ⟨h + 1, 0, none⟩) (by show h + 1 < _; omega)).trans m.f1, ⟨hs.1, Nat.le_trans hs.2 hb.size⟩, m.t.later hb hs.2, m.b.trans (hb.mono (by omega))⟩
theorem Mk.drew {h n : Nat} {f : Nat → Nat → Int} {i S : Nat} {tv : Value} {w0 w : World} (m : Mk h n f i S tv w0 w) : Mk h n f i S tv w0 w.drew := m.later (Below.refl _ _).drew
theorem Mk.drewN {h n : Nat} {f : Nat → Nat → Int} {i S : Nat} {tv : Value} {w0 w : World} (m : Mk h n f i S tv w0 w) (k : Nat) : Mk h n f i S tv w0 (w.drewN k) := m.later (below_drewN (Below.refl _ _) _)
theorem Mk.below {h n : Nat} {f : Nat → Nat → Int} {i S B : Nat} {tv : Value} {w0 w w' : World} (m : Mk h n f i S tv w0 w) (hS : S ≤ B) (hB : B ≤ w.heap.size) (hb : Below B w w') : Mk h n f i S tv w0 w' := by
  have hs := m.sz
  refine ⟨(hb.cell (p := ⟨h, 0, none⟩) (by show h < _; omega)).trans m.c0, (hb.frozen (p := ⟨h, 0, none⟩) (by show h < _; omega)).trans m.f0, (hb.cell (p := ⟨h + 1, 0, none⟩) (by show h + 1 < _; omega)).trans m.c1,
    (hb.frozen (p := ⟨h + 1, 0, none⟩) (by show h + 1 < _; omega)).trans m.f1, ⟨hs.1, Nat.le_trans hs.2 hb.size⟩, m.t.keep fun k h1 h2 => hb.block k (by omega), m.b.trans (hb.mono (by omega))⟩
/-- A row more in the table. -/
theorem Mk.next {h n : Nat} {f : Nat → Nat → Int} {i S : Nat} {tv tv' u : Value} {rs : List Value} {w0 w w5 : World} {T : TypeId} (m : Mk h n f i S tv w0 w) (hi : i < n)
    (h1 : OV 26 (h + 2) w tv rs) (h3 : Rows (h + 2) S w tv.ownBlock rs ((mkT n f).take i)) (hu : OI S w u (rowAt (mkT n f) i))
    (hv : OV 26 (h + 2) w5 tv' (rs ++ [u])) (hg : (w.alloc (.cells #[u] T)).grownBy w5 tv.ownBlock) :
    Mk h n f (i + 1) w5.heap.size tv' w0 (w5.setCell ⟨h + 1, 0, none⟩ tv') := by
  have hs := m.sz
  have hb1 : Below w.heap.size w (w.alloc (.cells #[u] T)) := (Below.refl _ _).alloc (Nat.le_refl _) _
  have hB : Below (h + 2) w w5 := own_below ((Below.refl (h + 2) w).alloc (by omega) _) (h1.alloc _) hg (by simp; omega)
  have hsz := hB.size
  have ht : OT (h + 2) w5.heap.size w5 tv' ((mkT n f).take i ++ [rowAt (mkT n f) i]) :=
    OT.app (h1.alloc _) (h3.keep fun k h1 h2 _ => hb1.block k (by omega)) (by simp; omega) hs.1 (hu.alloc _) hv hg
  have e : (mkT n f).take (i + 1) = (mkT n f).take i ++ [rowAt (mkT n f) i] := take_snocT (by rw [mkT_len]; exact hi)
  have k0 : w5.cell? ⟨h, 0, none⟩ = some (.slice none 0 0) := (hB.cell (p := ⟨h, 0, none⟩) (by show h < _; omega)).trans m.c0
  have k1 : w5.cell? ⟨h + 1, 0, none⟩ = some tv := (hB.cell (p := ⟨h + 1, 0, none⟩) (by show h + 1 < _; omega)).trans m.c1
  have g0 : w5.frozen? ⟨h, 0, none⟩ = false := (hB.frozen (p := ⟨h, 0, none⟩) (by show h < _; omega)).trans m.f0
  have g1 : w5.frozen? ⟨h + 1, 0, none⟩ = false := (hB.frozen (p := ⟨h + 1, 0, none⟩) (by show h + 1 < _; omega)).trans m.f1
  refine ⟨?_, ?_, ?_, ?_, ⟨by omega, by simp⟩, ?_, (m.b.trans (hB.mono (by omega))).setCell (by show h ≤ h + 1; omega) _⟩
  · rw [World.cell?_setCell_other (h := by simp)]; exact k0
  · rw [World.frozen?_setCell]; exact g0
  · exact World.cell?_setCell_same (h := k1) ..
  · rw [World.frozen?_setCell]; exact g1
  · rw [e]
    exact ht.keep fun k h1 h2 => heap_setCell_other _ _ _ _ (by show k ≠ h + 1; omega)

set_option maxHeartbeats 4000000 in
theorem l05Cyclic_any (n : Nat) (w : World) (hn : 1 ≤ n ∧ n ≤ 10) :
    Calls Try.prog 98 #[.int .i64 n] w fun e w' => ∃ u, e = .returned (.agg #[u]) ∧ OT w.heap.size w'.heap.size w' u (mkT n (cycF n)) ∧ Below w.heap.size w w' := by
  have M0 : Mk w.heap.size n (cycF n) 0 (w.heap.size + 2) (.slice none 0 0) w ((w.alloc (.cells #[.slice none 0 0] 29)).alloc (.cells #[.slice none 0 0] 29)) := by
    refine ⟨?_, ?_, ?_, ?_, ⟨by omega, by simp⟩, OT.nil _ _ _, ((Below.refl _ _).alloc (Nat.le_refl _) _).alloc (by simp) _⟩
    all_goals first | rfl | (simp [go_sem]; done) | skip
  go_enter Try.func98, Try.ntmps98
  go_wp2_with fail
  generalize (w.alloc (.cells #[.slice none 0 0] 29)).alloc (.cells #[.slice none 0 0] 29) = w2 at *
  go_loopw [4] (fun iv wr => ∃ (i S : Nat) (tv : Value), i ≤ n ∧ iv = .int .i64 i ∧ Mk w.heap.size n (cycF n) i S tv w wr) (fun iv _ => n - (intOf iv).toNat)
  case atStart => exact ⟨0, _, _, Nat.zero_le _, rfl, M0⟩
  case round =>
    obtain ⟨i, S, tv, hi, rfl, M⟩ := hrel
    clear M0
    by_cases hil : i < n
    · go_wp2_with fail
      have hb1 : Below wr.heap.size wr (wr.alloc (.cells #[] 2)) := (Below.refl _ _).alloc (Nat.le_refl _) _
      have ho0 : OI wr.heap.size (wr.alloc (.cells #[] 2)) (.slice (some ⟨wr.heap.size, 0, none⟩) 0 0) ((rowAt (mkT n (cycF n)) i).take 0) := OK.made _ _ _ (Nat.le_refl _)
      have hR : S ≤ wr.heap.size := M.sz.2
      have M1 := M.later hb1
      have hR2 : wr.heap.size ≤ (wr.alloc (.cells #[] 2)).heap.size := by simp
      generalize wr.alloc (.cells #[] 2) = w3 at *
      generalize Value.slice (some ⟨wr.heap.size, 0, none⟩) 0 0 = v0 at *
      generalize wr.heap.size = R at *
      clear M hb1
      go_loopw [5, 6] (fun rv jv wr => ∃ j : Nat, j ≤ n ∧ jv = .int .i64 j ∧ R ≤ wr.heap.size ∧ OI R wr rv ((rowAt (mkT n (cycF n)) i).take j) ∧ Mk w.heap.size n (cycF n) i S tv w wr) (fun _ jv _ => n - (intOf jv).toNat)
      case atStart => exact ⟨0, Nat.zero_le _, rfl, hR2, ho0, M1⟩
      case round =>
        obtain ⟨j, hj, rfl, hRz, ho, M⟩ := hrel
        clear ho0 M1 hR2
        by_cases hjl : j < n
        · have HT := Lib.hid (take_row (f := cycF n) hil hjl)
          have hl : ((rowAt (mkT n (cycF n)) i).take j).length ≤ 1099511627776 := by have := List.length_take_le j (rowAt (mkT n (cycF n)) i); omega
          have HF : Hid ((((i : Int) + (j : Int)) % (n : Int)) = cycF n i j) := by unfold Hid cycF; simp
          generalize cycF n i j = z at *
          go_wp2_with (at_builtin; refine wpl_app_i64 rfl _ _ rfl R _ _ rfl (ho.alloc _) _ _ _ rfl (World.cell?_alloc_at _ _ _ _ rfl) hl (by simp; omega) ?_; intro v' w5 ho5 hgr)
          have hb5 : Below R wr w5 := own_below ((Below.refl R wr).alloc hRz _) (ho.alloc _) hgr (by simp; omega)
          rw [HF.out] at ho5
          go_roundw
          case rel => exact ⟨j + 1, by omega, by go_num, Nat.le_trans hRz hb5.size, by rw [HT.out]; exact ho5, M.below hR hRz hb5⟩
          case measure => first | (simp [intOf]; done) | (simp [intOf]; omega)
        · obtain rfl : j = n := by omega
          rw [List.take_of_length_le (by rw [mkT_rowlen _ _ _ hil]; omega)] at ho
          obtain ⟨ra, rc, rfl⟩ := ho.slice
          rw [mkT_rowlen _ _ _ hil] at *
          obtain ⟨rs, h1, h2, h3⟩ := M.t
          have hc1 := M.c1
          have hf1 := M.f1
          have hsz := M.sz
          have hrl : rs.length ≤ 1099511627776 := by
            have := h3.1
            rw [List.length_take, mkT_len] at this
            omega
          obtain ⟨ta, tc, rfl⟩ := h1.slice
          have HNX : Hid (∀ tv' w5, OV 26 (w.heap.size + 2) w5 tv' (rs ++ [.slice ra j rc]) → (wr.alloc (.cells #[.slice ra j rc] 26)).grownBy w5 (Value.slice ta rs.length tc).ownBlock →
              w5.cell? ⟨w.heap.size + 1, 0, none⟩ = some (.slice ta rs.length tc) ∧ w5.frozen? ⟨w.heap.size + 1, 0, none⟩ = false ∧ Mk w.heap.size j (cycF j) (i + 1) w5.heap.size tv' w (w5.setCell ⟨w.heap.size + 1, 0, none⟩ tv')) := fun tv' w5 hv hg => by
            have hB : Below (w.heap.size + 2) wr w5 := own_below ((Below.refl (w.heap.size + 2) wr).alloc (by omega) _) (h1.alloc _) hg (by simp; omega)
            exact ⟨(hB.cell (p := ⟨w.heap.size + 1, 0, none⟩) (by show w.heap.size + 1 < _; omega)).trans hc1, (hB.frozen (p := ⟨w.heap.size + 1, 0, none⟩) (by show w.heap.size + 1 < _; omega)).trans hf1,
              M.next hil h1 h3 (ho.mono hR) hv hg⟩
          clear M h2 h3
          go_wp2_with (at_builtin; refine wpl_app Try.underlying22 info_row rfl (by omega) rfl _ _ rfl (w.heap.size + 2) _ rs rfl (h1.alloc _) _ _ _ rfl (World.cell?_alloc_at _ _ _ _ rfl) rfl hrl (by simp; omega) ?_; intro tv' w5 hv hg; obtain ⟨hc5, hf5, M5⟩ := HNX.out tv' w5 hv hg; obtain ⟨tb, td, hte⟩ := hv.slice; simp only [List.length_append, List.length_cons, List.length_nil, Nat.zero_add] at hte; subst hte)
          go_roundw
          case rel => exact ⟨i + 1, _, _, by omega, by go_num, M5⟩
          case measure => first | (simp [intOf]; done) | (simp [intOf]; omega)
    · obtain rfl : i = n := by omega
      have ht := M.t
      rw [List.take_of_length_le (by rw [mkT_len]; exact Nat.le_refl _)] at ht
      obtain ⟨ta, tc, hte⟩ := ht.slice
      rw [mkT_len] at hte
      subst hte
      have hc0 := M.c0
      have hf0 := M.f0
      have hc1 := M.c1
      have hf1 := M.f1
      have hsz := M.sz
      have hz : w.heap.size < wr.heap.size := by omega
      have HE : Hid (OT w.heap.size (wr.setCell ⟨w.heap.size, 0, none⟩ (.slice ta i tc)).heap.size (wr.setCell ⟨w.heap.size, 0, none⟩ (.slice ta i tc)) (.slice ta i tc) (mkT i (cycF i)) ∧ Below w.heap.size w (wr.setCell ⟨w.heap.size, 0, none⟩ (.slice ta i tc))) := by
        refine ⟨((ht.keep fun k h1 h2 => heap_setCell_other _ _ _ _ (by show k ≠ w.heap.size; omega)).monoB (by omega)).mono (by simp; omega), M.b.setCell (Nat.le_refl _) _⟩
      clear ht M
      go_wp2_with fail
      exact bodyPost_ret (v := .agg #[.slice ta i tc]) (by simp [results, Try.results98, go_sem, hc0, hz]) rfl ⟨_, rfl, HE.out⟩
end Go.Proofs.Ytghmpaegmicheaa
