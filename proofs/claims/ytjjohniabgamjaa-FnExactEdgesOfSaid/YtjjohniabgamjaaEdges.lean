/- The sums of neighbours: the program's edges and the reference's l08Edges. -/
import Derived.Test.YtjjohniabgamjaaInts
namespace Go.Proofs.Ytjjohniabgamjaa
open Go.RowKit

def edgeL (xs : List Int) : Nat → List Int
  | 0 => []
  | n + 1 => edgeL xs n ++ [xs.getD n 0 + xs.getD (n + 1) 0]
theorem edgeL_len (xs : List Int) : ∀ n, (edgeL xs n).length = n
  | 0 => rfl
  | n + 1 => by simp [edgeL, edgeL_len xs n]

set_option maxHeartbeats 1000000 in
theorem edges_any (v : Value) (xs : List Int) (w : World) (hx : RI w v xs) (hb0 : ∀ x ∈ xs, 0 ≤ x ∧ x ≤ 100000) (hm : xs.length ≤ 1048576) :
    Calls Try.prog 51 #[v] w fun e w' => ∃ v', e = .returned v' ∧ OI w.heap.size w' v' (edgeL xs (xs.length - 1)) ∧ Below w.heap.size w w' := by
  obtain ⟨a, c, rfl⟩ := hx.slice
  go_enter Try.func51, Try.ntmps51
  go_wp2_with fail
  have hown0 : OI w.heap.size (w.alloc (.cells #[] 2)) (.slice (some ⟨w.heap.size, 0, none⟩) 0 0) [] := OK.made _ _ _ (Nat.le_refl _)
  have hbl0 : Below w.heap.size w (w.alloc (.cells #[] 2)) := (Below.refl _ _).alloc (Nat.le_refl _) _
  generalize w.alloc (.cells #[] 2) = w2 at *
  generalize Value.slice (some ⟨w.heap.size, 0, none⟩) 0 0 = v0 at *
  go_loopw [3, 4] (fun out iv wr => ∃ k : Nat, k ≤ xs.length - 1 ∧ iv = .int .i64 ↑(k + 1) ∧ OI w.heap.size wr out (edgeL xs k) ∧ Below w.heap.size w wr) (fun _ iv _ => xs.length - (intOf iv).toNat)
  case atStart => exact ⟨0, Nat.zero_le _, rfl, hown0, hbl0⟩
  case round =>
    obtain ⟨k, hk, rfl, hown, hb⟩ := hrel
    clear hown0 hbl0
    have hz := hb.size
    by_cases hlt : k + 1 < xs.length
    · obtain ⟨g, off, rfl, hg, hc⟩ := hx.at k (by omega)
      obtain ⟨g', off', he, _, hc'⟩ := hx.at (k + 1) hlt
      simp only [Option.some.injEq, Addr.mk.injEq, and_true] at he
      obtain ⟨rfl, rfl⟩ := he
      rw [← hb.cell (p := ⟨g, off + k, none⟩) hg] at hc
      rw [← hb.cell (p := ⟨g, off + (k + 1), none⟩) hg] at hc'
      have h1 := hb0 (xs.getD k 0) (by simp [show k < xs.length by omega])
      have h2 := hb0 (xs.getD (k + 1) 0) (by simp [hlt])
      have he : edgeL xs (k + 1) = edgeL xs k ++ [xs.getD k 0 + xs.getD (k + 1) 0] := rfl
      have HE := Lib.hid he; clear he
      generalize xs.getD k 0 = x at *
      generalize xs.getD (k + 1) 0 = y at *
      have hne : u3.ownBlock ≠ some g := fun h => by have := hown.lt g h; omega
      have f1 : (0 : Int) ≤ (k : Int) := by omega
      have f2 : (k : Int) < (xs.length : Int) := by omega
      have f3 : (0 : Int) ≤ (k : Int) + 1 := by omega
      have f4 : (k : Int) + 1 < (xs.length : Int) := by omega
      have f5 : ((k : Int) + 1).toNat = k + 1 := by omega
      have f6 : IntKind.i64.wrap (k : Int) = k := IntWalk.i64_in _ (by omega)
      have f7 : IntKind.i64.wrap ((k : Int) + 1) = (k : Int) + 1 := IntWalk.i64_in _ (by omega)
      have f8 : IntKind.i64.wrap (x + y) = x + y := IntWalk.i64_in _ (by omega)
      go_wp2_with fail
      go_region_held3 (fun w' => w'.cell? ⟨g, off + k, none⟩ = some (.int .i64 x) ∧ w'.cell? ⟨g, off + (k + 1), none⟩ = some (.int .i64 y))
        (first
          | go_keep
          | (go_split_ands
             refine ⟨?_, ?_⟩
             · exact hgr.cell (by assumption) (Ne.symm hne)
             · exact hgr.cell (by assumption) (Ne.symm hne)))
        ((refine step_app_i64 (by rfl) _ _ (by rfl) w.heap.size _ _ (by rfl) ((hown.alloc _).drew) ⟨wr.heap.size, 0, none⟩ 1 (x + y) (by rfl) (World.cell?_alloc_at _ _ _ _ rfl) (by rw [edgeL_len]; omega) (by simp; omega) ?_; intro v' w1 hown1 hgr))
      clear f1 f2 f3 f4 f5 f6 f7 f8
      go_wp2_with fail
      rw [← HE.out] at hown1
      have hb1 : Below w.heap.size w w1 := own_below ((hb.alloc hz _).drew) ((hown.alloc _).drew) hgr (by simp; omega)
      go_roundw
      case rel => exact ⟨k + 1, by omega, by go_num, hown1, hb1⟩
      case measure => first | (simp [intOf]; done) | (simp [intOf]; omega)
    · go_wp2_with fail
      go_ret
      have : k = xs.length - 1 := by omega
      subst this
      exact ⟨_, rfl, hown, hb⟩
set_option maxHeartbeats 1000000 in
theorem l08Edges_any (v : Value) (xs : List Int) (w : World) (hx : RI w v xs) (hb0 : ∀ x ∈ xs, 0 ≤ x ∧ x ≤ 100000) (hm : xs.length ≤ 1048576) :
    Calls Try.prog 49 #[v] w fun e w' => ∃ v', e = .returned v' ∧ OI w.heap.size w' v' (edgeL xs (xs.length - 1)) ∧ Below w.heap.size w w' := by
  obtain ⟨a, c, rfl⟩ := hx.slice
  go_enter Try.func49, Try.ntmps49
  go_wp2_with fail
  have hown0 : OI w.heap.size (w.alloc (.cells #[] 2)) (.slice (some ⟨w.heap.size, 0, none⟩) 0 0) [] := OK.made _ _ _ (Nat.le_refl _)
  have hbl0 : Below w.heap.size w (w.alloc (.cells #[] 2)) := (Below.refl _ _).alloc (Nat.le_refl _) _
  generalize w.alloc (.cells #[] 2) = w2 at *
  generalize Value.slice (some ⟨w.heap.size, 0, none⟩) 0 0 = v0 at *
  go_loopw [3, 4] (fun out iv wr => ∃ k : Nat, k ≤ xs.length - 1 ∧ iv = .int .i64 ↑k ∧ OI w.heap.size wr out (edgeL xs k) ∧ Below w.heap.size w wr) (fun _ iv _ => xs.length - (intOf iv).toNat)
  case atStart => exact ⟨0, Nat.zero_le _, rfl, hown0, hbl0⟩
  case round =>
    obtain ⟨k, hk, rfl, hown, hb⟩ := hrel
    clear hown0 hbl0
    have hz := hb.size
    by_cases hlt : k + 1 < xs.length
    · obtain ⟨g, off, rfl, hg, hc⟩ := hx.at k (by omega)
      obtain ⟨g', off', he, _, hc'⟩ := hx.at (k + 1) hlt
      simp only [Option.some.injEq, Addr.mk.injEq, and_true] at he
      obtain ⟨rfl, rfl⟩ := he
      rw [← hb.cell (p := ⟨g, off + k, none⟩) hg] at hc
      rw [← hb.cell (p := ⟨g, off + (k + 1), none⟩) hg] at hc'
      have h1 := hb0 (xs.getD k 0) (by simp [show k < xs.length by omega])
      have h2 := hb0 (xs.getD (k + 1) 0) (by simp [hlt])
      have he : edgeL xs (k + 1) = edgeL xs k ++ [xs.getD k 0 + xs.getD (k + 1) 0] := rfl
      have HE := Lib.hid he; clear he
      generalize xs.getD k 0 = x at *
      generalize xs.getD (k + 1) 0 = y at *
      have hne : u3.ownBlock ≠ some g := fun h => by have := hown.lt g h; omega
      have f1 : (0 : Int) ≤ (k : Int) := by omega
      have f2 : (k : Int) < (xs.length : Int) := by omega
      have f3 : (0 : Int) ≤ (k : Int) + 1 := by omega
      have f4 : (k : Int) + 1 < (xs.length : Int) := by omega
      have f5 : ((k : Int) + 1).toNat = k + 1 := by omega
      have f6 : IntKind.i64.wrap (k : Int) = k := IntWalk.i64_in _ (by omega)
      have f7 : IntKind.i64.wrap ((k : Int) + 1) = (k : Int) + 1 := IntWalk.i64_in _ (by omega)
      have f8 : IntKind.i64.wrap (x + y) = x + y := IntWalk.i64_in _ (by omega)
      go_wp2_with fail
      go_region_held3 (fun w' => w'.cell? ⟨g, off + k, none⟩ = some (.int .i64 x) ∧ w'.cell? ⟨g, off + (k + 1), none⟩ = some (.int .i64 y))
        (first
          | go_keep
          | (go_split_ands
             refine ⟨?_, ?_⟩
             · exact hgr.cell (by assumption) (Ne.symm hne)
             · exact hgr.cell (by assumption) (Ne.symm hne)))
        ((refine step_app_i64 (by rfl) _ _ (by rfl) w.heap.size _ _ (by rfl) ((hown.alloc _).drew) ⟨wr.heap.size, 0, none⟩ 1 (x + y) (by rfl) (World.cell?_alloc_at _ _ _ _ rfl) (by rw [edgeL_len]; omega) (by simp; omega) ?_; intro v' w1 hown1 hgr))
      clear f1 f2 f3 f4 f5 f6 f7 f8
      go_wp2_with fail
      rw [← HE.out] at hown1
      have hb1 : Below w.heap.size w w1 := own_below ((hb.alloc hz _).drew) ((hown.alloc _).drew) hgr (by simp; omega)
      go_roundw
      case rel => exact ⟨k + 1, by omega, by go_num, hown1, hb1⟩
      case measure => first | (simp [intOf]; done) | (simp [intOf]; omega)
    · go_wp2_with fail
      go_ret
      have : k = xs.length - 1 := by omega
      subst this
      exact ⟨_, rfl, hown, hb⟩
end Go.Proofs.Ytjjohniabgamjaa
