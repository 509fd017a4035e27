/- The reference's FirstTotally; R8Small. -/
import Derived.Test.YthcnhkjiojeemaaSch2
import Derived.Test.YthcnhkjiojeemaaDrS3
namespace Go.Proofs.Ythcnhkjiojeemaa
open Go.RowKit

def FtPost (n : Nat) (w : World) (e : Ending) (w' : World) : Prop := ∃ v b, e = .returned (.tuple #[v, .bool b]) ∧ Hid (b = true → ∃ F, OT w.heap.size w'.heap.size w' v (mkT n F) ∧ Ta n F) ∧ Hid (b = true ↔ ∃ u, Ta n u) ∧ Below w.heap.size w w'
theorem FtPost.no {n : Nat} {w w' : World} (v : Value) (h : ∀ u, ¬ Ta n u) (hb : Below w.heap.size w w') : FtPost n w (.returned (.tuple #[v, .bool false])) w' := ⟨v, false, rfl, Lib.hid (fun h => by cases h), Lib.hid ⟨fun h => by (cases h), fun ⟨u, hu⟩ => absurd hu (h u)⟩, hb⟩
theorem FtPost.yes {n : Nat} {w w' : World} {v : Value} {F : Nat → Nat → Int} (ho : OT w.heap.size w'.heap.size w' v (mkT n F)) (hF : Ta n F) (hb : Below w.heap.size w w') : FtPost n w (.returned (.tuple #[v, .bool true])) w' := ⟨v, true, rfl, Lib.hid (fun _ => ⟨F, ho, hF⟩), Lib.hid ⟨fun _ => ⟨F, hF⟩, fun _ => rfl⟩, hb⟩
set_option maxHeartbeats 1000000 in
theorem specFirst_any (n : Nat) (w : World) (hn : 1 ≤ n ∧ n ≤ 5) :
    Calls Try.prog 10 #[.int .i64 n] w (FtPost n w) := by
  have HI : Hid (∀ wx, Calls Try.prog 37 #[.int .i64 n, .int .i64 1, .int .i64 5] wx fun e w' => e = .returned (.bool true) ∧ wx = w') := fun wx => by
    have := l00In_any n 1 5 wx
    rw [inB_yes (by omega)] at this; exact this
  go_enter Try.func10, Try.ntmps10
  go_wp2_with (go_at_call 37; refine (HI.out _).mono ?_; rintro e w' ⟨rfl, rfl⟩)
  refine (l04Blank_any n w (by omega)).mono ?_
  rintro e w1 ⟨v1, rfl, ho, hb⟩
  rw [rep_mk] at ho
  obtain ⟨G, H, P, C, rfl, htb⟩ := ho.tbl hn.1 (Nat.le_refl _)
  clear ho
  have hgb := htb.gb
  go_wp2_with fail
  refine (search_any n hn true _ _ G H P C (n * n) 0 (by omega) _ w1 0 rfl htb (Vp.zero _ _)).mono ?_
  rintro e w2 ⟨c, fv, t2, rfl, htb2, HA, hch, HC, HR⟩
  have hb2 := hch.below hb (Nat.le_refl _) hb.size
  by_cases hc0 : c = 0
  · have hcb : ((c : Int) == 0) = true := by simp [hc0]
    have HN : Hid (∀ u, ¬ Ta n u) := fun u hu => by
      rcases HR.out with ⟨_, h⟩ | ⟨h, _⟩
      · exact h u ⟨hu, fun i j _ _ hp => by omega⟩
      · omega
    clear hc0
    go_wp2_with fail
    go_ret2
    exact FtPost.no _ HN.out hb2
  · have hcb : ((c : Int) == 0) = false := by simp; omega
    have HY : Hid (∃ F, OT w.heap.size w2.heap.size w2 fv (mkT n F) ∧ Ta n F) := by
      rcases HR.out with ⟨h, _⟩ | ⟨_, F, h1, h2⟩
      · exact absurd h hc0
      · exact ⟨F, h1.monoB hb.size, h2.ta⟩
    clear hc0
    go_wp2_with fail
    go_ret2
    obtain ⟨F, h1, h2⟩ := HY.out
    exact FtPost.yes h1 h2 hb2
def SmPost (w : World) (e : Ending) (w' : World) : Prop := ∃ v n t, e = .returned v ∧ (1 ≤ n ∧ n ≤ 5) ∧ RT w' v (mkT n t) ∧ Qg n t ∧ Below w.heap.size w w'
theorem SmPost.mk {w w' : World} {v : Value} {n : Nat} {t : Nat → Nat → Int} (h1 : 1 ≤ n ∧ n ≤ 5) (h2 : RT w' v (mkT n t)) (h3 : Qg n t) (h4 : Below w.heap.size w w') : SmPost w (.returned v) w' := ⟨v, n, t, rfl, h1, h2, h3, h4⟩
set_option maxHeartbeats 2000000 in
theorem r8Small_any (v : Value) (cs : List Int) (w : World) (hx : RK .u8 w v cs) (hw : ∀ x ∈ cs, (Lit.int .u8 x).wf = true) (hm : cs.length ≤ 1048576) :
    Calls Try.prog 8 #[v] w (SmPost w) := by
  go_enter Try.func8, Try.ntmps8
  go_wp2_with fail
  refine (from_any v cs _ hx hw hm).mono ?_
  rintro e w1 ⟨rfl, hs, hb1⟩
  have hz1 := hs.lt
  go_wp2_with fail
  refine (one_any w.heap.size _ 2 _ hs (by omega) (by omega)).mono ?_
  rintro e w2 ⟨b, rfl, hs2, hc⟩
  have hz2 := hc.size
  clear hs
  cases b
  · have hs := hs2
    clear hs2
    have hz3 := hc.size
    go_wp2_with fail
    refine (pick_any w.heap.size _ 5 _ hs (by omega) (by omega)).mono ?_
    rintro e w7 ⟨z, rfl, hz, hs7, hc7⟩
    have hc8 := hc.trans hc7
    obtain ⟨n, hn⟩ : ∃ n : Nat, 1 + z = (n : Int) := ⟨(1 + z).toNat, by omega⟩
    have hn5 : 1 ≤ n ∧ n ≤ 5 := by omega
    clear hz hc hs
    go_wp2_with fail
    clear hn
    refine (drawSized_any w.heap.size _ n _ hs7 (by omega) (by omega)).mono ?_
    rintro e w8 ⟨v8, t, rfl, hrt, hq, hs8, hc9⟩
    have hfin := SmPost.mk hn5 hrt hq ((hc8.trans hc9).below hb1 (by simp) hb1.size)
    go_wp2_with fail
    go_ret
    exact hfin
  · go_wp2_with fail
    have hb3 : Below w2.heap.size w2 (w2.alloc (.cells #[.int .i64 1, .int .i64 3, .int .i64 4, .int .i64 5] 2)) := (Below.refl _ _).alloc (Nat.le_refl _) _
    refine (among_any w.heap.size _ w2.heap.size 4 4 _ (hs2.later hb3) (by omega) (by omega) (by omega) (fun k hk => ?lits)).mono ?_
    case lits =>
      have : k = 0 ∨ k = 1 ∨ k = 2 ∨ k = 3 := by omega
      rcases this with rfl | rfl | rfl | rfl <;> exact ⟨_, World.cell?_alloc_at _ _ _ _ rfl⟩
    rintro e w4 ⟨k, hk, ⟨z, hzc, rfl⟩, hs4, hc4⟩
    have hzz : ∃ n : Nat, z = (n : Int) ∧ 1 ≤ n ∧ n ≤ 5 := by
      have : k = 0 ∨ k = 1 ∨ k = 2 ∨ k = 3 := by omega
      rcases this with rfl | rfl | rfl | rfl <;> (rw [World.cell?_alloc_at _ _ _ _ rfl] at hzc; simp at hzc; subst hzc; first | exact ⟨1, rfl, by omega, by omega⟩ | exact ⟨3, rfl, by omega, by omega⟩ | exact ⟨4, rfl, by omega, by omega⟩ | exact ⟨5, rfl, by omega, by omega⟩)
    obtain ⟨n, rfl, hn⟩ := hzz
    have hc5 : Chg [w.heap.size] w1 w4 := (chg_below hc hz2 hb3).trans hc4
    have hz4 := hc5.size
    clear hzc hk hs2 hc hc4 hb3
    go_wp2_with fail
    refine (specFirst_any n _ hn).mono ?_
    rintro e w5 ⟨v5, b5, rfl, HY, _, hb5⟩
    have hs := hs4.later hb5
    have hc : Chg [w.heap.size] w1 w5 := chg_below hc5 hz4 hb5
    clear hs4 hc5 hb5
    cases b5
    · clear hn HY
      have hz3 := hc.size
      go_wp2_with fail
      refine (pick_any w.heap.size _ 5 _ hs (by omega) (by omega)).mono ?_
      rintro e w7 ⟨z, rfl, hz, hs7, hc7⟩
      have hc8 := hc.trans hc7
      obtain ⟨n, hn⟩ : ∃ n : Nat, 1 + z = (n : Int) := ⟨(1 + z).toNat, by omega⟩
      have hn5 : 1 ≤ n ∧ n ≤ 5 := by omega
      clear hz hc hs
      go_wp2_with fail
      clear hn
      refine (drawSized_any w.heap.size _ n _ hs7 (by omega) (by omega)).mono ?_
      rintro e w8 ⟨v8, t, rfl, hrt, hq, hs8, hc9⟩
      have hfin := SmPost.mk hn5 hrt hq ((hc8.trans hc9).below hb1 (by simp) hb1.size)
      go_wp2_with fail
      go_ret
      exact hfin
    · obtain ⟨F, ho, hF⟩ := HY.out rfl
      have hfin := SmPost.mk hn ho.read hF.q (hc.below hb1 (by simp) hb1.size)
      clear hs hc HY ho hF
      go_wp2_with fail
      go_ret
      exact hfin
end Go.Proofs.Ythcnhkjiojeemaa
