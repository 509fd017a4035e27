/- Tables that are groups: the drawn ones, in plain numbers. -/
import Derived.Test.YtghmpaegmicheaaGrpT
import Derived.Test.YtghmpaegmicheaaProd
import Derived.Test.YtghmpaegmicheaaInv
namespace Go.Proofs.Ytghmpaegmicheaa
open Go.RowKit

theorem grpB_of {x : List (List Int)} (hs : sqB x = true) (e : Nat) (he : e < x.length) (h1 : ∀ a, a < x.length → mul x e a = a ∧ mul x a e = a)
    (h2 : ∀ a b c, a < x.length → b < x.length → c < x.length → mul x (mul x a b) c = mul x a (mul x b c))
    (h3 : ∀ a, a < x.length → ∃ b, b < x.length ∧ mul x a b = e ∧ mul x b a = e) : grpB x = true := by
  have htb : ∀ a b, a < x.length → b < x.length → tb x a b = (mul x a b : Int) := fun a b ha hb => by
    have := tb_bd hs a b ha hb
    unfold mul; omega
  have hee : idAt x e = fun k => decide (tb x e k = (k : Int)) && decide (tb x k e = (k : Int)) := rfl
  have hall : allN x.length (idAt x e) = true := allN_yes fun a ha => by
    unfold idAt
    rw [htb e a he ha, htb a e ha he, (h1 a ha).1, (h1 a ha).2]; simp
  have hid : idn x = (e : Int) := by
    unfold idn
    refine fst1_yes e he hall fun i hi => ?_
    cases hc : allN x.length (idAt x i) with
    | false => rfl
    | true =>
      have hi' : i < x.length := by omega
      have := allN_iff.1 hc e he
      unfold idAt at this
      rw [htb i e hi' he, (h1 i hi').2] at this
      simp only [Bool.and_eq_true, decide_eq_true_eq] at this
      omega
  refine grpB_iff.2 ⟨hs, by rw [hid]; omega, fun a ha => ?_⟩
  unfold grpR
  rw [Bool.and_eq_true, decide_eq_true_eq]
  constructor
  · obtain ⟨b, hb, hb1, hb2⟩ := h3 a ha
    rw [hid]
    rcases fst1_cases x.length (invAt x (e : Int) a) with ⟨k, _, _, h, _⟩ | ⟨_, h⟩
    · unfold inv; rw [h]; omega
    · have := h b hb
      unfold invAt at this
      rw [htb a b ha hb, htb b a hb ha, hb1, hb2] at this
      simp at this
  · refine allN_yes fun b hb => ?_
    unfold ascR
    refine allN_yes fun c hc => ?_
    unfold asc
    have hab : mul x a b < x.length := by have := tb_bd hs a b ha hb; unfold mul; omega
    have hbc : mul x b c < x.length := by have := tb_bd hs b c hb hc; unfold mul; omega
    have := h2 a b c ha hb hc
    rw [decide_eq_true_eq]
    show tb x (mul x a b) c = tb x a (mul x b c)
    rw [htb _ _ hab hc, htb _ _ ha hbc, this]

theorem cyc_grp10 : ∀ n : Fin 10, grpB (mkT (n.val + 1) (cycF (n.val + 1))) = true := by decide +kernel
theorem dih_grp5 : ∀ n : Fin 5, grpB (mkT (2 * (n.val + 1)) (dihF (n.val + 1))) = true := by decide +kernel
theorem cyc_grp {n : Nat} (h : 1 ≤ n ∧ n ≤ 10) : grpB (mkT n (cycF n)) = true := by
  have := cyc_grp10 ⟨n - 1, by omega⟩
  rwa [show (n - 1) + 1 = n by omega] at this
theorem dih_grp {n : Nat} (h : 1 ≤ n ∧ n ≤ 5) : grpB (mkT (2 * n) (dihF n)) = true := by
  have := dih_grp5 ⟨n - 1, by omega⟩
  rwa [show (n - 1) + 1 = n by omega] at this
theorem pr_grp5 : ∀ n : Fin 5, grpB (prX (mkT 2 (cycF 2)) (mkT (n.val + 1) (cycF (n.val + 1)))) = true ∧ (prX (mkT 2 (cycF 2)) (mkT (n.val + 1) (cycF (n.val + 1)))).length ≤ 10 := by decide +kernel
theorem pr_grp {n : Nat} (h : 1 ≤ n ∧ n ≤ 5) : grpB (prX (mkT 2 (cycF 2)) (mkT n (cycF n))) = true := by
  have := pr_grp5 ⟨n - 1, by omega⟩
  rw [show (n - 1) + 1 = n by omega] at this
  exact this.1
theorem pr_grp2 : grpB (prX (prX (mkT 2 (cycF 2)) (mkT 2 (cycF 2))) (mkT 2 (cycF 2))) = true := by decide +kernel

theorem tb_mkT {n : Nat} {f : Nat → Nat → Int} {i j : Nat} (hi : i < n) (hj : j < n) : tb (mkT n f) i j = f i j := by
  unfold tb; rw [mkT_row _ _ _ hi]; simp [hj]
theorem sq_mkT {n : Nat} {f : Nat → Nat → Int} (hn : 1 ≤ n ∧ n ≤ 10) (h : ∀ i j, i < n → j < n → 0 ≤ f i j ∧ f i j < n) : sqB (mkT n f) = true := by
  rw [sqB_iff, mkT_len]
  refine ⟨hn, fun i hi => ?_⟩
  have hr : (rowAt (mkT n f) i).length = n := mkT_rowlen _ _ _ hi
  refine ⟨hr, rowB_yes fun k hk => ?_⟩
  rw [hr] at hk
  have := h i k hi hk
  have e : (rowAt (mkT n f) i).getD k 0 = f i k := tb_mkT hi hk
  rw [e]
  exact inB_yes (by omega)
/-- The table numbered anew. -/
def reF (x : List (List Int)) (f b : List Int) (i j : Nat) : Int := f.getD (tb x (b.getD i 0).toNat (b.getD j 0).toNat).toNat 0
theorem reT_grp {x : List (List Int)} {f b : List Int} (hg : grpB x = true) (hp : f.Perm (upN x.length)) (hu : Und f b f.length) : grpB (mkT x.length (reF x f b)) = true := by
  have G := Gp.of hg
  have hl := perm_len hp
  obtain ⟨F, hF⟩ : ∃ F : Nat → Nat, ∀ i, i < x.length → f.getD i 0 = (F i : Int) ∧ F i < x.length := ⟨fun i => (f.getD i 0).toNat, fun i hi => by have := perm_bd hp hi; show f.getD i 0 = (((f.getD i 0).toNat : Nat) : Int) ∧ (f.getD i 0).toNat < x.length; omega⟩
  obtain ⟨B, hB⟩ : ∃ B : Nat → Nat, ∀ i, (b.getD i 0).toNat = B i := ⟨_, fun i => rfl⟩
  have hBF : ∀ i, i < x.length → B (F i) = i := fun i hi => by
    have := hu.2 i (by omega)
    rw [(hF i hi).1] at this
    simp only [Int.toNat_natCast] at this
    rw [← hB, this]; simp
  have hs : ∀ y, y < x.length → ∃ i, i < x.length ∧ F i = y := fun y hy => by
    obtain ⟨i, hi, e⟩ := perm_sur hp (z := (y : Int)) (by omega)
    exact ⟨i, hi, by have := (hF i hi).1; omega⟩
  have hFB : ∀ y, y < x.length → F (B y) = y ∧ B y < x.length := fun y hy => by
    obtain ⟨i, hi, rfl⟩ := hs y hy
    rw [hBF i hi]; exact ⟨rfl, hi⟩
  have hr : ∀ i j, i < x.length → j < x.length → reF x f b i j = (F (mul x (B i) (B j)) : Int) := fun i j hi hj => by
    unfold reF
    rw [hB, hB]
    exact (hF _ (G.lt _ _ (hFB i hi).2 (hFB j hj).2)).1
  have hsq : sqB (mkT x.length (reF x f b)) = true := sq_mkT G.n fun i j hi hj => by
    rw [hr i j hi hj]
    have := (hF _ (G.lt _ _ (hFB i hi).2 (hFB j hj).2)).2
    omega
  have hm : ∀ i j, i < x.length → j < x.length → mul (mkT x.length (reF x f b)) i j = F (mul x (B i) (B j)) := fun i j hi hj => by
    unfold mul
    rw [tb_mkT hi hj, hr i j hi hj]; rfl
  have hlt : ∀ i j, i < x.length → j < x.length → F (mul x (B i) (B j)) < x.length := fun i j hi hj => (hF _ (G.lt _ _ (hFB i hi).2 (hFB j hj).2)).2
  have e0 := hF _ G.one_lt
  refine grpB_of hsq (F (one x)) (by rw [mkT_len]; exact e0.2) ?_ ?_ ?_
  · intro a ha
    rw [mkT_len] at ha
    have hb := hFB a ha
    rw [hm _ _ e0.2 ha, hm _ _ ha e0.2, hBF _ G.one_lt, G.one_mul _ hb.2, G.mul_one _ hb.2]
    exact ⟨hb.1, hb.1⟩
  · intro a c d ha hc hd
    rw [mkT_len] at ha hc hd
    rw [hm a c ha hc, hm c d hc hd, hm _ _ (hlt a c ha hc) hd, hm _ _ ha (hlt c d hc hd), hBF _ (G.lt _ _ (hFB a ha).2 (hFB c hc).2), hBF _ (G.lt _ _ (hFB c hc).2 (hFB d hd).2), G.assoc _ _ _ (hFB a ha).2 (hFB c hc).2 (hFB d hd).2]
  · intro a ha
    rw [mkT_len] at ha ⊢
    obtain ⟨q, hq, h1, h2, _⟩ := G.inv (B a) (hFB a ha).2
    refine ⟨F q, (hF q hq).2, ?_, ?_⟩
    · rw [hm _ _ ha (hF q hq).2, hBF q hq, h1]
    · rw [hm _ _ (hF q hq).2 ha, hBF q hq, h2]
end Go.Proofs.Ytghmpaegmicheaa
