/- Lagrange: a closed set's size divides that of the group; so does an element's order. -/
import Derived.Test.YtghmpaegmicheaaGrpT
namespace Go.Proofs.Ytghmpaegmicheaa
open Go.RowKit

theorem sub_len : ∀ (A B : List Nat), A.Nodup → (∀ a ∈ A, a ∈ B) → A.length ≤ B.length
  | [], _, _, _ => Nat.zero_le _
  | a :: A, B, hn, hs => by
    have ha := hs a (by simp)
    have h := sub_len A (B.erase a) (List.nodup_cons.1 hn).2 fun b hb => by
      have hne : b ≠ a := fun e => (List.nodup_cons.1 hn).1 (e ▸ hb)
      exact (List.mem_erase_of_ne hne).2 (hs b (by simp [hb]))
    have hl := List.length_erase_of_mem ha
    have hp : 0 < B.length := List.length_pos_of_mem ha
    simp only [List.length_cons]; omega
theorem split_len (p : Nat → Bool) : ∀ S : List Nat, S.length = (S.filter p).length + (S.filter fun a => !p a).length
  | [] => rfl
  | a :: S => by
    have := split_len p S
    cases h : p a <;> simp [h] <;> omega
section
variable {x : List (List Int)} (G : Gp x)
include G
theorem Gp.inv_in (H : List Nat) (hl : ∀ a ∈ H, a < x.length) (hc : ∀ a ∈ H, ∀ b ∈ H, mul x a b ∈ H) (a : Nat) (ha : a ∈ H) : ∃ b, b ∈ H ∧ mul x b a = one x := by
  have hal := hl a ha
  have hp : ∀ k, pw x a (k + 1) ∈ H := fun k => by
    induction k with
    | zero => rw [G.pw_one a hal]; exact ha
    | succ k ih => exact hc _ ih _ ha
  obtain ⟨h1, _, h3, _⟩ := G.ord_is a hal
  refine ⟨pw x a (2 * ord x a - 2 + 1), hp _, ?_⟩
  show pw x a (2 * ord x a - 2 + 1 + 1) = one x
  have := G.pw_mul_ord a hal 2
  rw [show 2 * ord x a - 2 + 1 + 1 = ord x a * 2 by omega]; exact this
theorem Gp.coset (H : List Nat) (hn : H.Nodup) (hl : ∀ a ∈ H, a < x.length) (h1 : one x ∈ H) (hc : ∀ a ∈ H, ∀ b ∈ H, mul x a b ∈ H) :
    ∀ (k : Nat) (S : List Nat), S.length ≤ k → S.Nodup → (∀ s ∈ S, s < x.length) → (∀ a ∈ H, ∀ s ∈ S, mul x a s ∈ S) → H.length ∣ S.length
  | _, [], _, _, _, _ => Nat.dvd_zero _
  | 0, s :: S, h, _, _, _ => by simp at h
  | k + 1, s :: S', h, hS, hlS, hcl => by
    obtain ⟨S, hSe⟩ : ∃ S, S = s :: S' := ⟨_, rfl⟩
    have hs : s ∈ S := by rw [hSe]; simp
    rw [← hSe] at h hS hlS hcl ⊢
    clear hSe
    obtain ⟨C, hC⟩ : ∃ C, C = H.map fun a => mul x a s := ⟨_, rfl⟩
    have hCm : ∀ c, c ∈ C ↔ ∃ a, a ∈ H ∧ mul x a s = c := fun c => by rw [hC]; simp
    have hCl : C.length = H.length := by rw [hC]; simp
    have hCn : C.Nodup := by
      rw [hC]
      refine List.pairwise_map.2 (List.Pairwise.imp_of_mem ?_ hn)
      intro a b ha hb hne e
      exact hne (G.cancel a b s (hl a ha) (hl b hb) (hlS s hs) e)
    have hCS : ∀ c ∈ C, c ∈ S := fun c hc' => by
      obtain ⟨a, ha, rfl⟩ := (hCm c).1 hc'
      exact hcl a ha s hs
    have hT := split_len (fun a => decide (a ∈ C)) S
    have hF : (S.filter fun a => decide (a ∈ C)).length = C.length := by
      apply Nat.le_antisymm
      · exact sub_len _ _ (hS.filter _) fun a ha => by simpa using (List.mem_filter.1 ha).2
      · exact sub_len _ _ hCn fun a ha => List.mem_filter.2 ⟨hCS a ha, by simpa using ha⟩
    have hHp : 0 < H.length := List.length_pos_of_mem h1
    have ih := Gp.coset H hn hl h1 hc k (S.filter fun a => !decide (a ∈ C)) (by omega) (hS.filter _) (fun t ht => hlS t (List.mem_filter.1 ht).1) (fun a ha t ht => by
      obtain ⟨ht1, ht2⟩ := List.mem_filter.1 ht
      refine List.mem_filter.2 ⟨hcl a ha t ht1, ?_⟩
      have ht3 : t ∉ C := by simpa using ht2
      have : mul x a t ∉ C := fun hm => ht3 (by
        obtain ⟨b, hb, e⟩ := (hCm _).1 hm
        obtain ⟨d, hd, e2⟩ := G.inv_in H hl hc a ha
        refine (hCm t).2 ⟨mul x d b, hc d hd b hb, ?_⟩
        rw [G.assoc d b s (hl d hd) (hl b hb) (hlS s hs), e, ← G.assoc d a t (hl d hd) (hl a ha) (hlS t ht1), e2, G.one_mul t (hlS t ht1)])
      simpa using this)
    rw [hT, hF, hCl]
    exact Nat.dvd_add (Nat.dvd_refl _) ih
theorem Gp.lagrange (H : List Nat) (hn : H.Nodup) (hl : ∀ a ∈ H, a < x.length) (h1 : one x ∈ H) (hc : ∀ a ∈ H, ∀ b ∈ H, mul x a b ∈ H) : H.length ∣ x.length := by
  have := G.coset H hn hl h1 hc x.length (List.range x.length) (by simp) List.nodup_range (fun s hs => List.mem_range.1 hs) fun a ha s hs => List.mem_range.2 (G.lt a s (hl a ha) (List.mem_range.1 hs))
  simpa using this
theorem Gp.ord_dvd (a : Nat) (ha : a < x.length) : ord x a ∣ x.length := by
  obtain ⟨h1, _, h3, h4⟩ := G.ord_is a ha
  have := G.lagrange ((List.range (ord x a)).map (pw x a)) (List.pairwise_map.2 (List.Pairwise.imp_of_mem (fun {i j} hi hj hlt e => by
      have hi' := List.mem_range.1 hi
      have hj' := List.mem_range.1 hj
      have h := G.pw_sub a ha i (j - i) (by rw [e]; congr 1; omega)
      exact h4 (j - i) (by omega) (by omega) h) (List.pairwise_lt_range))) (fun b hb => by
      obtain ⟨i, _, rfl⟩ := List.mem_map.1 hb
      exact G.pw_lt a ha i) (List.mem_map.2 ⟨0, List.mem_range.2 (by omega), rfl⟩) (fun b hb c hc => by
      obtain ⟨i, _, rfl⟩ := List.mem_map.1 hb
      obtain ⟨j, _, rfl⟩ := List.mem_map.1 hc
      rw [← G.pw_add a ha, ← G.pw_mod a ha]
      exact List.mem_map.2 ⟨_, List.mem_range.2 (Nat.mod_lt _ (by omega)), rfl⟩)
  simpa using this
end
end Go.Proofs.Ytghmpaegmicheaa
