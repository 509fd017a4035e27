/- The words near a word are those at a typing distance of one. -/
import Derived.Test.YtgagjmnmfgfpfaaNrM
import Derived.Test.YtgagjmnmfgfpfaaLT
namespace Go.Proofs.Ytgagjmnmfgfpfaa
open Go.RowKit

theorem bz_sym {d : Nat} (h : d < 36) : bz (symS d) = [sy d] := by
  rw [symS_wOf h, wOf_bz (fun z hz => by rw [List.mem_singleton.1 hz]; omega)]
  rfl
theorem take_dropS {s : ByteArray} {i : Nat} (h : i < s.size) : (bz s).drop i = (bz s).getD i 0 :: (bz s).drop (i + 1) := drop_cons (by rw [bz_len]; exact h)
theorem bz_upto (s : ByteArray) (i : Nat) : bz (s.extract 0 i) = (bz s).take i := by rw [bz_extract, List.drop_zero]
theorem bz_from (s : ByteArray) (i : Nat) : bz (s.extract i s.size) = (bz s).drop i := by rw [bz_extract, List.take_of_length_le (by rw [bz_len]; exact Nat.le_refl _)]
theorem bz_at (s : ByteArray) (i : Nat) (h : i < s.size) : bz (s.extract i (i + 1)) = [(bz s).getD i 0] := by
  rw [bz_extract, List.drop_take, show i + 1 - i = 1 by omega, take_dropS h]
  rfl
theorem bz_ins (s : ByteArray) (i d : Nat) (h : d < 36) : bz (insW s i (symS d)) = (bz s).take i ++ sy d :: (bz s).drop i := by
  unfold insW
  rw [bz_append, bz_append, bz_upto, bz_from, bz_sym h]; simp
theorem bz_del (s : ByteArray) (i : Nat) : bz (delW s i) = (bz s).take i ++ (bz s).drop (i + 1) := by
  unfold delW
  rw [bz_append, bz_upto, bz_from]
theorem bz_sub (s : ByteArray) (i d : Nat) (h : d < 36) : bz (subW s i (symS d)) = (bz s).take i ++ sy d :: (bz s).drop (i + 1) := by
  unfold subW
  rw [bz_append, bz_append, bz_upto, bz_from, bz_sym h]; simp
theorem bz_swp (s : ByteArray) (i : Nat) (h : i + 1 < s.size) : bz (swpW s i) = (bz s).take i ++ (bz s).getD (i + 1) 0 :: (bz s).getD i 0 :: (bz s).drop (i + 2) := by
  unfold swpW
  rw [bz_append, bz_append, bz_append, bz_upto, bz_from, bz_at s i (by omega), bz_at s (i + 1) h]; simp
theorem cut1 {s : ByteArray} {i : Nat} (h : i < s.size) : bz s = (bz s).take i ++ (bz s).getD i 0 :: (bz s).drop (i + 1) := by
  rw [← take_dropS h, List.take_append_drop]
theorem cut2 {s : ByteArray} {i : Nat} (h : i + 1 < s.size) : bz s = (bz s).take i ++ (bz s).getD i 0 :: (bz s).getD (i + 1) 0 :: (bz s).drop (i + 2) := by
  rw [← take_dropS h, ← take_dropS (by omega), List.take_append_drop]
theorem subC_bz {s : ByteArray} {i d : Nat} (hi : i < s.size) (hd : d < 36) : SubC s i d ↔ (bz s).getD i 0 ≠ sy d := by
  unfold SubC
  constructor
  · intro h e
    exact h (bz_inj (by rw [bz_sym hd, bz_at s i hi, e]))
  · intro h e
    have := congrArg bz e
    rw [bz_sym hd, bz_at s i hi] at this
    simp only [List.cons.injEq, and_true] at this
    exact h this.symm
theorem swpC_bz {s : ByteArray} {i : Nat} (hi : i + 1 < s.size) : SwpC s i ↔ (bz s).getD i 0 ≠ (bz s).getD (i + 1) 0 := by
  unfold SwpC
  have h1 := bz_at s i (by omega)
  have h2 := bz_at s (i + 1) hi
  constructor
  · intro h e
    exact h (bz_inj (by rw [h1, h2, e]))
  · intro h e
    have := congrArg bz e
    rw [h1, h2] at this
    simp only [List.cons.injEq, and_true] at this
    exact h this
theorem near_E1 {s t : ByteArray} {b : Nat} (hb : b ≤ 36) (h : NwP s b t) : E1 (bz s) (bz t) := by
  rcases h with ⟨i, d, hi, hd, rfl⟩ | ⟨i, hi, rfl⟩ | ⟨i, d, hi, hd, hc, rfl⟩ | ⟨i, hi, hc, rfl⟩
  · exact .inl ⟨(bz s).take i, sy d, (bz s).drop i, (List.take_append_drop i _).symm, bz_ins s i d (by omega)⟩
  · exact .inr (.inl ⟨(bz s).take i, _, (bz s).drop (i + 1), cut1 hi, bz_del s i⟩)
  · exact .inr (.inr (.inl ⟨(bz s).take i, _, sy d, (bz s).drop (i + 1), (subC_bz hi (by omega)).1 hc, cut1 hi, bz_sub s i d (by omega)⟩))
  · exact .inr (.inr (.inr ⟨(bz s).take i, _, _, (bz s).drop (i + 2), (swpC_bz hi).1 hc, cut2 hi, bz_swp s i hi⟩))
theorem getD_mid {a : List Int} {p : List Int} {x : Int} {q : List Int} (h : a = p ++ x :: q) : p.length < a.length ∧ a.take p.length = p ∧ a.getD p.length 0 = x ∧ a.drop (p.length + 1) = q := by
  subst h
  refine ⟨by simp, by simp, by simp, by simp [List.drop_append]⟩
theorem E1_near {s : ByteArray} {ys : List Int} {b : Nat} (hb : b ≤ 36) (hy : ∀ z ∈ ys, 0 ≤ z ∧ z < b) (h : E1 (bz s) (bz (wOf ys))) : NwP s b (wOf ys) := by
  have hv : bz (wOf ys) = ys.map sy := wOf_bz fun z hz => by have := hy z hz; omega
  have sym : ∀ x, x ∈ bz (wOf ys) → ∃ d : Nat, d < b ∧ x = sy d := fun x hx => by
    rw [hv] at hx
    obtain ⟨z, hz, rfl⟩ := List.mem_map.1 hx
    have := hy z hz
    obtain ⟨n, rfl⟩ := Int.eq_ofNat_of_zero_le this.1
    exact ⟨n, by omega, rfl⟩
  rcases h with ⟨p, x, q, h1, h2⟩ | ⟨p, x, q, h1, h2⟩ | ⟨p, x, y, q, hne, h1, h2⟩ | ⟨p, x, y, q, hne, h1, h2⟩
  · obtain ⟨d, hd, rfl⟩ := sym x (by rw [h2]; simp)
    refine .inl ⟨p.length, d, ?_, hd, bz_inj ?_⟩
    · have := congrArg List.length h1
      rw [bz_len] at this; simp at this; omega
    · rw [h2, bz_ins _ _ _ (by omega), h1]; simp
  · obtain ⟨g1, g2, g3, g4⟩ := getD_mid h1
    rw [bz_len] at g1
    refine .inr (.inl ⟨p.length, g1, bz_inj ?_⟩)
    rw [h2, bz_del, g2, g4]
  · obtain ⟨d, hd, rfl⟩ := sym y (by rw [h2]; simp)
    obtain ⟨g1, g2, g3, g4⟩ := getD_mid h1
    rw [bz_len] at g1
    refine .inr (.inr (.inl ⟨p.length, d, g1, hd, (subC_bz g1 (by omega)).2 (by rw [g3]; exact hne), bz_inj ?_⟩))
    rw [h2, bz_sub _ _ _ (by omega), g2, g4]
  · obtain ⟨g1, g2, g3, g4⟩ := getD_mid h1
    have h1' : bz s = (p ++ [x]) ++ y :: q := by rw [h1]; simp
    obtain ⟨k1, k2, k3, k4⟩ := getD_mid h1'
    have hl : (p ++ [x]).length = p.length + 1 := by simp
    rw [hl] at k1 k3 k4
    rw [bz_len] at k1
    refine .inr (.inr (.inr ⟨p.length, k1, (swpC_bz k1).2 (by rw [g3, k3]; exact hne), bz_inj ?_⟩))
    rw [h2, bz_swp _ _ k1, g2, g3, k3, k4]
/-- Near words of words are words. -/
theorem near_mem {s t : ByteArray} {b : Nat} (hb : b ≤ 36) (h : NwP s b t) : (∀ c ∈ bz t, c ∈ bz s ∨ ∃ d : Nat, d < b ∧ c = sy d) ∧ t.size ≤ s.size + 1 := by
  have tk : ∀ (i : Nat) (c : Int), c ∈ (bz s).take i → c ∈ bz s := fun i c h => List.mem_of_mem_take h
  have dr : ∀ (i : Nat) (c : Int), c ∈ (bz s).drop i → c ∈ bz s := fun i c h => List.mem_of_mem_drop h
  have gd : ∀ (i : Nat), i < s.size → (bz s).getD i 0 ∈ bz s := fun i h => by
    have : i < (bz s).length := by rw [bz_len]; exact h
    simp [this]
  rcases h with ⟨i, d, hi, hd, rfl⟩ | ⟨i, hi, rfl⟩ | ⟨i, d, hi, hd, hc, rfl⟩ | ⟨i, hi, hc, rfl⟩
  · refine ⟨fun c hc => ?_, ?_⟩
    · rw [bz_ins _ _ _ (by omega), List.mem_append, List.mem_cons] at hc
      rcases hc with h | rfl | h
      · exact .inl (tk _ _ h)
      · exact .inr ⟨d, hd, rfl⟩
      · exact .inl (dr _ _ h)
    · have := congrArg List.length (bz_ins s i d (by omega))
      rw [bz_len] at this
      simp [bz_len] at this; omega
  · refine ⟨fun c hc => ?_, ?_⟩
    · rw [bz_del, List.mem_append] at hc
      rcases hc with h | h
      · exact .inl (tk _ _ h)
      · exact .inl (dr _ _ h)
    · have := congrArg List.length (bz_del s i)
      rw [bz_len] at this
      simp [bz_len] at this; omega
  · refine ⟨fun c hc => ?_, ?_⟩
    · rw [bz_sub _ _ _ (by omega), List.mem_append, List.mem_cons] at hc
      rcases hc with h | rfl | h
      · exact .inl (tk _ _ h)
      · exact .inr ⟨d, hd, rfl⟩
      · exact .inl (dr _ _ h)
    · have := congrArg List.length (bz_sub s i d (by omega))
      rw [bz_len] at this
      simp [bz_len] at this; omega
  · refine ⟨fun c hc => ?_, ?_⟩
    · rw [bz_swp _ _ hi, List.mem_append, List.mem_cons, List.mem_cons] at hc
      rcases hc with h | rfl | rfl | h
      · exact .inl (tk _ _ h)
      · exact .inl (gd _ hi)
      · exact .inl (gd _ (by omega))
      · exact .inl (dr _ _ h)
    · have := congrArg List.length (bz_swp s i hi)
      rw [bz_len] at this
      simp [bz_len] at this; omega
theorem near_dig {xs : List Int} {t : ByteArray} {b m : Nat} {k : Int} (hb : b ≤ 36) (hx : ∀ z ∈ xs, 0 ≤ z ∧ z < b) (hm : xs.length ≤ m) (hk : (m : Int) + 1 ≤ k) (h : NwP (wOf xs) b t) : digB t 36 k = true := by
  obtain ⟨h1, h2⟩ := near_mem hb h
  rw [wOf_size] at h2
  have h35 : ∀ z ∈ xs, 0 ≤ z ∧ z ≤ 35 := fun z hz => by have := hx z hz; omega
  unfold digB wdB
  rw [Bool.and_eq_true, Bool.and_eq_true, List.all_eq_true]
  refine ⟨⟨by decide, decide_eq_true (by omega)⟩, fun c hc => ?_⟩
  have : ∃ z : Int, (0 ≤ z ∧ z ≤ 35) ∧ c = sy z := by
    rcases h1 c hc with h | ⟨d, hd, rfl⟩
    · rw [wOf_bz h35] at h
      obtain ⟨z, hz, rfl⟩ := List.mem_map.1 h
      exact ⟨z, h35 z hz, rfl⟩
    · exact ⟨d, by omega, rfl⟩
  obtain ⟨z, hz, rfl⟩ := this
  rw [dg_sy hz]
  unfold inB; simp; omega
/-- There are two near words at least. -/
theorem near_two {s : ByteArray} {b : Nat} {l : List ByteArray} (hb : 2 ≤ b ∧ b ≤ 36) (hm : ∀ t, t ∈ l ↔ NwP s b t) : 2 ≤ l.length := by
  have h0 : insW s 0 (symS 0) ∈ l := (hm _).2 (.inl ⟨0, 0, by omega, by omega, rfl⟩)
  have h1 : insW s 0 (symS 1) ∈ l := (hm _).2 (.inl ⟨0, 1, by omega, by omega, rfl⟩)
  have hne : insW s 0 (symS 0) ≠ insW s 0 (symS 1) := fun e => by
    have := congrArg bz e
    rw [bz_ins _ _ _ (by omega), bz_ins _ _ _ (by omega)] at this
    simp only [List.take_zero, List.nil_append, List.cons.injEq, and_true] at this
    exact absurd this (by decide)
  match l, h0, h1 with
  | [a], h0, h1 => exact absurd ((List.mem_singleton.1 h0).trans (List.mem_singleton.1 h1).symm) hne
  | _ :: _ :: _, _, _ => simp
/-- The least typing distance of a word and two of its near words. -/
theorem lt_three {u x y : ByteArray} (hu : digB u 36 12 = true) (hx : digB x 36 12 = true) (hy : digB y 36 12 = true) (h1 : T u x = 1) (h2 : T u y = 1) (hne : x ≠ y) : ltV [u, x, y] = .tuple #[.int .i64 1, .bool true] := by
  have h3 : T x y ≠ 0 := fun e => hne ((T_zero x y).1 e)
  have hok : okW [u, x, y] = true := by unfold okW; simp [hu, hx, hy]
  have d1 : dT [u, x, y] 0 1 = 1 := by show (T u x : Int) = 1; rw [h1]; rfl
  have d2 : dT [u, x, y] 0 2 = 1 := by show (T u y : Int) = 1; rw [h2]; rfl
  have d3 : dT [u, x, y] 1 2 = (T x y : Nat) := rfl
  have hlt : ltO [u, x, y] 3 = some 1 := by
    show ltF (dT [u, x, y] 1 2) (ltF (dT [u, x, y] 0 2) (ltF (dT [u, x, y] 0 1) none)) = some 1
    rw [d1, d2, d3]
    simp only [ltF]
    rw [if_neg (by omega), if_neg (by omega)]
  have := ltV_yes (l := [u, x, y]) (by show inB 3 2 100 = true; decide) hok
  rw [this]
  show Value.tuple #[.int .i64 (eI (ltO [u, x, y] 3)), .bool true] = _
  rw [hlt]; rfl
end Go.Proofs.Ytgagjmnmfgfpfaa
