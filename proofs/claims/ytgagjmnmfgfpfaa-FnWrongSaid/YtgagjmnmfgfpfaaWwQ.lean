/- What errors make of a word: plain law. -/
import Derived.Test.YtgagjmnmfgfpfaaWwP
import Derived.Test.YtgagjmnmfgfpfaaNwM
namespace Go.Proofs.Ytgagjmnmfgfpfaa
open Go.RowKit

theorem bzU (s : ByteArray) (i : Nat) : bz (s.extract 0 i) = (bz s).take i := by rw [bz_extract, List.drop_zero]
theorem bzF (s : ByteArray) (i : Nat) : bz (s.extract i s.size) = (bz s).drop i := by rw [bz_extract, List.take_of_length_le (by rw [bz_len]; exact Nat.le_refl _)]
theorem extL (s : ByteArray) (i j : Nat) : (s.extract i j).size ≤ s.size := by
  rw [← bz_len, bz_extract, List.length_drop, List.length_take, bz_len]; omega
/-- Some digits in the place of n others. -/
def wAt (xs : List Int) (i n : Nat) (u : List Int) : List Int := xs.take i ++ u ++ xs.drop (i + n)
/-- A text is what an error at a place below m makes of digits. -/
def WwM (k b : Int) (xs : List Int) (m : Nat) (t : ByteArray) : Prop := ∃ i u, i < m ∧ i + kL k ≤ xs.length ∧ Pr k b ((xs.drop i).take (kL k)) u ∧ t = wOf (wAt xs i (kL k) u)
/-- A text is what an error makes of digits. -/
def WwP (k b : Int) (xs : List Int) (t : ByteArray) : Prop := ∃ i u, i + kL k ≤ xs.length ∧ Pr k b ((xs.drop i).take (kL k)) u ∧ t = wOf (wAt xs i (kL k) u)
theorem WwM.zero {k b : Int} {xs : List Int} {t : ByteArray} : ¬ WwM k b xs 0 t := fun ⟨_, _, h, _⟩ => by omega
theorem WwM.succ {k b : Int} {xs : List Int} {m : Nat} {t : ByteArray} (h : m + kL k ≤ xs.length) : WwM k b xs (m + 1) t ↔ WwM k b xs m t ∨ ∃ u, Pr k b ((xs.drop m).take (kL k)) u ∧ t = wOf (wAt xs m (kL k) u) := by
  constructor
  · rintro ⟨i, u, h1, h2, h3, h4⟩
    by_cases e : i = m
    · subst e; exact .inr ⟨u, h3, h4⟩
    · exact .inl ⟨i, u, by omega, h2, h3, h4⟩
  · rintro (⟨i, u, h1, h2, h3, h4⟩ | ⟨u, h3, h4⟩)
    · exact ⟨i, u, by omega, h2, h3, h4⟩
    · exact ⟨m, u, by omega, h, h3, h4⟩
theorem WwM.stop {k b : Int} {xs : List Int} {m : Nat} {t : ByteArray} (h : xs.length < m + kL k) : WwM k b xs m t ↔ WwP k b xs t := by
  constructor
  · rintro ⟨i, u, h1, h2, h3, h4⟩; exact ⟨i, u, h2, h3, h4⟩
  · rintro ⟨i, u, h2, h3, h4⟩; exact ⟨i, u, by omega, h2, h3, h4⟩
theorem wAt_len {xs u : List Int} {i n : Nat} (h : i + n ≤ xs.length) (hu : u.length = n) : (wAt xs i n u).length = xs.length := by
  unfold wAt; simp [hu]; omega
theorem wAt_mid {xs u : List Int} {i n : Nat} (h : i + n ≤ xs.length) (hu : u.length = n) : ((wAt xs i n u).drop i).take n = u := by
  unfold wAt
  rw [List.append_assoc, List.drop_append_of_le_length (by simp; omega), List.drop_of_length_le (by simp; omega), List.nil_append, List.take_append_of_le_length (by omega), List.take_of_length_le (by omega)]
theorem wAt_back {xs u : List Int} {i n : Nat} (h : i + n ≤ xs.length) (hu : u.length = n) : wAt (wAt xs i n u) i n ((xs.drop i).take n) = xs := by
  have h1 : (wAt xs i n u).take i = xs.take i := by
    unfold wAt
    rw [List.append_assoc, List.take_append_of_le_length (by simp; omega), List.take_take, Nat.min_self]
  have h2 : (wAt xs i n u).drop (i + n) = xs.drop (i + n) := by
    unfold wAt
    rw [List.drop_append, List.drop_of_length_le (by simp [hu]; omega), List.nil_append]
    simp [hu, Nat.min_eq_left (show i ≤ xs.length by omega)]
  unfold wAt at h1 h2 ⊢
  rw [h1, h2, List.append_assoc, show xs.drop (i + n) = (xs.drop i).drop n by rw [List.drop_drop], List.take_append_drop, List.take_append_drop]
theorem wAt_dig {xs u : List Int} {i n : Nat} {b : Int} (hx : ∀ z ∈ xs, 0 ≤ z ∧ z < b) (hu : ∀ z ∈ u, 0 ≤ z ∧ z < b) : ∀ z ∈ wAt xs i n u, 0 ≤ z ∧ z < b := by
  intro z hz
  unfold wAt at hz
  rw [List.mem_append, List.mem_append] at hz
  rcases hz with (h | h) | h
  · exact hx z (List.mem_of_mem_take h)
  · exact hu z h
  · exact hx z (List.mem_of_mem_drop h)
theorem wOf_inj {b : Int} {xs ys : List Int} (hb : b ≤ 36) (hx : ∀ z ∈ xs, 0 ≤ z ∧ z < b) (hy : ∀ z ∈ ys, 0 ≤ z ∧ z < b) (h : wOf xs = wOf ys) : xs = ys := by
  have e := congrArg bz h
  rw [wOf_bz (fun z hz => by have := hx z hz; omega), wOf_bz (fun z hz => by have := hy z hz; omega)] at e
  have e2 := congrArg (List.map dg) e
  rw [List.map_map, List.map_map] at e2
  have key : ∀ l : List Int, (∀ z ∈ l, 0 ≤ z ∧ z < b) → l.map (dg ∘ sy) = l := fun l hl => by
    conv => rhs; rw [← List.map_id l]
    exact List.map_congr_left fun z hz => by have := hl z hz; show dg (sy z) = z; exact dg_sy (by omega)
  rwa [key xs hx, key ys hy] at e2
theorem dgs_wOf {b : Int} {xs : List Int} (hb : b ≤ 36) (hx : ∀ z ∈ xs, 0 ≤ z ∧ z < b) : dgs (wOf xs) = xs := by
  unfold dgs
  rw [wOf_bz (fun z hz => by have := hx z hz; omega), List.map_map]
  conv => rhs; rw [← List.map_id xs]
  exact List.map_congr_left fun z hz => by have := hx z hz; show dg (sy z) = z; exact dg_sy (by omega)
theorem dig_mem {s : ByteArray} {b m : Int} (h : digB s b m = true) : (2 ≤ b ∧ b ≤ 36) ∧ (s.size : Int) ≤ m ∧ ∀ z ∈ dgs s, 0 ≤ z ∧ z < b := by
  unfold digB wdB at h
  rw [Bool.and_eq_true, Bool.and_eq_true, List.all_eq_true, decide_eq_true_eq] at h
  obtain ⟨⟨h1, h2⟩, h3⟩ := h
  unfold inB at h1
  simp only [Bool.and_eq_true, decide_eq_true_eq] at h1
  refine ⟨h1, h2, fun z hz => ?_⟩
  unfold dgs at hz
  obtain ⟨c, hc, rfl⟩ := List.mem_map.1 hz
  have := h3 c hc
  unfold inB at this
  simp only [Bool.and_eq_true, decide_eq_true_eq] at this
  omega
theorem wOf_dgs {s : ByteArray} {b m : Int} (h : digB s b m = true) : wOf (dgs s) = s := by
  obtain ⟨h1, h2, h3⟩ := dig_mem h
  refine bz_inj ?_
  rw [wOf_bz (fun z hz => by have := h3 z hz; omega)]
  unfold dgs
  rw [List.map_map]
  conv => rhs; rw [← List.map_id (bz s)]
  refine List.map_congr_left fun c hc => ?_
  have := h3 (dg c) (List.mem_map.2 ⟨c, hc, rfl⟩)
  exact sy_dg this.1
theorem wOf_app {xs ys : List Int} (hx : ∀ z ∈ xs, 0 ≤ z ∧ z ≤ 35) (hy : ∀ z ∈ ys, 0 ≤ z ∧ z ≤ 35) : wOf (xs ++ ys) = wOf xs ++ wOf ys := by
  refine bz_inj ?_
  rw [bz_append, wOf_bz hx, wOf_bz hy, wOf_bz (fun z hz => (List.mem_append.1 hz).elim (hx z) (hy z)), List.map_append]
/-- The reference's text. -/
theorem wOf_cut {s : ByteArray} {b m : Int} (h : digB s b m = true) (i n : Nat) {u : List Int} (hu : ∀ z ∈ u, 0 ≤ z ∧ z < b) : s.extract 0 i ++ wOf u ++ s.extract (i + n) s.size = wOf (wAt (dgs s) i n u) := by
  obtain ⟨h1, h2, h3⟩ := dig_mem h
  refine bz_inj ?_
  have hd := wAt_dig (i := i) (n := n) h3 hu
  rw [bz_append, bz_append, bzU, bzF, wOf_bz (fun z hz => by have := hu z hz; omega), wOf_bz (fun z hz => by have := hd z hz; omega)]
  have hs : bz s = (dgs s).map sy := by
    conv => lhs; rw [← wOf_dgs h]
    exact wOf_bz (fun z hz => by have := h3 z hz; omega)
  rw [hs]
  unfold wAt
  rw [List.map_append, List.map_append, List.map_take, List.map_drop]
theorem dgs_cut (s : ByteArray) (i n : Nat) : dgs (s.extract i (i + n)) = ((dgs s).drop i).take n := by
  unfold dgs
  rw [bz_extract, List.drop_take, List.map_take, List.map_drop, show i + n - i = n by omega]
/-- What an error makes of a word is a word of the base with the same size, another one, and an error of the same kind makes the first word of it. -/
theorem WwP.law {k b : Int} {s t : ByteArray} {m : Int} (hs : digB s b m = true) (hk : kOk k b = true) (h : WwP k b (dgs s) t) :
    digB t b m = true ∧ t.size = s.size ∧ t ≠ s ∧ WwP k b (dgs t) s := by
  obtain ⟨h1, h2, h3⟩ := dig_mem hs
  obtain ⟨i, u, hi, hp, rfl⟩ := h
  have hul := hp.len.2
  have hud := hp.dig (kOk_parts hk).2
  have hd := wAt_dig (i := i) (n := kL k) h3 hud
  have hl := wAt_len hi hul
  have hdw := dgs_wOf h1.2 hd
  refine ⟨wOf_dig h1 hd (by rw [hl, dgs_len]; exact h2), by rw [wOf_size, hl, dgs_len], fun e => ?_, ?_⟩
  · have e2 := congrArg dgs e
    rw [hdw] at e2
    have e3 := wAt_mid hi hul
    rw [e2] at e3
    exact hp.ne e3
  · rw [hdw]
    refine ⟨i, ((dgs s).drop i).take (kL k), by rw [hl]; exact hi, ?_, ?_⟩
    · rw [wAt_mid hi hul]; exact hp.symm
    · rw [wAt_back hi hul]; exact (wOf_dgs hs).symm
/-- A list without repetitions is no longer than one that holds it. -/
theorem sub_lenS {α : Type} [DecidableEq α] : ∀ (A B : List α), A.Nodup → (∀ a ∈ A, a ∈ B) → A.length ≤ B.length
  | [], _, _, _ => Nat.zero_le _
  | a :: A, B, hn, h => by
    rw [List.nodup_cons] at hn
    have ha := h a (List.mem_cons_self ..)
    have hB : 0 < B.length := List.length_pos_of_mem ha
    have := sub_lenS A (B.erase a) hn.2 fun z hz => (List.mem_erase_of_ne (fun e => hn.1 (by rw [← e]; exact hz))).2 (h z (List.mem_cons_of_mem _ hz))
    rw [List.length_erase_of_mem ha] at this
    simp only [List.length_cons]
    omega
theorem AscS.nodup {l : List ByteArray} (h : AscS l) : l.Nodup := h.imp fun hab e => by subst e; exact ltS.irrefl _ hab
/-- What single errors make of digits. -/
def sgl (b : Int) : List Int → List (List Int)
  | [] => []
  | x :: xs => (((dgB b).filter fun d => d != x).map fun d => d :: xs) ++ (sgl b xs).map fun y => x :: y
theorem dgB_nodup (b : Int) : (dgB b).Nodup := by
  unfold dgB
  rw [List.nodup_iff_pairwise_ne, List.pairwise_map]
  exact List.nodup_range.imp fun h e => h (by omega)
theorem sgl_len (b : Int) : ∀ xs : List Int, (∀ z ∈ xs, 0 ≤ z ∧ z < b) → (sgl b xs).length = xs.length * (b.toNat - 1)
  | [], _ => by simp [sgl]
  | x :: xs, h => by
    have hx := h x (List.mem_cons_self ..)
    have h1 : ((dgB b).filter fun d => d != x).length = b.toNat - 1 := by
      rw [← List.Nodup.erase_eq_filter (dgB_nodup b), List.length_erase_of_mem (dgB_mem.2 hx)]
      simp [dgB]
    rw [sgl, List.length_append, List.length_map, List.length_map, h1, sgl_len b xs fun z hz => h z (List.mem_cons_of_mem _ hz), List.length_cons, Nat.add_mul, Nat.one_mul, Nat.add_comm]
theorem sgl_nodup (b : Int) : ∀ xs : List Int, (sgl b xs).Nodup
  | [] => by simp [sgl]
  | x :: xs => by
    rw [sgl, List.nodup_append]
    refine ⟨?_, ?_, ?_⟩
    · rw [List.nodup_iff_pairwise_ne, List.pairwise_map]
      exact List.Pairwise.imp (fun h e => h (by simpa using e)) (List.nodup_iff_pairwise_ne.1 ((dgB_nodup b).filter _))
    · rw [List.nodup_iff_pairwise_ne, List.pairwise_map]
      exact List.Pairwise.imp (fun h e => h (by simpa using e)) (List.nodup_iff_pairwise_ne.1 (sgl_nodup b xs))
    · intro a ha c hc e
      obtain ⟨d, hd, rfl⟩ := List.mem_map.1 ha
      obtain ⟨y, hy, rfl⟩ := List.mem_map.1 hc
      rw [List.mem_filter] at hd
      have := hd.2
      simp at this e
      exact this e.1
theorem sgl_mem (b : Int) : ∀ (xs ys : List Int), (∀ z ∈ xs, 0 ≤ z ∧ z < b) → (ys ∈ sgl b xs ↔ ∃ i u, i + 1 ≤ xs.length ∧ Pr 0 b ((xs.drop i).take 1) u ∧ ys = wAt xs i 1 u)
  | [], ys, _ => by
    constructor
    · intro h; simp [sgl] at h
    · rintro ⟨i, u, h, _⟩; simp at h
  | x :: xs, ys, hx => by
    have ih := sgl_mem b xs
    rw [sgl, List.mem_append, List.mem_map, List.mem_map]
    constructor
    · rintro (⟨d, hd, rfl⟩ | ⟨y, hy, rfl⟩)
      · rw [List.mem_filter, dgB_mem] at hd
        have hne : ¬ d = x := by simpa using hd.2
        exact ⟨0, [d], by simp, .inl ⟨rfl, x, d, hx x (by simp), hd.1, fun e => hne e.symm, rfl, rfl⟩, by simp [wAt]⟩
      · obtain ⟨i, u, h1, h2, rfl⟩ := (ih y fun z hz => hx z (by simp [hz])).1 hy
        exact ⟨i + 1, u, by simp; omega, by simpa using h2, by unfold wAt; rw [show i + 1 + 1 = (i + 1) + 1 by omega]; simp⟩
    · rintro ⟨i, u, h1, h2, rfl⟩
      cases i with
      | zero =>
        rcases h2 with ⟨_, a, c, ha, hc, hne, h3, rfl⟩ | ⟨h, _⟩ | ⟨h, _⟩ | ⟨h, _⟩ | ⟨h, _⟩ | ⟨h, _⟩
        · simp at h3
          subst h3
          exact .inl ⟨c, List.mem_filter.2 ⟨dgB_mem.2 hc, by simpa using fun e : c = x => hne e.symm⟩, by simp [wAt]⟩
        all_goals omega
      | succ i =>
        refine .inr ⟨wAt xs i 1 u, (ih _ fun z hz => hx z (by simp [hz])).2 ⟨i, u, by simp at h1; omega, by simpa using h2, rfl⟩, ?_⟩
        unfold wAt; rw [show i + 1 + 1 = (i + 1) + 1 by omega]; simp
/-- How many words single errors make. -/
theorem WwP.count {b m : Int} {s : ByteArray} {l : List ByteArray} (hs : digB s b m = true) (ha : AscS l) (hl : ∀ t, t ∈ l ↔ WwP 0 b (dgs s) t) : (l.length : Int) = s.size * (b - 1) := by
  obtain ⟨h1, h2, h3⟩ := dig_mem hs
  have hm : ∀ t, t ∈ l ↔ t ∈ (sgl b (dgs s)).map wOf := fun t => by
    rw [hl t, List.mem_map]
    constructor
    · rintro ⟨i, u, e1, e2, e3⟩
      exact ⟨_, (sgl_mem b _ _ h3).2 ⟨i, u, e1, e2, rfl⟩, e3.symm⟩
    · rintro ⟨ys, hy, rfl⟩
      obtain ⟨i, u, e1, e2, rfl⟩ := (sgl_mem b _ _ h3).1 hy
      exact ⟨i, u, e1, e2, rfl⟩
  have hn : ((sgl b (dgs s)).map wOf).Nodup := by
    rw [List.nodup_iff_pairwise_ne, List.pairwise_map]
    refine List.Pairwise.imp_of_mem ?_ (List.nodup_iff_pairwise_ne.1 (sgl_nodup b (dgs s)))
    intro x y hx hy hne e
    have hd : ∀ y, y ∈ sgl b (dgs s) → ∀ z ∈ y, 0 ≤ z ∧ z < b := fun y hy => by
      obtain ⟨i, u, e1, e2, rfl⟩ := (sgl_mem b _ _ h3).1 hy
      exact wAt_dig h3 (e2.dig (fun h => by omega))
    exact hne (wOf_inj h1.2 (hd x hx) (hd y hy) e)
  have e1 := sub_lenS l _ ha.nodup fun t ht => (hm t).1 ht
  have e2 := sub_lenS _ l hn fun t ht => (hm t).2 ht
  have e3 : l.length = s.size * (b.toNat - 1) := by
    rw [← dgs_len, ← sgl_len b _ h3, ← List.length_map wOf]
    omega
  rw [e3]
  push_cast
  rw [show ((b.toNat - 1 : Nat) : Int) = b - 1 by omega]
end Go.Proofs.Ytgagjmnmfgfpfaa
