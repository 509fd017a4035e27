/- Heard words: distances, the least gap, and what is heard: plain facts and the program's answers. -/
import Derived.Test.YtdlagajnefkklaaHear
import Derived.Test.YtdlagajnefkklaaEditP
import Derived.Test.YtdlagajnefkklaaDrL
namespace Go.Proofs.Ytdlagajnefkklaa
open Go.RowKit

def D (a b : ByteArray) : Nat := cAt false (bz a) (bz b) 0 0
theorem D_cst (a b : ByteArray) : D a b = cst false (bz a) (bz b) := by unfold D cAt; rw [List.drop_zero, List.drop_zero]
theorem D_zero (a b : ByteArray) : D a b = 0 ↔ a = b := by
  rw [D_cst, cst_zero]
  exact ⟨bz_inj, fun h => by rw [h]⟩
theorem D_symm (a b : ByteArray) : D a b = D b a := by rw [D_cst, D_cst, cst_symm]
theorem D_tri (a b c : ByteArray) : D a b ≤ D a c + D c b := by rw [D_cst, D_cst, D_cst]; exact cst_tri _ _ _
theorem D_le (a b : ByteArray) : D a b ≤ a.size + b.size := by
  have := cAt_le false (bz a) (bz b) 0 0
  rw [bz_len, bz_len] at this
  exact this
theorem dis_D (l : List ByteArray) (i k : Nat) : dis l i k = (D (sAt l i) (sAt l k) : Int) := rfl
theorem dh_D (l : List ByteArray) (h : ByteArray) (i : Nat) : dh l h i = (D (sAt l i) h : Int) := rfl

/-- A state is the least of the pairs in S. -/
def Bst (l : List ByteArray) (st : Option (Int × Nat × Nat)) (S : Nat → Nat → Prop) : Prop :=
  match st with
  | none => ∀ i k, ¬ S i k
  | some (d, a, b) => S a b ∧ d = dis l a b ∧ ∀ i k, S i k → d ≤ dis l i k
theorem Bst.F {l : List ByteArray} {st : Option (Int × Nat × Nat)} {S : Nat → Nat → Prop} (h : Bst l st S) (i k : Nat) : Bst l (gapF l st i k) fun p q => S p q ∨ (p = i ∧ q = k) := by
  unfold gapF
  cases st with
  | none => exact ⟨.inr ⟨rfl, rfl⟩, rfl, fun p q hs => by rcases hs with hs | ⟨rfl, rfl⟩; exact absurd hs (h p q); exact Int.le_refl _⟩
  | some x =>
    obtain ⟨d, a, b⟩ := x
    obtain ⟨h1, h2, h3⟩ := h
    simp only
    split
    · refine ⟨.inr ⟨rfl, rfl⟩, rfl, fun p q hs => ?_⟩
      rcases hs with hs | ⟨rfl, rfl⟩
      · have := h3 p q hs; omega
      · exact Int.le_refl _
    · refine ⟨.inl h1, h2, fun p q hs => ?_⟩
      rcases hs with hs | ⟨rfl, rfl⟩
      · exact h3 p q hs
      · omega
theorem Bst.congr {l : List ByteArray} {st : Option (Int × Nat × Nat)} {S T : Nat → Nat → Prop} (h : Bst l st S) (e : ∀ i k, S i k ↔ T i k) : Bst l st T := by
  have : S = T := by funext i k; exact propext (e i k)
  rw [← this]; exact h
theorem Bst.K {l : List ByteArray} {st : Option (Int × Nat × Nat)} {S : Nat → Nat → Prop} (h : Bst l st S) (i : Nat) : ∀ m, Bst l (gapK l st i m) fun p q => S p q ∨ (p = i ∧ i < q ∧ q < i + 1 + m)
  | 0 => h.congr fun p q => ⟨fun hs => .inl hs, fun hs => by rcases hs with hs | ⟨_, _, _⟩; exact hs; omega⟩
  | m + 1 => ((Bst.K h i m).F i (i + 1 + m)).congr fun p q => by
    constructor
    · rintro ((hs | ⟨h1, h2, h3⟩) | ⟨h1, h2⟩)
      · exact .inl hs
      · exact .inr ⟨h1, h2, by omega⟩
      · exact .inr ⟨h1, by omega, by omega⟩
    · rintro (hs | ⟨h1, h2, h3⟩)
      · exact .inl (.inl hs)
      · by_cases e : q = i + 1 + m
        · exact .inr ⟨h1, e⟩
        · exact .inl (.inr ⟨h1, h2, by omega⟩)
theorem gapO_bst (l : List ByteArray) : ∀ i, i ≤ l.length → Bst l (gapO l i) fun p q => p < i ∧ p < q ∧ q < l.length
  | 0, _ => fun p q h => by omega
  | i + 1, hi => ((gapO_bst l i (by omega)).K i (l.length - (i + 1))).congr fun p q => by
    constructor
    · rintro (⟨h1, h2, h3⟩ | ⟨h1, h2, h3⟩) <;> omega
    · rintro ⟨h1, h2, h3⟩
      by_cases e : p = i
      · exact .inr ⟨e, by omega, by omega⟩
      · exact .inl ⟨by omega, h2, h3⟩
theorem lex_ne {l : List ByteArray} (h : lexB l = true) {i k : Nat} (hi : i < l.length) (hk : k < l.length) (hne : i ≠ k) : sAt l i ≠ sAt l k := by
  have key : ∀ i k, i < k → k < l.length → sAt l i ≠ sAt l k := fun i k hik hk e => by
    unfold lexB at h
    rw [Bool.and_eq_true, List.all_eq_true] at h
    have h2 := h.1 k (List.mem_range.2 hk)
    unfold lexAt at h2
    rw [Bool.and_eq_true, Bool.not_eq_true'] at h2
    have h3 : hasS (l.take k) (sAt l k) = true := hasS_iff.2 (by
      rw [← e]
      refine List.mem_iff_getElem.2 ⟨i, by rw [List.length_take]; omega, ?_⟩
      simp [show i < l.length by omega])
    rw [h2.2] at h3; cases h3
  rcases Nat.lt_or_gt_of_ne hne with h1 | h1
  · exact key i k h1 hk
  · exact fun e => key k i h1 hi e.symm
theorem lex_let {l : List ByteArray} (h : lexB l = true) {i : Nat} (hi : i < l.length) : letB (sAt l i) 20 = true := by
  unfold lexB at h
  rw [Bool.and_eq_true, List.all_eq_true] at h
  have h2 := h.1 i (List.mem_range.2 hi)
  unfold lexAt at h2
  simp only [Bool.and_eq_true] at h2
  exact h2.1.2
/-- The least gap of a lexicon. -/
structure GapIs (l : List ByteArray) (d i k : Nat) : Prop where
  lt : i < k ∧ k < l.length
  eq : d = D (sAt l i) (sAt l k)
  pos : 1 ≤ d ∧ d ≤ 40
  least : ∀ p q, p < l.length → q < l.length → p ≠ q → d ≤ D (sAt l p) (sAt l q)
theorem gap_is {l : List ByteArray} (h : lexB l = true) : ∃ d i k : Nat, enS (gapO l l.length) = ((d : Int), i, k) ∧ GapIs l d i k := by
  obtain ⟨hsh, h2, _⟩ := lex_sh h
  have hb := gapO_bst l l.length (Nat.le_refl _)
  have hs := gapO_some h2 (l.length - 1)
  rw [show l.length - 1 + 1 = l.length by omega] at hs
  cases e : gapO l l.length with
  | none => rw [e] at hs; cases hs
  | some x =>
    obtain ⟨d, a, b⟩ := x
    rw [e] at hb
    obtain ⟨⟨h1, h2, h3⟩, h4, h5⟩ := hb
    have hd := dis_bd hsh a b h1 h3
    rw [dis_D] at h4 hd
    obtain ⟨d, rfl⟩ := Int.eq_ofNat_of_zero_le (show 0 ≤ d by omega)
    have h4' : d = D (sAt l a) (sAt l b) := by omega
    have hpos : D (sAt l a) (sAt l b) ≠ 0 := fun e0 => lex_ne h h1 h3 (by omega) ((D_zero _ _).1 e0)
    refine ⟨d, a, b, rfl, ⟨h2, h3⟩, h4', ⟨by omega, by omega⟩, fun p q hp hq hne => ?_⟩
    rcases Nat.lt_or_gt_of_ne hne with hl | hl
    · have := h5 p q ⟨hp, hl, hq⟩
      rw [dis_D] at this; omega
    · have := h5 q p ⟨hq, hl, hp⟩
      rw [dis_D] at this
      rw [D_symm]; omega
theorem hrP_none {l : List ByteArray} {h : ByteArray} {most : Int} : ∀ {n : Nat}, (∀ i, i < n → hrB l h most i = false) → hrP l h most n = []
  | 0, _ => rfl
  | n + 1, hh => by rw [hrP_no (hh n (by omega)), hrP_none fun i hi => hh i (by omega)]
theorem hrP_one {l : List ByteArray} {h : ByteArray} {most : Int} : ∀ {n : Nat} {j : Nat}, j < n → hrB l h most j = true → (∀ i, i < n → i ≠ j → hrB l h most i = false) → hrP l h most n = [(j : Int)]
  | 0, j, hj, _, _ => by omega
  | n + 1, j, hj, h1, hh => by
    by_cases e : j = n
    · subst e
      rw [hrP_yes h1, hrP_none fun i hi => hh i (by omega) (by omega)]; rfl
    · rw [hrP_no (hh n (by omega) (by omega)), hrP_one (by omega) h1 fun i hi hne => hh i (by omega) hne]
/-- Two words near to one text are one word. -/
theorem near_one {l : List ByteArray} {d i k m : Nat} (G : GapIs l d i k) (hm : 2 * m < d) {h : ByteArray} {p q : Nat} (hp : p < l.length) (hq : q < l.length) (h1 : hrB l h m p = true) (h2 : hrB l h m q = true) : p = q := by
  by_cases e : p = q
  · exact e
  · exfalso
    unfold hrB at h1 h2
    rw [decide_eq_true_eq, dh_D] at h1 h2
    have := G.least p q hp hq e
    have h3 := D_tri (sAt l p) (sAt l q) h
    rw [D_symm h (sAt l q)] at h3
    omega
/-- What is heard: facts for the loop of the law. -/
structure HrF (l : List ByteArray) (h : ByteArray) (m : Nat) (z : Int) (b : Bool) : Prop where
  yes : ∀ j, j < l.length → hrB l h m j = true → z = (j : Int) ∧ b = true
  cnt : b = decide ((hrP l h m l.length).length = 1)
theorem hr_f {l : List ByteArray} {d i k m : Nat} (G : GapIs l d i k) (hm : 2 * m < d) (h : ByteArray) : ∃ (z : Int) (b : Bool), oneV (hrP l h m l.length) = .tuple #[.int .i64 z, .bool b] ∧ HrF l h m z b := by
  by_cases hex : ∃ j, j < l.length ∧ hrB l h m j = true
  · obtain ⟨j, hj, hb⟩ := hex
    have e := hrP_one (l := l) (h := h) (most := m) hj hb fun p hp hne => by
      cases hc : hrB l h m p with
      | false => rfl
      | true => exact absurd (near_one G hm hp hj hc hb) hne
    rw [e]
    exact ⟨j, true, rfl, ⟨fun p hp hpb => ⟨by rw [near_one G hm hj hp hb hpb], rfl⟩, by rw [e]; rfl⟩⟩
  · have hn : ∀ p, p < l.length → hrB l h m p = false := fun p hp => by
      cases hc : hrB l h m p with
      | false => rfl
      | true => exact absurd ⟨p, hp, hc⟩ hex
    have e := hrP_none hn
    rw [e]
    exact ⟨0, false, rfl, ⟨fun p hp hpb => by simp [hn p hp] at hpb, by rw [e]; rfl⟩⟩
theorem hr_self {l : List ByteArray} {d i k m : Nat} (G : GapIs l d i k) (hm : 2 * m < d) {j : Nat} (hj : j < l.length) : oneV (hrP l (sAt l j) m l.length) = .tuple #[.int .i64 j, .bool true] := by
  have hb : hrB l (sAt l j) m j = true := by
    unfold hrB; rw [dh_D, (D_zero _ _).2 rfl]; simp
  have e := hrP_one (l := l) (h := sAt l j) (most := m) hj hb fun p hp hne => by
    cases hc : hrB l (sAt l j) m p with
    | false => rfl
    | true => exact absurd (near_one G hm hp hj hc hb) hne
  rw [e]; rfl

def WdY (a b : ByteArray) (w : World) (e : Ending) (w' : World) : Prop := e = .returned (.tuple #[.int .i64 (D a b : Nat), .bool true]) ∧ Below w.heap.size w w'
theorem wdI (a b : ByteArray) (w : World) (ha : letB a 20 = true) (hb : letB b 20 = true) : Calls Try.prog 21 #[.string a, .string b] w (WdY a b w) := by
  have h1 := letB_size ha
  have h2 := letB_size hb
  have := implWD_any a b w (by omega) (by omega)
  unfold wdV at this
  rw [ha, hb] at this
  exact this
theorem wdS (a b : ByteArray) (w : World) (ha : letB a 20 = true) (hb : letB b 20 = true) : Calls Try.prog 20 #[.string a, .string b] w (WdY a b w) := by
  have h1 := letB_size ha
  have h2 := letB_size hb
  have := specWD_any a b w (by omega) (by omega)
  unfold wdV at this
  rw [ha, hb] at this
  exact this
def GapY (l : List ByteArray) (w : World) (e : Ending) (w' : World) : Prop := ∃ d i k : Nat, e = .returned (.tuple #[.int .i64 d, .int .i64 i, .int .i64 k, .bool true]) ∧ GapIs l d i k ∧ Below w.heap.size w w'
theorem lex_z {l : List ByteArray} (h : lexB l = true) : Hid (∀ k, k < l.length → (sAt l k).size ≤ 1048576) := fun k hk => by have := (lex_sh h).1 k hk; omega
theorem gapY (v : Value) (l : List ByteArray) (w : World) (hx : RS w v l) (h : Hid (lexB l = true)) : Calls Try.prog 23 #[v] w (GapY l w) := by
  have h2 := lex_sh h.out
  have := implGap_any v l w hx (by omega) (lex_z h.out)
  unfold gapV at this
  rw [h.out] at this
  obtain ⟨d, i, k, e, G⟩ := gap_is h.out
  rw [e] at this
  exact this.mono fun _ _ hh => ⟨d, i, k, hh.1, G, hh.2⟩
theorem hearSelf (v : Value) (l : List ByteArray) (d i k m j : Nat) (w : World) (hx : RS w v l) (h : Hid (lexB l = true)) (G : GapIs l d i k) (hm : 2 * m < d) (hj : j < l.length) :
    Calls Try.prog 25 #[v, .string (sAt l j), .int .i64 m] w fun e w' => e = .returned (.tuple #[.int .i64 j, .bool true]) ∧ Below w.heap.size w w' := by
  have h2 := lex_sh h.out
  have hl := lex_let h.out hj
  have := implHear_any v l (sAt l j) m w hx (by omega) (lex_z h.out) (by have := letB_size hl; omega)
  rw [hearV_yes h.out hl (by unfold inB; have := G.pos; simp; omega), hr_self G hm hj] at this
  exact this
def HrY (l : List ByteArray) (s : ByteArray) (m : Nat) (w : World) (e : Ending) (w' : World) : Prop := ∃ (z : Int) (b : Bool), e = .returned (.tuple #[.int .i64 z, .bool b]) ∧ Hid (HrF l s m z b) ∧ Below w.heap.size w w'
theorem hearAny (v : Value) (l : List ByteArray) (s : ByteArray) (d i k m : Nat) (w : World) (hx : RS w v l) (h : Hid (lexB l = true)) (hs : letB s 20 = true) (G : GapIs l d i k) (hm : 2 * m < d) :
    Calls Try.prog 25 #[v, .string s, .int .i64 m] w (HrY l s m w) := by
  have h2 := lex_sh h.out
  have := implHear_any v l s m w hx (by omega) (lex_z h.out) (by have := letB_size hs; omega)
  rw [hearV_yes h.out hs (by unfold inB; have := G.pos; simp; omega)] at this
  obtain ⟨z, b, e, F⟩ := hr_f G hm s
  rw [e] at this
  exact this.mono fun _ _ hh => ⟨z, b, hh.1, F, hh.2⟩
theorem lexY (v : Value) (l : List ByteArray) (w : World) (hx : RS w v l) (h : Hid (lexB l = true)) :
    Calls Try.prog 18 #[v] w fun e w' => e = .returned (.bool true) ∧ w = w' := by
  have h2 := lex_sh h.out
  exact implLex_is v l w true h hx (by omega) (lex_z h.out)
end Go.Proofs.Ytdlagajnefkklaa
