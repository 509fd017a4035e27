/- HearNumber: plain facts. -/
import Derived.Test.YtdlagajnefkklaaDoorCutS
import Derived.Test.YtdlagajnefkklaaDoorShSplit
import Derived.Test.YtdlagajnefkklaaDoorSpk
namespace Go.Proofs.YtdlagajnefkklaaDoor
open Go.RowKit

def xA (a t : ByteArray) : Int := ix (bz a) ((bz t).getD 0 0)
def xB (b t : ByteArray) : Int := ix (bz b) ((bz t).getD 1 0)
def okT (a b t : ByteArray) : Bool := decide (t.size = 2) && (decide (0 ≤ xA a t) && decide (0 ≤ xB b t))
def hnN (a b t : ByteArray) (n : Nat) : Nat := n * (a.size * b.size) + ((xA a t).toNat * b.size + (xB b t).toNat)
/-- The number of the pieces behind the number n. -/
def hnG (a b : ByteArray) : List ByteArray → Nat → Option Nat
  | [], n => some n
  | t :: r, n => if okT a b t then hnG a b r (hnN a b t n) else none
def hnO (a b s : ByteArray) : Option Nat := if vsB a b && (decide ((cutS s).length ≤ 8) && pwB (a.size * b.size) (cutS s).length) then hnG a b (cutS s) 0 else none
def hnV (o : Option Nat) : Value := .tuple #[.int .i64 (o.getD 0 : Nat), .bool o.isSome]
theorem hnO_v {a b s : ByteArray} (h : vsB a b = false) : hnO a b s = none := by unfold hnO; rw [h]; rfl
theorem hnO_k {a b s : ByteArray} (h : ¬ (cutS s).length ≤ 8) : hnO a b s = none := by unfold hnO; rw [decide_eq_false h]; simp
theorem hnO_p {a b s : ByteArray} (h : pwB (a.size * b.size) (cutS s).length = false) : hnO a b s = none := by unfold hnO; rw [h]; simp
theorem hnO_y {a b s : ByteArray} (h1 : vsB a b = true) (h2 : (cutS s).length ≤ 8) (h3 : pwB (a.size * b.size) (cutS s).length = true) : hnO a b s = hnG a b (cutS s) 0 := by unfold hnO; rw [h1, decide_eq_true h2, h3]; rfl
theorem hnG_sizes {a b : ByteArray} : ∀ (l : List ByteArray) (n m : Nat), hnG a b l n = some m → (l.map ByteArray.size).sum = 2 * l.length
  | [], _, _, _ => rfl
  | t :: r, n, m, h => by
    unfold hnG at h
    by_cases ho : okT a b t = true
    · rw [if_pos ho] at h
      have := hnG_sizes r _ _ h
      unfold okT at ho
      simp only [Bool.and_eq_true, decide_eq_true_eq] at ho
      simp only [List.map_cons, List.sum_cons, List.length_cons]
      omega
    · rw [if_neg ho] at h; cases h
theorem hnO_long {a b s : ByteArray} (h : 24 < s.size) : hnO a b s = none := by
  cases e : hnO a b s with
  | none => rfl
  | some m =>
    unfold hnO at e
    split at e
    · rename_i h1
      simp only [Bool.and_eq_true, decide_eq_true_eq] at h1
      have h2 := hnG_sizes _ _ _ e
      have h3 := cutS_sum s
      omega
    · cases e
theorem hnG_at {a b : ByteArray} {l : List ByteArray} {i : Nat} (hi : i < l.length) (n : Nat) : hnG a b (l.drop i) n = if okT a b (sAt l i) then hnG a b (l.drop (i + 1)) (hnN a b (sAt l i) n) else none := by
  rw [List.drop_eq_getElem_cons hi]
  have e : sAt l i = l[i] := by simp [hi]
  rw [e]
  rfl
theorem hnG_end {a b : ByteArray} {l : List ByteArray} (n : Nat) : hnG a b (l.drop l.length) n = some n := by rw [List.drop_length]; rfl
theorem xA_lt (a t : ByteArray) : xA a t < a.size := by have := ix_lt (bz a) ((bz t).getD 0 0); rw [bz_len] at this; exact this
theorem xB_lt (b t : ByteArray) : xB b t < b.size := by have := ix_lt (bz b) ((bz t).getD 1 0); rw [bz_len] at this; exact this
theorem hnN_lt {a b t : ByteArray} {n i : Nat} (h : okT a b t = true) (hn : n < (a.size * b.size) ^ i) : hnN a b t n < (a.size * b.size) ^ (i + 1) ∧ (xA a t).toNat * b.size + (xB b t).toNat < a.size * b.size := by
  unfold okT at h
  simp only [Bool.and_eq_true, decide_eq_true_eq] at h
  have h1 := xA_lt a t
  have h2 := xB_lt b t
  have h3 : (xA a t).toNat + 1 ≤ a.size := by omega
  have h4 : (xB b t).toNat < b.size := by omega
  have h5 := Nat.mul_le_mul_right b.size h3
  rw [Nat.succ_mul] at h5
  have h6 : (xA a t).toNat * b.size + (xB b t).toNat < a.size * b.size := by omega
  refine ⟨?_, h6⟩
  unfold hnN
  have h7 := Nat.mul_le_mul_right (a.size * b.size) (show n + 1 ≤ (a.size * b.size) ^ i from hn)
  rw [Nat.succ_mul, ← Nat.pow_succ] at h7
  exact Nat.lt_of_lt_of_le (Nat.add_lt_add_left h6 _) h7
theorem size2 {t : ByteArray} (h : t.size = 2) : ∃ p q, t = ⟨#[p, q]⟩ := by
  obtain ⟨⟨l⟩⟩ := t
  have h : l.length = 2 := h
  match l, h with
  | [p, q], _ => exact ⟨p, q, rfl⟩
/-- strings.Split at the mark. -/
theorem splitD_any (s : ByteArray) (m : Int) (w : World) (hs : s.size ≤ 1048576) (hm : w.cell? ⟨0, 0, none⟩ = some (.int .i64 m)) :
    Calls Tryd.prog 33 #[.string s, .string ⟨#[45]⟩] w fun e w' => ∃ v, e = .returned v ∧ RS w' v (cutS s) ∧ Below w.heap.size w w' := by
  refine (sh_strings_Split s dashB m w (by omega) hm (by decide)).mono ?_
  rintro e w' ⟨rfl, rfl⟩
  have hl := cutS_len s
  have hc : Lib.countB s dashB ≤ s.size := Lib.countB_le dashB (by decide) s.size s (Nat.le_refl _)
  refine ⟨_, rfl, ⟨_, _, by rw [ss_length, hl], ⟨by rw [ss_length, hl]; exact Nat.le_refl _, by unfold maxLen; omega⟩, fun j hj => ⟨_, 0, rfl, ?_⟩⟩, (Below.refl _ _).alloc (Nat.le_refl _) _⟩
  rw [World.cell?_alloc_at _ _ _ _ rfl, Nat.zero_add, List.getElem?_toArray]
  rfl
end Go.Proofs.YtdlagajnefkklaaDoor
