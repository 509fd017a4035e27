/- Edits: what the program answers for words of digits; plain facts of the law. -/
import Derived.Test.YtgagjmnmfgfpfaaScrS
import Derived.Test.YtgagjmnmfgfpfaaScrP
import Derived.Test.YtgagjmnmfgfpfaaEditP
import Derived.Test.YtgagjmnmfgfpfaaAppI
import Derived.Test.YtgagjmnmfgfpfaaDrW
namespace Go.Proofs.Ytgagjmnmfgfpfaa
open Go.RowKit

/-- The edit distance, and the typing distance. -/
def D (a b : ByteArray) : Nat := cAt false (bz a) (bz b) 0 0
def T (a b : ByteArray) : Nat := cAt true (bz a) (bz b) 0 0
theorem D_cst (a b : ByteArray) : D a b = cst false (bz a) (bz b) := by unfold D cAt; rw [List.drop_zero, List.drop_zero]
theorem T_cst (a b : ByteArray) : T a b = cst true (bz a) (bz b) := by unfold T cAt; rw [List.drop_zero, List.drop_zero]
theorem D_zero (a b : ByteArray) : D a b = 0 ↔ a = b := by
  rw [D_cst, cst_zero]
  exact ⟨bz_inj, fun h => by rw [h]⟩
theorem D_symm (a b : ByteArray) : D a b = D b a := by rw [D_cst, D_cst, cst_symm]
theorem D_tri (a b c : ByteArray) : D a b ≤ D a c + D c b := by rw [D_cst, D_cst, D_cst]; exact cst_tri _ _ _
theorem D_le (a b : ByteArray) : D a b ≤ a.size + b.size := by
  have := cAt_le false (bz a) (bz b) 0 0
  rw [bz_len, bz_len] at this
  exact this
theorem T_le (a b : ByteArray) : T a b ≤ D a b := by rw [D_cst, T_cst]; exact cst_true_le _ _ _ (Nat.le_refl _)
theorem D_2T (a b : ByteArray) : D a b ≤ 2 * T a b := by rw [D_cst, T_cst]; exact cst_false_le _ _ _ (Nat.le_refl _)
theorem dig_le {a : ByteArray} (h : digB a 36 20 = true) : a.size ≤ 20 := by have := digB_size h; omega
theorem edY (a b : ByteArray) (w : World) (ha : Hid (digB a 36 20 = true)) (hb : Hid (digB b 36 20 = true)) :
    Calls Try.prog 19 #[.string a, .string b] w fun e w' => e = .returned (.tuple #[.int .i64 (D a b : Nat), .bool true]) ∧ Below w.heap.size w w' := by
  have h1 := dig_le ha.out
  have h2 := dig_le hb.out
  have := implEditDistance_any a b w (by omega) (by omega)
  unfold edV at this
  rw [ha.out, hb.out] at this
  exact this
theorem tyY (a b : ByteArray) (w : World) (ha : Hid (digB a 36 20 = true)) (hb : Hid (digB b 36 20 = true)) :
    Calls Try.prog 21 #[.string a, .string b] w fun e w' => e = .returned (.tuple #[.int .i64 (T a b : Nat), .bool true]) ∧ Below w.heap.size w w' := by
  have h1 := dig_le ha.out
  have h2 := dig_le hb.out
  have := implTypingDistance_any a b w (by omega) (by omega)
  unfold edV at this
  rw [ha.out, hb.out] at this
  exact this
theorem scr_bz (a b : ByteArray) : bz (strOfNums (scr a b)) = scr a b := str_bz fun z hz => by have := (scr_law a b).2.2 z hz; omega
theorem scr_len (a b : ByteArray) : (scr a b).length ≤ a.size + b.size := by
  have := run_len (scr a b) 0 0 _ _ (Nat.zero_le _) (Nat.zero_le _) (scr_law a b).1
  omega
theorem scr_offs (a b : ByteArray) : offs (scr a b) = T a b := by
  have := (scr_law a b).2.1
  unfold cI at this
  unfold T; omega
def ScY (a b : ByteArray) (w : World) (e : Ending) (w' : World) : Prop := ∃ s : ByteArray, e = .returned (.tuple #[.string s, .bool true]) ∧ Hid (s = strOfNums (scr a b)) ∧ s.size ≤ 40 ∧ Below w.heap.size w w'
theorem scY (a b : ByteArray) (w : World) (ha : Hid (digB a 36 20 = true)) (hb : Hid (digB b 36 20 = true)) :
    Calls Try.prog 24 #[.string a, .string b] w (ScY a b w) := by
  have h1 := dig_le ha.out
  have h2 := dig_le hb.out
  have := implSc_any a b w (by omega) (by omega)
  rw [scV_yes ha.out hb.out] at this
  refine this.mono fun _ _ h => ⟨_, h.1, rfl, ?_, h.2⟩
  have := scr_len a b
  rw [str_size]; omega
theorem apY (s a b : ByteArray) (w : World) (ha : Hid (digB a 36 20 = true)) (hb : Hid (digB b 36 20 = true)) (hs : Hid (s = strOfNums (scr a b))) :
    Calls Try.prog 17 #[.string s, .string a, .string b] w fun e w' => e = .returned (.tuple #[.string b, .bool true]) ∧ Below w.heap.size w w' := by
  have h1 := dig_le ha.out
  have h2 := dig_le hb.out
  have h3 : s.size ≤ 40 := by rw [hs.out, str_size]; have := scr_len a b; omega
  have := implAp_any s a b w (by omega) (by omega) (by omega)
  rw [apV_yes ha.out hb.out (by unfold apB; rw [hs.out, scr_bz, (scr_law a b).1]; exact decide_eq_true rfl)] at this
  exact this
/-- How many letters other than = the first k are. -/
def offK (s : ByteArray) (k : Nat) : Nat := offs ((bz s).take k)
theorem offK_le (s : ByteArray) : ∀ k, offK s k ≤ k := fun k => by
  unfold offK
  have key : ∀ l : List Int, offs l ≤ l.length := fun l => by
    induction l with
    | nil => simp [offs]
    | cons c l ih =>
      have : offs (c :: l) = (if c = 61 then 0 else 1) + offs l := by simp [offs]
      rw [this]; simp only [List.length_cons]; split <;> omega
  have := key ((bz s).take k)
  have h2 := List.length_take_le k (bz s)
  omega
theorem offK_succ (s : ByteArray) (k : Nat) (h : k < s.size) : offK s (k + 1) = offK s k + if (s[k].toNat : Int) = 61 then 0 else 1 := by
  unfold offK offs
  have hl : k < (bz s).length := by rw [bz_len]; exact h
  rw [List.take_succ_eq_append_getElem hl, List.map_append, List.sum_append]
  have := bz_get s k h
  rw [getD_eq hl] at this
  simp [this]
theorem offK_all (s : ByteArray) (a b : ByteArray) (h : s = strOfNums (scr a b)) : offK s s.size = T a b := by
  unfold offK
  rw [List.take_of_length_le (by rw [bz_len]; exact Nat.le_refl _), h, scr_bz, scr_offs]
end Go.Proofs.Ytgagjmnmfgfpfaa
