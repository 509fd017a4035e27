/- Alike symbols: the program's alike. -/
import Derived.Test.YtdkheeocglfogaaLikeL
namespace Go.Proofs.Ytdkheeocglfogaa
open Go.RowKit

/-- Two symbols are those of a pair. -/
def alkB (l : List ByteArray) (x y : UInt8) : Bool := hasS l ⟨#[x, y]⟩ || hasS l ⟨#[y, x]⟩
theorem conv2 (g c : Nat) (x y : UInt8) (w : World) (h0 : w.cell? ⟨g, 0, none⟩ = some (.int .u8 (x.toNat : Int))) (h1 : w.cell? ⟨g, 1, none⟩ = some (.int .u8 (y.toNat : Int))) :
    (convert 43 9 (.slice (some ⟨g, 0, none⟩) 2 c)).run Try.prog w = .ok (.string ⟨#[x, y]⟩) w := by
  have := run_convert_bytes_arg (P := Try.prog) (w := w) 43 5 Try.underlying43 Try.underlying5 g 0 _ c [(x.toNat : Int), (y.toNat : Int)] rfl (fun i hi => by
    match i, hi with
    | 0, _ => exact h0
    | 1, _ => exact h1) _ Try.underlying9
  rw [show strOfNums [(x.toNat : Int), (y.toNat : Int)] = ⟨#[x, y]⟩ by simp [strOfNums]] at this
  exact this
theorem u8t {a b : UInt8} (h : a = b) : ((a.toNat : Int) == (b.toNat : Int)) = true := by subst h; simp
theorem u8f {a b : UInt8} (h : ¬ a = b) : ((a.toNat : Int) == (b.toNat : Int)) = false := by
  rw [beq_eq_false_iff_ne]; exact fun e => h (UInt8.toNat_inj.1 (by omega))
theorem alkB_yes {l : List ByteArray} {x y : UInt8} (k : Nat) (hk : k < l.length) (h : sAt l k = ⟨#[x, y]⟩ ∨ sAt l k = ⟨#[y, x]⟩) : alkB l x y = true := by
  have hm : sAt l k ∈ l := by simp [hk]
  unfold alkB
  rcases h with h | h
  · rw [hasS_iff.2 (show ⟨#[x, y]⟩ ∈ l by rw [← h]; exact hm)]; rfl
  · rw [hasS_iff.2 (show ⟨#[y, x]⟩ ∈ l by rw [← h]; exact hm)]; simp
theorem alkB_no {l : List ByteArray} {x y : UInt8} (h : ∀ k, k < l.length → ¬ (sAt l k = ⟨#[x, y]⟩ ∨ sAt l k = ⟨#[y, x]⟩)) : alkB l x y = false := by
  have hh : ∀ q, q ∈ l → ¬ (q = ⟨#[x, y]⟩ ∨ q = ⟨#[y, x]⟩) := fun q hq => by
    obtain ⟨j, hj, rfl⟩ := List.getElem_of_mem hq
    have := h j hj
    have e : l[j] = sAt l j := by simp [hj]
    rw [e]; exact this
  unfold alkB
  rw [hasS_no fun hm => hh _ hm (.inl rfl), hasS_no fun hm => hh _ hm (.inr rfl)]; rfl
theorem alkB_symm (l : List ByteArray) (x y : UInt8) : alkB l x y = alkB l y x := by unfold alkB; rw [Bool.or_comm]
set_option maxHeartbeats 2000000 in
theorem l07Alike_any (X : Nat) (s : ByteArray) (v : Value) (l : List ByteArray) (x y : UInt8) (w : World) (hbx : LX X s v w) (hx : RS w v l) (hm : l.length ≤ 1048576) (h2 : ∀ i, i < l.length → (sAt l i).size = 2) :
    Calls Try.prog 41 #[.pointer (some ⟨X, 0, none⟩), .int .u8 (x.toNat : Int), .int .u8 (y.toNat : Int)] w fun e w' => e = .returned (.bool (alkB l x y)) ∧ w = w' := by
  obtain ⟨a, c, rfl⟩ := hx.slice
  have c1 := hbx.c1
  have H2 := Lib.hid h2
  clear h2
  go_enter Try.func41, Try.ntmps41
  go_wp2_with fail
  go_loop [7] (fun iv => ∃ k : Nat, k ≤ l.length ∧ iv = .int .i64 k ∧ Hid (∀ i, i < k → ¬ (sAt l i = ⟨#[x, y]⟩ ∨ sAt l i = ⟨#[y, x]⟩))) (fun iv => l.length - (intOf iv).toNat)
  case atStart => exact ⟨0, Nat.zero_le _, rfl, fun i hi => by omega⟩
  case round =>
    obtain ⟨k, hk, rfl, HK⟩ := hrel
    by_cases hlt : k < l.length
    · obtain ⟨ga, off, rfl, hg, hc⟩ := hx.at k hlt
      obtain ⟨p, q, hpq⟩ := size2 (H2.out k hlt)
      have HY : Hid (sAt l k = ⟨#[x, y]⟩ ∨ sAt l k = ⟨#[y, x]⟩ → alkB l x y = true) := alkB_yes k hlt
      have HN : Hid (¬ (sAt l k = ⟨#[x, y]⟩ ∨ sAt l k = ⟨#[y, x]⟩) → ∀ i, i < k + 1 → ¬ (sAt l i = ⟨#[x, y]⟩ ∨ sAt l i = ⟨#[y, x]⟩)) := fun h i hi => by
        by_cases e : i = k
        · subst e; exact h
        · exact HK.out i (by omega)
      rw [hpq] at hc HY HN
      have hi0 : ∀ h, (⟨#[p, q]⟩ : ByteArray)[0]'h = p := fun _ => rfl
      have hi1 : ∀ h, (⟨#[p, q]⟩ : ByteArray)[1]'h = q := fun _ => rfl
      rw [pair_eq, pair_eq] at HY HN
      clear hpq
      by_cases e1 : p = x
      · have f1 := u8t e1
        by_cases e2 : q = y
        · have f2 := u8t e2
          have HR := Lib.hid (HY.out (.inl ⟨e1, e2⟩))
          clear e1 e2 HY HN
          go_wp2_with fail
          go_ret
          exact ⟨ret_bool HR.out.symm, rfl⟩
        · have f2 := u8f e2
          by_cases e3 : p = y
          · have f3 := u8t e3
            by_cases e4 : q = x
            · have f4 := u8t e4
              have HR := Lib.hid (HY.out (.inr ⟨e3, e4⟩))
              clear e1 e2 e3 e4 HY HN
              go_wp2_with fail
              go_ret
              exact ⟨ret_bool HR.out.symm, rfl⟩
            · have f4 := u8f e4
              have HR := Lib.hid (HN.out (by simp [e2, e4]))
              clear e1 e2 e3 e4 HY HN
              go_wp2_with fail
              go_round
              case rel => exact ⟨k + 1, by omega, by go_num, HR⟩
              case measure => first | (simp [intOf]; done) | (simp [intOf]; omega)
          · have f3 := u8f e3
            have HR := Lib.hid (HN.out (by simp [e2, e3]))
            clear e1 e2 e3 HY HN
            go_wp2_with fail
            go_round
            case rel => exact ⟨k + 1, by omega, by go_num, HR⟩
            case measure => first | (simp [intOf]; done) | (simp [intOf]; omega)
      · have f1 := u8f e1
        by_cases e3 : p = y
        · have f3 := u8t e3
          by_cases e4 : q = x
          · have f4 := u8t e4
            have HR := Lib.hid (HY.out (.inr ⟨e3, e4⟩))
            clear e1 e3 e4 HY HN
            go_wp2_with fail
            go_ret
            exact ⟨ret_bool HR.out.symm, rfl⟩
          · have f4 := u8f e4
            have HR := Lib.hid (HN.out (by simp [e1, e4]))
            clear e1 e3 e4 HY HN
            go_wp2_with fail
            go_round
            case rel => exact ⟨k + 1, by omega, by go_num, HR⟩
            case measure => first | (simp [intOf]; done) | (simp [intOf]; omega)
        · have f3 := u8f e3
          have HR := Lib.hid (HN.out (by simp [e1, e3]))
          clear e1 e3 HY HN
          go_wp2_with fail
          go_round
          case rel => exact ⟨k + 1, by omega, by go_num, HR⟩
          case measure => first | (simp [intOf]; done) | (simp [intOf]; omega)
    · have HR := Lib.hid (alkB_no fun i hi => HK.out i (by omega))
      go_wp2_with fail
      go_ret
      exact ⟨ret_bool HR.out.symm, rfl⟩
end Go.Proofs.Ytdkheeocglfogaa
