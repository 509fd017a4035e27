/- The widths of a pattern: the program's widthsOf and the reference's l08Pattern and l08Elements; sums and distances. -/
import Derived.Test.YtjjohniabgamjaaWidthsM
import Derived.Test.YtjjohniabgamjaaInts
import Derived.Test.YtjjohniabgamjaaIn
namespace Go.Proofs.Ytjjohniabgamjaa
open Go.RowKit

set_option maxHeartbeats 1000000 in
theorem sum_any (v : Value) (xs : List Int) (w : World) (hx : RI w v xs) (hb : ∀ x ∈ xs, 0 ≤ x ∧ x ≤ 100000) (hm : xs.length ≤ 1048576) :
    Calls Try.prog 57 #[v] w fun e w' => e = .returned (.int .i64 (isum xs)) ∧ w = w' := by
  obtain ⟨a, c, rfl⟩ := hx.slice
  go_enter Try.func57, Try.ntmps57
  go_wp2_with fail
  go_loop [3, 8] (fun sv iv => ∃ k : Nat, k ≤ xs.length ∧ iv = .int .i64 k ∧ sv = .int .i64 (isum (xs.take k))) (fun _ iv => xs.length - (intOf iv).toNat)
  case atStart => exact ⟨0, Nat.zero_le _, rfl, by simp [isum]⟩
  case round =>
    obtain ⟨k, hk, rfl, rfl⟩ := hrel
    by_cases hlt : k < xs.length
    · obtain ⟨g, off, rfl, hg, hc⟩ := hx.at k hlt
      have h1 := hb (xs.getD k 0) (by simp [hlt])
      have h2 := isum_take_bd 100000 xs k (by omega) hb
      have HS := Lib.hid (isum_snoc xs k hlt)
      generalize xs.getD k 0 = x at *
      go_wp2_with fail
      go_round
      case rel => exact ⟨k + 1, by omega, by go_num, by rw [HS.out]⟩
      case measure => first | (simp [intOf]; done) | (simp [intOf]; omega)
    · go_wp2_with fail
      go_ret
      have : k = xs.length := by omega
      subst this
      exact ⟨ret_i64 (by rw [List.take_length]), rfl⟩

def WidthsPost (p : ByteArray) (w : World) (e : Ending) (w' : World) : Prop :=
  ∃ v xs, e = .returned (.tuple #[v, .bool (pok p)]) ∧ OI w.heap.size w' v xs ∧ Hid (pok p = true → xs = pw p) ∧ Below w.heap.size w w'
theorem WidthsPost.mk {p : ByteArray} {w w' : World} {v : Value} {b : Bool} (xs : List Int) (hp : pok p = b) (h1 : OI w.heap.size w' v xs) (h2 : pok p = true → xs = pw p) (h3 : Below w.heap.size w w') :
    WidthsPost p w (.returned (.tuple #[v, .bool b])) w' := ⟨v, xs, by rw [hp], h1, h2, h3⟩
set_option maxHeartbeats 1000000 in
theorem widthsOf_any (p : ByteArray) (w : World) (hp : p.size ≤ 1048576) :
    Calls Try.prog 42 #[.string p] w (WidthsPost p w) := by
  go_enter Try.func42, Try.ntmps42
  go_wp2_with fail
  have hown0 : OI w.heap.size (w.alloc (.cells #[] 2)) (.slice (some ⟨w.heap.size, 0, none⟩) 0 0) [] := OK.made _ _ _ (Nat.le_refl _)
  have hbl0 : Below w.heap.size w (w.alloc (.cells #[] 2)) := (Below.refl _ _).alloc (Nat.le_refl _) _
  generalize w.alloc (.cells #[] 2) = w2 at *
  generalize Value.slice (some ⟨w.heap.size, 0, none⟩) 0 0 = v0 at *
  go_loopw [4, 9] (fun out iv wr => ∃ k : Nat, k ≤ p.size ∧ iv = .int .i64 k ∧ Hid (∀ i (h : i < p.size), i < k → 49 ≤ p[i].toNat ∧ p[i].toNat ≤ 52) ∧ OI w.heap.size wr out ((pw p).take k) ∧ Below w.heap.size w wr) (fun _ iv _ => p.size - (intOf iv).toNat)
  case atStart => exact ⟨0, Nat.zero_le _, rfl, fun i h hi => by omega, by simpa using hown0, hbl0⟩
  case round =>
    obtain ⟨k, hk, rfl, HO, hown, hb⟩ := hrel
    clear hown0 hbl0
    have hz := hb.size
    by_cases hlt : k < p.size
    · by_cases hc : 49 ≤ p[k].toNat ∧ p[k].toNat ≤ 52
      · have h1 : 49 ≤ (p[k].toNat : Int) := by omega
        have h2 : (p[k].toNat : Int) ≤ 52 := by omega
        have HO2 : Hid (∀ i (h : i < p.size), i < k + 1 → 49 ≤ p[i].toNat ∧ p[i].toNat ≤ 52) := fun i h hi => by
          by_cases e : i = k
          · subst e; exact hc
          · exact HO.out i h (by omega)
        have HT := Lib.hid (take_snoc (pw p) k (by rw [pw_len]; exact hlt))
        have HG := Lib.hid (pw_get p k hlt)
        have hl : ((pw p).take k).length ≤ 1099511627776 := by rw [List.length_take, pw_len]; omega
        clear hc HO
        go_wp2_with (at_builtin; refine wpl_app_i64 rfl _ _ rfl w.heap.size _ _ rfl (hown.alloc _) _ _ _ rfl (World.cell?_alloc_at _ _ _ _ rfl) hl (by simp; omega) ?_; intro v' w1 hown1 hgr)
        have hb1 : Below w.heap.size w w1 := own_below (hb.alloc hz _) (hown.alloc _) hgr (by simp; omega)
        rw [← HG.out, ← HT.out] at hown1
        go_roundw
        case rel => exact ⟨k + 1, by omega, by go_num, HO2, hown1, hb1⟩
        case measure => first | (simp [intOf]; done) | (simp [intOf]; omega)
      · have hno : pok p = false := by
          have : okB p = false := by
            rw [← Bool.not_eq_true, okB_iff]
            exact fun h => hc (h k hlt)
          simp [pok, this]
        have HN := Lib.hid hno
        clear hno
        by_cases h1 : 49 ≤ (p[k].toNat : Int)
        · have h2 : ¬ (p[k].toNat : Int) ≤ 52 := by omega
          clear hc
          go_wp2_with fail
          go_ret2
          exact WidthsPost.mk [] HN.out (OK.nil _ _ _ _) (fun h => by rw [HN.out] at h; simp at h) hb
        · clear hc
          go_wp2_with fail
          go_ret2
          exact WidthsPost.mk [] HN.out (OK.nil _ _ _ _) (fun h => by rw [HN.out] at h; simp at h) hb
    · have hkk : k = p.size := by omega
      have hok : okB p = true := (okB_iff p).2 fun i h => HO.out i h (by omega)
      have hown' : OI w.heap.size wr u4 (pw p) := by
        have := hown
        rw [List.take_of_length_le (by rw [pw_len]; omega)] at this
        exact this
      have hpk : pok p = (inB p.size 1 10 && decide (isum (pw p) ≤ 20)) := by simp [pok, hok]
      have HP := Lib.hid hpk
      have hin := pw_in p hok
      clear hpk hown HO hkk hok
      by_cases hi : inB p.size 1 10 = true
      · go_wp2_with (first | (go_at_call 39; refine (in_any _ _ _ _).mono ?_; rintro e w' ⟨rfl, rfl⟩) | (go_at_call 57; refine (sum_any _ _ _ hown'.read (fun x hx => by have := hin x hx; omega) (by rw [pw_len]; exact hp)).mono ?_; rintro e w' ⟨rfl, rfl⟩))
        go_ret2
        exact WidthsPost.mk (pw p) (by rw [HP.out, hi]; rfl) hown' (fun _ => rfl) hb
      · simp only [Bool.not_eq_true] at hi
        go_wp2_with (go_at_call 39; refine (in_any _ _ _ _).mono ?_; rintro e w' ⟨rfl, rfl⟩)
        go_ret2
        exact WidthsPost.mk (pw p) (by rw [HP.out, hi]; rfl) hown' (fun _ => rfl) hb
end Go.Proofs.Ytjjohniabgamjaa
