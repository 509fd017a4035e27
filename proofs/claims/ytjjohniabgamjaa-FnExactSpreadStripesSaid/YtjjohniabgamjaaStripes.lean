/- Stripes, scaled and spread: the program's and the reference's functions return the same, in new memory: for all arguments. -/
import Derived.Test.YtjjohniabgamjaaInts
import Derived.Test.YtjjohniabgamjaaIn
namespace Go.Proofs.Ytjjohniabgamjaa
open Go.RowKit

theorem later3s {B : Nat} {w w1 w2 : World} (h1 : Below B w w1) (h2 : Below w1.heap.size w1 w2) (hB : B ≤ w1.heap.size) : Below B w w2 := h1.trans (h2.mono hB)
def badS (x : Int) : Bool := !inB x 1 100000
def strOk (xs : List Int) : Bool := (decide (xs.length % 2 = 1) && decide (xs.length ≤ 400)) && !(xs.any badS)

set_option maxHeartbeats 400000 in
theorem stripesOk1_any (x : Int) (w : World) :
    Calls Try.prog 67 #[.int .i64 x] w fun e w' => e = .returned (.bool (badS x)) ∧ w = w' := by
  go_enter Try.func67, Try.ntmps67
  go_wp2_with (go_at_call 39; refine (in_any _ _ _ _).mono ?_; rintro e w' ⟨rfl, rfl⟩)
  go_ret
  exact ⟨rfl, rfl⟩

/-- The index of the first element that fits, or -1. -/
def firstIx (P : Int → Bool) : List Int → Int
  | [] => -1
  | x :: xs => if P x then 0 else if firstIx P xs < 0 then -1 else firstIx P xs + 1
theorem firstIx_any (P : Int → Bool) : ∀ xs, decide (0 ≤ firstIx P xs) = xs.any P
  | [] => by simp [firstIx]
  | x :: xs => by
    have ih := firstIx_any P xs
    rw [List.any_cons, ← ih]
    rw [firstIx]
    by_cases h : P x = true
    · simp [h]
    · simp only [Bool.not_eq_true] at h
      simp only [h, Bool.false_or, Bool.false_eq_true, if_false]
      split <;> simp <;> omega
theorem any_at (P : Int → Bool) (xs : List Int) (k : Nat) (h : k < xs.length) (hp : P (xs.getD k 0) = true) : xs.any P = true := by
  rw [List.any_eq_true]
  exact ⟨xs.getD k 0, by simp [h], hp⟩
theorem any_none (P : Int → Bool) (xs : List Int) (h : ∀ k, k < xs.length → P (xs.getD k 0) = false) : xs.any P = false := by
  rw [← Bool.not_eq_true, List.any_eq_true]
  rintro ⟨x, hx, hp⟩
  obtain ⟨k, hk, rfl⟩ := List.getElem_of_mem hx
  have := h k hk
  simp [hk] at this
  rw [hp] at this
  cases this

set_option maxHeartbeats 1000000 in
theorem indexBad_any (v : Value) (xs : List Int) (w : World) (hx : RI w v xs) (hm : xs.length ≤ 1099511627776) :
    Calls Try.prog 68 #[v, .func (.func 67) #[] #[]] w fun e w' => ∃ r : Int, e = .returned (.int .i64 r) ∧ Hid (decide (0 ≤ r) = xs.any badS) ∧ w = w' := by
  obtain ⟨a, c, rfl⟩ := hx.slice
  go_enter Try.func68, Try.ntmps68
  go_wp2_with fail
  go_loop [8] (fun iv => ∃ k : Nat, k ≤ xs.length ∧ iv = .int .i64 k ∧ Hid (∀ i, i < k → badS (xs.getD i 0) = false)) (fun iv => xs.length - (intOf iv).toNat)
  case atStart => exact ⟨0, Nat.zero_le _, rfl, fun i hi => by omega⟩
  case round =>
    obtain ⟨k, hk, rfl, HK⟩ := hrel
    by_cases hlt : k < xs.length
    · obtain ⟨g, off, rfl, hg, hc⟩ := hx.at k hlt
      by_cases hbad : badS (xs.getD k 0) = true
      · have HA := Lib.hid (any_at badS xs k hlt hbad)
        have h0 : (0 : Int) ≤ (k : Int) := by omega
        generalize xs.getD k 0 = x at *
        go_wp2_with (go_at_call 67; refine (stripesOk1_any _ _).mono ?_; rintro e w' ⟨rfl, rfl⟩)
        go_ret
        exact ⟨_, rfl, by unfold Hid; rw [HA.out]; simp, rfl⟩
      · simp only [Bool.not_eq_true] at hbad
        have HK2 : Hid (∀ i, i < k + 1 → badS (xs.getD i 0) = false) := fun i hi => by
          by_cases e : i = k
          · subst e; exact hbad
          · exact HK.out i (by omega)
        generalize xs.getD k 0 = x at *
        go_wp2_with (go_at_call 67; refine (stripesOk1_any _ _).mono ?_; rintro e w' ⟨rfl, rfl⟩)
        go_round
        case rel => exact ⟨k + 1, by omega, by go_num, HK2⟩
        case measure => first | (simp [intOf]; done) | (simp [intOf]; omega)
    · have HA := Lib.hid (any_none badS xs fun i hi => HK.out i (by omega))
      go_wp2_with fail
      go_ret
      exact ⟨_, rfl, by unfold Hid; rw [HA.out]; simp, rfl⟩
set_option maxHeartbeats 400000 in
theorem containsBad_any (v : Value) (xs : List Int) (w : World) (hx : RI w v xs) (hm : xs.length ≤ 1099511627776) :
    Calls Try.prog 66 #[v, .func (.func 67) #[] #[]] w fun e w' => e = .returned (.bool (xs.any badS)) ∧ w = w' := by
  go_enter Try.func66, Try.ntmps66
  go_wp2_with fail
  refine (indexBad_any _ _ _ hx hm).mono ?_
  rintro e w' ⟨r, rfl, HR, rfl⟩
  go_wp2_with fail
  go_ret
  exact ⟨ret_bool (by have := HR.out; exact this), rfl⟩
set_option maxHeartbeats 400000 in
theorem stripesOk_any (v : Value) (xs : List Int) (w : World) (hx : RI w v xs) (hm : xs.length ≤ 1099511627776) :
    Calls Try.prog 63 #[v] w fun e w' => e = .returned (.bool (strOk xs)) ∧ w = w' := by
  obtain ⟨a, c, rfl⟩ := hx.slice
  by_cases h1 : xs.length % 2 = 1
  · have h1' : ((xs.length : Int) % 2 == 1) = true := by rw [beq_iff_eq]; omega
    have H1 := Lib.hid h1
    clear h1
    by_cases h2 : xs.length ≤ 400
    · go_enter Try.func63, Try.ntmps63
      go_wp2_with (go_at_call 66; refine (containsBad_any _ _ _ hx hm).mono ?_; rintro e w' ⟨rfl, rfl⟩)
      go_ret
      exact ⟨ret_bool (by simp [strOk, H1.out, h2]), rfl⟩
    · go_enter Try.func63, Try.ntmps63
      go_wp2_with fail
      go_ret
      exact ⟨ret_bool (by simp [strOk, h2]), rfl⟩
  · have h1' : ((xs.length : Int) % 2 == 1) = false := by rw [beq_eq_false_iff_ne]; omega
    have H1 := Lib.hid h1
    clear h1
    go_enter Try.func63, Try.ntmps63
    go_wp2_with fail
    go_ret
    exact ⟨ret_bool (by simp [strOk, H1.out]), rfl⟩
set_option maxHeartbeats 1000000 in
theorem l08List_any (v : Value) (xs : List Int) (w : World) (hx : RI w v xs) (hm : xs.length ≤ 1099511627776) :
    Calls Try.prog 46 #[v] w fun e w' => e = .returned (.bool (strOk xs)) ∧ w = w' := by
  obtain ⟨a, c, rfl⟩ := hx.slice
  go_enter Try.func46, Try.ntmps46
  go_wp2_with fail
  go_loop [3] (fun iv => ∃ k : Nat, k ≤ xs.length ∧ iv = .int .i64 k ∧ Hid (∀ i, i < k → badS (xs.getD i 0) = false)) (fun iv => xs.length - (intOf iv).toNat)
  case atStart => exact ⟨0, Nat.zero_le _, rfl, fun i hi => by omega⟩
  case round =>
    obtain ⟨k, hk, rfl, HK⟩ := hrel
    by_cases hlt : k < xs.length
    · obtain ⟨g, off, rfl, hg, hc⟩ := hx.at k hlt
      by_cases hbad : badS (xs.getD k 0) = true
      · have HA := Lib.hid (any_at badS xs k hlt hbad)
        have hin : inB (xs.getD k 0) 1 100000 = false := by simpa [badS] using hbad
        generalize xs.getD k 0 = x at *
        go_wp2_with (go_at_call 44; refine (l00In_any _ _ _ _).mono ?_; rintro e w' ⟨rfl, rfl⟩)
        go_ret
        exact ⟨ret_bool (by simp [strOk, HA.out]), rfl⟩
      · simp only [Bool.not_eq_true] at hbad
        have HK2 : Hid (∀ i, i < k + 1 → badS (xs.getD i 0) = false) := fun i hi => by
          by_cases e : i = k
          · subst e; exact hbad
          · exact HK.out i (by omega)
        have hin : inB (xs.getD k 0) 1 100000 = true := by simpa [badS] using hbad
        generalize xs.getD k 0 = x at *
        go_wp2_with (go_at_call 44; refine (l00In_any _ _ _ _).mono ?_; rintro e w' ⟨rfl, rfl⟩)
        go_round
        case rel => exact ⟨k + 1, by omega, by go_num, HK2⟩
        case measure => first | (simp [intOf]; done) | (simp [intOf]; omega)
    · have HA := Lib.hid (any_none badS xs fun i hi => HK.out i (by omega))
      by_cases h1 : xs.length % 2 = 1
      · have h1' : ((xs.length : Int) % 2 == 1) = true := by rw [beq_iff_eq]; omega
        have H1 := Lib.hid h1
        clear h1
        go_wp2_with fail
        go_ret
        exact ⟨ret_bool (by simp [strOk, H1.out, HA.out]; try omega), rfl⟩
      · have h1' : ((xs.length : Int) % 2 == 1) = false := by rw [beq_eq_false_iff_ne]; omega
        have H1 := Lib.hid h1
        clear h1
        go_wp2_with fail
        go_ret
        exact ⟨ret_bool (by simp [strOk, H1.out]), rfl⟩

/-- What both ScaleStripes and SpreadStripes return: f the change, by its place. -/
def mapS (f : Nat → Int → Int) (xs : List Int) : Nat → List Int
  | 0 => []
  | n + 1 => mapS f xs n ++ [f n (xs.getD n 0)]
theorem mapS_len (f : Nat → Int → Int) (xs : List Int) : ∀ n, (mapS f xs n).length = n
  | 0 => rfl
  | n + 1 => by simp [mapS, mapS_len f xs n]
theorem mapS_get (f : Nat → Int → Int) (xs : List Int) : ∀ n i, i < n → (mapS f xs n).getD i 0 = f i (xs.getD i 0)
  | 0, _, h => by omega
  | n + 1, i, h => by
    rw [mapS]
    by_cases hi : i < n
    · rw [List.getD_eq_getElem?_getD, List.getElem?_append_left (by rw [mapS_len]; exact hi), ← List.getD_eq_getElem?_getD, mapS_get f xs n i hi]
    · have : i = n := by omega
      subst this
      rw [List.getD_eq_getElem?_getD, List.getElem?_append_right (by rw [mapS_len]; omega), mapS_len]
      simp
def scaleF (by_ : Int) (_ : Nat) (x : Int) : Int := x * by_
def spreadF (by_ : Int) (i : Nat) (x : Int) : Int := if i % 2 = 1 then x - by_ else x + by_
theorem strOk_in {xs : List Int} (h : strOk xs = true) : (∀ k, k < xs.length → 1 ≤ xs.getD k 0 ∧ xs.getD k 0 ≤ 100000) ∧ xs.length % 2 = 1 ∧ xs.length ≤ 400 := by
  unfold strOk at h
  simp only [Bool.and_eq_true, decide_eq_true_eq, Bool.not_eq_true', List.any_eq_false] at h
  refine ⟨fun k hk => ?_, h.1.1, h.1.2⟩
  have := h.2 (xs.getD k 0) (by simp [hk])
  simpa [badS, inB] using this
def remOk (f : Nat → Int → Int) (xs : List Int) (by_ : Int) : Bool := (strOk xs && inB by_ (-100000) 100000) && strOk (mapS f xs xs.length)
def remL (f : Nat → Int → Int) (xs : List Int) (by_ : Int) : List Int := if remOk f xs by_ then mapS f xs xs.length else []
theorem remL_len (f : Nat → Int → Int) (xs : List Int) (by_ : Int) : (remL f xs by_).length ≤ 400 := by
  unfold remL
  split
  · rename_i h
    unfold remOk at h
    simp only [Bool.and_eq_true] at h
    exact (strOk_in h.2).2.2
  · simp
def RemPost (f : Nat → Int → Int) (xs : List Int) (by_ : Int) (w : World) (e : Ending) (w' : World) : Prop :=
  ∃ v, e = .returned (.tuple #[v, .bool (remOk f xs by_)]) ∧ OI w.heap.size w' v (remL f xs by_) ∧ Below w.heap.size w w'
theorem RemPost.no {f : Nat → Int → Int} {xs : List Int} {by_ : Int} {w w' : World} (h : remOk f xs by_ = false) (hb : Below w.heap.size w w') : RemPost f xs by_ w (.returned (.tuple #[.slice none 0 0, .bool false])) w' :=
  ⟨_, by rw [h], by rw [remL, h]; exact OK.nil _ _ _ _, hb⟩
theorem RemPost.yes {f : Nat → Int → Int} {xs : List Int} {by_ : Int} {w w' : World} {v : Value} (h : remOk f xs by_ = true) (ho : OI w.heap.size w' v (mapS f xs xs.length)) (hb : Below w.heap.size w w') : RemPost f xs by_ w (.returned (.tuple #[v, .bool true])) w' :=
  ⟨_, by rw [h], by rw [remL, h]; exact ho, hb⟩

set_option maxHeartbeats 400000 in
theorem scale1_any (i : Nat) (x y : Int) (cap : Value) (g : Nat) (w : World) (hc : w.cell? ⟨g, 0, none⟩ = some (.int .i64 y)) (hcap : cap = .pointer (some ⟨g, 0, none⟩)) (hx : 1 ≤ x ∧ x ≤ 100000) (hy : -100000 ≤ y ∧ y ≤ 100000) :
    Calls Try.prog 48 #[.int .i64 i, .int .i64 x, cap] w fun e w' => e = .returned (.int .i64 (scaleF y i x)) ∧ w = w' := by
  subst hcap
  have hb : -10000000000 ≤ x * y ∧ x * y ≤ 10000000000 := by
    constructor
    · have h1 : x * (-100000) ≤ x * y := Int.mul_le_mul_of_nonneg_left hy.1 (by omega)
      omega
    · have h1 : x * y ≤ x * 100000 := Int.mul_le_mul_of_nonneg_left hy.2 (by omega)
      omega
  go_enter Try.func48, Try.ntmps48
  go_wp2
  go_ret
  exact ⟨rfl, rfl⟩
set_option maxHeartbeats 400000 in
theorem spread1_any (i : Nat) (x y : Int) (cap : Value) (g : Nat) (w : World) (hc : w.cell? ⟨g, 0, none⟩ = some (.int .i64 y)) (hcap : cap = .pointer (some ⟨g, 0, none⟩)) (hx : 1 ≤ x ∧ x ≤ 100000) (hy : -100000 ≤ y ∧ y ≤ 100000) (hi : i ≤ 1000) :
    Calls Try.prog 52 #[.int .i64 i, .int .i64 x, cap] w fun e w' => e = .returned (.int .i64 (spreadF y i x)) ∧ w = w' := by
  subst hcap
  by_cases h : i % 2 = 1
  · have h1 : ((i : Int) % 2 == 1) = true := by rw [beq_iff_eq]; omega
    have H := Lib.hid h
    clear h
    go_enter Try.func52, Try.ntmps52
    go_wp2
    go_ret
    exact ⟨ret_i64 (by rw [spreadF, if_pos H.out]), rfl⟩
  · have h1 : ((i : Int) % 2 == 1) = false := by rw [beq_eq_false_iff_ne]; omega
    have H := Lib.hid h
    clear h
    go_enter Try.func52, Try.ntmps52
    go_wp2
    go_ret
    exact ⟨ret_i64 (by rw [spreadF, if_neg H.out]), rfl⟩

set_option maxHeartbeats 2000000 in
theorem remadeScaleStripes_any (v : Value) (xs : List Int) (y : Int) (g : Nat) (w : World) (hx : RI w v xs) (hm : xs.length ≤ 1048576) (hc : w.cell? ⟨g, 0, none⟩ = some (.int .i64 y)) :
    Calls Try.prog 47 #[v, .int .i64 y, .func (.func 48) #[] #[.pointer (some ⟨g, 0, none⟩)]] w (RemPost (scaleF y) xs y w) := by
  obtain ⟨a, c, rfl⟩ := hx.slice
  have hg := World.block_lt_of_cell? w _ hc
  by_cases h1 : strOk xs = true
  · by_cases h2 : inB y (-100000) 100000 = true
    · have hin := strOk_in h1
      have HI := Lib.hid hin.1
      have hl400 := hin.2.2
      have hy : -100000 ≤ y ∧ y ≤ 100000 := by simpa [inB] using h2
      clear hin
      go_enter Try.func47, Try.ntmps47
      go_wp2_with (first | (go_at_call 39; refine (in_any _ _ _ _).mono ?_; rintro e w' ⟨rfl, rfl⟩) | (go_at_call 63; refine (stripesOk_any _ _ _ hx (by omega)).mono ?_; rintro e w' ⟨rfl, rfl⟩))
      have hown0 : OI w.heap.size (w.alloc (.cells #[] 2)) (.slice (some ⟨w.heap.size, 0, none⟩) 0 0) [] := OK.made _ _ _ (Nat.le_refl _)
      have hbl0 : Below w.heap.size w (w.alloc (.cells #[] 2)) := (Below.refl _ _).alloc (Nat.le_refl _) _
      generalize w.alloc (.cells #[] 2) = w2 at *
      generalize Value.slice (some ⟨w.heap.size, 0, none⟩) 0 0 = v0 at *
      go_loopw [8, 22] (fun out iv wr => ∃ k : Nat, k ≤ xs.length ∧ iv = .int .i64 k ∧ OI w.heap.size wr out (mapS (scaleF y) xs k) ∧ Below w.heap.size w wr) (fun _ iv _ => xs.length - (intOf iv).toNat)
      case atStart => exact ⟨0, Nat.zero_le _, rfl, hown0, hbl0⟩
      case round =>
        obtain ⟨k, hk, rfl, hown, hb⟩ := hrel
        clear hown0 hbl0
        have hz := hb.size
        have hcw : wr.cell? ⟨g, 0, none⟩ = some (.int .i64 y) := by rw [hb.cell (p := ⟨g, 0, none⟩) hg]; exact hc
        have hl : (mapS (scaleF y) xs k).length ≤ 1099511627776 := by rw [mapS_len]; omega
        by_cases hlt : k < xs.length
        · obtain ⟨g', off, rfl, hg', hce⟩ := (hx.later hb).at k hlt
          have hxk := HI.out k hlt
          have HE : Hid (mapS (scaleF y) xs (k + 1) = mapS (scaleF y) xs k ++ [(scaleF y) k (xs.getD k 0)]) := rfl
          generalize xs.getD k 0 = x at *
          go_wp2_with (first | (at_builtin; refine wpl_app_i64 rfl _ _ rfl w.heap.size _ _ rfl (hown.alloc _) _ _ _ rfl (World.cell?_alloc_at _ _ _ _ rfl) hl (by simp; omega) ?_; intro v' w1 hown1 hgr) | (go_at_call 48; refine (scale1_any k x y _ g _ hcw rfl hxk hy).mono ?_; rintro e w' ⟨rfl, rfl⟩))
          have hb1 : Below w.heap.size w w1 := own_below (hb.alloc hz _) (hown.alloc _) hgr (by simp; omega)
          rw [← HE.out] at hown1
          go_roundw
          case rel => exact ⟨k + 1, by omega, by go_num, hown1, hb1⟩
          case measure => first | (simp [intOf]; done) | (simp [intOf]; omega)
        · have hkk : k = xs.length := by omega
          subst hkk
          by_cases h3 : strOk (mapS (scaleF y) xs xs.length) = true
          · have HR : Hid (remOk (scaleF y) xs y = true) := by simp [Hid, remOk, h1, h2, h3]
            go_wp2_with (go_at_call 63; refine (stripesOk_any _ _ _ hown.read hl).mono ?_; rintro e w' ⟨rfl, rfl⟩)
            go_ret2
            exact RemPost.yes HR.out hown hb
          · simp only [Bool.not_eq_true] at h3
            have HR : Hid (remOk (scaleF y) xs y = false) := by simp [Hid, remOk, h3]
            go_wp2_with (go_at_call 63; refine (stripesOk_any _ _ _ hown.read hl).mono ?_; rintro e w' ⟨rfl, rfl⟩)
            go_ret2
            exact RemPost.no HR.out hb
    · simp only [Bool.not_eq_true] at h2
      have HR : Hid (remOk (scaleF y) xs y = false) := by simp [Hid, remOk, h2]
      go_enter Try.func47, Try.ntmps47
      go_wp2_with (first | (go_at_call 39; refine (in_any _ _ _ _).mono ?_; rintro e w' ⟨rfl, rfl⟩) | (go_at_call 63; refine (stripesOk_any _ _ _ hx (by omega)).mono ?_; rintro e w' ⟨rfl, rfl⟩))
      go_ret2
      exact RemPost.no HR.out (Below.refl _ _)
  · simp only [Bool.not_eq_true] at h1
    have HR : Hid (remOk (scaleF y) xs y = false) := by simp [Hid, remOk, h1]
    go_enter Try.func47, Try.ntmps47
    go_wp2_with (go_at_call 63; refine (stripesOk_any _ _ _ hx (by omega)).mono ?_; rintro e w' ⟨rfl, rfl⟩)
    go_ret2
    exact RemPost.no HR.out (Below.refl _ _)
set_option maxHeartbeats 400000 in
theorem implScaleStripes_any (v : Value) (xs : List Int) (y : Int) (w : World) (hx : RI w v xs) (hm : xs.length ≤ 1048576) :
    Calls Try.prog 22 #[v, .int .i64 y] w (RemPost (scaleF y) xs y w) := by
  obtain ⟨a, c, rfl⟩ := hx.slice
  have hmf : ∀ (fn : Fn) (first cap : Array Value) (w : World), (Instr.makeFunc fn first cap).run Try.prog w = .ok (.func fn first cap) w := fun _ _ _ _ => rfl
  have hbl : Below w.heap.size w (w.alloc (.cells #[.int .i64 y] 2)) := (Below.refl _ _).alloc (Nat.le_refl _) _
  go_enter Try.func22, Try.ntmps22
  go_wp2_with fail
  refine (remadeScaleStripes_any _ xs y w.heap.size _ (hx.later hbl) hm (World.cell?_alloc_at _ _ _ _ rfl)).mono ?_
  rintro e w1 ⟨v1, rfl, h1, hb1⟩
  go_wp2_with fail
  go_ret2
  exact ⟨_, rfl, h1.mono (by simp), hbl.trans (hb1.mono (by simp))⟩
set_option maxHeartbeats 2000000 in
theorem remadeSpreadStripes_any (v : Value) (xs : List Int) (y : Int) (g : Nat) (w : World) (hx : RI w v xs) (hm : xs.length ≤ 1048576) (hc : w.cell? ⟨g, 0, none⟩ = some (.int .i64 y)) :
    Calls Try.prog 47 #[v, .int .i64 y, .func (.func 52) #[] #[.pointer (some ⟨g, 0, none⟩)]] w (RemPost (spreadF y) xs y w) := by
  obtain ⟨a, c, rfl⟩ := hx.slice
  have hg := World.block_lt_of_cell? w _ hc
  by_cases h1 : strOk xs = true
  · by_cases h2 : inB y (-100000) 100000 = true
    · have hin := strOk_in h1
      have HI := Lib.hid hin.1
      have hl400 := hin.2.2
      have hy : -100000 ≤ y ∧ y ≤ 100000 := by simpa [inB] using h2
      clear hin
      go_enter Try.func47, Try.ntmps47
      go_wp2_with (first | (go_at_call 39; refine (in_any _ _ _ _).mono ?_; rintro e w' ⟨rfl, rfl⟩) | (go_at_call 63; refine (stripesOk_any _ _ _ hx (by omega)).mono ?_; rintro e w' ⟨rfl, rfl⟩))
      have hown0 : OI w.heap.size (w.alloc (.cells #[] 2)) (.slice (some ⟨w.heap.size, 0, none⟩) 0 0) [] := OK.made _ _ _ (Nat.le_refl _)
      have hbl0 : Below w.heap.size w (w.alloc (.cells #[] 2)) := (Below.refl _ _).alloc (Nat.le_refl _) _
      generalize w.alloc (.cells #[] 2) = w2 at *
      generalize Value.slice (some ⟨w.heap.size, 0, none⟩) 0 0 = v0 at *
      go_loopw [8, 22] (fun out iv wr => ∃ k : Nat, k ≤ xs.length ∧ iv = .int .i64 k ∧ OI w.heap.size wr out (mapS (spreadF y) xs k) ∧ Below w.heap.size w wr) (fun _ iv _ => xs.length - (intOf iv).toNat)
      case atStart => exact ⟨0, Nat.zero_le _, rfl, hown0, hbl0⟩
      case round =>
        obtain ⟨k, hk, rfl, hown, hb⟩ := hrel
        clear hown0 hbl0
        have hz := hb.size
        have hcw : wr.cell? ⟨g, 0, none⟩ = some (.int .i64 y) := by rw [hb.cell (p := ⟨g, 0, none⟩) hg]; exact hc
        have hl : (mapS (spreadF y) xs k).length ≤ 1099511627776 := by rw [mapS_len]; omega
        by_cases hlt : k < xs.length
        · obtain ⟨g', off, rfl, hg', hce⟩ := (hx.later hb).at k hlt
          have hxk := HI.out k hlt
          have HE : Hid (mapS (spreadF y) xs (k + 1) = mapS (spreadF y) xs k ++ [(spreadF y) k (xs.getD k 0)]) := rfl
          generalize xs.getD k 0 = x at *
          go_wp2_with (first | (at_builtin; refine wpl_app_i64 rfl _ _ rfl w.heap.size _ _ rfl (hown.alloc _) _ _ _ rfl (World.cell?_alloc_at _ _ _ _ rfl) hl (by simp; omega) ?_; intro v' w1 hown1 hgr) | (go_at_call 52; refine (spread1_any k x y _ g _ hcw rfl hxk hy (by omega)).mono ?_; rintro e w' ⟨rfl, rfl⟩))
          have hb1 : Below w.heap.size w w1 := own_below (hb.alloc hz _) (hown.alloc _) hgr (by simp; omega)
          rw [← HE.out] at hown1
          go_roundw
          case rel => exact ⟨k + 1, by omega, by go_num, hown1, hb1⟩
          case measure => first | (simp [intOf]; done) | (simp [intOf]; omega)
        · have hkk : k = xs.length := by omega
          subst hkk
          by_cases h3 : strOk (mapS (spreadF y) xs xs.length) = true
          · have HR : Hid (remOk (spreadF y) xs y = true) := by simp [Hid, remOk, h1, h2, h3]
            go_wp2_with (go_at_call 63; refine (stripesOk_any _ _ _ hown.read hl).mono ?_; rintro e w' ⟨rfl, rfl⟩)
            go_ret2
            exact RemPost.yes HR.out hown hb
          · simp only [Bool.not_eq_true] at h3
            have HR : Hid (remOk (spreadF y) xs y = false) := by simp [Hid, remOk, h3]
            go_wp2_with (go_at_call 63; refine (stripesOk_any _ _ _ hown.read hl).mono ?_; rintro e w' ⟨rfl, rfl⟩)
            go_ret2
            exact RemPost.no HR.out hb
    · simp only [Bool.not_eq_true] at h2
      have HR : Hid (remOk (spreadF y) xs y = false) := by simp [Hid, remOk, h2]
      go_enter Try.func47, Try.ntmps47
      go_wp2_with (first | (go_at_call 39; refine (in_any _ _ _ _).mono ?_; rintro e w' ⟨rfl, rfl⟩) | (go_at_call 63; refine (stripesOk_any _ _ _ hx (by omega)).mono ?_; rintro e w' ⟨rfl, rfl⟩))
      go_ret2
      exact RemPost.no HR.out (Below.refl _ _)
  · simp only [Bool.not_eq_true] at h1
    have HR : Hid (remOk (spreadF y) xs y = false) := by simp [Hid, remOk, h1]
    go_enter Try.func47, Try.ntmps47
    go_wp2_with (go_at_call 63; refine (stripesOk_any _ _ _ hx (by omega)).mono ?_; rintro e w' ⟨rfl, rfl⟩)
    go_ret2
    exact RemPost.no HR.out (Below.refl _ _)
set_option maxHeartbeats 400000 in
theorem implSpreadStripes_any (v : Value) (xs : List Int) (y : Int) (w : World) (hx : RI w v xs) (hm : xs.length ≤ 1048576) :
    Calls Try.prog 29 #[v, .int .i64 y] w (RemPost (spreadF y) xs y w) := by
  obtain ⟨a, c, rfl⟩ := hx.slice
  have hmf : ∀ (fn : Fn) (first cap : Array Value) (w : World), (Instr.makeFunc fn first cap).run Try.prog w = .ok (.func fn first cap) w := fun _ _ _ _ => rfl
  have hbl : Below w.heap.size w (w.alloc (.cells #[.int .i64 y] 2)) := (Below.refl _ _).alloc (Nat.le_refl _) _
  go_enter Try.func29, Try.ntmps29
  go_wp2_with fail
  refine (remadeSpreadStripes_any _ xs y w.heap.size _ (hx.later hbl) hm (World.cell?_alloc_at _ _ _ _ rfl)).mono ?_
  rintro e w1 ⟨v1, rfl, h1, hb1⟩
  go_wp2_with fail
  go_ret2
  exact ⟨_, rfl, h1.mono (by simp), hbl.trans (hb1.mono (by simp))⟩
end Go.Proofs.Ytjjohniabgamjaa
