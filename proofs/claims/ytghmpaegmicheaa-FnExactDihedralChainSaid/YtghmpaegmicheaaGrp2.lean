/- The shape of a table, the program's test, and the tests of groups: for tables of at most 1048576 rows. -/
import Derived.Test.YtghmpaegmicheaaGrp
namespace Go.Proofs.Ytghmpaegmicheaa
open Go.RowKit

set_option maxHeartbeats 400000 in
theorem elem1_any (z n : Int) (g : Nat) (w : World) (hc : w.cell? ⟨g, 0, none⟩ = some (.int .i64 n)) (hn : 0 ≤ n ∧ n ≤ 1099511627776) :
    Calls Try.prog 105 #[.int .i64 z, .pointer (some ⟨g, 0, none⟩)] w fun e w' => e = .returned (.bool (!inB z 0 (n - 1))) ∧ w = w' := by
  generalize hb : inB z 0 (n - 1) = b at *
  have hin : ∀ w, Calls Try.prog 64 #[.int .i64 z, .int .i64 0, .int .i64 (n - 1)] w fun e w' => e = .returned (.bool b) ∧ w = w' := fun w => by
    have := in_any z 0 (n - 1) w
    rw [hb] at this; exact this
  clear hb
  cases b
  all_goals
    go_enter Try.func105, Try.ntmps105
    go_wp2_with (go_at_call 64; refine (hin _).mono ?_; rintro e w' ⟨rfl, rfl⟩)
    go_ret
    exact ⟨rfl, rfl⟩
set_option maxHeartbeats 1000000 in
theorem indexE1_any (v : Value) (xs : List Int) (n : Int) (g0 : Nat) (w : World) (hx : RI w v xs) (hm : xs.length ≤ 1099511627776) (hc0 : w.cell? ⟨g0, 0, none⟩ = some (.int .i64 n)) (hn : 0 ≤ n ∧ n ≤ 1099511627776) :
    Calls Try.prog 109 #[v, .func (.func 105) #[] #[.pointer (some ⟨g0, 0, none⟩)]] w fun e w' => ∃ r : Int, e = .returned (.int .i64 r) ∧ Hid (decide (0 ≤ r) = !rowB n xs) ∧ w = w' := by
  obtain ⟨a, c, rfl⟩ := hx.slice
  go_enter Try.func109, Try.ntmps109
  go_wp2_with fail
  go_loop [8] (fun iv => ∃ k : Nat, k ≤ xs.length ∧ iv = .int .i64 k ∧ Hid (∀ i, i < k → inB (xs.getD i 0) 0 (n - 1) = true)) (fun iv => xs.length - (intOf iv).toNat)
  case atStart => exact ⟨0, Nat.zero_le _, rfl, fun i hi => by omega⟩
  case round =>
    obtain ⟨k, hk, rfl, HK⟩ := hrel
    by_cases hlt : k < xs.length
    · obtain ⟨g, off, rfl, hg, hc⟩ := hx.at k hlt
      have h0 : (0 : Int) ≤ (k : Int) := by omega
      have HN : Hid (inB (xs.getD k 0) 0 (n - 1) = true → ∀ i, i < k + 1 → inB (xs.getD i 0) 0 (n - 1) = true) := fun hf i hi => by
        by_cases h : i = k
        · subst h; exact hf
        · exact HK.out i (by omega)
      have HF : Hid (inB (xs.getD k 0) 0 (n - 1) = false → rowB n xs = false) := rowB_no k hlt
      generalize xs.getD k 0 = z at *
      have HE : ∀ w, w.cell? ⟨g0, 0, none⟩ = some (.int .i64 n) → Calls Try.prog 105 #[.int .i64 z, .pointer (some ⟨g0, 0, none⟩)] w fun e w' => e = .returned (.bool (!inB z 0 (n - 1))) ∧ w = w' := fun w h => elem1_any z n g0 w h hn
      generalize inB z 0 (n - 1) = b at *
      have HE2 := Lib.hid HE
      clear HE
      cases b
      · go_wp2_with (go_at_call 105; refine (HE2.out _ hc0).mono ?_; rintro e w' ⟨rfl, rfl⟩)
        go_ret
        exact ⟨_, rfl, by unfold Hid; rw [HF.out (by first | trivial | rfl)]; simp, rfl⟩
      · go_wp2_with (go_at_call 105; refine (HE2.out _ hc0).mono ?_; rintro e w' ⟨rfl, rfl⟩)
        go_round
        case rel => exact ⟨k + 1, by omega, by go_num, HN.out (by first | trivial | rfl)⟩
        case measure => first | (simp [intOf]; done) | (simp [intOf]; omega)
    · have HV : Hid (rowB n xs = true) := rowB_yes fun i hi => HK.out i (by omega)
      go_wp2_with fail
      go_ret
      exact ⟨_, rfl, by unfold Hid; rw [HV.out]; simp, rfl⟩
set_option maxHeartbeats 400000 in
theorem containsE1_any (v : Value) (xs : List Int) (n : Int) (g0 : Nat) (w : World) (hx : RI w v xs) (hm : xs.length ≤ 1099511627776) (hc0 : w.cell? ⟨g0, 0, none⟩ = some (.int .i64 n)) (hn : 0 ≤ n ∧ n ≤ 1099511627776) :
    Calls Try.prog 73 #[v, .func (.func 105) #[] #[.pointer (some ⟨g0, 0, none⟩)]] w fun e w' => e = .returned (.bool (!rowB n xs)) ∧ w = w' := by
  go_enter Try.func73, Try.ntmps73
  go_wp2_with fail
  refine (indexE1_any _ _ _ _ _ hx hm hc0 hn).mono ?_
  rintro e w' ⟨r, rfl, HR, rfl⟩
  go_wp2_with fail
  go_ret
  exact ⟨ret_bool (by have := HR.out; exact this), rfl⟩
/-- A row is right: so many numbers below n. -/
def okR (n : Nat) (r : List Int) : Bool := decide (r.length = n) && rowB n r
set_option maxHeartbeats 400000 in
theorem elem_any (v : Value) (xs : List Int) (n : Nat) (g0 : Nat) (w : World) (hx : RI w v xs) (hm : xs.length ≤ 1099511627776) (hc0 : w.cell? ⟨g0, 0, none⟩ = some (.int .i64 n)) (hn : n ≤ 1099511627776) :
    Calls Try.prog 104 #[v, .pointer (some ⟨g0, 0, none⟩)] w fun e w' => e = .returned (.bool (!okR n xs)) ∧ w = w' := by
  obtain ⟨a, c, rfl⟩ := hx.slice
  have hmf : ∀ (fn : Fn) (first cap : Array Value) (w : World), (Instr.makeFunc fn first cap).run Try.prog w = .ok (.func fn first cap) w := fun _ _ _ _ => rfl
  by_cases h : xs.length = n
  · have hne : ((xs.length : Int) != (n : Int)) = false := by simp [h]
    have HV : Hid (okR n xs = rowB n xs) := by unfold Hid okR; rw [decide_eq_true h]; simp
    have HC : ∀ w, RI w (.slice a xs.length c) xs → w.cell? ⟨g0, 0, none⟩ = some (.int .i64 n) → Calls Try.prog 73 #[.slice a xs.length c, .func (.func 105) #[] #[.pointer (some ⟨g0, 0, none⟩)]] w fun e w' => e = .returned (.bool (!rowB n xs)) ∧ w = w' := fun w h1 h2 => containsE1_any _ _ _ _ _ h1 hm h2 (by omega)
    have HC2 := Lib.hid HC
    clear h HC
    generalize rowB n xs = b at *
    go_enter Try.func104, Try.ntmps104
    go_wp2_with (go_at_call 73; refine (HC2.out _ hx hc0).mono ?_; rintro e w' ⟨rfl, rfl⟩)
    go_ret
    exact ⟨ret_bool (by rw [HV.out]), rfl⟩
  · have hne : ((xs.length : Int) != (n : Int)) = true := by simp; omega
    have HV : Hid (okR n xs = false) := by unfold Hid okR; rw [decide_eq_false h]; simp
    clear h
    go_enter Try.func104, Try.ntmps104
    go_wp2_with fail
    go_ret
    exact ⟨ret_bool (by rw [HV.out]; rfl), rfl⟩
set_option maxHeartbeats 1000000 in
theorem indexE_any (v : Value) (x : List (List Int)) (n : Nat) (g0 : Nat) (w : World) (hx : RT w v x) (hm : x.length ≤ 1099511627776) (hr : Hid (∀ j, j < x.length → (rowAt x j).length ≤ 1099511627776)) (hc0 : w.cell? ⟨g0, 0, none⟩ = some (.int .i64 n)) (hn : n ≤ 1099511627776) :
    Calls Try.prog 123 #[v, .func (.func 104) #[] #[.pointer (some ⟨g0, 0, none⟩)]] w fun e w' => ∃ r : Int, e = .returned (.int .i64 r) ∧ Hid (decide (0 ≤ r) = !x.all (okR n)) ∧ w = w' := by
  obtain ⟨a, c, rfl⟩ := hx.slice
  go_enter Try.func123, Try.ntmps123
  go_wp2_with fail
  go_loop [8] (fun iv => ∃ k : Nat, k ≤ x.length ∧ iv = .int .i64 k ∧ Hid (∀ i, i < k → okR n (rowAt x i) = true)) (fun iv => x.length - (intOf iv).toNat)
  case atStart => exact ⟨0, Nat.zero_le _, rfl, fun i hi => by omega⟩
  case round =>
    obtain ⟨k, hk, rfl, HK⟩ := hrel
    by_cases hlt : k < x.length
    · obtain ⟨g, off, r, rfl, hg, hc, hrow⟩ := hx.at k hlt
      have h0 : (0 : Int) ≤ (k : Int) := by omega
      have HN : Hid (okR n (rowAt x k) = true → ∀ i, i < k + 1 → okR n (rowAt x i) = true) := fun hf i hi => by
        by_cases h : i = k
        · subst h; exact hf
        · exact HK.out i (by omega)
      have HF : Hid (okR n (rowAt x k) = false → x.all (okR n) = false) := fun hf => by
        cases e : x.all (okR n) with
        | false => rfl
        | true =>
          rw [List.all_eq_true] at e
          have := e (rowAt x k) (by rw [rowAt_lt hlt]; simp)
          rw [hf] at this; cases this
      have HE : ∀ w, RI w r (rowAt x k) → w.cell? ⟨g0, 0, none⟩ = some (.int .i64 n) → Calls Try.prog 104 #[r, .pointer (some ⟨g0, 0, none⟩)] w fun e w' => e = .returned (.bool (!okR n (rowAt x k))) ∧ w = w' := fun w h1 h2 => elem_any r _ n g0 w h1 (hr.out k hlt) h2 hn
      generalize okR n (rowAt x k) = b at *
      have HE2 := Lib.hid HE
      clear HE
      cases b
      · go_wp2_with (go_at_call 104; refine (HE2.out _ hrow hc0).mono ?_; rintro e w' ⟨rfl, rfl⟩)
        go_ret
        exact ⟨_, rfl, by unfold Hid; rw [HF.out (by first | trivial | rfl)]; simp, rfl⟩
      · go_wp2_with (go_at_call 104; refine (HE2.out _ hrow hc0).mono ?_; rintro e w' ⟨rfl, rfl⟩)
        go_round
        case rel => exact ⟨k + 1, by omega, by go_num, HN.out (by first | trivial | rfl)⟩
        case measure => first | (simp [intOf]; done) | (simp [intOf]; omega)
    · have HV : Hid (x.all (okR n) = true) := by
        unfold Hid
        rw [List.all_eq_true]
        intro r hr
        obtain ⟨i, hi, rfl⟩ := List.getElem_of_mem hr
        have := HK.out i (by omega)
        rwa [rowAt_lt hi] at this
      go_wp2_with fail
      go_ret
      exact ⟨_, rfl, by unfold Hid; rw [HV.out]; simp, rfl⟩
set_option maxHeartbeats 400000 in
theorem containsE_any (v : Value) (x : List (List Int)) (n : Nat) (g0 : Nat) (w : World) (hx : RT w v x) (hm : x.length ≤ 1099511627776) (hr : Hid (∀ j, j < x.length → (rowAt x j).length ≤ 1099511627776)) (hc0 : w.cell? ⟨g0, 0, none⟩ = some (.int .i64 n)) (hn : n ≤ 1099511627776) :
    Calls Try.prog 103 #[v, .func (.func 104) #[] #[.pointer (some ⟨g0, 0, none⟩)]] w fun e w' => e = .returned (.bool (!x.all (okR n))) ∧ w = w' := by
  go_enter Try.func103, Try.ntmps103
  go_wp2_with fail
  refine (indexE_any _ _ _ _ _ hx hm hr hc0 hn).mono ?_
  rintro e w' ⟨r, rfl, HR, rfl⟩
  go_wp2_with fail
  go_ret
  exact ⟨ret_bool (by have := HR.out; exact this), rfl⟩
/-- The rows of a table are not too long. -/
abbrev Small (x : List (List Int)) : Prop := Hid (∀ j, j < x.length → (rowAt x j).length ≤ 1048576)
theorem sqB_eq (x : List (List Int)) : sqB x = (inB x.length 1 10 && x.all (okR x.length)) := rfl
set_option maxHeartbeats 1000000 in
theorem elements_any (v : Value) (x : List (List Int)) (w : World) (hx : RT w v x) (hm : x.length ≤ 1048576) (hr : Small x) :
    Calls Try.prog 65 #[v] w fun e w' => e = .returned (.bool (sqB x)) ∧ Below w.heap.size w w' := by
  obtain ⟨a, c, rfl⟩ := hx.slice
  have hmf : ∀ (fn : Fn) (first cap : Array Value) (w : World), (Instr.makeFunc fn first cap).run Try.prog w = .ok (.func fn first cap) w := fun _ _ _ _ => rfl
  have hr' : Hid (∀ j, j < x.length → (rowAt x j).length ≤ 1099511627776) := fun j hj => by have := hr.out j hj; omega
  have HQ := Lib.hid (sqB_eq x)
  by_cases h1 : 1 ≤ x.length
  · by_cases h2 : x.length ≤ 10
    · have HI : Hid (sqB x = x.all (okR x.length)) := by unfold Hid; rw [HQ.out, inB_yes (by omega)]; rfl
      have hb1 : Below w.heap.size w (w.alloc (.cells #[.int .i64 x.length] 3)) := (Below.refl _ _).alloc (Nat.le_refl _) _
      have hx1 := hx.later hb1
      have hcc : (w.alloc (.cells #[.int .i64 x.length] 3)).cell? ⟨w.heap.size, 0, none⟩ = some (.int .i64 x.length) := World.cell?_alloc_at _ _ _ _ rfl
      have HC := containsE_any _ x x.length w.heap.size _ hx1 (by omega) hr' hcc (by omega)
      have HC2 := Lib.hid HC
      generalize x.all (okR x.length) = b at *
      clear HC hcc
      go_enter Try.func65, Try.ntmps65
      go_wp2_with (go_at_call 103; refine (HC2.out).mono ?_; rintro e w' ⟨rfl, rfl⟩)
      go_ret
      exact ⟨ret_bool (by rw [HI.out]), hb1⟩
    · have HI : Hid (sqB x = false) := sqB_size (by omega)
      go_enter Try.func65, Try.ntmps65
      go_wp2_with fail
      go_ret
      exact ⟨ret_bool HI.out.symm, (Below.refl _ _).alloc (Nat.le_refl _) _⟩
  · have HI : Hid (sqB x = false) := sqB_size (by omega)
    go_enter Try.func65, Try.ntmps65
    go_wp2_with fail
    go_ret
    exact ⟨ret_bool HI.out.symm, (Below.refl _ _).alloc (Nat.le_refl _) _⟩
end Go.Proofs.Ytghmpaegmicheaa
