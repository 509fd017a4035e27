/- Patterns, their elements and distances, in the program and in the reference. -/
import Derived.Test.YtjjohniabgamjaaWidths
namespace Go.Proofs.Ytjjohniabgamjaa
open Go.RowKit

set_option maxHeartbeats 1000000 in
theorem l08Pattern_any (p : ByteArray) (w : World) (hp : p.size ≤ 1048576) :
    Calls Try.prog 40 #[.string p] w fun e w' => e = .returned (.bool (pok p)) ∧ w = w' := by
  go_enter Try.func40, Try.ntmps40
  go_wp2_with fail
  go_loop [3, 4] (fun sv iv => ∃ (k : Nat) (s : Int), k ≤ p.size ∧ iv = .int .i64 k ∧ sv = .int .i64 s ∧ 0 ≤ s ∧ s ≤ 4 * k ∧ Hid (s = isum ((pw p).take k)) ∧ Hid (∀ i (h : i < p.size), i < k → 49 ≤ p[i].toNat ∧ p[i].toNat ≤ 52)) (fun _ iv => p.size - (intOf iv).toNat)
  case atStart => exact ⟨0, 0, Nat.zero_le _, rfl, rfl, by omega, by omega, rfl, fun i h hi => by omega⟩
  case round =>
    obtain ⟨k, s, hk, rfl, rfl, hs0, hs4, HS, HO⟩ := hrel
    by_cases hlt : k < p.size
    · by_cases hc : 49 ≤ p[k].toNat ∧ p[k].toNat ≤ 52
      · have h1 : 49 ≤ (p[k].toNat : Int) := by omega
        have h2 : (p[k].toNat : Int) ≤ 52 := by omega
        have HO2 : Hid (∀ i (h : i < p.size), i < k + 1 → 49 ≤ p[i].toNat ∧ p[i].toNat ≤ 52) := fun i h hi => by
          by_cases e : i = k
          · subst e; exact hc
          · exact HO.out i h (by omega)
        have HN : Hid (s + ((p[k].toNat : Int) - 48) = isum ((pw p).take (k + 1))) := by
          unfold Hid
          rw [isum_snoc (pw p) k (by rw [pw_len]; exact hlt), pw_get p k hlt, ← HS.out]
        clear hc HO
        go_wp2_with fail
        go_round
        case rel => exact ⟨k + 1, _, by omega, by go_num, rfl, by omega, by omega, HN, HO2⟩
        case measure => first | (simp [intOf]; done) | (simp [intOf]; omega)
      · have hno : pok p = false := by
          have : okB p = false := by
            rw [← Bool.not_eq_true, okB_iff]
            exact fun h => hc (h k hlt)
          simp [pok, this]
        have HN := Lib.hid hno
        clear hno
        by_cases h1 : 49 ≤ (p[k].toNat : Int)
        · have h2 : ¬ (p[k].toNat : Int) ≤ 52 := by omega
          clear hc
          go_wp2_with fail
          go_ret
          exact ⟨ret_bool HN.out.symm, rfl⟩
        · clear hc
          go_wp2_with fail
          go_ret
          exact ⟨ret_bool HN.out.symm, rfl⟩
    · have hok : okB p = true := (okB_iff p).2 fun i h => HO.out i h (by omega)
      have hpk : pok p = (inB p.size 1 10 && decide (s ≤ 20)) := by
        have hs := HS.out
        rw [List.take_of_length_le (by rw [pw_len]; omega)] at hs
        simp [pok, hok, hs]
      have HP := Lib.hid hpk
      clear hpk HO hok
      by_cases hi : inB p.size 1 10 = true
      · go_wp2_with (go_at_call 44; refine (l00In_any _ _ _ _).mono ?_; rintro e w' ⟨rfl, rfl⟩)
        go_ret
        exact ⟨ret_bool (by rw [HP.out, hi]; simp), rfl⟩
      · simp only [Bool.not_eq_true] at hi
        go_wp2_with (go_at_call 44; refine (l00In_any _ _ _ _).mono ?_; rintro e w' ⟨rfl, rfl⟩)
        go_ret
        exact ⟨ret_bool (by rw [HP.out, hi]; rfl), rfl⟩

set_option maxHeartbeats 1000000 in
theorem l08Elements_any (p : ByteArray) (w : World) (hp : p.size ≤ 1048576) (hok : okB p = true) :
    Calls Try.prog 50 #[.string p] w fun e w' => ∃ v, e = .returned v ∧ OI w.heap.size w' v (pw p) ∧ Below w.heap.size w w' := by
  have HO := Lib.hid ((okB_iff p).1 hok)
  clear hok
  go_enter Try.func50, Try.ntmps50
  go_wp2_with fail
  have hown0 : OI w.heap.size (w.alloc (.cells #[] 2)) (.slice (some ⟨w.heap.size, 0, none⟩) 0 0) [] := OK.made _ _ _ (Nat.le_refl _)
  have hbl0 : Below w.heap.size w (w.alloc (.cells #[] 2)) := (Below.refl _ _).alloc (Nat.le_refl _) _
  generalize w.alloc (.cells #[] 2) = w2 at *
  generalize Value.slice (some ⟨w.heap.size, 0, none⟩) 0 0 = v0 at *
  go_loopw [3, 4] (fun out iv wr => ∃ k : Nat, k ≤ p.size ∧ iv = .int .i64 k ∧ OI w.heap.size wr out ((pw p).take k) ∧ Below w.heap.size w wr) (fun _ iv _ => p.size - (intOf iv).toNat)
  case atStart => exact ⟨0, Nat.zero_le _, rfl, by simpa using hown0, hbl0⟩
  case round =>
    obtain ⟨k, hk, rfl, hown, hb⟩ := hrel
    clear hown0 hbl0
    have hz := hb.size
    by_cases hlt : k < p.size
    · obtain ⟨g1, g2⟩ := HO.out k hlt
      have h1 : 49 ≤ (p[k].toNat : Int) := by omega
      have h2 : (p[k].toNat : Int) ≤ 52 := by omega
      have HT := Lib.hid (take_snoc (pw p) k (by rw [pw_len]; exact hlt))
      have HG := Lib.hid (pw_get p k hlt)
      have hl : ((pw p).take k).length ≤ 1099511627776 := by rw [List.length_take, pw_len]; omega
      clear g1 g2
      go_wp2_with (at_builtin; refine wpl_app_i64 rfl _ _ rfl w.heap.size _ _ rfl (hown.alloc _) _ _ _ rfl (World.cell?_alloc_at _ _ _ _ rfl) hl (by simp; omega) ?_; intro v' w1 hown1 hgr)
      have hb1 : Below w.heap.size w w1 := own_below (hb.alloc hz _) (hown.alloc _) hgr (by simp; omega)
      rw [← HG.out, ← HT.out] at hown1
      go_roundw
      case rel => exact ⟨k + 1, by omega, by go_num, hown1, hb1⟩
      case measure => first | (simp [intOf]; done) | (simp [intOf]; omega)
    · have hown' : OI w.heap.size wr u3 (pw p) := by
        have := hown
        rw [List.take_of_length_le (by rw [pw_len]; omega)] at this
        exact this
      go_wp2_with fail
      go_ret
      exact ⟨_, rfl, hown', hb⟩

/-- The sum of the absolute differences of the first n numbers. -/
def pdist (xs ys : List Int) : Nat → Int
  | 0 => 0
  | n + 1 => pdist xs ys n + (if xs.getD n 0 - ys.getD n 0 < 0 then ys.getD n 0 - xs.getD n 0 else xs.getD n 0 - ys.getD n 0)
theorem pdist_bd {xs ys : List Int} (hx : ∀ x ∈ xs, 1 ≤ x ∧ x ≤ 4) (hy : ∀ x ∈ ys, 1 ≤ x ∧ x ≤ 4) : ∀ n, n ≤ xs.length → n ≤ ys.length → 0 ≤ pdist xs ys n ∧ pdist xs ys n ≤ 4 * n
  | 0, _, _ => by simp [pdist]
  | n + 1, h, h' => by
    have h0 := pdist_bd hx hy n (by omega) (by omega)
    have h1 := hx (xs.getD n 0) (by simp [show n < xs.length by omega])
    have h2 := hy (ys.getD n 0) (by simp [show n < ys.length by omega])
    rw [pdist]
    split <;> omega

set_option maxHeartbeats 400000 in
theorem size_any (n : Int) (w : World) (hn : -1000000000000000000 ≤ n ∧ n ≤ 1000000000000000000) :
    Calls Try.prog 62 #[.int .i64 n] w fun e w' => e = .returned (.int .i64 (if n < 0 then -n else n)) ∧ w = w' := by
  by_cases h : n < 0
  all_goals
    go_enter Try.func62, Try.ntmps62
    go_wp2
    all_goals (go_ret; exact ⟨ret_i64 (by first | rfl | (split <;> omega)), rfl⟩)
set_option maxHeartbeats 400000 in
theorem l00Max_any (a b : Int) (w : World) :
    Calls Try.prog 61 #[.int .i64 a, .int .i64 b] w fun e w' => e = .returned (.int .i64 (if b < a then a else b)) ∧ w = w' := by
  by_cases h : b < a
  all_goals
    go_enter Try.func61, Try.ntmps61
    go_wp2
    all_goals (go_ret; exact ⟨ret_i64 (by first | rfl | (split <;> omega)), rfl⟩)

set_option maxHeartbeats 1000000 in
theorem apart_any (u v : Value) (xs ys : List Int) (w : World) (hx : RI w u xs) (hy : RI w v ys) (hl : xs.length = ys.length) (hm : xs.length ≤ 1048576)
    (bx : ∀ x ∈ xs, 1 ≤ x ∧ x ≤ 4) (by_ : ∀ x ∈ ys, 1 ≤ x ∧ x ≤ 4) :
    Calls Try.prog 43 #[u, v] w fun e w' => e = .returned (.int .i64 (pdist xs ys xs.length)) ∧ Below w.heap.size w w' := by
  obtain ⟨a, c, rfl⟩ := hx.slice
  obtain ⟨b, d, rfl⟩ := hy.slice
  have HL := Lib.hid hl
  have hl1 : xs.length ≤ ys.length := by omega
  clear hl
  go_enter Try.func43, Try.ntmps43
  go_wp2_with fail
  go_loopw [5, 9] (fun sv iv wr => ∃ k : Nat, k ≤ xs.length ∧ iv = .int .i64 k ∧ sv = .int .i64 (pdist xs ys k) ∧ Below w.heap.size w wr) (fun _ iv _ => xs.length - (intOf iv).toNat)
  case atStart => exact ⟨0, Nat.zero_le _, rfl, rfl, Below.refl _ _⟩
  case round =>
    obtain ⟨k, hk, rfl, rfl, hb⟩ := hrel
    by_cases hlt : k < xs.length
    · obtain ⟨g, off, rfl, hg, hc⟩ := (hx.later hb).at k hlt
      obtain ⟨g', off', rfl, hg', hc'⟩ := (hy.later hb).at k (by omega)
      have h1 := bx (xs.getD k 0) (by simp [hlt])
      have h2 := by_ (ys.getD k 0) (by simp [show k < ys.length by omega])
      have h3 := pdist_bd bx by_ k hk (by omega)
      have he : pdist xs ys (k + 1) = pdist xs ys k + (if xs.getD k 0 - ys.getD k 0 < 0 then ys.getD k 0 - xs.getD k 0 else xs.getD k 0 - ys.getD k 0) := rfl
      have HE := Lib.hid he; clear he
      have hlt2 : k < ys.length := by omega
      generalize xs.getD k 0 = x at *
      generalize ys.getD k 0 = y at *
      generalize hp : pdist xs ys k = q at *
      clear hp
      have hcall : ∀ wx, Calls Try.prog 62 #[.int .i64 (x - y)] wx fun e w' => e = .returned (.int .i64 (if x - y < 0 then y - x else x - y)) ∧ w' = wx := fun wx =>
        (size_any (x - y) wx (by omega)).mono fun e w' h => ⟨by rw [h.1]; congr 2; split <;> omega, h.2.symm⟩
      have HC := Lib.hid hcall
      clear hcall
      have hq : 0 ≤ (if x - y < 0 then y - x else x - y) ∧ (if x - y < 0 then y - x else x - y) ≤ 3 := by split <;> omega
      generalize (if x - y < 0 then y - x else x - y) = z at *
      go_wp2_with fail
      go_quiet ((go_at_call 62; exact Calls.quiet_of_same (HC.out _)))
      go_wp2_with fail
      go_roundw
      case rel => exact ⟨k + 1, by omega, by go_num, by rw [HE.out], below_drewN hb _⟩
      case measure => first | (simp [intOf]; done) | (simp [intOf]; omega)
    · go_wp2_with fail
      go_ret
      have : k = xs.length := by omega
      subst this
      exact ⟨rfl, hb⟩

set_option maxHeartbeats 1000000 in
theorem l08Far_any (p q : ByteArray) (w : World) (hp : p.size ≤ 1048576) (hl : p.size = q.size) (op : okB p = true) (oq : okB q = true) :
    Calls Try.prog 41 #[.string p, .string q] w fun e w' => e = .returned (.int .i64 (pdist (pw p) (pw q) p.size)) ∧ Below w.heap.size w w' := by
  have HL := Lib.hid hl
  have hl1 : p.size ≤ q.size := by omega
  have HP := Lib.hid ((okB_iff p).1 op)
  have HQ := Lib.hid ((okB_iff q).1 oq)
  have HBD : Hid (∀ n, n ≤ p.size → 0 ≤ pdist (pw p) (pw q) n ∧ pdist (pw p) (pw q) n ≤ 4 * n) := fun n hn => pdist_bd (pw_in p op) (pw_in q oq) n (by rw [pw_len]; exact hn) (by rw [pw_len]; omega)
  clear hl op oq
  go_enter Try.func41, Try.ntmps41
  go_wp2_with fail
  go_loopw [5, 6] (fun sv iv wr => ∃ k : Nat, k ≤ p.size ∧ iv = .int .i64 k ∧ sv = .int .i64 (pdist (pw p) (pw q) k) ∧ Below w.heap.size w wr) (fun _ iv _ => p.size - (intOf iv).toNat)
  case atStart => exact ⟨0, Nat.zero_le _, rfl, rfl, Below.refl _ _⟩
  case round =>
    obtain ⟨k, hk, rfl, rfl, hb⟩ := hrel
    by_cases hlt : k < p.size
    · have hlt2 : k < q.size := by omega
      obtain ⟨g1, g2⟩ := HP.out k hlt
      obtain ⟨g3, g4⟩ := HQ.out k hlt2
      have h1 : 49 ≤ (p[k].toNat : Int) := by omega
      have h2 : (p[k].toNat : Int) ≤ 52 := by omega
      have h3 : 49 ≤ (q[k].toNat : Int) := by omega
      have h4 : (q[k].toNat : Int) ≤ 52 := by omega
      have h5 := HBD.out k hk
      have he : pdist (pw p) (pw q) (k + 1) = pdist (pw p) (pw q) k + (if (p[k].toNat : Int) - q[k].toNat < 0 then (q[k].toNat : Int) - p[k].toNat else (p[k].toNat : Int) - q[k].toNat) := by
        rw [pdist, pw_get p k hlt, pw_get q k hlt2]
        split <;> split <;> omega
      have HE := Lib.hid he
      have HZ : Hid (∀ a b : Int, a = (p[k].toNat : Int) - q[k].toNat → b = -a → (if b < a then a else b) = (if (p[k].toNat : Int) - q[k].toNat < 0 then (q[k].toNat : Int) - p[k].toNat else (p[k].toNat : Int) - q[k].toNat)) := fun a b ha hb => by
        split <;> split <;> omega
      have hzb : 0 ≤ (if (p[k].toNat : Int) - q[k].toNat < 0 then (q[k].toNat : Int) - p[k].toNat else (p[k].toNat : Int) - q[k].toNat) ∧ (if (p[k].toNat : Int) - q[k].toNat < 0 then (q[k].toNat : Int) - p[k].toNat else (p[k].toNat : Int) - q[k].toNat) ≤ 3 := by split <;> omega
      clear g1 g2 g3 g4 he
      generalize hp : pdist (pw p) (pw q) k = z at *
      generalize (if (p[k].toNat : Int) - q[k].toNat < 0 then (q[k].toNat : Int) - p[k].toNat else (p[k].toNat : Int) - q[k].toNat) = zz at *
      clear hp
      go_wp2_with fail
      go_quiet (fail)
      go_wp2_with (go_at_call 61; refine (l00Max_any _ _ _).mono ?_; rintro e w' ⟨rfl, rfl⟩; rw [HZ.out _ _ (by omega) (by omega)])
      go_roundw
      case rel => exact ⟨k + 1, by omega, by go_num, by rw [HE.out], below_drewN hb _⟩
      case measure => first | (simp [intOf]; done) | (simp [intOf]; omega)
    · go_wp2_with fail
      go_ret
      have : k = p.size := by omega
      subst this
      exact ⟨rfl, hb⟩

theorem later3 {B : Nat} {w w1 w2 : World} (h1 : Below B w w1) (h2 : Below w1.heap.size w1 w2) (hB : B ≤ w1.heap.size) : Below B w w2 := h1.trans (h2.mono hB)

/-- What both PatternDistance return. -/
def pdR (p q : ByteArray) : Int := if pok p && pok q && decide (p.size = q.size) then pdist (pw p) (pw q) p.size else 0
def pdB (p q : ByteArray) : Bool := pok p && pok q && decide (p.size = q.size)
set_option maxHeartbeats 1000000 in
theorem implDist_any (p q : ByteArray) (w : World) (hp : p.size ≤ 1048576) (hq : q.size ≤ 1048576) :
    Calls Try.prog 18 #[.string p, .string q] w fun e w' => e = .returned (.tuple #[.int .i64 (pdR p q), .bool (pdB p q)]) ∧ Below w.heap.size w w' := by
  go_enter Try.func18, Try.ntmps18
  go_wp2_with fail
  refine (widthsOf_any p _ hp).mono ?_
  rintro e w1 ⟨v1, xs, rfl, h1, H1, hb1⟩
  go_wp2_with fail
  refine (widthsOf_any q _ hq).mono ?_
  rintro e w2 ⟨v2, ys, rfl, h2, H2, hb2⟩
  have h1' := h1.later hb2
  have hb := later3 hb1 hb2 hb1.size
  clear hb2 h1
  obtain ⟨a1, c1, rfl⟩ := h1'.slice
  obtain ⟨a2, c2, rfl⟩ := h2.slice
  by_cases p1 : pok p = true
  · obtain rfl := H1.out p1
    by_cases p2 : pok q = true
    · obtain rfl := H2.out p2
      rw [pw_len] at *
      rw [pw_len] at *
      by_cases hl : p.size = q.size
      · have hr : Hid (pdR p q = pdist (pw p) (pw q) p.size ∧ pdB p q = true) := by simp [Hid, pdR, pdB, p1, p2, hl]
        have HL := Lib.hid hl
        have hne : ((p.size : Int) != q.size) = false := by rw [hl]; simp
        clear hl
        go_wp2_with (go_at_call 43; refine (apart_any _ _ _ _ _ h1'.read h2.read (by rw [pw_len, pw_len]; exact HL.out) (by rw [pw_len]; exact hp) (pw_in p (pok_okB p1)) (pw_in q (pok_okB p2))).mono ?_; rintro e w3 ⟨rfl, hb3⟩)
        go_ret2
        exact ⟨ret_ib (by rw [hr.out.1, pw_len]) hr.out.2.symm, later3 hb hb3 (by have := hb.size; omega)⟩
      · have hr : Hid (pdR p q = 0 ∧ pdB p q = false) := by simp [Hid, pdR, pdB, p1, p2, hl]
        have hne : ((p.size : Int) != q.size) = true := by simp; omega
        clear hl
        go_wp2_with fail
        go_ret2
        exact ⟨ret_ib hr.out.1.symm hr.out.2.symm, hb⟩
    · simp only [Bool.not_eq_true] at p2
      have hr : Hid (pdR p q = 0 ∧ pdB p q = false) := by simp [Hid, pdR, pdB, p1, p2]
      go_wp2_with fail
      go_ret2
      exact ⟨ret_ib hr.out.1.symm hr.out.2.symm, hb⟩
  · simp only [Bool.not_eq_true] at p1
    have hr : Hid (pdR p q = 0 ∧ pdB p q = false) := by simp [Hid, pdR, pdB, p1]
    go_wp2_with fail
    go_ret2
    exact ⟨ret_ib hr.out.1.symm hr.out.2.symm, hb⟩
set_option maxHeartbeats 1000000 in
theorem specDist_any (p q : ByteArray) (w : World) (hp : p.size ≤ 1048576) (hq : q.size ≤ 1048576) :
    Calls Try.prog 17 #[.string p, .string q] w fun e w' => e = .returned (.tuple #[.int .i64 (pdR p q), .bool (pdB p q)]) ∧ Below w.heap.size w w' := by
  by_cases p1 : pok p = true
  · by_cases p2 : pok q = true
    · by_cases hl : p.size = q.size
      · have hr : Hid (pdR p q = pdist (pw p) (pw q) p.size ∧ pdB p q = true) := by simp [Hid, pdR, pdB, p1, p2, hl]
        have HL := Lib.hid hl
        have hne : ((p.size : Int) != q.size) = false := by rw [hl]; simp
        clear hl
        go_enter Try.func17, Try.ntmps17
        go_wp2_with (first | (go_at_call 40; refine (l08Pattern_any _ _ (by assumption)).mono ?_; rintro e w' ⟨rfl, rfl⟩) | (go_at_call 41; refine (l08Far_any _ _ _ hp HL.out (pok_okB p1) (pok_okB p2)).mono ?_; rintro e w3 ⟨rfl, hb3⟩))
        go_ret2
        exact ⟨ret_ib hr.out.1.symm hr.out.2.symm, hb3⟩
      · have hr : Hid (pdR p q = 0 ∧ pdB p q = false) := by simp [Hid, pdR, pdB, p1, p2, hl]
        have hne : ((p.size : Int) != q.size) = true := by simp; omega
        clear hl
        go_enter Try.func17, Try.ntmps17
        go_wp2_with (go_at_call 40; refine (l08Pattern_any _ _ (by assumption)).mono ?_; rintro e w' ⟨rfl, rfl⟩)
        go_ret2
        exact ⟨ret_ib hr.out.1.symm hr.out.2.symm, Below.refl _ _⟩
    · simp only [Bool.not_eq_true] at p2
      have hr : Hid (pdR p q = 0 ∧ pdB p q = false) := by simp [Hid, pdR, pdB, p1, p2]
      go_enter Try.func17, Try.ntmps17
      go_wp2_with (go_at_call 40; refine (l08Pattern_any _ _ (by assumption)).mono ?_; rintro e w' ⟨rfl, rfl⟩)
      go_ret2
      exact ⟨ret_ib hr.out.1.symm hr.out.2.symm, Below.refl _ _⟩
  · simp only [Bool.not_eq_true] at p1
    have hr : Hid (pdR p q = 0 ∧ pdB p q = false) := by simp [Hid, pdR, pdB, p1]
    go_enter Try.func17, Try.ntmps17
    go_wp2_with (go_at_call 40; refine (l08Pattern_any _ _ (by assumption)).mono ?_; rintro e w' ⟨rfl, rfl⟩)
    go_ret2
    exact ⟨ret_ib hr.out.1.symm hr.out.2.symm, Below.refl _ _⟩
set_option maxHeartbeats 1000000 in
theorem lawDist_any (p q : ByteArray) (w : World) :
    Calls Try.prog 5 #[.string p, .string q] w fun e w' => e = .returned (.bool true) ∧ Below w.heap.size w w' := by
  by_cases hp : p.size ≤ 1048576
  · by_cases hq : q.size ≤ 1048576
    · go_enter Try.func5, Try.ntmps5
      go_wp2_with (first | (go_at_call 17; refine (specDist_any _ _ _ hp hq).mono ?_; rintro e w1 ⟨rfl, hb1⟩) | (go_at_call 18; refine (implDist_any _ _ _ hp hq).mono ?_; rintro e w2 ⟨rfl, hb2⟩))
      go_ret
      exact ⟨rfl, later3 hb1 hb2 hb1.size⟩
    · go_enter Try.func5, Try.ntmps5
      go_wp2_with fail
      go_ret
      exact ⟨rfl, Below.refl _ _⟩
  · go_enter Try.func5, Try.ntmps5
    go_wp2_with fail
    go_ret
    exact ⟨rfl, Below.refl _ _⟩
end Go.Proofs.Ytjjohniabgamjaa
