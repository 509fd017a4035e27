/- FnAntisymmetric: a chain of four places by one table, in its box: next, leads, begins, both. -/
import Derived.Test.YthcnhkjiojeemaaChn
import Derived.Test.YthcnhkjiojeemaaPrdM
import Derived.Test.YthcnhkjiojeemaaTb
import Derived.BigQuiet
import Derived.RegionTactic
import Derived.BigRegion
import Derived.Deep.RegionHeld3
namespace Go.Proofs.Ythcnhkjiojeemaa
open Go.RowKit

/-- Numbers as integers. -/
def iF (T : Nat → Nat → Nat) : Nat → Nat → Int := fun i j => (T i j : Int)
def nL (xs : List Nat) : List Int := xs.map fun d : Nat => (d : Int)
theorem nL_len (xs : List Nat) : (nL xs).length = xs.length := by simp [nL]
theorem nL_get {xs : List Nat} {k : Nat} (h : k < xs.length) : (nL xs).getD k 0 = ((xs.getD k 0 : Nat) : Int) := by simp [nL, h]
/-- The state to which symbols lead. -/
def ld (T : Nat → Nat → Nat) (s : Nat) (xs : List Nat) : Nat := xs.foldl T s
theorem ld_take (T : Nat → Nat → Nat) (s : Nat) {xs : List Nat} {k : Nat} (h : k < xs.length) : ld T s (xs.take (k + 1)) = T (ld T s (xs.take k)) (xs.getD k 0) := by
  unfold ld
  rw [List.take_succ_eq_append_getElem h, List.foldl_append]
  simp [h]
theorem ld_lt {T : Nat → Nat → Nat} {n : Nat} (q : QN n T) : ∀ (xs : List Nat) (s : Nat), s < n → (∀ d ∈ xs, d < n) → ld T s xs < n
  | [], s, hs, _ => hs
  | d :: xs, s, hs, h => ld_lt q xs (T s d) (q.bd s d hs (h d (by simp))) fun e he => h e (by simp [he])
theorem QN.qgI {n : Nat} {T : Nat → Nat → Nat} (q : QN n T) : Qg n (iF T) := by
  refine ⟨fun i j hi hj => ?_, fun i j k hi hj hk e => ?_, fun i j k hi hj hk e => ?_⟩
  · have := q.bd i j hi hj
    unfold iF; omega
  · have := q.row i j k hi (by omega) hk (by unfold iF at e; omega)
    omega
  · have := q.col i j k hi (by omega) hk (by unfold iF at e; omega)
    omega
theorem sub_lenQ {α : Type} [DecidableEq α] : ∀ (A B : List α), A.Nodup → (∀ a ∈ A, a ∈ B) → A.length ≤ B.length
  | [], _, _, _ => Nat.zero_le _
  | a :: A, B, hn, h => by
    rw [List.nodup_cons] at hn
    have ha := h a (List.mem_cons_self ..)
    have hB : 0 < B.length := List.length_pos_of_mem ha
    have := sub_lenQ A (B.erase a) hn.2 fun z hz => (List.mem_erase_of_ne (fun e => hn.1 (by rw [← e]; exact hz))).2 (h z (List.mem_cons_of_mem _ hz))
    rw [List.length_erase_of_mem ha] at this
    simp only [List.length_cons]
    omega
/-- Each row has each number. -/
theorem QN.sur {n : Nat} {T : Nat → Nat → Nat} (q : QN n T) {y x : Nat} (hy : y < n) (hx : x < n) : ∃ k, k < n ∧ T y k = x := by
  by_cases h : ∃ k, k < n ∧ T y k = x
  · exact h
  · exfalso
    have hnd : ((List.range n).map fun j => T y j).Nodup := by
      rw [List.nodup_iff_pairwise_ne, List.pairwise_map]
      refine List.Pairwise.imp_of_mem ?_ (List.pairwise_lt_range (n := n))
      intro a b ha hb hlt e
      have := q.row y a b hy (List.mem_range.1 ha) (List.mem_range.1 hb) e
      omega
    have := sub_lenQ _ ((List.range n).erase x) hnd fun a ha => by
      obtain ⟨j, hj, rfl⟩ := List.mem_map.1 ha
      have hj' := List.mem_range.1 hj
      exact (List.mem_erase_of_ne (fun e => h ⟨j, hj', e⟩)).2 (List.mem_range.2 (q.bd y j hy hj'))
    rw [List.length_erase_of_mem (List.mem_range.2 hx), List.length_range, List.length_map, List.length_range] at this
    omega
/-- The chain of four places by the table T, in the box p. -/
def CE (p n : Nat) (T : Nat → Nat → Nat) (w : World) : Prop :=
  ∃ g1 o1 C1 g2 o2 C2 G O C H F P, ChAt p n n 0 0 (.slice (some ⟨g1, o1, none⟩) 1 C1) (.slice (some ⟨g2, o2, none⟩) 4 C2) w ∧ w.cell? ⟨g1, o1, none⟩ = some (.slice (some ⟨G, O, none⟩) n C) ∧
    (∀ i, i < 4 → w.cell? ⟨g2, o2 + i, none⟩ = some (.int .i64 0)) ∧ SqAt G O H F P (mkT n (iF T)) w
theorem CE.later {p n : Nat} {T : Nat → Nat → Nat} {w w' : World} (h : CE p n T w) (hb : Below w.heap.size w w') : CE p n T w' := by
  obtain ⟨g1, o1, C1, g2, o2, C2, G, O, C, H, F, P, h1, h2, h3, h4⟩ := h
  refine ⟨g1, o1, C1, g2, o2, C2, G, O, C, H, F, P, h1.later hb, ?_, fun i hi => ?_, h4.later hb⟩
  · rw [hb.cell (p := ⟨g1, o1, none⟩) (World.block_lt_of_cell? w _ h2)]; exact h2
  · rw [hb.cell (p := ⟨g2, o2 + i, none⟩) (World.block_lt_of_cell? w _ (h3 i hi))]; exact h3 i hi
theorem CE.fields {p n : Nat} {T : Nat → Nat → Nat} {w : World} (h : CE p n T w) : w.cell? ⟨p, 0, none⟩ = some (.int .i64 n) ∧ w.cell? ⟨p, 1, none⟩ = some (.int .i64 n) ∧ w.cell? ⟨p, 2, none⟩ = some (.int .i64 0) ∧ w.cell? ⟨p, 3, none⟩ = some (.int .i64 0) ∧
    (∃ g o C, w.cell? ⟨p, 5, none⟩ = some (.slice (some ⟨g, o, none⟩) 4 C)) ∧ p < w.heap.size := by
  obtain ⟨g1, o1, C1, g2, o2, C2, G, O, C, H, F, P, h1, _⟩ := h
  exact ⟨h1.c0, h1.c1, h1.c2, h1.c3, ⟨_, _, _, h1.c5⟩, h1.lt⟩
set_option maxHeartbeats 2000000 in
theorem cnext_any (p n : Nat) (T : Nat → Nat → Nat) (w : World) (h : CE p n T w) (hn : n ≤ 36) (k s d : Nat) (hk : k < 4) (hs : s < n) (hd : d < n) :
    Calls Try.prog 90 #[.pointer (some ⟨p, 0, none⟩), .int .i64 k, .int .i64 s, .int .i64 d] w fun e w' => e = .returned (.int .i64 (T s d : Nat)) ∧ Drw w w' := by
  obtain ⟨g1, o1, C1, g2, o2, C2, G, O, C, H, F, P, h1, h2, h3, h4⟩ := h
  have c4 := h1.c4
  have c5 := h1.c5
  have e1 := h3 k hk
  have e2 := h4.row s (by rw [mkT_len]; exact hs)
  have e3 := h4.cell s d (by rw [mkT_len]; exact hs) (by rw [mkT_len]; exact hd)
  rw [mkT_len] at e2
  rw [tb_mk hs hd] at e3
  have i1 : (k : Int) < 4 := by omega
  have i2 : (s : Int) < (n : Int) := by omega
  have i3 : (d : Int) < (n : Int) := by omega
  unfold iF at e3
  generalize T s d = z at *
  clear h1 h3 h4
  go_enter Try.func90, Try.ntmps90
  go_wp2_with fail
  go_quiet (fail)
  go_wp2_with fail
  go_ret
  exact ⟨rfl, _, rfl⟩
set_option maxHeartbeats 2000000 in
theorem leads_any (p n : Nat) (T : Nat → Nat → Nat) (q : QN n T) (w : World) (h : CE p n T w) (hn : n ≤ 36) (k s : Nat) (v : Value) (xs : List Nat) (hx : RI w v (nL xs)) (hd : ∀ d ∈ xs, d < n) (hk : k + xs.length ≤ 4) (hs : s < n) :
    Calls Try.prog 88 #[.pointer (some ⟨p, 0, none⟩), .int .i64 k, .int .i64 s, v] w fun e w' => e = .returned (.int .i64 (ld T s xs : Nat)) ∧ Drw w w' := by
  obtain ⟨a, c, rfl⟩ := hx.slice
  have HX : Hid (∀ wx i, Drw w wx → i < xs.length → ∃ g o, a = some ⟨g, o, none⟩ ∧ wx.cell? ⟨g, o + i, none⟩ = some (.int .i64 ((xs.getD i 0 : Nat) : Int))) := fun wx i hb hi => by
    obtain ⟨g, o, e, _, hh⟩ := (hx.later hb.below).at i (by rw [nL_len]; exact hi)
    rw [nL_get hi] at hh
    exact ⟨g, o, e, hh⟩
  have HN : Hid (∀ wx i z d, Drw w wx → i < xs.length → z < n → d < n → Calls Try.prog 90 #[.pointer (some ⟨p, 0, none⟩), .int .i64 ((k + i : Nat) : Int), .int .i64 (z : Nat), .int .i64 (d : Nat)] wx fun e w' => e = .returned (.int .i64 (T z d : Nat)) ∧ Drw wx w') := fun wx i z d hw hi hz hd =>
    cnext_any p n T wx (h.later hw.below) hn (k + i) z d (by omega) hz hd
  have HL : Hid (∀ i, i < xs.length → ld T s (xs.take i) < n ∧ xs.getD i 0 < n ∧ ld T s (xs.take (i + 1)) = T (ld T s (xs.take i)) (xs.getD i 0)) := fun i hi =>
    ⟨ld_lt q _ s hs (fun d hh => hd d (List.mem_of_mem_take hh)), hd _ (by simp [hi]), ld_take T s hi⟩
  rw [nL_len]
  clear hx hd
  have hk4 : k ≤ 4 := by omega
  have hk4' : (k : Int) ≤ 4 := by omega
  have hx4 : xs.length ≤ 4 := by omega
  go_enter Try.func88, Try.ntmps88
  go_wp2_with fail
  go_loopw [2, 13] (fun sv iv wr => ∃ i : Nat, i ≤ xs.length ∧ iv = .int .i64 i ∧ sv = .int .i64 (ld T s (xs.take i) : Nat) ∧ Drw w wr) (fun _ iv _ => xs.length - (intOf iv).toNat)
  case atStart => exact ⟨0, Nat.zero_le _, rfl, rfl, Drw.refl _⟩
  case round =>
    obtain ⟨i, hi, rfl, rfl, hw⟩ := hrel
    by_cases hlt : i < xs.length
    · obtain ⟨g, o, rfl, hc⟩ := HX.out _ i hw hlt
      obtain ⟨l1, l2, l3⟩ := HL.out i hlt
      have HNX := Lib.hid (HN.out wr i _ _ hw hlt l1 l2)
      have L3 := Lib.hid l3
      clear l3
      have hwr : IntKind.i64.wrap ((k : Int) + (i : Int)) = ((k + i : Nat) : Int) := by rw [IntWalk.i64_in _ (by omega)]; omega
      generalize ld T s (xs.take i) = z at *
      generalize xs.getD i 0 = d at *
      go_wp2_with (go_at_call 90; first | rw [hwr] | skip; refine HNX.out.mono ?_; rintro e w2 ⟨rfl, hd2⟩)
      go_roundw
      case rel => exact ⟨i + 1, by omega, by go_num, by rw [L3.out], hw.trans hd2⟩
      case measure => first | (simp [intOf]; done) | (simp [intOf]; omega)
    · obtain rfl : i = xs.length := by omega
      rw [List.take_length]
      go_wp2_with fail
      go_ret
      exact ⟨rfl, hw⟩
theorem getD_setB (L : List Int) (a x : Nat) (z : Int) (h : a < L.length) : (L.set a z).getD x 0 = if x = a then z else L.getD x 0 := by
  rw [List.getD_eq_getElem?_getD, List.getElem?_set]
  by_cases e : a = x
  · subst e; simp [h]
  · rw [if_neg e, if_neg (Ne.symm e), ← List.getD_eq_getElem?_getD]
/-- What the beginnings up to a place are good for. -/
structure BgP (n k : Nat) (bs : List Int) : Prop where
  len : bs.length = n
  bd : ∀ i, i < n → 0 ≤ bs.getD i 0 ∧ bs.getD i 0 ≤ ((25 ^ k : Nat) : Int)
  pos : 1 ≤ k → ∀ i, i < n → 1 ≤ bs.getD i 0
  st : k = 0 → 1 ≤ bs.getD 0 0
def bdA (K i j : Nat) : Nat := (i * 5 + j) * K
theorem bdA_step (K i j : Nat) : bdA K i (j + 1) = bdA K i j + K := by unfold bdA; rw [← Nat.add_assoc, Nat.succ_mul]
theorem bdA_row (K i : Nat) {n : Nat} (h : n ≤ 5) : bdA K i n ≤ bdA K (i + 1) 0 := by unfold bdA; exact Nat.mul_le_mul_right K (by omega)
theorem bdA_le (K : Nat) {i j : Nat} (h : i * 5 + j ≤ 25) : bdA K i j ≤ 25 * K := by unfold bdA; exact Nat.mul_le_mul_right K h
structure AI (n : Nat) (T : Nat → Nat → Nat) (bs : List Int) (K i j : Nat) (L : List Int) : Prop where
  len : L.length = n
  bd : ∀ x, x < n → 0 ≤ L.getD x 0 ∧ L.getD x 0 ≤ (bdA K i j : Nat)
  pos : ∀ s d, (s < i ∧ d < n ∨ s = i ∧ d < j) → 1 ≤ bs.getD s 0 → 1 ≤ L.getD (T s d) 0
theorem AI.zero (n : Nat) (T : Nat → Nat → Nat) (bs : List Int) (K : Nat) : AI n T bs K 0 0 (List.replicate n 0) :=
  ⟨by simp, fun x hx => by simp [hx], fun s d h _ => by omega⟩
theorem AI.row {n : Nat} {T : Nat → Nat → Nat} {bs : List Int} {K i : Nat} {L : List Int} (h : AI n T bs K i n L) (h5 : n ≤ 5) : AI n T bs K (i + 1) 0 L :=
  ⟨h.len, fun x hx => by have := h.bd x hx; have := bdA_row K i h5; omega, fun s d hh => h.pos s d (by omega)⟩
theorem AI.step {n : Nat} {T : Nat → Nat → Nat} {bs : List Int} {K i j : Nat} {L : List Int} (h : AI n T bs K i j L) (hi : i < n) (hj : j < n) (hb : 0 ≤ bs.getD i 0 ∧ bs.getD i 0 ≤ (K : Nat)) (ht : T i j < n) :
    AI n T bs K i (j + 1) (L.set (T i j) (L.getD (T i j) 0 + bs.getD i 0)) := by
  have hl := h.len
  refine ⟨by rw [List.length_set]; exact hl, fun x hx => ?_, fun s d hh hs => ?_⟩
  · rw [getD_setB _ _ _ _ (by omega), bdA_step]
    have h1 := h.bd x hx
    have h2 := h.bd (T i j) ht
    split <;> omega
  · rw [getD_setB _ _ _ _ (by omega)]
    have h2 := h.bd (T i j) ht
    by_cases e : s = i ∧ d = j
    · obtain ⟨rfl, rfl⟩ := e
      rw [if_pos rfl]; omega
    · have h3 := h.pos s d (by omega) hs
      split
      · rename_i e2
        rw [e2] at h3
        omega
      · exact h3
theorem AI.fin {n : Nat} {T : Nat → Nat → Nat} {bs : List Int} {k : Nat} {L : List Int} (q : QN n T) (h : AI n T bs (25 ^ k) n 0 L) (hb : BgP n k bs) (hn : 1 ≤ n ∧ n ≤ 5) : BgP n (k + 1) L := by
  refine ⟨h.len, fun x hx => ?_, fun _ x hx => ?_, fun e => by omega⟩
  · have h1 := h.bd x hx
    have h2 := bdA_le (25 ^ k) (i := n) (j := 0) (by omega)
    have h3 : 25 ^ (k + 1) = 25 * 25 ^ k := by rw [Nat.pow_succ, Nat.mul_comm]
    rw [h3]; omega
  · obtain ⟨d, hd, rfl⟩ := q.sur (y := 0) (x := x) (by omega) hx
    refine h.pos 0 d (.inl ⟨by omega, hd⟩) ?_
    by_cases e : k = 0
    · exact hb.st e
    · exact hb.pos (by omega) 0 (by omega)
theorem AI.small {n : Nat} {T : Nat → Nat → Nat} {bs : List Int} {K i j : Nat} {L : List Int} (h : AI n T bs K i j L) (hi : i * 5 + j ≤ 25) (hK : K ≤ 625) (x : Nat) (hx : x < n) : 0 ≤ L.getD x 0 ∧ L.getD x 0 ≤ 20000 := by
  have h1 := h.bd x hx
  have h2 := bdA_le K hi
  omega
theorem BgP.start (n : Nat) (hn : 1 ≤ n) : BgP n 0 ((List.replicate n 0).set 0 1) := by
  refine ⟨by simp, fun i hi => ?_, fun h => by omega, fun _ => ?_⟩
  · rw [getD_setB _ _ _ _ (by simp; omega)]
    split
    · simp
    · simp [hi]
  · rw [getD_setB _ _ _ _ (by simp; omega), if_pos rfl]; omega
theorem pow25 {k : Nat} (h : k ≤ 2) : 25 ^ k ≤ 625 := by
  have : k = 0 ∨ k = 1 ∨ k = 2 := by omega
  rcases this with rfl | rfl | rfl <;> decide
def BegPost (n place : Nat) (w : World) (e : Ending) (w' : World) : Prop := ∃ v bs, e = .returned v ∧ OI w.heap.size w' v bs ∧ BgP n place bs ∧ Below w.heap.size w w'
set_option maxHeartbeats 4000000 in
theorem begins_any (p n : Nat) (T : Nat → Nat → Nat) (q : QN n T) (w : World) (h : CE p n T w) (hn : 1 ≤ n ∧ n ≤ 5) (place : Nat) (hp : place ≤ 3) :
    Calls Try.prog 82 #[.pointer (some ⟨p, 0, none⟩), .int .i64 place] w (BegPost n place w) := by
  obtain ⟨n1, n5⟩ := hn
  have hn36 : n ≤ 36 := by omega
  have HCE := Lib.hid h
  have HF : Hid (∀ wx, Below w.heap.size w wx → wx.cell? ⟨p, 0, none⟩ = some (.int .i64 n) ∧ wx.cell? ⟨p, 1, none⟩ = some (.int .i64 n) ∧ wx.cell? ⟨p, 2, none⟩ = some (.int .i64 0)) := fun wx hb => by
    obtain ⟨a, b, c, _⟩ := (h.later hb).fields
    exact ⟨a, b, c⟩
  have HN : Hid (∀ wx k s d, Below w.heap.size w wx → k < 4 → s < n → d < n → Calls Try.prog 90 #[.pointer (some ⟨p, 0, none⟩), .int .i64 (k : Nat), .int .i64 (s : Nat), .int .i64 (d : Nat)] wx fun e w' => e = .returned (.int .i64 (T s d : Nat)) ∧ Drw wx w') := fun wx k s d hb hk hs hd =>
    cnext_any p n T wx (h.later hb) hn36 k s d hk hs hd
  obtain ⟨f0, f1, f2⟩ := HF.out w (Below.refl _ _)
  have HQ := Lib.hid q
  have HQB := Lib.hid q.bd
  clear h q
  go_enter Try.func82, Try.ntmps82
  go_wp2_with (at_make; refine wpl_make_i64 rfl _ _ rfl w.heap.size .i64 .i64 _ _ n rfl rfl rfl rfl (by omega) (Nat.le_refl _) ?_; intro w1 hown hgr hlt; have hb1 : Below w.heap.size w w1 := (Below.refl _ _).grown hgr (Nat.le_refl _) (by simp); obtain ⟨f0, f1, f2⟩ := HF.out w1 hb1; have c1 := hown.cell 0 (by simp; omega); have z1 := hown.frozen 0; have i1 : (0 : Int) < (n : Int) := by omega)
  have hst := (hown.stored 0 1).1
  have hb2 := hb1.setCell (p := ⟨w.heap.size, 0, none⟩) (Nat.le_refl _) (.int .i64 1)
  have HB0 := Lib.hid (BgP.start n n1)
  clear hown hgr hlt hb1 f0 f1 f2 c1 z1
  generalize (List.replicate n (0 : Int)).set 0 1 = bs0 at *
  generalize w1.setCell ⟨w.heap.size, 0, none⟩ (.int .i64 1) = w2 at *
  go_loopw [5, 23] (fun ov kv wr => ∃ (k : Nat) (bs : List Int), k ≤ place ∧ kv = .int .i64 k ∧ OI w.heap.size wr ov bs ∧ Hid (BgP n k bs) ∧ Below w.heap.size w wr) (fun _ kv _ => place - (intOf kv).toNat)
  case atStart => exact ⟨0, bs0, Nat.zero_le _, rfl, hst, HB0, hb2⟩
  case round =>
    clear hst hb2
    obtain ⟨k, bs, hk, rfl, ho, HBG, hb⟩ := hrel
    obtain ⟨wo, rfl⟩ : ∃ x, x = wr := ⟨_, rfl⟩
    by_cases hkl : k < place
    · have hbl := HBG.out.len
      have HCB : Hid (∀ wx i, Below wo.heap.size wo wx → i < n → ∃ z : Int, bs.getD i 0 = z ∧ (0 ≤ z ∧ z ≤ ((25 ^ k : Nat) : Int))) := fun wx i _ hi => ⟨_, rfl, HBG.out.bd i hi⟩
      rcases OK.shape ho with ⟨_, h0⟩ | ⟨g, cap, rfl, hB, hcap⟩
      · exfalso; rw [h0] at hbl; simp at hbl; omega
      rw [hbl] at ho ⊢
      have HOC : Hid (∀ wx i, Below wo.heap.size wo wx → i < n → wx.cell? ⟨g, i, none⟩ = some (.int .i64 (bs.getD i 0))) := fun wx i hbx hi => (ho.later hbx).cell i (by omega)
      obtain ⟨f0, f1, f2⟩ := HF.out wo hb
      have HHB := Lib.hid hb
      have hK := pow25 (k := k) (by omega)
      have HNB : Hid (∀ wx s d, Below wo.heap.size wo wx → s < n → d < n → Calls Try.prog 90 #[.pointer (some ⟨p, 0, none⟩), .int .i64 (k : Nat), .int .i64 (s : Nat), .int .i64 (d : Nat)] wx fun e w' => e = .returned (.int .i64 (T s d : Nat)) ∧ Drw wx w') := fun wx s d hbx hs hd =>
        HN.out wx k s d (hb.trans (hbx.mono hb.size)) (by omega) hs hd
      have HFB : Hid (∀ wx, Below wo.heap.size wo wx → wx.cell? ⟨p, 0, none⟩ = some (.int .i64 n)) := fun wx hbx => (HF.out wx (hb.trans (hbx.mono hb.size))).1
      have hwz := hb.size
      clear ho
      go_wp2_with (at_make; refine wpl_make_i64 rfl _ _ rfl wo.heap.size .i64 .i64 _ _ n rfl rfl rfl rfl (by omega) (Nat.le_refl _) ?_; intro w3 hown hgr hlt; have hb1 : Below wo.heap.size wo w3 := (Below.refl _ _).grown hgr (Nat.le_refl _) (by simp))
      clear hgr hlt f0 f1 f2
      go_loopw [33] (fun iv wx => ∃ (i : Nat) (L : List Int), i ≤ n ∧ iv = .int .i64 i ∧ OI wo.heap.size wx (.slice (some ⟨wo.heap.size, 0, none⟩) n n) L ∧ Hid (AI n T bs (25 ^ k) i 0 L) ∧ Below wo.heap.size wo wx) (fun iv _ => n - (intOf iv).toNat)
      case atStart => exact ⟨0, List.replicate n 0, Nat.zero_le _, rfl, hown, Lib.hid (AI.zero n T bs _), hb1⟩
      case round =>
        clear hown hb1
        obtain ⟨i, L, hi, rfl, ho, HA, hbx⟩ := hrel
        obtain ⟨wx, rfl⟩ : ∃ x, x = wr := ⟨_, rfl⟩
        by_cases hin : i < n
        · have c1 := HOC.out wx i hbx hin
          have f0 := HFB.out wx hbx
          obtain ⟨z, hz, hz2⟩ := HCB.out wx i hbx hin
          have HZ := Lib.hid hz
          rw [hz] at c1
          clear hz
          go_wp2_with fail
          go_loopw [42] (fun jv wy => ∃ (j : Nat) (L : List Int), j ≤ n ∧ jv = .int .i64 j ∧ OI wo.heap.size wy (.slice (some ⟨wo.heap.size, 0, none⟩) n n) L ∧ Hid (AI n T bs (25 ^ k) i j L) ∧ Below wo.heap.size wo wy) (fun jv _ => n - (intOf jv).toNat)
          case atStart => exact ⟨0, L, Nat.zero_le _, rfl, ho, HA, hbx⟩
          case round =>
            clear c1 f0 ho HA
            obtain ⟨j, L2, hj, rfl, ho, HA, hby⟩ := hrel
            obtain ⟨wy, rfl⟩ : ∃ x, x = wr := ⟨_, rfl⟩
            by_cases hjn : j < n
            · have hTl := HQB.out i j hin hjn
              have hS := HA.out.small (by omega) hK (T i j) hTl
              have hLl := HA.out.len
              have HA2 := Lib.hid (HA.out.step hin hjn (by rw [HZ.out]; exact hz2) hTl)
              go_wp2_with fail
              refine (HNB.out wy i j hby hin hjn).mono ?_
              rintro e w4 ⟨rfl, hd⟩
              have ho4 := ho.later hd.below
              have c2 := ho4.cell (T i j) (by omega)
              have z2 := ho4.frozen (T i j)
              have hst := (ho4.stored (T i j) (L2.getD (T i j) 0 + z)).1
              have hb5 : Below wo.heap.size wo (w4.setCell ⟨wo.heap.size, T i j, none⟩ (.int .i64 (L2.getD (T i j) 0 + z))) := (hby.trans (hd.below.mono hby.size)).setCell (p := ⟨wo.heap.size, T i j, none⟩) (Nat.le_refl _) _
              rw [HZ.out] at HA2
              have hTi : (T i j : Int) < (n : Int) := by omega
              generalize T i j = tt at *
              generalize hlz : L2.getD tt 0 = lz at *
              have hwr : IntKind.i64.wrap (lz + z) = lz + z := IntWalk.i64_in _ (by omega)
              have HO5 := Lib.hid hst
              clear ho ho4 hst hd hlz
              go_wp2_with fail
              go_roundw
              case rel => exact ⟨j + 1, _, by omega, by go_num, HO5.out, HA2, hb5⟩
              case measure => first | (simp [intOf]; done) | (simp [intOf]; omega)
            · obtain rfl : j = n := by omega
              have HA2 := Lib.hid (HA.out.row n5)
              go_wp2_with fail
              go_roundw
              case rel => exact ⟨i + 1, L2, by omega, by go_num, ho, HA2, hby⟩
              case measure => first | (simp [intOf]; done) | (simp [intOf]; omega)
        · obtain rfl : i = n := by omega
          have HB2 := Lib.hid (HA.out.fin HQ.out HBG.out ⟨n1, n5⟩)
          have hbb : Below w.heap.size w wx := HHB.out.trans (hbx.mono HHB.out.size)
          have ho2 := OK.mono ho hwz
          go_wp2_with fail
          go_roundw
          case rel => exact ⟨k + 1, L, by omega, by go_num, ho2, HB2, hbb⟩
          case measure => first | (simp [intOf]; done) | (simp [intOf]; omega)
    · obtain rfl : k = place := by omega
      obtain ⟨oa, oc, rfl⟩ := ho.read.slice
      have HFI : Hid (BegPost n k w (.returned (.slice oa bs.length oc)) wo) := ⟨_, _, rfl, ho, HBG.out, hb⟩
      go_wp2_with fail
      go_ret
      exact HFI.out
/-- A grid that the call builds: its first k rows lie there. -/
structure GB (B G n k : Nat) (H : Nat → Nat) (t : Nat → Nat → Int) (w : World) : Prop where
  gb : B ≤ G ∧ G < w.heap.size
  hb : ∀ i, i < k → G < H i ∧ H i < w.heap.size
  inj : ∀ i j, i < k → j < k → i ≠ j → H i ≠ H j
  row : ∀ i, i < k → w.cell? ⟨G, i, none⟩ = some (.slice (some ⟨H i, 0, none⟩) n n)
  nul : ∀ i, i < n → ∃ v, w.cell? ⟨G, i, none⟩ = some v
  frG : ∀ i, i < n → w.frozen? ⟨G, i, none⟩ = false
  cell : ∀ i j, i < k → j < n → w.cell? ⟨H i, j, none⟩ = some (.int .i64 (t i j))
  fr : ∀ i j, i < k → j < n → w.frozen? ⟨H i, j, none⟩ = false
section
variable {B G n k : Nat} {H : Nat → Nat} {t : Nat → Nat → Int} {w w' : World}
theorem GB.later (h : GB B G n k H t w) (hb : Below w.heap.size w w') : GB B G n k H t w' := by
  have e : ∀ q o, q < w.heap.size → w'.cell? ⟨q, o, none⟩ = w.cell? ⟨q, o, none⟩ := fun q o hq => hb.cell (p := ⟨q, o, none⟩) hq
  have f : ∀ q o, q < w.heap.size → w'.frozen? ⟨q, o, none⟩ = w.frozen? ⟨q, o, none⟩ := fun q o hq => by unfold World.frozen?; simp only [hb.block q hq]
  have hs := hb.size
  exact ⟨⟨h.gb.1, by have := h.gb.2; omega⟩, fun i hi => ⟨(h.hb i hi).1, by have := (h.hb i hi).2; omega⟩, h.inj, fun i hi => (e _ _ h.gb.2).trans (h.row i hi), fun i hi => by obtain ⟨v, hv⟩ := h.nul i hi; exact ⟨v, (e _ _ h.gb.2).trans hv⟩,
    fun i hi => (f _ _ h.gb.2).trans (h.frG i hi), fun i j hi hj => (e _ _ (h.hb i hi).2).trans (h.cell i j hi hj), fun i j hi hj => (f _ _ (h.hb i hi).2).trans (h.fr i j hi hj)⟩
theorem GB.congr {t' : Nat → Nat → Int} (h : GB B G n k H t w) (e : ∀ i j, i < k → j < n → t i j = t' i j) : GB B G n k H t' w :=
  ⟨h.gb, h.hb, h.inj, h.row, h.nul, h.frG, fun i j hi hj => by rw [← e i j hi hj]; exact h.cell i j hi hj, h.fr⟩
theorem GB.monoB {B' : Nat} (h : GB B G n k H t w) (hB : B' ≤ B) : GB B' G n k H t w := ⟨⟨by have := h.gb.1; omega, h.gb.2⟩, h.hb, h.inj, h.row, h.nul, h.frG, h.cell, h.fr⟩
theorem GB.made (H : Nat → Nat) (t : Nat → Nat → Int) (ho : OV 29 B w (.slice (some ⟨G, 0, none⟩) n n) (List.replicate n nl)) (hG : B ≤ G ∧ G < w.heap.size) : GB B G n 0 H t w := by
  refine ⟨hG, fun i hi => by omega, fun i j hi => by omega, fun i hi => by omega, fun i hi => ?_, fun i hi => ho.frozen i, fun i j hi => by omega, fun i j hi => by omega⟩
  have := ho.cell i (by simpa using hi)
  exact ⟨_, this.trans (List.getElem?_eq_getElem (by simpa using hi))⟩
theorem GB.store (h : GB B G n k H t w) (x y : Nat) (hx : x < k) (hy : y < n) (z : Int) : GB B G n k H (upd t x y z) (w.setCell ⟨H x, y, none⟩ (.int .i64 z)) := by
  have hbx := h.hb x hx
  have hsz : (w.setCell ⟨H x, y, none⟩ (.int .i64 z)).heap.size = w.heap.size := by simp
  have hot : ∀ q, q ≠ H x → (w.setCell ⟨H x, y, none⟩ (.int .i64 z)).heap[q]? = w.heap[q]? := fun q hq => heap_setCell_other _ _ _ _ hq
  have hG : ∀ i, (w.setCell ⟨H x, y, none⟩ (.int .i64 z)).cell? ⟨G, i, none⟩ = w.cell? ⟨G, i, none⟩ := fun i => by
    have := hot G (by omega)
    unfold World.cell?
    simp only [this]
  refine ⟨by rw [hsz]; exact h.gb, by rw [hsz]; exact h.hb, h.inj, fun i hi => (hG i).trans (h.row i hi), fun i hi => by rw [hG]; exact h.nul i hi, fun i hi => by rw [World.frozen?_setCell]; exact h.frG i hi, fun i j hi hj => ?_, fun i j hi hj => by rw [World.frozen?_setCell]; exact h.fr i j hi hj⟩
  by_cases e : i = x
  · subst e
    by_cases ey : j = y
    · subst ey
      rw [upd_same]
      exact World.cell?_setCell_same (h := h.cell i j hi hj) ..
    · rw [upd_other _ _ (by omega), ← h.cell i j hi hj]
      exact World.cell?_setCell_other (h := by intro e2; simp only [Addr.mk.injEq, and_true] at e2; omega) ..
  · rw [upd_other _ _ (by omega), ← h.cell i j hi hj]
    have := hot (H i) (h.inj i x hi hx e)
    unfold World.cell?
    simp only [this]
/-- A row of zeros is put in. -/
theorem GB.push {g : Nat} (h : GB B G n k H t w) (hb : Below w.heap.size w w') (ho : OI w.heap.size w' (.slice (some ⟨g, 0, none⟩) n n) (List.replicate n 0)) (hg : w.heap.size ≤ g ∧ g < w'.heap.size) (hk : k < n) :
    GB B G n (k + 1) (fun i => if i = k then g else H i) (fun i j => if i = k then 0 else t i j) (w'.setCell ⟨G, k, none⟩ (.slice (some ⟨g, 0, none⟩) n n)) := by
  have h' := h.later hb
  have hGw := h.gb.2
  have hsz : (w'.setCell ⟨G, k, none⟩ (.slice (some ⟨g, 0, none⟩) n n)).heap.size = w'.heap.size := by simp
  have hot : ∀ q o, q ≠ G → (w'.setCell ⟨G, k, none⟩ (.slice (some ⟨g, 0, none⟩) n n)).cell? ⟨q, o, none⟩ = w'.cell? ⟨q, o, none⟩ := fun q o hq => by
    have := heap_setCell_other w' ⟨G, k, none⟩ q (.slice (some ⟨g, 0, none⟩) n n) hq
    unfold World.cell?
    simp only [this]
  have hoG : ∀ i, i ≠ k → (w'.setCell ⟨G, k, none⟩ (.slice (some ⟨g, 0, none⟩) n n)).cell? ⟨G, i, none⟩ = w'.cell? ⟨G, i, none⟩ := fun i hi =>
    World.cell?_setCell_other (h := by intro e2; simp only [Addr.mk.injEq, and_true] at e2; omega) ..
  obtain ⟨v0, hv0⟩ := h'.nul k hk
  have hsame : (w'.setCell ⟨G, k, none⟩ (.slice (some ⟨g, 0, none⟩) n n)).cell? ⟨G, k, none⟩ = some (.slice (some ⟨g, 0, none⟩) n n) := World.cell?_setCell_same (h := hv0) ..
  refine ⟨by rw [hsz]; exact h'.gb, fun i hi => ?_, fun i j hi hj hij => ?_, fun i hi => ?_, fun i hi => ?_, fun i hi => by rw [World.frozen?_setCell]; exact h'.frG i hi, fun i j hi hj => ?_, fun i j hi hj => ?_⟩
  · rw [hsz]
    split
    · omega
    · exact h'.hb i (by omega)
  · have f1 := fun q (hq : q < k) => h.hb q hq
    split <;> split <;> rename_i e1 e2
    · omega
    · have := (f1 j (by omega)).2; omega
    · have := (f1 i (by omega)).2; omega
    · exact h.inj i j (by omega) (by omega) hij
  · split
    · rename_i e; subst e; exact hsame
    · rename_i e; exact (hoG i e).trans (h'.row i (by omega))
  · by_cases e : i = k
    · subst e; exact ⟨_, hsame⟩
    · rw [hoG i e]; exact h'.nul i hi
  · split
    · rename_i e
      rw [hot g j (by omega), ho.cell j (by simpa using hj)]
      simp [hj]
    · have := (h.hb i (by omega)).1
      rw [hot (H i) j (by omega)]; exact h'.cell i j (by omega) hj
  · rw [World.frozen?_setCell]
    split
    · exact ho.frozen j
    · exact h'.fr i j (by omega) hj
end
/-- What the words behind a place are good for. -/
structure BoP (n r : Nat) (t : Nat → Nat → Int) : Prop where
  bd : ∀ i j, i < n → j < n → 0 ≤ t i j ∧ t i j ≤ ((5 ^ r : Nat) : Int)
  off : ∀ i j, i < n → j < n → i ≠ j → t i j = 0
  pos : 1 ≤ r → ∀ i, i < n → 1 ≤ t i i
  st : r = 0 → 1 ≤ t 0 0
theorem BoP.some {n r : Nat} {t : Nat → Nat → Int} (h : BoP n r t) (hn : 1 ≤ n) : ∃ e, e < n ∧ 1 ≤ t e e := by
  by_cases e : r = 0
  · exact ⟨0, by omega, h.st e⟩
  · exact ⟨0, by omega, h.pos (by omega) 0 (by omega)⟩
/-- An entry that is done. -/
def FV (K i j : Nat) (v : Int) : Prop := 0 ≤ v ∧ v ≤ ((5 * K : Nat) : Int) ∧ (i ≠ j → v = 0) ∧ (i = j → 1 ≤ v)
def BD (n K i : Nat) (b : Nat → Nat → Int) : Prop := ∀ x y, x < i → y < n → FV K x y (b x y)
structure BI (n K i j : Nat) (b : Nat → Nat → Int) : Prop where
  done : ∀ x y, (x < i ∧ y < n ∨ x = i ∧ y < j) → FV K x y (b x y)
  zero : ∀ y, j ≤ y → y < n → b i y = 0
structure BJ (n : Nat) (T : Nat → Nat → Nat) (t : Nat → Nat → Int) (K i j d : Nat) (b : Nat → Nat → Int) : Prop where
  done : ∀ x y, (x < i ∧ y < n ∨ x = i ∧ y < j) → FV K x y (b x y)
  zero : ∀ y, j < y → y < n → b i y = 0
  bd : 0 ≤ b i j ∧ b i j ≤ ((d * K : Nat) : Int)
  off : i ≠ j → b i j = 0
  pos : i = j → ∀ e, e < d → 1 ≤ t (T i e) (T i e) → 1 ≤ b i j
theorem BD.push {n K i : Nat} {b : Nat → Nat → Int} (h : BD n K i b) : BI n K i 0 (fun x y => if x = i then 0 else b x y) := by
  refine ⟨fun x y hh => ?_, fun y _ _ => by rw [if_pos rfl]⟩
  rw [if_neg (by omega)]
  exact h x y (by omega) (by omega)
theorem BI.row {n K i : Nat} {b : Nat → Nat → Int} (h : BI n K i n b) : BD n K (i + 1) b := fun x y hx hy => h.done x y (by omega)
theorem BI.to {n : Nat} (T : Nat → Nat → Nat) (t : Nat → Nat → Int) {K i j : Nat} {b : Nat → Nat → Int} (h : BI n K i j b) (hj : j < n) : BJ n T t K i j 0 b := by
  have h0 := h.zero j (Nat.le_refl _) hj
  exact ⟨h.done, fun y h1 h2 => h.zero y (by omega) h2, by rw [h0]; simp, fun _ => h0, fun _ e he => by omega⟩
theorem BJ.step {n r : Nat} {T : Nat → Nat → Nat} {t : Nat → Nat → Int} {i j d : Nat} {b : Nat → Nat → Int} (q : QN n T) (hB : BoP n r t) (h : BJ n T t (5 ^ r) i j d b) (hi : i < n) (hj : j < n) (hd : d < n) :
    BJ n T t (5 ^ r) i j (d + 1) (upd b i j (b i j + t (T i d) (T j d))) := by
  have h1 := q.bd i d hi hd
  have h2 := q.bd j d hj hd
  have h3 := hB.bd _ _ h1 h2
  have hb := h.bd
  refine ⟨fun x y hh => ?_, fun y h4 h5 => ?_, ?_, fun hne => ?_, fun e f hf h6 => ?_⟩
  · rw [upd_other _ _ (by omega)]; exact h.done x y hh
  · rw [upd_other _ _ (by omega)]; exact h.zero y h4 h5
  · rw [upd_same, Nat.succ_mul]
    omega
  · rw [upd_same, h.off hne, hB.off _ _ h1 h2 (fun e => hne (q.col d i j hd hi hj e))]; rfl
  · rw [upd_same]
    by_cases e2 : f = d
    · subst e2 e; omega
    · have := h.pos e f (by omega) h6; omega
theorem BJ.fin {n r : Nat} {T : Nat → Nat → Nat} {t : Nat → Nat → Int} {i j : Nat} {b : Nat → Nat → Int} (q : QN n T) (hB : BoP n r t) (h : BJ n T t (5 ^ r) i j n b) (hi : i < n) (hn : 1 ≤ n ∧ n ≤ 5) : BI n (5 ^ r) i (j + 1) b := by
  refine ⟨fun x y hh => ?_, fun y h1 h2 => h.zero y (by omega) h2⟩
  by_cases e : x = i ∧ y = j
  · obtain ⟨rfl, rfl⟩ := e
    have hb := h.bd
    have hm : n * 5 ^ r ≤ 5 * 5 ^ r := Nat.mul_le_mul_right _ hn.2
    refine ⟨hb.1, by omega, h.off, fun e => ?_⟩
    obtain ⟨e0, he0, h1⟩ := hB.some hn.1
    obtain ⟨d, hd, hde⟩ := q.sur hi he0
    exact h.pos e d hd (by rw [hde]; exact h1)
  · exact h.done x y (by omega)
theorem BD.fin {n r : Nat} {b : Nat → Nat → Int} (h : BD n (5 ^ r) n b) : BoP n (r + 1) b := by
  have hp : 5 ^ (r + 1) = 5 * 5 ^ r := by rw [Nat.pow_succ, Nat.mul_comm]
  refine ⟨fun i j hi hj => ?_, fun i j hi hj hne => (h i j hi hj).2.2.1 hne, fun _ i hi => (h i i hi hi).2.2.2 rfl, fun e => by omega⟩
  obtain ⟨h1, h2, _⟩ := h i j hi hj
  rw [hp]; exact ⟨h1, h2⟩
theorem BJ.small {n r : Nat} {T : Nat → Nat → Nat} {t : Nat → Nat → Int} {i j d : Nat} {b : Nat → Nat → Int} (h : BJ n T t (5 ^ r) i j d b) (hd : d ≤ 5) (hr : 5 ^ r ≤ 25) : 0 ≤ b i j ∧ b i j ≤ 1000 := by
  have h1 := h.bd
  have h2 : d * 5 ^ r ≤ 5 * 25 := Nat.mul_le_mul hd hr
  omega
theorem BoP.start (n : Nat) (hn : 1 ≤ n) : BoP n 0 (upd (fun _ _ => 0) 0 0 1) := by
  refine ⟨fun i j hi hj => ?_, fun i j hi hj hne => ?_, fun h => by omega, fun _ => by rw [upd_same]; omega⟩
  · unfold upd; split <;> simp
  · rw [upd_other _ _ (by omega)]
theorem pow5 {r : Nat} (h : r ≤ 2) : 5 ^ r ≤ 25 := by
  have : r = 0 ∨ r = 1 ∨ r = 2 := by omega
  rcases this with rfl | rfl | rfl <;> decide
def BotPost (n r : Nat) (w : World) (e : Ending) (w' : World) : Prop := ∃ G H t, e = .returned (.slice (some ⟨G, 0, none⟩) n n) ∧ GB w.heap.size G n n H t w' ∧ BoP n r t ∧ Below w.heap.size w w'
set_option maxRecDepth 100000 in
set_option maxHeartbeats 8000000 in
theorem both_any (p n : Nat) (T : Nat → Nat → Nat) (q : QN n T) (w : World) (h : CE p n T w) (hn : 1 ≤ n ∧ n ≤ 5) (place : Nat) (hp : 1 ≤ place ∧ place ≤ 4) :
    Calls Try.prog 83 #[.pointer (some ⟨p, 0, none⟩), .int .i64 place] w (BotPost n (4 - place) w) := by
  obtain ⟨n1, n5⟩ := hn
  have hn36 : n ≤ 36 := by omega
  have HF : Hid (∀ wx, Below w.heap.size w wx → wx.cell? ⟨p, 0, none⟩ = some (.int .i64 n) ∧ wx.cell? ⟨p, 1, none⟩ = some (.int .i64 n) ∧ wx.cell? ⟨p, 3, none⟩ = some (.int .i64 0) ∧ ∃ g o C, wx.cell? ⟨p, 5, none⟩ = some (.slice (some ⟨g, o, none⟩) 4 C)) := fun wx hb => by
    obtain ⟨a, b, _, c, d, _⟩ := (h.later hb).fields
    exact ⟨a, b, c, d⟩
  have HN : Hid (∀ wx k s d, Below w.heap.size w wx → k < 4 → s < n → d < n → Calls Try.prog 90 #[.pointer (some ⟨p, 0, none⟩), .int .i64 (k : Nat), .int .i64 (s : Nat), .int .i64 (d : Nat)] wx fun e w' => e = .returned (.int .i64 (T s d : Nat)) ∧ Drw wx w') := fun wx k s d hb hk hs hd =>
    cnext_any p n T wx (h.later hb) hn36 k s d hk hs hd
  obtain ⟨f0, f1, f3, _⟩ := HF.out w (Below.refl _ _)
  have HQ := Lib.hid q
  have HQB := Lib.hid q.bd
  clear h q f0 f3
  go_enter Try.func83, Try.ntmps83
  go_wp2_with (at_make; refine wpl_make Try.underlying97 info_row rfl (by omega) rfl _ _ rfl w.heap.size .i64 .i64 _ _ n rfl rfl rfl rfl (by omega) (Nat.le_refl _) ?_; intro w1 hown hgr hlt)
  have hb1 : Below w.heap.size w w1 := (Below.refl _ _).grown hgr (Nat.le_refl _) (by simp)
  have hg1 : GB w.heap.size w.heap.size n 0 (fun _ => 0) (fun _ _ => 0) w1 := GB.made _ _ hown ⟨Nat.le_refl _, hlt⟩
  clear hgr hlt f1 hown
  go_loopw [19] (fun iv wr => ∃ (k : Nat) (H : Nat → Nat), k ≤ n ∧ iv = .int .i64 k ∧ GB w.heap.size w.heap.size n k H (fun _ _ => 0) wr ∧ Below w.heap.size w wr) (fun iv _ => n - (intOf iv).toNat)
  case atStart => exact ⟨0, fun _ => 0, Nat.zero_le _, rfl, hg1, hb1⟩
  case round =>
    clear hg1 hb1
    obtain ⟨k, H, hk, rfl, hg, hb⟩ := hrel
    obtain ⟨wo, rfl⟩ : ∃ x, x = wr := ⟨_, rfl⟩
    have hz := hb.size
    by_cases hkn : k < n
    · obtain ⟨_, f1, _, _⟩ := HF.out wo hb
      have HG := Lib.hid hg
      have hki : (k : Int) < (n : Int) := by omega
      go_wp2_with (at_make; refine wpl_make_i64 rfl _ _ rfl wo.heap.size .i64 .i64 _ _ n rfl rfl rfl rfl (by omega) (Nat.le_refl _) ?_; intro w3 hown hgr hlt; have hb3 : Below wo.heap.size wo w3 := (Below.refl _ _).grown hgr (Nat.le_refl _) (by simp); obtain ⟨v0, cz⟩ := (HG.out.later hb3).nul k hkn; have fz := (HG.out.later hb3).frG k hkn)
      have hp2 := (HG.out.push hb3 hown ⟨Nat.le_refl _, hlt⟩ hkn).congr (t' := fun _ _ => 0) fun i j _ _ => by simp
      have hb5 : Below w.heap.size w (w3.setCell ⟨w.heap.size, k, none⟩ (.slice (some ⟨wo.heap.size, 0, none⟩) n n)) := (hb.trans (hb3.mono hz)).setCell (p := ⟨w.heap.size, k, none⟩) (Nat.le_refl _) _
      clear hg f1 hown hgr cz fz
      go_roundw
      case rel => exact ⟨k + 1, _, by omega, by go_num, hp2, hb5⟩
      case measure => first | (simp [intOf]; done) | (simp [intOf]; omega)
    · obtain rfl : n = k := by omega
      obtain ⟨f0, f1, f3, g5, o5, C5, f5⟩ := HF.out wo hb
      have c1 := hg.row 0 (by omega)
      have c2 := hg.cell 0 0 (by omega) (by omega)
      have z2 := hg.fr 0 0 (by omega) (by omega)
      have i1 : (0 : Int) < (n : Int) := by omega
      have hst := hg.store 0 0 (by omega) (by omega) 1
      have hb2 := hb.setCell (p := ⟨H 0, 0, none⟩) (show w.heap.size ≤ H 0 from by have := hg.hb 0 (by omega); omega) (.int .i64 1)
      have HST : Hid (∀ wx, Drw (wo.setCell ⟨H 0, 0, none⟩ (.int .i64 1)) wx → GB w.heap.size w.heap.size n n H (upd (fun _ _ => 0) 0 0 1) wx ∧ Below w.heap.size w wx) := fun wx hd =>
        ⟨hst.later hd.below, hb2.trans (hd.below.mono hb2.size)⟩
      have HB0 := Lib.hid (BoP.start n n1)
      obtain ⟨h0, hh0⟩ : ∃ x, x = H 0 := ⟨_, rfl⟩
      rw [← hh0] at c1 c2 z2 HST
      clear hg hst hb2 hh0
      go_wp2_with fail
      go_region
      go_wp2_with fail
      obtain ⟨hgA, hbA⟩ := HST.out (wo.setCell ⟨h0, 0, none⟩ (.int .i64 1)).drew ⟨1, rfl⟩
      clear HST f0 f1 f3 f5 c1 c2 z2 hz hb
      generalize (wo.setCell ⟨h0, 0, none⟩ (.int .i64 1)).drew = wA at *
      go_loopw [5, 7] (fun ov kv wr => ∃ (k r G : Nat) (H : Nat → Nat) (t : Nat → Nat → Int), ov = .slice (some ⟨G, 0, none⟩) n n ∧ kv = .int .i64 k ∧ k + 1 + r = 4 ∧ place ≤ k + 1 ∧ GB w.heap.size G n n H t wr ∧ Hid (BoP n r t) ∧ Below w.heap.size w wr) (fun _ kv _ => (intOf kv).toNat)
      case atStart => exact ⟨3, 0, w.heap.size, H, _, rfl, rfl, rfl, by omega, hgA, HB0, hbA⟩
      case round =>
        clear hgA hbA HB0
        obtain ⟨k, r, G, Ho, t, rfl, rfl, hkr, hpk, hg, HBP, hb⟩ := hrel
        obtain ⟨wo, rfl⟩ : ∃ x, x = wr := ⟨_, rfl⟩
        have hz := hb.size
        by_cases hkp : place ≤ k
        · have hK := pow5 (r := r) (by omega)
          have HFB : Hid (∀ wx, Below wo.heap.size wo wx → wx.cell? ⟨p, 0, none⟩ = some (.int .i64 n) ∧ wx.cell? ⟨p, 1, none⟩ = some (.int .i64 n)) := fun wx hbx => by
            obtain ⟨a, b, _⟩ := HF.out wx (hb.trans (hbx.mono hb.size))
            exact ⟨a, b⟩
          have HNB : Hid (∀ wx s d, Below wo.heap.size wo wx → s < n → d < n → Calls Try.prog 90 #[.pointer (some ⟨p, 0, none⟩), .int .i64 (k : Nat), .int .i64 (s : Nat), .int .i64 (d : Nat)] wx fun e w' => e = .returned (.int .i64 (T s d : Nat)) ∧ Drw wx w') := fun wx s d hbx hs hd =>
            HN.out wx k s d (hb.trans (hbx.mono hb.size)) (by omega) hs hd
          have HOC : Hid (∀ wx s d, Below wo.heap.size wo wx → s < n → d < n → wx.cell? ⟨G, s, none⟩ = some (.slice (some ⟨Ho s, 0, none⟩) n n) ∧ wx.cell? ⟨Ho s, d, none⟩ = some (.int .i64 (t s d))) := fun wx s d hbx hs hd =>
            ⟨(hg.later hbx).row s hs, (hg.later hbx).cell s d hs hd⟩
          have HHB := Lib.hid hb
          obtain ⟨_, f1⟩ := HFB.out wo (Below.refl _ _)
          clear hg hb
          go_wp2_with (at_make; refine wpl_make Try.underlying97 info_row rfl (by omega) rfl _ _ rfl wo.heap.size .i64 .i64 _ _ n rfl rfl rfl rfl (by omega) (Nat.le_refl _) ?_; intro w1 hown hgr hlt; have hb1 : Below wo.heap.size wo w1 := (Below.refl _ _).grown hgr (Nat.le_refl _) (by simp); obtain ⟨_, f1⟩ := HFB.out w1 hb1)
          have hg1 : GB wo.heap.size wo.heap.size n 0 (fun _ => 0) (fun _ _ => 0) w1 := GB.made _ _ hown ⟨Nat.le_refl _, hlt⟩
          clear hgr hlt f1 hown
          go_loopw [63] (fun iv wx => ∃ (i : Nat) (H : Nat → Nat) (b : Nat → Nat → Int), i ≤ n ∧ iv = .int .i64 i ∧ GB wo.heap.size wo.heap.size n i H b wx ∧ Hid (BD n (5 ^ r) i b) ∧ Below wo.heap.size wo wx) (fun iv _ => n - (intOf iv).toNat)
          case atStart => exact ⟨0, fun _ => 0, fun _ _ => 0, Nat.zero_le _, rfl, hg1, Lib.hid (fun x y h => by omega), hb1⟩
          case round =>
            clear hg1 hb1
            obtain ⟨i, H, b, hi, rfl, hg, HBD, hbx⟩ := hrel
            obtain ⟨wx, rfl⟩ : ∃ x, x = wr := ⟨_, rfl⟩
            have hzx := hbx.size
            by_cases hin : i < n
            · have HG := Lib.hid hg
              have hii : (i : Int) < (n : Int) := by omega
              obtain ⟨_, f1⟩ := HFB.out wx hbx
              clear hg
              have HPU : Hid (∀ w3, Below wx.heap.size wx w3 → OI wx.heap.size w3 (.slice (some ⟨wx.heap.size, 0, none⟩) n n) (List.replicate n 0) → wx.heap.size < w3.heap.size →
                  (∃ v0, w3.cell? ⟨wo.heap.size, i, none⟩ = some v0) ∧ w3.frozen? ⟨wo.heap.size, i, none⟩ = false ∧ w3.cell? ⟨p, 1, none⟩ = some (.int .i64 n) ∧ (w3.setCell ⟨wo.heap.size, i, none⟩ (.slice (some ⟨wx.heap.size, 0, none⟩) n n)).cell? ⟨p, 1, none⟩ = some (.int .i64 n) ∧
                  (∃ H' b', GB wo.heap.size wo.heap.size n (i + 1) H' b' (w3.setCell ⟨wo.heap.size, i, none⟩ (.slice (some ⟨wx.heap.size, 0, none⟩) n n)) ∧ Hid (BI n (5 ^ r) i 0 b')) ∧ Below wo.heap.size wo (w3.setCell ⟨wo.heap.size, i, none⟩ (.slice (some ⟨wx.heap.size, 0, none⟩) n n))) := fun w3 hb3 hown hlt => by
                have hb4 := hbx.trans (hb3.mono hzx)
                have hb5 : Below wo.heap.size wo (w3.setCell ⟨wo.heap.size, i, none⟩ (.slice (some ⟨wx.heap.size, 0, none⟩) n n)) := hb4.setCell (p := ⟨wo.heap.size, i, none⟩) (Nat.le_refl _) _
                exact ⟨(HG.out.later hb3).nul i hin, (HG.out.later hb3).frG i hin, (HFB.out w3 hb4).2, (HFB.out _ hb5).2, ⟨_, _, HG.out.push hb3 hown ⟨Nat.le_refl _, hlt⟩ hin, HBD.out.push⟩, hb5⟩
              go_wp2_with (at_make; refine wpl_make_i64 rfl _ _ rfl wx.heap.size .i64 .i64 _ _ n rfl rfl rfl rfl (by omega) (Nat.le_refl _) ?_; intro w3 hown hgr hlt; obtain ⟨⟨v0, cz⟩, fz, f1a, f1b, ⟨H', b', hg5, HBI⟩, hb5⟩ := HPU.out w3 ((Below.refl _ _).grown hgr (Nat.le_refl _) (by simp)) hown hlt)
              clear hown hgr hlt cz fz f1 f1a f1b HPU HG HBD hbx hzx
              generalize w3.setCell ⟨wo.heap.size, i, none⟩ (.slice (some ⟨wx.heap.size, 0, none⟩) n n) = w5 at *
              go_loopw [78] (fun jv wy => ∃ (j : Nat) (b : Nat → Nat → Int), j ≤ n ∧ jv = .int .i64 j ∧ GB wo.heap.size wo.heap.size n (i + 1) H' b wy ∧ Hid (BI n (5 ^ r) i j b) ∧ Below wo.heap.size wo wy) (fun jv _ => n - (intOf jv).toNat)
              case atStart => exact ⟨0, b', Nat.zero_le _, rfl, hg5, HBI, hb5⟩
              case round =>
                clear hg5 HBI hb5
                obtain ⟨j, b2, hj, rfl, hg, HBI, hby⟩ := hrel
                obtain ⟨wy, rfl⟩ : ∃ x, x = wr := ⟨_, rfl⟩
                by_cases hjn : j < n
                · have HBJ := Lib.hid (HBI.out.to T t hjn)
                  obtain ⟨f0, _⟩ := HFB.out wy hby
                  go_wp2_with fail
                  go_loopw [85] (fun dv wz => ∃ (d : Nat) (b : Nat → Nat → Int), d ≤ n ∧ dv = .int .i64 d ∧ GB wo.heap.size wo.heap.size n (i + 1) H' b wz ∧ Hid (BJ n T t (5 ^ r) i j d b) ∧ Below wo.heap.size wo wz) (fun dv _ => n - (intOf dv).toNat)
                  case atStart => exact ⟨0, b2, Nat.zero_le _, rfl, hg, HBJ, hby⟩
                  case round =>
                    clear hg HBI hby HBJ f0
                    obtain ⟨d, b3, hd, rfl, hg, HBJ, hbz⟩ := hrel
                    obtain ⟨wz, rfl⟩ : ∃ x, x = wr := ⟨_, rfl⟩
                    by_cases hdn : d < n
                    · have hta := HQB.out i d hin hdn
                      have htb := HQB.out j d hjn hdn
                      have hsm := HBJ.out.small (by omega) hK
                      have hbo := HBP.out.bd _ _ hta htb
                      have hB2 := Lib.hid (HBJ.out.step HQ.out HBP.out hin hjn hdn)
                      have hHi := hg.hb i (by omega)
                      have HST : Hid (∀ w', Drw wz w' → w'.cell? ⟨wo.heap.size, i, none⟩ = some (.slice (some ⟨H' i, 0, none⟩) n n) ∧ w'.cell? ⟨G, T i d, none⟩ = some (.slice (some ⟨Ho (T i d), 0, none⟩) n n) ∧ w'.cell? ⟨Ho (T i d), T j d, none⟩ = some (.int .i64 (t (T i d) (T j d))) ∧ w'.cell? ⟨H' i, j, none⟩ = some (.int .i64 (b3 i j)) ∧ w'.frozen? ⟨H' i, j, none⟩ = false ∧
                          (w'.setCell ⟨H' i, j, none⟩ (.int .i64 (b3 i j + t (T i d) (T j d)))).cell? ⟨wo.heap.size, i, none⟩ = some (.slice (some ⟨H' i, 0, none⟩) n n) ∧ (w'.setCell ⟨H' i, j, none⟩ (.int .i64 (b3 i j + t (T i d) (T j d)))).cell? ⟨G, T i d, none⟩ = some (.slice (some ⟨Ho (T i d), 0, none⟩) n n) ∧ (w'.setCell ⟨H' i, j, none⟩ (.int .i64 (b3 i j + t (T i d) (T j d)))).cell? ⟨Ho (T i d), T j d, none⟩ = some (.int .i64 (t (T i d) (T j d))) ∧
                          GB wo.heap.size wo.heap.size n (i + 1) H' (upd b3 i j (b3 i j + t (T i d) (T j d))) (w'.setCell ⟨H' i, j, none⟩ (.int .i64 (b3 i j + t (T i d) (T j d)))) ∧ Below wo.heap.size wo (w'.setCell ⟨H' i, j, none⟩ (.int .i64 (b3 i j + t (T i d) (T j d))))) := fun w' hd => by
                        have hg' := hg.later hd.below
                        have hb' := hbz.trans (hd.below.mono hbz.size)
                        have hst := hg'.store i j (by omega) hjn (b3 i j + t (T i d) (T j d))
                        have hb5 : Below wo.heap.size wo (w'.setCell ⟨H' i, j, none⟩ (.int .i64 (b3 i j + t (T i d) (T j d)))) := hb'.setCell (p := ⟨H' i, j, none⟩) (show wo.heap.size ≤ H' i from by omega) _
                        obtain ⟨o1, o2⟩ := HOC.out w' _ _ hb' hta htb
                        obtain ⟨o3, o4⟩ := HOC.out _ _ _ hb5 hta htb
                        exact ⟨hg'.row i (by omega), o1, o2, hg'.cell i j (by omega) hjn, hg'.fr i j (by omega) hjn, hst.row i (by omega), o3, o4, hst, hb5⟩
                      have HN1 : Hid (∀ w', Drw wz w' → Calls Try.prog 90 #[.pointer (some ⟨p, 0, none⟩), .int .i64 (k : Nat), .int .i64 (i : Nat), .int .i64 (d : Nat)] w' fun e w2 => e = .returned (.int .i64 (T i d : Nat)) ∧ Drw wz w2) := fun w' hd =>
                        (HNB.out w' i d (hbz.trans (hd.below.mono hbz.size)) hin hdn).mono fun e w2 h => ⟨h.1, hd.trans h.2⟩
                      have HN2 : Hid (∀ w', Drw wz w' → Calls Try.prog 90 #[.pointer (some ⟨p, 0, none⟩), .int .i64 (k : Nat), .int .i64 (j : Nat), .int .i64 (d : Nat)] w' fun e w2 => e = .returned (.int .i64 (T j d : Nat)) ∧ Drw wz w2) := fun w' hd =>
                        (HNB.out w' j d (hbz.trans (hd.below.mono hbz.size)) hjn hdn).mono fun e w2 h => ⟨h.1, hd.trans h.2⟩
                      obtain ⟨c1, c2, c3, c4, c5, s1, s2, s3, _, _⟩ := HST.out wz (Drw.refl _)
                      obtain ⟨d1, d2, d3, d4, d5, d6, d7, d8, _, _⟩ := HST.out wz.drew ⟨1, rfl⟩
                      have ia : ((T i d : Nat) : Int) < (n : Int) := by omega
                      have ib : ((T j d : Nat) : Int) < (n : Int) := by omega
                      have ij : (j : Int) < (n : Int) := by omega
                      have ii : (i : Int) < (n : Int) := by omega
                      clear hg hbz hHi
                      generalize t (T i d) (T j d) = v2 at *
                      generalize T i d = ta at *
                      generalize T j d = tb at *
                      generalize Ho ta = hoa at *
                      have hwr : IntKind.i64.wrap (b3 i j + v2) = b3 i j + v2 := IntWalk.i64_in _ (by have := pow5 (r := r) (by omega); omega)
                      generalize b3 i j = v1 at *
                      generalize H' i = hi' at *
                      go_wp2_with fail
                      refine wp_region_held_drew (S := fun w' => w'.cell? ⟨wo.heap.size, i, none⟩ = some (.slice (some ⟨hi', 0, none⟩) n n) ∧ w'.cell? ⟨G, ta, none⟩ = some (.slice (some ⟨hoa, 0, none⟩) n n) ∧ w'.cell? ⟨hoa, tb, none⟩ = some (.int .i64 v2)) (by kernel_rfl) ⟨d1, d2, d3⟩ (fun hHeld => ?_)
                      have hdA : Drw wz wz.drew := ⟨1, rfl⟩
                      clear c1 c2 c3 c4 c5 s1 s2 s3 d5 d6 d7 d8
                      generalize wz.drew = wA at *
                      refine wpAnyH_take (i := 0) (oi := ⟨some 88, _, _, _, _, _⟩) (v := ?va0) rfl (by kernel_rfl) (by kernel_rfl) (by kernel_rfl) (fun _ _ _ h => h) (Or.inl ⟨by rfl, ?ya0⟩) (by assumption) ?ra0
                      case ya0 => (intro w hSw; (try dsimp only at hSw); go_simp; all_goals (with_reducible rfl))
                      try simp only [Act.put, List.setIfInBounds_toArray, List.set_cons_zero, List.set_cons_succ]
                      refine wpAnyH_take (i := 1) (oi := ⟨some 89, _, _, _, _, _⟩) (v := ?va1) rfl (by kernel_rfl) (by kernel_rfl) (by kernel_rfl) (fun _ _ _ h => h) (Or.inl ⟨by rfl, ?ya1⟩) (by assumption) ?ra1
                      case ya1 => (intro w hSw; (try dsimp only at hSw); go_simp; all_goals (with_reducible rfl))
                      try simp only [Act.put, List.setIfInBounds_toArray, List.set_cons_zero, List.set_cons_succ]
                      refine wpAnyH_take (i := 2) (oi := ⟨some 90, _, _, _, _, _⟩) (v := ?va2) rfl (by kernel_rfl) (by kernel_rfl) (by kernel_rfl) (fun _ _ _ h => h) (Or.inl ⟨by rfl, ?ya2⟩) (by assumption) ?ra2
                      case ya2 => (intro w hSw; (try dsimp only at hSw); go_simp; all_goals (with_reducible rfl))
                      try simp only [Act.put, List.setIfInBounds_toArray, List.set_cons_zero, List.set_cons_succ]
                      refine wpAnyH_take (i := 3) (oi := ⟨some 91, _, _, _, _, _⟩) (v := ?va3) rfl (by kernel_rfl) (by kernel_rfl) (by kernel_rfl) (fun _ _ _ h => h) (Or.inl ⟨by rfl, ?ya3⟩) (by assumption) ?ra3
                      case ya3 => (intro w hSw; (try dsimp only at hSw); go_simp; all_goals (with_reducible rfl))
                      try simp only [Act.put, List.setIfInBounds_toArray, List.set_cons_zero, List.set_cons_succ]
                      refine wpAnyH_take (i := 4) (oi := ⟨some 92, _, _, _, _, _⟩) (v := ?va4) rfl (by kernel_rfl) (by kernel_rfl) (by kernel_rfl) (fun _ _ _ h => h) (Or.inl ⟨by rfl, ?ya4⟩) (by assumption) ?ra4
                      case ya4 => (intro w hSw; (try dsimp only at hSw); go_simp; all_goals (with_reducible rfl))
                      try simp only [Act.put, List.setIfInBounds_toArray, List.set_cons_zero, List.set_cons_succ]
                      refine wpAnyH_take (i := 5) (oi := ⟨some 93, _, _, _, _, _⟩) (v := ?va5) rfl (by kernel_rfl) (by kernel_rfl) (by kernel_rfl) (fun _ _ _ h => h) (Or.inl ⟨by rfl, ?ya5⟩) (by assumption) ?ra5
                      case ya5 => (intro w hSw; (try dsimp only at hSw); go_simp; all_goals (with_reducible rfl))
                      try simp only [Act.put, List.setIfInBounds_toArray, List.set_cons_zero, List.set_cons_succ]
                      refine wpAnyH_take (i := 7) (oi := ⟨some 95, _, _, _, _, _⟩) (v := ?va7) rfl (by kernel_rfl) (by kernel_rfl) (by kernel_rfl) (fun _ _ _ h => h) (Or.inl ⟨by rfl, ?ya7⟩) (by assumption) ?ra7
                      case ya7 => (intro w hSw; (try dsimp only at hSw); go_simp; all_goals (with_reducible rfl))
                      try simp only [Act.put, List.setIfInBounds_toArray, List.set_cons_zero, List.set_cons_succ]
                      refine wpAnyH_take (i := 8) (oi := ⟨some 96, _, _, _, _, _⟩) (v := ?va8) rfl (by kernel_rfl) (by kernel_rfl) (by kernel_rfl) (fun _ _ _ h => h) (Or.inl ⟨by rfl, ?ya8⟩) (by assumption) ?ra8
                      case ya8 => (intro w hSw; (try dsimp only at hSw); go_simp; all_goals (with_reducible rfl))
                      try simp only [Act.put, List.setIfInBounds_toArray, List.set_cons_zero, List.set_cons_succ]
                      refine wpAnyH_take (i := 9) (oi := ⟨some 97, _, _, _, _, _⟩) (v := ?va9) rfl (by kernel_rfl) (by kernel_rfl) (by kernel_rfl) (fun _ _ _ h => h) (Or.inl ⟨by rfl, ?ya9⟩) (by assumption) ?ra9
                      case ya9 => (intro w hSw; (try dsimp only at hSw); go_simp; all_goals (with_reducible rfl))
                      try simp only [Act.put, List.setIfInBounds_toArray, List.set_cons_zero, List.set_cons_succ]
                      refine wpAnyH_take (i := 10) (oi := ⟨some 98, _, _, _, _, _⟩) (v := ?va10) rfl (by kernel_rfl) (by kernel_rfl) (by kernel_rfl) (fun _ _ _ h => h) (Or.inl ⟨by rfl, ?ya10⟩) (by assumption) ?ra10
                      case ya10 => (intro w hSw; (try dsimp only at hSw); go_simp; all_goals (with_reducible rfl))
                      try simp only [Act.put, List.setIfInBounds_toArray, List.set_cons_zero, List.set_cons_succ]
                      refine wpAnyH_take (i := 11) (oi := ⟨some 99, _, _, _, _, _⟩) (v := ?va11) rfl (by kernel_rfl) (by kernel_rfl) (by kernel_rfl) (fun _ _ _ h => h) (Or.inl ⟨by rfl, ?ya11⟩) (by assumption) ?ra11
                      case ya11 => (intro w hSw; (try dsimp only at hSw); go_simp; all_goals (with_reducible rfl))
                      try simp only [Act.put, List.setIfInBounds_toArray, List.set_cons_zero, List.set_cons_succ]
                      refine wpAnyH_take (i := 15) (oi := ⟨some 103, _, _, _, _, _⟩) (v := ?va15) rfl (by kernel_rfl) (by kernel_rfl) (by kernel_rfl) (fun _ _ _ h => h) (Or.inl ⟨by rfl, ?ya15⟩) (by assumption) ?ra15
                      case ya15 => (intro w hSw; (try dsimp only at hSw); go_simp; all_goals (with_reducible rfl))
                      try simp only [Act.put, List.setIfInBounds_toArray, List.set_cons_zero, List.set_cons_succ]
                      refine wpAnyH_take (i := 16) (oi := ⟨some 104, _, _, _, _, _⟩) (v := ?va16) rfl (by kernel_rfl) (by kernel_rfl) (by kernel_rfl) (fun _ _ _ h => h) (Or.inl ⟨by rfl, ?ya16⟩) (by assumption) ?ra16
                      case ya16 => (intro w hSw; (try dsimp only at hSw); go_simp; all_goals (with_reducible rfl))
                      try simp only [Act.put, List.setIfInBounds_toArray, List.set_cons_zero, List.set_cons_succ]
                      refine wpAnyH_take (i := 17) (oi := ⟨some 105, _, _, _, _, _⟩) (v := ?va17) rfl (by kernel_rfl) (by kernel_rfl) (by kernel_rfl) (fun _ _ _ h => h) (Or.inl ⟨by rfl, ?ya17⟩) (by assumption) ?ra17
                      case ya17 => (intro w hSw; (try dsimp only at hSw); go_simp; all_goals (with_reducible rfl))
                      try simp only [Act.put, List.setIfInBounds_toArray, List.set_cons_zero, List.set_cons_succ]
                      refine wpAnyH_take (i := 18) (oi := ⟨some 106, _, _, _, _, _⟩) (v := ?va18) rfl (by kernel_rfl) (by kernel_rfl) (by kernel_rfl) (fun _ _ _ h => h) (Or.inl ⟨by rfl, ?ya18⟩) (by assumption) ?ra18
                      case ya18 => (intro w hSw; (try dsimp only at hSw); go_simp; all_goals (with_reducible rfl))
                      try simp only [Act.put, List.setIfInBounds_toArray, List.set_cons_zero, List.set_cons_succ]
                      refine wpAnyH_ready (rs := [6, 12]) (by kernel_rfl) (by simp) ?_
                      refine AllReadyH.cons rfl (fun K hK => ?cb) (AllReadyH.cons rfl (fun K hK => ?ab) AllReadyH.nil)
                      case cb =>
                        go_simp
                        refine hK.out _ _ ⟨d1, d2, d3⟩ (fun hHeld => ?_)
                        clear hK K
                        try simp only [Act.put, List.setIfInBounds_toArray, List.set_cons_zero, List.set_cons_succ]
                        refine wpAnyH_ready (rs := [12]) (by kernel_rfl) (by simp) ?_
                        refine AllReadyH.cons rfl (fun K hK => ?_) AllReadyH.nil
                        go_simp
                        go_at_call 90
                        refine (HN1.out _ hdA).mono ?_
                        rintro e w6 ⟨rfl, hdB⟩
                        obtain ⟨x1, x2, x3, x4, x5, x6, x7, x8, x9, x10⟩ := HST.out w6 hdB
                        refine hK.out _ _ ⟨x1, x2, x3⟩ (fun hHeld => ?_)
                        clear hK K
                        try simp only [Act.put, List.setIfInBounds_toArray, List.set_cons_zero, List.set_cons_succ]
                        refine wpAnyH_take (i := 13) (oi := ⟨some 101, _, _, _, _, _⟩) (v := ?vc13) rfl (by kernel_rfl) (by kernel_rfl) (by kernel_rfl) (fun _ _ _ h => h) (Or.inl ⟨by rfl, ?yc13⟩) (by assumption) ?rc13
                        case yc13 => (intro w hSw; (try dsimp only at hSw); go_simp; all_goals (with_reducible rfl))
                        try simp only [Act.put, List.setIfInBounds_toArray, List.set_cons_zero, List.set_cons_succ]
                        refine wpAnyH_take (i := 14) (oi := ⟨some 102, _, _, _, _, _⟩) (v := ?vc14) rfl (by kernel_rfl) (by kernel_rfl) (by kernel_rfl) (fun _ _ _ h => h) (Or.inl ⟨by rfl, ?yc14⟩) (by assumption) ?rc14
                        case yc14 => (intro w hSw; (try dsimp only at hSw); go_simp; all_goals (with_reducible rfl))
                        try simp only [Act.put, List.setIfInBounds_toArray, List.set_cons_zero, List.set_cons_succ]
                        refine wpAnyH_ready (rs := [19]) (by kernel_rfl) (by simp) ?_
                        refine AllReadyH.cons rfl (fun K hK => ?_) AllReadyH.nil
                        go_simp
                        go_at_call 90
                        refine (HN2.out _ hdB).mono ?_
                        rintro e w7 ⟨rfl, hdC⟩
                        obtain ⟨y1, y2, y3, y4, y5, y6, y7, y8, y9, y10⟩ := HST.out w7 hdC
                        refine hK.out _ _ ⟨y1, y2, y3⟩ (fun hHeld => ?_)
                        clear hK K
                        try simp only [Act.put, List.setIfInBounds_toArray, List.set_cons_zero, List.set_cons_succ]
                        refine wpAnyH_take (i := 20) (oi := ⟨some 108, _, _, _, _, _⟩) (v := ?vc20) rfl (by kernel_rfl) (by kernel_rfl) (by kernel_rfl) (fun _ _ _ h => h) (Or.inl ⟨by rfl, ?yc20⟩) (by assumption) ?rc20
                        case yc20 => (intro w hSw; (try dsimp only at hSw); go_simp; all_goals (with_reducible rfl))
                        try simp only [Act.put, List.setIfInBounds_toArray, List.set_cons_zero, List.set_cons_succ]
                        refine wpAnyH_take (i := 21) (oi := ⟨some 109, _, _, _, _, _⟩) (v := ?vc21) rfl (by kernel_rfl) (by kernel_rfl) (by kernel_rfl) (fun _ _ _ h => h) (Or.inl ⟨by rfl, ?yc21⟩) (by assumption) ?rc21
                        case yc21 => (intro w hSw; (try dsimp only at hSw); go_simp; all_goals (with_reducible rfl))
                        try simp only [Act.put, List.setIfInBounds_toArray, List.set_cons_zero, List.set_cons_succ]
                        refine wpAnyH_take (i := 22) (oi := ⟨some 110, _, _, _, _, _⟩) (v := ?vc22) rfl (by kernel_rfl) (by kernel_rfl) (by kernel_rfl) (fun _ _ _ h => h) (Or.inl ⟨by rfl, ?yc22⟩) (by assumption) ?rc22
                        case yc22 => (intro w hSw; (try dsimp only at hSw); go_simp; all_goals (with_reducible rfl))
                        try simp only [Act.put, List.setIfInBounds_toArray, List.set_cons_zero, List.set_cons_succ]
                        refine wpAnyH_take (i := 23) (oi := ⟨some 111, _, _, _, _, _⟩) (v := ?vc23) rfl (by kernel_rfl) (by kernel_rfl) (by kernel_rfl) (fun _ _ _ h => h) (Or.inl ⟨by rfl, ?yc23⟩) (by assumption) ?rc23
                        case yc23 => (intro w hSw; (try dsimp only at hSw); go_simp; all_goals (with_reducible rfl))
                        try simp only [Act.put, List.setIfInBounds_toArray, List.set_cons_zero, List.set_cons_succ]
                        refine wpAnyH_ready (rs := [24]) (by kernel_rfl) (by simp) ?_
                        refine AllReadyH.cons rfl (fun K hK => ?_) AllReadyH.nil
                        go_simp
                        refine hK.out _ _ ⟨y6, y7, y8⟩ (fun hHeld => ?_)
                        clear hK K
                        try simp only [Act.put, List.setIfInBounds_toArray, List.set_cons_zero, List.set_cons_succ]
                        refine wpAnyH_done (by kernel_rfl) ?_ _
                        go_wp2_with fail
                        go_roundw
                        case rel => exact ⟨d + 1, _, by omega, by go_num, y9, hB2, y10⟩
                        case measure => first | (simp [intOf]; done) | (simp [intOf]; omega)
                      case ab =>
                        go_simp
                        go_at_call 90
                        refine (HN1.out _ hdA).mono ?_
                        rintro e w6 ⟨rfl, hdB⟩
                        obtain ⟨x1, x2, x3, x4, x5, x6, x7, x8, x9, x10⟩ := HST.out w6 hdB
                        refine hK.out _ _ ⟨x1, x2, x3⟩ (fun hHeld => ?_)
                        clear hK K
                        try simp only [Act.put, List.setIfInBounds_toArray, List.set_cons_zero, List.set_cons_succ]
                        refine wpAnyH_take (i := 13) (oi := ⟨some 101, _, _, _, _, _⟩) (v := ?vd13) rfl (by kernel_rfl) (by kernel_rfl) (by kernel_rfl) (fun _ _ _ h => h) (Or.inl ⟨by rfl, ?yd13⟩) (by assumption) ?rd13
                        case yd13 => (intro w hSw; (try dsimp only at hSw); go_simp; all_goals (with_reducible rfl))
                        try simp only [Act.put, List.setIfInBounds_toArray, List.set_cons_zero, List.set_cons_succ]
                        refine wpAnyH_take (i := 14) (oi := ⟨some 102, _, _, _, _, _⟩) (v := ?vd14) rfl (by kernel_rfl) (by kernel_rfl) (by kernel_rfl) (fun _ _ _ h => h) (Or.inl ⟨by rfl, ?yd14⟩) (by assumption) ?rd14
                        case yd14 => (intro w hSw; (try dsimp only at hSw); go_simp; all_goals (with_reducible rfl))
                        try simp only [Act.put, List.setIfInBounds_toArray, List.set_cons_zero, List.set_cons_succ]
                        refine wpAnyH_ready (rs := [6, 19]) (by kernel_rfl) (by simp) ?_
                        refine AllReadyH.cons rfl (fun K hK => ?ce) (AllReadyH.cons rfl (fun K hK => ?ae) AllReadyH.nil)
                        case ce =>
                          go_simp
                          refine hK.out _ _ ⟨x1, x2, x3⟩ (fun hHeld => ?_)
                          clear hK K
                          try simp only [Act.put, List.setIfInBounds_toArray, List.set_cons_zero, List.set_cons_succ]
                          refine wpAnyH_ready (rs := [19]) (by kernel_rfl) (by simp) ?_
                          refine AllReadyH.cons rfl (fun K hK => ?_) AllReadyH.nil
                          go_simp
                          go_at_call 90
                          refine (HN2.out _ hdB).mono ?_
                          rintro e w7 ⟨rfl, hdC⟩
                          obtain ⟨y1, y2, y3, y4, y5, y6, y7, y8, y9, y10⟩ := HST.out w7 hdC
                          refine hK.out _ _ ⟨y1, y2, y3⟩ (fun hHeld => ?_)
                          clear hK K
                          try simp only [Act.put, List.setIfInBounds_toArray, List.set_cons_zero, List.set_cons_succ]
                          refine wpAnyH_take (i := 20) (oi := ⟨some 108, _, _, _, _, _⟩) (v := ?ve20) rfl (by kernel_rfl) (by kernel_rfl) (by kernel_rfl) (fun _ _ _ h => h) (Or.inl ⟨by rfl, ?ye20⟩) (by assumption) ?re20
                          case ye20 => (intro w hSw; (try dsimp only at hSw); go_simp; all_goals (with_reducible rfl))
                          try simp only [Act.put, List.setIfInBounds_toArray, List.set_cons_zero, List.set_cons_succ]
                          refine wpAnyH_take (i := 21) (oi := ⟨some 109, _, _, _, _, _⟩) (v := ?ve21) rfl (by kernel_rfl) (by kernel_rfl) (by kernel_rfl) (fun _ _ _ h => h) (Or.inl ⟨by rfl, ?ye21⟩) (by assumption) ?re21
                          case ye21 => (intro w hSw; (try dsimp only at hSw); go_simp; all_goals (with_reducible rfl))
                          try simp only [Act.put, List.setIfInBounds_toArray, List.set_cons_zero, List.set_cons_succ]
                          refine wpAnyH_take (i := 22) (oi := ⟨some 110, _, _, _, _, _⟩) (v := ?ve22) rfl (by kernel_rfl) (by kernel_rfl) (by kernel_rfl) (fun _ _ _ h => h) (Or.inl ⟨by rfl, ?ye22⟩) (by assumption) ?re22
                          case ye22 => (intro w hSw; (try dsimp only at hSw); go_simp; all_goals (with_reducible rfl))
                          try simp only [Act.put, List.setIfInBounds_toArray, List.set_cons_zero, List.set_cons_succ]
                          refine wpAnyH_take (i := 23) (oi := ⟨some 111, _, _, _, _, _⟩) (v := ?ve23) rfl (by kernel_rfl) (by kernel_rfl) (by kernel_rfl) (fun _ _ _ h => h) (Or.inl ⟨by rfl, ?ye23⟩) (by assumption) ?re23
                          case ye23 => (intro w hSw; (try dsimp only at hSw); go_simp; all_goals (with_reducible rfl))
                          try simp only [Act.put, List.setIfInBounds_toArray, List.set_cons_zero, List.set_cons_succ]
                          refine wpAnyH_ready (rs := [24]) (by kernel_rfl) (by simp) ?_
                          refine AllReadyH.cons rfl (fun K hK => ?_) AllReadyH.nil
                          go_simp
                          refine hK.out _ _ ⟨y6, y7, y8⟩ (fun hHeld => ?_)
                          clear hK K
                          try simp only [Act.put, List.setIfInBounds_toArray, List.set_cons_zero, List.set_cons_succ]
                          refine wpAnyH_done (by kernel_rfl) ?_ _
                          go_wp2_with fail
                          go_roundw
                          case rel => exact ⟨d + 1, _, by omega, by go_num, y9, hB2, y10⟩
                          case measure => first | (simp [intOf]; done) | (simp [intOf]; omega)
                        case ae =>
                          go_simp
                          go_at_call 90
                          refine (HN2.out _ hdB).mono ?_
                          rintro e w7 ⟨rfl, hdC⟩
                          obtain ⟨y1, y2, y3, y4, y5, y6, y7, y8, y9, y10⟩ := HST.out w7 hdC
                          refine hK.out _ _ ⟨y1, y2, y3⟩ (fun hHeld => ?_)
                          clear hK K
                          try simp only [Act.put, List.setIfInBounds_toArray, List.set_cons_zero, List.set_cons_succ]
                          refine wpAnyH_take (i := 20) (oi := ⟨some 108, _, _, _, _, _⟩) (v := ?vf20) rfl (by kernel_rfl) (by kernel_rfl) (by kernel_rfl) (fun _ _ _ h => h) (Or.inl ⟨by rfl, ?yf20⟩) (by assumption) ?rf20
                          case yf20 => (intro w hSw; (try dsimp only at hSw); go_simp; all_goals (with_reducible rfl))
                          try simp only [Act.put, List.setIfInBounds_toArray, List.set_cons_zero, List.set_cons_succ]
                          refine wpAnyH_take (i := 21) (oi := ⟨some 109, _, _, _, _, _⟩) (v := ?vf21) rfl (by kernel_rfl) (by kernel_rfl) (by kernel_rfl) (fun _ _ _ h => h) (Or.inl ⟨by rfl, ?yf21⟩) (by assumption) ?rf21
                          case yf21 => (intro w hSw; (try dsimp only at hSw); go_simp; all_goals (with_reducible rfl))
                          try simp only [Act.put, List.setIfInBounds_toArray, List.set_cons_zero, List.set_cons_succ]
                          refine wpAnyH_ready (rs := [6]) (by kernel_rfl) (by simp) ?_
                          refine AllReadyH.cons rfl (fun K hK => ?_) AllReadyH.nil
                          go_simp
                          refine hK.out _ _ ⟨y1, y2, y3⟩ (fun hHeld => ?_)
                          clear hK K
                          try simp only [Act.put, List.setIfInBounds_toArray, List.set_cons_zero, List.set_cons_succ]
                          refine wpAnyH_take (i := 22) (oi := ⟨some 110, _, _, _, _, _⟩) (v := ?vf22) rfl (by kernel_rfl) (by kernel_rfl) (by kernel_rfl) (fun _ _ _ h => h) (Or.inl ⟨by rfl, ?yf22⟩) (by assumption) ?rf22
                          case yf22 => (intro w hSw; (try dsimp only at hSw); go_simp; all_goals (with_reducible rfl))
                          try simp only [Act.put, List.setIfInBounds_toArray, List.set_cons_zero, List.set_cons_succ]
                          refine wpAnyH_take (i := 23) (oi := ⟨some 111, _, _, _, _, _⟩) (v := ?vf23) rfl (by kernel_rfl) (by kernel_rfl) (by kernel_rfl) (fun _ _ _ h => h) (Or.inl ⟨by rfl, ?yf23⟩) (by assumption) ?rf23
                          case yf23 => (intro w hSw; (try dsimp only at hSw); go_simp; all_goals (with_reducible rfl))
                          try simp only [Act.put, List.setIfInBounds_toArray, List.set_cons_zero, List.set_cons_succ]
                          refine wpAnyH_ready (rs := [24]) (by kernel_rfl) (by simp) ?_
                          refine AllReadyH.cons rfl (fun K hK => ?_) AllReadyH.nil
                          go_simp
                          refine hK.out _ _ ⟨y6, y7, y8⟩ (fun hHeld => ?_)
                          clear hK K
                          try simp only [Act.put, List.setIfInBounds_toArray, List.set_cons_zero, List.set_cons_succ]
                          refine wpAnyH_done (by kernel_rfl) ?_ _
                          go_wp2_with fail
                          go_roundw
                          case rel => exact ⟨d + 1, _, by omega, by go_num, y9, hB2, y10⟩
                          case measure => first | (simp [intOf]; done) | (simp [intOf]; omega)
                    · obtain rfl : n = d := by omega
                      have HB2 := Lib.hid (HBJ.out.fin HQ.out HBP.out hin ⟨n1, n5⟩)
                      go_wp2_with fail
                      go_roundw
                      case rel => exact ⟨j + 1, b3, by omega, by go_num, hg, HB2, hbz⟩
                      case measure => first | (simp [intOf]; done) | (simp [intOf]; omega)
                · obtain rfl : n = j := by omega
                  have HB2 := Lib.hid HBI.out.row
                  go_wp2_with fail
                  go_roundw
                  case rel => exact ⟨i + 1, H', b2, by omega, by go_num, hg, HB2, hby⟩
                  case measure => first | (simp [intOf]; done) | (simp [intOf]; omega)
            · obtain rfl : n = i := by omega
              have HB2 := Lib.hid HBD.out.fin
              have hg2 := hg.monoB hz
              have hbb : Below w.heap.size w wx := HHB.out.trans (hbx.mono HHB.out.size)
              obtain ⟨k1, rfl⟩ : ∃ k1, k = k1 + 1 := ⟨k - 1, by omega⟩
              go_wp2_with fail
              go_roundw
              case rel => exact ⟨k1, r + 1, _, H, b, rfl, by go_num, by omega, by omega, hg2, HB2, hbb⟩
              case measure => first | (simp [intOf]; done) | (simp [intOf]; omega)
        · have hr4 : r = 4 - place := by omega
          have HFI : Hid (BotPost n (4 - place) w (.returned (.slice (some ⟨G, 0, none⟩) n n)) wo) := ⟨_, _, t, rfl, hg, by rw [← hr4]; exact HBP.out, hb⟩
          go_wp2_with fail
          go_ret
          exact HFI.out
end Go.Proofs.Ythcnhkjiojeemaa
