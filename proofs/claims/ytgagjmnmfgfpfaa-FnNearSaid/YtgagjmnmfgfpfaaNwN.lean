/- NearWords: the program's. -/
import Derived.Test.YtgagjmnmfgfpfaaNwI
import Derived.Test.YtgagjmnmfgfpfaaNwG
import Derived.Test.YtgagjmnmfgfpfaaDig
import Derived.BigQuiet
namespace Go.Proofs.Ytgagjmnmfgfpfaa
open Go.RowKit

abbrev SYM : ByteArray := ⟨#[48, 49, 50, 51, 52, 53, 54, 55, 56, 57, 65, 66, 67, 68, 69, 70, 71, 72, 73, 74, 75, 76, 77, 78, 79, 80, 81, 82, 83, 84, 85, 86, 87, 88, 89, 90]⟩
theorem one_ext (s : ByteArray) (i : Nat) (h : i < s.size) : s.extract i (i + 1) = ⟨#[s[i]]⟩ := by
  apply ba_ext
  rw [ByteArray.data_extract, Array.toList_extract]
  have h' : i < s.data.toList.length := by simpa using h
  rw [List.extract_eq_take_drop, show i + 1 - i = 1 by omega, List.drop_eq_getElem_cons h']
  rfl
theorem one_inj {x y : UInt8} (h : (⟨#[x]⟩ : ByteArray) = ⟨#[y]⟩) : x = y := by
  have := congrArg (fun b : ByteArray => b.data.toList) h
  simpa using this
theorem symS_one (d : Nat) (h : d < 36) : symS d = ⟨#[SYM[d]'h]⟩ := one_ext SYM d h
def SubC (s : ByteArray) (i d : Nat) : Prop := symS d ≠ s.extract i (i + 1)
def SwpC (s : ByteArray) (j : Nat) : Prop := s.extract j (j + 1) ≠ s.extract (j + 1) (j + 2)
theorem subC_iff {s : ByteArray} {i d : Nat} (hi : i < s.size) (hd : d < 36) : SubC s i d ↔ SYM[d]'hd ≠ s[i] := by
  unfold SubC
  rw [symS_one d hd, one_ext s i hi]
  exact ⟨fun h e => h (by rw [e]), fun h e => h (one_inj e)⟩
theorem swpC_iff {s : ByteArray} {j : Nat} (hj : j + 1 < s.size) : SwpC s j ↔ s[j] ≠ s[j + 1] := by
  unfold SwpC
  rw [one_ext s j (by omega), one_ext s (j + 1) hj]
  exact ⟨fun h e => h (by rw [e]), fun h e => h (one_inj e)⟩
/-- The words near a word. -/
def NwP (s : ByteArray) (b : Nat) (t : ByteArray) : Prop := InsP s b t ∨ DelP s t ∨ (∃ i d, i < s.size ∧ d < b ∧ SubC s i d ∧ t = subW s i (symS d)) ∨ ∃ j, j + 1 < s.size ∧ SwpC s j ∧ t = swpW s j
/-- As far as the program's list goes at a place and a digit. -/
def NwQ (s : ByteArray) (b i d : Nat) (t : ByteArray) : Prop := InsP s b t ∨ DelP s t ∨ (∃ j e, j < i ∧ e < b ∧ SubC s j e ∧ t = subW s j (symS e)) ∨ (∃ e, e < d ∧ SubC s i e ∧ t = subW s i (symS e)) ∨ ∃ j, j + 1 < i ∧ SwpC s j ∧ t = swpW s j
theorem NwQ.sub {s : ByteArray} {b i d : Nat} {t : ByteArray} : NwQ s b i (d + 1) t ↔ NwQ s b i d t ∨ (SubC s i d ∧ t = subW s i (symS d)) := by
  unfold NwQ
  constructor
  · rintro (h | h | h | ⟨e, he, h⟩ | h)
    · exact .inl (.inl h)
    · exact .inl (.inr (.inl h))
    · exact .inl (.inr (.inr (.inl h)))
    · by_cases hed : e = d
      · subst hed; exact .inr h
      · exact .inl (.inr (.inr (.inr (.inl ⟨e, by omega, h⟩))))
    · exact .inl (.inr (.inr (.inr (.inr h))))
  · rintro ((h | h | h | ⟨e, he, h⟩ | h) | h)
    · exact .inl h
    · exact .inr (.inl h)
    · exact .inr (.inr (.inl h))
    · exact .inr (.inr (.inr (.inl ⟨e, by omega, h⟩)))
    · exact .inr (.inr (.inr (.inr h)))
    · exact .inr (.inr (.inr (.inl ⟨d, by omega, h⟩)))
theorem NwQ.next {s : ByteArray} {b i : Nat} {t : ByteArray} : NwQ s b (i + 1) 0 t ↔ NwQ s b i b t ∨ (∃ j, i = j + 1 ∧ SwpC s j ∧ t = swpW s j) := by
  unfold NwQ
  constructor
  · rintro (h | h | ⟨j, e, hj, h⟩ | ⟨e, he, h⟩ | ⟨j, hj, h⟩)
    · exact .inl (.inl h)
    · exact .inl (.inr (.inl h))
    · by_cases hji : j = i
      · subst hji; exact .inl (.inr (.inr (.inr (.inl ⟨e, h⟩))))
      · exact .inl (.inr (.inr (.inl ⟨j, e, by omega, h⟩)))
    · omega
    · by_cases hji : j + 1 = i
      · exact .inr ⟨j, hji.symm, h⟩
      · exact .inl (.inr (.inr (.inr (.inr ⟨j, by omega, h⟩))))
  · rintro ((h | h | ⟨j, e, hj, h⟩ | ⟨e, he, h⟩ | ⟨j, hj, h⟩) | ⟨j, hj, h⟩)
    · exact .inl h
    · exact .inr (.inl h)
    · exact .inr (.inr (.inl ⟨j, e, by omega, h⟩))
    · exact .inr (.inr (.inl ⟨i, e, by omega, he, h⟩))
    · exact .inr (.inr (.inr (.inr ⟨j, by omega, h⟩)))
    · exact .inr (.inr (.inr (.inr ⟨j, by omega, h⟩)))
theorem NwQ.start {s : ByteArray} {b : Nat} {t : ByteArray} : NwQ s b 0 0 t ↔ InsP s b t ∨ DelP s t := by
  unfold NwQ
  constructor
  · rintro (h | h | ⟨j, e, hj, h⟩ | ⟨e, he, h⟩ | ⟨j, hj, h⟩)
    · exact .inl h
    · exact .inr h
    · omega
    · omega
    · omega
  · rintro (h | h)
    · exact .inl h
    · exact .inr (.inl h)
theorem NwQ.stop {s : ByteArray} {b : Nat} {t : ByteArray} : NwQ s b s.size 0 t ↔ NwP s b t := by
  unfold NwQ NwP
  constructor
  · rintro (h | h | h | ⟨e, he, h⟩ | h)
    · exact .inl h
    · exact .inr (.inl h)
    · exact .inr (.inr (.inl h))
    · omega
    · exact .inr (.inr (.inr h))
  · rintro (h | h | h | h)
    · exact .inl h
    · exact .inr (.inl h)
    · exact .inr (.inr (.inl h))
    · exact .inr (.inr (.inr (.inr h)))
/-- The words near a word, in ascending order; and whether there are any. -/
def nwB (s : ByteArray) (b : Int) : Bool := digB s b 12
def NwPost (s : ByteArray) (b : Int) (w : World) (e : Ending) (w' : World) : Prop := ∃ v l, e = .returned (.tuple #[v, .bool (nwB s b)]) ∧ OS w.heap.size w' v l ∧ AscS l ∧ (∀ t, t ∈ l ↔ nwB s b = true ∧ NwP s b.toNat t) ∧ l.length ≤ 1000000 ∧ Below w.heap.size w w'
set_option maxHeartbeats 1000000 in
theorem implNw_no (s : ByteArray) (b : Int) (w : World) (hs : s.size ≤ 1048576) (hd : digB s b 12 = false) :
    Calls Try.prog 32 #[.string s, .int .i64 b] w (NwPost s b w) := by
  have HN : Hid (∀ w', Below w.heap.size w w' → NwPost s b w (.returned (.tuple #[.slice none 0 0, .bool false])) w') := fun w' h => by
    unfold NwPost nwB
    rw [hd]
    exact ⟨_, [], rfl, OV.nil _ _ _, AscS.nil, fun t => by simp, by simp, h⟩
  go_enter Try.func32, Try.ntmps32
  go_wp2_with fail
  refine (digitsOf_any s b 12 w hs).mono ?_
  rintro e w1 ⟨v, rfl, ho, hb⟩
  rw [hd] at ho ⊢
  go_wp2_with fail
  go_ret2
  exact HN.out _ hb
set_option maxRecDepth 100000 in
set_option maxHeartbeats 8000000 in
theorem implNw_go (s : ByteArray) (b : Nat) (w : World) (hd : digB s b 12 = true) (hb2 : 2 ≤ b ∧ b ≤ 36) (hs : s.size ≤ 12) :
    Calls Try.prog 32 #[.string s, .int .i64 b] w (NwPost s b w) := by
  have HD := Lib.hid hd
  go_enter Try.func32, Try.ntmps32
  go_wp2_with fail
  refine (digitsOf_any s b 12 w (by omega)).mono ?_
  rintro e w1 ⟨v, rfl, _, hb⟩
  rw [HD.out]
  go_wp2_with fail
  refine (inserted_any s b w1 (by omega) (by omega)).mono ?_
  rintro e w2 ⟨v1, l1, rfl, ho1, hm1, hl1, hb1⟩
  have hb12 := hb.trans (hb1.mono hb.size)
  go_wp2_with fail
  refine (shortened_any s w2 (by omega)).mono ?_
  rintro e w3 ⟨v2, l2, rfl, ho2, hm2, hl2, hb3⟩
  have hb13 := hb12.trans (hb3.mono hb12.size)
  have ho1' := ho1.later hb3
  obtain ⟨a1, c1, rfl⟩ := ho1'.read.slice
  obtain ⟨a2, c2, rfl⟩ := ho2.read.slice
  have hbA : Below w3.heap.size w3 (w3.alloc (.cells #[.slice a1 l1.length c1, .slice a2 l2.length c2] 32)) := (Below.refl _ _).alloc (Nat.le_refl _) _
  have hLit : OV 32 w3.heap.size (w3.alloc (.cells #[.slice a1 l1.length c1, .slice a2 l2.length c2] 32)) (.slice (some ⟨w3.heap.size, 0, none⟩) 2 2) [.slice a1 l1.length c1, .slice a2 l2.length c2] := OV.lit 32 w3 [.slice a1 l1.length c1, .slice a2 l2.length c2] (Nat.le_refl _) (by simp [maxLen])
  have HCT := Lib.hid (catS_any (.slice (some ⟨w3.heap.size, 0, none⟩) 2 2) [ss l1, ss l2] _ ⟨_, hLit.read, rfl, fun j hj => by
    have : j = 0 ∨ j = 1 := by simp at hj; omega
    rcases this with rfl | rfl
    · exact (ho1'.read.later hbA)
    · exact (ho2.read.later hbA)⟩ (by simp) (by simp [tlC, ss_length]; omega) (fun j hj => by
    have : j = 0 ∨ j = 1 := by simp at hj; omega
    rcases this with rfl | rfl
    · exact one_str
    · exact one_str))
  clear ho1 ho1' ho2 hLit
  go_wp2_with fail
  refine HCT.out.mono ?_
  rintro e w4 ⟨v4, rfl, ho4, hb4⟩
  have hfl : ([ss l1, ss l2] : List (List Value)).flatten = ss (l1 ++ l2) := by simp [ss]
  rw [hfl] at ho4
  have hbb := hb13.trans ((hbA.trans (hb4.mono hbA.size)).mono hb13.size)
  have ho5 : OS w.heap.size w4 v4 (l1 ++ l2) := OV.mono ho4 (Nat.le_trans hb13.size hbA.size)
  have HQ0 : Hid (∀ t, t ∈ l1 ++ l2 ↔ NwQ s b 0 0 t) := fun t => by rw [List.mem_append, hm1 t, hm2 t, NwQ.start]
  have hL0 : (l1 ++ l2).length ≤ 10000 := by rw [List.length_append]; omega
  generalize l1 ++ l2 = l0 at *
  clear hb hb1 hb12 hb3 hb13 hbA hb4 ho4 hm1 hm2 hfl HCT hl1 hl2
  go_wp2_with fail
  go_loopw [8, 28] (fun ov iv wr => ∃ (i : Nat) (l : List ByteArray), i ≤ s.size ∧ iv = .int .i64 i ∧ OS w.heap.size wr ov l ∧ Hid (∀ t, t ∈ l ↔ NwQ s b i 0 t) ∧ l.length ≤ 10000 + i * 100 ∧ Below w.heap.size w wr) (fun _ iv _ => s.size - (intOf iv).toNat)
  case atStart => exact ⟨0, l0, Nat.zero_le _, rfl, ho5, HQ0, by omega, hbb⟩
  case round =>
    clear ho5 HQ0 hL0 hbb
    obtain ⟨i, l, hi, rfl, ho, HL, hll, hb⟩ := hrel
    by_cases hlt : i < s.size
    · go_wp2_with fail
      go_loopw [8, 32] (fun ov dv wr => ∃ (d : Nat) (l : List ByteArray), d ≤ b ∧ dv = .int .i64 d ∧ OS w.heap.size wr ov l ∧ Hid (∀ t, t ∈ l ↔ NwQ s b i d t) ∧ l.length ≤ 10000 + i * 100 + d ∧ Below w.heap.size w wr) (fun _ dv _ => b - (intOf dv).toNat)
      case atStart => exact ⟨0, l, Nat.zero_le _, rfl, ho, HL, by omega, hb⟩
      case round =>
        clear ho hb HL hll l
        obtain ⟨d, l, hdb, rfl, ho, HL, hll, hb⟩ := hrel
        have hz := hb.size
        by_cases hld : d < b
        · have hd36 : d < 36 := by omega
          have k2 : (d : Int) < 36 := by omega
          have k1 : (i : Int) < (s.size : Int) := by omega
          obtain ⟨x, hx⟩ : ∃ x, (⟨#[48, 49, 50, 51, 52, 53, 54, 55, 56, 57, 65, 66, 67, 68, 69, 70, 71, 72, 73, 74, 75, 76, 77, 78, 79, 80, 81, 82, 83, 84, 85, 86, 87, 88, 89, 90]⟩ : ByteArray)[d]'hd36 = x := ⟨_, rfl⟩
          obtain ⟨y, hy⟩ : ∃ y, s[i] = y := ⟨_, rfl⟩
          have hsc : SubC s i d ↔ x ≠ y := by rw [subC_iff hlt hd36, ← hx, ← hy]
          by_cases hxy : x = y
          · have hcc : ((x.toNat : Int) != (y.toNat : Int)) = false := by simp [hxy]
            have HL2 : Hid (∀ t, t ∈ l ↔ NwQ s b i (d + 1) t) := fun t => by
              rw [HL.out t, NwQ.sub]
              exact ⟨.inl, fun h => h.elim id fun h => absurd hxy (hsc.1 h.1)⟩
            clear hxy hsc
            go_wp2_with fail
            go_quiet (fail)
            have hb9 := below_drewN hb nq
            have ho9 := OS.later ho (below_drewN (Below.refl _ _) nq)
            clear hcc hx hy
            generalize wr.drewN nq = w9 at *
            go_wp2_with fail
            go_roundw
            case rel => exact ⟨d + 1, l, by omega, by go_num, ho9, HL2, by omega, hb9⟩
            case measure => first | (simp [intOf]; done) | (simp [intOf]; omega)
          · have hcc : ((x.toNat : Int) != (y.toNat : Int)) = true := by
              have : ¬ (x.toNat : Int) = (y.toNat : Int) := fun e => hxy (UInt8.toNat_inj.1 (by omega))
              simpa using this
            have hSC := hsc.2 hxy
            obtain ⟨Y, hY⟩ : ∃ Y, Y = symS d := ⟨_, rfl⟩
            have hY1 : Y.size ≤ 1 := by rw [hY]; exact Nat.le_of_eq (symS_size (by omega))
            have hYe : (⟨#[48, 49, 50, 51, 52, 53, 54, 55, 56, 57, 65, 66, 67, 68, 69, 70, 71, 72, 73, 74, 75, 76, 77, 78, 79, 80, 81, 82, 83, 84, 85, 86, 87, 88, 89, 90]⟩ : ByteArray).extract d (d + 1) = Y := hY.symm
            obtain ⟨A, hA⟩ : ∃ A, s.extract 0 i = A := ⟨_, rfl⟩
            obtain ⟨C, hC⟩ : ∃ C, s.extract (i + 1) s.size = C := ⟨_, rfl⟩
            have HIN : Hid (A ++ Y ++ C = subW s i (symS d)) := by unfold Hid subW; rw [hY, hA, hC]
            have HSC : Hid (SubC s i d) := hSC
            have h1 : A.size ≤ 20 := by rw [← hA]; have := ext_le s 0 i; omega
            have h2 : C.size ≤ 20 := by rw [← hC]; have := ext_le s (i + 1) s.size; omega
            have h3 : ¬ 9223372036854775807 < A.size + Y.size := by omega
            have h4 : ¬ 9223372036854775807 < A.size + Y.size + C.size := by omega
            have hls : (ss l).length ≤ 1099511627776 := by rw [ss_length]; omega
            have k3 : (d : Int) + 1 ≤ 36 := by omega
            have k4 : (i : Int) ≤ (s.size : Int) := by omega
            have k5 : (i : Int) + 1 ≤ (s.size : Int) := by omega
            have hw1 : IntKind.i64.wrap ((d : Int) + 1) = (d : Int) + 1 := IntWalk.i64_in _ (by omega)
            have hw2 : (0 : Int) ≤ (d : Int) + 1 := by omega
            have hw3 : ((d : Int) + 1).toNat = d + 1 := by omega
            have hw4 : (d : Int) ≤ (d : Int) + 1 := by omega
            have hw5 : IntKind.i64.wrap ((i : Int) + 1) = (i : Int) + 1 := IntWalk.i64_in _ (by omega)
            have hw6 : (0 : Int) ≤ (i : Int) + 1 := by omega
            have hw7 : ((i : Int) + 1).toNat = i + 1 := by omega
            clear hY hsc hSC
            go_wp2_with fail
            go_quiet (fail)
            replace hb := below_drewN hb nq
            have ho9 := OS.later ho (below_drewN (Below.refl _ _) nq)
            have hz9 := hb.size
            clear hcc hx hy hxy ho hz
            generalize wr.drewN nq = w9 at *
            go_wp2_with fail
            go_region_held3 (fun _ => True) (trivial)
              ((refine step_app Try.underlying32 info_str rfl (by omega) (by rfl) _ _ (by rfl) w.heap.size _ _ (by rfl) ((OV.alloc ho9 _).drew) ⟨w9.heap.size, 0, none⟩ 1 (.string (A ++ Y ++ C)) (by rfl) (World.cell?_alloc_at _ _ _ _ rfl) rfl hls (by simp; omega) ?_; intro v' w5 ho5 hgr))
            have hbn := own_below ((hb.alloc hz9 _).drew) ((OV.alloc ho9 _).drew) hgr (by simp; omega)
            have ho6 : OS w.heap.size w5 v' (l ++ [subW s i (symS d)]) := by
              unfold OS
              rw [← HIN.out]
              simpa [ss] using ho5
            have HL2 : Hid (∀ t, t ∈ l ++ [subW s i (symS d)] ↔ NwQ s b i (d + 1) t) := fun t => by
              rw [List.mem_append, HL.out t, List.mem_singleton, NwQ.sub]
              exact ⟨fun h => h.elim .inl fun h => .inr ⟨HSC.out, h⟩, fun h => h.elim .inl fun h => .inr h.2⟩
            clear ho5 hgr hYe hw1 hw2 hw3 hw4 hw5 hw6 hw7 hA hC ho9
            go_wp2_with fail
            go_roundw
            case rel => exact ⟨d + 1, _, by omega, by go_num, ho6, HL2, by rw [List.length_append]; simp; omega, hbn⟩
            case measure => first | (simp [intOf]; done) | (simp [intOf]; omega)
        · obtain rfl : d = b := by omega
          by_cases hi0 : i = 0
          · have hg0 : ¬ 0 < i := by omega
            have hg1 : ¬ (0 : Int) < (i : Int) := by omega
            have hg2 : decide (0 < i) = false := decide_eq_false hg0
            have HL2 : Hid (∀ t, t ∈ l ↔ NwQ s d (i + 1) 0 t) := fun t => by
              rw [HL.out t, NwQ.next]
              exact ⟨.inl, fun h => h.elim id fun ⟨j, hj, _⟩ => by omega⟩
            clear hi0
            go_wp2_with fail
            go_quiet (fail)
            have hb9 := below_drewN hb nq
            have ho9 := OS.later ho (below_drewN (Below.refl _ _) nq)
            clear ho hb hz
            generalize wr.drewN nq = w9 at *
            go_wp2_with fail
            go_roundw
            case rel => exact ⟨i + 1, l, by omega, by go_num, ho9, HL2, by omega, hb9⟩
            case measure => first | (simp [intOf]; done) | (simp [intOf]; omega)
          · obtain ⟨j, hj⟩ : ∃ j, i = j + 1 := ⟨i - 1, by omega⟩
            have hg0 : 0 < i := by omega
            have hg1 : (0 : Int) < (i : Int) := by omega
            have hg2 : decide (0 < i) = true := decide_eq_true hg0
            have j0 : (0 : Int) ≤ (j : Int) := by omega
            have hjl : j < s.size := by omega
            have hw8 : IntKind.i64.wrap ((i : Int) - 1) = (j : Int) := by rw [show (i : Int) - 1 = (j : Int) by omega]; exact IntWalk.i64_in _ (by omega)
            have k1 : (i : Int) < (s.size : Int) := by omega
            have k6 : (j : Int) < (s.size : Int) := by omega
            obtain ⟨x, hx⟩ : ∃ x, s[j] = x := ⟨_, rfl⟩
            obtain ⟨y, hy⟩ : ∃ y, s[i] = y := ⟨_, rfl⟩
            have hsc : SwpC s j ↔ x ≠ y := by
              subst hj
              rw [swpC_iff hlt, ← hx, ← hy]
            by_cases hxy : x = y
            · have hcc : ((x.toNat : Int) != (y.toNat : Int)) = false := by simp [hxy]
              have HL2 : Hid (∀ t, t ∈ l ↔ NwQ s d (i + 1) 0 t) := fun t => by
                rw [HL.out t, NwQ.next]
                exact ⟨.inl, fun h => h.elim id fun ⟨q, hq, h, _⟩ => absurd hxy (hsc.1 (by rw [show j = q by omega]; exact h))⟩
              clear hxy hsc hj hi0
              go_wp2_with fail
              go_quiet (fail)
              have hb9 := below_drewN hb nq
              have ho9 := OS.later ho (below_drewN (Below.refl _ _) nq)
              clear ho hb hz hcc hx hy hw8
              generalize wr.drewN nq = w9 at *
              go_wp2_with fail
              go_roundw
              case rel => exact ⟨i + 1, l, by omega, by go_num, ho9, HL2, by omega, hb9⟩
              case measure => first | (simp [intOf]; done) | (simp [intOf]; omega)
            · have hcc : ((x.toNat : Int) != (y.toNat : Int)) = true := by
                have : ¬ (x.toNat : Int) = (y.toNat : Int) := fun e => hxy (UInt8.toNat_inj.1 (by omega))
                simpa using this
              have hSC := hsc.2 hxy
              obtain ⟨A, hA⟩ : ∃ A, s.extract 0 j = A := ⟨_, rfl⟩
              obtain ⟨Y, hY⟩ : ∃ Y, s.extract i (i + 1) = Y := ⟨_, rfl⟩
              obtain ⟨Z, hZ⟩ : ∃ Z, s.extract j i = Z := ⟨_, rfl⟩
              obtain ⟨C, hC⟩ : ∃ C, s.extract (i + 1) s.size = C := ⟨_, rfl⟩
              have HIN : Hid (A ++ Y ++ Z ++ C = swpW s j) := by
                unfold Hid swpW
                rw [← hA, ← hY, ← hZ, ← hC, hj]
              have HSC : Hid (SwpC s j) := hSC
              have HJ := Lib.hid hj
              have h1 : A.size ≤ 20 := by rw [← hA]; have := ext_le s 0 j; omega
              have h2 : C.size ≤ 20 := by rw [← hC]; have := ext_le s (i + 1) s.size; omega
              have h5 : Y.size ≤ 20 := by rw [← hY]; have := ext_le s i (i + 1); omega
              have h6 : Z.size ≤ 20 := by rw [← hZ]; have := ext_le s j i; omega
              have h3 : ¬ 9223372036854775807 < A.size + Y.size := by omega
              have h4 : ¬ 9223372036854775807 < A.size + Y.size + Z.size := by omega
              have h7 : ¬ 9223372036854775807 < A.size + Y.size + Z.size + C.size := by omega
              have hls : (ss l).length ≤ 1099511627776 := by rw [ss_length]; omega
              have k4 : (i : Int) ≤ (s.size : Int) := by omega
              have k5 : (i : Int) + 1 ≤ (s.size : Int) := by omega
              have k7 : (j : Int) ≤ (s.size : Int) := by omega
              have k8 : (j : Int) ≤ (i : Int) := by omega
              have k9 : (i : Int) ≤ (i : Int) + 1 := by omega
              have hw5 : IntKind.i64.wrap ((i : Int) + 1) = (i : Int) + 1 := IntWalk.i64_in _ (by omega)
              have hw6 : (0 : Int) ≤ (i : Int) + 1 := by omega
              have hw7 : ((i : Int) + 1).toNat = i + 1 := by omega
              clear hsc hSC hj
              go_wp2_with fail
              go_quiet (fail)
              replace hb := below_drewN hb nq
              have ho9 := OS.later ho (below_drewN (Below.refl _ _) nq)
              have hz9 := hb.size
              clear hcc hx hy hxy ho hz
              generalize wr.drewN nq = w9 at *
              go_wp2_with fail
              go_region_held3 (fun _ => True) (trivial)
                ((refine step_app Try.underlying32 info_str rfl (by omega) (by rfl) _ _ (by rfl) w.heap.size _ _ (by rfl) ((OV.alloc ho9 _).drew) ⟨w9.heap.size, 0, none⟩ 1 (.string (A ++ Y ++ Z ++ C)) (by rfl) (World.cell?_alloc_at _ _ _ _ rfl) rfl hls (by simp; omega) ?_; intro v' w5 ho5 hgr))
              have hbn := own_below ((hb.alloc hz9 _).drew) ((OV.alloc ho9 _).drew) hgr (by simp; omega)
              have ho6 : OS w.heap.size w5 v' (l ++ [swpW s j]) := by
                unfold OS
                rw [← HIN.out]
                simpa [ss] using ho5
              have HL2 : Hid (∀ t, t ∈ l ++ [swpW s j] ↔ NwQ s d (i + 1) 0 t) := fun t => by
                rw [List.mem_append, HL.out t, List.mem_singleton, NwQ.next]
                exact ⟨fun h => h.elim .inl fun h => .inr ⟨j, HJ.out, HSC.out, h⟩, fun h => h.elim .inl fun ⟨q, hq, _, h⟩ => .inr (by rw [h, show q = j by have := HJ.out; omega])⟩
              clear ho5 hgr hw5 hw6 hw7 hw8 hA hY hZ hC ho9
              go_wp2_with fail
              go_roundw
              case rel => exact ⟨i + 1, _, by omega, by go_num, ho6, HL2, by rw [List.length_append]; simp; omega, hbn⟩
              case measure => first | (simp [intOf]; done) | (simp [intOf]; omega)
    · obtain rfl : i = s.size := by omega
      have HO := Lib.hid (ordered_any _ l w.heap.size wr ho (by omega) hb.size)
      obtain ⟨os1, os2⟩ := ordS_asc l
      have HF : Hid (∀ v' w', OS w.heap.size w' v' (ordS l) → Below w.heap.size wr w' → NwPost s b w (.returned (.tuple #[v', .bool true])) w') := fun v' w' ho' hb' => by
        refine ⟨v', ordS l, by unfold nwB; rw [HD.out], ho', os1, fun t => ?_, ?_, hb.trans hb'⟩
        · rw [os2 t, HL.out t, NwQ.stop, Int.toNat_natCast]
          unfold nwB
          exact ⟨fun h => ⟨HD.out, h⟩, fun h => h.2⟩
        · have : (ordS l).length ≤ l.length := by
            unfold ordS Lib.compact Lib.compactUpTo
            rw [List.length_map, List.length_map]
            refine Nat.le_trans (List.length_filter_le _ _) ?_
            simp
          omega
      clear ho os1 os2
      go_wp2_with fail
      refine HO.out.mono ?_
      rintro e w9 ⟨v9, rfl, ho9, hb9⟩
      have hfin := HF.out _ _ ho9 hb9
      go_wp2_with fail
      go_ret2
      exact hfin
end Go.Proofs.Ytgagjmnmfgfpfaa
