/- LeastGap: the program's and the reference's. -/
import Derived.Test.YtdlagajnefkklaaWordD
namespace Go.Proofs.Ytdlagajnefkklaa
open Go.RowKit

/-- The distance of two words of a list. -/
def dis (l : List ByteArray) (i k : Nat) : Int := (cAt false (bz (sAt l i)) (bz (sAt l k)) 0 0 : Nat)
/-- The words are short. -/
def Sh (l : List ByteArray) : Prop := ∀ i, i < l.length → (sAt l i).size ≤ 20
theorem lex_sh {l : List ByteArray} (h : lexB l = true) : Sh l ∧ 2 ≤ l.length ∧ l.length ≤ 16 := by
  unfold lexB at h
  rw [Bool.and_eq_true, List.all_eq_true] at h
  refine ⟨fun i hi => ?_, ?_⟩
  · have := h.1 i (List.mem_range.2 hi)
    unfold lexAt at this
    simp only [Bool.and_eq_true] at this
    have := letB_size this.1.2
    omega
  · have := h.2
    unfold inB at this
    simp only [Bool.and_eq_true, decide_eq_true_eq] at this
    omega
theorem dis_bd {l : List ByteArray} (h : Sh l) (i k : Nat) (hi : i < l.length) (hk : k < l.length) : 0 ≤ dis l i k ∧ dis l i k ≤ 40 := by
  have h1 := cAt_le false (bz (sAt l i)) (bz (sAt l k)) 0 0
  rw [bz_len, bz_len] at h1
  have h2 := h i hi
  have h3 := h k hk
  unfold dis
  omega
/-- The least gap so far, with one more pair. -/
def gapF (l : List ByteArray) (st : Option (Int × Nat × Nat)) (i k : Nat) : Option (Int × Nat × Nat) :=
  match st with
  | none => some (dis l i k, i, k)
  | some (d, a, b) => if dis l i k < d then some (dis l i k, i, k) else some (d, a, b)
def gapK (l : List ByteArray) (st : Option (Int × Nat × Nat)) (i : Nat) : Nat → Option (Int × Nat × Nat)
  | 0 => st
  | m + 1 => gapF l (gapK l st i m) i (i + 1 + m)
def gapO (l : List ByteArray) : Nat → Option (Int × Nat × Nat)
  | 0 => none
  | i + 1 => gapK l (gapO l i) i (l.length - (i + 1))
theorem gapF_some (l : List ByteArray) (st : Option (Int × Nat × Nat)) (i k : Nat) : (gapF l st i k).isSome = true := by
  unfold gapF
  cases st with
  | none => rfl
  | some p => obtain ⟨d, a, b⟩ := p; simp only; split <;> rfl
theorem gapK_some {l : List ByteArray} {st : Option (Int × Nat × Nat)} (i : Nat) (h : st.isSome = true) : ∀ m, (gapK l st i m).isSome = true
  | 0 => h
  | _ + 1 => gapF_some _ _ _ _
theorem gapO_some {l : List ByteArray} (h : 2 ≤ l.length) : ∀ i, (gapO l (i + 1)).isSome = true
  | 0 => by
    show (gapK l none 0 (l.length - 1)).isSome = true
    rw [show l.length - 1 = (l.length - 2) + 1 by omega]
    exact gapF_some _ _ _ _
  | i + 1 => gapK_some _ (gapO_some h i) _
/-- A state in the program's numbers. -/
def enI (st : Option (Int × Nat × Nat)) : List Int := match st with | none => [1099511627776, 0, 0] | some (d, a, b) => [d, (a : Int), (b : Int)]
def okG (l : List ByteArray) (st : Option (Int × Nat × Nat)) : Prop := ∀ p, st = some p → 0 ≤ p.1 ∧ p.1 ≤ 40
theorem okG_F {l : List ByteArray} (hs : Sh l) {st : Option (Int × Nat × Nat)} (h : okG l st) (i k : Nat) (hi : i < l.length) (hk : k < l.length) : okG l (gapF l st i k) := by
  have hd := dis_bd hs i k hi hk
  intro p hp
  unfold gapF at hp
  cases st with
  | none => simp only [Option.some.injEq] at hp; subst hp; exact hd
  | some q =>
    obtain ⟨d, a, b⟩ := q
    have hq := h (d, a, b) rfl
    simp only at hp
    split at hp
    · simp only [Option.some.injEq] at hp; subst hp; exact hd
    · simp only [Option.some.injEq] at hp; subst hp; exact hq
theorem enI_F {l : List ByteArray} (hs : Sh l) {st : Option (Int × Nat × Nat)} (h : okG l st) (i k : Nat) (hi : i < l.length) (hk : k < l.length) :
    enI (gapF l st i k) = if dis l i k < (enI st).getD 0 0 then [dis l i k, (i : Int), (k : Int)] else enI st := by
  have hd := dis_bd hs i k hi hk
  cases st with
  | none =>
    show [dis l i k, (i : Int), (k : Int)] = if dis l i k < 1099511627776 then [dis l i k, (i : Int), (k : Int)] else _
    rw [if_pos (by omega)]
  | some q =>
    obtain ⟨d, a, b⟩ := q
    show enI (if dis l i k < d then some (dis l i k, i, k) else some (d, a, b)) = if dis l i k < d then [dis l i k, (i : Int), (k : Int)] else [d, (a : Int), (b : Int)]
    split <;> rfl
/-- .. in the reference's numbers. -/
def enS (st : Option (Int × Nat × Nat)) : Int × Nat × Nat := match st with | none => (-1, 0, 0) | some p => p
theorem enS_F {l : List ByteArray} {st : Option (Int × Nat × Nat)} (h : okG l st) (i k : Nat) :
    enS (gapF l st i k) = if (enS st).1 < 0 ∨ dis l i k < (enS st).1 then (dis l i k, i, k) else enS st := by
  cases st with
  | none => simp [gapF, enS]
  | some q =>
    obtain ⟨d, a, b⟩ := q
    have hq : 0 ≤ d := (h (d, a, b) rfl).1
    show enS (if dis l i k < d then some (dis l i k, i, k) else some (d, a, b)) = if d < 0 ∨ dis l i k < d then (dis l i k, i, k) else (d, a, b)
    by_cases e : dis l i k < d
    · rw [if_pos e, if_pos (.inr e)]; rfl
    · rw [if_neg e, if_neg (by omega)]; rfl
theorem OK.lit3 {T : TypeId} {k : IntKind} {B : Nat} (w : World) (x y z : Int) (hb : B ≤ w.heap.size) : OK T k B (w.alloc (.cells #[.int k x, .int k y, .int k z] T)) (.slice (some ⟨w.heap.size, 0, none⟩) 3 3) [x, y, z] := OV.lit T w [.int k x, .int k y, .int k z] hb (by simp [maxLen])
theorem OK.drewG {T : TypeId} {k : IntKind} {B : Nat} {w : World} {v : Value} {xs : List Int} (h : OK T k B w v xs) : OK T k B w.drew v xs := h
/-- What LeastGap returns. -/
def gapV (l : List ByteArray) : Value := if lexB l then .tuple #[.int .i64 (enS (gapO l l.length)).1, .int .i64 ((enS (gapO l l.length)).2.1 : Nat), .int .i64 ((enS (gapO l l.length)).2.2 : Nat), .bool true] else .tuple #[.int .i64 0, .int .i64 0, .int .i64 0, .bool false]
theorem gapV_shape (l : List ByteArray) : ∃ (x y z : Int) (c : Bool), gapV l = .tuple #[.int .i64 x, .int .i64 y, .int .i64 z, .bool c] := by
  unfold gapV; split <;> exact ⟨_, _, _, _, rfl⟩
theorem implLex_is (v : Value) (l : List ByteArray) (w : World) (b : Bool) (h : Hid (lexB l = b)) (hx : RS w v l) (hm : l.length ≤ 1048576) (hz : Hid (∀ k, k < l.length → (sAt l k).size ≤ 1048576)) :
    Calls Try.prog 18 #[v] w fun e w' => e = .returned (.bool b) ∧ w = w' := by
  have := implLex_any v l w hx hm hz.out
  rw [h.out] at this; exact this
theorem specLex_is (v : Value) (l : List ByteArray) (w : World) (b : Bool) (h : Hid (lexB l = b)) (hx : RS w v l) (hm : l.length ≤ 1048576) (hz : Hid (∀ k, k < l.length → (sAt l k).size ≤ 1048576)) :
    Calls Try.prog 40 #[v] w fun e w' => e = .returned (.bool b) ∧ Below w.heap.size w w' := by
  have := l07Lexicon_any v l w hx hm hz.out
  rw [h.out] at this; exact this
set_option maxHeartbeats 4000000 in
theorem implGap_any (v : Value) (l : List ByteArray) (w : World) (hx : RS w v l) (hm : l.length ≤ 1048576) (hz : Hid (∀ k, k < l.length → (sAt l k).size ≤ 1048576)) :
    Calls Try.prog 23 #[v] w fun e w' => e = .returned (gapV l) ∧ Below w.heap.size w w' := by
  obtain ⟨a, c, rfl⟩ := hx.slice
  cases hl : lexB l
  · have HL := Lib.hid hl
    clear hl
    go_enter Try.func23, Try.ntmps23
    go_wp2_with (go_at_call 18; refine (implLex_is _ l _ false HL hx hm hz).mono ?_; rintro e w' ⟨rfl, rfl⟩)
    exact bodyPost_ret (v := .tuple #[.int .i64 0, .int .i64 0, .int .i64 0, .bool false]) (by simp [results, Try.results23, go_sem]) rfl ⟨by unfold gapV; rw [HL.out]; rfl, Below.refl _ _⟩
  · have HL := Lib.hid hl
    obtain ⟨hsh, hl2, hl16⟩ := lex_sh hl
    have HSH := Lib.hid hsh
    have HO : Hid (∀ i, (gapO l (i + 1)).isSome = true) := gapO_some hl2
    clear hl hsh
    go_enter Try.func23, Try.ntmps23
    go_wp2_with (go_at_call 18; refine (implLex_is _ l _ true HL hx hm hz).mono ?_; rintro e w' ⟨rfl, rfl⟩)
    have ho0 : OI w.heap.size (w.alloc (.cells #[.int .i64 1099511627776, .int .i64 0, .int .i64 0] 2)) (.slice (some ⟨w.heap.size, 0, none⟩) 3 3) (enI (gapO l 0)) := OK.lit3 w _ _ _ (Nat.le_refl _)
    have hb0 : Below w.heap.size w (w.alloc (.cells #[.int .i64 1099511627776, .int .i64 0, .int .i64 0] 2)) := (Below.refl _ _).alloc (Nat.le_refl _) _
    generalize w.alloc (.cells #[.int .i64 1099511627776, .int .i64 0, .int .i64 0] 2) = w0 at *
    generalize Value.slice (some ⟨w.heap.size, 0, none⟩) 3 3 = v0 at *
    have HG0 : Hid (okG l (gapO l 0)) := fun p hp => by cases hp
    go_loopw [6, 16] (fun bv iv wr => ∃ i : Nat, i ≤ l.length ∧ iv = .int .i64 i ∧ OI w.heap.size wr bv (enI (gapO l i)) ∧ Hid (okG l (gapO l i)) ∧ Below w.heap.size w wr) (fun _ iv _ => l.length - (intOf iv).toNat)
    case atStart => exact ⟨0, Nat.zero_le _, rfl, ho0, HG0, hb0⟩
    case round =>
      obtain ⟨i, hi, rfl, ho, HG, hb⟩ := hrel
      clear ho0 hb0
      by_cases hil : i < l.length
      · go_wp2_with fail
        go_loopw [6, 8] (fun bv kv wr => ∃ m : Nat, m ≤ l.length - (i + 1) ∧ kv = .int .i64 ((i : Int) + 1 + (m : Int)) ∧ OI w.heap.size wr bv (enI (gapK l (gapO l i) i m)) ∧ Hid (okG l (gapK l (gapO l i) i m)) ∧ Below w.heap.size w wr) (fun _ kv _ => l.length - (intOf kv).toNat)
        case atStart => exact ⟨0, Nat.zero_le _, by go_num, ho, HG, hb⟩
        case round =>
          obtain ⟨m, hm1, rfl, ho, HG, hb⟩ := hrel
          have hsz := hb.size
          by_cases hkl : i + 1 + m < l.length
          · obtain ⟨k, hk⟩ : ∃ k, k = i + 1 + m := ⟨_, rfl⟩
            have hkI : (i : Int) + 1 + (m : Int) = (k : Int) := by omega
            rw [hkI]
            have hkl2 : k < l.length := by omega
            obtain ⟨g, off, rfl, hg, hc⟩ := (hx.later hb).at i hil
            obtain ⟨g', off', he', _, hc'⟩ := (hx.later hb).at k hkl2
            simp only [Option.some.injEq, Addr.mk.injEq, and_true] at he'
            obtain ⟨rfl, rfl⟩ := he'
            have hd := dis_bd HSH.out i k hil hkl2
            have HE := Lib.hid (enI_F HSH.out HG.out i k hil hkl2)
            have HG2 : Hid (okG l (gapK l (gapO l i) i (m + 1))) := by
              have := okG_F HSH.out HG.out i k hil hkl2
              rw [hk] at this; exact this
            have HGK : Hid (gapK l (gapO l i) i (m + 1) = gapF l (gapK l (gapO l i) i m) i k) := by unfold Hid; rw [hk]; rfl
            have hs1 := HSH.out i hil
            have hs2 := HSH.out k hkl2
            have hD : ∀ wx, Calls Try.prog 45 #[.string (sAt l i), .string (sAt l k), .bool false] wx fun e w' => e = .returned (.int .i64 (dis l i k)) ∧ Below wx.heap.size wx w' := fun wx => distance_any _ _ false wx (by omega) (by omega)
            have HD := Lib.hid hD
            have HK := Lib.hid hk
            have HKI := Lib.hid hkI
            have f0 : (0 : Int) ≤ (i : Int) := by omega
            have f1 : (i : Int) < (l.length : Int) := by omega
            have f2 : (0 : Int) ≤ (k : Int) := by omega
            have f3 : (k : Int) < (l.length : Int) := by omega
            obtain ⟨ba, bc, hbv⟩ := ho.slice
            have hel : (enI (gapK l (gapO l i) i m)).length = 3 := by unfold enI; split <;> rfl
            rw [hel] at hbv
            subst hbv
            have HEL := Lib.hid hel
            clear hel
            have hbel : i + 1 + m = k := hk.symm
            clear hD hk hkI
            generalize hdv : dis l i k = d at *
            have HDV := Lib.hid hdv
            clear hdv
            generalize sAt l i = s1 at *
            generalize sAt l k = s2 at *
            go_wp2_with fail
            go_region_held3 (fun w' => w'.cell? ⟨g, off + i, none⟩ = some (.string s1) ∧ w'.cell? ⟨g, off + k, none⟩ = some (.string s2)) (go_keep)
              (first | (go_at_call 45; refine (HD.out _).mono ?_; rintro e w3 ⟨rfl, hb3⟩; replace hc := (hb3.cell (p := ⟨g, off + i, none⟩) hg).trans hc; replace hc' := (hb3.cell (p := ⟨g, off + k, none⟩) hg).trans hc'))
            have ho3 := ho.drewG.later hb3
            have hb4 := hb.drew.trans (hb3.mono hsz)
            have hsz4 := hb4.size
            obtain ⟨gb, rfl, _, hcb⟩ := ho3.at 0 (by rw [HEL.out]; omega)
            by_cases hlt : d < (enI (gapK l (gapO l i) i m)).getD 0 0
            · have HEN : Hid (enI (gapK l (gapO l i) i (m + 1)) = [d, (i : Int), (k : Int)]) := by unfold Hid; rw [HGK.out, HE.out, if_pos hlt]
              generalize (enI (gapK l (gapO l i) i m)).getD 0 0 = z0 at *
              clear HE
              go_wp2_with fail
              go_roundw
              case rel => exact ⟨m + 1, by omega, congrArg (Value.int .i64) (by have := HKI.out; omega), by rw [HEN.out]; exact OK.lit3 w3 _ _ _ hsz4, HG2, hb4.alloc hsz4 _⟩
              case measure => simp [intOf]; omega
            · have HEN : Hid (enI (gapK l (gapO l i) i (m + 1)) = enI (gapK l (gapO l i) i m)) := by unfold Hid; rw [HGK.out, HE.out, if_neg hlt]
              generalize (enI (gapK l (gapO l i) i m)).getD 0 0 = z0 at *
              clear HE
              go_wp2_with fail
              go_roundw
              case rel => exact ⟨m + 1, by omega, congrArg (Value.int .i64) (by have := HKI.out; omega), by rw [HEN.out]; exact ho3, HG2, hb4⟩
              case measure => simp [intOf]; omega
          · obtain rfl : m = l.length - (i + 1) := by omega
            go_wp2_with fail
            go_roundw
            case rel => exact ⟨i + 1, by omega, by go_num, ho, HG, hb⟩
            case measure => first | (simp [intOf]; done) | (simp [intOf]; omega)
      · obtain rfl : i = l.length := by omega
        obtain ⟨p, hp⟩ := Option.isSome_iff_exists.1 (HO.out (l.length - 1))
        rw [show l.length - 1 + 1 = l.length by omega] at hp
        obtain ⟨D, A, B⟩ := p
        have HV : Hid (gapV l = .tuple #[.int .i64 D, .int .i64 (A : Nat), .int .i64 (B : Nat), .bool true]) := by
          unfold Hid gapV; rw [HL.out, hp]; rfl
        rw [hp] at ho
        clear hp
        obtain ⟨ba, bc, hbv⟩ := ho.slice
        rw [show (enI (some (D, A, B))).length = 3 from rfl] at hbv
        subst hbv
        obtain ⟨gb, rfl, _, hc0⟩ := ho.at 0 (by simp [enI])
        have hc1 := ho.cell 1 (by simp [enI])
        have hc2 := ho.cell 2 (by simp [enI])
        simp only [enI, List.getD_cons_zero, List.getD_cons_succ, List.length_cons, List.length_nil] at hc0 hc1 hc2
        clear ho
        go_wp2_with fail
        go_quiet (fail)
        go_wp2_with fail
        exact bodyPost_ret (v := .tuple #[.int .i64 D, .int .i64 (A : Nat), .int .i64 (B : Nat), .bool true]) (by simp [results, Try.results23, go_sem]) rfl ⟨by rw [HV.out], below_drewN hb _⟩
end Go.Proofs.Ytdlagajnefkklaa
