/- WrongWords: the program's changes. -/
import Derived.Test.YtgagjmnmfgfpfaaWwE
namespace Go.Proofs.Ytgagjmnmfgfpfaa
open Go.RowKit

set_option maxHeartbeats 1000000 in
theorem mk2_any (d : Int) (w : World) :
    Calls Try.prog 114 #[.int .i64 d] w fun e w' => ∃ v', e = .returned v' ∧ OI w.heap.size w' v' [d] ∧ Below w.heap.size w w' := by
  have ho : OI w.heap.size (w.alloc (.cells #[.int .i64 d] 2)) (.slice (some ⟨w.heap.size, 0, none⟩) 1 1) [d] := OV.lit _ _ [.int .i64 d] (Nat.le_refl _) (by simp [maxLen])
  have hb : Below w.heap.size w (w.alloc (.cells #[.int .i64 d] 2)) := (Below.refl _ _).alloc (Nat.le_refl _) _
  go_enter Try.func114, Try.ntmps114
  go_wp2_with fail
  go_ret
  exact ⟨_, rfl, ho, hb⟩
set_option maxRecDepth 100000 in
set_option maxHeartbeats 2000000 in
theorem mk3_any (d : Int) (k6 k9 m : Nat) (fv : Value) (f : List Int) (w : World) (hf : RI w fv f) (h6 : w.cell? ⟨k6, 0, none⟩ = some fv) (h9 : w.cell? ⟨k9, 0, none⟩ = some (.int .i64 m)) (hn : f.length = m + 1) (hm : 1 ≤ m ∧ m ≤ 2) :
    Calls Try.prog 116 #[.int .i64 d, .pointer (some ⟨k6, 0, none⟩), .pointer (some ⟨k9, 0, none⟩)] w fun e w' => ∃ v', e = .returned v' ∧ OI w.heap.size w' v' ((f.set 0 d).set m d) ∧ Below w.heap.size w w' := by
  have HCL := Lib.hid (clone_any fv f w hf (by omega))
  obtain ⟨fa, fc, rfl⟩ := hf.slice
  rw [hn] at h6 HCL
  clear hf
  go_enter Try.func116, Try.ntmps116
  go_wp2_with fail
  refine HCL.out.mono ?_
  rintro e w1 ⟨cv, rfl, ho, hb⟩
  have h9' := (hb.cell (p := ⟨k9, 0, none⟩) (World.block_lt_of_cell? _ _ h9)).trans h9
  rcases OK.shape ho with ⟨_, h0⟩ | ⟨h, cap, rfl, hB, hcap⟩
  · exfalso; rw [h0] at hn; simp at hn
  rw [hn] at ho ⊢
  have c0 := ho.cell 0 (by omega)
  have c1 := ho.cell m (by omega)
  have z0 := ho.frozen 0
  have z1 := ho.frozen m
  have hst := ho.stored 0 d
  have hst2 := hst.1.stored m d
  have HO3 : Hid (OI w.heap.size ((w1.setCell ⟨h, 0, none⟩ (.int .i64 d)).setCell ⟨h, m, none⟩ (.int .i64 d)).drew (.slice (some ⟨h, 0, none⟩) (m + 1) cap) ((f.set 0 d).set m d)) := OK.drew hst2.1
  have HB3 : Hid (Below w.heap.size w ((w1.setCell ⟨h, 0, none⟩ (.int .i64 d)).setCell ⟨h, m, none⟩ (.int .i64 d)).drew) := ((hb.setCell (p := ⟨h, 0, none⟩) hB _).setCell (p := ⟨h, m, none⟩) hB _).drew
  have hbnd : (m : Int) < (m : Int) + 1 := by omega
  have hk9 : k9 < w.heap.size := World.block_lt_of_cell? _ _ h9
  have h9s : (w1.setCell ⟨h, 0, none⟩ (.int .i64 d)).cell? ⟨k9, 0, none⟩ = some (.int .i64 m) := by
    refine Eq.trans ?_ h9'
    exact World.cell?_setCell_other (h := by intro e2; simp only [Addr.mk.injEq, and_true] at e2; omega) ..
  clear hst hst2 ho hb h6 h9 HCL hk9
  go_wp2_with fail
  go_region
  go_wp2_with fail
  go_ret
  exact ⟨_, rfl, HO3.out, HB3.out⟩
/-- The boxes of changes. -/
structure FW (X : Nat) (xs : List Int) (g c k1 k2 k3 k4 i n : Nat) (b : Int) (k5 k6 k7 k9 m : Nat) (w : World) : Prop where
  e : EW X xs g c k1 k2 k3 k4 i n w
  b5 : BX w k5 2 (.int .i64 b)
  b6 : BX w k6 47 (.slice (some ⟨g, i, none⟩) n (c - i))
  b7 : BX w k7 97 (.func (.func 99) #[] #[.pointer (some ⟨k1, 0, none⟩), .pointer (some ⟨k2, 0, none⟩), .pointer (some ⟨k3, 0, none⟩), .pointer (some ⟨k4, 0, none⟩)])
  b9 : BX w k9 3 (.int .i64 m)
section
variable {X : Nat} {xs : List Int} {g c k1 k2 k3 k4 i n : Nat} {b : Int} {k5 k6 k7 k9 m : Nat} {w w' : World}
theorem FW.kt (h : FW X xs g c k1 k2 k3 k4 i n b k5 k6 k7 k9 m w) (hk : KT w w') : FW X xs g c k1 k2 k3 k4 i n b k5 k6 k7 k9 m w' :=
  ⟨h.e.kt hk, h.b5.kt hk, h.b6.kt hk, h.b7.kt hk, h.b9.kt hk⟩
theorem EW.frm (h : EW X xs g c k1 k2 k3 k4 i n w) (hin : i + n ≤ xs.length) : RI w (.slice (some ⟨g, i, none⟩) n (c - i)) ((xs.drop i).take n) := by
  have h1 := RK.dropO h.own.read i (by omega)
  rw [Nat.zero_add] at h1
  exact RK.take h1 n (by simp; omega)
end
/-- What changes leaves: words for what Q tells of. -/
def CPost (X B : Nat) (l : List ByteArray) (Q : ByteArray → Prop) (w : World) (e : Ending) (w' : World) : Prop :=
  e = .returned (.tuple #[]) ∧ ∃ l', Below B w w' ∧ KT w w' ∧ WX X B w' l' ∧ (∀ t, t ∈ l' ↔ t ∈ l ∨ Q t) ∧ l'.length ≤ l.length + 40
theorem CPost.mono {X B : Nat} {l : List ByteArray} {Q Q' : ByteArray → Prop} {w : World} {e : Ending} {w' : World} (h : CPost X B l Q w e w') (hq : ∀ t, Q t ↔ Q' t) : CPost X B l Q' w e w' := by
  obtain ⟨h1, l', h2, h3, h4, h5, h6⟩ := h
  exact ⟨h1, l', h2, h3, h4, fun t => (h5 t).trans (or_congr Iff.rfl (hq t)), h6⟩
theorem WX.le {X B : Nat} {w : World} {l : List ByteArray} (h : WX X B w l) : B ≤ w.heap.size := by
  have := h.lt
  obtain ⟨_, _, _, h⟩ := h
  omega
theorem f0_len {f : List Int} {n : Nat} (h : f.length = n) (h0 : 0 < n) : f.getD 0 0 ∈ f := getD_mem (by omega)
set_option maxRecDepth 100000 in
set_option maxHeartbeats 4000000 in
theorem each2 (X B : Nat) (xs : List Int) (g c k1 k2 k3 k4 i n b k5 k6 k7 k9 m : Nat) (f : List Int) (l : List ByteArray) (w : World) (hF : FW X xs g c k1 k2 k3 k4 i n b k5 k6 k7 k9 m w) (hX : WX X B w l)
    (hin : i + n ≤ xs.length) (hxl : xs.length ≤ 20) (hf : f = (xs.drop i).take n) (hm : n = m + 1) (hn3 : n = 1) (hb36 : b ≤ 36) (hxd : ∀ z ∈ xs, 0 ≤ z ∧ z < (b : Int)) (hl : l.length ≤ 900000) :
    Calls Try.prog 113 #[.func (.func 114) #[] #[], .pointer (some ⟨k5, 0, none⟩), .pointer (some ⟨k6, 0, none⟩), .pointer (some ⟨k7, 0, none⟩)] w (CPost X B l (fun t => ∃ d : Nat, d < b ∧ (d : Int) ≠ f.getD 0 0 ∧ t = wOf (wAt xs i n ([(d : Int)]))) w) := by
  have hfl : f.length = n := by rw [hf, List.length_take, List.length_drop]; omega
  have hfm : ∀ z ∈ f, 0 ≤ z ∧ z < (b : Int) := fun z hz => hxd z (by rw [hf] at hz; exact List.mem_of_mem_drop (List.mem_of_mem_take hz))
  have HFM := Lib.hid hfm
  have HFR : Hid (∀ wr, FW X xs g c k1 k2 k3 k4 i n b k5 k6 k7 k9 m wr → RI wr (.slice (some ⟨g, i, none⟩) n (c - i)) f) := fun wr h => by rw [hf]; exact h.e.frm hin
  have HMK : Hid (∀ (d : Nat) wr, FW X xs g c k1 k2 k3 k4 i n b k5 k6 k7 k9 m wr → Calls Try.prog 114 #[.int .i64 d] wr fun e w' => ∃ v', e = .returned v' ∧ RI w' v' ([(d : Int)]) ∧ Below wr.heap.size wr w') := fun d wr h => by
    refine (mk2_any d wr).mono ?_
    rintro e w' ⟨v', rfl, h1, h2⟩
    exact ⟨v', rfl, OK.read h1, h2⟩
  have HW1 : Hid (∀ (d : Nat) v4 w4 l', d < b → FW X xs g c k1 k2 k3 k4 i n b k5 k6 k7 k9 m w4 → WX X B w4 l' → l'.length ≤ 1000000 → RI w4 v4 ([(d : Int)]) → Calls Try.prog 99 #[v4, .pointer (some ⟨k1, 0, none⟩), .pointer (some ⟨k2, 0, none⟩), .pointer (some ⟨k3, 0, none⟩), .pointer (some ⟨k4, 0, none⟩)] w4 (WPost X B (l' ++ [wOf (wAt xs i n ([(d : Int)]))]) w4)) := fun d v4 w4 l' hd h hx hl' hr =>
    wrong1_any X B xs g c k1 k2 k3 k4 i n v4 _ l' w4 h.e hx hr (by simp [hfl]; try omega) hin hxl (fun z hz => by
      have hu : ∀ z ∈ ([(d : Int)]), 0 ≤ z ∧ z < (b : Int) := fun z hz => by (rw [List.mem_singleton] at hz; omega)
      have := wAt_dig (i := i) (n := n) hxd hu z hz
      omega) hl'
  have HF := Lib.hid hF
  have hn1 : 0 < n := by omega
  have hl40 : b ≤ 40 := by omega
  have HX := Lib.hid hX
  have HIN := Lib.hid hin
  clear hxd hf hfm hin
  have c5 := hF.b5.cell
  go_enter Try.func113, Try.ntmps113
  go_wp2_with fail
  clear c5 hF hX
  go_loopw [7] (fun dv wr => ∃ (d : Nat) (l' : List ByteArray), d ≤ b ∧ dv = .int .i64 d ∧ Hid (Below B w wr) ∧ Hid (KT w wr) ∧ Hid (WX X B wr l') ∧ Hid (∀ t, t ∈ l' ↔ t ∈ l ∨ ∃ e : Nat, e < d ∧ (e : Int) ≠ f.getD 0 0 ∧ t = wOf (wAt xs i n ([(e : Int)]))) ∧ l'.length ≤ l.length + d) (fun dv _ => b - (intOf dv).toNat)
  case atStart => exact ⟨0, l, Nat.zero_le _, rfl, Below.refl _ _, KT.refl _, HX.out, fun t => ⟨.inl, fun h => h.elim id fun ⟨e, he, _⟩ => by omega⟩, by omega⟩
  case round =>
    obtain ⟨d, l', hd, rfl, HB, HK, HXX, HL, hll⟩ := hrel
    by_cases hlt : d < b
    · have hFW := HF.out.kt HK.out
      have d5 := hFW.b5.cell
      have d6 := hFW.b6.cell
      have d7 := hFW.b7.cell
      obtain ⟨g', o', hgo, hg', hc'⟩ := (HFR.out _ hFW).at 0 (by omega)
      simp only [Option.some.injEq, Addr.mk.injEq, and_true] at hgo
      obtain ⟨rfl, rfl⟩ := hgo
      rw [Nat.add_zero] at hc'
      obtain ⟨z, hz⟩ : ∃ z, z = f.getD 0 0 := ⟨_, rfl⟩
      have hltI : (d : Int) < (b : Int) := by omega
      rw [← hz] at hc'
      by_cases he : (d : Int) = z
      · have hbn : ((d : Int) != z) = false := by simp [he]
        have HL2 : Hid (∀ t, t ∈ l' ↔ t ∈ l ∨ ∃ e : Nat, e < d + 1 ∧ (e : Int) ≠ f.getD 0 0 ∧ t = wOf (wAt xs i n ([(e : Int)]))) := fun t => by
          rw [HL.out t]
          refine or_congr Iff.rfl ⟨fun ⟨e, h1, h2⟩ => ⟨e, by omega, h2⟩, fun ⟨e, h1, h2, h3⟩ => ⟨e, ?_, h2, h3⟩⟩
          by_cases hed : e = d
          · subst hed; exact absurd (he.trans hz) h2
          · omega
        clear hFW he hz
        go_wp2_with fail
        go_roundw
        case rel => exact ⟨d + 1, l', by omega, by go_num, HB, HK, HXX, HL2, by omega⟩
        case measure => first | (simp [intOf]; done) | (simp [intOf]; omega)
      · have hbn : ((d : Int) != z) = true := by simpa using he
        have HL2 : Hid (∀ t, t ∈ l' ++ [wOf (wAt xs i n ([(d : Int)]))] ↔ t ∈ l ∨ ∃ e : Nat, e < d + 1 ∧ (e : Int) ≠ f.getD 0 0 ∧ t = wOf (wAt xs i n ([(e : Int)]))) := fun t => by
          rw [List.mem_append, HL.out t, List.mem_singleton]
          constructor
          · rintro ((h | ⟨e, h1, h2⟩) | h)
            · exact .inl h
            · exact .inr ⟨e, by omega, h2⟩
            · exact .inr ⟨d, by omega, fun e => he (e.trans hz.symm), h⟩
          · rintro (h | ⟨e, h1, h2, h3⟩)
            · exact .inl (.inl h)
            · by_cases hed : e = d
              · subst hed; exact .inr h3
              · exact .inl (.inr ⟨e, by omega, h2, h3⟩)
        have HCM : Hid (Calls Try.prog 114 #[.int .i64 d] wr.drew fun e w4 => ∃ v4, e = .returned v4 ∧ RI w4 v4 ([(d : Int)]) ∧ Below wr.heap.size wr w4 ∧ w4.cell? ⟨k7, 0, none⟩ = some (.func (.func 99) #[] #[.pointer (some ⟨k1, 0, none⟩), .pointer (some ⟨k2, 0, none⟩), .pointer (some ⟨k3, 0, none⟩), .pointer (some ⟨k4, 0, none⟩)])) := by
          refine (HMK.out d wr.drew (hFW.kt (Below.kt (Below.refl _ _).drew))).mono ?_
          rintro e w4 ⟨v4, rfl, h1, h2⟩
          have h3 : Below wr.heap.size wr w4 := (Below.refl _ _).drew.trans h2
          exact ⟨v4, rfl, h1, h3, (hFW.kt (Below.kt h3)).b7.cell⟩
        have HCD : Hid (∀ v4 w4, RI w4 v4 ([(d : Int)]) → Below wr.heap.size wr w4 → Calls Try.prog 99 #[v4, .pointer (some ⟨k1, 0, none⟩), .pointer (some ⟨k2, 0, none⟩), .pointer (some ⟨k3, 0, none⟩), .pointer (some ⟨k4, 0, none⟩)] w4 fun e w' => e = .returned (.tuple #[]) ∧ w'.cell? ⟨k7, 0, none⟩ = some (.func (.func 99) #[] #[.pointer (some ⟨k1, 0, none⟩), .pointer (some ⟨k2, 0, none⟩), .pointer (some ⟨k3, 0, none⟩), .pointer (some ⟨k4, 0, none⟩)]) ∧
            Hid (Below B w w') ∧ Hid (KT w w') ∧ Hid (WX X B w' (l' ++ [wOf (wAt xs i n ([(d : Int)]))]))) := fun v4 w4 hr h3 => by
          have h4 := hFW.kt (Below.kt h3)
          refine (HW1.out d v4 w4 l' hlt h4 (HXX.out.later h3) (by omega) hr).mono ?_
          rintro e w' ⟨rfl, p1, p2, p3⟩
          have hBw := HXX.out.le
          exact ⟨rfl, (h4.kt p2).b7.cell, (HB.out.trans (h3.mono hBw)).trans p1, (HK.out.trans (Below.kt h3)).trans p2, p3⟩
        clear hFW he hz
        go_wp2_with fail
        go_region_held3 (fun w' => w'.cell? ⟨k7, 0, none⟩ = some (.func (.func 99) #[] #[.pointer (some ⟨k1, 0, none⟩), .pointer (some ⟨k2, 0, none⟩), .pointer (some ⟨k3, 0, none⟩), .pointer (some ⟨k4, 0, none⟩)])) (go_keep)
          ((first
            | (go_at_call 114; refine HCM.out.mono ?_; rintro e w4 ⟨v4, rfl, hr4, hb4, s7⟩)
            | (go_at_call 99; refine (HCD.out _ _ hr4 hb4).mono ?_; rintro e w5 ⟨rfl, t7, HB5, HK5, HX5⟩)))
        clear hr4 hb4
        go_wp2_with fail
        go_roundw
        case rel => exact ⟨d + 1, _, by omega, by go_num, HB5, HK5, HX5, HL2, by rw [List.length_append]; simp; omega⟩
        case measure => first | (simp [intOf]; done) | (simp [intOf]; omega)
    · obtain rfl : d = b := by omega
      have HFIN : Hid (CPost X B l (fun t => ∃ e : Nat, e < d ∧ (e : Int) ≠ f.getD 0 0 ∧ t = wOf (wAt xs i n ([(e : Int)]))) w (.returned (.tuple #[])) wr) := ⟨rfl, l', HB.out, HK.out, HXX.out, HL.out, by omega⟩
      go_wp2_with fail
      go_end0
      exact HFIN.out
set_option maxRecDepth 100000 in
set_option maxHeartbeats 4000000 in
theorem each3 (X B : Nat) (xs : List Int) (g c k1 k2 k3 k4 i n b k5 k6 k7 k9 m : Nat) (f : List Int) (l : List ByteArray) (w : World) (hF : FW X xs g c k1 k2 k3 k4 i n b k5 k6 k7 k9 m w) (hX : WX X B w l)
    (hin : i + n ≤ xs.length) (hxl : xs.length ≤ 20) (hf : f = (xs.drop i).take n) (hm : n = m + 1) (hn3 : 2 ≤ n ∧ n ≤ 3) (hb36 : b ≤ 36) (hxd : ∀ z ∈ xs, 0 ≤ z ∧ z < (b : Int)) (hl : l.length ≤ 900000) :
    Calls Try.prog 113 #[.func (.func 116) #[] #[.pointer (some ⟨k6, 0, none⟩), .pointer (some ⟨k9, 0, none⟩)], .pointer (some ⟨k5, 0, none⟩), .pointer (some ⟨k6, 0, none⟩), .pointer (some ⟨k7, 0, none⟩)] w (CPost X B l (fun t => ∃ d : Nat, d < b ∧ (d : Int) ≠ f.getD 0 0 ∧ t = wOf (wAt xs i n ((f.set 0 (d : Int)).set m (d : Int)))) w) := by
  have hfl : f.length = n := by rw [hf, List.length_take, List.length_drop]; omega
  have hfm : ∀ z ∈ f, 0 ≤ z ∧ z < (b : Int) := fun z hz => hxd z (by rw [hf] at hz; exact List.mem_of_mem_drop (List.mem_of_mem_take hz))
  have HFM := Lib.hid hfm
  have HFR : Hid (∀ wr, FW X xs g c k1 k2 k3 k4 i n b k5 k6 k7 k9 m wr → RI wr (.slice (some ⟨g, i, none⟩) n (c - i)) f) := fun wr h => by rw [hf]; exact h.e.frm hin
  have HMK : Hid (∀ (d : Nat) wr, FW X xs g c k1 k2 k3 k4 i n b k5 k6 k7 k9 m wr → Calls Try.prog 116 #[.int .i64 d, .pointer (some ⟨k6, 0, none⟩), .pointer (some ⟨k9, 0, none⟩)] wr fun e w' => ∃ v', e = .returned v' ∧ RI w' v' ((f.set 0 (d : Int)).set m (d : Int)) ∧ Below wr.heap.size wr w') := fun d wr h => by
    refine (mk3_any d k6 k9 m _ f wr (HFR.out wr h) h.b6.cell h.b9.cell (by omega) (by omega)).mono ?_
    rintro e w' ⟨v', rfl, h1, h2⟩
    exact ⟨v', rfl, OK.read h1, h2⟩
  have HW1 : Hid (∀ (d : Nat) v4 w4 l', d < b → FW X xs g c k1 k2 k3 k4 i n b k5 k6 k7 k9 m w4 → WX X B w4 l' → l'.length ≤ 1000000 → RI w4 v4 ((f.set 0 (d : Int)).set m (d : Int)) → Calls Try.prog 99 #[v4, .pointer (some ⟨k1, 0, none⟩), .pointer (some ⟨k2, 0, none⟩), .pointer (some ⟨k3, 0, none⟩), .pointer (some ⟨k4, 0, none⟩)] w4 (WPost X B (l' ++ [wOf (wAt xs i n ((f.set 0 (d : Int)).set m (d : Int)))]) w4)) := fun d v4 w4 l' hd h hx hl' hr =>
    wrong1_any X B xs g c k1 k2 k3 k4 i n v4 _ l' w4 h.e hx hr (by simp [hfl]; try omega) hin hxl (fun z hz => by
      have hu : ∀ z ∈ ((f.set 0 (d : Int)).set m (d : Int)), 0 ≤ z ∧ z < (b : Int) := fun z hz => by (rcases List.mem_or_eq_of_mem_set hz with h | h; (rcases List.mem_or_eq_of_mem_set h with h | h; exact HFM.out z h; omega); omega)
      have := wAt_dig (i := i) (n := n) hxd hu z hz
      omega) hl'
  have HF := Lib.hid hF
  have hn1 : 0 < n := by omega
  have hl40 : b ≤ 40 := by omega
  have HX := Lib.hid hX
  have HIN := Lib.hid hin
  clear hxd hf hfm hin
  have c5 := hF.b5.cell
  go_enter Try.func113, Try.ntmps113
  go_wp2_with fail
  clear c5 hF hX
  go_loopw [7] (fun dv wr => ∃ (d : Nat) (l' : List ByteArray), d ≤ b ∧ dv = .int .i64 d ∧ Hid (Below B w wr) ∧ Hid (KT w wr) ∧ Hid (WX X B wr l') ∧ Hid (∀ t, t ∈ l' ↔ t ∈ l ∨ ∃ e : Nat, e < d ∧ (e : Int) ≠ f.getD 0 0 ∧ t = wOf (wAt xs i n ((f.set 0 (e : Int)).set m (e : Int)))) ∧ l'.length ≤ l.length + d) (fun dv _ => b - (intOf dv).toNat)
  case atStart => exact ⟨0, l, Nat.zero_le _, rfl, Below.refl _ _, KT.refl _, HX.out, fun t => ⟨.inl, fun h => h.elim id fun ⟨e, he, _⟩ => by omega⟩, by omega⟩
  case round =>
    obtain ⟨d, l', hd, rfl, HB, HK, HXX, HL, hll⟩ := hrel
    by_cases hlt : d < b
    · have hFW := HF.out.kt HK.out
      have d5 := hFW.b5.cell
      have d6 := hFW.b6.cell
      have d7 := hFW.b7.cell
      obtain ⟨g', o', hgo, hg', hc'⟩ := (HFR.out _ hFW).at 0 (by omega)
      simp only [Option.some.injEq, Addr.mk.injEq, and_true] at hgo
      obtain ⟨rfl, rfl⟩ := hgo
      rw [Nat.add_zero] at hc'
      obtain ⟨z, hz⟩ : ∃ z, z = f.getD 0 0 := ⟨_, rfl⟩
      have hltI : (d : Int) < (b : Int) := by omega
      rw [← hz] at hc'
      by_cases he : (d : Int) = z
      · have hbn : ((d : Int) != z) = false := by simp [he]
        have HL2 : Hid (∀ t, t ∈ l' ↔ t ∈ l ∨ ∃ e : Nat, e < d + 1 ∧ (e : Int) ≠ f.getD 0 0 ∧ t = wOf (wAt xs i n ((f.set 0 (e : Int)).set m (e : Int)))) := fun t => by
          rw [HL.out t]
          refine or_congr Iff.rfl ⟨fun ⟨e, h1, h2⟩ => ⟨e, by omega, h2⟩, fun ⟨e, h1, h2, h3⟩ => ⟨e, ?_, h2, h3⟩⟩
          by_cases hed : e = d
          · subst hed; exact absurd (he.trans hz) h2
          · omega
        clear hFW he hz
        go_wp2_with fail
        go_roundw
        case rel => exact ⟨d + 1, l', by omega, by go_num, HB, HK, HXX, HL2, by omega⟩
        case measure => first | (simp [intOf]; done) | (simp [intOf]; omega)
      · have hbn : ((d : Int) != z) = true := by simpa using he
        have HL2 : Hid (∀ t, t ∈ l' ++ [wOf (wAt xs i n ((f.set 0 (d : Int)).set m (d : Int)))] ↔ t ∈ l ∨ ∃ e : Nat, e < d + 1 ∧ (e : Int) ≠ f.getD 0 0 ∧ t = wOf (wAt xs i n ((f.set 0 (e : Int)).set m (e : Int)))) := fun t => by
          rw [List.mem_append, HL.out t, List.mem_singleton]
          constructor
          · rintro ((h | ⟨e, h1, h2⟩) | h)
            · exact .inl h
            · exact .inr ⟨e, by omega, h2⟩
            · exact .inr ⟨d, by omega, fun e => he (e.trans hz.symm), h⟩
          · rintro (h | ⟨e, h1, h2, h3⟩)
            · exact .inl (.inl h)
            · by_cases hed : e = d
              · subst hed; exact .inr h3
              · exact .inl (.inr ⟨e, by omega, h2, h3⟩)
        have HCM : Hid (Calls Try.prog 116 #[.int .i64 d, .pointer (some ⟨k6, 0, none⟩), .pointer (some ⟨k9, 0, none⟩)] wr.drew fun e w4 => ∃ v4, e = .returned v4 ∧ RI w4 v4 ((f.set 0 (d : Int)).set m (d : Int)) ∧ Below wr.heap.size wr w4 ∧ w4.cell? ⟨k7, 0, none⟩ = some (.func (.func 99) #[] #[.pointer (some ⟨k1, 0, none⟩), .pointer (some ⟨k2, 0, none⟩), .pointer (some ⟨k3, 0, none⟩), .pointer (some ⟨k4, 0, none⟩)])) := by
          refine (HMK.out d wr.drew (hFW.kt (Below.kt (Below.refl _ _).drew))).mono ?_
          rintro e w4 ⟨v4, rfl, h1, h2⟩
          have h3 : Below wr.heap.size wr w4 := (Below.refl _ _).drew.trans h2
          exact ⟨v4, rfl, h1, h3, (hFW.kt (Below.kt h3)).b7.cell⟩
        have HCD : Hid (∀ v4 w4, RI w4 v4 ((f.set 0 (d : Int)).set m (d : Int)) → Below wr.heap.size wr w4 → Calls Try.prog 99 #[v4, .pointer (some ⟨k1, 0, none⟩), .pointer (some ⟨k2, 0, none⟩), .pointer (some ⟨k3, 0, none⟩), .pointer (some ⟨k4, 0, none⟩)] w4 fun e w' => e = .returned (.tuple #[]) ∧ w'.cell? ⟨k7, 0, none⟩ = some (.func (.func 99) #[] #[.pointer (some ⟨k1, 0, none⟩), .pointer (some ⟨k2, 0, none⟩), .pointer (some ⟨k3, 0, none⟩), .pointer (some ⟨k4, 0, none⟩)]) ∧
            Hid (Below B w w') ∧ Hid (KT w w') ∧ Hid (WX X B w' (l' ++ [wOf (wAt xs i n ((f.set 0 (d : Int)).set m (d : Int)))]))) := fun v4 w4 hr h3 => by
          have h4 := hFW.kt (Below.kt h3)
          refine (HW1.out d v4 w4 l' hlt h4 (HXX.out.later h3) (by omega) hr).mono ?_
          rintro e w' ⟨rfl, p1, p2, p3⟩
          have hBw := HXX.out.le
          exact ⟨rfl, (h4.kt p2).b7.cell, (HB.out.trans (h3.mono hBw)).trans p1, (HK.out.trans (Below.kt h3)).trans p2, p3⟩
        clear hFW he hz
        go_wp2_with fail
        go_region_held3 (fun w' => w'.cell? ⟨k7, 0, none⟩ = some (.func (.func 99) #[] #[.pointer (some ⟨k1, 0, none⟩), .pointer (some ⟨k2, 0, none⟩), .pointer (some ⟨k3, 0, none⟩), .pointer (some ⟨k4, 0, none⟩)])) (go_keep)
          ((first
            | (go_at_call 116; refine HCM.out.mono ?_; rintro e w4 ⟨v4, rfl, hr4, hb4, s7⟩)
            | (go_at_call 99; refine (HCD.out _ _ hr4 hb4).mono ?_; rintro e w5 ⟨rfl, t7, HB5, HK5, HX5⟩)))
        clear hr4 hb4
        go_wp2_with fail
        go_roundw
        case rel => exact ⟨d + 1, _, by omega, by go_num, HB5, HK5, HX5, HL2, by rw [List.length_append]; simp; omega⟩
        case measure => first | (simp [intOf]; done) | (simp [intOf]; omega)
    · obtain rfl : d = b := by omega
      have HFIN : Hid (CPost X B l (fun t => ∃ e : Nat, e < d ∧ (e : Int) ≠ f.getD 0 0 ∧ t = wOf (wAt xs i n ((f.set 0 (e : Int)).set m (e : Int)))) w (.returned (.tuple #[])) wr) := ⟨rfl, l', HB.out, HK.out, HXX.out, HL.out, by omega⟩
      go_wp2_with fail
      go_end0
      exact HFIN.out
end Go.Proofs.Ytgagjmnmfgfpfaa
