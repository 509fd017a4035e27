/- UngroupWord: the program's and the reference's, and the law. -/
import Derived.Test.YtdlagajnefkklaaDoorUnP
import Derived.Test.YtdlagajnefkklaaDoorCutS
import Derived.Test.YtdlagajnefkklaaDoorShRepl
namespace Go.Proofs.YtdlagajnefkklaaDoor
open Go.RowKit

def unV (s : ByteArray) (xs : List Int) : Value := if unB s xs then .tuple #[.string (flatS s), .bool true] else .tuple #[.string ByteArray.empty, .bool false]
theorem un_none {s : ByteArray} {xs : List Int} (h : unB s xs = false) : Ending.returned (.tuple #[.string ⟨#[]⟩, .bool false]) = .returned (unV s xs) := by unfold unV; rw [h]; rfl
theorem un_some {s t : ByteArray} {xs : List Int} (h : unB s xs = true) (ht : t = flatS s) : Ending.returned (.tuple #[.string t, .bool true]) = .returned (unV s xs) := by unfold unV; rw [h, ht]; rfl
theorem unV_shape (s : ByteArray) (xs : List Int) : ∃ (x : ByteArray) (c : Bool), unV s xs = .tuple #[.string x, .bool c] := by
  unfold unV; split <;> exact ⟨_, _, rfl⟩
theorem flatS_size (s : ByteArray) : (flatS s).size ≤ s.size := by
  rw [Lib.size_eq, Lib.size_eq, flatS_data]; exact List.length_filter_le _ _
def UnPost (s : ByteArray) (xs : List Int) (w : World) (e : Ending) (w' : World) : Prop := e = .returned (unV s xs) ∧ Below w.heap.size w w'
theorem replD_any (s : ByteArray) (m : Int) (w : World) (hs : s.size ≤ 1048576) (hm : w.cell? ⟨0, 0, none⟩ = some (.int .i64 m)) :
    Calls Tryd.prog 24 #[.string s, .string ⟨#[45]⟩, .string ⟨#[]⟩] w fun e w' => e = .returned (.string (flatS s)) ∧ Below w.heap.size w w' := by
  refine (sh_strings_ReplaceAll s dashB ⟨#[]⟩ m w (by omega) hm (by decide) ?_).mono fun e w' ⟨he, hb⟩ => ⟨?_, hb⟩
  · show s.size + Lib.countB s dashB * 0 ≤ _
    omega
  · rw [he, ← repl_flat]; rfl
set_option maxHeartbeats 2000000 in
theorem implUn_any (s : ByteArray) (v : Value) (xs : List Int) (w : World) (hs : s.size ≤ 1048576) (hx : RI w v xs) (hm : xs.length ≤ 1048576) (hM : ∃ m, w.cell? ⟨0, 0, none⟩ = some (.int .i64 m)) :
    Calls Tryd.prog 9 #[.string s, v] w (UnPost s xs w) := by
  obtain ⟨m, hM⟩ := hM
  by_cases hl : 40 < s.size
  · have HR : Hid (unB s xs = false) := by
      cases h : unB s xs
      · rfl
      · have := (un_yes h).2.2; omega
    obtain ⟨a, c, rfl⟩ := hx.slice
    go_enter Tryd.func9, Tryd.ntmps9
    go_wp2_with fail
    go_ret2
    exact ⟨un_none HR.out, Below.refl _ _⟩
  · have HX := Lib.hid hx
    have HC := Lib.hid (replD_any s m w hs hM)
    have hfs : (flatS s).size ≤ 1048576 := by have := flatS_size s; omega
    have HGW : Hid (∀ (t : ByteArray) (b : Bool), gwS (flatS s) xs = t → gwB (flatS s) xs = b → ∀ wx v, RI wx v xs → Calls Tryd.prog 14 #[.string (flatS s), v] wx fun e w' => e = .returned (.tuple #[.string t, .bool b]) ∧ Below wx.heap.size wx w') := fun t b h1 h2 wx v h => by
      rw [← h1, ← h2]; exact implGw_any (flatS s) v xs wx hfs h hm
    obtain ⟨a, c, rfl⟩ := hx.slice
    clear hx hM hfs
    cases hu : unB s xs
    · have HR := Lib.hid hu
      obtain ⟨t, ht⟩ : ∃ t, gwS (flatS s) xs = t := ⟨_, rfl⟩
      cases hb : gwB (flatS s) xs
      · have HG := Lib.hid (HGW.out t false ht hb)
        clear ht hb hu HGW
        go_enter Tryd.func9, Tryd.ntmps9
        go_wp2_with fail
        refine HC.out.mono ?_
        rintro e w1 ⟨rfl, hb1⟩
        go_wp2_with fail
        refine (HG.out _ _ (HX.out.later hb1)).mono ?_
        rintro e w2 ⟨rfl, hb2⟩
        go_wp2_with fail
        go_ret2
        exact ⟨un_none HR.out, hb1.trans (hb2.mono hb1.size)⟩
      · have hne : t ≠ s := by
          rcases un_no hu with h | h
          · rw [hb] at h; cases h
          · rw [ht] at h; exact h
        have e1 := str_ne hne
        have HG := Lib.hid (HGW.out t true ht hb)
        clear ht hb hu hne HGW
        go_enter Tryd.func9, Tryd.ntmps9
        go_wp2_with fail
        refine HC.out.mono ?_
        rintro e w1 ⟨rfl, hb1⟩
        go_wp2_with fail
        refine (HG.out _ _ (HX.out.later hb1)).mono ?_
        rintro e w2 ⟨rfl, hb2⟩
        go_wp2_with fail
        go_ret2
        exact ⟨un_none HR.out, hb1.trans (hb2.mono hb1.size)⟩
    · have HR := Lib.hid hu
      obtain ⟨h1, h2, _⟩ := un_yes hu
      have HG := Lib.hid (HGW.out s true h2 h1)
      have e1 := str_eq s
      clear hu h1 h2 HGW
      go_enter Tryd.func9, Tryd.ntmps9
      go_wp2_with fail
      refine HC.out.mono ?_
      rintro e w1 ⟨rfl, hb1⟩
      go_wp2_with fail
      refine (HG.out _ _ (HX.out.later hb1)).mono ?_
      rintro e w2 ⟨rfl, hb2⟩
      go_wp2_with fail
      go_ret2
      exact ⟨un_some HR.out rfl, hb1.trans (hb2.mono hb1.size)⟩
theorem unB_sz {s : ByteArray} {xs : List Int} (h : szsB xs = false) : unB s xs = false := by unfold unB; rw [h]; rfl
theorem unB_dig {s : ByteArray} {xs : List Int} (h : digB (flatS s) 36 20 = false) : unB s xs = false := by unfold unB; rw [h]; simp
theorem unB_ne {s : ByteArray} {xs : List Int} (h : szL s ≠ xs) : unB s xs = false := by unfold unB; rw [decide_eq_false h]; simp
theorem unB_sum {s : ByteArray} {xs : List Int} (h : 20 < xs.sum) : unB s xs = false := by
  cases hu : unB s xs
  · rfl
  · unfold unB at hu
    rw [Bool.and_eq_true, Bool.and_eq_true, decide_eq_true_eq] at hu
    have h1 := digB_size hu.2.2
    have h2 := szL_sum s
    rw [hu.2.1] at h2
    omega
theorem unB_yes {s : ByteArray} {xs : List Int} (h1 : szsB xs = true) (h2 : szL s = xs) (h3 : digB (flatS s) 36 20 = true) : unB s xs = true := by unfold unB; rw [h1, decide_eq_true h2, h3]; rfl
theorem szL_len (s : ByteArray) : (szL s).length = (cutS s).length := by simp [szL]
theorem szL_at {s : ByteArray} {i : Nat} (h : i < (cutS s).length) : (szL s).getD i 0 = ((sAt (cutS s) i).size : Int) := by
  unfold szL; simp [h]
theorem szL_ext {s : ByteArray} {xs : List Int} (hl : (cutS s).length = xs.length) (h : ∀ i, i < xs.length → ((sAt (cutS s) i).size : Int) = xs.getD i 0) : szL s = xs := by
  apply List.ext_getElem
  · rw [szL_len]; exact hl
  · intro i h1 h2
    have := h i h2
    rw [← szL_at (by omega), getD_eq h1, getD_eq h2] at this
    exact this
/-- The pieces so far in a row. -/
def preS (s : ByteArray) (i : Nat) : List UInt8 := (((cutS s).take i).map (·.data.toList)).flatten
theorem preS_succ {s : ByteArray} {i : Nat} (h : i < (cutS s).length) : preS s (i + 1) = preS s i ++ (sAt (cutS s) i).data.toList := by
  unfold preS
  rw [List.take_succ_eq_append_getElem h, List.map_append, List.flatten_append]
  simp [h]
theorem preS_end (s : ByteArray) {o : ByteArray} (h : o.data.toList = preS s (cutS s).length) : o = flatS s := by
  apply ba_ext
  rw [h, flatS_cut]; unfold preS; rw [List.take_length]
theorem preS_size (s : ByteArray) {o : ByteArray} {i : Nat} (hi : i ≤ (cutS s).length) (h : o.data.toList = preS s i) : o.size ≤ s.size := by
  have h1 := flatS_size s
  rw [Lib.size_eq (flatS s), flatS_cut] at h1
  rw [Lib.size_eq o, h]
  unfold preS
  have h2 : ((cutS s).map (·.data.toList)).flatten = (((cutS s).take i).map (·.data.toList)).flatten ++ (((cutS s).drop i).map (·.data.toList)).flatten := by
    rw [← List.flatten_append, ← List.map_append, List.take_append_drop]
  rw [h2, List.length_append] at h1
  omega
set_option maxRecDepth 100000 in
set_option maxHeartbeats 4000000 in
theorem specUn_any (s : ByteArray) (v : Value) (xs : List Int) (w : World) (hs : s.size ≤ 1048576) (hx : RI w v xs) (hm : xs.length ≤ 1048576) :
    Calls Tryd.prog 7 #[.string s, v] w (UnPost s xs w) := by
  have HZ : Hid (∀ b, szsB xs = b → Calls Tryd.prog 21 #[v] w (SzIs xs b xs.sum w)) := fun b hb => (l07Sizes_any v xs w hx hm).mono fun e w' ⟨r, h1, h2, h3⟩ => ⟨r, by rw [h1, hb], fun h => h2.out (hb.trans h), h3⟩
  have HX := Lib.hid hx
  obtain ⟨a, c, rfl⟩ := hx.slice
  have hk1 : (cutS s).length ≤ 1048577 := by have := cutS_sum s; omega
  clear hx
  cases h1 : szsB xs
  · have HC := Lib.hid (HZ.out _ h1)
    have HR := Lib.hid (unB_sz (s := s) h1)
    clear h1 HZ
    go_enter Tryd.func7, Tryd.ntmps7
    go_wp2_with fail
    refine HC.out.mono ?_
    rintro e w1 ⟨r, rfl, _, rfl⟩
    go_wp2_with fail
    refine (l01Cut_any s _ hs).mono ?_
    rintro e w2 ⟨v2, rfl, ho, hb⟩
    obtain ⟨pa, pc, rfl⟩ := ho.read.slice
    go_wp2_with fail
    go_ret2
    exact ⟨un_none HR.out, hb⟩
  · have HC := Lib.hid (HZ.out _ h1)
    have H1 := Lib.hid h1
    clear h1 HZ
    go_enter Tryd.func7, Tryd.ntmps7
    go_wp2_with fail
    refine HC.out.mono ?_
    rintro e w1 ⟨r, rfl, hr, rfl⟩
    have HSM := Lib.hid (hr.out rfl)
    clear hr HC
    go_wp2_with fail
    refine (l01Cut_any s _ hs).mono ?_
    rintro e w2 ⟨v2, rfl, ho, hb⟩
    have hp := ho.read
    obtain ⟨pa, pc, rfl⟩ := hp.slice
    have hx := HX.out.later hb
    clear ho
    by_cases h20 : 20 < r
    · have HR : Hid (unB s xs = false) := unB_sum (by rw [← HSM.out]; exact h20)
      go_wp2_with fail
      go_ret2
      exact ⟨un_none HR.out, hb⟩
    by_cases hlen : (cutS s).length = xs.length
    · have HL := Lib.hid hlen
      have b0 : (((cutS s).length : Int) != xs.length) = false := by simp; omega
      have hxl : xs.length = (cutS s).length := hlen.symm
      clear hlen
      go_wp2_with fail
      go_loopw [9, 10] (fun ov iv wr => ∃ (o : ByteArray) (i : Nat), i ≤ (cutS s).length ∧ iv = .int .i64 i ∧ ov = .string o ∧ o.size ≤ s.size ∧ Hid (o.data.toList = preS s i) ∧ Hid (∀ j, j < i → ((sAt (cutS s) j).size : Int) = xs.getD j 0) ∧ RS wr (.slice pa (cutS s).length pc) (cutS s) ∧ RI wr (.slice a xs.length c) xs ∧ Below w.heap.size w wr) (fun _ iv _ => (cutS s).length - (intOf iv).toNat)
      case atStart => exact ⟨ByteArray.empty, 0, Nat.zero_le _, rfl, rfl, Nat.zero_le _, rfl, fun j hj => by omega, hp, hx, hb⟩
      case round =>
        clear hp hx hb
        obtain ⟨o, i, hi, rfl, rfl, hoz, HO, HE, hp, hx, hb⟩ := hrel
        by_cases hlt : i < (cutS s).length
        · obtain ⟨g, off, rfl, hg, hc⟩ := hp.at i hlt
          obtain ⟨g2, off2, rfl, hg2, hc2⟩ := hx.at i (by omega)
          have HPS := Lib.hid (preS_succ hlt)
          have HUN : Hid (((sAt (cutS s) i).size : Int) ≠ xs.getD i 0 → unB s xs = false) := fun h => unB_ne fun e => h (by rw [← szL_at hlt, e])
          have HEN : Hid (((sAt (cutS s) i).size : Int) = xs.getD i 0 → ∀ j, j < i + 1 → ((sAt (cutS s) j).size : Int) = xs.getD j 0) := fun h j hj => by
            by_cases e : j = i
            · subst e; exact h
            · exact HE.out j (by omega)
          have HOZ : Hid (∀ q : ByteArray, q.data.toList = preS s (i + 1) → q.size ≤ s.size) := fun q hq => preS_size s hlt hq
          generalize hT : sAt (cutS s) i = T at *
          generalize hZ : xs.getD i 0 = z at *
          clear hT hZ
          have HOT : Hid ((o ++ T).data.toList = preS s (i + 1)) := by unfold Hid; rw [HPS.out, ← HO.out]; simp
          have hot := HOZ.out _ HOT.out
          have htz : o.size + T.size ≤ 1048576 := by have : (o ++ T).size = o.size + T.size := ByteArray.size_append; omega
          have f0 : (0 : Int) ≤ (i : Int) := by omega
          have f1 : (i : Int) < ((cutS s).length : Int) := by omega
          by_cases hz : (T.size : Int) = z
          · have b1 : ((T.size : Int) != z) = false := by simp [hz]
            have HE2 := Lib.hid (HEN.out hz)
            clear hz HUN HEN HPS HOZ
            go_wp2_with fail
            go_quiet (fail)
            have hb2 := below_drewN hb nq
            have hp2 := hp.later (below_drewN (Below.refl _ _) nq)
            have hx2 := hx.later (below_drewN (Below.refl _ _) nq)
            replace hc := ((below_drewN (Below.refl _ _) nq).cell (p := ⟨g, off + i, none⟩) hg).trans hc
            generalize wr.drewN nq = wq at *
            clear hc2
            go_wp2_with fail
            go_roundw
            case rel => exact ⟨o ++ T, i + 1, by omega, by go_num, rfl, hot, HOT, HE2, hp2, hx2, hb2⟩
            case measure => first | (simp [intOf]; done) | (simp [intOf]; omega)
          · have b1 : ((T.size : Int) != z) = true := by simpa using hz
            have HR := Lib.hid (HUN.out hz)
            clear hz HUN HEN HPS HOZ
            go_wp2_with fail
            go_quiet (fail)
            go_wp2_with fail
            go_ret2
            exact ⟨un_none HR.out, below_drewN hb _⟩
        · obtain rfl : i = (cutS s).length := by omega
          have HF := Lib.hid (preS_end s HO.out)
          have HZL : Hid (szL s = xs) := szL_ext HL.out fun j hj => HE.out j (by have := HL.out; omega)
          have HW : Hid (∀ b, digB (flatS s) 36 20 = b → ∀ wx, Calls Tryd.prog 23 #[.string o, .int .i64 36] wx fun e w' => e = .returned (.bool b) ∧ wx = w') := fun b h wx => by
            have := l01Word_any o 36 wx (by omega) (by omega)
            rw [HF.out] at this ⊢
            rw [digB36] at h
            rw [← h]
            have e : decide ((flatS s).size ≤ 20) = decide (((flatS s).size : Int) ≤ 20) := decide_eq_decide.2 (by omega)
            rw [e] at this
            exact this
          cases hd : digB (flatS s) 36 20
          · have HC := Lib.hid (HW.out _ hd)
            have HR := Lib.hid (unB_dig (xs := xs) hd)
            clear hd HW
            go_wp2_with fail
            refine (HC.out _).mono ?_
            rintro e w5 ⟨rfl, rfl⟩
            go_wp2_with fail
            go_ret2
            exact ⟨un_none HR.out, hb⟩
          · have HC := Lib.hid (HW.out _ hd)
            have HR := Lib.hid (unB_yes H1.out HZL.out hd)
            clear hd HW
            go_wp2_with fail
            refine (HC.out _).mono ?_
            rintro e w5 ⟨rfl, rfl⟩
            go_wp2_with fail
            go_ret2
            exact ⟨un_some HR.out HF.out, hb⟩
    · have HR : Hid (unB s xs = false) := unB_ne fun e => hlen (by rw [← e, szL_len])
      have b0 : (((cutS s).length : Int) != xs.length) = true := by simp; omega
      go_wp2_with fail
      go_ret2
      exact ⟨un_none HR.out, hb⟩
end Go.Proofs.YtdlagajnefkklaaDoor
