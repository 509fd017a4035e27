/- LeastGap: the reference's, and the law, for all arguments. -/
import Derived.Test.YtdlagajnefkklaaGap
namespace Go.Proofs.Ytdlagajnefkklaa
open Go.RowKit

set_option maxHeartbeats 4000000 in
theorem specGap_any (v : Value) (l : List ByteArray) (w : World) (hx : RS w v l) (hm : l.length ≤ 1048576) (hz : Hid (∀ k, k < l.length → (sAt l k).size ≤ 1048576)) :
    Calls Try.prog 22 #[v] w fun e w' => e = .returned (gapV l) ∧ Below w.heap.size w w' := by
  obtain ⟨a, c, rfl⟩ := hx.slice
  cases hl : lexB l
  · have HL := Lib.hid hl
    clear hl
    go_enter Try.func22, Try.ntmps22
    go_wp2_with (go_at_call 40; refine (specLex_is _ l _ false HL hx hm hz).mono ?_; rintro e w1 ⟨rfl, hb1⟩)
    exact bodyPost_ret (v := .tuple #[.int .i64 0, .int .i64 0, .int .i64 0, .bool false]) (by simp [results, Try.results22, go_sem]) rfl ⟨by unfold gapV; rw [HL.out]; rfl, hb1⟩
  · have HL := Lib.hid hl
    obtain ⟨hsh, hl2, hl16⟩ := lex_sh hl
    have HSH := Lib.hid hsh
    clear hl hsh
    go_enter Try.func22, Try.ntmps22
    go_wp2_with fail
    refine (specLex_is _ l _ true HL hx hm hz).mono ?_
    rintro e w1 ⟨rfl, hb1⟩
    go_wp2_with fail
    have HG0 : Hid (okG l (gapO l 0)) := fun p hp => by cases hp
    go_loopw [6, 7, 8, 9] (fun dv av bv iv wr => ∃ (i : Nat) (D : Int) (A B : Nat), i ≤ l.length ∧ iv = .int .i64 i ∧ dv = .int .i64 D ∧ av = .int .i64 A ∧ bv = .int .i64 B ∧ Hid (enS (gapO l i) = (D, A, B)) ∧ Hid (okG l (gapO l i)) ∧ Below w.heap.size w wr) (fun _ _ _ iv _ => l.length - (intOf iv).toNat)
    case atStart => exact ⟨0, -1, 0, 0, Nat.zero_le _, rfl, rfl, rfl, rfl, rfl, HG0, hb1⟩
    case round =>
      obtain ⟨i, D, A, B, hi, rfl, rfl, rfl, rfl, HE, HG, hb⟩ := hrel
      clear hb1
      by_cases hil : i < l.length
      · go_wp2_with fail
        go_loopw [6, 7, 8, 10] (fun dv av bv kv wr => ∃ (m : Nat) (D : Int) (A B : Nat), m ≤ l.length - (i + 1) ∧ kv = .int .i64 ((i : Int) + 1 + (m : Int)) ∧ dv = .int .i64 D ∧ av = .int .i64 A ∧ bv = .int .i64 B ∧ Hid (enS (gapK l (gapO l i) i m) = (D, A, B)) ∧ Hid (okG l (gapK l (gapO l i) i m)) ∧ Below w.heap.size w wr) (fun _ _ _ kv _ => l.length - (intOf kv).toNat)
        case atStart => exact ⟨0, D, A, B, Nat.zero_le _, by go_num, rfl, rfl, rfl, HE, HG, hb⟩
        case round =>
          obtain ⟨m, D, A, B, hm1, rfl, rfl, rfl, rfl, HE, HG, hb⟩ := hrel
          have hsz := hb.size
          by_cases hkl : i + 1 + m < l.length
          · obtain ⟨k, hk⟩ : ∃ k, k = i + 1 + m := ⟨_, rfl⟩
            have hkI : (i : Int) + 1 + (m : Int) = (k : Int) := by omega
            rw [hkI]
            have hkl2 : k < l.length := by omega
            obtain ⟨g, off, rfl, hg, hc⟩ := (hx.later hb).at i hil
            obtain ⟨g', off', he', _, hc'⟩ := (hx.later hb).at k hkl2
            simp only [Option.some.injEq, Addr.mk.injEq, and_true] at he'
            obtain ⟨rfl, rfl⟩ := he'
            have hd := dis_bd HSH.out i k hil hkl2
            have HF : Hid (enS (gapK l (gapO l i) i (m + 1)) = if D < 0 ∨ dis l i k < D then (dis l i k, i, k) else (D, A, B)) := by
              have h1 := enS_F HG.out i k
              rw [HE.out] at h1
              have h2 : gapK l (gapO l i) i (m + 1) = gapF l (gapK l (gapO l i) i m) i k := by rw [hk]; rfl
              unfold Hid
              rw [h2, h1]
            have HG2 : Hid (okG l (gapK l (gapO l i) i (m + 1))) := by
              have := okG_F HSH.out HG.out i k hil hkl2
              rw [hk] at this; exact this
            have hs1 := HSH.out i hil
            have hs2 := HSH.out k hkl2
            have HD : Hid (∀ wx, Calls Try.prog 44 #[.string (sAt l i), .string (sAt l k)] wx fun e w' => e = .returned (.int .i64 (dis l i k)) ∧ Below wx.heap.size wx w') := fun wx => l07Distance_any _ _ wx (by omega) (by omega)
            have HKI := Lib.hid hkI
            have f0 : (0 : Int) ≤ (i : Int) := by omega
            have f1 : (i : Int) < (l.length : Int) := by omega
            have f2 : (0 : Int) ≤ (k : Int) := by omega
            have f3 : (k : Int) < (l.length : Int) := by omega
            have hbel : i + 1 + m = k := hk.symm
            clear hk hkI
            generalize dis l i k = d at *
            generalize sAt l i = s1 at *
            generalize sAt l k = s2 at *
            go_wp2_with fail
            go_region_held3 (fun w' => w'.cell? ⟨g, off + i, none⟩ = some (.string s1) ∧ w'.cell? ⟨g, off + k, none⟩ = some (.string s2)) (go_keep)
              (first | (go_at_call 44; refine (HD.out _).mono ?_; rintro e w3 ⟨rfl, hb3⟩; replace hc := (hb3.cell (p := ⟨g, off + i, none⟩) hg).trans hc; replace hc' := (hb3.cell (p := ⟨g, off + k, none⟩) hg).trans hc'))
            have hb4 := hb.drew.trans (hb3.mono hsz)
            by_cases hD : D < 0
            · have HN : Hid (enS (gapK l (gapO l i) i (m + 1)) = (d, i, k)) := by unfold Hid; rw [HF.out, if_pos (.inl hD)]
              go_wp2_with fail
              go_roundw
              case rel => exact ⟨m + 1, d, i, k, by omega, congrArg (Value.int .i64) (by have := HKI.out; omega), rfl, rfl, rfl, HN, HG2, hb4⟩
              case measure => simp [intOf]; omega
            · by_cases hlt : d < D
              · have HN : Hid (enS (gapK l (gapO l i) i (m + 1)) = (d, i, k)) := by unfold Hid; rw [HF.out, if_pos (.inr hlt)]
                go_wp2_with fail
                go_roundw
                case rel => exact ⟨m + 1, d, i, k, by omega, congrArg (Value.int .i64) (by have := HKI.out; omega), rfl, rfl, rfl, HN, HG2, hb4⟩
                case measure => simp [intOf]; omega
              · have HN : Hid (enS (gapK l (gapO l i) i (m + 1)) = (D, A, B)) := by unfold Hid; rw [HF.out, if_neg (fun h => h.elim hD hlt)]
                go_wp2_with fail
                go_roundw
                case rel => exact ⟨m + 1, D, A, B, by omega, congrArg (Value.int .i64) (by have := HKI.out; omega), rfl, rfl, rfl, HN, HG2, hb4⟩
                case measure => simp [intOf]; omega
          · obtain rfl : m = l.length - (i + 1) := by omega
            go_wp2_with fail
            go_roundw
            case rel => exact ⟨i + 1, D, A, B, by omega, by go_num, rfl, rfl, rfl, HE, HG, hb⟩
            case measure => first | (simp [intOf]; done) | (simp [intOf]; omega)
      · obtain rfl : i = l.length := by omega
        have HV : Hid (gapV l = .tuple #[.int .i64 D, .int .i64 (A : Nat), .int .i64 (B : Nat), .bool true]) := by
          unfold Hid gapV; rw [HL.out, HE.out]; rfl
        go_wp2_with fail
        exact bodyPost_ret (v := .tuple #[.int .i64 D, .int .i64 (A : Nat), .int .i64 (B : Nat), .bool true]) (by simp [results, Try.results22, go_sem]) rfl ⟨by rw [HV.out], hb⟩

set_option maxHeartbeats 1000000 in
theorem lawLeastGap_any (v : Value) (l : List ByteArray) (w : World) (hx : RS w v l) (hm : l.length ≤ maxLen) (hz : ∀ k, k < l.length → (sAt l k).size ≤ maxLen) :
    Calls Try.prog 6 #[v] w fun e w' => e = .returned (.bool true) ∧ Below w.heap.size w w' := by
  by_cases hs : ((l.length + szS l : Nat) : Int) ≤ 1048576
  · have hm' : l.length ≤ 1048576 := by omega
    have hz' : Hid (∀ k, k < l.length → (sAt l k).size ≤ 1048576) := fun k hk => by have := szS_at l k hk; omega
    have HS := Lib.hid hs
    have HZ := Lib.hid hz
    obtain ⟨x, y, z, b, hv⟩ := gapV_shape l
    have HI : Hid (∀ w1 v1, RS w1 v1 l → Calls Try.prog 23 #[v1] w1 fun e w' => e = .returned (.tuple #[.int .i64 x, .int .i64 y, .int .i64 z, .bool b]) ∧ Below w1.heap.size w1 w') := fun w1 v1 h => by
      have := implGap_any v1 l w1 h hm' hz'
      rw [hv] at this; exact this
    have HP : Hid (∀ w1 v1, RS w1 v1 l → Calls Try.prog 22 #[v1] w1 fun e w' => e = .returned (.tuple #[.int .i64 x, .int .i64 y, .int .i64 z, .bool b]) ∧ Below w1.heap.size w1 w') := fun w1 v1 h => by
      have := specGap_any v1 l w1 h hm' hz'
      rw [hv] at this; exact this
    clear hs hz hm hv
    go_enter Try.func6, Try.ntmps6
    go_wp2_with fail
    refine (szStringS_yes _ _ _ _ hx (by omega) HS.out).mono ?_
    rintro e w' ⟨r, rfl, HR, hr, rfl⟩
    go_wp2_with fail
    refine (toStringS_any _ _ _ hx hm').mono ?_
    rintro e w1 ⟨t0, rfl, o, hb⟩
    go_wp2_with fail
    refine (HP.out _ _ o.read).mono ?_
    rintro e w2 ⟨rfl, hb2⟩
    have hb := hb.trans (hb2.mono hb.size)
    clear hb2 o
    go_wp2_with fail
    refine (toStringS_any _ _ _ (hx.later hb) hm').mono ?_
    rintro e w3 ⟨x0, rfl, ox, hb2⟩
    have hb := hb.trans (hb2.mono hb.size)
    clear hb2
    go_wp2_with fail
    refine (HI.out _ _ ox.read).mono ?_
    rintro e w4 ⟨rfl, hb2⟩
    have ox := ox.later hb2
    have hb := hb.trans (hb2.mono hb.size)
    clear hb2
    go_wp2_with fail
    refine (toStringS_any _ _ _ (hx.later hb) hm').mono ?_
    rintro e w5 ⟨t1, rfl, ot, hb2⟩
    have ox := ox.later hb2
    have hb := hb.trans (hb2.mono hb.size)
    clear hb2
    go_wp2_with fail
    refine (eqStringS_yes _ _ _ _ ox.read ot.read (by omega)).mono ?_
    rintro e w6 ⟨rfl, hb2⟩
    have hb := hb.trans (hb2.mono hb.size)
    clear hb2
    go_wp2_with fail
    go_ret
    exact ⟨rfl, hb⟩
  · go_enter Try.func6, Try.ntmps6
    go_wp2_with fail
    refine (szStringS_no _ _ _ _ hx (by omega) hm hz (by omega)).mono ?_
    rintro e w' ⟨rfl, rfl⟩
    go_wp2_with fail
    go_ret
    exact ⟨rfl, Below.refl _ _⟩
end Go.Proofs.Ytdlagajnefkklaa
