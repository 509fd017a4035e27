/- The reference's l02Wrong: all pairs of an error of a kind. -/
import Derived.Test.YtgagjmnmfgfpfaaWwT
namespace Go.Proofs.Ytgagjmnmfgfpfaa
open Go.RowKit

def L02Post (k : Int) (b : Nat) (w : World) (e : Ending) (w' : World) : Prop :=
  ∃ vf vt fs ts, e = .returned (.tuple #[vf, vt]) ∧ RT w' vf fs ∧ RT w' vt ts ∧ fs.length = ts.length ∧ fs.length ≤ 50000 ∧ (∀ f u, P2 fs ts f u ↔ Pr k b f u) ∧ Below w.heap.size w w'
theorem RW0 {m a c : Nat} {f u : List Int} : RW 0 m a c f u ↔ a ≠ c ∧ f = [(a : Int)] ∧ u = [(c : Int)] := by unfold RW; simp
theorem RW1 {m a c : Nat} {f u : List Int} : RW 1 m a c f u ↔ a ≠ c ∧ f = [(a : Int), (c : Int)] ∧ u = [(c : Int), (a : Int)] := by unfold RW; simp
theorem RW3 {m a c : Nat} {f u : List Int} : RW 3 m a c f u ↔ a ≠ c ∧ f = [(a : Int), (a : Int)] ∧ u = [(c : Int), (c : Int)] := by unfold RW; simp
theorem RW2 {m a c : Nat} {f u : List Int} : RW 2 m a c f u ↔ ∃ e : Nat, e < m ∧ a ≠ e ∧ f = [(a : Int), (c : Int), (e : Int)] ∧ u = [(e : Int), (c : Int), (a : Int)] := by unfold RW; simp
theorem RW4 {m a c : Nat} {f u : List Int} : RW 4 m a c f u ↔ ∃ e : Nat, e < m ∧ a ≠ e ∧ f = [(a : Int), (c : Int), (a : Int)] ∧ u = [(e : Int), (c : Int), (e : Int)] := by unfold RW; simp
theorem RW5 {m a c : Nat} {f u : List Int} : RW 5 m a c f u ↔ (a = 1 ∧ 2 ≤ c ∧ c ≤ 9 ∧ f = [1, (c : Int)] ∧ u = [(c : Int), 0]) ∨ (c = 0 ∧ 2 ≤ a ∧ a ≤ 9 ∧ f = [(a : Int), 0] ∧ u = [1, (a : Int)]) := by unfold RW; simp
theorem RW2s {e a c : Nat} {f u : List Int} : RW 2 (e + 1) a c f u ↔ RW 2 e a c f u ∨ (a ≠ e ∧ f = [(a : Int), (c : Int), (e : Int)] ∧ u = [(e : Int), (c : Int), (a : Int)]) := by
  rw [RW2, RW2]
  constructor
  · rintro ⟨x, h1, h2⟩
    by_cases hx : x = e
    · subst hx; exact .inr h2
    · exact .inl ⟨x, by omega, h2⟩
  · rintro (⟨x, h1, h2⟩ | h)
    · exact ⟨x, by omega, h2⟩
    · exact ⟨e, by omega, h⟩
theorem RW4s {e a c : Nat} {f u : List Int} : RW 4 (e + 1) a c f u ↔ RW 4 e a c f u ∨ (a ≠ e ∧ f = [(a : Int), (c : Int), (a : Int)] ∧ u = [(e : Int), (c : Int), (e : Int)]) := by
  rw [RW4, RW4]
  constructor
  · rintro ⟨x, h1, h2⟩
    by_cases hx : x = e
    · subst hx; exact .inr h2
    · exact .inl ⟨x, by omega, h2⟩
  · rintro (⟨x, h1, h2⟩ | h)
    · exact ⟨x, by omega, h2⟩
    · exact ⟨e, by omega, h⟩
theorem RW2z {a c : Nat} {f u : List Int} : ¬ RW 2 0 a c f u := by rw [RW2]; rintro ⟨x, h, _⟩; omega
theorem RW4z {a c : Nat} {f u : List Int} : ¬ RW 4 0 a c f u := by rw [RW4]; rintro ⟨x, h, _⟩; omega

set_option maxRecDepth 100000 in
set_option maxHeartbeats 4000000 in
theorem l02W0 (b : Nat) (w : World) (hb2 : 2 ≤ b ∧ b ≤ 36) (h5 : (0 : Int) = 5 → 10 ≤ (b : Int)) :
    Calls Try.prog 86 #[.int .i64 b, .int .i64 0] w (L02Post 0 b w) := by
  have H5 := Lib.hid h5
  clear h5
  go_enter Try.func86, Try.ntmps86
  go_wp2_with fail
  have hbA : Below w.heap.size w ((w.alloc (.cells #[] 47)).alloc (.cells #[] 47)) := ((Below.refl _ _).alloc (Nat.le_refl _) _).alloc (by simp) _
  have hTA : Two w.heap.size ((w.alloc (.cells #[] 47)).alloc (.cells #[] 47)) (.slice (some ⟨w.heap.size, 0, none⟩) 0 0) (.slice (some ⟨w.heap.size + 1, 0, none⟩) 0 0) [] [] [] [] :=
    ⟨OV.alloc (OV.made _ _ (Nat.le_refl _)) _, by have := OV.made (B := w.heap.size) 47 (w.alloc (.cells #[] 47)) (by simp); simpa using this, fun k hk e => by simp [Value.ownBlock] at hk e; omega, rfl, rfl, fun j hj => by simp at hj, fun j hj => by simp at hj⟩
  generalize (w.alloc (.cells #[] 47)).alloc (.cells #[] 47) = w1 at *
  generalize Value.slice (some ⟨w.heap.size, 0, none⟩) 0 0 = v0 at *
  generalize Value.slice (some ⟨w.heap.size + 1, 0, none⟩) 0 0 = v1 at *
  go_loopw [6, 7, 8] (fun fv tv av wr => ∃ (a : Nat) (rf rt : List Value) (fs ts : List (List Int)), a ≤ b ∧ av = .int .i64 a ∧ Two w.heap.size wr fv tv rf rt fs ts ∧ Hid (fs.length = ts.length) ∧ fs.length ≤ a * 1332 ∧ Hid (∀ f u, P2 fs ts f u ↔ PU b (RW 0 b) a 0 f u) ∧ Below w.heap.size w wr) (fun _ _ av _ => b - (intOf av).toNat)
  case atStart => exact ⟨0, [], [], [], [], Nat.zero_le _, rfl, hTA, rfl, by simp, fun f u => ⟨fun h => absurd h P2.nil, fun h => absurd h PU.start⟩, hbA⟩
  case round =>
    clear hTA hbA
    obtain ⟨a, rf, rt, fs, ts, ha, rfl, hT, HL, hll, HP, hb⟩ := hrel
    by_cases hla : a < b
    · go_wp2_with fail
      go_loopw [6, 7, 9] (fun fv tv cv wr => ∃ (c : Nat) (rf rt : List Value) (fs ts : List (List Int)), c ≤ b ∧ cv = .int .i64 c ∧ Two w.heap.size wr fv tv rf rt fs ts ∧ Hid (fs.length = ts.length) ∧ fs.length ≤ a * 1332 + c * 37 ∧ Hid (∀ f u, P2 fs ts f u ↔ PU b (RW 0 b) a c f u) ∧ Below w.heap.size w wr) (fun _ _ cv _ => b - (intOf cv).toNat)
      case atStart => exact ⟨0, rf, rt, fs, ts, Nat.zero_le _, rfl, hT, HL, by omega, HP, hb⟩
      case round =>
        clear hT hb HP HL hll rf rt fs ts
        obtain ⟨c, rf, rt, fs, ts, hc, rfl, hT, HL, hll, HP, hb⟩ := hrel
        have hz := hb.size
        by_cases hlc : c < b
        · skip
          by_cases hac : a = c
          · have hbn : ((a : Int) != (c : Int)) = false := by simp [hac]
            have HP2 : Hid (∀ f u, P2 fs ts f u ↔ PU b (RW 0 b) a (c + 1) f u) := fun f u => by
              rw [HP.out f u, PU.step hla hlc, RW0]
              exact ⟨.inl, fun h => h.elim id fun h => absurd hac h.1⟩
            clear hac
            go_wp2_with fail
            go_roundw
            case rel => exact ⟨c + 1, rf, rt, fs, ts, by omega, by go_num, hT, HL, by omega, HP2, hb⟩
            case measure => first | (simp [intOf]; done) | (simp [intOf]; omega)
          · have hbn : ((a : Int) != (c : Int)) = true := by simp; omega
            have HAC := Lib.hid hac
            clear hac
            obtain ⟨fa, fc, rfl⟩ := hT.f.slice
            obtain ⟨ta, tc, rfl⟩ := hT.t.slice
            have hlf : rf.length ≤ 1099511627776 := by rw [hT.lf]; omega
            have hcv : ((wr.alloc (.cells #[.int .i64 a] 2)).alloc (.cells #[.slice (some ⟨wr.heap.size, 0, none⟩) 1 1] 47)).cell? ⟨wr.heap.size + 1, 0, none⟩ = some (.slice (some ⟨wr.heap.size, 0, none⟩) 1 1) := by rw [show wr.heap.size + 1 = (wr.alloc (.cells #[.int .i64 a] 2)).heap.size by simp]; exact World.cell?_alloc_at _ _ _ _ rfl
            go_upto_region 13 with (at_builtin; refine wpl_appL Try.underlying91 info_row rfl (by omega) rfl _ _ rfl w.heap.size _ _ rfl (OV.alloc (OV.alloc hT.f _) _) _ _ _ rfl hcv rfl hlf (by simp; omega) ?_; intro v5 w5 hv5 hg5 hL5)
            have hbA : Below wr.heap.size wr ((wr.alloc (.cells #[.int .i64 a] 2)).alloc (.cells #[.slice (some ⟨wr.heap.size, 0, none⟩) 1 1] 47)) := ((Below.refl _ _).alloc (Nat.le_refl _) _).alloc (by simp) _
            have huA : OI w.heap.size ((wr.alloc (.cells #[.int .i64 a] 2)).alloc (.cells #[.slice (some ⟨wr.heap.size, 0, none⟩) 1 1] 47)) (.slice (some ⟨wr.heap.size, 0, none⟩) 1 1) [(a : Int)] := OV.alloc (OV.lit _ _ [.int .i64 a] hz (by simp [maxLen])) _
            have hT5 := (hT.later hbA).pushF huA hv5 hg5 hL5
            have hb5 := own_below (hb.trans (hbA.mono hz)) (hT.later hbA).f hg5 (Nat.le_trans hz hbA.size)
            have hz5 := hb5.size
            clear hv5 hg5 hL5 huA hbA hb hz
            have hlt5 : rt.length ≤ 1099511627776 := by rw [hT.lt]; have := HL.out; omega
            have hcv5 : ((w5.alloc (.cells #[.int .i64 c] 2)).alloc (.cells #[.slice (some ⟨w5.heap.size, 0, none⟩) 1 1] 47)).cell? ⟨w5.heap.size + 1, 0, none⟩ = some (.slice (some ⟨w5.heap.size, 0, none⟩) 1 1) := by rw [show w5.heap.size + 1 = (w5.alloc (.cells #[.int .i64 c] 2)).heap.size by simp]; exact World.cell?_alloc_at _ _ _ _ rfl
            go_wp2_with (at_builtin; refine wpl_appL Try.underlying91 info_row rfl (by omega) rfl _ _ rfl w.heap.size _ _ rfl (OV.alloc (OV.alloc hT5.t _) _) _ _ _ rfl hcv5 rfl hlt5 (by simp; omega) ?_; intro v6 w6 hv6 hg6 hL6)
            have hbA : Below w5.heap.size w5 ((w5.alloc (.cells #[.int .i64 c] 2)).alloc (.cells #[.slice (some ⟨w5.heap.size, 0, none⟩) 1 1] 47)) := ((Below.refl _ _).alloc (Nat.le_refl _) _).alloc (by simp) _
            have huA : OI w.heap.size ((w5.alloc (.cells #[.int .i64 c] 2)).alloc (.cells #[.slice (some ⟨w5.heap.size, 0, none⟩) 1 1] 47)) (.slice (some ⟨w5.heap.size, 0, none⟩) 1 1) [(c : Int)] := OV.alloc (OV.lit _ _ [.int .i64 c] hz5 (by simp [maxLen])) _
            have hT6 := ((hT5.later hbA).swap.pushF huA hv6 hg6 hL6).swap
            have hb6 := own_below (hb5.trans (hbA.mono hz5)) (hT5.later hbA).t hg6 (Nat.le_trans hz5 hbA.size)
            clear hv6 hg6 hL6 huA hbA hb5 hz5 hT5 hT
            have HP6 := Lib.hid (fun f u => (P2.snoc (f0 := [(a : Int)]) (u0 := [(c : Int)]) (f := f) (u := u) HL.out).trans (or_congr (HP.out f u) Iff.rfl))
            have hl6 : (fs ++ [[(a : Int)]]).length ≤ fs.length + 1 := by simp
            have HL6 : Hid ((fs ++ [[(a : Int)]]).length = (ts ++ [[(c : Int)]]).length) := by unfold Hid; rw [List.length_append, List.length_append, HL.out]; rfl
            generalize fs ++ [[(a : Int)]] = fs6 at *
            generalize ts ++ [[(c : Int)]] = ts6 at *
            have HP2 : Hid (∀ f u, P2 fs6 ts6 f u ↔ PU b (RW 0 b) a (c + 1) f u) := fun f u => by
              rw [HP6.out f u, PU.step hla hlc, RW0]
              exact ⟨fun h => h.elim .inl fun h => .inr ⟨HAC.out, h⟩, fun h => h.elim .inl fun h => .inr h.2⟩
            go_roundw
            case rel => exact ⟨c + 1, _, _, _, _, by omega, by go_num, hT6, HL6, by omega, HP2, hb6⟩
            case measure => first | (simp [intOf]; done) | (simp [intOf]; omega)
        · obtain rfl : c = b := by omega
          have HP2 : Hid (∀ f u, P2 fs ts f u ↔ PU c (RW 0 c) (a + 1) 0 f u) := fun f u => (HP.out f u).trans PU.next.symm
          go_wp2_with fail
          go_roundw
          case rel => exact ⟨a + 1, rf, rt, fs, ts, by omega, by go_num, hT, HL, by omega, HP2, hb⟩
          case measure => first | (simp [intOf]; done) | (simp [intOf]; omega)
    · obtain rfl : a = b := by omega
      have HR : Hid (∀ f u, P2 fs ts f u ↔ Pr 0 a f u) := fun f u => (HP.out f u).trans (PU.stop.trans (RW_Pr (by first | exact H5.out | exact fun _ => H5.out trivial) hb2.1))
      have hR1 := hT.readF
      have hR2 := hT.swap.readF
      obtain ⟨fa, fc, rfl⟩ := hR1.slice
      obtain ⟨ta, tc, rfl⟩ := hR2.slice
      go_wp2_with fail
      go_ret2
      exact ⟨_, _, fs, ts, rfl, hR1, hR2, HL.out, by omega, HR.out, hb⟩
set_option maxRecDepth 100000 in
set_option maxHeartbeats 4000000 in
theorem l02W1 (b : Nat) (w : World) (hb2 : 2 ≤ b ∧ b ≤ 36) (h5 : (1 : Int) = 5 → 10 ≤ (b : Int)) :
    Calls Try.prog 86 #[.int .i64 b, .int .i64 1] w (L02Post 1 b w) := by
  have H5 := Lib.hid h5
  clear h5
  go_enter Try.func86, Try.ntmps86
  go_wp2_with fail
  have hbA : Below w.heap.size w ((w.alloc (.cells #[] 47)).alloc (.cells #[] 47)) := ((Below.refl _ _).alloc (Nat.le_refl _) _).alloc (by simp) _
  have hTA : Two w.heap.size ((w.alloc (.cells #[] 47)).alloc (.cells #[] 47)) (.slice (some ⟨w.heap.size, 0, none⟩) 0 0) (.slice (some ⟨w.heap.size + 1, 0, none⟩) 0 0) [] [] [] [] :=
    ⟨OV.alloc (OV.made _ _ (Nat.le_refl _)) _, by have := OV.made (B := w.heap.size) 47 (w.alloc (.cells #[] 47)) (by simp); simpa using this, fun k hk e => by simp [Value.ownBlock] at hk e; omega, rfl, rfl, fun j hj => by simp at hj, fun j hj => by simp at hj⟩
  generalize (w.alloc (.cells #[] 47)).alloc (.cells #[] 47) = w1 at *
  generalize Value.slice (some ⟨w.heap.size, 0, none⟩) 0 0 = v0 at *
  generalize Value.slice (some ⟨w.heap.size + 1, 0, none⟩) 0 0 = v1 at *
  go_loopw [6, 7, 8] (fun fv tv av wr => ∃ (a : Nat) (rf rt : List Value) (fs ts : List (List Int)), a ≤ b ∧ av = .int .i64 a ∧ Two w.heap.size wr fv tv rf rt fs ts ∧ Hid (fs.length = ts.length) ∧ fs.length ≤ a * 1332 ∧ Hid (∀ f u, P2 fs ts f u ↔ PU b (RW 1 b) a 0 f u) ∧ Below w.heap.size w wr) (fun _ _ av _ => b - (intOf av).toNat)
  case atStart => exact ⟨0, [], [], [], [], Nat.zero_le _, rfl, hTA, rfl, by simp, fun f u => ⟨fun h => absurd h P2.nil, fun h => absurd h PU.start⟩, hbA⟩
  case round =>
    clear hTA hbA
    obtain ⟨a, rf, rt, fs, ts, ha, rfl, hT, HL, hll, HP, hb⟩ := hrel
    by_cases hla : a < b
    · go_wp2_with fail
      go_loopw [6, 7, 9] (fun fv tv cv wr => ∃ (c : Nat) (rf rt : List Value) (fs ts : List (List Int)), c ≤ b ∧ cv = .int .i64 c ∧ Two w.heap.size wr fv tv rf rt fs ts ∧ Hid (fs.length = ts.length) ∧ fs.length ≤ a * 1332 + c * 37 ∧ Hid (∀ f u, P2 fs ts f u ↔ PU b (RW 1 b) a c f u) ∧ Below w.heap.size w wr) (fun _ _ cv _ => b - (intOf cv).toNat)
      case atStart => exact ⟨0, rf, rt, fs, ts, Nat.zero_le _, rfl, hT, HL, by omega, HP, hb⟩
      case round =>
        clear hT hb HP HL hll rf rt fs ts
        obtain ⟨c, rf, rt, fs, ts, hc, rfl, hT, HL, hll, HP, hb⟩ := hrel
        have hz := hb.size
        by_cases hlc : c < b
        · skip
          by_cases hac : a = c
          · have hbn : ((a : Int) != (c : Int)) = false := by simp [hac]
            have HP2 : Hid (∀ f u, P2 fs ts f u ↔ PU b (RW 1 b) a (c + 1) f u) := fun f u => by
              rw [HP.out f u, PU.step hla hlc, RW1]
              exact ⟨.inl, fun h => h.elim id fun h => absurd hac h.1⟩
            clear hac
            go_wp2_with fail
            go_roundw
            case rel => exact ⟨c + 1, rf, rt, fs, ts, by omega, by go_num, hT, HL, by omega, HP2, hb⟩
            case measure => first | (simp [intOf]; done) | (simp [intOf]; omega)
          · have hbn : ((a : Int) != (c : Int)) = true := by simp; omega
            have HAC := Lib.hid hac
            clear hac
            obtain ⟨fa, fc, rfl⟩ := hT.f.slice
            obtain ⟨ta, tc, rfl⟩ := hT.t.slice
            have hlf : rf.length ≤ 1099511627776 := by rw [hT.lf]; omega
            have hcv : ((wr.alloc (.cells #[.int .i64 a, .int .i64 c] 2)).alloc (.cells #[.slice (some ⟨wr.heap.size, 0, none⟩) 2 2] 47)).cell? ⟨wr.heap.size + 1, 0, none⟩ = some (.slice (some ⟨wr.heap.size, 0, none⟩) 2 2) := by rw [show wr.heap.size + 1 = (wr.alloc (.cells #[.int .i64 a, .int .i64 c] 2)).heap.size by simp]; exact World.cell?_alloc_at _ _ _ _ rfl
            go_upto_region 17 with (at_builtin; refine wpl_appL Try.underlying91 info_row rfl (by omega) rfl _ _ rfl w.heap.size _ _ rfl (OV.alloc (OV.alloc hT.f _) _) _ _ _ rfl hcv rfl hlf (by simp; omega) ?_; intro v5 w5 hv5 hg5 hL5)
            have hbA : Below wr.heap.size wr ((wr.alloc (.cells #[.int .i64 a, .int .i64 c] 2)).alloc (.cells #[.slice (some ⟨wr.heap.size, 0, none⟩) 2 2] 47)) := ((Below.refl _ _).alloc (Nat.le_refl _) _).alloc (by simp) _
            have huA : OI w.heap.size ((wr.alloc (.cells #[.int .i64 a, .int .i64 c] 2)).alloc (.cells #[.slice (some ⟨wr.heap.size, 0, none⟩) 2 2] 47)) (.slice (some ⟨wr.heap.size, 0, none⟩) 2 2) [(a : Int), (c : Int)] := OV.alloc (OV.lit _ _ [.int .i64 a, .int .i64 c] hz (by simp [maxLen])) _
            have hT5 := (hT.later hbA).pushF huA hv5 hg5 hL5
            have hb5 := own_below (hb.trans (hbA.mono hz)) (hT.later hbA).f hg5 (Nat.le_trans hz hbA.size)
            have hz5 := hb5.size
            clear hv5 hg5 hL5 huA hbA hb hz
            have hlt5 : rt.length ≤ 1099511627776 := by rw [hT.lt]; have := HL.out; omega
            have hcv5 : ((w5.alloc (.cells #[.int .i64 c, .int .i64 a] 2)).alloc (.cells #[.slice (some ⟨w5.heap.size, 0, none⟩) 2 2] 47)).cell? ⟨w5.heap.size + 1, 0, none⟩ = some (.slice (some ⟨w5.heap.size, 0, none⟩) 2 2) := by rw [show w5.heap.size + 1 = (w5.alloc (.cells #[.int .i64 c, .int .i64 a] 2)).heap.size by simp]; exact World.cell?_alloc_at _ _ _ _ rfl
            go_wp2_with (at_builtin; refine wpl_appL Try.underlying91 info_row rfl (by omega) rfl _ _ rfl w.heap.size _ _ rfl (OV.alloc (OV.alloc hT5.t _) _) _ _ _ rfl hcv5 rfl hlt5 (by simp; omega) ?_; intro v6 w6 hv6 hg6 hL6)
            have hbA : Below w5.heap.size w5 ((w5.alloc (.cells #[.int .i64 c, .int .i64 a] 2)).alloc (.cells #[.slice (some ⟨w5.heap.size, 0, none⟩) 2 2] 47)) := ((Below.refl _ _).alloc (Nat.le_refl _) _).alloc (by simp) _
            have huA : OI w.heap.size ((w5.alloc (.cells #[.int .i64 c, .int .i64 a] 2)).alloc (.cells #[.slice (some ⟨w5.heap.size, 0, none⟩) 2 2] 47)) (.slice (some ⟨w5.heap.size, 0, none⟩) 2 2) [(c : Int), (a : Int)] := OV.alloc (OV.lit _ _ [.int .i64 c, .int .i64 a] hz5 (by simp [maxLen])) _
            have hT6 := ((hT5.later hbA).swap.pushF huA hv6 hg6 hL6).swap
            have hb6 := own_below (hb5.trans (hbA.mono hz5)) (hT5.later hbA).t hg6 (Nat.le_trans hz5 hbA.size)
            clear hv6 hg6 hL6 huA hbA hb5 hz5 hT5 hT
            have HP6 := Lib.hid (fun f u => (P2.snoc (f0 := [(a : Int), (c : Int)]) (u0 := [(c : Int), (a : Int)]) (f := f) (u := u) HL.out).trans (or_congr (HP.out f u) Iff.rfl))
            have hl6 : (fs ++ [[(a : Int), (c : Int)]]).length ≤ fs.length + 1 := by simp
            have HL6 : Hid ((fs ++ [[(a : Int), (c : Int)]]).length = (ts ++ [[(c : Int), (a : Int)]]).length) := by unfold Hid; rw [List.length_append, List.length_append, HL.out]; rfl
            generalize fs ++ [[(a : Int), (c : Int)]] = fs6 at *
            generalize ts ++ [[(c : Int), (a : Int)]] = ts6 at *
            have HP2 : Hid (∀ f u, P2 fs6 ts6 f u ↔ PU b (RW 1 b) a (c + 1) f u) := fun f u => by
              rw [HP6.out f u, PU.step hla hlc, RW1]
              exact ⟨fun h => h.elim .inl fun h => .inr ⟨HAC.out, h⟩, fun h => h.elim .inl fun h => .inr h.2⟩
            go_roundw
            case rel => exact ⟨c + 1, _, _, _, _, by omega, by go_num, hT6, HL6, by omega, HP2, hb6⟩
            case measure => first | (simp [intOf]; done) | (simp [intOf]; omega)
        · obtain rfl : c = b := by omega
          have HP2 : Hid (∀ f u, P2 fs ts f u ↔ PU c (RW 1 c) (a + 1) 0 f u) := fun f u => (HP.out f u).trans PU.next.symm
          go_wp2_with fail
          go_roundw
          case rel => exact ⟨a + 1, rf, rt, fs, ts, by omega, by go_num, hT, HL, by omega, HP2, hb⟩
          case measure => first | (simp [intOf]; done) | (simp [intOf]; omega)
    · obtain rfl : a = b := by omega
      have HR : Hid (∀ f u, P2 fs ts f u ↔ Pr 1 a f u) := fun f u => (HP.out f u).trans (PU.stop.trans (RW_Pr (by first | exact H5.out | exact fun _ => H5.out trivial) hb2.1))
      have hR1 := hT.readF
      have hR2 := hT.swap.readF
      obtain ⟨fa, fc, rfl⟩ := hR1.slice
      obtain ⟨ta, tc, rfl⟩ := hR2.slice
      go_wp2_with fail
      go_ret2
      exact ⟨_, _, fs, ts, rfl, hR1, hR2, HL.out, by omega, HR.out, hb⟩
set_option maxRecDepth 100000 in
set_option maxHeartbeats 4000000 in
theorem l02W3 (b : Nat) (w : World) (hb2 : 2 ≤ b ∧ b ≤ 36) (h5 : (3 : Int) = 5 → 10 ≤ (b : Int)) :
    Calls Try.prog 86 #[.int .i64 b, .int .i64 3] w (L02Post 3 b w) := by
  have H5 := Lib.hid h5
  clear h5
  go_enter Try.func86, Try.ntmps86
  go_wp2_with fail
  have hbA : Below w.heap.size w ((w.alloc (.cells #[] 47)).alloc (.cells #[] 47)) := ((Below.refl _ _).alloc (Nat.le_refl _) _).alloc (by simp) _
  have hTA : Two w.heap.size ((w.alloc (.cells #[] 47)).alloc (.cells #[] 47)) (.slice (some ⟨w.heap.size, 0, none⟩) 0 0) (.slice (some ⟨w.heap.size + 1, 0, none⟩) 0 0) [] [] [] [] :=
    ⟨OV.alloc (OV.made _ _ (Nat.le_refl _)) _, by have := OV.made (B := w.heap.size) 47 (w.alloc (.cells #[] 47)) (by simp); simpa using this, fun k hk e => by simp [Value.ownBlock] at hk e; omega, rfl, rfl, fun j hj => by simp at hj, fun j hj => by simp at hj⟩
  generalize (w.alloc (.cells #[] 47)).alloc (.cells #[] 47) = w1 at *
  generalize Value.slice (some ⟨w.heap.size, 0, none⟩) 0 0 = v0 at *
  generalize Value.slice (some ⟨w.heap.size + 1, 0, none⟩) 0 0 = v1 at *
  go_loopw [6, 7, 8] (fun fv tv av wr => ∃ (a : Nat) (rf rt : List Value) (fs ts : List (List Int)), a ≤ b ∧ av = .int .i64 a ∧ Two w.heap.size wr fv tv rf rt fs ts ∧ Hid (fs.length = ts.length) ∧ fs.length ≤ a * 1332 ∧ Hid (∀ f u, P2 fs ts f u ↔ PU b (RW 3 b) a 0 f u) ∧ Below w.heap.size w wr) (fun _ _ av _ => b - (intOf av).toNat)
  case atStart => exact ⟨0, [], [], [], [], Nat.zero_le _, rfl, hTA, rfl, by simp, fun f u => ⟨fun h => absurd h P2.nil, fun h => absurd h PU.start⟩, hbA⟩
  case round =>
    clear hTA hbA
    obtain ⟨a, rf, rt, fs, ts, ha, rfl, hT, HL, hll, HP, hb⟩ := hrel
    by_cases hla : a < b
    · go_wp2_with fail
      go_loopw [6, 7, 9] (fun fv tv cv wr => ∃ (c : Nat) (rf rt : List Value) (fs ts : List (List Int)), c ≤ b ∧ cv = .int .i64 c ∧ Two w.heap.size wr fv tv rf rt fs ts ∧ Hid (fs.length = ts.length) ∧ fs.length ≤ a * 1332 + c * 37 ∧ Hid (∀ f u, P2 fs ts f u ↔ PU b (RW 3 b) a c f u) ∧ Below w.heap.size w wr) (fun _ _ cv _ => b - (intOf cv).toNat)
      case atStart => exact ⟨0, rf, rt, fs, ts, Nat.zero_le _, rfl, hT, HL, by omega, HP, hb⟩
      case round =>
        clear hT hb HP HL hll rf rt fs ts
        obtain ⟨c, rf, rt, fs, ts, hc, rfl, hT, HL, hll, HP, hb⟩ := hrel
        have hz := hb.size
        by_cases hlc : c < b
        · skip
          by_cases hac : a = c
          · have hbn : ((a : Int) != (c : Int)) = false := by simp [hac]
            have HP2 : Hid (∀ f u, P2 fs ts f u ↔ PU b (RW 3 b) a (c + 1) f u) := fun f u => by
              rw [HP.out f u, PU.step hla hlc, RW3]
              exact ⟨.inl, fun h => h.elim id fun h => absurd hac h.1⟩
            clear hac
            go_wp2_with fail
            go_roundw
            case rel => exact ⟨c + 1, rf, rt, fs, ts, by omega, by go_num, hT, HL, by omega, HP2, hb⟩
            case measure => first | (simp [intOf]; done) | (simp [intOf]; omega)
          · have hbn : ((a : Int) != (c : Int)) = true := by simp; omega
            have HAC := Lib.hid hac
            clear hac
            obtain ⟨fa, fc, rfl⟩ := hT.f.slice
            obtain ⟨ta, tc, rfl⟩ := hT.t.slice
            have hlf : rf.length ≤ 1099511627776 := by rw [hT.lf]; omega
            have hcv : ((wr.alloc (.cells #[.int .i64 a, .int .i64 a] 2)).alloc (.cells #[.slice (some ⟨wr.heap.size, 0, none⟩) 2 2] 47)).cell? ⟨wr.heap.size + 1, 0, none⟩ = some (.slice (some ⟨wr.heap.size, 0, none⟩) 2 2) := by rw [show wr.heap.size + 1 = (wr.alloc (.cells #[.int .i64 a, .int .i64 a] 2)).heap.size by simp]; exact World.cell?_alloc_at _ _ _ _ rfl
            go_upto_region 21 with (at_builtin; refine wpl_appL Try.underlying91 info_row rfl (by omega) rfl _ _ rfl w.heap.size _ _ rfl (OV.alloc (OV.alloc hT.f _) _) _ _ _ rfl hcv rfl hlf (by simp; omega) ?_; intro v5 w5 hv5 hg5 hL5)
            have hbA : Below wr.heap.size wr ((wr.alloc (.cells #[.int .i64 a, .int .i64 a] 2)).alloc (.cells #[.slice (some ⟨wr.heap.size, 0, none⟩) 2 2] 47)) := ((Below.refl _ _).alloc (Nat.le_refl _) _).alloc (by simp) _
            have huA : OI w.heap.size ((wr.alloc (.cells #[.int .i64 a, .int .i64 a] 2)).alloc (.cells #[.slice (some ⟨wr.heap.size, 0, none⟩) 2 2] 47)) (.slice (some ⟨wr.heap.size, 0, none⟩) 2 2) [(a : Int), (a : Int)] := OV.alloc (OV.lit _ _ [.int .i64 a, .int .i64 a] hz (by simp [maxLen])) _
            have hT5 := (hT.later hbA).pushF huA hv5 hg5 hL5
            have hb5 := own_below (hb.trans (hbA.mono hz)) (hT.later hbA).f hg5 (Nat.le_trans hz hbA.size)
            have hz5 := hb5.size
            clear hv5 hg5 hL5 huA hbA hb hz
            have hlt5 : rt.length ≤ 1099511627776 := by rw [hT.lt]; have := HL.out; omega
            have hcv5 : ((w5.alloc (.cells #[.int .i64 c, .int .i64 c] 2)).alloc (.cells #[.slice (some ⟨w5.heap.size, 0, none⟩) 2 2] 47)).cell? ⟨w5.heap.size + 1, 0, none⟩ = some (.slice (some ⟨w5.heap.size, 0, none⟩) 2 2) := by rw [show w5.heap.size + 1 = (w5.alloc (.cells #[.int .i64 c, .int .i64 c] 2)).heap.size by simp]; exact World.cell?_alloc_at _ _ _ _ rfl
            go_wp2_with (at_builtin; refine wpl_appL Try.underlying91 info_row rfl (by omega) rfl _ _ rfl w.heap.size _ _ rfl (OV.alloc (OV.alloc hT5.t _) _) _ _ _ rfl hcv5 rfl hlt5 (by simp; omega) ?_; intro v6 w6 hv6 hg6 hL6)
            have hbA : Below w5.heap.size w5 ((w5.alloc (.cells #[.int .i64 c, .int .i64 c] 2)).alloc (.cells #[.slice (some ⟨w5.heap.size, 0, none⟩) 2 2] 47)) := ((Below.refl _ _).alloc (Nat.le_refl _) _).alloc (by simp) _
            have huA : OI w.heap.size ((w5.alloc (.cells #[.int .i64 c, .int .i64 c] 2)).alloc (.cells #[.slice (some ⟨w5.heap.size, 0, none⟩) 2 2] 47)) (.slice (some ⟨w5.heap.size, 0, none⟩) 2 2) [(c : Int), (c : Int)] := OV.alloc (OV.lit _ _ [.int .i64 c, .int .i64 c] hz5 (by simp [maxLen])) _
            have hT6 := ((hT5.later hbA).swap.pushF huA hv6 hg6 hL6).swap
            have hb6 := own_below (hb5.trans (hbA.mono hz5)) (hT5.later hbA).t hg6 (Nat.le_trans hz5 hbA.size)
            clear hv6 hg6 hL6 huA hbA hb5 hz5 hT5 hT
            have HP6 := Lib.hid (fun f u => (P2.snoc (f0 := [(a : Int), (a : Int)]) (u0 := [(c : Int), (c : Int)]) (f := f) (u := u) HL.out).trans (or_congr (HP.out f u) Iff.rfl))
            have hl6 : (fs ++ [[(a : Int), (a : Int)]]).length ≤ fs.length + 1 := by simp
            have HL6 : Hid ((fs ++ [[(a : Int), (a : Int)]]).length = (ts ++ [[(c : Int), (c : Int)]]).length) := by unfold Hid; rw [List.length_append, List.length_append, HL.out]; rfl
            generalize fs ++ [[(a : Int), (a : Int)]] = fs6 at *
            generalize ts ++ [[(c : Int), (c : Int)]] = ts6 at *
            have HP2 : Hid (∀ f u, P2 fs6 ts6 f u ↔ PU b (RW 3 b) a (c + 1) f u) := fun f u => by
              rw [HP6.out f u, PU.step hla hlc, RW3]
              exact ⟨fun h => h.elim .inl fun h => .inr ⟨HAC.out, h⟩, fun h => h.elim .inl fun h => .inr h.2⟩
            go_roundw
            case rel => exact ⟨c + 1, _, _, _, _, by omega, by go_num, hT6, HL6, by omega, HP2, hb6⟩
            case measure => first | (simp [intOf]; done) | (simp [intOf]; omega)
        · obtain rfl : c = b := by omega
          have HP2 : Hid (∀ f u, P2 fs ts f u ↔ PU c (RW 3 c) (a + 1) 0 f u) := fun f u => (HP.out f u).trans PU.next.symm
          go_wp2_with fail
          go_roundw
          case rel => exact ⟨a + 1, rf, rt, fs, ts, by omega, by go_num, hT, HL, by omega, HP2, hb⟩
          case measure => first | (simp [intOf]; done) | (simp [intOf]; omega)
    · obtain rfl : a = b := by omega
      have HR : Hid (∀ f u, P2 fs ts f u ↔ Pr 3 a f u) := fun f u => (HP.out f u).trans (PU.stop.trans (RW_Pr (by first | exact H5.out | exact fun _ => H5.out trivial) hb2.1))
      have hR1 := hT.readF
      have hR2 := hT.swap.readF
      obtain ⟨fa, fc, rfl⟩ := hR1.slice
      obtain ⟨ta, tc, rfl⟩ := hR2.slice
      go_wp2_with fail
      go_ret2
      exact ⟨_, _, fs, ts, rfl, hR1, hR2, HL.out, by omega, HR.out, hb⟩
end Go.Proofs.Ytgagjmnmfgfpfaa
