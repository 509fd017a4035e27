/- seeker.seek: the walk, for any function that it hands tables to. -/
import Derived.Test.YthcnhkjiojeemaaSkC
import Derived.Test.YthcnhkjiojeemaaCtn
import Derived.Test.YthcnhkjiojeemaaRow
namespace Go.Proofs.Ythcnhkjiojeemaa
open Go.RowKit

abbrev TF := Nat → Nat → Int
/-- What is told of the block k that the function writes: behind a call of seek (Fin), and within its loop (Prt). -/
structure SkI (n k : Nat) (Ok : World → Prop) (Fin : Nat → TF → World → World → Bool → Prop) (Prt : Nat → Nat → Nat → TF → World → World → Nat → Prop) : Prop where
  keep : ∀ {w w' : World}, Ok w → w'.heap[k]? = w.heap[k]? → Ok w'
  start : ∀ {p x y : Nat} {t : TF} {w w' : World}, x < n → y < n → Ok w → w'.heap[k]? = w.heap[k]? → Prt p x y t w w' 0
  skip : ∀ {p x y c : Nat} {t : TF} {w w1 w2 : World}, Prt p x y t w w1 c → w2.heap[k]? = w1.heap[k]? → (∀ u, Compl n p t u → u x y ≠ (c : Int)) → Prt p x y t w w2 (c + 1)
  yes : ∀ {p x y c : Nat} {t : TF} {w w1 w2 w3 : World}, p = x * n + y → x < n → y < n → c < n → Prt p x y t w w1 c → w2.heap[k]? = w1.heap[k]? → w.heap.size ≤ w2.heap.size → Fin (p + 1) (upd t x y (c : Int)) w2 w3 true → Fin p t w w3 true
  no : ∀ {p x y c : Nat} {t : TF} {w w1 w2 w3 w4 : World}, p = x * n + y → x < n → y < n → c < n → Prt p x y t w w1 c → w2.heap[k]? = w1.heap[k]? → Fin (p + 1) (upd t x y (c : Int)) w2 w3 false → w4.heap[k]? = w3.heap[k]? → Prt p x y t w w4 (c + 1)
  fin : ∀ {p x y : Nat} {t : TF} {w w1 w2 : World}, p = x * n + y → x < n → y < n → Prt p x y t w w1 n → w2.heap[k]? = w1.heap[k]? → Fin p t w w2 false
  okp : ∀ {p x y c : Nat} {t : TF} {w w1 : World}, Prt p x y t w w1 c → Ok w1
  okf : ∀ {p : Nat} {t : TF} {w w1 : World}, Fin p t w w1 false → Ok w1
def SkPost (n k B S G : Nat) (H P : Nat → Nat) (C : Nat) (Fin : Nat → TF → World → World → Bool → Prop) (p : Nat) (t : TF) (w : World) (e : Ending) (w' : World) : Prop :=
  ∃ b, e = .returned (.bool b) ∧ ChgR k S w w' ∧ Fin p t w w' b ∧ (b = false → TbAt B S G H P C n t w')
theorem SkPost.yes {n k B S G : Nat} {H P : Nat → Nat} {C : Nat} {Fin : Nat → TF → World → World → Bool → Prop} {p : Nat} {t : TF} {w w' : World} (h1 : ChgR k S w w') (h2 : Fin p t w w' true) : SkPost n k B S G H P C Fin p t w (.returned (.bool true)) w' := ⟨true, rfl, h1, h2, fun h => by cases h⟩
theorem SkPost.no {n k B S G : Nat} {H P : Nat → Nat} {C : Nat} {Fin : Nat → TF → World → World → Bool → Prop} {p : Nat} {t : TF} {w w' : World} (h1 : ChgR k S w w') (h2 : Fin p t w w' false) (h3 : TbAt B S G H P C n t w') : SkPost n k B S G H P C Fin p t w (.returned (.bool false)) w' := ⟨false, rfl, h1, h2, fun _ => h3⟩
theorem drewN_heap (w : World) (n : Nat) : (w.drewN n).heap = w.heap := rfl
theorem ChgR.drewN {B S : Nat} {w w' : World} (h : ChgR B S w w') (n : Nat) : ChgR B S w (w'.drewN n) := ⟨h.os, h.tape, h.output, h.size, h.block⟩
theorem upd_back {n x y p : Nat} {t : TF} (hu : ∀ i j, i < n → j < n → p ≤ i * n + j → t i j = -1) (hp : p = x * n + y) (z : Int) : ∀ i j, i < n → j < n → upd (upd t x y z) x y (-1) i j = t i j := fun i j hi hj => by
  rw [upd_upd]
  by_cases h : i = x ∧ j = y
  · obtain ⟨rfl, rfl⟩ := h
    rw [upd_same, hu i j hi hj (by omega)]
  · rw [upd_other _ _ h]
theorem take_mem {n x y : Nat} {t : TF} {c : Int} (hx : x < n) (hy : y ≤ n) : c ∈ (rowAt (mkT n t) x).take y ↔ ∃ j, j < y ∧ t x j = c := by
  rw [mkT_row n t x hx, List.mem_take_iff_getElem]
  constructor
  · rintro ⟨j, hj, e⟩
    simp at hj e
    exact ⟨j, by omega, e⟩
  · rintro ⟨j, hj, e⟩
    exact ⟨j, by simp; omega, by simpa using e⟩
set_option maxRecDepth 100000 in
set_option maxHeartbeats 4000000 in
theorem seek_endF (n k p0 : Nat) (stop : Bool) (hn : 1 ≤ n ∧ n ≤ 5) (B S G : Nat) (H P : Nat → Nat) (C : Nat) (hp0 : S ≤ p0) (Fin : Nat → TF → World → World → Bool → Prop) (Ok : World → Prop) (keep : ∀ {w w' : World}, Ok w → w'.heap[k]? = w.heap[k]? → Ok w')
    (HDo : Hid (∀ (t : TF) (w w0 : World), Ta n t → TbAt B S G H P C n t w → Ok w → w0.heap = w.heap → Calls Try.prog 35 #[.slice (some ⟨G, 0, none⟩) n C, .pointer (some ⟨k, 0, none⟩)] w fun e w' => e = .returned (.bool stop) ∧ TbAt B S G H P C n t w' ∧ ChgR k S w w' ∧ Fin (n * n) t w0 w' stop))
    (t : TF) (w : World) (ht : TbAt B S G H P C n t w) (hsk : SkAt p0 n G C w) (hv : Vq n (n * n) t) (hok : Ok w) :
    Calls Try.prog 34 #[.pointer (some ⟨p0, 0, none⟩), .int .i64 (n * n : Nat), .func (.func 35) #[] #[.pointer (some ⟨k, 0, none⟩)]] w (SkPost n k B S G H P C Fin (n * n) t w) := by
  obtain ⟨m, hm⟩ : ∃ m, m = n * n := ⟨_, rfl⟩
  have hm25 : m ≤ 25 := by rw [hm]; exact Nat.le_trans (Nat.mul_le_mul hn.2 hn.2) (by decide)
  have hwm : IntKind.i64.wrap ((n : Int) * (n : Int)) = (m : Int) := by rw [← Int.natCast_mul, ← hm]; exact IntWalk.i64_in _ (by omega)
  have HTA := Lib.hid hv.full
  have c0 := hsk.c0
  have hn25 : n ≤ 5 := hn.2
  have HM := Lib.hid hm
  rw [← hm]
  clear hm hv hn
  go_enter Try.func34, Try.ntmps34
  go_wp2_with fail
  go_quiet (fail)
  have hbd := below_drewN (Below.refl w.heap.size w) nq
  have hte := Lib.hid (World.drewN_drewN w nq 0)
  have ht2 := ht.later hbd
  have hsk2 := hsk.later hbd
  have hok2 : Ok (w.drewN nq) := keep hok rfl
  have hch : ChgR k S w (w.drewN nq) := (ChgR.refl k S w).drewN nq
  have HH : Hid ((w : World).heap = (w.drewN nq).heap) := rfl
  generalize w.drewN nq = w1 at *
  have c1 := hsk2.c0
  have c2 := hsk2.c1
  clear hbd hte ht hsk hok c0
  go_wp2_with fail
  refine (HDo.out t w1 w HTA.out ht2 hok2 HH.out).mono ?_
  rintro e w2 ⟨rfl, ht3, hch2, hfin⟩
  have hch3 := hch.trans hch2
  have HF : Hid (Fin m t w w2 stop) := by unfold Hid; rw [HM.out]; exact hfin
  clear hfin c1 c2 ht2
  cases stop
  · go_wp2_with fail
    go_ret
    exact SkPost.no hch3 HF.out ht3
  · go_wp2_with fail
    go_ret
    exact SkPost.yes hch3 HF.out
set_option maxRecDepth 100000 in
set_option maxHeartbeats 4000000 in
theorem seek_endC (n k p0 : Nat) (stop : Bool) (hn : 1 ≤ n ∧ n ≤ 5) (B S G : Nat) (H P : Nat → Nat) (C : Nat) (hp0 : S ≤ p0) (Fin : Nat → TF → World → World → Bool → Prop) (Ok : World → Prop) (keep : ∀ {w w' : World}, Ok w → w'.heap[k]? = w.heap[k]? → Ok w')
    (HDo : Hid (∀ (t : TF) (w w0 : World), Ta n t → TbAt B S G H P C n t w → Ok w → w0.heap = w.heap → Calls Try.prog 40 #[.slice (some ⟨G, 0, none⟩) n C, .pointer (some ⟨k, 0, none⟩)] w fun e w' => e = .returned (.bool stop) ∧ TbAt B S G H P C n t w' ∧ ChgR k S w w' ∧ Fin (n * n) t w0 w' stop))
    (t : TF) (w : World) (ht : TbAt B S G H P C n t w) (hsk : SkAt p0 n G C w) (hv : Vq n (n * n) t) (hok : Ok w) :
    Calls Try.prog 34 #[.pointer (some ⟨p0, 0, none⟩), .int .i64 (n * n : Nat), .func (.func 40) #[] #[.pointer (some ⟨k, 0, none⟩)]] w (SkPost n k B S G H P C Fin (n * n) t w) := by
  obtain ⟨m, hm⟩ : ∃ m, m = n * n := ⟨_, rfl⟩
  have hm25 : m ≤ 25 := by rw [hm]; exact Nat.le_trans (Nat.mul_le_mul hn.2 hn.2) (by decide)
  have hwm : IntKind.i64.wrap ((n : Int) * (n : Int)) = (m : Int) := by rw [← Int.natCast_mul, ← hm]; exact IntWalk.i64_in _ (by omega)
  have HTA := Lib.hid hv.full
  have c0 := hsk.c0
  have hn25 : n ≤ 5 := hn.2
  have HM := Lib.hid hm
  rw [← hm]
  clear hm hv hn
  go_enter Try.func34, Try.ntmps34
  go_wp2_with fail
  go_quiet (fail)
  have hbd := below_drewN (Below.refl w.heap.size w) nq
  have hte := Lib.hid (World.drewN_drewN w nq 0)
  have ht2 := ht.later hbd
  have hsk2 := hsk.later hbd
  have hok2 : Ok (w.drewN nq) := keep hok rfl
  have hch : ChgR k S w (w.drewN nq) := (ChgR.refl k S w).drewN nq
  have HH : Hid ((w : World).heap = (w.drewN nq).heap) := rfl
  generalize w.drewN nq = w1 at *
  have c1 := hsk2.c0
  have c2 := hsk2.c1
  clear hbd hte ht hsk hok c0
  go_wp2_with fail
  refine (HDo.out t w1 w HTA.out ht2 hok2 HH.out).mono ?_
  rintro e w2 ⟨rfl, ht3, hch2, hfin⟩
  have hch3 := hch.trans hch2
  have HF : Hid (Fin m t w w2 stop) := by unfold Hid; rw [HM.out]; exact hfin
  clear hfin c1 c2 ht2
  cases stop
  · go_wp2_with fail
    go_ret
    exact SkPost.no hch3 HF.out ht3
  · go_wp2_with fail
    go_ret
    exact SkPost.yes hch3 HF.out
end Go.Proofs.Ythcnhkjiojeemaa
