/- FnAntisymmetric: sums of undetected errors; the closures of undetectedAt; changes; tuples. -/
import Derived.Test.YthcnhkjiojeemaaUdO
import Derived.Deep.DeepCutAuto
import Derived.Test.YthcnhkjiojeemaaRow
import Derived.Deep.RegionHeld3
import Derived.RegionTactic
import Derived.BigRegion
import Derived.Deep.LoopGhost
namespace Go.Proofs.Ythcnhkjiojeemaa
open Go.RowKit

def vS (f : Nat → Int) : Nat → Int
  | 0 => 0
  | k + 1 => vS f k + f k
theorem vS_bd {f : Nat → Int} {K : Nat} : ∀ {k : Nat}, (∀ s, s < k → 0 ≤ f s ∧ f s ≤ (K : Int)) → 0 ≤ vS f k ∧ vS f k ≤ ((k * K : Nat) : Int)
  | 0, _ => by simp [vS]
  | k + 1, h => by
    have h1 := vS_bd (k := k) fun s hs => h s (by omega)
    have h2 := h k (by omega)
    have e : (k + 1) * K = k * K + K := Nat.succ_mul k K
    unfold vS
    rw [e]; omega
theorem vS_zero {f : Nat → Int} : ∀ {k : Nat}, (∀ s, s < k → f s = 0) → vS f k = 0
  | 0, _ => rfl
  | k + 1, h => by
    have h1 := vS_zero (k := k) fun s hs => h s (by omega)
    have h2 := h k (by omega)
    unfold vS; omega
theorem vS_pos {f : Nat → Int} {s : Nat} : ∀ {k : Nat}, (∀ s, s < k → 0 ≤ f s) → s < k → 1 ≤ f s → 1 ≤ vS f k
  | 0, _, h, _ => by omega
  | k + 1, h, hs, h1 => by
    have h2 := h k (by omega)
    unfold vS
    by_cases e : s = k
    · subst e
      have h3 : 0 ≤ vS f s := by
        have : ∀ {j : Nat}, j ≤ s → 0 ≤ vS f j := fun {j} => by
          induction j with
          | zero => intro _; exact Int.le_refl _
          | succ j ih => intro hj; have := ih (by omega); have := h j (by omega); unfold vS; omega
        exact this (Nat.le_refl _)
      omega
    · have := vS_pos (k := k) (fun s hs => h s (by omega)) (show s < k by omega) h1
      omega
theorem vS_congr {f g : Nat → Int} : ∀ {k : Nat}, (∀ s, s < k → f s = g s) → vS f k = vS g k
  | 0, _ => rfl
  | k + 1, h => by
    have h1 := vS_congr (k := k) fun s hs => h s (by omega)
    have h2 := h k (by omega)
    unfold vS; omega
/-- What a state adds for an error. -/
def uF (T : Nat → Nat → Nat) (bs : List Int) (t : Nat → Nat → Int) (f u : List Nat) : Nat → Int := fun s => bs.getD s 0 * t (ld T s f) (ld T s u)
theorem uF_bd {n k r : Nat} {T : Nat → Nat → Nat} {bs : List Int} {t : Nat → Nat → Int} (q : QN n T) (hb : BgP n k bs) (ht : BoP n r t) {f u : List Nat} (hf : ∀ d ∈ f, d < n) (hu : ∀ d ∈ u, d < n) {s : Nat} (hs : s < n) :
    0 ≤ uF T bs t f u s ∧ uF T bs t f u s ≤ ((25 ^ k * 5 ^ r : Nat) : Int) := by
  have h1 := hb.bd s hs
  have h2 := ht.bd _ _ (ld_lt q f s hs hf) (ld_lt q u s hs hu)
  unfold uF
  refine ⟨Int.mul_nonneg h1.1 h2.1, ?_⟩
  rw [Int.natCast_mul]
  exact Int.mul_le_mul h1.2 h2.2 h2.1 (by omega)
theorem uF_small {n k r : Nat} {T : Nat → Nat → Nat} {bs : List Int} {t : Nat → Nat → Int} (q : QN n T) (hb : BgP n k bs) (ht : BoP n r t) {f u : List Nat} (hf : ∀ d ∈ f, d < n) (hu : ∀ d ∈ u, d < n) (hk : k + r ≤ 3) {s : Nat} (hs : s < n) :
    0 ≤ uF T bs t f u s ∧ uF T bs t f u s ≤ 20000 := by
  have h := uF_bd q hb ht hf hu hs
  have h1 : 25 ^ k ≤ 25 ^ (3 - r) := Nat.pow_le_pow_right (by omega) (by omega)
  have h2 : 25 ^ k * 5 ^ r ≤ 25 ^ (3 - r) * 5 ^ r := Nat.mul_le_mul_right _ h1
  have h3 : 25 ^ (3 - r) * 5 ^ r ≤ 20000 := by
    have : r = 0 ∨ r = 1 ∨ r = 2 ∨ r = 3 := by omega
    rcases this with rfl | rfl | rfl | rfl <;> decide
  omega
/-- What an error of one symbol adds: nothing. -/
theorem uF_one {n r : Nat} {T : Nat → Nat → Nat} {bs : List Int} {t : Nat → Nat → Int} (q : QN n T) (ht : BoP n r t) {a b : Nat} (ha : a < n) (hb : b < n) (hab : a ≠ b) {s : Nat} (hs : s < n) : uF T bs t [a] [b] s = 0 := by
  unfold uF ld
  simp only [List.foldl_cons, List.foldl_nil]
  rw [ht.off _ _ (q.bd s a hs ha) (q.bd s b hs hb) (fun e => hab (q.row s a b hs ha hb e)), Int.mul_zero]
/-- No swap of two symbols behind a state leads where the word leads. -/
def NoCl (n : Nat) (T : Nat → Nat → Nat) : Prop := ∀ s a b, s < n → a < n → b < n → a ≠ b → T (T s a) b ≠ T (T s b) a
/-- What the errors of a kind add at some symbols. -/
def cvS (n : Nat) (T : Nat → Nat → Nat) (bs : List Int) (t : Nat → Nat → Int) (a b : Nat) : Int := if a = b then 0 else vS (uF T bs t [a, b] [b, a]) n
theorem cvS_bd {n k r : Nat} {T : Nat → Nat → Nat} {bs : List Int} {t : Nat → Nat → Int} (q : QN n T) (hb : BgP n k bs) (ht : BoP n r t) (hk : k + r ≤ 3) (hn : n ≤ 5) {a b : Nat} (ha : a < n) (hb' : b < n) : 0 ≤ cvS n T bs t a b ∧ cvS n T bs t a b ≤ 100000 := by
  unfold cvS
  split
  · omega
  · have h := vS_bd (f := uF T bs t [a, b] [b, a]) (K := 20000) (k := n) fun s hs => uF_small q hb ht (by simp; omega) (by simp; omega) hk hs
    have : n * 20000 ≤ 5 * 20000 := Nat.mul_le_mul_right _ hn
    omega
/-- The sum over all pairs of symbols. -/
def cvT (n : Nat) (T : Nat → Nat → Nat) (bs : List Int) (t : Nat → Nat → Int) (m : Nat) : Int := vS (fun i => cvS n T bs t (i / n) (i % n)) m
theorem cvT_bd {n k r : Nat} {T : Nat → Nat → Nat} {bs : List Int} {t : Nat → Nat → Int} (q : QN n T) (hb : BgP n k bs) (ht : BoP n r t) (hk : k + r ≤ 3) (hn : n ≤ 5) {m : Nat} (hm : m ≤ n * n) : 0 ≤ cvT n T bs t m ∧ cvT n T bs t m ≤ 3000000 := by
  have h := vS_bd (f := fun i => cvS n T bs t (i / n) (i % n)) (K := 100000) (k := m) fun i hi => by
    have h0 : 0 < n := by rcases Nat.eq_zero_or_pos n with h | h; · subst h; omega
                          · exact h
    exact cvS_bd q hb ht hk hn (Nat.div_lt_of_lt_mul (by omega)) (Nat.mod_lt _ h0)
  have h1 : n * n ≤ 5 * 5 := Nat.mul_le_mul hn hn
  have h2 : m * 100000 ≤ 25 * 100000 := Nat.mul_le_mul_right _ (by omega)
  unfold cvT
  omega
theorem cvT_zero {n r : Nat} {T : Nat → Nat → Nat} {bs : List Int} {t : Nat → Nat → Int} (q : QN n T) (ht : BoP n r t) (hN : NoCl n T) : cvT n T bs t (n * n) = 0 := by
  refine vS_zero fun i hi => ?_
  have h0 : 0 < n := by rcases Nat.eq_zero_or_pos n with h | h; · subst h; omega
                        · exact h
  have ha : i / n < n := Nat.div_lt_of_lt_mul hi
  have hb : i % n < n := Nat.mod_lt _ h0
  unfold cvS
  split
  · rfl
  · rename_i hne
    refine vS_zero fun s hs => ?_
    unfold uF ld
    simp only [List.foldl_cons, List.foldl_nil]
    rw [ht.off _ _ (q.bd _ _ (q.bd _ _ hs ha) hb) (q.bd _ _ (q.bd _ _ hs hb) ha) (hN s _ _ hs ha hb hne), Int.mul_zero]
theorem cvT_pos {n k r : Nat} {T : Nat → Nat → Nat} {bs : List Int} {t : Nat → Nat → Int} (q : QN n T) (hb : BgP n k bs) (ht : BoP n r t) (hk : k + r ≤ 3) (hk1 : 1 ≤ k) (hr1 : 1 ≤ r) (hn : n ≤ 5) (hN : ¬ NoCl n T) : 1 ≤ cvT n T bs t (n * n) := by
  unfold NoCl at hN
  simp only [Classical.not_forall, Decidable.not_not] at hN
  obtain ⟨s, a, b, hs, ha, hb', hab, he⟩ := hN
  have h0 : 0 < n := by omega
  have hi : a * n + b < n * n := pr_lt (n := n) (m := n) ha hb'
  refine vS_pos (s := a * n + b) (fun i hi => ?_) hi ?_
  · exact (cvS_bd q hb ht hk hn (Nat.div_lt_of_lt_mul hi) (Nat.mod_lt _ h0)).1
  · rw [pr_div (m := n) a hb', pr_mod (m := n) a hb']
    unfold cvS
    rw [if_neg hab]
    refine vS_pos (s := s) (fun s hs => (uF_small q hb ht (by simp; omega) (by simp; omega) hk hs).1) hs ?_
    unfold uF ld
    simp only [List.foldl_cons, List.foldl_nil]
    rw [he]
    have h1 := hb.pos hk1 s hs
    have h2 := ht.pos hr1 _ (q.bd _ _ (q.bd _ _ hs hb') ha)
    have h3 := Int.mul_le_mul h1 h2 (by omega) (by omega)
    simpa using h3
/-- What does not turn while undetectedAt counts. -/
structure US (cp n place kind : Nat) (T : Nat → Nat → Nat) (bs : List Int) (t : Nat → Nat → Int) (kk kc kb kp ko g gc G : Nat) (H : Nat → Nat) (W0 : World) : Prop where
  ce : CE cp n T W0
  k : W0.cell? ⟨kk, 0, none⟩ = some (.int .i64 kind)
  c : W0.cell? ⟨kc, 0, none⟩ = some (.pointer (some ⟨cp, 0, none⟩))
  p : W0.cell? ⟨kp, 0, none⟩ = some (.int .i64 place)
  b : W0.cell? ⟨kb, 0, none⟩ = some (.slice (some ⟨g, 0, none⟩) n gc)
  o : W0.cell? ⟨ko, 0, none⟩ = some (.slice (some ⟨G, 0, none⟩) n n)
  bc : ∀ s, s < n → W0.cell? ⟨g, s, none⟩ = some (.int .i64 (bs.getD s 0))
  gr : ∀ i, i < n → W0.cell? ⟨G, i, none⟩ = some (.slice (some ⟨H i, 0, none⟩) n n)
  gv : ∀ i j, i < n → j < n → W0.cell? ⟨H i, j, none⟩ = some (.int .i64 (t i j))
theorem cell_lat {w w' : World} {a : Addr} {v : Value} (h : w.cell? a = some v) (hb : Below w.heap.size w w') : w'.cell? a = some v :=
  (hb.cell (p := a) (World.block_lt_of_cell? w _ h)).trans h
section
variable {cp n place kind : Nat} {T : Nat → Nat → Nat} {bs : List Int} {t : Nat → Nat → Int} {kk kc kb kp ko g gc G : Nat} {H : Nat → Nat} {W0 w w' : World} {x : Int}
theorem US.later (h : US cp n place kind T bs t kk kc kb kp ko g gc G H W0) (hb : Below W0.heap.size W0 w) : US cp n place kind T bs t kk kc kb kp ko g gc G H w :=
  ⟨h.ce.later hb, cell_lat h.k hb, cell_lat h.c hb, cell_lat h.p hb, cell_lat h.b hb, cell_lat h.o hb, fun s hs => cell_lat (h.bc s hs) hb, fun i hi => cell_lat (h.gr i hi) hb, fun i j hi hj => cell_lat (h.gv i j hi hj) hb⟩
/-- The two numbers that are counted: bad is x. -/
structure UW (W0 : World) (x : Int) (w : World) : Prop where
  hb : Below W0.heap.size W0 w
  b : w.heap[W0.heap.size]? = some (.cells #[.int .i64 x] 2 (0, 0))
  a : ∃ y, w.heap[W0.heap.size + 1]? = some (.cells #[.int .i64 y] 2 (0, 0))
def BA (W0 : World) : List Nat := [W0.heap.size, W0.heap.size + 1]
theorem not_BA {k : Nat} (h : W0.heap.size + 2 ≤ k) : k ∉ BA W0 := by unfold BA; simp; omega
theorem UW.lt (h : UW W0 x w) : W0.heap.size + 1 < w.heap.size := by
  obtain ⟨y, hy⟩ := h.a
  exact (Array.getElem?_eq_some_iff.1 hy).1
theorem UW.chg {l : List Nat} (h : UW W0 x w) (hc : Chg l w w') (hl : ∀ k ∈ l, W0.heap.size + 2 ≤ k) : UW W0 x w' := by
  have hlt := h.lt
  obtain ⟨y, hy⟩ := h.a
  exact ⟨hc.below h.hb (fun k hk => by have := hl k hk; omega) (by omega), (hc.block _ (by omega) fun hk => by have := hl _ hk; omega).trans h.b, y, (hc.block _ (by omega) fun hk => by have := hl _ hk; omega).trans hy⟩
theorem UW.later (h : UW W0 x w) (hb : Below w.heap.size w w') : UW W0 x w' := h.chg (Below.chg hb) fun _ hk => (by cases hk)
theorem UW.cb (h : UW W0 x w) : w.cell? ⟨W0.heap.size, 0, none⟩ = some (.int .i64 x) := by unfold World.cell?; simp only [h.b]; rfl
theorem UW.fb (h : UW W0 x w) : w.frozen? ⟨W0.heap.size, 0, none⟩ = false := by unfold World.frozen?; simp only [h.b]; rfl
theorem UW.ca (h : UW W0 x w) : ∃ y, w.cell? ⟨W0.heap.size + 1, 0, none⟩ = some (.int .i64 y) ∧ w.frozen? ⟨W0.heap.size + 1, 0, none⟩ = false := by
  obtain ⟨y, hy⟩ := h.a
  refine ⟨y, ?_, ?_⟩
  · unfold World.cell?; simp only [hy]; rfl
  · unfold World.frozen?; simp only [hy]; rfl
theorem chg_set {l : List Nat} {k o : Nat} {v : Value} (hk : k ∈ l) : Chg l w (w.setCell ⟨k, o, none⟩ v) :=
  ⟨rfl, rfl, rfl, by simp, fun j _ hj => heap_setCell_other _ _ _ _ fun e => hj (e ▸ hk)⟩
theorem box_set {k : Nat} {v0 v : Value} {Ty : TypeId} {fz : Nat × Nat} (h : w.heap[k]? = some (.cells #[v0] Ty fz)) : (w.setCell ⟨k, 0, none⟩ v).heap[k]? = some (.cells #[v] Ty fz) := by
  simp only [World.setCell, Array.getElem?_modify, if_pos, h, Option.map_some]
  rfl
theorem UW.setA (h : UW W0 x w) (y : Int) : UW W0 x (w.setCell ⟨W0.heap.size + 1, 0, none⟩ (.int .i64 y)) := by
  obtain ⟨y0, hy⟩ := h.a
  have hlt := h.lt
  have hc : Chg (BA W0) w (w.setCell ⟨W0.heap.size + 1, 0, none⟩ (.int .i64 y)) := chg_set (by unfold BA; simp)
  exact ⟨hc.below h.hb (fun k hk => by unfold BA at hk; simp only [List.mem_cons, List.not_mem_nil, or_false] at hk; rcases hk with rfl | rfl <;> omega) (by omega), (heap_setCell_other _ _ _ _ (show W0.heap.size ≠ W0.heap.size + 1 by omega)).trans h.b, y, box_set hy⟩
theorem UW.setB (h : UW W0 x w) (y : Int) : UW W0 y (w.setCell ⟨W0.heap.size, 0, none⟩ (.int .i64 y)) := by
  obtain ⟨y0, hy⟩ := h.a
  have hlt := h.lt
  have hc : Chg (BA W0) w (w.setCell ⟨W0.heap.size, 0, none⟩ (.int .i64 y)) := chg_set (by unfold BA; simp)
  exact ⟨hc.below h.hb (fun k hk => by unfold BA at hk; simp only [List.mem_cons, List.not_mem_nil, or_false] at hk; rcases hk with rfl | rfl <;> omega) (by omega), box_set h.b, y0, (heap_setCell_other _ _ _ _ (show W0.heap.size + 1 ≠ W0.heap.size by omega)).trans hy⟩
theorem Chg.drw {l : List Nat} {w1 w2 w3 : World} (h : Chg l w1 w2) (hd : Drw w2 w3) : Chg l w1 w3 := h.trans ((Below.chg hd.below).mono fun _ h => (by cases h))
theorem cell_chg {l : List Nat} {w1 w2 : World} {a : Addr} {v : Value} (h : w1.cell? a = some v) (hc : Chg l w1 w2) (hn : a.block ∉ l) : w2.cell? a = some v := by
  have := hc.block a.block (World.block_lt_of_cell? w1 _ h) hn
  rw [← h]; unfold World.cell?; simp only [this]
end
set_option maxRecDepth 100000 in
set_option maxHeartbeats 4000000 in
theorem und11_any {cp n place kind : Nat} {T : Nat → Nat → Nat} {bs : List Int} {t : Nat → Nat → Int} {kk kc kb kp ko g gc G : Nat} {H : Nat → Nat} {W0 : World} (q : QN n T) (hS : US cp n place kind T bs t kk kc kb kp ko g gc G H W0)
    (x : Int) (f u : List Nat) (uv fv : Value) (kf : Nat) (w : World) (hU : UW W0 x w) (hkf : w.cell? ⟨kf, 0, none⟩ = some fv) (hkB : W0.heap.size + 2 ≤ kf) (hf : OI (W0.heap.size + 2) w fv (nL f)) (hu : OI (W0.heap.size + 2) w uv (nL u))
    (hfd : ∀ d ∈ f, d < n) (hud : ∀ d ∈ u, d < n) (hlf : place + f.length ≤ 4) (hlu : place + u.length ≤ 4) (hF : ∀ s, s < n → 0 ≤ uF T bs t f u s ∧ uF T bs t f u s ≤ 20000) (hx : 0 ≤ x ∧ x ≤ 100000000) (hn : n ≤ 5) :
    Calls Try.prog 87 #[uv, .pointer (some ⟨kb, 0, none⟩), .pointer (some ⟨kc, 0, none⟩), .pointer (some ⟨kp, 0, none⟩), .pointer (some ⟨kf, 0, none⟩), .pointer (some ⟨W0.heap.size + 1, 0, none⟩), .pointer (some ⟨ko, 0, none⟩), .pointer (some ⟨W0.heap.size, 0, none⟩)] w
      fun e w' => e = .returned (.tuple #[]) ∧ UW W0 (x + vS (uF T bs t f u) n) w' ∧ Chg (BA W0) w w' := by
  have HFE : Hid (∀ s, uF T bs t f u s = bs.getD s 0 * t (ld T s f) (ld T s u)) := fun s => rfl
  obtain ⟨F, hFe⟩ : ∃ F, F = uF T bs t f u := ⟨_, rfl⟩
  rw [← hFe] at HFE hF ⊢
  clear hFe
  have HSB : Hid (∀ s, s ≤ n → 0 ≤ vS F s ∧ vS F s ≤ 100000) := fun s hs => by
    have h1 := vS_bd (f := F) (K := 20000) (k := s) fun i hi => hF i (by omega)
    have h2 : s * 20000 ≤ 5 * 20000 := Nat.mul_le_mul_right _ (by omega)
    omega
  have HFB := Lib.hid hF
  have HLF : Hid (∀ wx s, UW W0 x wx → Chg (BA W0) w wx → s < n → True) := fun _ _ _ _ _ => trivial
  have HUS : Hid (∀ wx y, UW W0 y wx → US cp n place kind T bs t kk kc kb kp ko g gc G H wx) := fun wx y h => hS.later h.hb
  have HL1 : Hid (∀ wx y s, UW W0 y wx → Chg (BA W0) w wx → s < n → Calls Try.prog 88 #[.pointer (some ⟨cp, 0, none⟩), .int .i64 place, .int .i64 (s : Nat), fv] wx fun e w' => e = .returned (.int .i64 (ld T s f : Nat)) ∧ Drw wx w') := fun wx y s h hc hs =>
    leads_any cp n T q wx (hS.ce.later h.hb) (by omega) place s fv f (OK.read (OK.chg hf hc fun k hk => not_BA (by have := hf.lt k (mem_vb.1 hk); omega))) hfd hlf hs
  have HL2 : Hid (∀ wx y s, UW W0 y wx → Chg (BA W0) w wx → s < n → Calls Try.prog 88 #[.pointer (some ⟨cp, 0, none⟩), .int .i64 place, .int .i64 (s : Nat), uv] wx fun e w' => e = .returned (.int .i64 (ld T s u : Nat)) ∧ Drw wx w') := fun wx y s h hc hs =>
    leads_any cp n T q wx (hS.ce.later h.hb) (by omega) place s uv u (OK.read (OK.chg hu hc fun k hk => not_BA (by have := hu.lt k (mem_vb.1 hk); omega))) hud hlu hs
  have HLT : Hid (∀ s, s < n → ld T s f < n ∧ ld T s u < n) := fun s hs => ⟨ld_lt q f s hs hfd, ld_lt q u s hs hud⟩
  have HKF : Hid (∀ wx, Chg (BA W0) w wx → wx.cell? ⟨kf, 0, none⟩ = some fv) := fun wx hc => cell_chg hkf hc (not_BA hkB)
  have HU := Lib.hid hU
  have b0 := (hS.later hU.hb).b
  clear hS hU hkf hf hu hfd hud hF q HLF
  go_enter Try.func87, Try.ntmps87
  go_wp2_with fail
  clear b0
  go_loopw [15] (fun iv wr => ∃ s : Nat, s ≤ n ∧ iv = .int .i64 s ∧ Hid (UW W0 (x + vS F s) wr) ∧ Hid (Chg (BA W0) w wr)) (fun iv _ => n - (intOf iv).toNat)
  case atStart => exact ⟨0, Nat.zero_le _, rfl, by have := HU.out; simpa [vS, Hid] using this, Chg.refl _ _⟩
  case round =>
    obtain ⟨s, hs, rfl, HW, HC⟩ := hrel
    obtain ⟨wo, rfl⟩ : ∃ x, x = wr := ⟨_, rfl⟩
    by_cases hsn : s < n
    · have hU1 := HUS.out wo _ HW.out
      have b1 := hU1.bc s hsn
      have hsi : (s : Int) < (n : Int) := by omega
      have hFB := HFB.out s hsn
      have hSB := HSB.out s (by omega)
      have hFE := HFE.out s
      obtain ⟨hla, hlb⟩ := HLT.out s hsn
      obtain ⟨z, hz⟩ : ∃ z, z = bs.getD s 0 := ⟨_, rfl⟩
      rw [← hz] at b1 hFE
      clear hz
      have HNX : Hid (x + vS F (s + 1) = x + vS F s + F s) := by unfold Hid; rw [show vS F (s + 1) = vS F s + F s from rfl]; omega
      by_cases hz0 : z = 0
      · have hzb : (z == 0) = true := by simp [hz0]
        have HN : Hid (UW W0 (x + vS F (s + 1)) wo) := by
          have := HW.out
          unfold Hid
          rw [HNX.out, hFE, hz0, Int.zero_mul, Int.add_zero]; exact this
        clear hU1 hFE hFB hz0
        go_wp2_with fail
        go_roundw
        case rel => exact ⟨s + 1, by omega, by go_num, HN, HC⟩
        case measure => first | (simp [intOf]; done) | (simp [intOf]; omega)
      · have hzb : (z == 0) = false := by simp [hz0]
        have c1 := hU1.c
        have c2 := hU1.p
        have c3 := HKF.out wo HC.out
        have HD : Hid (∀ m (v : Value) (r : Nat), (v = fv ∧ r = ld T s f ∨ v = uv ∧ r = ld T s u) → Calls Try.prog 88 #[.pointer (some ⟨cp, 0, none⟩), .int .i64 place, .int .i64 (s : Nat), v] (wo.drewN m) fun e w' => e = .returned (.int .i64 (r : Nat)) ∧ Drw (wo.drewN m) w') := fun m v r h => by
          have h1 := HW.out.later (below_drewN (Below.refl _ _) m)
          have h2 := HC.out.drw ⟨m, rfl⟩
          rcases h with ⟨rfl, rfl⟩ | ⟨rfl, rfl⟩
          · exact HL1.out _ _ s h1 h2 hsn
          · exact HL2.out _ _ s h1 h2 hsn
        have HFE2 := Lib.hid hFE
        clear hU1 hFE hz0
        go_wp2_with fail
        go_quiet ((go_at_call 88; exact quiet_drw (HD.out _ _ _ (by first | exact .inl ⟨rfl, rfl⟩ | exact .inr ⟨rfl, rfl⟩))))
        have hW1 := HW.out.later (below_drewN (Below.refl wo.heap.size wo) nq)
        have hC1 := HC.out.drw ⟨nq, rfl⟩
        clear HD b1 c1 c2 c3
        generalize wo.drewN nq = w1 at *
        generalize ld T s f = a at *
        generalize ld T s u = b at *
        obtain ⟨y, ca, fa⟩ := hW1.ca
        have hU1 := HUS.out w1 _ hW1
        have c6 := hU1.o
        have r1 := hU1.gr a hla
        have r2 := hU1.gv a a hla hla
        have hai : (a : Int) < (n : Int) := by omega
        have hbi : (b : Int) < (n : Int) := by omega
        obtain ⟨v1, hv1⟩ : ∃ v, v = t a a := ⟨_, rfl⟩
        obtain ⟨v2, hv2⟩ : ∃ v, v = t a b := ⟨_, rfl⟩
        rw [← hv1] at r2
        obtain ⟨ha, hha⟩ : ∃ v, v = H a := ⟨_, rfl⟩
        rw [← hha] at r1 r2
        obtain ⟨m1, hm1⟩ : ∃ m, IntKind.i64.wrap (z * v1) = m := ⟨_, rfl⟩
        obtain ⟨y1, hy1⟩ : ∃ m, IntKind.i64.wrap (y + m1) = m := ⟨_, rfl⟩
        have hW2 : UW W0 (x + vS F s) (w1.setCell ⟨W0.heap.size + 1, 0, none⟩ (.int .i64 y1)).drew := (hW1.setA y1).later (Below.refl _ _).drew
        have hC2 : Chg (BA W0) w (w1.setCell ⟨W0.heap.size + 1, 0, none⟩ (.int .i64 y1)).drew := (hC1.trans (chg_set (by unfold BA; simp))).drw ⟨1, rfl⟩
        have HW2 := Lib.hid hW2
        have HC2 := Lib.hid hC2
        rw [← hv2] at HFE2
        have HV2 := Lib.hid hv2
        have HHA := Lib.hid hha
        clear hU1 hW1 hC1 hW2 hC2 hv1 hv2 hha
        go_wp2_with fail
        refine wp_region_qtail 11 (by kernel_rfl) (by kernel_rfl) ?_; simp only [List.take_succ_cons, List.take_zero, List.drop_succ_cons, List.drop_zero]; (repeat (go_big_quiet_step (fail))); refine wpQuiet_nil ?_
        go_upto_region 6 with fail
        generalize (w1.setCell ⟨W0.heap.size + 1, 0, none⟩ (.int .i64 y1)).drew = w2 at *
        clear ca fa c6 r1 r2 hm1 hy1
        have hU2 := HUS.out w2 _ HW2.out
        have cb := HW2.out.cb
        have fb := HW2.out.fb
        have c6 := hU2.o
        have r1 := hU2.gr a hla
        have r2 := hU2.gv a b hla hlb
        rw [← HHA.out] at r1 r2
        rw [← HV2.out] at r2
        obtain ⟨x1, hx1⟩ : ∃ m, m = x + vS F (s + 1) := ⟨_, rfl⟩
        have hN := HNX.out
        obtain ⟨x0, hx0⟩ : ∃ m, m = x + vS F s := ⟨_, rfl⟩
        obtain ⟨m2, hm2⟩ : ∃ m, m = F s := ⟨_, rfl⟩
        rw [← hx0] at cb hN
        rw [← hx1, ← hm2] at hN
        have hmw : IntKind.i64.wrap (z * v2) = m2 := by
          rw [← HFE2.out, hm2]; exact IntWalk.i64_in _ (by omega)
        have hxw : IntKind.i64.wrap (x0 + m2) = x1 := by
          rw [hN]; exact IntWalk.i64_in _ (by rw [hm2, hx0]; omega)
        have HW3 : Hid (UW W0 (x + vS F (s + 1)) (w2.setCell ⟨W0.heap.size, 0, none⟩ (.int .i64 x1)).drew) := by
          rw [← hx1]; exact (HW2.out.setB x1).later (Below.refl _ _).drew
        have HC3 : Hid (Chg (BA W0) w (w2.setCell ⟨W0.heap.size, 0, none⟩ (.int .i64 x1)).drew) := (HC2.out.trans (chg_set (by unfold BA; simp))).drw ⟨1, rfl⟩
        clear hU2 hN hx1 hx0 hm2
        refine wp_region_qtail 11 (by kernel_rfl) (by kernel_rfl) ?_; simp only [List.take_succ_cons, List.take_zero, List.drop_succ_cons, List.drop_zero]; (repeat (go_big_quiet_step (fail))); refine wpQuiet_nil ?_
        go_wp2_with fail
        go_roundw
        case rel => exact ⟨s + 1, by omega, by go_num, HW3, HC3⟩
        case measure => first | (simp [intOf]; done) | (simp [intOf]; omega)
    · obtain rfl : s = n := by omega
      go_wp2_with fail
      go_end0
      exact ⟨rfl, HW.out, HC.out⟩
/-- What a call of the innermost closure does: it adds val. -/
def Cbk (W0 : World) (n kf : Nat) (fv p1 p2 p3 p4 p5 p6 p7 : Value) (f : List Nat) (val : List Nat → Int) : Prop :=
  ∀ (x : Int) (u : List Nat) (uv : Value) (w : World), UW W0 x w → w.cell? ⟨kf, 0, none⟩ = some fv → OI (W0.heap.size + 2) w fv (nL f) → OI (W0.heap.size + 2) w uv (nL u) → (∀ d ∈ u, d < n) → u.length = f.length → (0 ≤ x ∧ x ≤ 100000000) →
    Calls Try.prog 87 #[uv, p1, p2, p3, p4, p5, p6, p7] w fun e w' => e = .returned (.tuple #[]) ∧ UW W0 (x + val u) w' ∧ Chg (BA W0) w w'
theorem OI.mb {B B' : Nat} {w : World} {v : Value} {xs : List Int} (h : OI B w v xs) (hB : B' ≤ B) : OI B' w v xs := OK.mono h hB
theorem OI.ba {W0 w w' : World} {v : Value} {xs : List Int} (h : OI (W0.heap.size + 2) w v xs) (hc : Chg (BA W0) w w') : OI (W0.heap.size + 2) w' v xs :=
  OK.chg h hc fun k hk => not_BA (by have := h.lt k (mem_vb.1 hk); omega)
set_option maxHeartbeats 1000000 in
theorem mk2_any (d : Int) (w : World) :
    Calls Try.prog 92 #[.int .i64 d] w fun e w' => ∃ v', e = .returned v' ∧ OI w.heap.size w' v' [d] ∧ Below w.heap.size w w' := by
  have ho : OI w.heap.size (w.alloc (.cells #[.int .i64 d] 2)) (.slice (some ⟨w.heap.size, 0, none⟩) 1 1) [d] := OV.lit _ _ [.int .i64 d] (Nat.le_refl _) (by simp [maxLen])
  have hb : Below w.heap.size w (w.alloc (.cells #[.int .i64 d] 2)) := (Below.refl _ _).alloc (Nat.le_refl _) _
  go_enter Try.func92, Try.ntmps92
  go_wp2_with fail
  go_ret
  exact ⟨_, rfl, ho, hb⟩
set_option maxRecDepth 100000 in
set_option maxHeartbeats 4000000 in
theorem each_any (W0 : World) (n a kf fg fc k5 k6 k7 : Nat) (p1 p2 p3 p4 p5 p6 p7 : Value) (val : List Nat → Int) (x : Int) (w : World) (hC : Cbk W0 n kf (.slice (some ⟨fg, 0, none⟩) 1 fc) p1 p2 p3 p4 p5 p6 p7 [a] val) (hv : ∀ d, d < n → d ≠ a → val [d] = 0)
    (hU : UW W0 x w) (hx : 0 ≤ x ∧ x ≤ 100000000) (h5 : w.cell? ⟨k5, 0, none⟩ = some (.int .i64 n)) (h6 : w.cell? ⟨k6, 0, none⟩ = some (.slice (some ⟨fg, 0, none⟩) 1 fc)) (h7 : w.cell? ⟨k7, 0, none⟩ = some (.func (.func 87) #[] #[p1, p2, p3, p4, p5, p6, p7]))
    (hk : W0.heap.size + 2 ≤ k5 ∧ W0.heap.size + 2 ≤ k6 ∧ W0.heap.size + 2 ≤ k7 ∧ W0.heap.size + 2 ≤ kf) (hkf : w.cell? ⟨kf, 0, none⟩ = some (.slice (some ⟨fg, 0, none⟩) 1 fc)) (hf : OI (W0.heap.size + 2) w (.slice (some ⟨fg, 0, none⟩) 1 fc) (nL [a])) (ha : a < n) (hn : n ≤ 5) :
    Calls Try.prog 91 #[.func (.func 92) #[] #[], .pointer (some ⟨k5, 0, none⟩), .pointer (some ⟨k6, 0, none⟩), .pointer (some ⟨k7, 0, none⟩)] w fun e w' => e = .returned (.tuple #[]) ∧ UW W0 x w' ∧ Chg (BA W0) w w' := by
  obtain ⟨q5, q6, q7, qf⟩ := hk
  have HS : Hid (∀ wr, Chg (BA W0) w wr → wr.cell? ⟨k5, 0, none⟩ = some (.int .i64 n) ∧ wr.cell? ⟨k6, 0, none⟩ = some (.slice (some ⟨fg, 0, none⟩) 1 fc) ∧ wr.cell? ⟨k7, 0, none⟩ = some (.func (.func 87) #[] #[p1, p2, p3, p4, p5, p6, p7]) ∧ wr.cell? ⟨fg, 0, none⟩ = some (.int .i64 a)) := fun wr hc => by
    have h1 := (OI.ba hf hc).cell 0 (by simp [nL])
    exact ⟨cell_chg h5 hc (not_BA q5), cell_chg h6 hc (not_BA q6), cell_chg h7 hc (not_BA q7), h1⟩
  have HCB : Hid (∀ wr w4 v4 d, Chg (BA W0) w wr → UW W0 x wr → Below wr.heap.size wr w4 → d < n → d ≠ a → OI wr.heap.size w4 v4 [(d : Int)] →
      Calls Try.prog 87 #[v4, p1, p2, p3, p4, p5, p6, p7] w4 fun e w' => e = .returned (.tuple #[]) ∧ w'.cell? ⟨k7, 0, none⟩ = some (.func (.func 87) #[] #[p1, p2, p3, p4, p5, p6, p7]) ∧ Hid (UW W0 x w') ∧ Hid (Chg (BA W0) w w')) := fun wr w4 v4 d hc hu hb hd hda ho => by
    have hc4 : Chg (BA W0) w w4 := hc.trans ((Below.chg hb).mono fun _ h => by cases h)
    have hlt := hu.lt
    refine (hC x [d] v4 w4 (hu.later hb) (cell_chg hkf hc4 (not_BA qf)) (OI.ba hf hc4) (OK.mono ho (by omega)) (by simpa using hd) rfl hx).mono ?_
    rintro e w' ⟨rfl, h1, h2⟩
    rw [hv d hd hda, Int.add_zero] at h1
    exact ⟨rfl, (HS.out w' (hc4.trans h2)).2.2.1, h1, hc4.trans h2⟩
  obtain ⟨b5, _, _, _⟩ := HS.out w (Chg.refl _ _)
  have HU := Lib.hid hU
  clear hC hU h5 h6 h7 hkf hf hv
  go_enter Try.func91, Try.ntmps91
  go_wp2_with fail
  clear b5
  go_loopw [7] (fun dv wr => ∃ d : Nat, d ≤ n ∧ dv = .int .i64 d ∧ Hid (UW W0 x wr) ∧ Hid (Chg (BA W0) w wr)) (fun dv _ => n - (intOf dv).toNat)
  case atStart => exact ⟨0, Nat.zero_le _, rfl, HU, Chg.refl _ _⟩
  case round =>
    obtain ⟨d, hd, rfl, HW, HC⟩ := hrel
    obtain ⟨wo, rfl⟩ : ∃ x, x = wr := ⟨_, rfl⟩
    by_cases hlt : d < n
    · obtain ⟨d5, d6, d7, d8⟩ := HS.out wo HC.out
      have hltI : (d : Int) < (n : Int) := by omega
      by_cases he : d = a
      · have hbn : ((d : Int) != (a : Int)) = false := by simp [he]
        clear he
        go_wp2_with fail
        go_roundw
        case rel => exact ⟨d + 1, by omega, by go_num, HW, HC⟩
        case measure => first | (simp [intOf]; done) | (simp [intOf]; omega)
      · have hbn : ((d : Int) != (a : Int)) = true := by simp; omega
        have HCM : Hid (Calls Try.prog 92 #[.int .i64 d] wo.drew fun e w4 => ∃ v4, e = .returned v4 ∧ OI wo.heap.size w4 v4 [(d : Int)] ∧ Below wo.heap.size wo w4 ∧ w4.cell? ⟨k7, 0, none⟩ = some (.func (.func 87) #[] #[p1, p2, p3, p4, p5, p6, p7])) := by
          refine (mk2_any d wo.drew).mono ?_
          rintro e w4 ⟨v4, rfl, h1, h2⟩
          have h3 : Below wo.heap.size wo w4 := (Below.refl _ _).drew.trans h2
          exact ⟨v4, rfl, h1, h3, cell_lat d7 h3⟩
        have HCD := Lib.hid (fun v4 w4 h1 h2 => HCB.out wo w4 v4 d HC.out HW.out h2 hlt he h1)
        clear he
        go_wp2_with fail
        go_region_held3 (fun w' => w'.cell? ⟨k7, 0, none⟩ = some (.func (.func 87) #[] #[p1, p2, p3, p4, p5, p6, p7])) (go_keep)
          ((first
            | (go_at_call 92; refine HCM.out.mono ?_; rintro e w4 ⟨v4, rfl, hr4, hb4, s7⟩)
            | (go_at_call 87; refine (HCD.out _ _ hr4 hb4).mono ?_; rintro e w5 ⟨rfl, t7, HW5, HC5⟩)))
        clear hr4 hb4
        go_wp2_with fail
        go_roundw
        case rel => exact ⟨d + 1, by omega, by go_num, HW5, HC5⟩
        case measure => first | (simp [intOf]; done) | (simp [intOf]; omega)
    · obtain rfl : d = n := by omega
      go_wp2_with fail
      go_end0
      exact ⟨rfl, HW.out, HC.out⟩
/-- The boxes of changes. -/
theorem made4 (w : World) (v5 v6 v7 v9 : Value) (T5 T6 T7 T9 : TypeId) (wA : World) (h : (((w.alloc (.cells #[v5] T5)).alloc (.cells #[v6] T6)).alloc (.cells #[v7] T7)).alloc (.cells #[v9] T9) = wA) :
    wA.cell? ⟨w.heap.size, 0, none⟩ = some v5 ∧ wA.cell? ⟨w.heap.size + 1, 0, none⟩ = some v6 ∧ wA.cell? ⟨w.heap.size + 1 + 1, 0, none⟩ = some v7 ∧ wA.cell? ⟨w.heap.size + 1 + 1 + 1, 0, none⟩ = some v9 ∧ Below w.heap.size w wA := by
  generalize hw1 : w.alloc (.cells #[v5] T5) = w1 at *
  have s1 : w1.heap.size = w.heap.size + 1 := by rw [← hw1]; simp
  have a1 : w1.cell? ⟨w.heap.size, 0, none⟩ = some v5 := by rw [← hw1]; exact World.cell?_alloc_at _ _ _ _ rfl
  have g1 : Below w.heap.size w w1 := by rw [← hw1]; exact (Below.refl _ _).alloc (Nat.le_refl _) _
  generalize hw2 : w1.alloc (.cells #[v6] T6) = w2 at *
  have s2 : w2.heap.size = w.heap.size + 1 + 1 := by rw [← hw2]; simp [s1]
  have a2 : w2.cell? ⟨w1.heap.size, 0, none⟩ = some v6 := by rw [← hw2]; exact World.cell?_alloc_at _ _ _ _ rfl
  have g2 : Below w1.heap.size w1 w2 := by rw [← hw2]; exact (Below.refl _ _).alloc (Nat.le_refl _) _
  generalize hw3 : w2.alloc (.cells #[v7] T7) = w3 at *
  have s3 : w3.heap.size = w.heap.size + 1 + 1 + 1 := by rw [← hw3]; simp [s2]
  have a3 : w3.cell? ⟨w2.heap.size, 0, none⟩ = some v7 := by rw [← hw3]; exact World.cell?_alloc_at _ _ _ _ rfl
  have g3 : Below w2.heap.size w2 w3 := by rw [← hw3]; exact (Below.refl _ _).alloc (Nat.le_refl _) _
  have a4 : wA.cell? ⟨w3.heap.size, 0, none⟩ = some v9 := by rw [← h]; exact World.cell?_alloc_at _ _ _ _ rfl
  have g4 : Below w3.heap.size w3 wA := by rw [← h]; exact (Below.refl _ _).alloc (Nat.le_refl _) _
  rw [s1] at a2
  rw [s2] at a3
  rw [s3] at a4
  have g24 : Below w2.heap.size w2 wA := g3.trans (g4.mono g3.size)
  have g14 : Below w1.heap.size w1 wA := g2.trans (g24.mono g2.size)
  exact ⟨cell_lat a1 g14, cell_lat a2 g24, cell_lat a3 g4, a4, g1.trans (g14.mono g1.size)⟩
set_option maxRecDepth 100000 in
set_option maxHeartbeats 4000000 in
theorem chg0_any (W0 : World) (n a kf fg fc : Nat) (p1 p2 p3 p4 p5 p6 p7 : Value) (val : List Nat → Int) (x : Int) (w : World) (hC : Cbk W0 n kf (.slice (some ⟨fg, 0, none⟩) 1 fc) p1 p2 p3 p4 p5 p6 p7 [a] val) (hv : ∀ d, d < n → d ≠ a → val [d] = 0)
    (hU : UW W0 x w) (hx : 0 ≤ x ∧ x ≤ 100000000) (hk : W0.heap.size + 2 ≤ kf) (hkf : w.cell? ⟨kf, 0, none⟩ = some (.slice (some ⟨fg, 0, none⟩) 1 fc)) (hf : OI (W0.heap.size + 2) w (.slice (some ⟨fg, 0, none⟩) 1 fc) (nL [a])) (ha : a < n) (hn : n ≤ 5) :
    Calls Try.prog 86 #[.int .i64 0, .int .i64 n, .slice (some ⟨fg, 0, none⟩) 1 fc, .func (.func 87) #[] #[p1, p2, p3, p4, p5, p6, p7]] w fun e w' => e = .returned (.tuple #[]) ∧ UW W0 x w' ∧ Chg (BA W0) w w' := by
  have HE : Hid (∀ wA, (((w.alloc (.cells #[.int .i64 n] 2)).alloc (.cells #[.slice (some ⟨fg, 0, none⟩) 1 fc] 29)).alloc (.cells #[.func (.func 87) #[] #[p1, p2, p3, p4, p5, p6, p7]] 102)).alloc (.cells #[.int .i64 0] 3) = wA →
      Calls Try.prog 91 #[.func (.func 92) #[] #[], .pointer (some ⟨w.heap.size, 0, none⟩), .pointer (some ⟨w.heap.size + 1, 0, none⟩), .pointer (some ⟨w.heap.size + 1 + 1, 0, none⟩)] wA fun e w' => e = .returned (.tuple #[]) ∧ UW W0 x w' ∧ Chg (BA W0) w w') := fun wA h => by
    obtain ⟨c5, c6, c7, _, hb⟩ := made4 w _ _ _ _ _ _ _ _ wA h
    have hlt := hU.lt
    refine (each_any W0 n a kf fg fc _ _ _ p1 p2 p3 p4 p5 p6 p7 val x wA hC hv (hU.later hb) hx c5 c6 c7 ⟨by omega, by omega, by omega, hk⟩ (cell_lat hkf hb) (OK.later hf hb) ha hn).mono ?_
    rintro e w' ⟨rfl, h1, h2⟩
    exact ⟨rfl, h1, ((Below.chg hb).mono fun _ h => by cases h).trans h2⟩
  clear hC hv hU hkf hf
  go_enter Try.func86, Try.ntmps86
  go_upto_region 3 with fail
  generalize hwA : (((w.alloc (.cells #[.int .i64 n] 2)).alloc (.cells #[.slice (some ⟨fg, 0, none⟩) 1 fc] 29)).alloc (.cells #[.func (.func 87) #[] #[p1, p2, p3, p4, p5, p6, p7]] 102)).alloc (.cells #[.int .i64 0] 3) = wA at *
  have HEA := Lib.hid (HE.out wA rfl)
  clear HE hwA
  go_wp2_with (go_at_call 91; refine HEA.out.mono ?_; rintro e w9 ⟨rfl, h1, h2⟩)
  go_end0
  exact ⟨rfl, h1, h2⟩
set_option maxRecDepth 100000 in
set_option maxHeartbeats 4000000 in
theorem chg1_any (W0 : World) (n a b kf fg fc : Nat) (p1 p2 p3 p4 p5 p6 p7 : Value) (val : List Nat → Int) (x : Int) (w : World) (hC : Cbk W0 n kf (.slice (some ⟨fg, 0, none⟩) 2 fc) p1 p2 p3 p4 p5 p6 p7 [a, b] val)
    (hU : UW W0 x w) (hx : 0 ≤ x ∧ x ≤ 100000000) (hk : W0.heap.size + 2 ≤ kf) (hkf : w.cell? ⟨kf, 0, none⟩ = some (.slice (some ⟨fg, 0, none⟩) 2 fc)) (hf : OI (W0.heap.size + 2) w (.slice (some ⟨fg, 0, none⟩) 2 fc) (nL [a, b])) (ha : a < n) (hb : b < n) (hn : n ≤ 5) :
    Calls Try.prog 86 #[.int .i64 1, .int .i64 n, .slice (some ⟨fg, 0, none⟩) 2 fc, .func (.func 87) #[] #[p1, p2, p3, p4, p5, p6, p7]] w fun e w' => e = .returned (.tuple #[]) ∧ UW W0 (x + (if a = b then 0 else val [b, a])) w' ∧ Chg (BA W0) w w' := by
  obtain ⟨X, hX⟩ : ∃ X, X = x + (if a = b then 0 else val [b, a]) := ⟨_, rfl⟩
  rw [← hX]
  have HM : Hid (∀ wA, (((w.alloc (.cells #[.int .i64 n] 2)).alloc (.cells #[.slice (some ⟨fg, 0, none⟩) 2 fc] 29)).alloc (.cells #[.func (.func 87) #[] #[p1, p2, p3, p4, p5, p6, p7]] 102)).alloc (.cells #[.int .i64 1] 3) = wA →
      wA.cell? ⟨w.heap.size + 1, 0, none⟩ = some (.slice (some ⟨fg, 0, none⟩) 2 fc) ∧ wA.cell? ⟨w.heap.size + 1 + 1, 0, none⟩ = some (.func (.func 87) #[] #[p1, p2, p3, p4, p5, p6, p7]) ∧ wA.cell? ⟨w.heap.size + 1 + 1 + 1, 0, none⟩ = some (.int .i64 1) ∧ Below w.heap.size w wA) := fun wA h => by
    obtain ⟨c5, c6, c7, c9, hb⟩ := made4 w _ _ _ _ _ _ _ _ wA h
    exact ⟨c6, c7, c9, hb⟩
  have HF := Lib.hid hf
  have HFC : Hid (∀ wr, Below w.heap.size w wr → wr.cell? ⟨fg, 0, none⟩ = some (.int .i64 a) ∧ wr.cell? ⟨fg, 1, none⟩ = some (.int .i64 b) ∧ fg < w.heap.size) := fun wr hb => by
    have h1 := (OK.later hf hb).cell 0 (by simp [nL])
    have h2 := (OK.later hf hb).cell 1 (by simp [nL])
    exact ⟨h1, h2, (hf.lt fg rfl).2⟩
  have HU := Lib.hid hU
  have HCB : Hid (∀ wr v4, Below w.heap.size w wr → OI (W0.heap.size + 2) wr v4 [(b : Int), (a : Int)] →
      Calls Try.prog 87 #[v4, p1, p2, p3, p4, p5, p6, p7] wr fun e w' => e = .returned (.tuple #[]) ∧ UW W0 (x + val [b, a]) w' ∧ Chg (BA W0) w w') := fun wr v4 hb4 ho => by
    refine (hC x [b, a] v4 wr (hU.later hb4) (cell_lat hkf hb4) (OK.later hf hb4) ho (by simp; omega) rfl hx).mono ?_
    rintro e w' ⟨rfl, h1, h2⟩
    exact ⟨rfl, h1, ((Below.chg hb4).mono fun _ h => by cases h).trans h2⟩
  have hlt := hU.lt
  clear hC hU hkf hf
  go_enter Try.func86, Try.ntmps86
  go_upto_region 3 with fail
  generalize hwA : (((w.alloc (.cells #[.int .i64 n] 2)).alloc (.cells #[.slice (some ⟨fg, 0, none⟩) 2 fc] 29)).alloc (.cells #[.func (.func 87) #[] #[p1, p2, p3, p4, p5, p6, p7]] 102)).alloc (.cells #[.int .i64 1] 3) = wA at *
  obtain ⟨c6, c7, c9, hbA⟩ := HM.out wA rfl
  obtain ⟨f0, f1, fgl⟩ := HFC.out wA hbA
  have HWA := Lib.hid (fun wr (h : Below wA.heap.size wA wr) => (⟨cell_lat c6 h, cell_lat c7 h, cell_lat c9 h, hbA.trans (h.mono hbA.size)⟩ : wr.cell? ⟨w.heap.size + 1, 0, none⟩ = _ ∧ wr.cell? ⟨w.heap.size + 1 + 1, 0, none⟩ = _ ∧ wr.cell? ⟨w.heap.size + 1 + 1 + 1, 0, none⟩ = _ ∧ Below w.heap.size w wr))
  have hszA : w.heap.size + 4 ≤ wA.heap.size := by rw [← hwA]; simp
  clear HM hwA
  by_cases he : a = b
  · have hbn : ((a : Int) != (b : Int)) = false := by simp [he]
    have HE : Hid (X = x) := by unfold Hid; rw [hX, if_pos he]; omega
    clear he hX
    go_wp2_with fail
    go_quiet (fail)
    have hb1 := (HWA.out _ (below_drewN (Below.refl wA.heap.size wA) nq)).2.2.2
    clear c6 c7 c9 f0 f1 HWA
    generalize wA.drewN nq = w1 at *
    go_wp2_with fail
    go_end0
    rw [HE.out]
    exact ⟨rfl, HU.out.later hb1, (Below.chg hb1).mono fun _ h => by cases h⟩
  · have hbn : ((a : Int) != (b : Int)) = true := by simp; omega
    have HE : Hid (X = x + val [b, a]) := by unfold Hid; rw [hX, if_neg he]
    clear he hX
    go_wp2_with fail
    go_quiet (fail)
    have hA1 : Below wA.heap.size wA (wA.drewN nq) := below_drewN (Below.refl wA.heap.size wA) nq
    clear c6 c7 c9 f0 f1
    generalize wA.drewN nq = w1 at *
    obtain ⟨c6, c7, c9, hb1⟩ := HWA.out w1 hA1
    obtain ⟨f0, f1, _⟩ := HFC.out w1 hb1
    have HR1 := Lib.hid (OK.read (OK.later HF.out hb1))
    have hs1 := hA1.size
    have HA1 := Lib.hid hA1
    clear hA1 hb1
    go_wp2_with fail
    refine (clone_any _ _ w1 HR1.out (by simp [nL])).mono ?_
    rintro e w2 ⟨cv, rfl, ho, hb2⟩
    clear c6 c7 c9 f0 f1
    have hA2 := HA1.out.trans (hb2.mono HA1.out.size)
    obtain ⟨c6, c7, c9, hbw2⟩ := HWA.out w2 hA2
    obtain ⟨f0, f1, _⟩ := HFC.out w2 hbw2
    rcases OK.shape ho with ⟨_, h0⟩ | ⟨h, cap, rfl, hB, hcap⟩
    · exfalso; simp [nL] at h0
    rw [show (nL [a, b]).length = 2 from rfl] at ho ⊢
    have e0 := ho.cell 0 (by simp [nL])
    have e1 := ho.cell 1 (by simp [nL])
    have y0 := ho.frozen 0
    have y1 := ho.frozen 1
    have hst := ho.stored 0 (b : Int)
    have hst2 := hst.1.stored 1 (a : Int)
    have hb3 : Below w1.heap.size w1 (w2.setCell ⟨h, 0, none⟩ (.int .i64 b)) := hb2.setCell (p := ⟨h, 0, none⟩) hB _
    obtain ⟨d6, d7, d9, hbw3⟩ := HWA.out _ (HA1.out.trans (hb3.mono HA1.out.size))
    obtain ⟨g0, g1, _⟩ := HFC.out _ hbw3
    have hb4 : Below w1.heap.size w1 ((w2.setCell ⟨h, 0, none⟩ (.int .i64 b)).setCell ⟨h, 1, none⟩ (.int .i64 a)).drew := (hb3.setCell (p := ⟨h, 1, none⟩) hB _).drew
    obtain ⟨k6, k7, k9, hbw4⟩ := HWA.out _ (HA1.out.trans (hb4.mono HA1.out.size))
    have HCL := Lib.hid (HCB.out ((w2.setCell ⟨h, 0, none⟩ (.int .i64 b)).setCell ⟨h, 1, none⟩ (.int .i64 a)).drew (.slice (some ⟨h, 0, none⟩) 2 cap) hbw4 (OK.mono (OK.drew hst2.1) (by omega)))
    clear hst hst2 hb2 hb3 hb4 hbw2 hbw3 hbw4 ho hA2
    go_wp2_with fail
    go_region
    generalize ((w2.setCell ⟨h, 0, none⟩ (.int .i64 b)).setCell ⟨h, 1, none⟩ (.int .i64 a)).drew = w4 at *
    go_wp2_with fail
    refine HCL.out.mono ?_
    rintro e w9 ⟨rfl, h1, h2⟩
    go_wp2_with fail
    go_end0
    rw [HE.out]
    exact ⟨rfl, h1, h2⟩
theorem cbk_und {cp n place kind r : Nat} {T : Nat → Nat → Nat} {bs : List Int} {t : Nat → Nat → Int} {kk kc kb kp ko g gc G : Nat} {H : Nat → Nat} {W0 : World} (q : QN n T) (hS : US cp n place kind T bs t kk kc kb kp ko g gc G H W0)
    (hB : BgP n place bs) (hT : BoP n r t) (hr : place + r ≤ 3) (hn : n ≤ 5) (f : List Nat) (fv : Value) (kf : Nat) (hkB : W0.heap.size + 2 ≤ kf) (hfd : ∀ d ∈ f, d < n) (hl : place + f.length ≤ 4) :
    Cbk W0 n kf fv (.pointer (some ⟨kb, 0, none⟩)) (.pointer (some ⟨kc, 0, none⟩)) (.pointer (some ⟨kp, 0, none⟩)) (.pointer (some ⟨kf, 0, none⟩)) (.pointer (some ⟨W0.heap.size + 1, 0, none⟩)) (.pointer (some ⟨ko, 0, none⟩)) (.pointer (some ⟨W0.heap.size, 0, none⟩))
      f (fun u => vS (uF T bs t f u) n) := fun x u uv w hU hkf hf hu hud hul hx =>
  und11_any q hS x f u uv fv kf w hU hkf hkB hf hu hfd hud hl (by rw [hul]; exact hl) (fun s hs => uF_small q hB hT hfd hud hr hs) hx hn
set_option maxRecDepth 100000 in
set_option maxHeartbeats 4000000 in
theorem und1_0 {cp n place r : Nat} {T : Nat → Nat → Nat} {bs : List Int} {t : Nat → Nat → Int} {kk kc kb kp ko g gc G : Nat} {H : Nat → Nat} {W0 : World} (q : QN n T) (hS : US cp n place 0 T bs t kk kc kb kp ko g gc G H W0)
    (hB : BgP n place bs) (hT : BoP n r t) (hr : place + r ≤ 3) (hpl : place + 1 ≤ 4) (hn : n ≤ 5) (x : Int) (a : Nat) (fg fc : Nat) (w : World) (hU : UW W0 x w) (hx : 0 ≤ x ∧ x ≤ 100000000) (hf : OI (W0.heap.size + 2) w (.slice (some ⟨fg, 0, none⟩) 1 fc) (nL [a])) (ha : a < n) :
    Calls Try.prog 85 #[.slice (some ⟨fg, 0, none⟩) 1 fc, .pointer (some ⟨kk, 0, none⟩), .pointer (some ⟨kc, 0, none⟩), .pointer (some ⟨kb, 0, none⟩), .pointer (some ⟨kp, 0, none⟩), .pointer (some ⟨W0.heap.size + 1, 0, none⟩), .pointer (some ⟨ko, 0, none⟩), .pointer (some ⟨W0.heap.size, 0, none⟩)] w
      fun e w' => e = .returned (.bool true) ∧ UW W0 (x) w' ∧ Chg (BA W0) w w' := by
  obtain ⟨X, hX⟩ : ∃ X, X = x := ⟨_, rfl⟩
  rw [← hX]
  have HM : Hid (∀ w1, w.alloc (.cells #[.slice (some ⟨fg, 0, none⟩) 1 fc] 29) = w1 → US cp n place 0 T bs t kk kc kb kp ko g gc G H w1 ∧ w1.cell? ⟨w.heap.size, 0, none⟩ = some (.slice (some ⟨fg, 0, none⟩) 1 fc) ∧
      Calls Try.prog 86 #[.int .i64 0, .int .i64 n, .slice (some ⟨fg, 0, none⟩) 1 fc, .func (.func 87) #[] #[.pointer (some ⟨kb, 0, none⟩), .pointer (some ⟨kc, 0, none⟩), .pointer (some ⟨kp, 0, none⟩), .pointer (some ⟨w.heap.size, 0, none⟩), .pointer (some ⟨W0.heap.size + 1, 0, none⟩), .pointer (some ⟨ko, 0, none⟩), .pointer (some ⟨W0.heap.size, 0, none⟩)]] w1.drew
        fun e w' => e = .returned (.tuple #[]) ∧ UW W0 X w' ∧ Chg (BA W0) w w') := fun w1 h => by
    have hb1 : Below w.heap.size w w1 := by rw [← h]; exact (Below.refl _ _).alloc (Nat.le_refl _) _
    have hb2 : Below w.heap.size w w1.drew := hb1.drew
    have c1 : w1.cell? ⟨w.heap.size, 0, none⟩ = some (.slice (some ⟨fg, 0, none⟩) 1 fc) := by rw [← h]; exact World.cell?_alloc_at _ _ _ _ rfl
    have hlt := hU.lt
    refine ⟨hS.later (hU.later hb1).hb, c1, ?_⟩
    refine (chg0_any W0 n a w.heap.size fg fc _ _ _ _ _ _ _ _ x w1.drew (cbk_und q hS hB hT hr hn [a] _ _ (by omega) (by simpa using ha) hpl) (fun d hd hda => vS_zero fun s hs => uF_one q hT ha hd (Ne.symm hda) hs) (hU.later hb2) hx (by omega) c1 (OK.later hf hb2) ha hn).mono ?_
    rintro e w' ⟨rfl, h1, h2⟩
    exact ⟨rfl, by rw [hX]; exact h1, ((Below.chg hb2).mono fun _ h => by cases h).trans h2⟩
  have hn36 : n ≤ 36 := by omega
  clear hB hT hU hf hX hS
  go_enter Try.func85, Try.ntmps85
  go_upto_region 1 with fail
  generalize hw1 : w.alloc (.cells #[.slice (some ⟨fg, 0, none⟩) 1 fc] 29) = w1 at *
  obtain ⟨hS1, c1, hC⟩ := HM.out w1 rfl
  have c2 := hS1.k
  have c3 := hS1.c
  have c4 := hS1.ce.fields.1
  have HC := Lib.hid hC
  clear HM hw1 hS1 hC
  refine wp_region_qtail 7 (by kernel_rfl) (by kernel_rfl) ?_; simp only [List.take_succ_cons, List.take_zero, List.drop_succ_cons, List.drop_zero]; (repeat (go_big_quiet_step (fail))); refine wpQuiet_nil ?_
  go_wp2_with (go_at_call 86; refine HC.out.mono ?_; rintro e w9 ⟨rfl, h1, h2⟩)
  go_ret
  exact ⟨rfl, h1, h2⟩
set_option maxRecDepth 100000 in
set_option maxHeartbeats 4000000 in
theorem und1_1 {cp n place r : Nat} {T : Nat → Nat → Nat} {bs : List Int} {t : Nat → Nat → Int} {kk kc kb kp ko g gc G : Nat} {H : Nat → Nat} {W0 : World} (q : QN n T) (hS : US cp n place 1 T bs t kk kc kb kp ko g gc G H W0)
    (hB : BgP n place bs) (hT : BoP n r t) (hr : place + r ≤ 3) (hpl : place + 2 ≤ 4) (hn : n ≤ 5) (x : Int) (a b : Nat) (fg fc : Nat) (w : World) (hU : UW W0 x w) (hx : 0 ≤ x ∧ x ≤ 100000000) (hf : OI (W0.heap.size + 2) w (.slice (some ⟨fg, 0, none⟩) 2 fc) (nL [a, b])) (ha : a < n) (hb : b < n) :
    Calls Try.prog 85 #[.slice (some ⟨fg, 0, none⟩) 2 fc, .pointer (some ⟨kk, 0, none⟩), .pointer (some ⟨kc, 0, none⟩), .pointer (some ⟨kb, 0, none⟩), .pointer (some ⟨kp, 0, none⟩), .pointer (some ⟨W0.heap.size + 1, 0, none⟩), .pointer (some ⟨ko, 0, none⟩), .pointer (some ⟨W0.heap.size, 0, none⟩)] w
      fun e w' => e = .returned (.bool true) ∧ UW W0 (x + cvS n T bs t a b) w' ∧ Chg (BA W0) w w' := by
  obtain ⟨X, hX⟩ : ∃ X, X = x + cvS n T bs t a b := ⟨_, rfl⟩
  rw [← hX]
  have HM : Hid (∀ w1, w.alloc (.cells #[.slice (some ⟨fg, 0, none⟩) 2 fc] 29) = w1 → US cp n place 1 T bs t kk kc kb kp ko g gc G H w1 ∧ w1.cell? ⟨w.heap.size, 0, none⟩ = some (.slice (some ⟨fg, 0, none⟩) 2 fc) ∧
      Calls Try.prog 86 #[.int .i64 1, .int .i64 n, .slice (some ⟨fg, 0, none⟩) 2 fc, .func (.func 87) #[] #[.pointer (some ⟨kb, 0, none⟩), .pointer (some ⟨kc, 0, none⟩), .pointer (some ⟨kp, 0, none⟩), .pointer (some ⟨w.heap.size, 0, none⟩), .pointer (some ⟨W0.heap.size + 1, 0, none⟩), .pointer (some ⟨ko, 0, none⟩), .pointer (some ⟨W0.heap.size, 0, none⟩)]] w1.drew
        fun e w' => e = .returned (.tuple #[]) ∧ UW W0 X w' ∧ Chg (BA W0) w w') := fun w1 h => by
    have hb1 : Below w.heap.size w w1 := by rw [← h]; exact (Below.refl _ _).alloc (Nat.le_refl _) _
    have hb2 : Below w.heap.size w w1.drew := hb1.drew
    have c1 : w1.cell? ⟨w.heap.size, 0, none⟩ = some (.slice (some ⟨fg, 0, none⟩) 2 fc) := by rw [← h]; exact World.cell?_alloc_at _ _ _ _ rfl
    have hlt := hU.lt
    refine ⟨hS.later (hU.later hb1).hb, c1, ?_⟩
    refine (chg1_any W0 n a b w.heap.size fg fc _ _ _ _ _ _ _ _ x w1.drew (cbk_und q hS hB hT hr hn [a, b] _ _ (by omega) (by simp; omega) hpl) (hU.later hb2) hx (by omega) c1 (OK.later hf hb2) ha hb hn).mono ?_
    rintro e w' ⟨rfl, h1, h2⟩
    exact ⟨rfl, by rw [hX]; exact h1, ((Below.chg hb2).mono fun _ h => by cases h).trans h2⟩
  have hn36 : n ≤ 36 := by omega
  clear hB hT hU hf hX hS
  go_enter Try.func85, Try.ntmps85
  go_upto_region 1 with fail
  generalize hw1 : w.alloc (.cells #[.slice (some ⟨fg, 0, none⟩) 2 fc] 29) = w1 at *
  obtain ⟨hS1, c1, hC⟩ := HM.out w1 rfl
  have c2 := hS1.k
  have c3 := hS1.c
  have c4 := hS1.ce.fields.1
  have HC := Lib.hid hC
  clear HM hw1 hS1 hC
  refine wp_region_qtail 7 (by kernel_rfl) (by kernel_rfl) ?_; simp only [List.take_succ_cons, List.take_zero, List.drop_succ_cons, List.drop_zero]; (repeat (go_big_quiet_step (fail))); refine wpQuiet_nil ?_
  go_wp2_with (go_at_call 86; refine HC.out.mono ?_; rintro e w9 ⟨rfl, h1, h2⟩)
  go_ret
  exact ⟨rfl, h1, h2⟩
/-- What a call of the outer closure does: it adds add. -/
def Cbt (W0 : World) (n L : Nat) (p1 p2 p3 p4 p5 p6 p7 : Value) (add : List Nat → Int) : Prop :=
  ∀ (x : Int) (f : List Nat) (fg fc : Nat) (w : World), UW W0 x w → (0 ≤ x ∧ x ≤ 100000000) → OI (W0.heap.size + 2) w (.slice (some ⟨fg, 0, none⟩) L fc) (nL f) → f.length = L → (∀ d ∈ f, d < n) →
    Calls Try.prog 85 #[.slice (some ⟨fg, 0, none⟩) L fc, p1, p2, p3, p4, p5, p6, p7] w fun e w' => e = .returned (.bool true) ∧ UW W0 (x + add f) w' ∧ Chg (BA W0) w w'
theorem nL1 (a : Nat) : nL [a] = [(a : Int)] := rfl
theorem nL2 (a b : Nat) : nL [a, b] = [(a : Int), (b : Int)] := rfl
theorem Chg.setNew {l : List Nat} {w w1 : World} (h : Chg l w w1) {k o : Nat} {v : Value} (hk : w.heap.size ≤ k) : Chg l w (w1.setCell ⟨k, o, none⟩ v) :=
  ⟨h.os, h.tape, h.output, by simpa using h.size, fun j hj hn => (heap_setCell_other _ _ _ _ (show j ≠ k by omega)).trans (h.block j hj hn)⟩
theorem UW.setNew {W0 w : World} {x : Int} (h : UW W0 x w) {k o : Nat} {v : Value} (hk : W0.heap.size + 2 ≤ k) : UW W0 x (w.setCell ⟨k, o, none⟩ v) :=
  h.chg (l := [k]) (chg_set (by simp)) fun j hj => by simp only [List.mem_singleton] at hj; omega
set_option maxRecDepth 100000 in
set_option maxHeartbeats 4000000 in
theorem tup1_any (W0 : World) (n : Nat) (p1 p2 p3 p4 p5 p6 p7 : Value) (add : List Nat → Int) (w : World) (hC : Cbt W0 n 1 p1 p2 p3 p4 p5 p6 p7 add) (hU : UW W0 0 w) (hn : 1 ≤ n ∧ n ≤ 5) (hb : ∀ i, i ≤ n → 0 ≤ vS (fun i => add [i]) i ∧ vS (fun i => add [i]) i ≤ 100000000) :
    Calls Try.prog 84 #[.int .i64 n, .int .i64 1, .func (.func 85) #[] #[p1, p2, p3, p4, p5, p6, p7]] w fun e w' => e = .returned (.tuple #[]) ∧ UW W0 (vS (fun i => add [i]) n) w' ∧ Chg (BA W0) w w' := by
  obtain ⟨n1, n5⟩ := hn
  obtain ⟨m0, rfl⟩ : ∃ m0, n = m0 + 1 := ⟨n - 1, by omega⟩
  have hG : ∀ i, vS (fun i => add [i]) (i + 1) = vS (fun i => add [i]) i + add [i] := fun i => rfl
  obtain ⟨V, hV⟩ : ∃ V, V = vS (fun i => add [i]) := ⟨_, rfl⟩
  rw [← hV] at hb hG ⊢
  have HV0 : Hid (V 0 = 0) := by unfold Hid; rw [hV]; rfl
  have hlt := hU.lt
  have HCB : Hid (∀ wr i, i < m0 + 1 → OI w.heap.size wr (.slice (some ⟨w.heap.size, 0, none⟩) 1 1) [(i : Int)] → Hid (UW W0 (V i) wr) → Hid (Chg (BA W0) w wr) →
      Calls Try.prog 85 #[.slice (some ⟨w.heap.size, 0, none⟩) 1 1, p1, p2, p3, p4, p5, p6, p7] wr fun e w' => e = .returned (.bool true) ∧ Hid (UW W0 (V (i + 1)) w') ∧ Hid (Chg (BA W0) w w') ∧ OI w.heap.size w' (.slice (some ⟨w.heap.size, 0, none⟩) 1 1) [(i : Int)]) := fun wr i hi ho hu hc => by
    refine (hC (V i) [i] w.heap.size 1 wr hu.out (hb i (by omega)) (OK.mono ho (by omega)) rfl (by simpa using hi)).mono ?_
    rintro e w' ⟨rfl, h1, h2⟩
    rw [← hG i] at h1
    exact ⟨rfl, h1, hc.out.trans h2, OK.chg ho h2 fun k hk => not_BA (by have := ho.lt k (mem_vb.1 hk); omega)⟩
  have HU := Lib.hid hU
  have hwm : IntKind.i64.wrap ((m0 : Int) + 1 - 1) = (m0 : Int) := by rw [show (m0 : Int) + 1 - 1 = (m0 : Int) by omega]; exact IntWalk.i64_in _ (by omega)
  clear hC hU hb hG hV
  go_enter Try.func84, Try.ntmps84
  go_wp2_with (at_make; refine wpl_make_i64 rfl _ _ rfl w.heap.size .i64 .i64 _ _ 1 rfl rfl rfl rfl (by omega) (Nat.le_refl _) ?_; intro w1 hown hgr hlt1)
  have hb1 : Below w.heap.size w w1 := (Below.refl _ _).grown hgr (Nat.le_refl _) (by simp)
  have HU1 : Hid (UW W0 (V 0) w1) := by unfold Hid; rw [HV0.out]; exact HU.out.later hb1
  have HC1 : Hid (Chg (BA W0) w w1) := (Below.chg hb1).mono fun _ h => by cases h
  have ho1 : OI w.heap.size w1 (.slice (some ⟨w.heap.size, 0, none⟩) 1 1) [((0 : Nat) : Int)] := hown
  clear hown hgr hlt1 hb1
  go_loopg [7] (m0 + 1) (fun m kv wr => ∃ i : Nat, i ≤ m0 ∧ Hid (m = m0 + 1 - i) ∧ OI w.heap.size wr (.slice (some ⟨w.heap.size, 0, none⟩) 1 1) [(i : Int)] ∧ Hid (UW W0 (V i) wr) ∧ Hid (Chg (BA W0) w wr))
  case atStart => exact ⟨0, Nat.zero_le _, rfl, ho1, HU1, HC1⟩
  case round =>
    clear ho1 HU1 HC1
    obtain ⟨i, hi, HI, ho, HW, HC⟩ := hrel
    have HCL := Lib.hid (HCB.out _ i (by omega) ho HW HC)
    clear ho HW HC
    go_wp2_with fail
    refine HCL.out.mono ?_
    rintro e w2 ⟨rfl, HW, HC, ho⟩
    clear HCL
    go_wp2_with fail
    go_loopw [7] (fun kv wq => ∃ L : List Int, OI w.heap.size wq (.slice (some ⟨w.heap.size, 0, none⟩) 1 1) L ∧ (kv = .int .i64 0 ∧ L = [(i : Int)] ∨ kv = .int .i64 (-1) ∧ L = [0] ∧ i = m0) ∧ Hid (UW W0 (V (i + 1)) wq) ∧ Hid (Chg (BA W0) w wq)) (fun kv _ => (intOf kv + 1).toNat)
    case atStart => exact ⟨_, ho, .inl ⟨rfl, rfl⟩, HW, HC⟩
    case round =>
      clear ho HW HC
      obtain ⟨L, ho, hk, HW, HC⟩ := hrel
      obtain ⟨wq, rfl⟩ : ∃ x, x = wr := ⟨_, rfl⟩
      rcases hk with ⟨rfl, rfl⟩ | ⟨rfl, rfl, rfl⟩
      · have c0 := ho.cell 0 (by simp)
        have z0 := ho.frozen 0
        rw [show [(i : Int)].getD 0 0 = (i : Int) from rfl] at c0
        by_cases he : i = m0
        · have hbe : ((i : Int) == (m0 : Int)) = true := by simp [he]
          have HO2 : Hid (OI w.heap.size (wq.setCell ⟨w.heap.size, 0, none⟩ (.int .i64 0)) (.slice (some ⟨w.heap.size, 0, none⟩) 1 1) [0]) := (ho.stored 0 0).1
          have HW2 : Hid (UW W0 (V (i + 1)) (wq.setCell ⟨w.heap.size, 0, none⟩ (.int .i64 0))) := HW.out.setNew (by omega)
          have HC2 : Hid (Chg (BA W0) w (wq.setCell ⟨w.heap.size, 0, none⟩ (.int .i64 0))) := Chg.setNew HC.out (Nat.le_refl _)
          have HEQ := Lib.hid he
          clear he ho
          go_wp2_with fail
          go_roundw
          case rel => exact ⟨[0], HO2.out, .inr ⟨by go_num, rfl, HEQ.out⟩, HW2, HC2⟩
          case measure => first | (simp [intOf]; done) | (simp [intOf]; omega)
        · have hbe : ((i : Int) == (m0 : Int)) = false := by simp; omega
          have hw1 : IntKind.i64.wrap ((i : Int) + 1) = ((i + 1 : Nat) : Int) := by rw [IntWalk.i64_in _ (by omega)]; omega
          have HO2 : Hid (OI w.heap.size (wq.setCell ⟨w.heap.size, 0, none⟩ (.int .i64 ((i + 1 : Nat) : Int))) (.slice (some ⟨w.heap.size, 0, none⟩) 1 1) [((i + 1 : Nat) : Int)]) := (ho.stored 0 _).1
          have HW2 : Hid (UW W0 (V (i + 1)) (wq.setCell ⟨w.heap.size, 0, none⟩ (.int .i64 ((i + 1 : Nat) : Int)))) := HW.out.setNew (by omega)
          have HC2 : Hid (Chg (BA W0) w (wq.setCell ⟨w.heap.size, 0, none⟩ (.int .i64 ((i + 1 : Nat) : Int)))) := Chg.setNew HC.out (Nat.le_refl _)
          clear ho
          go_wp2_with fail
          go_roundg (m0 + 1 - (i + 1))
          case measure => have := HI.out; omega
          case rel => exact ⟨i + 1, by omega, rfl, HO2.out, HW2, HC2⟩
      · go_wp2_with fail
        refine bodyPost_ret (results_none rfl _ _ _) rfl ?_
        exact ⟨rfl, HW.out, HC.out⟩
set_option maxRecDepth 100000 in
set_option maxHeartbeats 4000000 in
theorem tup2_any (W0 : World) (n : Nat) (p1 p2 p3 p4 p5 p6 p7 : Value) (add : List Nat → Int) (w : World) (hC : Cbt W0 n 2 p1 p2 p3 p4 p5 p6 p7 add) (hU : UW W0 0 w) (hn : 1 ≤ n ∧ n ≤ 5) (hb : ∀ i, i ≤ n * n → 0 ≤ vS (fun i => add [i / n, i % n]) i ∧ vS (fun i => add [i / n, i % n]) i ≤ 100000000) :
    Calls Try.prog 84 #[.int .i64 n, .int .i64 2, .func (.func 85) #[] #[p1, p2, p3, p4, p5, p6, p7]] w fun e w' => e = .returned (.tuple #[]) ∧ UW W0 (vS (fun i => add [i / n, i % n]) (n * n)) w' ∧ Chg (BA W0) w w' := by
  obtain ⟨n1, n5⟩ := hn
  obtain ⟨m0, rfl⟩ : ∃ m0, n = m0 + 1 := ⟨n - 1, by omega⟩
  have hG : ∀ a b, b < m0 + 1 → vS (fun i => add [i / (m0 + 1), i % (m0 + 1)]) (a * (m0 + 1) + b + 1) = vS (fun i => add [i / (m0 + 1), i % (m0 + 1)]) (a * (m0 + 1) + b) + add [a, b] := fun a b hb => by
    show _ + add [(a * (m0 + 1) + b) / (m0 + 1), (a * (m0 + 1) + b) % (m0 + 1)] = _
    rw [pr_div (m := m0 + 1) a hb, pr_mod (m := m0 + 1) a hb]
  obtain ⟨V, hV⟩ : ∃ V, V = vS (fun i => add [i / (m0 + 1), i % (m0 + 1)]) := ⟨_, rfl⟩
  rw [← hV] at hb hG ⊢
  have HV0 : Hid (V 0 = 0) := by unfold Hid; rw [hV]; rfl
  obtain ⟨N, hN⟩ : ∃ N, N = (m0 + 1) * (m0 + 1) := ⟨_, rfl⟩
  rw [← hN] at hb ⊢
  have HLT : Hid (∀ a b, a ≤ m0 → b ≤ m0 → a * (m0 + 1) + b < N) := fun a b ha hb => by rw [hN]; exact pr_lt (by omega) (by omega)
  have HEND : Hid (m0 * (m0 + 1) + m0 + 1 = N) := by unfold Hid; rw [hN, Nat.succ_mul]; omega
  have hlt := hU.lt
  have HCB : Hid (∀ wr a b i, a ≤ m0 → b ≤ m0 → i = a * (m0 + 1) + b → OI w.heap.size wr (.slice (some ⟨w.heap.size, 0, none⟩) 2 2) [(a : Int), (b : Int)] → Hid (UW W0 (V i) wr) → Hid (Chg (BA W0) w wr) →
      Calls Try.prog 85 #[.slice (some ⟨w.heap.size, 0, none⟩) 2 2, p1, p2, p3, p4, p5, p6, p7] wr fun e w' => e = .returned (.bool true) ∧ Hid (UW W0 (V (i + 1)) w') ∧ Hid (Chg (BA W0) w w') ∧ OI w.heap.size w' (.slice (some ⟨w.heap.size, 0, none⟩) 2 2) [(a : Int), (b : Int)]) := fun wr a b i ha hb2 hi ho hu hc => by
    have h3 := HLT.out a b ha hb2
    refine (hC (V i) [a, b] w.heap.size 2 wr hu.out (hb i (by omega)) (OK.mono ho (by omega)) rfl (by simp; omega)).mono ?_
    rintro e w' ⟨rfl, h1, h2⟩
    rw [hi, ← hG a b (by omega), ← hi] at h1
    exact ⟨rfl, h1, hc.out.trans h2, OK.chg ho h2 fun k hk => not_BA (by have := ho.lt k (mem_vb.1 hk); omega)⟩
  have HU := Lib.hid hU
  have hwm : IntKind.i64.wrap ((m0 : Int) + 1 - 1) = (m0 : Int) := by rw [show (m0 : Int) + 1 - 1 = (m0 : Int) by omega]; exact IntWalk.i64_in _ (by omega)
  clear hC hU hb hG hV hN
  go_enter Try.func84, Try.ntmps84
  go_wp2_with (at_make; refine wpl_make_i64 rfl _ _ rfl w.heap.size .i64 .i64 _ _ 2 rfl rfl rfl rfl (by omega) (Nat.le_refl _) ?_; intro w1 hown hgr hlt1)
  have hb1 : Below w.heap.size w w1 := (Below.refl _ _).grown hgr (Nat.le_refl _) (by simp)
  have HU1 : Hid (UW W0 (V 0) w1) := by unfold Hid; rw [HV0.out]; exact HU.out.later hb1
  have HC1 : Hid (Chg (BA W0) w w1) := (Below.chg hb1).mono fun _ h => by cases h
  have ho1 : OI w.heap.size w1 (.slice (some ⟨w.heap.size, 0, none⟩) 2 2) [((0 : Nat) : Int), ((0 : Nat) : Int)] := hown
  clear hown hgr hlt1 hb1
  go_loopg [7] N (fun m kv wr => ∃ a b i : Nat, a ≤ m0 ∧ b ≤ m0 ∧ Hid (m = N - i ∧ i = a * (m0 + 1) + b ∧ i < N) ∧ OI w.heap.size wr (.slice (some ⟨w.heap.size, 0, none⟩) 2 2) [(a : Int), (b : Int)] ∧ Hid (UW W0 (V i) wr) ∧ Hid (Chg (BA W0) w wr))
  case atStart => exact ⟨0, 0, 0, Nat.zero_le _, Nat.zero_le _, Lib.hid ⟨rfl, by simp, by have := HEND.out; omega⟩, ho1, HU1, HC1⟩
  case round =>
    clear ho1 HU1 HC1
    obtain ⟨a, b, i, ha, hb, HI, ho, HW, HC⟩ := hrel
    have HCL := Lib.hid (HCB.out _ a b i ha hb HI.out.2.1 ho HW HC)
    clear ho HW HC
    go_wp2_with fail
    refine HCL.out.mono ?_
    rintro e w2 ⟨rfl, HW, HC, ho⟩
    clear HCL
    go_wp2_with fail
    go_loopw [7] (fun kv wq => ∃ L : List Int, OI w.heap.size wq (.slice (some ⟨w.heap.size, 0, none⟩) 2 2) L ∧ (kv = .int .i64 1 ∧ L = [(a : Int), (b : Int)] ∨ kv = .int .i64 0 ∧ L = [(a : Int), 0] ∧ b = m0 ∨ kv = .int .i64 (-1) ∧ L = [0, 0] ∧ a = m0 ∧ b = m0) ∧ Hid (UW W0 (V (i + 1)) wq) ∧ Hid (Chg (BA W0) w wq)) (fun kv _ => (intOf kv + 1).toNat)
    case atStart => exact ⟨_, ho, .inl ⟨rfl, rfl⟩, HW, HC⟩
    case round =>
      clear ho HW HC
      obtain ⟨L, ho, hk, HW, HC⟩ := hrel
      obtain ⟨wq, rfl⟩ : ∃ x, x = wr := ⟨_, rfl⟩
      rcases hk with ⟨rfl, rfl⟩ | ⟨rfl, rfl, hbm⟩ | ⟨rfl, rfl, ham, hbm⟩
      · have c0 := ho.cell 1 (by simp)
        have z0 := ho.frozen 1
        rw [show [(a : Int), (b : Int)].getD 1 0 = (b : Int) from rfl] at c0
        by_cases he : b = m0
        · have hbe : ((b : Int) == (m0 : Int)) = true := by simp [he]
          have HO2 : Hid (OI w.heap.size (wq.setCell ⟨w.heap.size, 1, none⟩ (.int .i64 0)) (.slice (some ⟨w.heap.size, 0, none⟩) 2 2) [(a : Int), 0]) := (ho.stored 1 0).1
          have HW2 : Hid (UW W0 (V (i + 1)) (wq.setCell ⟨w.heap.size, 1, none⟩ (.int .i64 0))) := HW.out.setNew (by omega)
          have HC2 : Hid (Chg (BA W0) w (wq.setCell ⟨w.heap.size, 1, none⟩ (.int .i64 0))) := Chg.setNew HC.out (Nat.le_refl _)
          have HEQ := Lib.hid he
          clear he ho
          go_wp2_with fail
          go_roundw
          case rel => exact ⟨_, HO2.out, .inr (.inl ⟨by go_num, rfl, HEQ.out⟩), HW2, HC2⟩
          case measure => first | (simp [intOf]; done) | (simp [intOf]; omega)
        · have hbe : ((b : Int) == (m0 : Int)) = false := by simp; omega
          have hw1 : IntKind.i64.wrap ((b : Int) + 1) = ((b + 1 : Nat) : Int) := by rw [IntWalk.i64_in _ (by omega)]; omega
          have HO2 : Hid (OI w.heap.size (wq.setCell ⟨w.heap.size, 1, none⟩ (.int .i64 ((b + 1 : Nat) : Int))) (.slice (some ⟨w.heap.size, 0, none⟩) 2 2) [(a : Int), (((b + 1 : Nat) : Int) : Int)]) := (ho.stored 1 _).1
          have HW2 : Hid (UW W0 (V (i + 1)) (wq.setCell ⟨w.heap.size, 1, none⟩ (.int .i64 ((b + 1 : Nat) : Int)))) := HW.out.setNew (by omega)
          have HC2 : Hid (Chg (BA W0) w (wq.setCell ⟨w.heap.size, 1, none⟩ (.int .i64 ((b + 1 : Nat) : Int)))) := Chg.setNew HC.out (Nat.le_refl _)
          clear ho
          go_wp2_with fail
          go_roundg (N - (i + 1))
          case measure => have h1 := HI.out.1; have h2 := HI.out.2.2; omega
          case rel => exact ⟨a, b + 1, i + 1, ha, by omega, Lib.hid ⟨rfl, by have := HI.out.2.1; omega, by have := HI.out.2.1; have := HLT.out a (b + 1) ha (by omega); omega⟩, HO2.out, HW2, HC2⟩
      · have c0 := ho.cell 0 (by simp)
        have z0 := ho.frozen 0
        rw [show [(a : Int), 0].getD 0 0 = (a : Int) from rfl] at c0
        have HBM := Lib.hid hbm
        clear hbm
        by_cases he : a = m0
        · have hbe : ((a : Int) == (m0 : Int)) = true := by simp [he]
          have HO2 : Hid (OI w.heap.size (wq.setCell ⟨w.heap.size, 0, none⟩ (.int .i64 0)) (.slice (some ⟨w.heap.size, 0, none⟩) 2 2) [0, 0]) := (ho.stored 0 0).1
          have HW2 : Hid (UW W0 (V (i + 1)) (wq.setCell ⟨w.heap.size, 0, none⟩ (.int .i64 0))) := HW.out.setNew (by omega)
          have HC2 : Hid (Chg (BA W0) w (wq.setCell ⟨w.heap.size, 0, none⟩ (.int .i64 0))) := Chg.setNew HC.out (Nat.le_refl _)
          have HEQ := Lib.hid he
          clear he ho
          go_wp2_with fail
          go_roundw
          case rel => exact ⟨_, HO2.out, .inr (.inr ⟨by go_num, rfl, HEQ.out, HBM.out⟩), HW2, HC2⟩
          case measure => first | (simp [intOf]; done) | (simp [intOf]; omega)
        · have hbe : ((a : Int) == (m0 : Int)) = false := by simp; omega
          have hw1 : IntKind.i64.wrap ((a : Int) + 1) = ((a + 1 : Nat) : Int) := by rw [IntWalk.i64_in _ (by omega)]; omega
          have HO2 : Hid (OI w.heap.size (wq.setCell ⟨w.heap.size, 0, none⟩ (.int .i64 ((a + 1 : Nat) : Int))) (.slice (some ⟨w.heap.size, 0, none⟩) 2 2) [(((a + 1 : Nat) : Int) : Int), (((0 : Nat) : Int) : Int)]) := (ho.stored 0 _).1
          have HW2 : Hid (UW W0 (V (i + 1)) (wq.setCell ⟨w.heap.size, 0, none⟩ (.int .i64 ((a + 1 : Nat) : Int)))) := HW.out.setNew (by omega)
          have HC2 : Hid (Chg (BA W0) w (wq.setCell ⟨w.heap.size, 0, none⟩ (.int .i64 ((a + 1 : Nat) : Int)))) := Chg.setNew HC.out (Nat.le_refl _)
          clear ho
          go_wp2_with fail
          go_roundg (N - (i + 1))
          case measure => have h1 := HI.out.1; have h2 := HI.out.2.2; omega
          case rel => exact ⟨a + 1, 0, i + 1, by omega, Nat.zero_le _, Lib.hid ⟨rfl, by have := HI.out.2.1; have := HBM.out; rw [Nat.succ_mul]; omega, by have := HI.out.2.1; have := HBM.out; have := HLT.out (a + 1) 0 (by omega) (by omega); rw [Nat.succ_mul] at this; omega⟩, HO2.out, HW2, HC2⟩
      · have HE : Hid (V (i + 1) = V N) := by
          unfold Hid
          have h1 := HI.out.2.1
          have h2 := HEND.out
          rw [ham, hbm] at h1
          rw [h1, h2]
        clear ham hbm
        go_wp2_with fail
        refine bodyPost_ret (results_none rfl _ _ _) rfl ?_
        exact ⟨rfl, by rw [← HE.out]; exact HW.out, HC.out⟩
end Go.Proofs.Ythcnhkjiojeemaa
