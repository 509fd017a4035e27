/- Lists as functions of their indices; tables of rows that the call owns. -/
import Derived.Test.YtgagjmnmfgfpfaaInts
namespace Go.Proofs.Ytgagjmnmfgfpfaa
open Go.RowKit

/-- The lesser number, as the walk keeps it. -/
def mn (x y : Int) : Int := if y < x then y else x
theorem mn_eq (x y : Int) : mn x y = min x y := by unfold mn; split <;> omega
theorem run_mn (ts : Array TypeId) (t : TypeId) (x y : Int) (w : World) : (Builtin.min_ ts t #[.int .i64 x, .int .i64 y]).run Try.prog w = .ok (.int .i64 (mn x y)) w := run_min_int2 _ _ _ _ _ _ _
/-- A list as a function of its indices. -/
def lf (n : Nat) (f : Nat → Int) : List Int := (List.range n).map f
theorem lf_len (n : Nat) (f : Nat → Int) : (lf n f).length = n := by simp [lf]
theorem lf_get (n : Nat) (f : Nat → Int) (i : Nat) (h : i < n) : (lf n f).getD i 0 = f i := by simp [lf, h]
theorem lf_ext {n : Nat} {f g : Nat → Int} (h : ∀ i, i < n → f i = g i) : lf n f = lf n g := by
  unfold lf; exact List.map_congr_left fun i hi => h i (List.mem_range.1 hi)
theorem lf_set (n : Nat) (f : Nat → Int) (p : Nat) (v : Int) (hp : p < n) : (lf n f).set p v = lf n fun i => if i = p then v else f i := by
  apply List.ext_getElem?
  intro i
  by_cases hi : i < n
  · simp only [List.getElem?_set, lf, List.length_map, List.length_range, List.getElem?_map]
    by_cases h : p = i
    · subst h; simp [hi]
    · rw [if_neg h]
      simp [hi, Ne.symm h]
  · simp only [List.getElem?_set, lf, List.length_map, List.length_range, List.getElem?_map]
    by_cases h : p = i
    · omega
    · simp [hi, h]
theorem lf_rep (n : Nat) : List.replicate n (0 : Int) = lf n fun _ => 0 := by
  unfold lf; apply List.ext_getElem?; intro i; by_cases hi : i < n <;> simp [hi]
theorem lf_self (xs : List Int) : xs = lf xs.length fun i => xs.getD i 0 := by
  apply List.ext_getElem?
  intro i
  by_cases hi : i < xs.length <;> simp [lf, hi]

/-- The rows i0 .. n - 1 of the table whose outer cells are cs lie in blocks from B to S; row j has the numbers f j. -/
def Tab (T : TypeId) (B S : Nat) (w : World) (cs : List Value) (m : Nat) (f : Nat → Nat → Int) (i0 n : Nat) : Prop :=
  ∀ j, i0 ≤ j → j < n → ∃ G, (B ≤ G ∧ G < S) ∧ cs[j]? = some (.slice (some ⟨G, 0, none⟩) m m) ∧ OK T .i64 B w (.slice (some ⟨G, 0, none⟩) m m) (lf m (f j))
theorem ok_block {T : TypeId} {k : IntKind} {B : Nat} {w w' : World} {g n c : Nat} {xs : List Int} (h : OK T k B w (.slice (some ⟨g, 0, none⟩) n c) xs) (he : w'.heap[g]? = w.heap[g]?) : OK T k B w' (.slice (some ⟨g, 0, none⟩) n c) xs := by
  refine ⟨h.1, ?_⟩
  rcases h.2 with ⟨h', _⟩ | ⟨g', cap, cur, h', hB, hg, r⟩
  · simp at h'
  · simp only [Value.slice.injEq, Option.some.injEq, Addr.mk.injEq, and_true] at h'
    obtain ⟨rfl, hn, rfl⟩ := h'
    exact .inr ⟨g, c, cur, by rw [hn], hB, by rw [he]; exact hg, r⟩
theorem Tab.keep {T : TypeId} {B S : Nat} {w w' : World} {cs : List Value} {m : Nat} {f : Nat → Nat → Int} {i0 n : Nat} (h : Tab T B S w cs m f i0 n) (hk : ∀ k, B ≤ k → k < S → w'.heap[k]? = w.heap[k]?) : Tab T B S w' cs m f i0 n := by
  intro j h1 h2
  obtain ⟨G, hG, hc, ho⟩ := h j h1 h2
  exact ⟨G, hG, hc, ok_block ho (hk G hG.1 hG.2)⟩
theorem Tab.set {T : TypeId} {B S : Nat} {w : World} {cs : List Value} {m : Nat} {f : Nat → Nat → Int} {i0 n : Nat} (h : Tab T B S w cs m f i0 n) (i : Nat) (v : Value) (hi : i < i0) : Tab T B S w (cs.set i v) m f i0 n := by
  intro j h1 h2
  obtain ⟨G, hG, hc, ho⟩ := h j h1 h2
  exact ⟨G, hG, by rw [List.getElem?_set, if_neg (by omega)]; exact hc, ho⟩
theorem Tab.more {T : TypeId} {B S S' : Nat} {w : World} {cs : List Value} {m : Nat} {f : Nat → Nat → Int} {i n G : Nat} (h : Tab T B S w cs m f (i + 1) n) (hS : S ≤ S') (hG : B ≤ G ∧ G < S') (hc : cs[i]? = some (.slice (some ⟨G, 0, none⟩) m m)) (ho : OK T .i64 B w (.slice (some ⟨G, 0, none⟩) m m) (lf m (f i))) : Tab T B S' w cs m f i n := by
  intro j h1 h2
  by_cases e : j = i
  · subst e; exact ⟨G, hG, hc, ho⟩
  · obtain ⟨G', hG', hc', ho'⟩ := h j (by omega) h2
    exact ⟨G', ⟨hG'.1, by omega⟩, hc', ho'⟩
end Go.Proofs.Ytgagjmnmfgfpfaa
