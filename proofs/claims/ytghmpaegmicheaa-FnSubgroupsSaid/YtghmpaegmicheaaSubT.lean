/- The products of two elements: closed, and their number divides that of the group. -/
import Derived.Test.YtghmpaegmicheaaSubI
import Derived.Test.YtghmpaegmicheaaSubS
import Derived.Test.YtghmpaegmicheaaGrpY
namespace Go.Proofs.Ytghmpaegmicheaa
open Go.RowKit

theorem rch_mul {x : List (List Int)} {es : List Int} (G : Gp x) (he : esB x.length es = true) {a b : Nat} (ha : Rch x es a) (hb : Rch x es b) : Rch x es (mul x a b) := by
  induction hb with
  | one => rw [G.mul_one a (ha.lt G he)]; exact ha
  | step b k hb hk ih =>
    have h1 := ih.lt G he
    have h2 := (Rch.step b k hb hk).lt G he
    have he1 : (es.getD k 0).toNat < x.length := by
      obtain ⟨q, hq, e⟩ := esB_at he k hk
      rw [e]; simpa using hq
    rw [← G.assoc a b _ (ha.lt G he) (hb.lt G he) he1]
    exact Rch.step _ k ih hk
/-- What is known of the products of two elements. -/
structure SubT (x : List (List Int)) (a b : Nat) (cs : List Int) : Prop where
  pos : 1 ≤ cs.length ∧ cs.length ≤ 10
  dvd : cs.length ∣ x.length
  ma : (a : Int) ∈ cs
  mb : (b : Int) ∈ cs
  bd : ∀ i, i < cs.length → ∃ z : Nat, cs.getD i 0 = (z : Int) ∧ z < x.length
  cl : ∀ (p q : Nat), (p : Int) ∈ cs → (q : Int) ∈ cs → ((mul x p q : Nat) : Int) ∈ cs
theorem SubT.of {x : List (List Int)} {a b : Nat} {cs : List Int} (G : Gp x) (ha : a < x.length) (hb : b < x.length) (h : SubP x [(a : Int), (b : Int)] cs) : SubT x a b cs := by
  have he : esB x.length [(a : Int), (b : Int)] = true := by
    unfold esB rowB
    simp [inB]; omega
  have hm : ∀ z : Nat, (z : Int) ∈ cs ↔ Rch x [(a : Int), (b : Int)] z := fun z => by
    rw [h.2]
    exact ⟨fun ⟨q, e, hq⟩ => by rw [show z = q by omega]; exact hq, fun hq => ⟨z, rfl, hq⟩⟩
  have hbd : ∀ z ∈ cs, ∃ q : Nat, z = (q : Int) ∧ q < x.length := fun z hz => by
    obtain ⟨q, e, hq⟩ := (h.2 z).1 hz
    exact ⟨q, e, hq.lt G he⟩
  have h1 : ((one x : Nat) : Int) ∈ cs := (hm _).2 Rch.one
  have hcl : ∀ (p q : Nat), (p : Int) ∈ cs → (q : Int) ∈ cs → ((mul x p q : Nat) : Int) ∈ cs := fun p q hp hq => (hm _).2 (rch_mul G he ((hm p).1 hp) ((hm q).1 hq))
  have hnd := Inc.nodup h.1
  refine ⟨⟨List.length_pos_of_mem h1, ?_⟩, ?_, ?_, ?_, fun i hi => hbd _ (getD_mem hi), hcl⟩
  · have := nodup_le x.length cs hnd fun z hz => by obtain ⟨q, rfl, hq⟩ := hbd z hz; omega
    have := G.n
    omega
  · have hmem : ∀ c : Nat, c ∈ cs.map Int.toNat ↔ (c : Int) ∈ cs := fun c => by
      rw [List.mem_map]
      constructor
      · rintro ⟨z, hz, rfl⟩
        obtain ⟨q, rfl, _⟩ := hbd z hz
        simpa using hz
      · intro hc
        exact ⟨_, hc, by simp⟩
    have hnm : (cs.map Int.toNat).Nodup := by
      refine List.pairwise_map.2 (List.Pairwise.imp_of_mem ?_ hnd)
      intro p q hp hq hne e
      obtain ⟨p, rfl, _⟩ := hbd p hp
      obtain ⟨q, rfl, _⟩ := hbd q hq
      apply hne
      have e2 : p = q := by simpa using e
      omega
    have := G.lagrange (cs.map Int.toNat) hnm (fun c hc => by
        obtain ⟨q, e, hq⟩ := hbd _ ((hmem c).1 hc)
        omega) ((hmem _).2 h1) (fun p hp q hq => (hmem _).2 (hcl p q ((hmem p).1 hp) ((hmem q).1 hq)))
    simpa using this
  · have := Rch.step (es := [(a : Int), (b : Int)]) (one x) 0 Rch.one (by simp)
    rw [show ([(a : Int), (b : Int)].getD 0 0).toNat = a by simp, G.one_mul a ha] at this
    exact (hm a).2 this
  · have := Rch.step (es := [(a : Int), (b : Int)]) (one x) 1 Rch.one (by simp)
    rw [show ([(a : Int), (b : Int)].getD 1 0).toNat = b by simp, G.one_mul b hb] at this
    exact (hm b).2 this
def SubY (x : List (List Int)) (a b : Nat) (w : World) (e : Ending) (w' : World) : Prop := ∃ sa cs sc, e = .returned (.tuple #[.slice sa cs.length sc, .bool true]) ∧ OI w.heap.size w' (.slice sa cs.length sc) cs ∧ Hid (SubT x a b cs) ∧ cs.length ≤ 10 ∧ 1 ≤ cs.length ∧ Below w.heap.size w w'
theorem subY (v ev : Value) (x : List (List Int)) (a b : Nat) (w : World) (hx : RT w v x) (hg : Hid (grpB x = true)) (ha : a < x.length) (hb : b < x.length) (he : RI w ev [(a : Int), (b : Int)]) :
    Calls Try.prog 38 #[.agg #[v], ev] w (SubY x a b w) := by
  have G := Gp.of hg.out
  have hes : esB x.length [(a : Int), (b : Int)] = true := by
    unfold esB rowB
    simp [inB]; omega
  obtain ⟨cs, hcs⟩ := subP_ex x [(a : Int), (b : Int)] x.length fun q hq => hq.lt G hes
  have hsg : sgB x [(a : Int), (b : Int)] = true := by unfold sgB; rw [hg.out, hes]; rfl
  refine (implSg_any v ev x [(a : Int), (b : Int)] cs w hx G.small.1 G.small.2 he (by simp) fun _ => hcs).mono ?_
  rintro e w' ⟨v', h1, h2, h3⟩
  rw [hsg] at h1 h2
  have h2' : OI w.heap.size w' v' cs := h2
  have T := SubT.of G ha hb hcs
  obtain ⟨sa, sc, rfl⟩ := h2'.slice
  exact ⟨sa, cs, sc, h1, h2', T, T.pos.2, T.pos.1, h3⟩
def CenY (x : List (List Int)) (w : World) (e : Ending) (w' : World) : Prop := ∃ sa sc, e = .returned (.tuple #[.slice sa (cenL x).length sc, .bool true]) ∧ OI w.heap.size w' (.slice sa (cenL x).length sc) (cenL x) ∧ Below w.heap.size w w'
theorem cenY (v : Value) (x : List (List Int)) (w : World) (hx : RT w v x) (hg : Hid (grpB x = true)) :
    Calls Try.prog 39 #[.agg #[v]] w (CenY x w) := by
  have G := Gp.of hg.out
  refine (implCen_any v x w hx G.small.1 G.small.2).mono ?_
  rintro e w' ⟨v', h1, h2, h3⟩
  unfold cenS at h2
  rw [if_pos hg.out] at h2
  rw [hg.out] at h1
  obtain ⟨sa, sc, rfl⟩ := h2.slice
  exact ⟨sa, sc, h1, h2, h3⟩
theorem cen_mem (x : List (List Int)) (k : Nat) (hk : k < x.length) : decide ((k : Int) ∈ cenL x) = cenB x k := by
  rw [Bool.eq_iff_iff, decide_eq_true_eq]
  unfold cenL cenP
  rw [List.mem_map]
  constructor
  · rintro ⟨a, h1, h2⟩
    have := (List.mem_filter.1 h1).2
    rwa [show a = k by omega] at this
  · intro h
    exact ⟨k, List.mem_filter.2 ⟨List.mem_range.2 hk, h⟩, rfl⟩
end Go.Proofs.Ytghmpaegmicheaa
