/- FnClear: plain facts. -/
import Derived.Test.YtdkheeocglfogaaCs
namespace Go.Proofs.Ytdkheeocglfogaa
open Go.RowKit

theorem reps_cover {A : Nat → Nat → Bool} {n : Nat} : ∀ j, j < n → ∃ i, i ∈ reps A n n ∧ Rc A n i j := by
  intro j
  induction j using Nat.strongRecOn with
  | ind j ih =>
    intro hj
    cases h : dn A n j j with
    | false => exact ⟨j, reps_mem.2 ⟨hj, h⟩, .refl⟩
    | true =>
      obtain ⟨i, hi, hr⟩ := dn_iff.1 h
      obtain ⟨r, h1, h2⟩ := ih i hi (by omega)
      exact ⟨r, h1, h2.trans hr⟩
theorem fm_mem {s : ByteArray} {l : List ByteArray} (h : vlB s l = true) {q : Nat} (hq : q < (fmL s l).length) : ∃ i, i ∈ reps (lk s l) s.size s.size ∧ (reps (lk s l) s.size s.size).getD q 0 = i ∧ q < (reps (lk s l) s.size s.size).length ∧ bz (sAt (fmL s l) q) = ctB s s.size (cmp (lk s l) s.size i) := by
  rw [← fmL_eq h] at hq ⊢
  obtain ⟨h1, h2⟩ := fams_at hq
  exact ⟨_, by simp [h2], rfl, h2, by rw [h1, ctx_bz]⟩
/-- What the families of a likeness are good for. -/
structure CL (s : ByteArray) (l : List ByteArray) (F : List ByteArray) : Prop where
  fa : FA s F
  cov : ∀ c ∈ bz s, ∃ q, q < F.length ∧ c ∈ bz (sAt F q)
  sub : ∀ q c, q < F.length → c ∈ bz (sAt F q) → c ∈ bz s
  al : ∀ q r (x y : UInt8), q < F.length → r < F.length → (x.toNat : Int) ∈ bz (sAt F q) → (y.toNat : Int) ∈ bz (sAt F r) → alkB l x y = true → q = r
  nd : ∀ q, q < F.length → (bz (sAt F q)).Nodup
theorem bI_mem {s : ByteArray} {j : Nat} (h : j < s.size) : bI s j ∈ bz s := by
  rw [← bI_bz s j h]
  have : j < (bz s).length := by rw [bz_len]; exact h
  simp [this]
theorem mem_bz {s : ByteArray} {c : Int} (h : c ∈ bz s) : ∃ j, j < s.size ∧ bI s j = c := by
  obtain ⟨j, hj, rfl⟩ := List.mem_iff_getElem.1 h
  have hj' := hj
  rw [bz_len] at hj'
  exact ⟨j, hj', by rw [← bI_bz s j hj']; simp [hj]⟩
theorem bAt_of {s : ByteArray} {j : Nat} {x : UInt8} (h : bI s j = (x.toNat : Int)) : bAt s j = x := UInt8.toNat_inj.1 (by unfold bI at h; omega)
theorem dis_nodup {s : ByteArray} (h : Dis s) {L : List Nat} (hn : L.Nodup) (hL : ∀ a ∈ L, a < s.size) : (L.map (bI s)).Nodup := by
  rw [List.nodup_iff_pairwise_ne, List.pairwise_map]
  refine List.Pairwise.imp_of_mem ?_ (List.nodup_iff_pairwise_ne.1 hn)
  intro a b ha hb hne e
  exact hne (h a b (hL a ha) (hL b hb) e)
theorem CL.of {s : ByteArray} {l : List ByteArray} (h : vlB s l = true) : CL s l (fmL s l) := by
  obtain ⟨hs1, hd, _, _⟩ := vl_facts h
  have hl : (fmL s l).length = (reps (lk s l) s.size s.size).length := by rw [← fmL_eq h, fams_reps, List.length_map]
  refine ⟨fmL_fa h, fun c hc => ?_, fun q c hq hc => ?_, fun q r x y hq hr hx hy ha => ?_, fun q hq => ?_⟩
  · obtain ⟨j, hj, rfl⟩ := mem_bz hc
    obtain ⟨i, hi, hr⟩ := reps_cover (A := lk s l) j hj
    obtain ⟨q, hq, e⟩ := List.mem_iff_getElem.1 hi
    have hq' : q < (fmL s l).length := by rw [hl]; exact hq
    obtain ⟨i', _, e2, _, e4⟩ := fm_mem h hq'
    have : i' = i := by rw [← e2, ← e]; simp [hq]
    subst this
    exact ⟨q, hq', by rw [e4]; exact ctB_mem.2 ⟨j, hj, cmp_iff.2 hr, rfl⟩⟩
  · obtain ⟨i, _, _, _, e4⟩ := fm_mem h hq
    rw [e4] at hc
    obtain ⟨j, hj, _, rfl⟩ := ctB_mem.1 hc
    exact bI_mem hj
  · obtain ⟨i, m1, e1, l1, f1⟩ := fm_mem h hq
    obtain ⟨k, m2, e2, l2, f2⟩ := fm_mem h hr
    rw [f1] at hx
    rw [f2] at hy
    obtain ⟨a, ha1, ha2, ha3⟩ := ctB_mem.1 hx
    obtain ⟨b, hb1, hb2, hb3⟩ := ctB_mem.1 hy
    have hlk : lk s l a b = true := by unfold lk; rw [bAt_of ha3, bAt_of hb3]; exact ha
    have h3 : cmp (lk s l) s.size i b = true := cmp_iff.2 (.step a b (cmp_iff.1 ha2) hb1 hlk)
    have e := reps_apart (lk_symm s l) (Nat.le_refl _) m1 m2 h3 hb2
    have hnd := reps_nodup (lk s l) s.size s.size
    rw [List.nodup_iff_pairwise_ne, List.pairwise_iff_getElem] at hnd
    have g1 : (reps (lk s l) s.size s.size)[q] = i := by rw [← e1]; simp [l1]
    have g2 : (reps (lk s l) s.size s.size)[r] = k := by rw [← e2]; simp [l2]
    rcases Nat.lt_trichotomy q r with hh | hh | hh
    · exact absurd (g1.trans (e.trans g2.symm)) (hnd q r l1 l2 hh)
    · exact hh
    · exact absurd (g2.trans (e.symm.trans g1.symm)) (hnd r q l2 l1 hh)
  · obtain ⟨i, _, _, _, e4⟩ := fm_mem h hq
    rw [e4]
    show (((List.range s.size).filter _).map (bI s)).Nodup
    exact dis_nodup hd (List.nodup_range.filter _) fun a ha => List.mem_range.1 (List.mem_filter.1 ha).1
/-- No symbol is alike to itself. -/
theorem alk_self {s : ByteArray} {l : List ByteArray} (h : vlB s l = true) (x : UInt8) : alkB l x x = false := by
  cases e : alkB l x x with
  | false => rfl
  | true =>
    exfalso
    unfold alkB at e
    rw [Bool.or_self, hasS_iff] at e
    obtain ⟨i, hi, e2⟩ := List.mem_iff_getElem.1 e
    have e3 : sAt l i = ⟨#[x, x]⟩ := by unfold sAt; simp [hi, e2]
    cases ep : pairAt s l i with
    | false => rw [vlB_no i hi ep] at h; cases h
    | true =>
      have := pairAt_ok ep
      rw [e3] at this
      unfold pairOk at this
      simp only [Bool.and_eq_true, Bool.not_eq_true', decide_eq_false_iff_not] at this
      exact this.2.1 rfl
theorem alk_symm (l : List ByteArray) (x y : UInt8) : alkB l x y = alkB l y x := by unfold alkB; exact Bool.or_comm _ _
section
variable {s : ByteArray} {l F : List ByteArray} (C : CL s l F)
include C
theorem CL.fdb {c : Int} (h : c ∈ bz s) : fdB F c = true := by
  obtain ⟨q, hq, hc⟩ := C.cov c h
  exact (stead_of C.fa hq hc).2
theorem CL.first {q : Nat} (hq : q < F.length) : (bz (sAt F q)).getD 0 0 ∈ bz (sAt F q) := by
  have := (C.fa.sz q hq).1
  have h : 0 < (bz (sAt F q)).length := by rw [bz_len]; omega
  have key : ∀ L : List Int, 0 < L.length → L.getD 0 0 ∈ L := fun L h => by simp [h]
  exact key _ h
theorem CL.std {c : Int} (h : c ∈ bz s) : ∃ q, q < F.length ∧ c ∈ bz (sAt F q) ∧ stead F c = (bz (sAt F q)).getD 0 0 ∧ stead F c ∈ bz (sAt F q) ∧ stead F c ∈ bz s ∧ stead F (stead F c) = stead F c := by
  obtain ⟨q, hq, hc⟩ := C.cov c h
  have e := (stead_of C.fa hq hc).1
  have m := C.first hq
  refine ⟨q, hq, hc, e, by rw [e]; exact m, by rw [e]; exact C.sub q _ hq m, ?_⟩
  rw [e, (stead_of C.fa hq m).1]
/-- The folded word. -/
theorem CL.fold {t : ByteArray} (ht : ∀ c ∈ bz t, c ∈ bz s) : foB F t = true ∧ bz (strOfNums (foX F t)) = foX F t ∧ (∀ c ∈ bz (strOfNums (foX F t)), c ∈ bz s) ∧ strOfNums (foX F (strOfNums (foX F t))) = strOfNums (foX F t) ∧ (strOfNums (foX F t)).size = t.size := by
  have h255 : ∀ z ∈ foX F t, 0 ≤ z ∧ z ≤ 255 := fun z hz => by
    unfold foX at hz
    obtain ⟨c, hc, rfl⟩ := List.mem_map.1 hz
    obtain ⟨_, _, _, _, _, h6, _⟩ := C.std (ht c hc)
    obtain ⟨j, _, e⟩ := mem_bz h6
    rw [← e]; exact bI_in s j
  have hb := str_bz h255
  refine ⟨?_, hb, fun c hc => ?_, ?_, ?_⟩
  · unfold foB
    rw [List.all_eq_true]
    exact fun c hc => C.fdb (ht c hc)
  · rw [hb] at hc
    unfold foX at hc
    obtain ⟨d, hd, rfl⟩ := List.mem_map.1 hc
    obtain ⟨_, _, _, _, _, h6, _⟩ := C.std (ht d hd)
    exact h6
  · have : foX F (strOfNums (foX F t)) = foX F t := by
      show (bz (strOfNums (foX F t))).map (stead F) = foX F t
      rw [hb]
      show ((bz t).map (stead F)).map (stead F) = (bz t).map (stead F)
      rw [List.map_map]
      refine List.map_congr_left fun c hc => ?_
      obtain ⟨_, _, _, _, _, _, h7⟩ := C.std (ht c hc)
      exact h7
    rw [this]
  · rw [← bz_len, hb, foX_len]
end
theorem ext1 {t : ByteArray} {i : Nat} (h : i < t.size) : t.extract i (i + 1) = ⟨#[bAt t i]⟩ := by
  refine bz_inj ?_
  rw [bz_one t i h]; rfl
theorem bI_at {t : ByteArray} {i : Nat} (h : i < t.size) : ((bAt t i).toNat : Int) ∈ bz t := bI_mem h
section
variable {s : ByteArray} {l F : List ByteArray} (C : CL s l F) (hv : vlB s l = true)
include C hv
/-- Symbols of two families are different and not alike. -/
theorem CL.two {q r a b : Nat} (hq : q < F.length) (hr : r < F.length) (hn : q ≠ r) (ha : a < (sAt F q).size) (hb : b < (sAt F r).size) : bAt (sAt F q) a ≠ bAt (sAt F r) b ∧ aaB s l ((sAt F q).extract a (a + 1)) ((sAt F r).extract b (b + 1)) = false := by
  refine ⟨fun e => hn (C.fa.uniq q r ((bAt (sAt F q) a).toNat : Int) hq hr (bI_at ha) (by rw [e]; exact bI_at hb)), ?_⟩
  rw [ext1 ha, ext1 hb, aaB_y hv]
  cases e : alkB l (bAt (sAt F q) a) (bAt (sAt F r) b) with
  | false => rfl
  | true => exact absurd (C.al q r _ _ hq hr (bI_at ha) (bI_at hb) e) hn
/-- What a word and its folded word are. -/
theorem CL.folded {t : ByteArray} (ht : ∀ c ∈ bz t, c ∈ bz s) {i j : Nat} (hi : i < t.size) (hj : j < t.size) :
    (aaB s l (t.extract i (i + 1)) (t.extract j (j + 1)) = true → bAt (strOfNums (foX F t)) i = bAt (strOfNums (foX F t)) j) ∧ aaB s l ((strOfNums (foX F t)).extract i (i + 1)) ((strOfNums (foX F t)).extract j (j + 1)) = false := by
  obtain ⟨_, hb, _, _, hsz⟩ := C.fold ht
  have hst : ∀ k, k < t.size → ((bAt (strOfNums (foX F t)) k).toNat : Int) = stead F ((bAt t k).toNat : Int) := fun k hk => by
    have h1 := bI_bz (strOfNums (foX F t)) k (by omega)
    rw [hb] at h1
    show bI _ k = _
    rw [← h1]
    unfold foX
    have : k < (bz t).length := by rw [bz_len]; exact hk
    have e2 : (bz t)[k] = ((bAt t k).toNat : Int) := by
      have := bI_bz t k hk
      unfold bI at this
      rw [← this]; simp [‹k < (bz t).length›]
    simp [this, e2]
  obtain ⟨q, hq, c1, e1, m1, _, _⟩ := C.std (ht _ (bI_at hi))
  obtain ⟨r, hr, c2, e2, m2, _, _⟩ := C.std (ht _ (bI_at hj))
  have hi' := hst i hi
  have hj' := hst j hj
  constructor
  · intro h
    rw [ext1 hi, ext1 hj, aaB_y hv] at h
    obtain rfl := C.al q r _ _ hq hr c1 c2 h
    refine UInt8.toNat_inj.1 ?_
    have : ((bAt (strOfNums (foX F t)) i).toNat : Int) = ((bAt (strOfNums (foX F t)) j).toNat : Int) := by rw [hi', hj', e1, e2]
    omega
  · rw [ext1 (by omega), ext1 (by omega), aaB_y hv]
    cases e : alkB l (bAt (strOfNums (foX F t)) i) (bAt (strOfNums (foX F t)) j) with
    | false => rfl
    | true =>
      exfalso
      rw [← hi'] at m1 e1
      rw [← hj'] at m2 e2
      obtain rfl := C.al q r _ _ hq hr m1 m2 e
      have : bAt (strOfNums (foX F t)) i = bAt (strOfNums (foX F t)) j := UInt8.toNat_inj.1 (by
        have := e1.trans e2.symm
        omega)
      rw [this, alk_self hv] at e
      cases e
end
theorem sub_lenG {α : Type} [DecidableEq α] : ∀ (A B : List α), A.Nodup → (∀ a ∈ A, a ∈ B) → A.length ≤ B.length
  | [], _, _, _ => Nat.zero_le _
  | a :: A, B, hn, h => by
    rw [List.nodup_cons] at hn
    have ha := h a (List.mem_cons_self ..)
    have hB : 0 < B.length := List.length_pos_of_mem ha
    have := sub_lenG A (B.erase a) hn.2 fun z hz => (List.mem_erase_of_ne (fun e => hn.1 (by rw [← e]; exact hz))).2 (h z (List.mem_cons_of_mem _ hz))
    rw [List.length_erase_of_mem ha] at this
    simp only [List.length_cons]
    omega
/-- How many symbols some texts have. -/
def sumZ (F : List ByteArray) (i : Nat) : Nat := ((F.take i).map ByteArray.size).sum
theorem sumZ_succ {F : List ByteArray} {i : Nat} (h : i < F.length) : sumZ F (i + 1) = sumZ F i + (sAt F i).size := by
  unfold sumZ
  rw [List.take_succ_eq_append_getElem h, List.map_append, List.sum_append]
  unfold sAt; simp [h]
theorem CL.sum {s : ByteArray} {l F : List ByteArray} (C : CL s l F) (hd : Dis s) : sumZ F F.length = s.size := by
  have hG : ((F.map bz).flatten).length = sumZ F F.length := by
    unfold sumZ
    rw [List.take_length, List.length_flatten, List.map_map]
    congr 1
    exact List.map_congr_left fun t _ => bz_len t
  have hat : ∀ q, (hq : q < F.length) → F[q] = sAt F q := fun q hq => by unfold sAt; simp [hq]
  have hnd : ((F.map bz).flatten).Nodup := by
    rw [List.nodup_iff_pairwise_ne, List.pairwise_flatten]
    refine ⟨fun x hx => ?_, ?_⟩
    · obtain ⟨t, ht, rfl⟩ := List.mem_map.1 hx
      obtain ⟨q, hq, rfl⟩ := List.mem_iff_getElem.1 ht
      rw [hat q hq]
      exact List.nodup_iff_pairwise_ne.1 (C.nd q hq)
    · rw [List.pairwise_map, List.pairwise_iff_getElem]
      intro q r hq hr hlt x hx y hy e
      subst e
      rw [hat q hq] at hx
      rw [hat r hr] at hy
      have := C.fa.uniq q r x hq hr hx hy
      omega
  have hsn : (bz s).Nodup := by
    have := dis_nodup hd (L := List.range s.size) List.nodup_range fun a ha => List.mem_range.1 ha
    have e : (List.range s.size).map (bI s) = bz s := by
      apply List.ext_getElem
      · simp [bz_len]
      · intro i h1 h2
        have hi : i < s.size := by simpa using h1
        rw [List.getElem_map, List.getElem_range, ← bI_bz s i hi]
        simp [h2]
    rw [← e]; exact this
  have h1 := sub_lenG _ (bz s) hnd fun c hc => by
    obtain ⟨x, hx, hc⟩ := List.mem_flatten.1 hc
    obtain ⟨t, ht, rfl⟩ := List.mem_map.1 hx
    obtain ⟨q, hq, rfl⟩ := List.mem_iff_getElem.1 ht
    rw [hat q hq] at hc
    exact C.sub q c hq hc
  have h2 := sub_lenG (bz s) _ hsn fun c hc => by
    obtain ⟨q, hq, hc⟩ := C.cov c hc
    exact List.mem_flatten.2 ⟨bz (sAt F q), List.mem_map.2 ⟨F[q], List.getElem_mem hq, by rw [hat q hq]⟩, hc⟩
  rw [bz_len] at h1 h2
  omega
/-- The best clear symbols. -/
theorem best_bz (s : ByteArray) (l : List ByteArray) : bz (ctx s (csP s l)) = (csL s l).map (bI s) := by
  rw [ctx_bz]
  show (((List.range s.size).filter _).map (bI s)) = _
  have := (csL_asc s l).filter
  unfold csP
  rw [this]
theorem best_at {s : ByteArray} {l : List ByteArray} {i : Nat} (h : i < (csL s l).length) : bAt (ctx s (csP s l)) i = bAt s ((csL s l)[i]) := by
  have hi : i < (ctx s (csP s l)).size := by rw [← bz_len, best_bz, List.length_map]; exact h
  have h1 := bI_bz (ctx s (csP s l)) i hi
  rw [best_bz] at h1
  refine UInt8.toNat_inj.1 ?_
  have h2 : ((csL s l).map (bI s)).getD i 0 = bI s ((csL s l)[i]) := by simp [h]
  rw [h2] at h1
  unfold bI at h1
  omega
theorem best_clear {s : ByteArray} {l : List ByteArray} (h : vlB s l = true) : icB s l (ctx s (csP s l)) = true ∧ 0 < (ctx s (csP s l)).size ∧ (ctx s (csP s l)).size = (csL s l).length := by
  obtain ⟨hs1, hd, _, _⟩ := vl_facts h
  have ha := csL_asc s l
  have hf : Fit (lk s l) (csL s l) := gro_fit _ _ _ _ _ (Nat.le_refl _) (Asc.nil _) (fun i j hi => by simp at hi) (fun i j hi => by simp at hi)
  have hsz : (ctx s (csP s l)).size = (csL s l).length := by rw [← bz_len, best_bz, List.length_map]
  have hge := (gro_ge (lk s l) s.size s.size [] [] [0] (Nat.le_refl _) (Asc.nil _) ⟨by simp, fun j hj => by simp at hj; omega⟩ (fun j _ => by omega) (fun i j hi hj hlt => by simp at hi hj; omega)).2
  have hpos : 0 < (csL s l).length := by unfold csL; simp at hge; omega
  have hasc := List.pairwise_iff_getElem.1 ha.1
  refine ⟨?_, by omega, hsz⟩
  rw [icB_y h, alN_iff]
  · intro i hi
    rw [hsz] at hi
    unfold rowC
    rw [alN_iff]
    intro j hj
    have hj' : j < (csL s l).length := by omega
    rw [best_at hi, best_at hj']
    have h1 := hf _ _ (List.getElem_mem hi) (List.getElem_mem hj') (hasc j i hj' hi hj)
    unfold lk at h1
    rw [h1]; rfl
  · rw [diffB_iff, best_bz]
    refine ⟨fun k hk => ?_, fun k hk hm => ?_⟩
    · rw [List.length_map] at hk
      unfold inS
      have : ((csL s l).map (bI s)).getD k 0 = bI s ((csL s l)[k]) := by simp [hk]
      rw [this]
      exact decide_eq_true (bI_mem (ha.2 _ (List.getElem_mem hk)))
    · rw [List.length_map] at hk
      rw [List.mem_take_iff_getElem] at hm
      obtain ⟨i, hi, e⟩ := hm
      rw [List.length_map] at hi
      have h2 : ((csL s l).map (bI s)).getD k 0 = bI s ((csL s l)[k]) := by simp [hk]
      rw [h2, List.getElem_map] at e
      have hi' : i < (csL s l).length := by omega
      have := hd _ _ (ha.2 _ (List.getElem_mem hi')) (ha.2 _ (List.getElem_mem hk)) e
      have := hasc i k hi' hk (by omega)
      omega
/-- No clear symbols are more. -/
theorem clear_le {s t : ByteArray} {l : List ByteArray} (h : vlB s l = true) (hc : icB s l t = true) : t.size ≤ (ctx s (csP s l)).size := by
  obtain ⟨hs1, hd, _, _⟩ := vl_facts h
  unfold icB at hc
  rw [Bool.and_eq_true, Bool.and_eq_true, diffB_iff, alN_iff] at hc
  obtain ⟨_, ⟨h1, h2⟩, h3⟩ := hc
  have hin : ∀ c ∈ bz t, c ∈ bz s := fun c hc => by
    obtain ⟨k, hk, rfl⟩ := List.mem_iff_getElem.1 hc
    have := h1 k hk
    unfold inS at this
    rw [getD_eq hk] at this
    exact of_decide_eq_true this
  have hnt : (bz t).Nodup := by
    rw [List.nodup_iff_pairwise_ne, List.pairwise_iff_getElem]
    intro i j hi hj hlt e
    refine h2 j hj ?_
    rw [List.mem_take_iff_getElem, getD_eq hj]
    exact ⟨i, by omega, e⟩
  have hu : ∃ u : List Nat, u = (List.range s.size).filter fun j => decide (bI s j ∈ bz t) := ⟨_, rfl⟩
  obtain ⟨u, hue⟩ := hu
  have hum : ∀ j, j ∈ u ↔ j < s.size ∧ bI s j ∈ bz t := fun j => by rw [hue, List.mem_filter, List.mem_range]; simp
  have hua : Asc s.size u := ⟨by rw [hue]; exact List.pairwise_lt_range.filter _, fun j hj => ((hum j).1 hj).1⟩
  have hlen := sub_lenG (bz t) (u.map (bI s)) hnt fun c hc => by
    obtain ⟨j, hj, rfl⟩ := mem_bz (hin c hc)
    exact List.mem_map.2 ⟨j, (hum j).2 ⟨hj, hc⟩, rfl⟩
  rw [List.length_map, bz_len] at hlen
  have hfit : Fit (lk s l) ([] ++ u) := fun i j hi hj hlt => by
    rw [List.nil_append] at hi hj
    obtain ⟨i1, i2⟩ := (hum i).1 hi
    obtain ⟨j1, j2⟩ := (hum j).1 hj
    obtain ⟨a, ha, ea⟩ := mem_bz i2
    obtain ⟨b, hb, eb⟩ := mem_bz j2
    have ea' : bAt t a = bAt s i := UInt8.toNat_inj.1 (by unfold bI at ea; omega)
    have eb' : bAt t b = bAt s j := UInt8.toNat_inj.1 (by unfold bI at eb; omega)
    unfold lk
    rw [← ea', ← eb']
    have row : ∀ p q, p < t.size → q < p → alkB l (bAt t p) (bAt t q) = false := fun p q hp hq => by
      have := h3 p hp
      unfold rowC at this
      have := alN_iff.1 this q hq
      simpa using this
    rcases Nat.lt_trichotomy a b with hh | hh | hh
    · rw [alk_symm]; exact row b a hb hh
    · exfalso
      subst hh
      have := hd i j i1 j1 (by rw [← ea, ← eb])
      omega
    · exact row a b ha hh
  have hge := (gro_ge (lk s l) s.size s.size [] [] u (Nat.le_refl _) (Asc.nil _) (by simpa using hua) (fun j _ => by omega) hfit).2
  rw [(best_clear h).2.2]
  unfold csL
  simp at hge
  omega
end Go.Proofs.Ytdkheeocglfogaa
