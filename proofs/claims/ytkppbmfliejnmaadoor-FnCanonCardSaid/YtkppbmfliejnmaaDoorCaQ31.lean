/- Plain facts: alike graphs have one canonical form. -/
import Derived.Test.YtkppbmfliejnmaaDoorCaQ30
import Derived.Test.YtkppbmfliejnmaaDoorCaQ17
import Derived.Test.YtkppbmfliejnmaaDoorCaQ16
import Derived.Test.YtkppbmfliejnmaaDoorCaQ18
import Derived.Test.YtkppbmfliejnmaaDoorCaQ14
import Derived.Deep.RegionLaw
import Derived.Deep.DeepCutAuto
import Derived.Deep.RegionHeld3
namespace Go.Proofs.YtkppbmfliejnmaaDoor
open Go.RowKit

/-- An order of n. -/
structure OrdN (n : Nat) (o : List Nat) : Prop where
  len : o.length = n
  nod : o.Nodup
  lt : ∀ v ∈ o, v < n
theorem OrdN.ok {n : Nat} {o : List Nat} (h : OrdN n o) : OrdOk n (natInts o) :=
  ⟨by rw [natInts_length, h.len], fun x hx => by
    obtain ⟨i, hi, rfl⟩ := mem_natInts.1 hx
    have := h.lt i hi
    omega, by
    have := h.nod
    unfold natInts
    unfold List.Nodup at this ⊢
    rw [List.pairwise_map]
    exact this.imp fun {a b} hab e => hab (by omega)⟩
theorem OrdN.mem {n : Nat} {o : List Nat} (h : OrdN n o) {v : Nat} (hv : v < n) : v ∈ o := by
  obtain ⟨i, hi, e⟩ := mem_natInts.1 (ordOk_mem h.ok (x := (v : Int)) (by omega) (by omega))
  obtain rfl : i = v := by omega
  exact hi
theorem OrdN.inj {n : Nat} {o : List Nat} (h : OrdN n o) {i j : Nat} (hi : i < o.length) (hj : j < o.length) (e : o[i] = o[j]) : i = j := by
  have h1 := List.pairwise_iff_getElem.1 h.nod
  by_cases h2 : i < j
  · exact absurd e (h1 i j hi hj h2)
  · by_cases h3 : j < i
    · exact absurd e.symm (h1 j i hj hi h3)
    · omega
/-- Places, taken by a map of places to places. -/
theorem OrdN.ofFun {n : Nat} {f : Nat → Nat} (h1 : ∀ i, i < n → f i < n) (h2 : ∀ i j, i < n → j < n → f i = f j → i = j) : OrdN n ((List.range n).map f) := by
  refine ⟨by simp, ?_, fun v hv => ?_⟩
  · unfold List.Nodup
    rw [List.pairwise_map]
    refine List.Pairwise.imp_of_mem ?_ (List.nodup_range (n := n))
    intro a b ha hb hab e
    exact hab (h2 a b (List.mem_range.1 ha) (List.mem_range.1 hb) e)
  · obtain ⟨i, hi, rfl⟩ := List.mem_map.1 hv
    exact h1 i (List.mem_range.1 hi)
theorem OrdN.inv {n : Nat} {o : List Nat} (h : OrdN n o) : ∃ b, OrdN n b ∧ (∀ i (k : i < b.length), o.getD b[i] 0 = i) := by
  have hx : ∀ i, ∃ j, i < n → ∃ hj : j < o.length, o[j] = i := fun i => by
    by_cases hi : i < n
    · obtain ⟨j, hj, e⟩ := List.getElem_of_mem (h.mem hi)
      exact ⟨j, fun _ => ⟨hj, e⟩⟩
    · exact ⟨0, fun k => absurd k hi⟩
  obtain ⟨f, hf⟩ := Classical.axiomOfChoice hx
  refine ⟨(List.range n).map f, OrdN.ofFun (fun i hi => ?_) (fun i j hi hj e => ?_), fun i k => ?_⟩
  · obtain ⟨hj, _⟩ := hf i hi
    rw [← h.len]; exact hj
  · obtain ⟨h1, e1⟩ := hf i hi
    obtain ⟨h2, e2⟩ := hf j hj
    rw [← e1, ← e2]
    simp only [e]
  · have hi : i < n := by simpa using k
    obtain ⟨h1, e1⟩ := hf i hi
    rw [List.getElem_map, List.getElem_range, List.getD_eq_getElem?_getD, List.getElem?_eq_getElem h1]
    exact e1
theorem OrdN.comp {n : Nat} {o q : List Nat} (ho : OrdN n o) (hq : OrdN n q) : OrdN n (q.map fun x => o.getD x 0) := by
  have hg : ∀ x, (h : x < n) → o.getD x 0 = o[x]'(by rw [ho.len]; exact h) := fun x h => by
    rw [List.getD_eq_getElem?_getD, List.getElem?_eq_getElem (by rw [ho.len]; exact h)]; rfl
  refine ⟨by rw [List.length_map, hq.len], ?_, fun v hv => ?_⟩
  · unfold List.Nodup
    rw [List.pairwise_map]
    refine List.Pairwise.imp_of_mem ?_ hq.nod
    intro a b ha hb hab e
    rw [hg a (hq.lt a ha), hg b (hq.lt b hb)] at e
    exact hab (ho.inj _ _ e)
  · obtain ⟨x, hx, rfl⟩ := List.mem_map.1 hv
    rw [hg x (hq.lt x hx)]
    exact ho.lt _ (List.getElem_mem _)
theorem ind_comp {g : List (List Int)} {n : Nat} {o q : List Nat} (ho : OrdN n o) (hq : OrdN n q) : indL (indL g (natInts o)) (natInts q) = indL g (natInts (q.map fun x => o.getD x 0)) := by
  have h1 := ho.comp hq
  show matG (natInts q).length _ = matG (natInts (q.map fun x => o.getD x 0)).length _
  rw [natInts_length, natInts_length, hq.len, h1.len]
  refine matG_congr fun r j hr hj => ?_
  have hr' : r < q.length := by rw [hq.len]; exact hr
  have hj' : j < q.length := by rw [hq.len]; exact hj
  have h2 := hq.lt _ (List.getElem_mem hr')
  have h3 := hq.lt _ (List.getElem_mem hj')
  rw [indE_nat hr' hj', indE_nat (by rw [h1.len]; exact hr) (by rw [h1.len]; exact hj), ofG_ind (by rw [ho.len]; exact h2) (by rw [ho.len]; exact h3)]
  simp [List.getElem?_eq_getElem (show q[r] < o.length by rw [ho.len]; exact h2), List.getElem?_eq_getElem (show q[j] < o.length by rw [ho.len]; exact h3)]

/-! ### Codes of orders -/
def cdO (E : Nat → Nat → Bool) (o : List Nat) : PrC := o.foldl (stepP E) ([], [])
theorem cdO_snoc (E : Nat → Nat → Bool) (o : List Nat) (v : Nat) : cdO E (o ++ [v]) = stepP E (cdO E o) v := by simp [cdO]
theorem snoc_of {k : Nat} {o : List Nat} (h : o.length = k + 1) : ∃ p v, o = p ++ [v] ∧ p.length = k :=
  ⟨o.take k, o[k]'(by omega), by rw [← take_snoc' o k (by omega), ← h, List.take_length], by rw [List.length_take]; omega⟩
theorem cdO_fst (E : Nat → Nat → Bool) : ∀ (k : Nat) (o : List Nat), o.length = k → (cdO E o).1 = o
  | 0, o, h => by rw [List.length_eq_zero_iff.1 h]; rfl
  | k + 1, o, h => by
    obtain ⟨p, v, rfl, hp⟩ := snoc_of h
    rw [cdO_snoc]
    show (cdO E p).1 ++ [v] = _
    rw [cdO_fst E k p hp]
theorem cdO_snd (E : Nat → Nat → Bool) (o : List Nat) (v : Nat) : (cdO E (o ++ [v])).2 = (cdO E o).2 ++ rowC E o v := by
  rw [cdO_snoc]
  show (cdO E o).2 ++ rowC E (cdO E o).1 v = _
  rw [cdO_fst E _ o rfl]
theorem cdO_len (E : Nat → Nat → Bool) : ∀ (k : Nat) (o : List Nat), o.length = k → (cdO E o).2.length = codeL k
  | 0, o, h => by rw [List.length_eq_zero_iff.1 h]; rfl
  | k + 1, o, h => by
    obtain ⟨p, v, rfl, hp⟩ := snoc_of h
    rw [cdO_snd, List.length_append, cdO_len E k p hp, rowC_length, hp]; rfl
theorem lev_mem (n : Nat) (E : Nat → Nat → Bool) : ∀ (k : Nat) (o : List Nat), o.length = k → o.Nodup → (∀ v ∈ o, v < n) → cdO E o ∈ levP n E k
  | 0, o, h, _, _ => by rw [List.length_eq_zero_iff.1 h]; simp [cdO, levP]
  | k + 1, o, h, hn, hl => by
    obtain ⟨p, v, rfl, hp⟩ := snoc_of h
    rw [List.nodup_append] at hn
    have ih := lev_mem n E k p hp hn.1 fun x hx => hl x (by simp [hx])
    rw [levP, List.mem_flatMap]
    refine ⟨_, ih, ?_⟩
    rw [extP, List.mem_map]
    refine ⟨v, mem_freeV.2 ⟨hl v (by simp), ?_⟩, (cdO_snoc E p v).symm⟩
    rw [cdO_fst E _ p rfl]
    exact fun hv => hn.2.2 v hv v (by simp) rfl
theorem lev_cdO (n : Nat) (E : Nat → Nat → Bool) : ∀ (k : Nat) (p : PrC), p ∈ levP n E k → p = cdO E p.1
  | 0, p, h => by
    have : p = ([], []) := by simpa [levP] using h
    rw [this]; rfl
  | k + 1, p, h => by
    rw [levP, List.mem_flatMap] at h
    obtain ⟨q, hq, hp⟩ := h
    rw [extP, List.mem_map] at hp
    obtain ⟨v, _, rfl⟩ := hp
    have := lev_cdO n E k q hq
    show stepP E q v = cdO E (q.1 ++ [v])
    rw [cdO_snoc, ← this]
theorem rowC_bits {E F : Nat → Nat → Bool} {o q : List Nat} {v x : Nat} (hl : o.length = q.length) : rowC E o v = rowC F q x ↔ ∀ i, i < o.length → E (o.getD i 0) v = F (q.getD i 0) x := by
  constructor
  · intro h i hi
    have h1 : (rowC E o v)[i]? = (rowC F q x)[i]? := by rw [h]
    have hq : i < q.length := by omega
    simp only [rowC, List.getElem?_map, List.getElem?_eq_getElem hi, List.getElem?_eq_getElem hq, Option.map_some, Option.some.injEq] at h1
    simp only [List.getD_eq_getElem?_getD, List.getElem?_eq_getElem hi, List.getElem?_eq_getElem hq, Option.getD_some]
    cases he : E o[i] v <;> cases hf : F q[i] x <;> simp [he, hf] at h1 ⊢
  · intro h
    refine List.ext_getElem (by rw [rowC_length, rowC_length, hl]) fun i h1 h2 => ?_
    rw [rowC_length] at h1 h2
    have := h i h1
    simp only [List.getD_eq_getElem?_getD, List.getElem?_eq_getElem h1, List.getElem?_eq_getElem h2, Option.getD_some] at this
    simp only [rowC, List.getElem_map, this]
theorem cdO_iff {E F : Nat → Nat → Bool} : ∀ (k : Nat) (o q : List Nat), o.length = k → q.length = k → ((cdO E o).2 = (cdO F q).2 ↔ ∀ i j, i < j → j < k → E (o.getD i 0) (o.getD j 0) = F (q.getD i 0) (q.getD j 0))
  | 0, o, q, ho, hq => by
    rw [List.length_eq_zero_iff.1 ho, List.length_eq_zero_iff.1 hq]
    exact ⟨fun _ i j _ h => absurd h (Nat.not_lt_zero _), fun _ => rfl⟩
  | k + 1, o, q, ho, hq => by
    obtain ⟨p, v, rfl, hp⟩ := snoc_of ho
    obtain ⟨p', v', rfl, hp'⟩ := snoc_of hq
    have ih := cdO_iff (E := E) (F := F) k p p' hp hp'
    have gl : ∀ {p : List Nat} {v i : Nat}, i < p.length → (p ++ [v]).getD i 0 = p.getD i 0 := fun {p v i} h => by
      simp [List.getElem?_append_left h]
    have gr : ∀ {p : List Nat} {v k : Nat}, p.length = k → (p ++ [v]).getD k 0 = v := fun {p v k} h => by
      simp [← h]
    rw [cdO_snd, cdO_snd]
    constructor
    · intro h i j hij hj
      have h2 := List.append_inj h (by rw [cdO_len E k p hp, cdO_len F k p' hp'])
      by_cases hjk : j < k
      · rw [gl (by omega), gl (by omega), gl (by omega), gl (by omega)]
        exact ih.1 h2.1 i j hij hjk
      · obtain rfl : j = k := by omega
        rw [gl (by omega), gr hp, gl (by omega), gr hp']
        exact (rowC_bits (by omega)).1 h2.2 i (by omega)
    · intro h
      have h1 : (cdO E p).2 = (cdO F p').2 := ih.2 fun i j hij hj => by
        have := h i j hij (by omega)
        rwa [gl (by omega), gl (by omega), gl (by omega), gl (by omega)] at this
      have h2 : rowC E p v = rowC F p' v' := (rowC_bits (by omega)).2 fun i hi => by
        have := h i k (by omega) (by omega)
        rwa [gl (by omega), gr hp, gl (by omega), gr hp'] at this
      rw [h1, h2]
/-- The order that Canonical takes: no order has a lesser code. -/
theorem levB_best {n : Nat} {E : Nat → Nat → Bool} {o : List Nat} (h : (levB n E n).head? = some o) : OrdN n o ∧ ∀ q, OrdN n q → ¬ lexL (cdO E q).2 (cdO E o).2 := by
  obtain ⟨m, h1, _, h3, _⟩ := levB_is n E n (Nat.le_refl _)
  have hm : o ∈ levB n E n := List.mem_of_mem_head? (by rw [h]; rfl)
  rw [h1, List.mem_map] at hm
  obtain ⟨p, hp, rfl⟩ := hm
  rw [List.mem_filter, decide_eq_true_eq] at hp
  have h4 := (lev_ord n E n p hp.1).1
  refine ⟨⟨h4.len, h4.nod, h4.lt⟩, fun q hq => ?_⟩
  rw [← lev_cdO n E n p hp.1, hp.2]
  exact h3 _ (lev_mem n E n q hq.len hq.nod hq.lt)

/-! ### Alike graphs -/
theorem fit_ind {g h : List (List Int)} (hg : GOk g) (hh : GOk h) (hl : g.length = h.length) {f : List Nat} (hf : fitF g.length (ofG g) (ofG h) h.length [] = some f) : OrdN g.length f ∧ h = indL g (natInts f) := by
  obtain ⟨u, hu, h1, h2, h3⟩ := fitF_some _ _ _ hf
  rw [List.nil_append] at hu
  subst hu
  have hed : ∀ k i, (hk : k < i) → (hi : i < f.length) → f[k] ≠ f[i] ∧ ofG g f[i] f[k] = ofG h i k := fun k i hk hi => by
    obtain ⟨a, b⟩ := h3 i hi
    rw [List.nil_append] at a b
    have hlt : (f.take i).length = i := by rw [List.length_take]; omega
    have hk2 : k < (f.take i).length := by omega
    have e : (f.take i)[k] = f[k] := List.getElem_take ..
    refine ⟨fun e2 => a (by rw [← e2, ← e]; exact List.getElem_mem hk2), ?_⟩
    have := b k hk2
    rw [e, hlt] at this
    exact this
  have ho : OrdN g.length f := ⟨by omega, List.pairwise_iff_getElem.2 fun i j hi hj hij => (hed i j hij hj).1, h2⟩
  refine ⟨ho, ?_⟩
  rw [← matG_ofG hh]
  show _ = matG (natInts f).length _
  rw [natInts_length, ho.len, hl]
  refine matG_congr fun r j hr hj => ?_
  have hr' : r < f.length := by omega
  have hj' : j < f.length := by omega
  rw [indE_nat hr' hj']
  by_cases h4 : j < r
  · exact (hed j r h4 hr').2.symm
  · by_cases h5 : r < j
    · have h6 := (hed r j h5 hj').2
      have hs : ∀ {x : List (List Int)}, GOk x → ∀ a b, ofG x a b = ofG x b a := fun {x} hx a b => by
        cases e1 : ofG x a b
        · cases e2 : ofG x b a
          · rfl
          · rw [ofG_sym hx _ _ e2] at e1; cases e1
        · rw [ofG_sym hx _ _ e1]
      rw [hs hh r j, hs hg, h6]
    · obtain rfl : r = j := by omega
      have h7 : ∀ {x : List (List Int)} {v : Nat}, GOk x → v < x.length → ofG x v v = false := fun {x v} hx hv => decide_eq_false (hx.sets v hv).2
      rw [h7 hh (by omega), h7 hg (h2 _ (List.getElem_mem hr'))]
theorem ind_fit {g : List (List Int)} {f : List Nat} (hf : OrdN g.length f) : ∃ o, fitF g.length (ofG g) (ofG (indL g (natInts f))) (indL g (natInts f)).length [] = some o := by
  cases h : fitF g.length (ofG g) (ofG (indL g (natInts f))) (indL g (natInts f)).length [] with
  | some o => exact ⟨o, rfl⟩
  | none =>
    have hl : (indL g (natInts f)).length = f.length := by unfold indL; rw [matG_length, natInts_length]
    exact absurd (fit_order hf.nod) (fitF_none _ _ h f (by rw [hl]) hf.lt)
theorem edB_ofG (g : List (List Int)) : edB g = ofG g := rfl
/-- An order of the renamed graph has the code of the order put behind it. -/
theorem cdO_ind {g : List (List Int)} {n : Nat} {f q : List Nat} (hf : OrdN n f) (hq : OrdN n q) : (cdO (ofG (indL g (natInts f))) q).2 = (cdO (ofG g) (q.map fun x => f.getD x 0)).2 := by
  refine (cdO_iff n q _ hq.len (by rw [List.length_map, hq.len])).2 fun i j hij hj => ?_
  have hi' : i < q.length := by rw [hq.len]; omega
  have hj' : j < q.length := by rw [hq.len]; omega
  have h1 := hq.lt _ (List.getElem_mem hi')
  have h2 := hq.lt _ (List.getElem_mem hj')
  have h1' : q[i] < f.length := by rw [hf.len]; exact h1
  have h2' : q[j] < f.length := by rw [hf.len]; exact h2
  have e : ∀ k (hk : k < q.length) (hm : q[k] < f.length), (q.map fun x => f.getD x 0).getD k 0 = f[q[k]] := fun k hk hm => by
    simp [List.getElem?_eq_getElem hk, List.getElem?_eq_getElem hm]
  rw [e i hi' h1', e j hj' h2']
  simp only [List.getD_eq_getElem?_getD, List.getElem?_eq_getElem hi', List.getElem?_eq_getElem hj', Option.getD_some]
  exact ofG_ind h1' h2'
/-- Equal codes, equal renamed graphs. -/
theorem ind_of_code {g h : List (List Int)} (hg : GOk g) (hh : GOk h) {n : Nat} (hn : g.length = n) (hm : h.length = n) {o q : List Nat} (ho : OrdN n o) (hq : OrdN n q) (he : (cdO (ofG g) o).2 = (cdO (ofG h) q).2) : indL g (natInts o) = indL h (natInts q) := by
  have h1 := (cdO_iff n o q ho.len hq.len).1 he
  show matG (natInts o).length _ = matG (natInts q).length _
  rw [natInts_length, natInts_length, ho.len, hq.len]
  refine matG_congr fun r j hr hj => ?_
  have hr1 : r < o.length := by rw [ho.len]; exact hr
  have hj1 : j < o.length := by rw [ho.len]; exact hj
  have hr2 : r < q.length := by rw [hq.len]; exact hr
  have hj2 : j < q.length := by rw [hq.len]; exact hj
  rw [indE_nat hr1 hj1, indE_nat hr2 hj2]
  have h3 : ∀ i k (hi : i < k) (hk : k < n), ofG g (o[i]'(by rw [ho.len]; omega)) (o[k]'(by rw [ho.len]; omega)) = ofG h (q[i]'(by rw [hq.len]; omega)) (q[k]'(by rw [hq.len]; omega)) := fun i k hi hk => by
    have := h1 i k hi hk
    simpa [List.getElem?_eq_getElem (show i < o.length by rw [ho.len]; omega), List.getElem?_eq_getElem (show k < o.length by rw [ho.len]; omega), List.getElem?_eq_getElem (show i < q.length by rw [hq.len]; omega), List.getElem?_eq_getElem (show k < q.length by rw [hq.len]; omega)] using this
  have hs : ∀ {x : List (List Int)}, GOk x → ∀ a b, ofG x a b = ofG x b a := fun {x} hx a b => by
    cases e1 : ofG x a b
    · cases e2 : ofG x b a
      · rfl
      · rw [ofG_sym hx _ _ e2] at e1; cases e1
    · rw [ofG_sym hx _ _ e1]
  have h7 : ∀ {x : List (List Int)} {v : Nat}, GOk x → v < x.length → ofG x v v = false := fun {x v} hx hv => decide_eq_false (hx.sets v hv).2
  by_cases h4 : r < j
  · exact h3 r j h4 hj
  · by_cases h5 : j < r
    · rw [hs hg, hs hh]; exact h3 j r h5 hr
    · obtain rfl : r = j := by omega
      rw [h7 hg (by rw [hn]; exact ho.lt _ (List.getElem_mem hr1)), h7 hh (by rw [hm]; exact hq.lt _ (List.getElem_mem hr2))]
/-- Two graphs are alike just where their canonical forms are equal. -/
theorem canon_iso {g h : List (List Int)} (hg : GOk g) (hh : GOk h) (hl : g.length = h.length) {o q : List Nat} (ho : (levB g.length (edB g) g.length).head? = some o) (hq : (levB h.length (edB h) h.length).head? = some q) :
    (∃ f, fitF g.length (ofG g) (ofG h) h.length [] = some f) ↔ indL g (natInts o) = indL h (natInts q) := by
  obtain ⟨ho1, ho2⟩ := levB_best ho
  obtain ⟨hq1, hq2⟩ := levB_best hq
  rw [edB_ofG] at ho2 hq2
  constructor
  · rintro ⟨f, hf⟩
    obtain ⟨hf1, hf2⟩ := fit_ind hg hh hl hf
    refine ind_of_code hg hh rfl hl.symm ho1 (hl ▸ hq1) ?_
    have hq1' : OrdN g.length q := hl ▸ hq1
    refine (lexL_tri _ _ (fun k => ?_) (fun k => ?_))
    · -- an order of h from o
      obtain ⟨b, hb1, hb2⟩ := hf1.inv
      have hb3 : indL h (natInts b) = g := by rw [hf2]; exact ind_back hg hf1.len hb1.len hb1.lt hb2
      refine hq2 (o.map fun x => b.getD x 0) (hl ▸ hb1.comp ho1) ?_
      rw [← cdO_ind (g := h) hb1 ho1, hb3]
      exact k
    · refine ho2 (q.map fun x => f.getD x 0) (hf1.comp hq1') ?_
      rw [← cdO_ind (g := g) hf1 hq1', ← hf2]
      exact k
  · intro he
    have hq1' : OrdN g.length q := hl ▸ hq1
    obtain ⟨b, hb1, hb2⟩ := hq1'.inv
    have hb3 : indL (indL h (natInts q)) (natInts b) = h := ind_back hh hq1.len (by rw [hb1.len, hl]) (fun x hx => hl ▸ hb1.lt x hx) hb2
    rw [← he, ind_comp ho1 hb1] at hb3
    have h4 := ind_fit (g := g) (ho1.comp hb1)
    rw [hb3] at h4
    exact h4

end Go.Proofs.YtkppbmfliejnmaaDoor

/- What a law's bytes read as. -/
namespace Go.Proofs.YtkppbmfliejnmaaDoor
open Go.RowKit

def ArgB (w : World) (v : Value) (bs : List Int) : Prop := ∃ p c, v = .slice p bs.length c ∧ bs.length ≤ 9223372036854775807 ∧ (∀ x ∈ bs, 0 ≤ x ∧ x ≤ 255) ∧ Cl w p (bs.map (Value.int .u8))
theorem ArgB.below {w w' : World} {v : Value} {bs : List Int} (h : ArgB w v bs) (hb : Below w.heap.size w w') : ArgB w' v bs := by
  obtain ⟨p, c, h1, h2, h3, h4⟩ := h
  exact ⟨p, c, h1, h2, h3, h4.below hb⟩
theorem ArgB.get {w : World} {p : Option Addr} {n c : Nat} {bs : List Int} (h : ArgB w (.slice p n c) bs) {k : Nat} (hk : k < bs.length) :
    ∃ b o, p = some ⟨b, o, none⟩ ∧ w.cell? ⟨b, o + k, none⟩ = some (.int .u8 bs[k]) ∧ 0 ≤ bs[k] ∧ bs[k] ≤ 255 := by
  obtain ⟨p', c', e, _, h3, h4⟩ := h
  cases e
  rcases h4 with h4 | ⟨b, o, rfl, h5⟩
  · rw [List.map_eq_nil_iff] at h4
    subst h4
    simp at hk
  · refine ⟨b, o, rfl, h5 k _ (by simp [hk]), h3 _ (List.getElem_mem hk)⟩

end Go.Proofs.YtkppbmfliejnmaaDoor

/- Walks: the reference's draws: numbers (l1New, l1Byte, l1Below, l1Once). -/
namespace Go.Proofs.YtkppbmfliejnmaaDoor
open Go.RowKit

structure BoxC (w : World) (b : Nat) (x y z : Value) : Prop where
  blk : w.heap[b]? = some (.cells #[x, y, z] 153 (0, 0))
section
variable {w w' : World} {b : Nat} {x y z : Value}
theorem BoxC.c0 (h : BoxC w b x y z) : w.cell? ⟨b, 0, none⟩ = some x := by unfold World.cell?; rw [h.blk]; rfl
theorem BoxC.c1 (h : BoxC w b x y z) : w.cell? ⟨b, 1, none⟩ = some y := by unfold World.cell?; rw [h.blk]; rfl
theorem BoxC.c2 (h : BoxC w b x y z) : w.cell? ⟨b, 2, none⟩ = some z := by unfold World.cell?; rw [h.blk]; rfl
theorem BoxC.free (h : BoxC w b x y z) (i : Nat) : w.frozen? ⟨b, i, none⟩ = false := by simp [World.frozen?, h.blk]
theorem BoxC.lt (h : BoxC w b x y z) : b < w.heap.size := lt_of_block h.blk
theorem BoxC.new (w : World) (x y z : Value) : BoxC (w.alloc (.cells #[x, y, z] 153)) w.heap.size x y z := ⟨heap_alloc_new w _⟩
theorem BoxC.to (h : BoxC w b x y z) (hk : w'.heap[b]? = w.heap[b]?) : BoxC w' b x y z := ⟨hk.trans h.blk⟩
theorem BoxC.s1 (h : BoxC w b x y z) (u : Value) : BoxC (w.setCell ⟨b, 1, none⟩ u) b x u z := ⟨by have := heap_setCell_same w b 1 _ _ u h.blk; simpa using this⟩
theorem BoxC.s2 (h : BoxC w b x y z) (u : Value) : BoxC (w.setCell ⟨b, 2, none⟩ u) b x y u := ⟨by have := heap_setCell_same w b 2 _ _ u h.blk; simpa using this⟩
theorem BoxC.keep (h : BoxC w b x y z) (hb : Below w.heap.size w w') : BoxC w' b x y z := h.to (hb.block b h.lt)
end
theorem grown_setCell (w : World) (b i : Nat) (u : Value) : w.grownBy (w.setCell ⟨b, i, none⟩ u) (some b) :=
  ⟨rfl, rfl, rfl, by rw [World.size_setCell]; exact Nat.le_refl _, fun k _ hne => Below.heap_setCell _ _ _ _ (fun e => hne (by simp only at e; rw [e]))⟩

/-- The cursor stands in block cb: the bytes, how many were read, a number. -/
structure Cur (w0 w : World) (cb : Nat) (bs : List Int) : Prop where
  ex : ∃ (bv : Value) (i : Nat) (h : Int), BoxC w cb bv (.int .i64 i) (.int .i64 h) ∧ i ≤ bs.length ∧ ArgB w0 bv bs
  few : bs.length ≤ 4096
  lo : w0.heap.size ≤ cb
  bel : Below w0.heap.size w0 w
theorem Cur.keep {w0 w w' : World} {cb : Nat} {bs : List Int} (h : Cur w0 w cb bs) (hb : Below w.heap.size w w') : Cur w0 w' cb bs := by
  obtain ⟨bv, i, z, h1, h2, h3⟩ := h.ex
  exact ⟨⟨bv, i, z, h1.keep hb, h2, h3⟩, h.few, h.lo, h.bel.trans (hb.mono h.bel.size)⟩
theorem below_grownC {w0 w w' : World} {cb : Nat} (h : Below w0.heap.size w0 w) (hg : w.grownBy w' (some cb)) (hl : w0.heap.size ≤ cb) : Below w0.heap.size w0 w' :=
  ⟨hg.os.trans h.os, hg.tape.trans h.tape, hg.output.trans h.output, Nat.le_trans h.size hg.size, fun k hk => (hg.block k (Nat.lt_of_lt_of_le hk h.size) (fun e => by simp only [Option.some.injEq] at e; omega)).trans (h.block k hk)⟩
theorem and255 (x : Int) : ∃ r : Nat, bits BinOp.and IntKind.i64 x 255 = (r : Int) ∧ r ≤ 255 := by
  refine ⟨(BitVec.ofInt 64 x &&& BitVec.ofInt 64 255).toNat, ?_, ?_⟩
  · show IntKind.i64.wrap ((BitVec.ofInt 64 x &&& BitVec.ofInt 64 255).toNat : Int) = _
    have h : (BitVec.ofInt 64 x &&& BitVec.ofInt 64 255).toNat ≤ 255 := by
      rw [BitVec.toNat_and]
      exact Nat.le_trans Nat.and_le_right (by decide)
    rw [IntKind.wrap_i64]
    omega
  · rw [BitVec.toNat_and]
    exact Nat.le_trans Nat.and_le_right (by decide)

set_option maxRecDepth 100000 in
set_option maxHeartbeats 4000000 in
theorem l1Byte_any (w0 : World) (cb : Nat) (bs : List Int) (w : World) (hc : Cur w0 w cb bs) :
    Calls Tryd.prog 208 #[.pointer (some ⟨cb, 0, none⟩)] w fun e w' => ∃ r : Nat, e = .returned (.int .i64 (r : Int)) ∧ r ≤ 255 ∧ Cur w0 w' cb bs ∧ w.grownBy w' (some cb) := by
  obtain ⟨⟨bv, i, h, hb, hi, ha⟩, few, lo, bel⟩ := hc
  obtain ⟨bp, bc, e, ha2⟩ := id ha
  subst e
  have c2 := hb.c2
  have f2 := hb.free 2
  obtain ⟨w1, hw1⟩ : ∃ w1, w1 = w := ⟨_, rfl⟩
  have HB := Lib.hid hb
  have HA := Lib.hid ha
  have HBEL := Lib.hid bel
  clear ha2 ha hb bel
  go_enter Tryd.func208, Tryd.ntmps208
  go_upto_region 1 with fail
  go_cut [12] (fun _ wx => ∃ h2 : Int, wx = w.setCell ⟨cb, 2, none⟩ (.int .i64 h2))
  case first =>
    go_wp2
    go_meet
    exact ⟨_, rfl⟩
  case rest =>
    obtain ⟨h2, rfl⟩ := hcut
    have HB2 := Lib.hid (HB.out.s2 (.int .i64 h2))
    have HG2 := Lib.hid (grown_setCell w cb 2 (.int .i64 h2))
    have c2 := HB2.out.c2
    obtain ⟨w2, hw2⟩ : ∃ w2, w2 = w.setCell ⟨cb, 2, none⟩ (.int .i64 h2) := ⟨_, rfl⟩
    rw [← hw2] at c2 HB2 HG2 ⊢
    clear hw2 f2 hw1
    go_upto_region 2 with fail
    go_cut [3] (fun s wx => ∃ r : Nat, s = .int .i64 (r : Int) ∧ r ≤ 255 ∧ Below w2.heap.size w2 wx)
    case first =>
      go_region_held3 (fun w' => w'.cell? ⟨cb, 2, none⟩ = some (.int .i64 h2))
        (first | go_keep | exact c2)
        (fail)
      all_goals go_wp2
      all_goals go_meet
      all_goals
        obtain ⟨r, e, hr⟩ := and255 (bits BinOp.xor IntKind.i64 (h2 / 2 ^ 33) (h2 / 2 ^ 45))
        exact ⟨r, by rw [← e]; rfl, hr, below_dN (Below.refl _ _) _⟩
    case rest =>
      obtain ⟨r, rfl, hr, hb3⟩ := hcut
      have HB3 := Lib.hid (HB2.out.keep hb3)
      have HG3 := Lib.hid (grown_trans HG2.out (grown_of_below hb3 _))
      have c0 := HB3.out.c0
      have c1 := HB3.out.c1
      clear c2 hb3
      go_upto_region 3 with fail
      go_cut [34] (fun s wx => s = .bool (decide (i < bs.length)) ∧ Below wc.heap.size wc wx)
      case first =>
        go_region_held3 (fun w' => w'.cell? ⟨cb, 1, none⟩ = some (.int .i64 i) ∧ w'.cell? ⟨cb, 0, none⟩ = some (.slice bp bs.length bc))
          (first | go_keep | exact ⟨c1, c0⟩)
          (fail)
        all_goals go_wp2
        all_goals go_meet
        all_goals exact ⟨rfl, below_dN (Below.refl _ _) _⟩
      case rest =>
        obtain ⟨rfl, hb4⟩ := hcut
        have HB4 := Lib.hid (HB3.out.keep hb4)
        have HG4 := Lib.hid (grown_trans HG3.out (grown_of_below hb4 _))
        have HL4 := Lib.hid (below_grownC HBEL.out HG4.out lo)
        have c0 := HB4.out.c0
        have c1 := HB4.out.c1
        clear hb4
        by_cases hlt : i < bs.length
        · obtain ⟨xb, xo, rfl, hcx, hx0, hx1⟩ := (HA.out.below HL4.out).get hlt
          generalize bs[i] = x at hcx hx0 hx1
          have hdt : decide (i < bs.length) = true := by simp [hlt]
          have e0 : (0 : Int) ≤ (i : Int) := by omega
          have e1 : (i : Int) < (bs.length : Int) := by omega
          go_upto_region 4 with fail
          go_cut [3] (fun s wx => ∃ r : Nat, s = .int .i64 (r : Int) ∧ r ≤ 255 ∧ Below wc.heap.size wc wx)
          case first =>
            go_region_held3 (fun w' => w'.cell? ⟨cb, 1, none⟩ = some (.int .i64 i) ∧ w'.cell? ⟨cb, 0, none⟩ = some (.slice (some ⟨xb, xo, none⟩) bs.length bc) ∧ w'.cell? ⟨xb, xo + i, none⟩ = some (.int .u8 x))
              (first | go_keep | exact ⟨c1, c0, hcx⟩)
              (fail)
            all_goals go_wp2
            all_goals go_meet
            all_goals
              refine (and255 ?_).elim fun r' he => ⟨r', by rw [← he.1], he.2, below_dN (Below.refl _ _) _⟩
          case rest =>
            obtain ⟨r2, rfl, hr2, hb5⟩ := hcut
            have HB5 := Lib.hid (HB4.out.keep hb5)
            have HG5 := Lib.hid (grown_trans HG4.out (grown_of_below hb5 _))
            have c1 := HB5.out.c1
            have f1 := HB5.out.free 1
            clear hb5 hcx c0
            go_wp2
            go_ret
            have HB6 := HB5.out.s1 (.int .i64 ((i + 1 : Nat) : Int))
            have HG6 := grown_trans HG5.out (grown_setCell wc cb 1 (.int .i64 ((i + 1 : Nat) : Int)))
            exact ⟨r2, rfl, hr2, ⟨⟨_, i + 1, h2, HB6, by omega, HA.out⟩, few, lo, below_grownC HBEL.out HG6 lo⟩, HG6⟩
        · have hdt : decide (i < bs.length) = false := by simp [hlt]
          go_wp2
          go_ret
          exact ⟨r, rfl, hr, ⟨⟨_, i, h2, HB4.out, hi, HA.out⟩, few, lo, HL4.out⟩, HG4.out⟩

set_option maxRecDepth 100000 in
set_option maxHeartbeats 4000000 in
theorem l1Below_any (w0 : World) (cb : Nat) (bs : List Int) (n : Int) (hn : n ≤ 9223372036854775807) (w : World) (hc : Cur w0 w cb bs) :
    Calls Tryd.prog 148 #[.pointer (some ⟨cb, 0, none⟩), .int .i64 n] w fun e w' => ∃ r : Nat, e = .returned (.int .i64 (r : Int)) ∧ (0 < n → (r : Int) < n) ∧ (n ≤ 0 → r = 0) ∧ Cur w0 w' cb bs ∧ w.grownBy w' (some cb) := by
  have HC := Lib.hid hc
  clear hc
  by_cases h0 : n ≤ 0
  · go_enter Tryd.func148, Tryd.ntmps148
    go_wp2
    go_ret
    exact ⟨0, rfl, fun h => by omega, fun _ => rfl, HC.out, grown_of_below (Below.refl _ _) _⟩
  · obtain ⟨k, rfl⟩ : ∃ k : Nat, n = (k : Int) := ⟨n.toNat, by omega⟩
    have hkp : 0 < k := by omega
    have hk0 : ((k : Int) == 0) = false := by simp; omega
    have htm : ∀ r : Nat, Int.tmod (r : Int) (k : Int) = ((r % k : Nat) : Int) := fun r => (Int.ofNat_tmod r k).symm
    have HML : Hid (∀ r : Nat, r % k < k) := Lib.hid (fun r => Nat.mod_lt r hkp)
    by_cases h256 : (k : Int) ≤ 256
    · go_enter Tryd.func148, Tryd.ntmps148
      go_wp2_with (go_at_call 208; refine (l1Byte_any w0 cb bs _ HC.out).mono ?_; rintro e w2 ⟨r, rfl, hr, hc2, hg2⟩; have HC2 := Lib.hid hc2; have HG2 := Lib.hid hg2; clear hc2 hg2)
      go_ret
      exact ⟨r % k, rfl, fun _ => by have := HML.out r; omega, fun h => by omega, HC2.out, HG2.out⟩
    · go_enter Tryd.func148, Tryd.ntmps148
      go_upto_region 6 with (go_at_call 208; refine (l1Byte_any w0 cb bs _ HC.out).mono ?_; rintro e w2 ⟨r1, rfl, hr1, hc2, hg2⟩; have HC2 := Lib.hid hc2; have HG2 := Lib.hid hg2; clear hc2 hg2)
      go_upto_region 7 with (go_at_call 208; refine (l1Byte_any w0 cb bs _ HC2.out).mono ?_; rintro e w3 ⟨r2, rfl, hr2, hc2, hg2⟩; have HC3 := Lib.hid hc2; have HG3 := Lib.hid (grown_trans HG2.out hg2); clear hc2 hg2)
      go_upto_region 8 with (go_at_call 208; refine (l1Byte_any w0 cb bs _ HC3.out).mono ?_; rintro e w4 ⟨r3, rfl, hr3, hc2, hg2⟩; have HC4 := Lib.hid hc2; have HG4 := Lib.hid (grown_trans HG3.out hg2); clear hc2 hg2)
      go_upto_region 9 with (go_at_call 208; refine (l1Byte_any w0 cb bs _ HC4.out).mono ?_; rintro e w5 ⟨r4, rfl, hr4, hc2, hg2⟩; have HC5 := Lib.hid hc2; have HG5 := Lib.hid (grown_trans HG4.out hg2); clear hc2 hg2)
      have hsum : ((r1 : Int) * 16777216 + (r2 : Int) * 65536 + (r3 : Int) * 256 + (r4 : Int)) = ((r1 * 16777216 + r2 * 65536 + r3 * 256 + r4 : Nat) : Int) := by omega
      have htm2 := htm (r1 * 16777216 + r2 * 65536 + r3 * 256 + r4)
      rw [← hsum] at htm2
      have HML2 := Lib.hid (HML.out (r1 * 16777216 + r2 * 65536 + r3 * 256 + r4))
      generalize (r1 * 16777216 + r2 * 65536 + r3 * 256 + r4) % k = r at htm2 HML2
      clear hsum htm
      go_wp2
      go_ret
      exact ⟨r, by first | rfl | (rw [← htm2]; rfl), fun _ => by have := HML2.out; omega, fun h => by omega, HC5.out, HG5.out⟩

set_option maxRecDepth 100000 in
set_option maxHeartbeats 1000000 in
theorem l1Once_any (w0 : World) (cb : Nat) (bs : List Int) (n : Int) (hn : n ≤ 9223372036854775807) (w : World) (hc : Cur w0 w cb bs) :
    Calls Tryd.prog 129 #[.pointer (some ⟨cb, 0, none⟩), .int .i64 n] w fun e w' => ∃ b : Bool, e = .returned (.bool b) ∧ Cur w0 w' cb bs ∧ w.grownBy w' (some cb) := by
  have HC := Lib.hid hc
  clear hc
  go_enter Tryd.func129, Tryd.ntmps129
  go_wp2_with (go_at_call 148; refine (l1Below_any w0 cb bs n hn _ HC.out).mono ?_; rintro e w2 ⟨r, rfl, _, _, hc2, hg2⟩; have HC2 := Lib.hid hc2; have HG2 := Lib.hid hg2; clear hc2 hg2)
  go_ret
  exact ⟨_, rfl, HC2.out, HG2.out⟩

end Go.Proofs.YtkppbmfliejnmaaDoor
