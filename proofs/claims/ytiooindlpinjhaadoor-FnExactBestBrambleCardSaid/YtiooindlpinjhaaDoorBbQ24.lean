/- Plain: the least code of all orders, searched from place to place, and searched one order at a time. -/
import Derived.Test.YtiooindlpinjhaaDoorBbQ9
import Derived.Test.YtiooindlpinjhaaDoorBbQ13
import Derived.Test.YtiooindlpinjhaaDoorBbQ8
import Derived.Test.YtiooindlpinjhaaDoorBbQ19
import Derived.Test.YtiooindlpinjhaaDoorBbQ2
import Derived.Test.YtiooindlpinjhaaDoorBbQ5
import Derived.Deep.RegionHeld3
import Derived.Deep.DeepCutAuto
import Derived.Test.YtiooindlpinjhaaDoorBbQ23
namespace Go.Proofs.YtiooindlpinjhaaDoor

theorem lexL_long : ∀ {a b : List Nat} (s t : List Nat), a.length = b.length → lexL a b → lexL (a ++ s) (b ++ t)
  | [], [], _, _, _, h => h.elim
  | a :: l, b :: m, s, t, e, h => by
    simp only [List.cons_append, lexL] at h ⊢
    rcases h with h | ⟨h1, h2⟩
    · exact .inl h
    · exact .inr ⟨h1, lexL_long s t (by simpa using e) h2⟩
theorem lexL_asymm {a b : List Nat} (h : lexL a b) : ¬ lexL b a := fun k => lexL_irrefl _ (lexL_trans h k)
theorem lexL_take {q p : List Nat} (t : List Nat) (hl : p.length ≤ q.length) (h : lexL (q.take p.length) p) : lexL q (p ++ t) := by
  have := lexL_long (q.drop p.length) t (by simp; omega) h
  rwa [List.take_append_drop] at this

/-- Orders with their codes. -/
abbrev PrC := List Nat × List Nat
def rowC (E : Nat → Nat → Bool) (o : List Nat) (v : Nat) : List Nat := o.map fun u => if E u v then 1 else 0
theorem rowC_length (E : Nat → Nat → Bool) (o : List Nat) (v : Nat) : (rowC E o v).length = o.length := by simp [rowC]
def freeV (n : Nat) (o : List Nat) : List Nat := (List.range n).filter fun v => decide (v ∉ o)
def stepP (E : Nat → Nat → Bool) (p : PrC) (v : Nat) : PrC := (p.1 ++ [v], p.2 ++ rowC E p.1 v)
def extP (n : Nat) (E : Nat → Nat → Bool) (p : PrC) : List PrC := (freeV n p.1).map (stepP E p)
def levP (n : Nat) (E : Nat → Nat → Bool) : Nat → List PrC
  | 0 => [([], [])]
  | k + 1 => (levP n E k).flatMap (extP n E)
def compP (n : Nat) (E : Nat → Nat → Bool) : Nat → PrC → List PrC
  | 0, p => [p]
  | k + 1, p => (extP n E p).flatMap (compP n E k)
theorem lev_comp (n : Nat) (E : Nat → Nat → Bool) : ∀ (m k : Nat), (levP n E k).flatMap (compP n E m) = levP n E (k + m)
  | 0, k => by
    show (levP n E k).flatMap (fun p => [p]) = _
    simp
  | m + 1, k => by
    have := lev_comp n E m (k + 1)
    rw [show k + (m + 1) = k + 1 + m by omega, ← this]
    show (levP n E k).flatMap (fun p => (extP n E p).flatMap (compP n E m)) = ((levP n E k).flatMap (extP n E)).flatMap (compP n E m)
    rw [List.flatMap_assoc]
theorem comp_all (n : Nat) (E : Nat → Nat → Bool) : compP n E n ([], []) = levP n E n := by
  have := lev_comp n E n 0
  rw [Nat.zero_add] at this
  rw [← this]
  simp [levP]

/-- What an order of so many places is. -/
structure OrdK (n : Nat) (k : Nat) (p : PrC) : Prop where
  len : p.1.length = k
  nod : p.1.Nodup
  lt : ∀ v ∈ p.1, v < n
def codeL : Nat → Nat
  | 0 => 0
  | k + 1 => codeL k + k
theorem mem_freeV {n : Nat} {o : List Nat} {v : Nat} : v ∈ freeV n o ↔ v < n ∧ v ∉ o := by simp [freeV]
theorem OrdK.step {n k : Nat} {p : PrC} (h : OrdK n k p) (E : Nat → Nat → Bool) {v : Nat} (hv : v < n) (hn : v ∉ p.1) : OrdK n (k + 1) (stepP E p v) := by
  refine ⟨by simp [stepP, h.len], ?_, fun u hu => ?_⟩
  · simp only [stepP]
    rw [List.nodup_append]
    exact ⟨h.nod, by simp, fun a ha b hb => by
      have : b = v := by simpa using hb
      subst this
      exact fun e => hn (e ▸ ha)⟩
  · rcases List.mem_append.1 hu with e | e
    · exact h.lt u e
    · have : u = v := by simpa using e
      omega
theorem step_code (E : Nat → Nat → Bool) {p : PrC} {k v : Nat} (h1 : p.1.length = k) (h2 : p.2.length = codeL k) : (stepP E p v).2.length = codeL (k + 1) := by
  simp [stepP, rowC_length, h1, h2, codeL]
theorem lev_ord (n : Nat) (E : Nat → Nat → Bool) : ∀ k, ∀ p ∈ levP n E k, OrdK n k p ∧ p.2.length = codeL k
  | 0, p, hp => by
    have : p = ([], []) := by simpa [levP] using hp
    subst this
    exact ⟨⟨rfl, by simp, by simp⟩, rfl⟩
  | k + 1, p, hp => by
    obtain ⟨q, hq, hp⟩ := List.mem_flatMap.1 hp
    obtain ⟨v, hv, rfl⟩ := List.mem_map.1 hp
    obtain ⟨h1, h2⟩ := lev_ord n E k q hq
    obtain ⟨h3, h4⟩ := mem_freeV.1 hv
    exact ⟨h1.step E h3 h4, step_code E h1.len h2⟩
theorem comp_pre (n : Nat) (E : Nat → Nat → Bool) : ∀ (m : Nat) (p q : PrC), q ∈ compP n E m p → ∃ t, q.2 = p.2 ++ t
  | 0, p, q, h => ⟨[], by have : q = p := by simpa [compP] using h
                          simp [this]⟩
  | m + 1, p, q, h => by
    obtain ⟨r, hr, h⟩ := List.mem_flatMap.1 h
    obtain ⟨v, _, rfl⟩ := List.mem_map.1 hr
    obtain ⟨t, ht⟩ := comp_pre n E m _ q h
    exact ⟨rowC E p.1 v ++ t, by rw [ht]; simp [stepP]⟩

open Classical in
/-- The better one: the later one if its code is less. -/
noncomputable def better (b : Option PrC) (p : PrC) : Option PrC :=
  match b with
  | none => some p
  | some q => if lexL p.2 q.2 then some p else some q
theorem better_keep {q : PrC} : ∀ {V : List PrC}, (∀ p ∈ V, ¬ lexL p.2 q.2) → V.foldl better (some q) = some q
  | [], _ => rfl
  | p :: V, h => by
    rw [List.foldl_cons, show better (some q) p = some q from if_neg (h p (by simp))]
    exact better_keep fun r hr => h r (by simp [hr])
/-- A start that is more than the best one's leads nowhere. -/
theorem comp_cut {n : Nat} {E : Nat → Nat → Bool} {m : Nat} {p q : PrC} (hl : p.2.length ≤ q.2.length) (h : lexL (q.2.take p.2.length) p.2) : (compP n E m p).foldl better (some q) = some q := by
  refine better_keep fun r hr k => ?_
  obtain ⟨t, ht⟩ := comp_pre n E m p r hr
  rw [ht] at k
  exact lexL_asymm (lexL_take t hl h) k

/-- The best of a list: the first one of least code. -/
theorem best_from : ∀ (V : List PrC) (q : PrC), ∃ m r, ¬ lexL q.2 m ∧ (∀ p ∈ V, ¬ lexL p.2 m) ∧ V.foldl better (some q) = some r ∧ (q :: V).find? (fun p => decide (p.2 = m)) = some r
  | [], q => ⟨q.2, q, lexL_irrefl _, by simp, rfl, by simp⟩
  | p :: V, q => by
    by_cases h : lexL p.2 q.2
    · obtain ⟨m, r, h1, h2, h3, h4⟩ := best_from V p
      have hq : ¬ lexL q.2 m := fun k => h1 (lexL_trans h k)
      have hne : q.2 ≠ m := fun e => h1 (e ▸ h)
      refine ⟨m, r, hq, fun x hx => ?_, by rw [List.foldl_cons, show better (some q) p = some p from if_pos h]; exact h3, ?_⟩
      · rcases List.mem_cons.1 hx with e | e
        · rw [e]; exact h1
        · exact h2 x e
      · rw [List.find?_cons_of_neg (by simp [hne])]; exact h4
    · obtain ⟨m, r, h1, h2, h3, h4⟩ := best_from V q
      have hp : ¬ lexL p.2 m := fun k => by
        by_cases e : q.2 = m
        · exact h (e ▸ k)
        · by_cases k2 : lexL m q.2
          · exact h (lexL_trans k k2)
          · exact e (lexL_tri _ _ h1 k2)
      refine ⟨m, r, h1, fun x hx => ?_, by rw [List.foldl_cons, show better (some q) p = some q from if_neg h]; exact h3, ?_⟩
      · rcases List.mem_cons.1 hx with e | e
        · rw [e]; exact hp
        · exact h2 x e
      · by_cases e : q.2 = m
        · rw [List.find?_cons_of_pos (by simp [e])] at h4 ⊢; exact h4
        · have e2 : p.2 ≠ m := fun e2 => by
            by_cases k2 : lexL m q.2
            · exact h (e2 ▸ k2)
            · exact e (lexL_tri _ _ h1 k2)
          rw [List.find?_cons_of_neg (by simp [e])] at h4 ⊢
          rw [List.find?_cons_of_neg (by simp [e2])]; exact h4
theorem best_find : ∀ (V : List PrC), V ≠ [] → ∃ m r, (∀ p ∈ V, ¬ lexL p.2 m) ∧ V.foldl better none = some r ∧ V.find? (fun p => decide (p.2 = m)) = some r
  | [], h => absurd rfl h
  | q :: V, _ => by
    obtain ⟨m, r, h1, h2, h3, h4⟩ := best_from V q
    refine ⟨m, r, fun x hx => ?_, h3, h4⟩
    rcases List.mem_cons.1 hx with e | e
    · rw [e]; exact h1
    · exact h2 x e

open Classical in
/-- The reference's step from k places to k + 1: the candidates in turn. -/
noncomputable def addC (E : Nat → Nat → Bool) (s : List (List Nat) × List Nat) (c : List Nat × Nat) : List (List Nat) × List Nat :=
  let s1 := if s.1 = [] ∨ lexL (rowC E c.1 c.2) s.2 then ([], rowC E c.1 c.2) else s
  if rowC E c.1 c.2 = s1.2 then (s1.1 ++ [c.1 ++ [c.2]], s1.2) else s1
def candC (n : Nat) (B : List (List Nat)) : List (List Nat × Nat) := B.flatMap fun o => (freeV n o).map fun v => (o, v)
noncomputable def nextB (n : Nat) (E : Nat → Nat → Bool) (B : List (List Nat)) : List (List Nat) := ((candC n B).foldl (addC E) ([], [])).1
noncomputable def levB (n : Nat) (E : Nat → Nat → Bool) : Nat → List (List Nat)
  | 0 => [[]]
  | k + 1 => nextB n E (levB n E k)

theorem addC_new {E : Nat → Nat → Bool} {s : List (List Nat) × List Nat} {c : List Nat × Nat} (h : s.1 = [] ∨ lexL (rowC E c.1 c.2) s.2) : addC E s c = ([c.1 ++ [c.2]], rowC E c.1 c.2) := by
  simp [addC, h]
theorem addC_same {E : Nat → Nat → Bool} {s : List (List Nat) × List Nat} {c : List Nat × Nat} (h : ¬ (s.1 = [] ∨ lexL (rowC E c.1 c.2) s.2)) (h2 : rowC E c.1 c.2 = s.2) : addC E s c = (s.1 ++ [c.1 ++ [c.2]], s.2) := by
  unfold addC
  simp only [if_neg h, if_pos h2]
theorem addC_more {E : Nat → Nat → Bool} {s : List (List Nat) × List Nat} {c : List Nat × Nat} (h : ¬ (s.1 = [] ∨ lexL (rowC E c.1 c.2) s.2)) (h2 : ¬ rowC E c.1 c.2 = s.2) : addC E s c = s := by
  unfold addC
  simp only [if_neg h, if_neg h2]

/-- Of the candidates those of least row stay. -/
def AddI (E : Nat → Nat → Bool) (C : List (List Nat × Nat)) (s : List (List Nat) × List Nat) : Prop :=
  (C = [] ∧ s = ([], [])) ∨ (C ≠ [] ∧ s.1 ≠ [] ∧ s.1 = (C.filter fun c => decide (rowC E c.1 c.2 = s.2)).map (fun c => c.1 ++ [c.2]) ∧ ∀ c ∈ C, ¬ lexL (rowC E c.1 c.2) s.2)
theorem AddI.snoc {E : Nat → Nat → Bool} {C : List (List Nat × Nat)} {s : List (List Nat) × List Nat} (h : AddI E C s) (c : List Nat × Nat) : AddI E (C ++ [c]) (addC E s c) := by
  right
  refine ⟨by simp, ?_⟩
  rcases h with ⟨rfl, rfl⟩ | ⟨h1, h2, h3, h4⟩
  · rw [addC_new (.inl rfl)]
    refine ⟨by simp, by simp, fun x hx => ?_⟩
    have : x = c := by simpa using hx
    rw [this]; exact lexL_irrefl _
  · by_cases hl : lexL (rowC E c.1 c.2) s.2
    · rw [addC_new (.inr hl)]
      have hf : C.filter (fun x => decide (rowC E x.1 x.2 = rowC E c.1 c.2)) = [] := by
        rw [List.filter_eq_nil_iff]
        intro x hx e
        exact h4 x hx (by rw [of_decide_eq_true e]; exact hl)
      refine ⟨by simp, ?_, fun x hx => ?_⟩
      · show [c.1 ++ [c.2]] = ((C ++ [c]).filter (fun x => decide (rowC E x.1 x.2 = rowC E c.1 c.2))).map _
        rw [List.filter_append, hf]; simp
      · rcases List.mem_append.1 hx with e | e
        · exact fun k => h4 x e (lexL_trans k hl)
        · have : x = c := by simpa using e
          rw [this]; exact lexL_irrefl _
    · have hno : ¬ (s.1 = [] ∨ lexL (rowC E c.1 c.2) s.2) := fun k => k.elim h2 hl
      by_cases he : rowC E c.1 c.2 = s.2
      · rw [addC_same hno he]
        refine ⟨by simp, ?_, fun x hx => ?_⟩
        · show s.1 ++ [c.1 ++ [c.2]] = ((C ++ [c]).filter (fun x => decide (rowC E x.1 x.2 = s.2))).map _
          rw [List.filter_append, List.map_append, ← h3]; simp [he]
        · rcases List.mem_append.1 hx with e | e
          · exact h4 x e
          · have : x = c := by simpa using e
            rw [this]; exact hl
      · rw [addC_more hno he]
        refine ⟨h2, ?_, fun x hx => ?_⟩
        · rw [List.filter_append, List.map_append, ← h3]; simp [he]
        · rcases List.mem_append.1 hx with e | e
          · exact h4 x e
          · have : x = c := by simpa using e
            rw [this]; exact hl
theorem addI_fold {E : Nat → Nat → Bool} : ∀ (D C : List (List Nat × Nat)) (s : List (List Nat) × List Nat), AddI E C s → AddI E (C ++ D) (D.foldl (addC E) s)
  | [], C, s, h => by simpa using h
  | d :: D, C, s, h => by
    have := addI_fold D (C ++ [d]) _ (h.snoc d)
    rw [List.append_assoc] at this
    exact this

theorem exists_free : ∀ (n : Nat) (o : List Nat), o.length < n → ∃ v, v < n ∧ v ∉ o
  | 0, o, h => by omega
  | n + 1, o, h => by
    by_cases hn : n ∈ o
    · have h2 : (o.filter fun x => decide (x ≠ n)).length < o.length := by
        refine List.length_filter_lt_length_iff_exists.2 ⟨n, hn, by simp⟩
      obtain ⟨v, hv, hv2⟩ := exists_free n (o.filter fun x => decide (x ≠ n)) (by omega)
      exact ⟨v, by omega, fun k => hv2 (List.mem_filter.2 ⟨k, by simp; omega⟩)⟩
    · exact ⟨n, by omega, hn⟩

theorem flatMap_filter {α β : Type} (p : α → Bool) (f : α → List β) : ∀ l : List α, (l.flatMap fun a => if p a = true then f a else []) = (l.filter p).flatMap f
  | [] => rfl
  | a :: l => by
    rw [List.flatMap_cons, flatMap_filter p f l]
    by_cases h : p a = true
    · rw [if_pos h, List.filter_cons_of_pos h, List.flatMap_cons]
    · rw [if_neg h, List.filter_cons_of_neg h]; rfl

theorem flatMap_congr' {α β : Type} {f g : α → List β} : ∀ {l : List α}, (∀ a ∈ l, f a = g a) → l.flatMap f = l.flatMap g
  | [], _ => rfl
  | a :: l, h => by rw [List.flatMap_cons, List.flatMap_cons, h a (by simp), flatMap_congr' fun b hb => h b (by simp [hb])]

/-- What the reference keeps at k places: the orders of least code, in turn. -/
theorem levB_is (n : Nat) (E : Nat → Nat → Bool) : ∀ k, k ≤ n → ∃ m, levB n E k = ((levP n E k).filter fun p => decide (p.2 = m)).map (·.1) ∧ levB n E k ≠ [] ∧ (∀ p ∈ levP n E k, ¬ lexL p.2 m) ∧ m.length = codeL k
  | 0, _ => ⟨[], by simp [levB, levP], by simp [levB], fun p hp => by
      have : p = ([], []) := by simpa [levP] using hp
      rw [this]; exact lexL_irrefl _, rfl⟩
  | k + 1, hk => by
    obtain ⟨m, h1, h2, h3, h5⟩ := levB_is n E k (by omega)
    have hI := addI_fold (E := E) (candC n (levB n E k)) [] ([], []) (.inl ⟨rfl, rfl⟩)
    rw [List.nil_append] at hI
    have hB : levB n E (k + 1) = ((candC n (levB n E k)).foldl (addC E) ([], [])).1 := rfl
    rw [hB]
    generalize hs : (candC n (levB n E k)).foldl (addC E) ([], []) = s at hI ⊢
    have hmem : ∀ o ∈ levB n E k, ∃ p ∈ levP n E k, p.1 = o ∧ p.2 = m := by
      intro o ho
      rw [h1] at ho
      obtain ⟨p, hp, rfl⟩ := List.mem_map.1 ho
      obtain ⟨hp1, hp2⟩ := List.mem_filter.1 hp
      exact ⟨p, hp1, rfl, of_decide_eq_true hp2⟩
    have hC : candC n (levB n E k) ≠ [] := by
      obtain ⟨o, ho⟩ := List.exists_mem_of_ne_nil _ h2
      obtain ⟨p, hp, rfl, _⟩ := hmem o ho
      have hlen := (lev_ord n E k p hp).1.len
      obtain ⟨v, hv1, hv2⟩ := exists_free n p.1 (by omega)
      exact List.ne_nil_of_mem (List.mem_flatMap.2 ⟨p.1, ho, List.mem_map.2 ⟨v, mem_freeV.2 ⟨hv1, hv2⟩, rfl⟩⟩)
    rcases hI with ⟨e, _⟩ | ⟨_, k1, k2, k3⟩
    · exact absurd e hC
    have hlen2 : s.2.length = k := by
      obtain ⟨x, hx⟩ := List.exists_mem_of_ne_nil _ k1
      rw [k2] at hx
      obtain ⟨c, hc, _⟩ := List.mem_map.1 hx
      obtain ⟨hc1, hc2⟩ := List.mem_filter.1 hc
      obtain ⟨o, ho, hc1⟩ := List.mem_flatMap.1 hc1
      obtain ⟨v, _, rfl⟩ := List.mem_map.1 hc1
      rw [← of_decide_eq_true hc2, rowC_length]
      obtain ⟨p, hp, rfl, _⟩ := hmem o ho
      exact (lev_ord n E k p hp).1.len
    refine ⟨m ++ s.2, ?_, k1, ?_, by rw [List.length_append, h5, hlen2]; rfl⟩
    · rw [k2]
      show _ = (((levP n E k).flatMap (extP n E)).filter _).map _
      rw [List.filter_flatMap, List.map_flatMap]
      have e1 : ∀ p ∈ levP n E k, ((extP n E p).filter fun q => decide (q.2 = m ++ s.2)).map (·.1) = if decide (p.2 = m) = true then (((freeV n p.1).map fun v => (p.1, v)).filter fun c => decide (rowC E c.1 c.2 = s.2)).map (fun c => c.1 ++ [c.2]) else [] := by
        intro p hp
        have hl := (lev_ord n E k p hp).2
        by_cases h : p.2 = m
        · rw [if_pos (decide_eq_true h)]
          unfold extP
          rw [List.filter_map, List.map_map, List.filter_map, List.map_map]
          congr 1
          refine List.filter_congr fun v _ => ?_
          simp only [Function.comp, stepP, h]
          congr 1
          rw [List.append_cancel_left_eq]
        · rw [if_neg (by simpa using h)]
          have : (extP n E p).filter (fun q => decide (q.2 = m ++ s.2)) = [] := by
            rw [List.filter_eq_nil_iff]
            intro q hq e
            obtain ⟨v, _, rfl⟩ := List.mem_map.1 hq
            have e := of_decide_eq_true e
            exact h (List.append_inj_left e (by rw [hl, h5]))
          rw [this]; rfl
      rw [flatMap_congr' e1, flatMap_filter, candC, h1, List.flatMap_map, List.filter_flatMap, List.map_flatMap]
    · intro q hq
      obtain ⟨p, hp, hq⟩ := List.mem_flatMap.1 hq
      obtain ⟨v, hv, rfl⟩ := List.mem_map.1 hq
      have hl := (lev_ord n E k p hp).2
      intro hlt
      by_cases h : p.2 = m
      · simp only [stepP, h] at hlt
        rw [lexL_app] at hlt
        refine k3 (p.1, v) (List.mem_flatMap.2 ⟨p.1, ?_, List.mem_map.2 ⟨v, hv, rfl⟩⟩) hlt
        rw [h1]
        exact List.mem_map.2 ⟨p, List.mem_filter.2 ⟨hp, decide_eq_true h⟩, rfl⟩
      · have h6 : lexL m p.2 := Classical.byContradiction fun c => h (lexL_tri _ _ (h3 p hp) c)
        exact lexL_asymm (lexL_long s.2 (rowC E p.1 v) (by rw [h5, hl]) h6) hlt

/-- Both searches find the same order. -/
theorem search_same {n : Nat} {E : Nat → Nat → Bool} {r : PrC} (h : (compP n E n ([], [])).foldl better none = some r) : (levB n E n).head? = some r.1 ∧ OrdK n n r := by
  rw [comp_all] at h
  obtain ⟨m, h1, h2, h3, _⟩ := levB_is n E n (Nat.le_refl _)
  have hne : levP n E n ≠ [] := by
    intro e
    rw [e] at h1
    exact h2 (by rw [h1]; rfl)
  obtain ⟨m', r', k1, k2, k3⟩ := best_find (levP n E n) hne
  rw [h] at k2
  cases k2
  have hr := List.mem_of_find?_eq_some k3
  have hr2 : r.2 = m' := by simpa using List.find?_some k3
  have hm : m' = m := by
    obtain ⟨o, ho⟩ := List.exists_mem_of_ne_nil _ h2
    rw [h1] at ho
    obtain ⟨p, hp, _⟩ := List.mem_map.1 ho
    obtain ⟨hp1, hp2⟩ := List.mem_filter.1 hp
    have hp2 := of_decide_eq_true hp2
    exact lexL_tri _ _ (by rw [← hr2]; exact h3 r hr) (by rw [← hp2]; exact k1 p hp1)
  subst hm
  refine ⟨?_, (lev_ord n E n r hr).1⟩
  rw [h1, List.head?_map, List.head?_filter, k3]
  rfl
theorem search_some (n : Nat) (E : Nat → Nat → Bool) : ∃ r, (compP n E n ([], [])).foldl better none = some r := by
  obtain ⟨m, h1, h2, _⟩ := levB_is n E n (Nat.le_refl _)
  have hne : levP n E n ≠ [] := by
    intro e
    rw [e] at h1
    exact h2 (by rw [h1]; rfl)
  obtain ⟨_, r, _, k2, _⟩ := best_find (levP n E n) hne
  exact ⟨r, by rw [comp_all]; exact k2⟩

end Go.Proofs.YtiooindlpinjhaaDoor

/- Walks: the reference's rows of a code, and its test of a small graph. -/
namespace Go.Proofs.YtiooindlpinjhaaDoor
open Go.RowKit

/-- Edges of a graph, as a search of orders looks at them. -/
def edB (g : List (List Int)) : Nat → Nat → Bool := fun u v => decide ((v : Int) ∈ row g u)

set_option maxHeartbeats 400000 in
theorem l1Flag_any (b : Bool) (w : World) : Calls Tryd.prog 164 #[.bool b] w fun e w' => e = .returned (.int .i64 ((if b then 1 else 0 : Nat) : Int)) ∧ w = w' := by
  cases b
  · go_enter Tryd.func164, Tryd.ntmps164
    go_wp2
    go_ret
    exact ⟨rfl, rfl⟩
  · go_enter Tryd.func164, Tryd.ntmps164
    go_wp2
    go_ret
    exact ⟨rfl, rfl⟩

set_option maxRecDepth 100000 in
set_option maxHeartbeats 1000000 in
theorem l4Small_any (v : Value) (g : List (List Int)) (w : World) (hg : Gr w v g) :
    Calls Tryd.prog 82 #[v] w fun e w' => e = .returned (.bool (dec (GOk g ∧ g.length ≤ 8))) ∧ Below w.heap.size w w' := by
  have hg0 := hg
  obtain ⟨u, rfl, hr⟩ := hg
  obtain ⟨p, c, rfl, _, _, _⟩ := hr.shape
  have hbA := Lib.hid (below_alloc w (.cells #[.slice p g.length c] 28))
  have HG := Lib.hid (hg0.below hbA.out)
  have BX := Lib.hid (Box.new w (.slice p g.length c) 28)
  clear hr hg0
  by_cases hok : GOk g
  · have hd := dec_true hok
    have h16 := hok.le
    have Hok := Lib.hid hok
    clear hok
    by_cases h8 : g.length ≤ 8
    · have h8' : (g.length : Int) ≤ 8 := by omega
      have H8 := Lib.hid h8
      clear h8
      go_enter Tryd.func82, Tryd.ntmps82
      go_wp2_with (first
        | (go_at_call 45; refine (specGraphOk_any _ g _ HG.out).mono ?_; rintro e w2 ⟨rfl, hb2⟩; have hb := Lib.hid (hbA.out.trans (hb2.mono hbA.out.size)); have HG2 := Lib.hid (HG.out.below hb2); have hbx := (BX.out.keep hb2).cell; clear hb2)
        | (go_at_call 75; refine (l1Size_any _ g _ HG2.out).mono ?_; rintro e w3 ⟨rfl, hb3⟩))
      go_ret
      exact ⟨ret_bool (true_dec ⟨Hok.out, H8.out⟩), hb.out.trans (hb3.mono hb.out.size)⟩
    · have h8' : ¬ (g.length : Int) ≤ 8 := by omega
      have H8 := Lib.hid h8
      clear h8
      go_enter Tryd.func82, Tryd.ntmps82
      go_wp2_with (first
        | (go_at_call 45; refine (specGraphOk_any _ g _ HG.out).mono ?_; rintro e w2 ⟨rfl, hb2⟩; have hb := Lib.hid (hbA.out.trans (hb2.mono hbA.out.size)); have HG2 := Lib.hid (HG.out.below hb2); have hbx := (BX.out.keep hb2).cell; clear hb2)
        | (go_at_call 75; refine (l1Size_any _ g _ HG2.out).mono ?_; rintro e w3 ⟨rfl, hb3⟩))
      go_ret
      exact ⟨ret_bool ((decide_eq_false (by omega : ¬ (g.length : Int) ≤ 8)).trans (false_dec fun h => H8.out h.2)), hb.out.trans (hb3.mono hb.out.size)⟩
  · have hd := dec_false hok
    have Hok := Lib.hid hok
    clear hok
    go_enter Tryd.func82, Tryd.ntmps82
    go_wp2_with (go_at_call 45; refine (specGraphOk_any _ g _ HG.out).mono ?_; rintro e w2 ⟨rfl, hb2⟩; have hb := Lib.hid (hbA.out.trans (hb2.mono hbA.out.size)); clear hb2)
    go_ret
    exact ⟨ret_bool (false_dec fun h => Hok.out h.1), hb.out⟩

theorem rowC_take {E : Nat → Nat → Bool} {o : List Nat} {v k : Nat} (h : k < o.length) : rowC E (o.take (k + 1)) v = rowC E (o.take k) v ++ [if E o[k] v then 1 else 0] := by
  unfold rowC; rw [take_snoc' o k h, List.map_append]; rfl
theorem natInts_snoc (l : List Nat) (x : Nat) : natInts (l ++ [x]) = natInts l ++ [(x : Int)] := by simp [natInts]

end Go.Proofs.YtiooindlpinjhaaDoor

/- Walk: the reference's search of the least code, place by place. -/
namespace Go.Proofs.YtiooindlpinjhaaDoor
open Go.RowKit

theorem freeV_len (n : Nat) (o : List Nat) : (freeV n o).length ≤ n := Nat.le_trans (List.length_filter_le _ _) (by simp)
theorem candC_len (n : Nat) : ∀ B : List (List Nat), (candC n B).length ≤ B.length * n
  | [] => by simp [candC]
  | o :: B => by
    have h1 := candC_len n B
    have h2 := freeV_len n o
    have e : candC n (o :: B) = (freeV n o).map (fun v => (o, v)) ++ candC n B := by simp [candC]
    rw [e, List.length_append, List.length_map, List.length_cons, Nat.add_mul]
    omega
theorem addI_len {E : Nat → Nat → Bool} {C : List (List Nat × Nat)} {s : List (List Nat) × List Nat} (h : AddI E C s) : s.1.length ≤ C.length := by
  rcases h with ⟨_, rfl⟩ | ⟨_, _, h, _⟩
  · simp
  · rw [h, List.length_map]; exact List.length_filter_le _ _
theorem levB_len {n : Nat} (h8 : n ≤ 8) (E : Nat → Nat → Bool) : ∀ k, (levB n E k).length ≤ 8 ^ k
  | 0 => by simp [levB]
  | k + 1 => by
    have h1 := levB_len h8 E k
    have hI := addI_fold (E := E) (candC n (levB n E k)) [] ([], []) (.inl ⟨rfl, rfl⟩)
    rw [List.nil_append] at hI
    have h2 := addI_len hI
    have h3 := candC_len n (levB n E k)
    have h4 : (levB n E k).length * n ≤ 8 ^ k * 8 := Nat.mul_le_mul h1 h8
    have e : levB n E (k + 1) = ((candC n (levB n E k)).foldl (addC E) ([], [])).1 := rfl
    rw [e, Nat.pow_succ]
    omega
theorem levB_ord {n k : Nat} {E : Nat → Nat → Bool} (hk : k ≤ n) {o : List Nat} (ho : o ∈ levB n E k) : o.length = k ∧ (∀ u ∈ o, u < n) ∧ o.Nodup := by
  obtain ⟨m, h1, _⟩ := levB_is n E k hk
  rw [h1] at ho
  obtain ⟨p, hp, rfl⟩ := List.mem_map.1 ho
  obtain ⟨h, _⟩ := lev_ord n E k p (List.mem_filter.1 hp).1
  exact ⟨h.len, h.lt, h.nod⟩
theorem natInts_inj {a b : List Nat} : natInts a = natInts b ↔ a = b := by
  constructor
  · intro h
    have h2 := congrArg (List.map Int.toNat) h
    have e : ∀ l : List Nat, (natInts l).map Int.toNat = l := fun l => by
      unfold natInts
      rw [List.map_map]
      conv => rhs; rw [← List.map_id l]
      exact List.map_congr_left fun x _ => Int.toNat_natCast x
    rw [e, e] at h2
    exact h2
  · rintro rfl; rfl
theorem lessP_lex {a b : List Nat} (h : a.length = b.length) : lessP a b ↔ lexL a b := by
  unfold lessP
  constructor
  · rintro (k | ⟨_, k⟩)
    · omega
    · exact k
  · exact fun k => .inr ⟨h, k⟩

theorem addI_row {E : Nat → Nat → Bool} {C : List (List Nat × Nat)} {s : List (List Nat) × List Nat} {k : Nat} (h : AddI E C s) (hne : s.1 ≠ []) (hC : ∀ c ∈ C, c.1.length = k) : s.2.length = k := by
  rcases h with ⟨_, rfl⟩ | ⟨_, _, h, _⟩
  · exact absurd rfl hne
  · obtain ⟨y, hy⟩ := List.exists_mem_of_ne_nil _ hne
    rw [h] at hy
    obtain ⟨c, hc, _⟩ := List.mem_map.1 hy
    obtain ⟨h1, h2⟩ := List.mem_filter.1 hc
    rw [← of_decide_eq_true h2, rowC_length]
    exact hC c h1

/-- The candidates up to vertex v at one order. -/
def partV (o : List Nat) (v : Nat) : List (List Nat × Nat) := ((List.range v).filter fun u => decide (u ∉ o)).map fun u => (o, u)
theorem partV_zero (o : List Nat) : partV o 0 = [] := rfl
theorem partV_yes {o : List Nat} {v : Nat} (h : v ∉ o) : partV o (v + 1) = partV o v ++ [(o, v)] := by simp [partV, List.range_succ, h]
theorem partV_no {o : List Nat} {v : Nat} (h : v ∈ o) : partV o (v + 1) = partV o v := by simp [partV, List.range_succ, h]
theorem cand_take {n : Nat} {B : List (List Nat)} {i : Nat} (h : i < B.length) : candC n (B.take (i + 1)) = candC n (B.take i) ++ partV B[i] n := by
  unfold candC
  rw [take_snoc' B i h, List.flatMap_append, List.flatMap_cons, List.flatMap_nil, List.append_nil]
  rfl

/-- One set of rows more. -/
theorem SG.snocB {w w' : World} {base : Nat} {u u' rv : Value} {g : List (List Int)} {s : List Int} {vals : List Value} (hl : vals.length = g.length) (ho : w.ownsRow base 26 1 u g.length vals) (hr : ∀ j, j < g.length → Nums w 2 .i64 (vals.getD j undef) (row g j))
    (ho' : w'.ownsRow base 26 1 u' (g.length + 1) (vals ++ [rv])) (hg : w.grownBy w' u.ownBlock) (hn : Nums w 2 .i64 rv s) : SG w' base (.agg #[u']) (g ++ [s]) := by
  refine ⟨u', vals ++ [rv], rfl, by simp [hl], by rw [List.length_append]; exact ho', fun j hj => ?_⟩
  rw [List.length_append] at hj
  simp only [List.length_cons, List.length_nil] at hj
  by_cases h : j < g.length
  · rw [getD_append_left _ _ _ _ (by omega)]
    have e : row (g ++ [s]) j = row g j := by simp [row, List.getElem?_append_left h]
    rw [e]
    exact (hr j h).other ho hg (by decide)
  · have hj' : j = g.length := by omega
    subst hj'
    have e : row (g ++ [s]) g.length = s := by simp [row]
    rw [e, ← hl, getD_append_last]
    exact hn.other ho hg (by decide)

end Go.Proofs.YtiooindlpinjhaaDoor

/- Walks: slices.Compare at numbers; compareSets. -/
namespace Go.Proofs.YtiooindlpinjhaaDoor
open Go.RowKit

theorem cmpL_neg64 {a b : List Nat} (h : lexL a b) : cmpL a b = -1 := if_pos h
theorem cmpL_pos64 {a b : List Nat} (h : lexL b a) : cmpL a b = 1 := by
  unfold cmpL
  rw [if_neg fun k => lexL_irrefl a (lexL_trans k h), if_pos h]
theorem cmpL_zero64 {a b : List Nat} (h : a = b) : cmpL a b = 0 := by
  subst h
  unfold cmpL
  rw [if_neg (lexL_irrefl a), if_neg (lexL_irrefl a)]
theorem lexL_pre64 : ∀ {a b : List Nat}, a.length < b.length → a = b.take a.length → lexL a b
  | [], [], h, _ => absurd h (by simp)
  | [], _ :: _, _, _ => trivial
  | _ :: _, [], h, _ => absurd h (by simp)
  | x :: a, y :: b, h, k => by
    simp only [List.length_cons, List.take_succ_cons, List.cons.injEq] at k
    simp only [List.length_cons] at h
    exact .inr ⟨k.1, lexL_pre64 (by omega) k.2⟩

end Go.Proofs.YtiooindlpinjhaaDoor

/- The state of the program's search of the least code: what the blocks hold, and what each step makes of them. Plain: the completions of an order, child by child. -/
namespace Go.Proofs.YtiooindlpinjhaaDoor
open Go.RowKit

theorem comp_ord {n : Nat} {E : Nat → Nat → Bool} : ∀ (m k : Nat) (p : PrC), OrdK n k p → p.2.length = codeL k → ∀ r ∈ compP n E m p, OrdK n (k + m) r ∧ r.2.length = codeL (k + m)
  | 0, k, p, h1, h2, r, hr => by
    have : r = p := by simpa [compP] using hr
    subst this
    exact ⟨h1, h2⟩
  | m + 1, k, p, h1, h2, r, hr => by
    obtain ⟨q, hq, hr⟩ := List.mem_flatMap.1 hr
    obtain ⟨v, hv, rfl⟩ := List.mem_map.1 hq
    obtain ⟨h3, h4⟩ := mem_freeV.1 hv
    have := comp_ord m (k + 1) _ (h1.step E h3 h4) (step_code E h1.len h2) r hr
    rwa [show k + 1 + m = k + (m + 1) by omega] at this
/-- A whole order with its code. -/
def BQ (n : Nat) (q : PrC) : Prop := OrdK n n q ∧ q.2.length = codeL n
theorem fold_bq {n : Nat} : ∀ (V : List PrC) (b : Option PrC), (∀ p ∈ V, BQ n p) → (∀ q, b = some q → BQ n q) → ∀ q, V.foldl better b = some q → BQ n q
  | [], _, _, hb, q, h => hb q h
  | p :: V, b, hV, hb, q, h => by
    refine fold_bq V (better b p) (fun r hr => hV r (by simp [hr])) (fun r hr => ?_) q h
    cases b with
    | none => cases hr; exact hV p (by simp)
    | some q0 =>
      unfold better at hr
      by_cases k : lexL p.2 q0.2
      · simp only [if_pos k] at hr; cases hr; exact hV p (by simp)
      · simp only [if_neg k] at hr; cases hr; exact hb _ rfl
theorem codeL_le {k n : Nat} (h : k ≤ n) : codeL k ≤ codeL n := by
  induction n with
  | zero => obtain rfl : k = 0 := by omega
            exact Nat.le_refl _
  | succ n ih =>
    by_cases e : k = n + 1
    · subst e; exact Nat.le_refl _
    · have := ih (by omega)
      show codeL k ≤ codeL n + n
      omega
theorem codeL_8 {k : Nat} (h : k ≤ 8) : codeL k ≤ 28 := codeL_le h
theorem codeL_pos {n : Nat} (h : 2 ≤ n) : 1 ≤ codeL n := codeL_le h

/-- The completions over the children below v. -/
def kidsTo (n : Nat) (E : Nat → Nat → Bool) (m : Nat) (p : PrC) (v : Nat) : List PrC := (((List.range v).filter fun u => decide (u ∉ p.1)).map (stepP E p)).flatMap (compP n E m)
theorem kidsTo_no {n : Nat} {E : Nat → Nat → Bool} {m : Nat} {p : PrC} {v : Nat} (h : v ∈ p.1) : kidsTo n E m p (v + 1) = kidsTo n E m p v := by simp [kidsTo, List.range_succ, h]
theorem kidsTo_yes {n : Nat} {E : Nat → Nat → Bool} {m : Nat} {p : PrC} {v : Nat} (h : v ∉ p.1) : kidsTo n E m p (v + 1) = kidsTo n E m p v ++ compP n E m (stepP E p v) := by simp [kidsTo, List.range_succ, h]
theorem kidsTo_end (n : Nat) (E : Nat → Nat → Bool) (m : Nat) (p : PrC) : kidsTo n E m p n = compP n E (m + 1) p := rfl
theorem kidsTo_bq {n : Nat} {E : Nat → Nat → Bool} {m : Nat} {p : PrC} {v : Nat} (hv : v ≤ n) (h1 : OrdK n p.1.length p) (h2 : p.2.length = codeL p.1.length) (hm : p.1.length + (m + 1) = n) : ∀ r ∈ kidsTo n E m p v, BQ n r := by
  intro r hr
  obtain ⟨q, hq, hr⟩ := List.mem_flatMap.1 hr
  obtain ⟨u, hu, rfl⟩ := List.mem_map.1 hq
  obtain ⟨h3, h4⟩ := List.mem_filter.1 hu
  have h5 := List.mem_range.1 h3
  have := comp_ord (E := E) m (p.1.length + 1) _ (h1.step E (v := u) (by omega) (of_decide_eq_true h4)) (step_code E h1.len h2) r hr
  rw [show p.1.length + 1 + m = n by omega] at this
  exact this

theorem mask_app (o : List Nat) (v : Nat) : mask (natInts (o ++ [v])) = mask (natInts o) ||| 2 ^ v := by rw [natInts_snoc, mask_snoc]; rfl
theorem bit_natMask (o : List Nat) (v : Nat) : (mask (natInts o)).testBit v = decide (v ∈ o) := by
  rw [testBit_mask]
  by_cases h : v ∈ o
  · rw [decide_eq_true h, List.any_eq_true]
    exact ⟨(v : Int), mem_natInts.2 ⟨v, h, rfl⟩, by simp⟩
  · rw [decide_eq_false h, List.any_eq_false]
    intro x hx e
    obtain ⟨y, hy, rfl⟩ := mem_natInts.1 hx
    have : y = v := by simpa using e
    exact h (this ▸ hy)
theorem mask_nat16 {o : List Nat} (h : ∀ u ∈ o, u < 16) : mask (natInts o) < 65536 := by
  refine mask_lt16 _ fun x hx => ?_
  obtain ⟨y, hy, rfl⟩ := mem_natInts.1 hx
  have := h y hy
  omega
theorem mask_back {o : List Nat} {v : Nat} (h : ∀ u ∈ o, u < 16) (hv : v < 16) (hn : v ∉ o) : sub (mask (natInts o) ||| 2 ^ v) (2 ^ v) = mask (natInts o) := by
  have h1 := mask_nat16 h
  have h2 := pow_lt32 v (by omega)
  refine Nat.eq_of_testBit_eq fun j => ?_
  rw [testBit_sub _ _ (or_lt32 _ _ (by omega) h2) h2, Nat.testBit_or, testBit_pow]
  by_cases e : v = j
  · subst e
    rw [bit_natMask]; simp [hn]
  · simp [e]

/-! ### Rows that are owned -/
theorem ownsRow_far {w : World} {base : Nat} {E : TypeId} {size n : Nat} {v : Value} {xs : List Value} (h : w.ownsRow base E size v n xs) {b i : Nat} (hb : b < base) (u : Value) : (w.setCell ⟨b, i, none⟩ u).ownsRow base E size v n xs :=
  ownsRow_setCell_other h (a := ⟨b, i, none⟩) (fun e => by have := (h.lt b e).1; omega) u
theorem ownsRow_to {w w' : World} {base : Nat} {E : TypeId} {size n : Nat} {v : Value} {xs : List Value} (h : w.ownsRow base E size v n xs) (hk : ∀ k, v.ownBlock = some k → w'.heap[k]? = w.heap[k]?) : w'.ownsRow base E size v n xs := by
  refine ⟨h.1, ?_⟩
  rcases h.2 with h2 | ⟨g, cap, cur, rfl, h2, h3, h4⟩
  · exact .inl h2
  · exact .inr ⟨g, cap, cur, rfl, h2, (hk g rfl).trans h3, h4⟩
theorem ownsRow_cut {w : World} {base : Nat} {E : TypeId} {n c k : Nat} {p : Option Addr} {xs : List Value} (h : w.ownsRow base E 1 (.slice p n c) n xs) (hk : k ≤ n) : w.ownsRow base E 1 (.slice p k c) k (xs.take k) := by
  have hl := h.1
  refine ⟨by rw [List.length_take]; omega, ?_⟩
  rcases h.2 with ⟨h2, h0⟩ | ⟨g, cap, cur, hv, h2, h3, h4, h5, h6, h7⟩
  · simp only [Value.slice.injEq] at h2
    exact .inl ⟨by rw [h2.1, h2.2.2, show k = 0 by omega], by omega⟩
  · simp only [Value.slice.injEq] at hv
    obtain ⟨rfl, _, rfl⟩ := hv
    exact .inr ⟨g, c, cur, rfl, h2, h3, by omega, h5, h6, by rw [← h7, List.take_take, Nat.mul_one, Nat.mul_one, Nat.min_eq_left hk]⟩
theorem owns_capL {w : World} {base : Nat} {E : TypeId} {size n : Nat} {v : Value} {xs : List Value} (h : w.ownsRow base E size v n xs) : ∃ p c, v = .slice p n c ∧ n ≤ c := by
  rcases h.2 with ⟨rfl, rfl⟩ | ⟨g, cap, cur, rfl, _, _, h4, _⟩
  · exact ⟨_, _, rfl, Nat.le_refl _⟩
  · exact ⟨_, _, rfl, h4⟩
theorem owns_some {w : World} {base : Nat} {E : TypeId} {size n : Nat} {v : Value} {xs : List Value} (h : w.ownsRow base E size v n xs) (hn : 0 < n) : ∃ g c, v = .slice (some ⟨g, 0, none⟩) n c ∧ n ≤ c := by
  rcases h.2 with ⟨rfl, rfl⟩ | ⟨g, cap, cur, rfl, _, _, h4, _⟩
  · omega
  · exact ⟨_, _, rfl, h4⟩

/-! ### The block of the search -/
section
variable {w w' : World} {xb : Nat} {v0 v1 v2 v3 v4 v5 : Value}
end

/-- How the best order so far lies in memory. -/
def BestW (w : World) (B : Nat) (b : Option PrC) (ov cv bv fv : Value) : Prop :=
  match b with
  | none => bv = .slice none 0 0
  | some q => w.ownsRow B 2 1 bv q.2.length ((natInts q.2).map (Value.int .i64)) ∧ w.ownsRow B 3 1 fv q.1.length ((natInts q.1).map (Value.int .i64)) ∧
      (∀ k, bv.ownBlock = some k → cv.ownBlock ≠ some k) ∧ (∀ k, fv.ownBlock = some k → ov.ownBlock ≠ some k)
theorem BestW.next {w w' : World} {B : Nat} {b : Option PrC} {ov cv bv fv : Value} (h : BestW w B b ov cv bv fv) (hb : Below w.heap.size w w') : BestW w' B b ov cv bv fv := by
  cases b with
  | none => exact h
  | some q => exact ⟨ownsRow_below h.1 hb, ownsRow_below h.2.1 hb, h.2.2⟩

section
variable {w1 w : World} {xb : Nat} {av : Value} {o : List Nat} {us : Nat} {code : List Nat} {b : Option PrC} {ov cv bv fv : Value}
end
end Go.Proofs.YtiooindlpinjhaaDoor
