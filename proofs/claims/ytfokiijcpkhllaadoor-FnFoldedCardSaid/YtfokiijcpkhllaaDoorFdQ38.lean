/- Plain: the least code of all orders, searched from place to place, and searched one order at a time. -/
import Derived.Test.YtfokiijcpkhllaaDoorFdQ37
import Derived.Test.YtfokiijcpkhllaaDoorFdQ14
import Derived.Test.YtfokiijcpkhllaaDoorFdQ3
import Derived.Test.YtfokiijcpkhllaaDoorFdQ2
import Derived.Deep.RegionHeld3
import Derived.Deep.DeepCutAuto
import Derived.Test.YtfokiijcpkhllaaDoorFdQ24
import Derived.Test.YtfokiijcpkhllaaDoorFdQ21
import Derived.Test.YtfokiijcpkhllaaDoorFdQ29
namespace Go.Proofs.YtfokiijcpkhllaaDoor

theorem lexL_long : ∀ {a b : List Nat} (s t : List Nat), a.length = b.length → lexL a b → lexL (a ++ s) (b ++ t)
  | [], [], _, _, _, h => h.elim
  | a :: l, b :: m, s, t, e, h => by
    simp only [List.cons_append, lexL] at h ⊢
    rcases h with h | ⟨h1, h2⟩
    · exact .inl h
    · exact .inr ⟨h1, lexL_long s t (by simpa using e) h2⟩
theorem lexL_asymm {a b : List Nat} (h : lexL a b) : ¬ lexL b a := fun k => lexL_irrefl _ (lexL_trans h k)
theorem lexL_take {q p : List Nat} (t : List Nat) (hl : p.length ≤ q.length) (h : lexL (q.take p.length) p) : lexL q (p ++ t) := by
  have := lexL_long (q.drop p.length) t (by simp; omega) h
  rwa [List.take_append_drop] at this

/-- Orders with their codes. -/
abbrev PrC := List Nat × List Nat
def rowC (E : Nat → Nat → Bool) (o : List Nat) (v : Nat) : List Nat := o.map fun u => if E u v then 1 else 0
theorem rowC_length (E : Nat → Nat → Bool) (o : List Nat) (v : Nat) : (rowC E o v).length = o.length := by simp [rowC]
def freeV (n : Nat) (o : List Nat) : List Nat := (List.range n).filter fun v => decide (v ∉ o)
def stepP (E : Nat → Nat → Bool) (p : PrC) (v : Nat) : PrC := (p.1 ++ [v], p.2 ++ rowC E p.1 v)
def extP (n : Nat) (E : Nat → Nat → Bool) (p : PrC) : List PrC := (freeV n p.1).map (stepP E p)
def levP (n : Nat) (E : Nat → Nat → Bool) : Nat → List PrC
  | 0 => [([], [])]
  | k + 1 => (levP n E k).flatMap (extP n E)
def compP (n : Nat) (E : Nat → Nat → Bool) : Nat → PrC → List PrC
  | 0, p => [p]
  | k + 1, p => (extP n E p).flatMap (compP n E k)
theorem lev_comp (n : Nat) (E : Nat → Nat → Bool) : ∀ (m k : Nat), (levP n E k).flatMap (compP n E m) = levP n E (k + m)
  | 0, k => by
    show (levP n E k).flatMap (fun p => [p]) = _
    simp
  | m + 1, k => by
    have := lev_comp n E m (k + 1)
    rw [show k + (m + 1) = k + 1 + m by omega, ← this]
    show (levP n E k).flatMap (fun p => (extP n E p).flatMap (compP n E m)) = ((levP n E k).flatMap (extP n E)).flatMap (compP n E m)
    rw [List.flatMap_assoc]
theorem comp_all (n : Nat) (E : Nat → Nat → Bool) : compP n E n ([], []) = levP n E n := by
  have := lev_comp n E n 0
  rw [Nat.zero_add] at this
  rw [← this]
  simp [levP]

/-- What an order of so many places is. -/
structure OrdK (n : Nat) (k : Nat) (p : PrC) : Prop where
  len : p.1.length = k
  nod : p.1.Nodup
  lt : ∀ v ∈ p.1, v < n
def codeL : Nat → Nat
  | 0 => 0
  | k + 1 => codeL k + k
theorem mem_freeV {n : Nat} {o : List Nat} {v : Nat} : v ∈ freeV n o ↔ v < n ∧ v ∉ o := by simp [freeV]
theorem OrdK.step {n k : Nat} {p : PrC} (h : OrdK n k p) (E : Nat → Nat → Bool) {v : Nat} (hv : v < n) (hn : v ∉ p.1) : OrdK n (k + 1) (stepP E p v) := by
  refine ⟨by simp [stepP, h.len], ?_, fun u hu => ?_⟩
  · simp only [stepP]
    rw [List.nodup_append]
    exact ⟨h.nod, by simp, fun a ha b hb => by
      have : b = v := by simpa using hb
      subst this
      exact fun e => hn (e ▸ ha)⟩
  · rcases List.mem_append.1 hu with e | e
    · exact h.lt u e
    · have : u = v := by simpa using e
      omega
theorem step_code (E : Nat → Nat → Bool) {p : PrC} {k v : Nat} (h1 : p.1.length = k) (h2 : p.2.length = codeL k) : (stepP E p v).2.length = codeL (k + 1) := by
  simp [stepP, rowC_length, h1, h2, codeL]
theorem lev_ord (n : Nat) (E : Nat → Nat → Bool) : ∀ k, ∀ p ∈ levP n E k, OrdK n k p ∧ p.2.length = codeL k
  | 0, p, hp => by
    have : p = ([], []) := by simpa [levP] using hp
    subst this
    exact ⟨⟨rfl, by simp, by simp⟩, rfl⟩
  | k + 1, p, hp => by
    obtain ⟨q, hq, hp⟩ := List.mem_flatMap.1 hp
    obtain ⟨v, hv, rfl⟩ := List.mem_map.1 hp
    obtain ⟨h1, h2⟩ := lev_ord n E k q hq
    obtain ⟨h3, h4⟩ := mem_freeV.1 hv
    exact ⟨h1.step E h3 h4, step_code E h1.len h2⟩
theorem comp_pre (n : Nat) (E : Nat → Nat → Bool) : ∀ (m : Nat) (p q : PrC), q ∈ compP n E m p → ∃ t, q.2 = p.2 ++ t
  | 0, p, q, h => ⟨[], by have : q = p := by simpa [compP] using h
                          simp [this]⟩
  | m + 1, p, q, h => by
    obtain ⟨r, hr, h⟩ := List.mem_flatMap.1 h
    obtain ⟨v, _, rfl⟩ := List.mem_map.1 hr
    obtain ⟨t, ht⟩ := comp_pre n E m _ q h
    exact ⟨rowC E p.1 v ++ t, by rw [ht]; simp [stepP]⟩

open Classical in
/-- The better one: the later one if its code is less. -/
noncomputable def better (b : Option PrC) (p : PrC) : Option PrC :=
  match b with
  | none => some p
  | some q => if lexL p.2 q.2 then some p else some q
theorem better_keep {q : PrC} : ∀ {V : List PrC}, (∀ p ∈ V, ¬ lexL p.2 q.2) → V.foldl better (some q) = some q
  | [], _ => rfl
  | p :: V, h => by
    rw [List.foldl_cons, show better (some q) p = some q from if_neg (h p (by simp))]
    exact better_keep fun r hr => h r (by simp [hr])
/-- A start that is more than the best one's leads nowhere. -/
theorem comp_cut {n : Nat} {E : Nat → Nat → Bool} {m : Nat} {p q : PrC} (hl : p.2.length ≤ q.2.length) (h : lexL (q.2.take p.2.length) p.2) : (compP n E m p).foldl better (some q) = some q := by
  refine better_keep fun r hr k => ?_
  obtain ⟨t, ht⟩ := comp_pre n E m p r hr
  rw [ht] at k
  exact lexL_asymm (lexL_take t hl h) k

/-- The best of a list: the first one of least code. -/
theorem best_from : ∀ (V : List PrC) (q : PrC), ∃ m r, ¬ lexL q.2 m ∧ (∀ p ∈ V, ¬ lexL p.2 m) ∧ V.foldl better (some q) = some r ∧ (q :: V).find? (fun p => decide (p.2 = m)) = some r
  | [], q => ⟨q.2, q, lexL_irrefl _, by simp, rfl, by simp⟩
  | p :: V, q => by
    by_cases h : lexL p.2 q.2
    · obtain ⟨m, r, h1, h2, h3, h4⟩ := best_from V p
      have hq : ¬ lexL q.2 m := fun k => h1 (lexL_trans h k)
      have hne : q.2 ≠ m := fun e => h1 (e ▸ h)
      refine ⟨m, r, hq, fun x hx => ?_, by rw [List.foldl_cons, show better (some q) p = some p from if_pos h]; exact h3, ?_⟩
      · rcases List.mem_cons.1 hx with e | e
        · rw [e]; exact h1
        · exact h2 x e
      · rw [List.find?_cons_of_neg (by simp [hne])]; exact h4
    · obtain ⟨m, r, h1, h2, h3, h4⟩ := best_from V q
      have hp : ¬ lexL p.2 m := fun k => by
        by_cases e : q.2 = m
        · exact h (e ▸ k)
        · by_cases k2 : lexL m q.2
          · exact h (lexL_trans k k2)
          · exact e (lexL_tri _ _ h1 k2)
      refine ⟨m, r, h1, fun x hx => ?_, by rw [List.foldl_cons, show better (some q) p = some q from if_neg h]; exact h3, ?_⟩
      · rcases List.mem_cons.1 hx with e | e
        · rw [e]; exact hp
        · exact h2 x e
      · by_cases e : q.2 = m
        · rw [List.find?_cons_of_pos (by simp [e])] at h4 ⊢; exact h4
        · have e2 : p.2 ≠ m := fun e2 => by
            by_cases k2 : lexL m q.2
            · exact h (e2 ▸ k2)
            · exact e (lexL_tri _ _ h1 k2)
          rw [List.find?_cons_of_neg (by simp [e])] at h4 ⊢
          rw [List.find?_cons_of_neg (by simp [e2])]; exact h4
theorem best_find : ∀ (V : List PrC), V ≠ [] → ∃ m r, (∀ p ∈ V, ¬ lexL p.2 m) ∧ V.foldl better none = some r ∧ V.find? (fun p => decide (p.2 = m)) = some r
  | [], h => absurd rfl h
  | q :: V, _ => by
    obtain ⟨m, r, h1, h2, h3, h4⟩ := best_from V q
    refine ⟨m, r, fun x hx => ?_, h3, h4⟩
    rcases List.mem_cons.1 hx with e | e
    · rw [e]; exact h1
    · exact h2 x e

open Classical in
/-- The reference's step from k places to k + 1: the candidates in turn. -/
noncomputable def addC (E : Nat → Nat → Bool) (s : List (List Nat) × List Nat) (c : List Nat × Nat) : List (List Nat) × List Nat :=
  let s1 := if s.1 = [] ∨ lexL (rowC E c.1 c.2) s.2 then ([], rowC E c.1 c.2) else s
  if rowC E c.1 c.2 = s1.2 then (s1.1 ++ [c.1 ++ [c.2]], s1.2) else s1
def candC (n : Nat) (B : List (List Nat)) : List (List Nat × Nat) := B.flatMap fun o => (freeV n o).map fun v => (o, v)
noncomputable def nextB (n : Nat) (E : Nat → Nat → Bool) (B : List (List Nat)) : List (List Nat) := ((candC n B).foldl (addC E) ([], [])).1
noncomputable def levB (n : Nat) (E : Nat → Nat → Bool) : Nat → List (List Nat)
  | 0 => [[]]
  | k + 1 => nextB n E (levB n E k)

theorem addC_new {E : Nat → Nat → Bool} {s : List (List Nat) × List Nat} {c : List Nat × Nat} (h : s.1 = [] ∨ lexL (rowC E c.1 c.2) s.2) : addC E s c = ([c.1 ++ [c.2]], rowC E c.1 c.2) := by
  simp [addC, h]
theorem addC_same {E : Nat → Nat → Bool} {s : List (List Nat) × List Nat} {c : List Nat × Nat} (h : ¬ (s.1 = [] ∨ lexL (rowC E c.1 c.2) s.2)) (h2 : rowC E c.1 c.2 = s.2) : addC E s c = (s.1 ++ [c.1 ++ [c.2]], s.2) := by
  unfold addC
  simp only [if_neg h, if_pos h2]
theorem addC_more {E : Nat → Nat → Bool} {s : List (List Nat) × List Nat} {c : List Nat × Nat} (h : ¬ (s.1 = [] ∨ lexL (rowC E c.1 c.2) s.2)) (h2 : ¬ rowC E c.1 c.2 = s.2) : addC E s c = s := by
  unfold addC
  simp only [if_neg h, if_neg h2]

/-- Of the candidates those of least row stay. -/
def AddI (E : Nat → Nat → Bool) (C : List (List Nat × Nat)) (s : List (List Nat) × List Nat) : Prop :=
  (C = [] ∧ s = ([], [])) ∨ (C ≠ [] ∧ s.1 ≠ [] ∧ s.1 = (C.filter fun c => decide (rowC E c.1 c.2 = s.2)).map (fun c => c.1 ++ [c.2]) ∧ ∀ c ∈ C, ¬ lexL (rowC E c.1 c.2) s.2)
theorem AddI.snoc {E : Nat → Nat → Bool} {C : List (List Nat × Nat)} {s : List (List Nat) × List Nat} (h : AddI E C s) (c : List Nat × Nat) : AddI E (C ++ [c]) (addC E s c) := by
  right
  refine ⟨by simp, ?_⟩
  rcases h with ⟨rfl, rfl⟩ | ⟨h1, h2, h3, h4⟩
  · rw [addC_new (.inl rfl)]
    refine ⟨by simp, by simp, fun x hx => ?_⟩
    have : x = c := by simpa using hx
    rw [this]; exact lexL_irrefl _
  · by_cases hl : lexL (rowC E c.1 c.2) s.2
    · rw [addC_new (.inr hl)]
      have hf : C.filter (fun x => decide (rowC E x.1 x.2 = rowC E c.1 c.2)) = [] := by
        rw [List.filter_eq_nil_iff]
        intro x hx e
        exact h4 x hx (by rw [of_decide_eq_true e]; exact hl)
      refine ⟨by simp, ?_, fun x hx => ?_⟩
      · show [c.1 ++ [c.2]] = ((C ++ [c]).filter (fun x => decide (rowC E x.1 x.2 = rowC E c.1 c.2))).map _
        rw [List.filter_append, hf]; simp
      · rcases List.mem_append.1 hx with e | e
        · exact fun k => h4 x e (lexL_trans k hl)
        · have : x = c := by simpa using e
          rw [this]; exact lexL_irrefl _
    · have hno : ¬ (s.1 = [] ∨ lexL (rowC E c.1 c.2) s.2) := fun k => k.elim h2 hl
      by_cases he : rowC E c.1 c.2 = s.2
      · rw [addC_same hno he]
        refine ⟨by simp, ?_, fun x hx => ?_⟩
        · show s.1 ++ [c.1 ++ [c.2]] = ((C ++ [c]).filter (fun x => decide (rowC E x.1 x.2 = s.2))).map _
          rw [List.filter_append, List.map_append, ← h3]; simp [he]
        · rcases List.mem_append.1 hx with e | e
          · exact h4 x e
          · have : x = c := by simpa using e
            rw [this]; exact hl
      · rw [addC_more hno he]
        refine ⟨h2, ?_, fun x hx => ?_⟩
        · rw [List.filter_append, List.map_append, ← h3]; simp [he]
        · rcases List.mem_append.1 hx with e | e
          · exact h4 x e
          · have : x = c := by simpa using e
            rw [this]; exact hl
theorem addI_fold {E : Nat → Nat → Bool} : ∀ (D C : List (List Nat × Nat)) (s : List (List Nat) × List Nat), AddI E C s → AddI E (C ++ D) (D.foldl (addC E) s)
  | [], C, s, h => by simpa using h
  | d :: D, C, s, h => by
    have := addI_fold D (C ++ [d]) _ (h.snoc d)
    rw [List.append_assoc] at this
    exact this

theorem exists_free : ∀ (n : Nat) (o : List Nat), o.length < n → ∃ v, v < n ∧ v ∉ o
  | 0, o, h => by omega
  | n + 1, o, h => by
    by_cases hn : n ∈ o
    · have h2 : (o.filter fun x => decide (x ≠ n)).length < o.length := by
        refine List.length_filter_lt_length_iff_exists.2 ⟨n, hn, by simp⟩
      obtain ⟨v, hv, hv2⟩ := exists_free n (o.filter fun x => decide (x ≠ n)) (by omega)
      exact ⟨v, by omega, fun k => hv2 (List.mem_filter.2 ⟨k, by simp; omega⟩)⟩
    · exact ⟨n, by omega, hn⟩

theorem flatMap_filter {α β : Type} (p : α → Bool) (f : α → List β) : ∀ l : List α, (l.flatMap fun a => if p a = true then f a else []) = (l.filter p).flatMap f
  | [] => rfl
  | a :: l => by
    rw [List.flatMap_cons, flatMap_filter p f l]
    by_cases h : p a = true
    · rw [if_pos h, List.filter_cons_of_pos h, List.flatMap_cons]
    · rw [if_neg h, List.filter_cons_of_neg h]; rfl

theorem flatMap_congr' {α β : Type} {f g : α → List β} : ∀ {l : List α}, (∀ a ∈ l, f a = g a) → l.flatMap f = l.flatMap g
  | [], _ => rfl
  | a :: l, h => by rw [List.flatMap_cons, List.flatMap_cons, h a (by simp), flatMap_congr' fun b hb => h b (by simp [hb])]

/-- What the reference keeps at k places: the orders of least code, in turn. -/
theorem levB_is (n : Nat) (E : Nat → Nat → Bool) : ∀ k, k ≤ n → ∃ m, levB n E k = ((levP n E k).filter fun p => decide (p.2 = m)).map (·.1) ∧ levB n E k ≠ [] ∧ (∀ p ∈ levP n E k, ¬ lexL p.2 m) ∧ m.length = codeL k
  | 0, _ => ⟨[], by simp [levB, levP], by simp [levB], fun p hp => by
      have : p = ([], []) := by simpa [levP] using hp
      rw [this]; exact lexL_irrefl _, rfl⟩
  | k + 1, hk => by
    obtain ⟨m, h1, h2, h3, h5⟩ := levB_is n E k (by omega)
    have hI := addI_fold (E := E) (candC n (levB n E k)) [] ([], []) (.inl ⟨rfl, rfl⟩)
    rw [List.nil_append] at hI
    have hB : levB n E (k + 1) = ((candC n (levB n E k)).foldl (addC E) ([], [])).1 := rfl
    rw [hB]
    generalize hs : (candC n (levB n E k)).foldl (addC E) ([], []) = s at hI ⊢
    have hmem : ∀ o ∈ levB n E k, ∃ p ∈ levP n E k, p.1 = o ∧ p.2 = m := by
      intro o ho
      rw [h1] at ho
      obtain ⟨p, hp, rfl⟩ := List.mem_map.1 ho
      obtain ⟨hp1, hp2⟩ := List.mem_filter.1 hp
      exact ⟨p, hp1, rfl, of_decide_eq_true hp2⟩
    have hC : candC n (levB n E k) ≠ [] := by
      obtain ⟨o, ho⟩ := List.exists_mem_of_ne_nil _ h2
      obtain ⟨p, hp, rfl, _⟩ := hmem o ho
      have hlen := (lev_ord n E k p hp).1.len
      obtain ⟨v, hv1, hv2⟩ := exists_free n p.1 (by omega)
      exact List.ne_nil_of_mem (List.mem_flatMap.2 ⟨p.1, ho, List.mem_map.2 ⟨v, mem_freeV.2 ⟨hv1, hv2⟩, rfl⟩⟩)
    rcases hI with ⟨e, _⟩ | ⟨_, k1, k2, k3⟩
    · exact absurd e hC
    have hlen2 : s.2.length = k := by
      obtain ⟨x, hx⟩ := List.exists_mem_of_ne_nil _ k1
      rw [k2] at hx
      obtain ⟨c, hc, _⟩ := List.mem_map.1 hx
      obtain ⟨hc1, hc2⟩ := List.mem_filter.1 hc
      obtain ⟨o, ho, hc1⟩ := List.mem_flatMap.1 hc1
      obtain ⟨v, _, rfl⟩ := List.mem_map.1 hc1
      rw [← of_decide_eq_true hc2, rowC_length]
      obtain ⟨p, hp, rfl, _⟩ := hmem o ho
      exact (lev_ord n E k p hp).1.len
    refine ⟨m ++ s.2, ?_, k1, ?_, by rw [List.length_append, h5, hlen2]; rfl⟩
    · rw [k2]
      show _ = (((levP n E k).flatMap (extP n E)).filter _).map _
      rw [List.filter_flatMap, List.map_flatMap]
      have e1 : ∀ p ∈ levP n E k, ((extP n E p).filter fun q => decide (q.2 = m ++ s.2)).map (·.1) = if decide (p.2 = m) = true then (((freeV n p.1).map fun v => (p.1, v)).filter fun c => decide (rowC E c.1 c.2 = s.2)).map (fun c => c.1 ++ [c.2]) else [] := by
        intro p hp
        have hl := (lev_ord n E k p hp).2
        by_cases h : p.2 = m
        · rw [if_pos (decide_eq_true h)]
          unfold extP
          rw [List.filter_map, List.map_map, List.filter_map, List.map_map]
          congr 1
          refine List.filter_congr fun v _ => ?_
          simp only [Function.comp, stepP, h]
          congr 1
          rw [List.append_cancel_left_eq]
        · rw [if_neg (by simpa using h)]
          have : (extP n E p).filter (fun q => decide (q.2 = m ++ s.2)) = [] := by
            rw [List.filter_eq_nil_iff]
            intro q hq e
            obtain ⟨v, _, rfl⟩ := List.mem_map.1 hq
            have e := of_decide_eq_true e
            exact h (List.append_inj_left e (by rw [hl, h5]))
          rw [this]; rfl
      rw [flatMap_congr' e1, flatMap_filter, candC, h1, List.flatMap_map, List.filter_flatMap, List.map_flatMap]
    · intro q hq
      obtain ⟨p, hp, hq⟩ := List.mem_flatMap.1 hq
      obtain ⟨v, hv, rfl⟩ := List.mem_map.1 hq
      have hl := (lev_ord n E k p hp).2
      intro hlt
      by_cases h : p.2 = m
      · simp only [stepP, h] at hlt
        rw [lexL_app] at hlt
        refine k3 (p.1, v) (List.mem_flatMap.2 ⟨p.1, ?_, List.mem_map.2 ⟨v, hv, rfl⟩⟩) hlt
        rw [h1]
        exact List.mem_map.2 ⟨p, List.mem_filter.2 ⟨hp, decide_eq_true h⟩, rfl⟩
      · have h6 : lexL m p.2 := Classical.byContradiction fun c => h (lexL_tri _ _ (h3 p hp) c)
        exact lexL_asymm (lexL_long s.2 (rowC E p.1 v) (by rw [h5, hl]) h6) hlt

/-- Both searches find the same order. -/
theorem search_same {n : Nat} {E : Nat → Nat → Bool} {r : PrC} (h : (compP n E n ([], [])).foldl better none = some r) : (levB n E n).head? = some r.1 ∧ OrdK n n r := by
  rw [comp_all] at h
  obtain ⟨m, h1, h2, h3, _⟩ := levB_is n E n (Nat.le_refl _)
  have hne : levP n E n ≠ [] := by
    intro e
    rw [e] at h1
    exact h2 (by rw [h1]; rfl)
  obtain ⟨m', r', k1, k2, k3⟩ := best_find (levP n E n) hne
  rw [h] at k2
  cases k2
  have hr := List.mem_of_find?_eq_some k3
  have hr2 : r.2 = m' := by simpa using List.find?_some k3
  have hm : m' = m := by
    obtain ⟨o, ho⟩ := List.exists_mem_of_ne_nil _ h2
    rw [h1] at ho
    obtain ⟨p, hp, _⟩ := List.mem_map.1 ho
    obtain ⟨hp1, hp2⟩ := List.mem_filter.1 hp
    have hp2 := of_decide_eq_true hp2
    exact lexL_tri _ _ (by rw [← hr2]; exact h3 r hr) (by rw [← hp2]; exact k1 p hp1)
  subst hm
  refine ⟨?_, (lev_ord n E n r hr).1⟩
  rw [h1, List.head?_map, List.head?_filter, k3]
  rfl
theorem search_some (n : Nat) (E : Nat → Nat → Bool) : ∃ r, (compP n E n ([], [])).foldl better none = some r := by
  obtain ⟨m, h1, h2, _⟩ := levB_is n E n (Nat.le_refl _)
  have hne : levP n E n ≠ [] := by
    intro e
    rw [e] at h1
    exact h2 (by rw [h1]; rfl)
  obtain ⟨_, r, _, k2, _⟩ := best_find (levP n E n) hne
  exact ⟨r, by rw [comp_all]; exact k2⟩

end Go.Proofs.YtfokiijcpkhllaaDoor

/- Walks: l1Less, l12Bit, l12Set. -/
namespace Go.Proofs.YtfokiijcpkhllaaDoor
open Go.RowKit

theorem natInts_atL {l : List Nat} {k : Nat} (h : k < l.length) {h' : k < (natInts l).length} : (natInts l)[k] = ((l[k] : Nat) : Int) := by simp [natInts]
theorem lexL_at : ∀ (i : Nat) (a b : List Nat) (ha : i < a.length) (hb : i < b.length), a.take i = b.take i → a[i] ≠ b[i] → (lexL a b ↔ a[i] < b[i])
  | _, [], _, ha, _, _, _ => by simp at ha
  | _, _ :: _, [], _, hb, _, _ => by simp at hb
  | 0, x :: a, y :: b, _, _, _, hne => by
    simp only [List.getElem_cons_zero] at hne ⊢
    simp only [lexL]
    exact ⟨fun h => h.elim id fun h => absurd h.1 hne, .inl⟩
  | i + 1, x :: a, y :: b, ha, hb, ht, hne => by
    simp only [List.take_succ_cons, List.cons.injEq] at ht
    obtain ⟨rfl, ht⟩ := ht
    simp only [List.getElem_cons_succ] at hne ⊢
    simp only [lexL]
    rw [← lexL_at i a b (by simpa using ha) (by simpa using hb) ht hne]
    exact ⟨fun h => h.elim (fun h => absurd h (Nat.lt_irrefl _)) fun h => h.2, fun h => .inr ⟨trivial, h⟩⟩


theorem i64_and_nat (a b : Nat) (ha : a < 4294967296) (hb : b < 4294967296) : bits BinOp.and IntKind.i64 (a : Int) (b : Int) = ((a &&& b : Nat) : Int) :=
  (bits_nat .i64 32 (by decide) (fun n h1 h2 => by rw [IntKind.wrap_i64]; omega) a b (by omega) (by omega)).1

theorem wrap_pow (v : Nat) (hv : v < 32) : wrap64 (2 ^ v) = ((2 ^ v : Nat) : Int) := by
  have h1 := pow_lt32 v hv
  have e : (2 ^ v : Int) = ((2 ^ v : Nat) : Int) := by simp
  rw [e]
  generalize (2 ^ v : Nat) = t at *
  unfold wrap64
  omega
set_option maxHeartbeats 400000 in
theorem l12Bit_any (z : Int) (v : Nat) (hz : z = v) (hv : v < 32) (w : World) :
    Calls Tryd.prog 51 #[.int .i64 z] w fun e w' => e = .returned (.int .i64 ((2 ^ v : Nat) : Int)) ∧ w = w' := by
  subst hz
  have HB : Hid (wrap64 (2 ^ v) = ((2 ^ v : Nat) : Int)) := Lib.hid (wrap_pow v hv)
  go_enter Tryd.func51, Tryd.ntmps51
  go_wp2
  go_ret
  refine ⟨?_, rfl⟩
  rw [← HB.out]
  rfl

theorem bit_ne (s k : Nat) (hs : s < 65536) (hk : k < 17) : (bits BinOp.and IntKind.i64 (s : Int) ((2 ^ k : Nat) : Int) != 0) = s.testBit k := by
  have h1 := pow_lt32 k (by omega)
  rw [i64_and_nat _ _ (by omega) h1, Bool.eq_iff_iff]
  constructor
  · intro h
    refine Decidable.byContradiction fun hn => ?_
    have h0 : s &&& 2 ^ k = 0 := Nat.eq_of_testBit_eq fun j => by
      rw [Nat.testBit_and, Nat.testBit_two_pow, Nat.zero_testBit]
      by_cases hj : k = j
      · subst hj
        simpa using hn
      · simp [hj]
    rw [h0] at h
    simp at h
  · intro h
    have h0 : s &&& 2 ^ k ≠ 0 := fun h0 => by
      have := congrArg (fun z => z.testBit k) h0
      simp [h] at this
    simp only [bne_iff_ne, ne_eq]
    omega



def lowB (s k : Nat) : List Nat := (List.range k).filter fun i => s.testBit i
theorem lowB_len (s k : Nat) : (lowB s k).length ≤ k := Nat.le_trans (List.length_filter_le _ _) (by simp)
theorem lowB_yes {s k : Nat} (h : s.testBit k = true) : lowB s (k + 1) = lowB s k ++ [k] := by simp [lowB, List.range_succ, h]
theorem lowB_no {s k : Nat} (h : s.testBit k = false) : lowB s (k + 1) = lowB s k := by simp [lowB, List.range_succ, h]
theorem lowB_end {s k : Nat} (hs : s < 2 ^ k) (hk : k ≤ 32) : lowB s k = bitsOf s :=
  rising_ext _ _ (List.Pairwise.filter _ List.pairwise_lt_range) (bitsOf_rising s) fun x => by
    rw [mem_bitsOf, lowB, List.mem_filter, List.mem_range]
    constructor
    · rintro ⟨a, b⟩
      exact ⟨by omega, b⟩
    · rintro ⟨a, b⟩
      refine ⟨Nat.lt_of_not_le fun hge => ?_, b⟩
      have := Nat.testBit_lt_two_pow (Nat.lt_of_lt_of_le hs (Nat.pow_le_pow_right (by decide) hge) : s < 2 ^ x)
      rw [this] at b
      exact nomatch b

set_option maxRecDepth 100000 in
set_option maxHeartbeats 1000000 in
theorem l12Set_any (z : Int) (s : Nat) (hz : z = s) (hs : s < 65536) (w : World) :
    Calls Tryd.prog 52 #[.int .i64 z] w fun e w' => ∃ ov, e = .returned ov ∧ w'.ownsRow w.heap.size 2 1 ov (bitsOf s).length ((natInts (bitsOf s)).map (Value.int .i64)) ∧ Below w.heap.size w w' := by
  subst hz
  have HO := Lib.hid (ownsRow_empty w 2 1)
  have HB := Lib.hid (below_alloc w (.cells #[] 2))
  have HS := Lib.hid hs
  clear hs
  go_enter Tryd.func52, Tryd.ntmps52
  go_wp2
  go_loopw [3, 4] (fun o i wr => ∃ k : Nat, k ≤ 16 ∧ i = .int .i64 k ∧ wr.ownsRow w.heap.size 2 1 o (lowB s k).length ((natInts (lowB s k)).map (Value.int .i64)) ∧ Below w.heap.size w wr) (fun _ i _ => 16 - (intOf i).toNat)
  case atStart => exact ⟨0, Nat.zero_le _, rfl, HO.out, HB.out⟩
  case round =>
    obtain ⟨k, hk, rfl, hown, hbel⟩ := hrel
    have hsz := hbel.size
    have hll := lowB_len s k
    obtain ⟨t, ht⟩ : ∃ t, t = 2 ^ k := ⟨_, rfl⟩
    have HT := Lib.hid ht
    by_cases hle : t ≤ s
    · have hk16 : k < 16 := by
        refine Nat.lt_of_not_le fun h => ?_
        have h1 : 2 ^ 16 ≤ 2 ^ k := Nat.pow_le_pow_right (by decide) h
        have := HS.out
        omega
      have hbit := bit_ne s k HS.out (by omega)
      rw [← ht] at hbit
      clear ht
      have e1 : (t : Int) ≤ (s : Int) := by omega
      cases hb : s.testBit k
      · rw [hb] at hbit
        have Hb := Lib.hid hb
        clear hb
        go_wp2_with (go_at_call 51; refine (l12Bit_any _ k rfl (by omega) _).mono ?_; rintro e w4 ⟨he, hw4⟩; rw [← HT.out] at he; subst he; subst hw4)
        go_roundw
        case rel => exact ⟨k + 1, by omega, by go_num, by rw [lowB_no Hb.out]; exact hown, hbel⟩
        case measure => simp [intOf]; omega
      · rw [hb] at hbit
        have Hb := Lib.hid hb
        clear hb
        go_wp2_with (first
          | (go_at_call 51; refine (l12Bit_any _ k rfl (by omega) _).mono ?_; rintro e w4 ⟨he, hw4⟩; rw [← HT.out] at he; subst he; subst hw4)
          | (at_builtin; refine wpList_app1 ty_i64 rfl rfl rfl hown rfl rfl (by omega) (by omega) ?_; intro v' w1 hown' hg _))
        go_roundw
        case rel => exact ⟨k + 1, by omega, by go_num, by rw [lowB_yes Hb.out, show natInts (lowB s k ++ [k]) = natInts (lowB s k) ++ [(k : Int)] by simp [natInts], List.map_append, List.length_append]; exact hown', below_grown hbel hown hg (Nat.le_refl _) hsz⟩
        case measure => simp [intOf]; omega
    · have hend := Lib.hid (lowB_end (s := s) (k := k) (by omega) (by omega))
      clear ht
      go_wp2_with (go_at_call 51; refine (l12Bit_any _ k rfl (by omega) _).mono ?_; rintro e w4 ⟨he, hw4⟩; rw [← HT.out] at he; subst he; subst hw4)
      go_ret
      exact ⟨_, rfl, by rw [← hend.out]; exact hown, hbel⟩

end Go.Proofs.YtfokiijcpkhllaaDoor

/- Walks: the reference's rows of a code, and its test of a small graph. -/
namespace Go.Proofs.YtfokiijcpkhllaaDoor
open Go.RowKit

/-- Edges of a graph, as a search of orders looks at them. -/
def edB (g : List (List Int)) : Nat → Nat → Bool := fun u v => decide ((v : Int) ∈ row g u)

set_option maxHeartbeats 400000 in
theorem l1Flag_any (b : Bool) (w : World) : Calls Tryd.prog 153 #[.bool b] w fun e w' => e = .returned (.int .i64 ((if b then 1 else 0 : Nat) : Int)) ∧ w = w' := by
  cases b
  · go_enter Tryd.func153, Tryd.ntmps153
    go_wp2
    go_ret
    exact ⟨rfl, rfl⟩
  · go_enter Tryd.func153, Tryd.ntmps153
    go_wp2
    go_ret
    exact ⟨rfl, rfl⟩

theorem rowC_take {E : Nat → Nat → Bool} {o : List Nat} {v k : Nat} (h : k < o.length) : rowC E (o.take (k + 1)) v = rowC E (o.take k) v ++ [if E o[k] v then 1 else 0] := by
  unfold rowC; rw [take_snoc' o k h, List.map_append]; rfl
theorem natInts_snoc (l : List Nat) (x : Nat) : natInts (l ++ [x]) = natInts l ++ [(x : Int)] := by simp [natInts]

end Go.Proofs.YtfokiijcpkhllaaDoor
