/- Plain: the least word of a model of a pattern in a host. -/
import Derived.Test.YtmakhapdlkbbnaaDoorMiQ13
import Derived.Test.YtmakhapdlkbbnaaDoorMiQ14
import Derived.Test.YtmakhapdlkbbnaaDoorMiQ15
namespace Go.Proofs.YtmakhapdlkbbnaaDoor

/-- The vertices that a word gives to a set. -/
def setW (w : List Nat) (k : Nat) : List Nat := (List.range w.length).filter fun v => w.getD v 0 == k + 1
theorem mem_setW {w : List Nat} {k v : Nat} : v ∈ setW w k ↔ v < w.length ∧ w.getD v 0 = k + 1 := by
  simp [setW]
theorem setW_snoc (w : List Nat) (c k : Nat) : setW (w ++ [c]) k = if c = k + 1 then setW w k ++ [w.length] else setW w k := by
  unfold setW
  rw [List.length_append, List.length_singleton, List.range_succ, List.filter_append]
  have h1 : (List.range w.length).filter (fun v => (w ++ [c]).getD v 0 == k + 1) = (List.range w.length).filter (fun v => w.getD v 0 == k + 1) := List.filter_congr fun v hv => by
    have := List.mem_range.1 hv
    rw [List.getD_eq_getElem?_getD, List.getD_eq_getElem?_getD, List.getElem?_append_left this]
  have h2 : (w ++ [c]).getD w.length 0 = c := by simp
  rw [h1]
  by_cases e : c = k + 1
  · rw [if_pos e, List.filter_cons, h2, e]; simp
  · rw [if_neg e, List.filter_cons, h2]; simp [e]
theorem setW_rising (w : List Nat) (k : Nat) : (setW w k).Pairwise (· < ·) := List.Pairwise.filter _ List.pairwise_lt_range
theorem setW_disj {w : List Nat} {i k v : Nat} (h1 : v ∈ setW w i) (h2 : v ∈ setW w k) : i = k := by
  have := (mem_setW.1 h1).2
  have := (mem_setW.1 h2).2
  omega
/-- How many of so many sets a word has nothing for. -/
def lackW (m : Nat) (w : List Nat) : Nat := (List.range m).countP fun k => decide (k + 1 ∉ w)
theorem lackW_le (m : Nat) (w : List Nat) : lackW m w ≤ m := by
  have := List.countP_le_length (p := fun k => decide (k + 1 ∉ w)) (l := List.range m)
  rwa [List.length_range] at this
theorem lackW_nil (m : Nat) : lackW m [] = m := by
  unfold lackW
  rw [List.countP_eq_length_filter, List.filter_eq_self.2 (by simp), List.length_range]
theorem lackW_old {m c : Nat} {w : List Nat} (h : c = 0 ∨ c ∈ w) : lackW m (w ++ [c]) = lackW m w := by
  unfold lackW
  refine List.countP_congr fun k _ => ?_
  simp only [List.mem_append, List.mem_singleton, decide_eq_true_eq, not_or]
  constructor
  · exact fun h => h.1
  · refine fun h1 => ⟨h1, fun e => ?_⟩
    rcases h with h | h
    · omega
    · exact h1 (e ▸ h)
theorem lackW_new {m i : Nat} {w : List Nat} (hi : i < m) (h : i + 1 ∉ w) : lackW m (w ++ [i + 1]) + 1 = lackW m w := by
  unfold lackW
  have key : ∀ l : List Nat, l.Nodup → i ∈ l → l.countP (fun k => decide (k + 1 ∉ w ++ [i + 1])) + 1 = l.countP (fun k => decide (k + 1 ∉ w)) := by
    intro l
    induction l with
    | nil => intro _ hm; simp at hm
    | cons a l ih =>
      intro hn hm
      have hn' := List.nodup_cons.1 hn
      rw [List.countP_cons, List.countP_cons]
      by_cases e : a = i
      · subst e
        have : l.countP (fun k => decide (k + 1 ∉ w ++ [a + 1])) = l.countP (fun k => decide (k + 1 ∉ w)) := List.countP_congr fun k hk => by
          simp only [List.mem_append, List.mem_singleton, decide_eq_true_eq, not_or]
          refine ⟨fun h => h.1, fun h1 => ⟨h1, fun e => hn'.1 ?_⟩⟩
          obtain rfl : k = a := by omega
          exact hk
        rw [this]
        simp [h]
      · have := ih hn'.2 (by
          rcases List.mem_cons.1 hm with h1 | h1
          · exact absurd h1.symm e
          · exact h1)
        have h2 : decide (a + 1 ∉ w ++ [i + 1]) = decide (a + 1 ∉ w) := by
          rw [decide_eq_decide]
          simp only [List.mem_append, List.mem_singleton, not_or]
          exact ⟨fun h => h.1, fun h1 => ⟨h1, fun e2 => e (by omega)⟩⟩
        rw [h2]
        omega
  exact key _ List.nodup_range (List.mem_range.2 hi)

/-- The word is that of a model. -/
def FitW (m : Nat) (E F : Nat → Nat → Bool) (w : List Nat) : Prop :=
  (∀ k, k < m → ConnL E (setW w k)) ∧ ∀ i, i < m → ∀ k, k < m → F i k = true → ∃ x ∈ setW w i, ∃ y ∈ setW w k, E x y = true
/-- The search: so many letters are left; the first of the next letters with which it ends well. -/
noncomputable def findN (m : Nat) (Fit : List Nat → Prop) : Nat → List Nat → Option (List Nat)
  | 0, w => if 0 < lackW m w then none else if dec (Fit w) = true then some w else none
  | r + 1, w => if r + 1 < lackW m w then none else (List.range (m + 1)).findSome? fun k => findN m Fit r (w ++ [k])
theorem findN_lack {m : Nat} {Fit : List Nat → Prop} {r : Nat} {w : List Nat} (h : r < lackW m w) : findN m Fit r w = none := by
  cases r <;> simp [findN, h]
theorem findN_leaf {m : Nat} {Fit : List Nat → Prop} {w : List Nat} (h : ¬ 0 < lackW m w) : findN m Fit 0 w = if dec (Fit w) = true then some w else none := by
  simp [findN, h]
theorem findN_node {m : Nat} {Fit : List Nat → Prop} {r : Nat} {w : List Nat} (h : ¬ r + 1 < lackW m w) : findN m Fit (r + 1) w = (List.range (m + 1)).findSome? fun k => findN m Fit r (w ++ [k]) := by
  simp [findN, h]
theorem fsome_skip {α : Type} {f : Nat → Option α} {k : Nat} (h : (List.range k).findSome? f = none) (h2 : f k = none) : (List.range (k + 1)).findSome? f = none := by
  rw [List.range_succ, List.findSome?_append, h]
  simp [h2]
theorem fsome_stop {α : Type} {f : Nat → Option α} {k m : Nat} {x : α} (h : (List.range k).findSome? f = none) (hk : k < m) (h2 : f k = some x) : (List.range m).findSome? f = some x := by
  obtain ⟨d, rfl⟩ : ∃ d, m = (k + 1) + d := ⟨m - (k + 1), by omega⟩
  rw [List.range_add, List.findSome?_append, List.range_succ, List.findSome?_append, h]
  simp [h2]
/-- What is found: the word goes on so, and it fits. -/
theorem findN_some {m : Nat} {Fit : List Nat → Prop} : ∀ (r : Nat) (w x : List Nat), findN m Fit r w = some x → Fit x ∧ ∃ u, x = w ++ u ∧ u.length = r ∧ ∀ c ∈ u, c ≤ m
  | 0, w, x, h => by
    by_cases h0 : 0 < lackW m w
    · rw [findN_lack h0] at h; cases h
    · rw [findN_leaf h0] at h
      by_cases hf : dec (Fit w) = true
      · rw [if_pos hf] at h
        cases h
        exact ⟨dec_iff.1 hf, [], by simp, rfl, by simp⟩
      · rw [if_neg hf] at h; cases h
  | r + 1, w, x, h => by
    by_cases h0 : r + 1 < lackW m w
    · rw [findN_lack h0] at h; cases h
    · rw [findN_node h0] at h
      obtain ⟨k, hk, hx⟩ := List.exists_of_findSome?_eq_some h
      obtain ⟨h1, u, rfl, h2, h3⟩ := findN_some r _ _ hx
      refine ⟨h1, k :: u, by simp, by simp [h2], fun c hc => ?_⟩
      rcases List.mem_cons.1 hc with rfl | hc
      · have := List.mem_range.1 hk; omega
      · exact h3 c hc
/-- What is not found: no way to go on fits. -/
theorem findN_none {m : Nat} {Fit : List Nat → Prop} (hF : ∀ w, Fit w → ∀ k, k < m → k + 1 ∈ w) : ∀ (r : Nat) (w : List Nat), findN m Fit r w = none → ∀ u, u.length = r → (∀ c ∈ u, c ≤ m) → ¬ Fit (w ++ u)
  | 0, w, h, u, hu, _ => by
    obtain rfl := List.eq_nil_of_length_eq_zero hu
    rw [List.append_nil]
    intro hf
    have h0 : ¬ 0 < lackW m w := by
      have : lackW m w = 0 := by
        unfold lackW
        rw [List.countP_eq_zero]
        intro k hk
        simp [hF w hf k (List.mem_range.1 hk)]
      omega
    rw [findN_leaf h0, if_pos (dec_true hf)] at h
    cases h
  | r + 1, w, h, u, hu, hc => by
    intro hf
    have h0 : ¬ r + 1 < lackW m w := by
      have h1 : lackW m w ≤ u.length := by
        unfold lackW
        rw [List.countP_eq_length_filter]
        have := sub_len (((List.range m).filter fun k => decide (k + 1 ∉ w)).map (· + 1)) u (by
          rw [List.Nodup, List.pairwise_map]
          exact (List.Pairwise.filter _ (List.nodup_range (n := m))).imp fun {a b} h e => h (by omega)) fun x hx => by
          obtain ⟨k, hk, rfl⟩ := List.mem_map.1 hx
          rw [List.mem_filter, List.mem_range, decide_eq_true_eq] at hk
          rcases List.mem_append.1 (hF _ hf k hk.1) with h1 | h1
          · exact absurd h1 hk.2
          · exact h1
        rwa [List.length_map] at this
      omega
    rw [findN_node h0] at h
    cases u with
    | nil => simp at hu
    | cons c u =>
      have hk : findN m Fit r (w ++ [c]) = none := List.findSome?_eq_none_iff.1 h c (List.mem_range.2 (by have := hc c (List.mem_cons_self ..); omega))
      have := findN_none hF r (w ++ [c]) hk u (by simpa using hu) fun x hx => hc x (List.mem_cons_of_mem _ hx)
      rw [List.append_assoc] at this
      exact this hf
theorem fitW_has {m : Nat} {E F : Nat → Nat → Bool} {w : List Nat} (h : FitW m E F w) : ∀ k, k < m → k + 1 ∈ w := fun k hk => by
  obtain ⟨v, hv⟩ := List.exists_mem_of_ne_nil _ (h.1 k hk).1
  obtain ⟨h1, h2⟩ := mem_setW.1 hv
  rw [List.getD_eq_getElem?_getD, List.getElem?_eq_getElem h1] at h2
  rw [← h2]
  exact List.getElem_mem h1

/-- All neighbours, as pairs. -/
def prsN (n : Nat) (E : Nat → Nat → Bool) : List (Nat × Nat) := (List.range n).flatMap fun v => ((List.range n).filter (E v)).map fun u => (v, u)
theorem prsN_length (n : Nat) (E : Nat → Nat → Bool) : (prsN n E).length = totN n E := by
  unfold prsN totN
  rw [List.length_flatMap]
  congr 1
  refine List.map_congr_left fun v _ => ?_
  rw [List.length_map, ← List.countP_eq_length_filter]
  rfl
theorem mem_prsN {n : Nat} {E : Nat → Nat → Bool} {a b : Nat} : (a, b) ∈ prsN n E ↔ a < n ∧ b < n ∧ E a b = true := by
  unfold prsN
  simp only [List.mem_flatMap, List.mem_range, List.mem_map, List.mem_filter, Prod.mk.injEq]
  constructor
  · rintro ⟨v, hv, u, hu, rfl, rfl⟩
    exact ⟨hv, hu.1, hu.2⟩
  · rintro ⟨h1, h2, h3⟩
    exact ⟨a, h1, b, ⟨h2, h3⟩, rfl, rfl⟩
theorem nodup_prsN (n : Nat) (E : Nat → Nat → Bool) : (prsN n E).Nodup := by
  unfold prsN
  rw [List.Nodup, List.pairwise_flatMap]
  refine ⟨fun v _ => ?_, ?_⟩
  · rw [List.pairwise_map]
    exact (List.Pairwise.filter _ (List.nodup_range (n := n))).imp fun {a b} h e => h (by simpa using e)
  · refine (List.nodup_range (n := n)).imp fun {a b} h x hx y hy e => ?_
    obtain ⟨u, _, rfl⟩ := List.mem_map.1 hx
    obtain ⟨u2, _, rfl⟩ := List.mem_map.1 hy
    simp only [Prod.mk.injEq] at e
    exact h e.1
/-- A pattern with a model has no more edges. -/
theorem fitW_ends {n m : Nat} {E F : Nat → Nat → Bool} {w : List Nat} (hn : w.length = n) (h : FitW m E F w) : totN m F ≤ totN n E := by
  have hch : ∀ e : Nat × Nat, ∃ d : Nat × Nat, e ∈ prsN m F → d.1 ∈ setW w e.1 ∧ d.2 ∈ setW w e.2 ∧ E d.1 d.2 = true := fun e => by
    by_cases he : e ∈ prsN m F
    · obtain ⟨h1, h2, h3⟩ := mem_prsN.1 (show (e.1, e.2) ∈ prsN m F from he)
      obtain ⟨x, hx, y, hy, hE⟩ := h.2 e.1 h1 e.2 h2 h3
      exact ⟨(x, y), fun _ => ⟨hx, hy, hE⟩⟩
    · exact ⟨(0, 0), fun h => absurd h he⟩
  obtain ⟨f, hf⟩ : ∃ f : Nat × Nat → Nat × Nat, ∀ e, e ∈ prsN m F → (f e).1 ∈ setW w e.1 ∧ (f e).2 ∈ setW w e.2 ∧ E (f e).1 (f e).2 = true := ⟨fun e => Classical.choose (hch e), fun e => Classical.choose_spec (hch e)⟩
  have hnd : ((prsN m F).map f).Nodup := by
    rw [List.Nodup, List.pairwise_map]
    refine (nodup_prsN m F).imp_of_mem fun {a b} ha hb hab e => hab ?_
    have h1 := hf a ha
    have h2 := hf b hb
    rw [e] at h1
    exact Prod.ext (setW_disj h1.1 h2.1) (setW_disj h1.2.1 h2.2.1)
  have := sub_len _ (prsN n E) hnd fun x hx => by
    obtain ⟨e, he, rfl⟩ := List.mem_map.1 hx
    have h1 := hf e he
    have h2 := mem_setW.1 h1.1
    have h3 := mem_setW.1 h1.2.1
    exact mem_prsN.2 ⟨by omega, by omega, h1.2.2⟩
  rw [List.length_map, prsN_length, prsN_length] at this
  exact this

/-- The sets of a word. -/
def setsW (m : Nat) (w : List Nat) : List (List Int) := (List.range m).map fun k => natInts (setW w k)
theorem setsW_length (m : Nat) (w : List Nat) : (setsW m w).length = m := by simp [setsW]
theorem row_setsW {m k : Nat} {w : List Nat} (h : k < m) : row (setsW m w) k = natInts (setW w k) := by simp [row, setsW, h]
/-- What MinorIn returns. -/
def MiS (g p gg : List (List Int)) (ok : Bool) : Prop :=
  ((GOk g ∧ GOk p ∧ g.length ≤ 8 ∧ p.length ≤ 5) ∧ ∃ w, findN p.length (FitW p.length (ofG g) (ofG p)) g.length [] = some w ∧ gg = setsW p.length w ∧ ok = true) ∨
  (¬ ((GOk g ∧ GOk p ∧ g.length ≤ 8 ∧ p.length ≤ 5) ∧ ∃ w, findN p.length (FitW p.length (ofG g) (ofG p)) g.length [] = some w) ∧ gg = [] ∧ ok = false)
theorem miS_det {g p gg hh : List (List Int)} {ok ok' : Bool} (h : MiS g p gg ok) (k : MiS g p hh ok') : gg = hh ∧ ok = ok' := by
  rcases h with ⟨h1, w, h2, h3, h4⟩ | ⟨h1, h2, h3⟩ <;> rcases k with ⟨k1, u, k2, k3, k4⟩ | ⟨k1, k2, k3⟩
  · rw [h2] at k2
    cases k2
    exact ⟨by rw [h3, k3], by rw [h4, k4]⟩
  · exact absurd ⟨h1, w, h2⟩ k1
  · exact absurd ⟨k1, u, k2⟩ h1
  · exact ⟨by rw [h2, k2], by rw [h3, k3]⟩

end Go.Proofs.YtmakhapdlkbbnaaDoor
