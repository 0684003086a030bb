/- Plain: models of a pattern in a graph; a model of a model. -/
import Derived.Test.YtiooindlpinjhaaDoorWlQ22
import Derived.Test.YtiooindlpinjhaaDoorWlQ11
import Derived.Test.YtiooindlpinjhaaDoorWlQ15
import Derived.Test.YtiooindlpinjhaaDoorWlQ7
import Derived.Test.YtiooindlpinjhaaDoorWlQ14
import Derived.Test.YtiooindlpinjhaaDoorWlQ8
import Derived.Test.YtiooindlpinjhaaDoorWlQ16
import Derived.Test.YtiooindlpinjhaaDoorWlQ12
namespace Go.Proofs.YtiooindlpinjhaaDoor

/-- The first sets are sets of vertices, no two of which meet. -/
def MdTo (g M : List (List Int)) (k : Nat) : Prop := ∀ a, a < k → SetIn g.length (row M a) ∧ ∀ b, b < a → ∀ x ∈ row M a, x ∉ row M b
def MdW (g M : List (List Int)) : Prop := (GOk g ∧ M.length ≤ 16) ∧ MdTo g M M.length
/-- An edge joins two sets. -/
def JoinP (g : List (List Int)) (A B : List Int) : Prop := ∃ x ∈ A, ∃ y ∈ B, y ∈ row g x.toNat
/-- The edges of the pattern up to one. -/
def JnTo (g p M : List (List Int)) (i : Nat) : Prop := ∀ e ∈ (edN p.length (ofG p) p.length).take i, JoinP g (row M e.1) (row M e.2)
def MdOk (g p M : List (List Int)) : Prop := ((MdW g M ∧ GOk p) ∧ M.length = p.length) ∧ (∀ a, a < M.length → ConnS g (row M a)) ∧ ∀ e ∈ edN p.length (ofG p) p.length, JoinP g (row M e.1) (row M e.2)

theorem MdTo.zero (g M : List (List Int)) : MdTo g M 0 := fun _ h => absurd h (Nat.not_lt_zero _)
theorem MdTo.snoc {g M : List (List Int)} {k : Nat} (h : MdTo g M k) (h1 : SetIn g.length (row M k)) (h2 : ∀ b, b < k → ∀ x ∈ row M k, x ∉ row M b) : MdTo g M (k + 1) := fun a ha => by
  by_cases e : a < k
  · exact h a e
  · obtain rfl : a = k := by omega
    exact ⟨h1, h2⟩

/-- The word of a model: of each vertex whether a set has it. -/
structure WrdI (n : Nat) (M : List (List Int)) (i k : Nat) (F : List Int) : Prop where
  len : F.length = n
  sgn : ∀ x, x < n → (0 < F.getD x 0 ↔ (∃ a, a < i ∧ (x : Int) ∈ row M a) ∨ (x : Int) ∈ (row M i).take k)
theorem WrdI.start (n : Nat) (M : List (List Int)) : WrdI n M 0 0 (List.replicate n 0) := by
  refine ⟨by simp, fun x hx => ?_⟩
  have h1 : (List.replicate n (0 : Int)).getD x 0 = 0 := by simp [List.getD_eq_getElem?_getD, hx]
  rw [h1]
  simp
theorem WrdI.put {n : Nat} {M : List (List Int)} {i k x : Nat} {F : List Int} (h : WrdI n M i k F) (hk : k < (row M i).length) (hx : (row M i)[k] = (x : Int)) (hn : x < n) (z : Int) (hz : 0 < z) : WrdI n M i (k + 1) (F.set x z) := by
  refine ⟨by rw [List.length_set]; exact h.len, fun y hy => ?_⟩
  rw [take_snoc' _ k hk, hx, List.mem_append, ← or_assoc, ← h.sgn y hy]
  rw [List.getD_eq_getElem?_getD, List.getElem?_set]
  by_cases e : x = y
  · subst e
    simp [h.len, hn, hz]
  · rw [if_neg e, ← List.getD_eq_getElem?_getD]
    have e' : ¬ ((y : Int) = (x : Int)) := by omega
    simp [e']
theorem WrdI.next {n : Nat} {M : List (List Int)} {i : Nat} {F : List Int} (h : WrdI n M i (row M i).length F) : WrdI n M (i + 1) 0 F := by
  refine ⟨h.len, fun y hy => ?_⟩
  rw [h.sgn y hy, List.take_length]
  simp only [List.take_zero, List.not_mem_nil, or_false]
  constructor
  · rintro (⟨a, ha, h1⟩ | h1)
    · exact ⟨a, by omega, h1⟩
    · exact ⟨i, by omega, h1⟩
  · rintro ⟨a, ha, h1⟩
    by_cases e : a < i
    · exact .inl ⟨a, e, h1⟩
    · obtain rfl : a = i := by omega
      exact .inr h1
/-- A vertex that two sets have. -/
theorem wrd_twice {g M : List (List Int)} {i k x : Nat} {F : List Int} (h : WrdI g.length M i k F) (hs : SetIn g.length (row M i)) (hk : k < (row M i).length) (hx : (row M i)[k] = (x : Int)) (hn : x < g.length) (hF : 0 < F.getD x 0) (hi : i < M.length) : ¬ MdTo g M M.length := by
  intro hm
  have hmem : (x : Int) ∈ row M i := by rw [← hx]; exact List.getElem_mem hk
  rcases (h.sgn x hn).1 hF with ⟨a, ha, h1⟩ | h1
  · exact (hm i hi).2 a ha _ hmem h1
  · obtain ⟨j, hj, e⟩ := List.getElem_of_mem h1
    rw [List.length_take] at hj
    rw [List.getElem_take] at e
    have := (List.pairwise_iff_getElem.1 hs.2) j k (by omega) hk (by omega)
    rw [hx, e] at this
    omega
theorem wrd_new {g M : List (List Int)} {i k x : Nat} {F : List Int} (h : WrdI g.length M i k F) (hn : x < g.length) (hF : ¬ 0 < F.getD x 0) : ∀ b, b < i → (x : Int) ∉ row M b := fun b hb k1 => hF ((h.sgn x hn).2 (.inl ⟨b, hb, k1⟩))

/-- The sets of a model of a model. -/
def CmpS (M W R : List (List Int)) : Prop := R.length = W.length ∧ ∀ i, i < W.length → (row R i).Pairwise (· < ·) ∧ ∀ x, x ∈ row R i ↔ ∃ k ∈ row W i, x ∈ row M k.toNat
theorem cmpS_det {M W R R' : List (List Int)} (h : CmpS M W R) (h' : CmpS M W R') : R = R' := by
  refine graph_ext (by rw [h.1, h'.1]) fun r hr => ?_
  rw [h.1] at hr
  refine rising_ext_int _ _ (h.2 r hr).1 (h'.2 r hr).1 fun x => ?_
  rw [(h.2 r hr).2, (h'.2 r hr).2]
/-- What ComposedModel returns. -/
def CmS (g p M q W R : List (List Int)) (ok : Bool) : Prop := (MdOk g p M ∧ MdOk p q W ∧ CmpS M W R ∧ ok = true) ∨ (¬ (MdOk g p M ∧ MdOk p q W) ∧ R = [] ∧ ok = false)
theorem cmS_det {g p M q W R R' : List (List Int)} {ok ok' : Bool} (h : CmS g p M q W R ok) (h' : CmS g p M q W R' ok') : R = R' ∧ ok = ok' := by
  rcases h with ⟨h1, h2, h3, h4⟩ | ⟨h1, h2, h3⟩ <;> rcases h' with ⟨k1, k2, k3, k4⟩ | ⟨k1, k2, k3⟩
  · exact ⟨cmpS_det h3 k3, by rw [h4, k4]⟩
  · exact absurd ⟨h1, h2⟩ k1
  · exact absurd ⟨k1, k2⟩ h1
  · exact ⟨by rw [h2, k2], by rw [h3, k3]⟩

/-- An edge of the graph between two sets, as the reference looks for it. -/
def BtwE (A B : List Int) (e : Nat × Nat) : Prop := ((e.1 : Int) ∈ A ∧ (e.2 : Int) ∈ B) ∨ ((e.2 : Int) ∈ A ∧ (e.1 : Int) ∈ B)
theorem mem_edN' {n : Nat} {E : Nat → Nat → Bool} {a b : Nat} (h1 : a < b) (h2 : b < n) (h3 : E a b = true) : (a, b) ∈ edN n E n := by
  simp only [edN, edRow, List.mem_flatMap, List.mem_range, List.mem_map, List.mem_filter, Bool.and_eq_true, decide_eq_true_eq]
  exact ⟨a, by omega, b, ⟨h2, h1, h3⟩, rfl⟩
theorem join_btw {g : List (List Int)} (hg : GOk g) {A B : List Int} (hA : SetIn g.length A) : JoinP g A B ↔ ∃ e ∈ edN g.length (ofG g) g.length, BtwE A B e := by
  constructor
  · rintro ⟨x, hx, y, hy, h⟩
    have hx1 := hA.1 x hx
    have hxr : x.toNat < g.length := by omega
    have hs := hg.sets x.toNat hxr
    have hy1 := hs.1.1 y h
    have hyr : y.toNat < g.length := by omega
    have hne : y ≠ x := fun e => hs.2 (by rw [Int.toNat_of_nonneg hx1.1]; exact e ▸ h)
    have hsym := hg.both x.toNat hxr y h
    have ex : ((x.toNat : Nat) : Int) = x := by omega
    have ey : ((y.toNat : Nat) : Int) = y := by omega
    by_cases e : x < y
    · exact ⟨(x.toNat, y.toNat), mem_edN' (by omega) hyr (by simp only [ofG, decide_eq_true_eq]; rw [ey]; exact h), .inl ⟨by show ((x.toNat : Nat) : Int) ∈ A; rw [ex]; exact hx, by show ((y.toNat : Nat) : Int) ∈ B; rw [ey]; exact hy⟩⟩
    · exact ⟨(y.toNat, x.toNat), mem_edN' (by omega) hxr (by simp only [ofG, decide_eq_true_eq]; exact hsym), .inr ⟨by show ((x.toNat : Nat) : Int) ∈ A; rw [ex]; exact hx, by show ((y.toNat : Nat) : Int) ∈ B; rw [ey]; exact hy⟩⟩
  · rintro ⟨e, he, h⟩
    obtain ⟨h1, h2, _, h4⟩ := mem_edN (Nat.le_refl _) he
    simp only [ofG, decide_eq_true_eq] at h4
    rcases h with ⟨k1, k2⟩ | ⟨k1, k2⟩
    · exact ⟨_, k1, _, k2, by simpa using h4⟩
    · refine ⟨_, k1, _, k2, ?_⟩
      have := hg.both e.1 h1 _ h4
      simpa using this

end Go.Proofs.YtiooindlpinjhaaDoor

/- Plain: the least word of a model of a pattern in a host. -/
namespace Go.Proofs.YtiooindlpinjhaaDoor

/-- The vertices that a word gives to a set. -/
def setW (w : List Nat) (k : Nat) : List Nat := (List.range w.length).filter fun v => w.getD v 0 == k + 1
theorem mem_setW {w : List Nat} {k v : Nat} : v ∈ setW w k ↔ v < w.length ∧ w.getD v 0 = k + 1 := by
  simp [setW]
theorem setW_snoc (w : List Nat) (c k : Nat) : setW (w ++ [c]) k = if c = k + 1 then setW w k ++ [w.length] else setW w k := by
  unfold setW
  rw [List.length_append, List.length_singleton, List.range_succ, List.filter_append]
  have h1 : (List.range w.length).filter (fun v => (w ++ [c]).getD v 0 == k + 1) = (List.range w.length).filter (fun v => w.getD v 0 == k + 1) := List.filter_congr fun v hv => by
    have := List.mem_range.1 hv
    rw [List.getD_eq_getElem?_getD, List.getD_eq_getElem?_getD, List.getElem?_append_left this]
  have h2 : (w ++ [c]).getD w.length 0 = c := by simp
  rw [h1]
  by_cases e : c = k + 1
  · rw [if_pos e, List.filter_cons, h2, e]; simp
  · rw [if_neg e, List.filter_cons, h2]; simp [e]
theorem setW_rising (w : List Nat) (k : Nat) : (setW w k).Pairwise (· < ·) := List.Pairwise.filter _ List.pairwise_lt_range
theorem setW_disj {w : List Nat} {i k v : Nat} (h1 : v ∈ setW w i) (h2 : v ∈ setW w k) : i = k := by
  have := (mem_setW.1 h1).2
  have := (mem_setW.1 h2).2
  omega
/-- How many of so many sets a word has nothing for. -/
def lackW (m : Nat) (w : List Nat) : Nat := (List.range m).countP fun k => decide (k + 1 ∉ w)
theorem lackW_le (m : Nat) (w : List Nat) : lackW m w ≤ m := by
  have := List.countP_le_length (p := fun k => decide (k + 1 ∉ w)) (l := List.range m)
  rwa [List.length_range] at this
theorem lackW_nil (m : Nat) : lackW m [] = m := by
  unfold lackW
  rw [List.countP_eq_length_filter, List.filter_eq_self.2 (by simp), List.length_range]
theorem lackW_old {m c : Nat} {w : List Nat} (h : c = 0 ∨ c ∈ w) : lackW m (w ++ [c]) = lackW m w := by
  unfold lackW
  refine List.countP_congr fun k _ => ?_
  simp only [List.mem_append, List.mem_singleton, decide_eq_true_eq, not_or]
  constructor
  · exact fun h => h.1
  · refine fun h1 => ⟨h1, fun e => ?_⟩
    rcases h with h | h
    · omega
    · exact h1 (e ▸ h)
theorem lackW_new {m i : Nat} {w : List Nat} (hi : i < m) (h : i + 1 ∉ w) : lackW m (w ++ [i + 1]) + 1 = lackW m w := by
  unfold lackW
  have key : ∀ l : List Nat, l.Nodup → i ∈ l → l.countP (fun k => decide (k + 1 ∉ w ++ [i + 1])) + 1 = l.countP (fun k => decide (k + 1 ∉ w)) := by
    intro l
    induction l with
    | nil => intro _ hm; simp at hm
    | cons a l ih =>
      intro hn hm
      have hn' := List.nodup_cons.1 hn
      rw [List.countP_cons, List.countP_cons]
      by_cases e : a = i
      · subst e
        have : l.countP (fun k => decide (k + 1 ∉ w ++ [a + 1])) = l.countP (fun k => decide (k + 1 ∉ w)) := List.countP_congr fun k hk => by
          simp only [List.mem_append, List.mem_singleton, decide_eq_true_eq, not_or]
          refine ⟨fun h => h.1, fun h1 => ⟨h1, fun e => hn'.1 ?_⟩⟩
          obtain rfl : k = a := by omega
          exact hk
        rw [this]
        simp [h]
      · have := ih hn'.2 (by
          rcases List.mem_cons.1 hm with h1 | h1
          · exact absurd h1.symm e
          · exact h1)
        have h2 : decide (a + 1 ∉ w ++ [i + 1]) = decide (a + 1 ∉ w) := by
          rw [decide_eq_decide]
          simp only [List.mem_append, List.mem_singleton, not_or]
          exact ⟨fun h => h.1, fun h1 => ⟨h1, fun e2 => e (by omega)⟩⟩
        rw [h2]
        omega
  exact key _ List.nodup_range (List.mem_range.2 hi)

/-- The word is that of a model. -/
def FitW (m : Nat) (E F : Nat → Nat → Bool) (w : List Nat) : Prop :=
  (∀ k, k < m → ConnL E (setW w k)) ∧ ∀ i, i < m → ∀ k, k < m → F i k = true → ∃ x ∈ setW w i, ∃ y ∈ setW w k, E x y = true
/-- The search: so many letters are left; the first of the next letters with which it ends well. -/
noncomputable def findN (m : Nat) (Fit : List Nat → Prop) : Nat → List Nat → Option (List Nat)
  | 0, w => if 0 < lackW m w then none else if dec (Fit w) = true then some w else none
  | r + 1, w => if r + 1 < lackW m w then none else (List.range (m + 1)).findSome? fun k => findN m Fit r (w ++ [k])
theorem findN_lack {m : Nat} {Fit : List Nat → Prop} {r : Nat} {w : List Nat} (h : r < lackW m w) : findN m Fit r w = none := by
  cases r <;> simp [findN, h]
theorem findN_leaf {m : Nat} {Fit : List Nat → Prop} {w : List Nat} (h : ¬ 0 < lackW m w) : findN m Fit 0 w = if dec (Fit w) = true then some w else none := by
  simp [findN, h]
theorem findN_node {m : Nat} {Fit : List Nat → Prop} {r : Nat} {w : List Nat} (h : ¬ r + 1 < lackW m w) : findN m Fit (r + 1) w = (List.range (m + 1)).findSome? fun k => findN m Fit r (w ++ [k]) := by
  simp [findN, h]
theorem fsome_skip {α : Type} {f : Nat → Option α} {k : Nat} (h : (List.range k).findSome? f = none) (h2 : f k = none) : (List.range (k + 1)).findSome? f = none := by
  rw [List.range_succ, List.findSome?_append, h]
  simp [h2]
theorem fsome_stop {α : Type} {f : Nat → Option α} {k m : Nat} {x : α} (h : (List.range k).findSome? f = none) (hk : k < m) (h2 : f k = some x) : (List.range m).findSome? f = some x := by
  obtain ⟨d, rfl⟩ : ∃ d, m = (k + 1) + d := ⟨m - (k + 1), by omega⟩
  rw [List.range_add, List.findSome?_append, List.range_succ, List.findSome?_append, h]
  simp [h2]
/-- What is found: the word goes on so, and it fits. -/
theorem findN_some {m : Nat} {Fit : List Nat → Prop} : ∀ (r : Nat) (w x : List Nat), findN m Fit r w = some x → Fit x ∧ ∃ u, x = w ++ u ∧ u.length = r ∧ ∀ c ∈ u, c ≤ m
  | 0, w, x, h => by
    by_cases h0 : 0 < lackW m w
    · rw [findN_lack h0] at h; cases h
    · rw [findN_leaf h0] at h
      by_cases hf : dec (Fit w) = true
      · rw [if_pos hf] at h
        cases h
        exact ⟨dec_iff.1 hf, [], by simp, rfl, by simp⟩
      · rw [if_neg hf] at h; cases h
  | r + 1, w, x, h => by
    by_cases h0 : r + 1 < lackW m w
    · rw [findN_lack h0] at h; cases h
    · rw [findN_node h0] at h
      obtain ⟨k, hk, hx⟩ := List.exists_of_findSome?_eq_some h
      obtain ⟨h1, u, rfl, h2, h3⟩ := findN_some r _ _ hx
      refine ⟨h1, k :: u, by simp, by simp [h2], fun c hc => ?_⟩
      rcases List.mem_cons.1 hc with rfl | hc
      · have := List.mem_range.1 hk; omega
      · exact h3 c hc
/-- What is not found: no way to go on fits. -/
theorem findN_none {m : Nat} {Fit : List Nat → Prop} (hF : ∀ w, Fit w → ∀ k, k < m → k + 1 ∈ w) : ∀ (r : Nat) (w : List Nat), findN m Fit r w = none → ∀ u, u.length = r → (∀ c ∈ u, c ≤ m) → ¬ Fit (w ++ u)
  | 0, w, h, u, hu, _ => by
    obtain rfl := List.eq_nil_of_length_eq_zero hu
    rw [List.append_nil]
    intro hf
    have h0 : ¬ 0 < lackW m w := by
      have : lackW m w = 0 := by
        unfold lackW
        rw [List.countP_eq_zero]
        intro k hk
        simp [hF w hf k (List.mem_range.1 hk)]
      omega
    rw [findN_leaf h0, if_pos (dec_true hf)] at h
    cases h
  | r + 1, w, h, u, hu, hc => by
    intro hf
    have h0 : ¬ r + 1 < lackW m w := by
      have h1 : lackW m w ≤ u.length := by
        unfold lackW
        rw [List.countP_eq_length_filter]
        have := sub_len (((List.range m).filter fun k => decide (k + 1 ∉ w)).map (· + 1)) u (by
          rw [List.Nodup, List.pairwise_map]
          exact (List.Pairwise.filter _ (List.nodup_range (n := m))).imp fun {a b} h e => h (by omega)) fun x hx => by
          obtain ⟨k, hk, rfl⟩ := List.mem_map.1 hx
          rw [List.mem_filter, List.mem_range, decide_eq_true_eq] at hk
          rcases List.mem_append.1 (hF _ hf k hk.1) with h1 | h1
          · exact absurd h1 hk.2
          · exact h1
        rwa [List.length_map] at this
      omega
    rw [findN_node h0] at h
    cases u with
    | nil => simp at hu
    | cons c u =>
      have hk : findN m Fit r (w ++ [c]) = none := List.findSome?_eq_none_iff.1 h c (List.mem_range.2 (by have := hc c (List.mem_cons_self ..); omega))
      have := findN_none hF r (w ++ [c]) hk u (by simpa using hu) fun x hx => hc x (List.mem_cons_of_mem _ hx)
      rw [List.append_assoc] at this
      exact this hf
theorem fitW_has {m : Nat} {E F : Nat → Nat → Bool} {w : List Nat} (h : FitW m E F w) : ∀ k, k < m → k + 1 ∈ w := fun k hk => by
  obtain ⟨v, hv⟩ := List.exists_mem_of_ne_nil _ (h.1 k hk).1
  obtain ⟨h1, h2⟩ := mem_setW.1 hv
  rw [List.getD_eq_getElem?_getD, List.getElem?_eq_getElem h1] at h2
  rw [← h2]
  exact List.getElem_mem h1

/-- All neighbours, as pairs. -/
def prsN (n : Nat) (E : Nat → Nat → Bool) : List (Nat × Nat) := (List.range n).flatMap fun v => ((List.range n).filter (E v)).map fun u => (v, u)
theorem prsN_length (n : Nat) (E : Nat → Nat → Bool) : (prsN n E).length = totN n E := by
  unfold prsN totN
  rw [List.length_flatMap]
  congr 1
  refine List.map_congr_left fun v _ => ?_
  rw [List.length_map, ← List.countP_eq_length_filter]
  rfl
theorem mem_prsN {n : Nat} {E : Nat → Nat → Bool} {a b : Nat} : (a, b) ∈ prsN n E ↔ a < n ∧ b < n ∧ E a b = true := by
  unfold prsN
  simp only [List.mem_flatMap, List.mem_range, List.mem_map, List.mem_filter, Prod.mk.injEq]
  constructor
  · rintro ⟨v, hv, u, hu, rfl, rfl⟩
    exact ⟨hv, hu.1, hu.2⟩
  · rintro ⟨h1, h2, h3⟩
    exact ⟨a, h1, b, ⟨h2, h3⟩, rfl, rfl⟩
theorem nodup_prsN (n : Nat) (E : Nat → Nat → Bool) : (prsN n E).Nodup := by
  unfold prsN
  rw [List.Nodup, List.pairwise_flatMap]
  refine ⟨fun v _ => ?_, ?_⟩
  · rw [List.pairwise_map]
    exact (List.Pairwise.filter _ (List.nodup_range (n := n))).imp fun {a b} h e => h (by simpa using e)
  · refine (List.nodup_range (n := n)).imp fun {a b} h x hx y hy e => ?_
    obtain ⟨u, _, rfl⟩ := List.mem_map.1 hx
    obtain ⟨u2, _, rfl⟩ := List.mem_map.1 hy
    simp only [Prod.mk.injEq] at e
    exact h e.1
/-- A pattern with a model has no more edges. -/
theorem fitW_ends {n m : Nat} {E F : Nat → Nat → Bool} {w : List Nat} (hn : w.length = n) (h : FitW m E F w) : totN m F ≤ totN n E := by
  have hch : ∀ e : Nat × Nat, ∃ d : Nat × Nat, e ∈ prsN m F → d.1 ∈ setW w e.1 ∧ d.2 ∈ setW w e.2 ∧ E d.1 d.2 = true := fun e => by
    by_cases he : e ∈ prsN m F
    · obtain ⟨h1, h2, h3⟩ := mem_prsN.1 (show (e.1, e.2) ∈ prsN m F from he)
      obtain ⟨x, hx, y, hy, hE⟩ := h.2 e.1 h1 e.2 h2 h3
      exact ⟨(x, y), fun _ => ⟨hx, hy, hE⟩⟩
    · exact ⟨(0, 0), fun h => absurd h he⟩
  obtain ⟨f, hf⟩ : ∃ f : Nat × Nat → Nat × Nat, ∀ e, e ∈ prsN m F → (f e).1 ∈ setW w e.1 ∧ (f e).2 ∈ setW w e.2 ∧ E (f e).1 (f e).2 = true := ⟨fun e => Classical.choose (hch e), fun e => Classical.choose_spec (hch e)⟩
  have hnd : ((prsN m F).map f).Nodup := by
    rw [List.Nodup, List.pairwise_map]
    refine (nodup_prsN m F).imp_of_mem fun {a b} ha hb hab e => hab ?_
    have h1 := hf a ha
    have h2 := hf b hb
    rw [e] at h1
    exact Prod.ext (setW_disj h1.1 h2.1) (setW_disj h1.2.1 h2.2.1)
  have := sub_len _ (prsN n E) hnd fun x hx => by
    obtain ⟨e, he, rfl⟩ := List.mem_map.1 hx
    have h1 := hf e he
    have h2 := mem_setW.1 h1.1
    have h3 := mem_setW.1 h1.2.1
    exact mem_prsN.2 ⟨by omega, by omega, h1.2.2⟩
  rw [List.length_map, prsN_length, prsN_length] at this
  exact this

/-- The sets of a word. -/
def setsW (m : Nat) (w : List Nat) : List (List Int) := (List.range m).map fun k => natInts (setW w k)
theorem setsW_length (m : Nat) (w : List Nat) : (setsW m w).length = m := by simp [setsW]
theorem row_setsW {m k : Nat} {w : List Nat} (h : k < m) : row (setsW m w) k = natInts (setW w k) := by simp [row, setsW, h]
/-- What MinorIn returns. -/
def MiS (g p gg : List (List Int)) (ok : Bool) : Prop :=
  ((GOk g ∧ GOk p ∧ g.length ≤ 8 ∧ p.length ≤ 5) ∧ ∃ w, findN p.length (FitW p.length (ofG g) (ofG p)) g.length [] = some w ∧ gg = setsW p.length w ∧ ok = true) ∨
  (¬ ((GOk g ∧ GOk p ∧ g.length ≤ 8 ∧ p.length ≤ 5) ∧ ∃ w, findN p.length (FitW p.length (ofG g) (ofG p)) g.length [] = some w) ∧ gg = [] ∧ ok = false)
theorem miS_det {g p gg hh : List (List Int)} {ok ok' : Bool} (h : MiS g p gg ok) (k : MiS g p hh ok') : gg = hh ∧ ok = ok' := by
  rcases h with ⟨h1, w, h2, h3, h4⟩ | ⟨h1, h2, h3⟩ <;> rcases k with ⟨k1, u, k2, k3, k4⟩ | ⟨k1, k2, k3⟩
  · rw [h2] at k2
    cases k2
    exact ⟨by rw [h3, k3], by rw [h4, k4]⟩
  · exact absurd ⟨h1, w, h2⟩ k1
  · exact absurd ⟨k1, u, k2⟩ h1
  · exact ⟨by rw [h2, k2], by rw [h3, k3]⟩

end Go.Proofs.YtiooindlpinjhaaDoor

/- Walks: the reference's search of a model: how many ends, the neighbours as numbers, what lies around, what is whole. -/
namespace Go.Proofs.YtiooindlpinjhaaDoor
open Go.RowKit

theorem row_degM {g : List (List Int)} (hg : GOk g) {v : Nat} (hv : v < g.length) : (row g v).length = degN g.length (ofG g) v := by
  have h := row_matG (E := ofG g) hv
  rw [matG_ofG hg] at h
  rw [h, natInts_length]
  unfold degN
  rw [List.countP_eq_length_filter]
def sumD (n : Nat) (E : Nat → Nat → Bool) (k : Nat) : Nat := ((List.range k).map (degN n E)).sum
theorem sumD_succ (n : Nat) (E : Nat → Nat → Bool) (k : Nat) : sumD n E (k + 1) = sumD n E k + degN n E k := by
  unfold sumD
  rw [List.range_succ, List.map_append, List.sum_append]
  simp
theorem sumD_le {n : Nat} (hn : n ≤ 16) (E : Nat → Nat → Bool) : ∀ k, sumD n E k ≤ 16 * k
  | 0 => by simp [sumD]
  | k + 1 => by
    rw [sumD_succ]
    have := sumD_le hn E k
    have := degN_le n E k
    omega


theorem bit_maskM {s : List Int} (h : ∀ x ∈ s, 0 ≤ x) (i : Nat) : (mask s).testBit i = true ↔ (i : Int) ∈ s := by
  rw [testBit_mask, List.any_eq_true]
  constructor
  · rintro ⟨x, hx, e⟩
    have h1 := h x hx
    have h2 : x.toNat = i := by simpa using e
    have : (i : Int) = x := by omega
    rw [this]; exact hx
  · intro k
    exact ⟨_, k, by simp⟩
theorem add_or {a k : Nat} (h : a < 2 ^ k) : a + 2 ^ k = a ||| 2 ^ k := by
  have := Nat.two_pow_add_eq_or_of_lt h 1
  rw [Nat.mul_one] at this
  rw [Nat.add_comm, this, Nat.or_comm]
theorem mask_take_lt {xs : List Int} (hr : xs.Pairwise (· < ·)) (h0 : ∀ x ∈ xs, 0 ≤ x) {k : Nat} (hk : k < xs.length) : mask (xs.take k) < 2 ^ xs[k].toNat := by
  refine Nat.lt_of_not_le fun hge => ?_
  obtain ⟨v, hv, hb⟩ := Nat.exists_ge_and_testBit_of_ge_two_pow hge
  have hm : ((v : Nat) : Int) ∈ xs.take k := (bit_maskM (fun x hx => h0 x (List.mem_of_mem_take hx)) v).1 hb
  obtain ⟨i, hi, e⟩ := List.getElem_of_mem hm
  rw [List.length_take] at hi
  rw [List.getElem_take] at e
  have := List.pairwise_iff_getElem.1 hr i k (by omega) hk (by omega)
  have := h0 _ (List.getElem_mem hk)
  omega


end Go.Proofs.YtiooindlpinjhaaDoor

/- Walks: the reference's search of a model: what lies around a set, whether it is whole, what a word lacks. -/
namespace Go.Proofs.YtiooindlpinjhaaDoor
open Go.RowKit

/-- All neighbours of a set. -/
def AroP (g : List (List Int)) (s r : Nat) : Prop := r < 65536 ∧ ∀ j, r.testBit j = true ↔ ∃ v, v < g.length ∧ s.testBit v = true ∧ ofG g v j = true
theorem netL_at {g : List (List Int)} {v : Nat} (hv : v < g.length) (h : v < (netL g).length) : (netL g)[v] = mask (row g v) := by
  simp [netL, row, hv]
theorem mask_ofG {g : List (List Int)} (hg : GOk g) {v : Nat} (hv : v < g.length) (j : Nat) : (mask (row g v)).testBit j = ofG g v j := by
  rw [Bool.eq_iff_iff, bit_maskM (fun x hx => ((hg.sets v hv).1.1 x hx).1)]
  simp [ofG]


/-- The lowest number of a set, as the reference finds it. -/
theorem low_and {s : Nat} (h0 : s ≠ 0) (hs : s < 65536) : bits BinOp.and IntKind.i64 (s : Int) (-(s : Int)) = ((2 ^ Lib.ctz 32 s : Nat) : Int) := by
  show IntKind.i64.wrap ((BitVec.ofInt 64 (s : Int) &&& BitVec.ofInt 64 (-(s : Int))).toNat : Int) = _
  have e1 : (BitVec.ofInt 64 (s : Int)).toNat = s := by rw [BitVec.ofInt_natCast, BitVec.toNat_ofNat]; omega
  have e2 : (BitVec.ofInt 64 (-(s : Int))).toNat = 2 ^ 64 - s := by
    rw [BitVec.toNat_ofInt]
    omega
  have hst := bitsOf_step s h0 (by omega)
  have hlt := (testBit_ctz s h0 (by omega)).2.1
  have hmem : ∀ j, (s &&& (s - 1)).testBit j = true ↔ s.testBit j = true ∧ j ≠ Lib.ctz 32 s := fun j => by
    have hl2 : s &&& (s - 1) < 4294967296 := Nat.lt_of_le_of_lt Nat.and_le_left (by omega)
    have hr := bitsOf_rising s
    rw [hst] at hr
    have hr2 := (List.pairwise_cons.1 hr).1
    constructor
    · intro h
      have hj := (mem_bitsOf' hl2).2 h
      refine ⟨(mem_bitsOf' (by omega)).1 (by rw [hst]; exact List.mem_cons_of_mem _ hj), fun e => ?_⟩
      have := hr2 j hj
      omega
    · rintro ⟨h1, h2⟩
      have hj := (mem_bitsOf' (show s < 4294967296 by omega)).2 h1
      rw [hst] at hj
      rcases List.mem_cons.1 hj with e | hj
      · exact absurd e h2
      · exact (mem_bitsOf' hl2).1 hj
  have e3 : s &&& (2 ^ 64 - s) = 2 ^ Lib.ctz 32 s := Nat.eq_of_testBit_eq fun j => by
    rw [Nat.testBit_and, show 2 ^ 64 - s = 2 ^ 64 - ((s - 1) + 1) by omega, Nat.testBit_two_pow_sub_succ (by omega), Nat.testBit_two_pow]
    have hm := hmem j
    rw [Nat.testBit_and] at hm
    have hc := (testBit_ctz s h0 (by omega)).1
    by_cases e : Lib.ctz 32 s = j
    · subst e
      rw [hc] at hm ⊢
      have : (s - 1).testBit (Lib.ctz 32 s) = false := by
        cases h : (s - 1).testBit (Lib.ctz 32 s) with
        | false => rfl
        | true =>
          rw [h] at hm
          exact absurd rfl (hm.1 rfl).2
      rw [this]
      simp; omega
    · cases hb : s.testBit j with
      | false => simp [e]
      | true =>
        rw [hb] at hm
        have : (s - 1).testBit j = true := by
          have := hm.2 ⟨rfl, fun h => e h.symm⟩
          simpa using this
        simp [this, e]
  rw [BitVec.toNat_and, e1, e2, e3, IntKind.wrap_i64]
  have := pow_lt32 _ hlt
  omega
/-- What has been met of a set, from its lowest number on. -/
structure WhI (g : List (List Int)) (s u M : Nat) : Prop where
  low : M.testBit u = true
  inn : ∀ j, M.testBit j = true → s.testBit j = true ∧ Rch (ofG g) (· ∈ bitsOf s) u j
theorem WhI.lt {g : List (List Int)} {s u M : Nat} (h : WhI g s u M) (hs : s < 65536) : M < 65536 := by
  refine Nat.lt_of_not_le fun hge => ?_
  obtain ⟨v, hv, hb⟩ := Nat.exists_ge_and_testBit_of_ge_two_pow (show 2 ^ 16 ≤ M from hge)
  have h1 := (h.inn v hb).1
  rw [Nat.testBit_lt_two_pow (Nat.lt_of_lt_of_le hs (show 65536 ≤ 2 ^ v from Nat.pow_le_pow_right (n := 2) (by decide) hv))] at h1
  exact absurd h1 (by decide)
theorem WhI.more {g : List (List Int)} {s u M r : Nat} (h : WhI g s u M) (hs : s < 65536) (hr : AroP g M r) : WhI g s u (M ||| (r &&& s)) where
  low := by rw [Nat.testBit_or, h.low]; rfl
  inn := fun j hj => by
    rw [Nat.testBit_or, Bool.or_eq_true, Nat.testBit_and, Bool.and_eq_true] at hj
    rcases hj with hj | ⟨h1, h2⟩
    · exact h.inn j hj
    · obtain ⟨v, _, hv2, hv3⟩ := (hr.2 j).1 h1
      exact ⟨h2, .step (h.inn v hv2).2 hv3 ((mem_left hs).2 h2)⟩
theorem WhI.done {g : List (List Int)} (hg : GOk g) {s u M r : Nat} (h : WhI g s u M) (hs : s < 65536) (hsl : s < 2 ^ g.length) (hr : AroP g M r) (he : M ||| (r &&& s) = M) : ∀ j, M.testBit j = true ↔ j ∈ bitsOf s ∧ Rch (ofG g) (· ∈ bitsOf s) u j := fun j => by
  constructor
  · intro hj
    exact ⟨(mem_left hs).2 (h.inn j hj).1, (h.inn j hj).2⟩
  · rintro ⟨_, hR⟩
    refine rch_closed (T := fun x => M.testBit x = true) h.low (fun a b ha hE hb => ?_) j hR
    have hb2 := (mem_left hs).1 hb
    have han : a < g.length := by
      have := sub_full hsl a (h.inn a ha).1
      rwa [full_bit, decide_eq_true_eq] at this
    have hrb : r.testBit b = true := (hr.2 b).2 ⟨a, han, ha, hE⟩
    rw [← he, Nat.testBit_or, Nat.testBit_and, hrb, hb2]
    simp



end Go.Proofs.YtiooindlpinjhaaDoor

/- append in a drawn region: the old row is kept. -/
namespace Go.Proofs.YtiooindlpinjhaaDoor
open Go.RowKit

/-- A shorter row of the same block. -/
theorem ownsRow_headK {w : World} {base : Nat} {E : TypeId} {g c m n : Nat} {xs : List Value} (h : w.ownsRow base E 1 (.slice (some ⟨g, 0, none⟩) m c) m xs) (hk : n ≤ m) : w.ownsRow base E 1 (.slice (some ⟨g, 0, none⟩) n c) n (xs.take n) := by
  have hl := h.1
  refine ⟨by rw [List.length_take]; omega, ?_⟩
  rcases h.2 with ⟨h2, h0⟩ | ⟨g', cap, cur, hv, h2, h3, h4, h5, h6, h7⟩
  · simp at h2
  · simp only [Value.slice.injEq, Option.some.injEq, Addr.mk.injEq] at hv
    obtain ⟨⟨rfl, _⟩, _, rfl⟩ := hv
    exact .inr ⟨g, c, cur, rfl, h2, h3, by omega, h5, h6, by rw [← h7, List.take_take, Nat.mul_one, Nat.mul_one, Nat.min_eq_left hk]⟩

theorem owns_shapeK {w : World} {base : Nat} {E : TypeId} {size n : Nat} {v : Value} {xs : List Value} (h : w.ownsRow base E size v n xs) : ∃ p c, v = .slice p n c := by
  rcases h.2 with ⟨rfl, rfl⟩ | ⟨g, cap, cur, rfl, _⟩
  · exact ⟨_, _, rfl⟩
  · exact ⟨_, _, rfl⟩
/-- What an append leaves of the row that it was made of, as long as only the new row is written. -/
def KeptK (w0 w : World) (base : Nat) (E : TypeId) (v : Value) (n : Nat) (xs : List Value) (v' : Value) (ys : List Value) : Prop :=
  ∀ w3, w.grownBy w3 v'.ownBlock → w3.ownsRow base E 1 v' (n + 1) ys → w3.ownsRow base E 1 v n xs ∧ w0.grownBy w3 v.ownBlock

theorem run_appK {P : Program} {T E : TypeId} {z : Value} {bytes : Nat} (S : SlTy P T E z 1 bytes) (w : World) (ty : TypeId) (base : Nat)
    (v : Value) (n : Nat) (xs : List Value) (hown : w.ownsRow base E 1 v n xs) (u el : Value) (hu : Sl w E u 1 [el])
    (h1 : el.oneCell' = true) (hnm : n < 1000000000) (hbase : base ≤ w.heap.size) :
    ∃ v' w', (Builtin.append_ #[T, T] ty #[v, u]).run P w = .ok v' w' ∧ w'.ownsRow base E 1 v' (n + 1) (xs ++ [el]) ∧ w.grownBy w' v.ownBlock ∧
      KeptK w w' base E v n xs v' (xs ++ [el]) ∧ (∀ k, v'.ownBlock = some k → v.ownBlock = some k ∨ w.heap.size ≤ k) := by
  obtain ⟨i, hi, hz, hsz, hby⟩ := info_parts S.info
  obtain ⟨v', w', hr, h2, h3, h4⟩ := run_app S w ty base v n xs hown u 1 [el] hu (by simp) (by simpa using h1) (by omega) hbase
  refine ⟨v', w', hr, h2, h3, fun w3 hg ho => ?_, h4⟩
  have hgr : w.grownBy w3 v.ownBlock := ⟨hg.os.trans h3.os, hg.tape.trans h3.tape, hg.output.trans h3.output, Nat.le_trans h3.size hg.size, fun k hk hne => (hg.block k (Nat.lt_of_lt_of_le hk h3.size) fun e => by
    rcases h4 k e.symm with h5 | h5
    · exact hne h5.symm
    · omega).trans (h3.block k hk hne)⟩
  refine ⟨?_, hgr⟩
  have hl := hown.1
  rcases hown.2 with ⟨rfl, rfl⟩ | ⟨g, cap, cur, rfl, hbg, hgc, hnc, hcm, hcs, htake⟩
  · obtain rfl := List.eq_nil_of_length_eq_zero (show xs.length = 0 by omega)
    exact World.ownsRow_nil _ _ _ _
  · obtain ⟨p, c, rfl, hp, hmc, _, hat⟩ := hu
    cases p with
    | none => have := (hp rfl).1; omega
    | some ad =>
      have hcell : ∀ j x, [el][j]? = some x → w.cell? (ad.add j) = some x := by
        rcases hat with h | ⟨b, o, cur2, fz, hpe, hb, hc⟩
        · simp at h
        · simp only [Option.some.injEq] at hpe
          subst hpe
          intro j x hx
          have hadd : (⟨b, o, none⟩ : Addr).add j = ⟨b, o + j, none⟩ := by unfold Addr.add; split <;> simp_all
          rw [hadd]
          simp [World.cell?, hb, hc j x hx]
      have hbytes : (n + 1) * i.bytes ≤ 140737488355328 := by
        have := S.small
        have h2 : (n + 1) * i.bytes ≤ 1000000000 * 100 := Nat.mul_le_mul (by omega) (by rw [hby]; exact this)
        omega
      by_cases hroom : n + 1 ≤ cap
      · have hr2 := run_append_room (P := P) w T ty E i S.under hi g n cap cur hgc ad 1 c [el] (by rw [hsz]; rfl) hcell (by simpa using h1) hroom (by rw [hsz, List.length_singleton]; omega)
        have heq := hr.symm.trans hr2
        simp only [Result.ok.injEq] at heq
        obtain ⟨rfl, _⟩ := heq
        have := ownsRow_headK ho (show n ≤ n + 1 by omega)
        rwa [List.take_append_of_le_length (by omega), List.take_of_length_le (by omega)] at this
      · have holds : ∀ j x, xs[j]? = some x → w.cell? ((⟨g, 0, none⟩ : Addr).add j) = some x := hown.cells (g := g) rfl
        have hr2 := run_append_grow (P := P) w T ty E i z S.under hi hz ⟨g, 0, none⟩ n cap xs (by rw [hsz]; omega) holds ad 1 c [el] (by rw [hsz]; rfl) hcell (by omega) (by omega) (growslice_fits (by omega) hbytes)
        have heq := hr.symm.trans hr2
        simp only [Result.ok.injEq] at heq
        obtain ⟨rfl, rfl⟩ := heq
        have hgl := (Array.getElem?_eq_some_iff.1 hgc).1
        refine ⟨hl, .inr ⟨g, cap, cur, rfl, hbg, ?_, hnc, hcm, hcs, htake⟩⟩
        refine (hg.block g (by simp; omega) (fun e => ?_)).trans ((heap_alloc_old w.drew _ hgl).trans hgc)
        simp [Value.ownBlock] at e
        omega

/-- 'append(s, x)' of one element in a drawn region; the old row is kept. -/
theorem step_app1K {P : Program} {T E : TypeId} {z : Value} {bytes : Nat} (S : SlTy P T E z 1 bytes) {w : World} {ops : Array Oper} {o : Oper} {a : Act} {K : Act → World → Prop} {Q : Exit → Act → World → Prop} {F : Prop}
    (hgd : o.guard = none) {s x : Operand} (ho : o.op = .call { callee := .builtin .append, args := #[s, x], argTypes := #[T, T] })
    {base : Nat} {v : Value} {n : Nat} {xs : List Value} {el : Value} (hs : a.eval s = v) (hown : w.ownsRow base E 1 v n xs)
    (hx : a.eval x = .slice (some ⟨w.heap.size, 0, none⟩) 1 1) (h1 : el.oneCell' = true)
    (hnm : n < 1000000000) (hbase : base ≤ w.heap.size)
    (h : ∀ b c w', w'.ownsRow base E 1 (.slice (some ⟨b, 0, none⟩) (n + 1) c) (n + 1) (xs ++ [el]) → w.grownBy w' v.ownBlock → KeptK w w' base E v n xs (.slice (some ⟨b, 0, none⟩) (n + 1) c) (xs ++ [el]) → (v.ownBlock = some b ∨ w.heap.size ≤ b) → K (a.put o.dst (.slice (some ⟨b, 0, none⟩) (n + 1) c)) w') :
    if Region.wanted o (yielded ops a.tmps) = true then Oper.wp P o a (w.alloc (.cells #[el] E)) K Q else F := by
  have hw : Region.wanted o (yielded ops a.tmps) = true := by simp [Region.wanted, hgd]
  rw [if_pos hw]
  have hal : (w.alloc (.cells #[el] E)).heap.size = w.heap.size + 1 := by show (w.heap.push _).size = _; simp
  have hu : Sl (w.alloc (.cells #[el] E)) E (.slice (some ⟨w.heap.size, 0, none⟩) 1 1) 1 [el] := by
    refine ⟨_, 1, rfl, (fun e => by cases e), Nat.le_refl _, by omega, Or.inr ⟨w.heap.size, 0, #[el], (0, 0), rfl, heap_alloc_new w _, ?_⟩⟩
    intro j u hu
    match j, hu with
    | 0, hu => simpa using hu
    | j + 1, hu => simp at hu
  obtain ⟨v', w', hr, h2, h3, h4, h5⟩ := run_appK S (w.alloc (.cells #[el] E)) o.type base v n xs (hown.alloc _) _ el hu h1 hnm (by omega)
  have hstep : ∀ w3 : World, ∀ row, (w.alloc (.cells #[el] E)).grownBy w3 row → w.grownBy w3 row := fun w3 row h3 =>
    ⟨h3.os, h3.tape, h3.output, by have := h3.size; omega, fun k hk hne => (h3.block k (by omega) hne).trans (Below.heap_alloc w _ k hk)⟩
  unfold Oper.wp execOp
  simp only [ho, resolve, invoke, builtin, Sem.run_bind, Sem.run_pure, Result.andThen_ok, List.map_toArray, List.map_cons, List.map_nil, hs, hx, hr]
  rcases id h2.2 with ⟨_, h0⟩ | ⟨g, cap, cur, rfl, _⟩
  · omega
  · exact h g cap w' h2 (hstep _ _ h3) (fun w3 hg ho => ⟨(h4 w3 hg ho).1, hstep _ _ (h4 w3 hg ho).2⟩) (by
      rcases h5 g rfl with h6 | h6
      · exact .inl h6
      · exact .inr (by omega))

/-- 'append(s, x)' of one element in a drawn region; where the new row lies. -/
theorem step_app1B {P : Program} {T E : TypeId} {z : Value} {bytes : Nat} (S : SlTy P T E z 1 bytes) {w : World} {ops : Array Oper} {o : Oper} {a : Act} {K : Act → World → Prop} {Q : Exit → Act → World → Prop} {F : Prop}
    (hgd : o.guard = none) {s x : Operand} (ho : o.op = .call { callee := .builtin .append, args := #[s, x], argTypes := #[T, T] })
    {base : Nat} {v : Value} {n : Nat} {xs : List Value} {el : Value} (hs : a.eval s = v) (hown : w.ownsRow base E 1 v n xs)
    (hx : a.eval x = .slice (some ⟨w.heap.size, 0, none⟩) 1 1) (h1 : el.oneCell' = true)
    (hnm : n < 1000000000) (hbase : base ≤ w.heap.size)
    (h : ∀ b c w', w'.ownsRow base E 1 (.slice (some ⟨b, 0, none⟩) (n + 1) c) (n + 1) (xs ++ [el]) → w.grownBy w' v.ownBlock → (v.ownBlock = some b ∨ w.heap.size ≤ b) → K (a.put o.dst (.slice (some ⟨b, 0, none⟩) (n + 1) c)) w') :
    if Region.wanted o (yielded ops a.tmps) = true then Oper.wp P o a (w.alloc (.cells #[el] E)) K Q else F := by
  have hw : Region.wanted o (yielded ops a.tmps) = true := by simp [Region.wanted, hgd]
  rw [if_pos hw]
  have hal : (w.alloc (.cells #[el] E)).heap.size = w.heap.size + 1 := by show (w.heap.push _).size = _; simp
  have hu : Sl (w.alloc (.cells #[el] E)) E (.slice (some ⟨w.heap.size, 0, none⟩) 1 1) 1 [el] := by
    refine ⟨_, 1, rfl, (fun e => by cases e), Nat.le_refl _, by omega, Or.inr ⟨w.heap.size, 0, #[el], (0, 0), rfl, heap_alloc_new w _, ?_⟩⟩
    intro j u hu
    match j, hu with
    | 0, hu => simpa using hu
    | j + 1, hu => simp at hu
  obtain ⟨v', w', hr, h2, h3, h4⟩ := run_app S (w.alloc (.cells #[el] E)) o.type base v n xs (hown.alloc _) _ 1 [el] hu (by simp) (by simpa using h1) (by omega) (by omega)
  unfold Oper.wp execOp
  simp only [ho, resolve, invoke, builtin, Sem.run_bind, Sem.run_pure, Result.andThen_ok, List.map_toArray, List.map_cons, List.map_nil, hs, hx, hr]
  rcases id h2.2 with ⟨_, h0⟩ | ⟨g, cap, cur, rfl, _⟩
  · omega
  · refine h g cap w' h2 ⟨h3.os, h3.tape, h3.output, by have := h3.size; omega, fun k hk hne => (h3.block k (by omega) hne).trans (Below.heap_alloc w _ k hk)⟩ ?_
    rcases h4 g rfl with h5 | h5
    · exact .inl h5
    · exact .inr (by omega)

end Go.Proofs.YtiooindlpinjhaaDoor
