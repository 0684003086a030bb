/- Plain: colouring along a folding order. -/
import Derived.Test.YtfphapcgjlhieaaDoorGtQ7
import Derived.Test.YtfphapcgjlhieaaDoorGtQ9
namespace Go.Proofs.YtfphapcgjlhieaaDoor

structure FdIn (n : Nat) (f : Fd) : Prop where
  V0 : 0 ≤ f.V
  V1 : f.V < n
  A0 : -1 ≤ f.A
  A1 : f.A < n
  B0 : -1 ≤ f.B
  B1 : f.B < n
  BA : 0 ≤ f.B → 0 ≤ f.A

def RowsIn (n : Nat) (g : List (List Int)) : Prop := ∀ j, ∀ x ∈ row g j, 0 ≤ x ∧ x < n

theorem atRow_in {n : Nat} {v : Int} {r : List Int} (hv : 0 ≤ v ∧ v < n) (h : ∀ x ∈ r, 0 ≤ x ∧ x < n) : FdIn n (atRow v r) := by
  match r, h with
  | [], _ => exact ⟨hv.1, hv.2, by simp [atRow], by simp [atRow]; omega, by simp [atRow], by simp [atRow]; omega, by simp [atRow]⟩
  | [a], h =>
    have := h a (by simp)
    exact ⟨hv.1, hv.2, by simp [atRow]; omega, by simp [atRow]; omega, by simp [atRow], by simp [atRow]; omega, by simp [atRow]⟩
  | a :: b :: r, h =>
    have h1 := h a (by simp)
    have h2 := h b (by simp)
    exact ⟨hv.1, hv.2, by simp [atRow]; omega, by simp [atRow]; omega, by simp [atRow]; omega, by simp [atRow]; omega, by simp [atRow]; omega⟩

theorem mem_intoL' {n x : Int} {l : List Int} (h : x ∈ intoL l n) : x ∈ l ∨ x = n := mem_intoL.1 h

theorem foldG_in {n : Nat} {g : List (List Int)} {f : Fd} (h : RowsIn n g) (hf : FdIn n f) : RowsIn n (foldG g f) := by
  intro j x hx
  by_cases hj : j < g.length
  case neg =>
    have : row (foldG g f) j = [] := by simp [row, List.getElem?_eq_none (show (foldG g f).length ≤ j by rw [foldG_length]; omega)]
    rw [this] at hx
    cases hx
  rw [row_foldG g f hj] at hx
  have k1 : ∀ x ∈ fr1 g f j, 0 ≤ x ∧ x < n := by
    intro x hx
    unfold fr1 at hx
    split at hx
    · cases hx
    · exact h j x (mem_lessL.1 hx).1
  have k2 : ∀ x ∈ fr2 g f j, 0 ≤ x ∧ x < n := by
    intro x hx
    unfold fr2 at hx
    split at hx
    · rename_i hc
      rcases mem_intoL' hx with h1 | rfl
      · exact k1 x h1
      · exact ⟨hc.2, hf.B1⟩
    · exact k1 x hx
  unfold foldRow at hx
  split at hx
  · rename_i hc
    rcases mem_intoL' hx with h1 | rfl
    · exact k2 x h1
    · exact ⟨hf.BA (by omega), hf.A1⟩
  · exact k2 x hx

theorem folds_in {n : Nat} {g : List (List Int)} {left : List Int} {fs : List Fd} {l : List Int} {g' : List (List Int)} (h : Folds g left fs l g') : RowsIn n g → (∀ x ∈ left, 0 ≤ x ∧ x < n) → ∀ f ∈ fs, FdIn n f := by
  induction h with
  | stop _ => intro _ _ f hf; cases hf
  | step h1 h2 h ih =>
    intro hg hl f hf
    rename_i g l1 l2 v fs l g'
    have hv := hl v (by simp)
    have ha := atRow_in hv (hg v.toNat)
    rcases List.mem_cons.1 hf with rfl | hf
    · exact ha
    · exact ih (foldG_in hg ha) (fun x hx => hl x (mem_lessL.1 hx).1) f hf

theorem foldedS_in {g : List (List Int)} {fs : List Fd} {l : List Int} (h : FoldedS g fs l) : ∀ f ∈ fs, FdIn g.length f := by
  rcases h with ⟨hg, g', h⟩ | ⟨_, rfl, _⟩
  · refine folds_in h ?_ ?_
    · intro j x hx
      by_cases hj : j < g.length
      · have := (hg.sets j hj).1.1 x hx
        exact this
      · have : row g j = [] := by simp [row, List.getElem?_eq_none (show g.length ≤ j by omega)]
        rw [this] at hx
        cases hx
    · intro x hx
      simp only [allL, List.mem_map, List.mem_range] at hx
      obtain ⟨i, hi, rfl⟩ := hx
      omega
  · intro f hf; cases hf

/-- A colour that a fold's neighbours bear. -/
def Taken (out : List Int) (f : Fd) (n : Int) : Prop := (0 ≤ f.A ∧ out.getD f.A.toNat 0 = n) ∨ (0 ≤ f.B ∧ out.getD f.B.toNat 0 = n)
instance (out : List Int) (f : Fd) (n : Int) : Decidable (Taken out f n) := by unfold Taken; infer_instance
def colN (out : List Int) (f : Fd) : Nat := if Taken out f 0 then (if Taken out f 1 then 2 else 1) else 0
theorem colN_le (out : List Int) (f : Fd) : colN out f ≤ 2 := by
  unfold colN; split
  · split <;> omega
  · omega
theorem colN_lt {out : List Int} {f : Fd} {k : Nat} (h : k < colN out f) : Taken out f k := by
  unfold colN at h
  split at h
  · split at h
    · match k, h with
      | 0, _ => assumption
      | 1, _ => assumption
    · match k, h with
      | 0, _ => assumption
  · omega
theorem colN_free {out : List Int} {f : Fd} : ¬ Taken out f (colN out f) := by
  unfold colN
  split
  · split
    · rename_i h0 h1
      intro h2
      unfold Taken at h0 h1 h2
      have e0 : ((2 : Nat) : Int) = 2 := rfl
      rw [e0] at h2
      omega
    · assumption
  · assumption
def colStep (out : List Int) (f : Fd) : List Int := out.set f.V.toNat (colN out f)
def colL (n : Nat) (fs : List Fd) : List Int := fs.foldr (fun f out => colStep out f) (List.replicate n 0)
theorem colL_length (n : Nat) (fs : List Fd) : (colL n fs).length = n := by
  induction fs with
  | nil => simp [colL]
  | cons f fs ih => simp only [colL, List.foldr_cons, colStep, List.length_set] at ih ⊢; exact ih
theorem colL_lt (n : Nat) (fs : List Fd) : ∀ x ∈ colL n fs, x = 0 ∨ x = 1 ∨ x = 2 := by
  induction fs with
  | nil => intro x hx; simp only [colL, List.foldr_nil, List.mem_replicate] at hx; exact .inl hx.2
  | cons f fs ih =>
    intro x hx
    simp only [colL, List.foldr_cons, colStep] at ih hx
    rcases List.mem_or_eq_of_mem_set hx with h | rfl
    · exact ih x h
    · have := colN_le (List.foldr (fun f out => out.set f.V.toNat (colN out f)) (List.replicate n 0) fs) f
      omega
theorem colL_step (n : Nat) (fs : List Fd) (k : Nat) (h : k < fs.length) : colL n (fs.drop k) = colStep (colL n (fs.drop (k + 1))) fs[k] := by
  rw [List.drop_eq_getElem_cons h]
  rfl

/-- What ThreeColours returns. -/
def ColS (g : List (List Int)) (ys : List Int) : Prop := (SerS g ∧ ∃ fs l, FoldedS g fs l ∧ ys = colL g.length fs) ∨ (¬ SerS g ∧ ys = [])

end Go.Proofs.YtfphapcgjlhieaaDoor

/- Plain: the core of a graph; graphs that are written as matrices. -/
namespace Go.Proofs.YtfphapcgjlhieaaDoor

theorem graph_ext {g h : List (List Int)} (hl : g.length = h.length) (hr : ∀ j, j < g.length → row g j = row h j) : g = h := by
  refine List.ext_getElem hl fun j h1 h2 => ?_
  have := hr j h1
  simpa [row, h1, h2] using this
theorem row_set (g : List (List Int)) (u j : Nat) (s : List Int) (hu : u < g.length) : row (g.set u s) j = if j = u then s else row g j := by
  by_cases e : j = u
  · subst e; simp [row, hu]
  · rw [if_neg e]
    simp [row, show ¬ u = j from fun h => e h.symm]
theorem row_out {g : List (List Int)} {j : Nat} (h : ¬ j < g.length) : row g j = [] := by simp [row, List.getElem?_eq_none (show g.length ≤ j by omega)]

/-- The graph of m vertices with the edges E. -/
def matG (m : Nat) (E : Nat → Nat → Bool) : List (List Int) := (List.range m).map fun r => natInts ((List.range m).filter (E r))
theorem matG_length (m : Nat) (E : Nat → Nat → Bool) : (matG m E).length = m := by simp [matG]
theorem row_matG {m : Nat} {E : Nat → Nat → Bool} {r : Nat} (hr : r < m) : row (matG m E) r = natInts ((List.range m).filter (E r)) := by simp [row, matG, hr]
theorem mem_matG {m : Nat} {E : Nat → Nat → Bool} {r : Nat} (hr : r < m) {x : Int} : x ∈ row (matG m E) r ↔ ∃ j : Nat, (j : Int) = x ∧ j < m ∧ E r j = true := by
  rw [row_matG hr, mem_natInts]
  simp only [List.mem_filter, List.mem_range]
  constructor
  · rintro ⟨i, ⟨h1, h2⟩, rfl⟩; exact ⟨i, rfl, h1, h2⟩
  · rintro ⟨i, rfl, h1, h2⟩; exact ⟨i, ⟨h1, h2⟩, rfl⟩
theorem matG_rising {m : Nat} {E : Nat → Nat → Bool} {r : Nat} (hr : r < m) : (row (matG m E) r).Pairwise (· < ·) := by
  rw [row_matG hr]
  exact natInts_rising (List.Pairwise.filter _ List.pairwise_lt_range)
theorem matG_congr {m : Nat} {E F : Nat → Nat → Bool} (h : ∀ r j, r < m → j < m → E r j = F r j) : matG m E = matG m F := by
  refine graph_ext (by simp [matG_length]) fun r hr => ?_
  rw [matG_length] at hr
  refine rising_ext_int _ _ (matG_rising hr) (matG_rising hr) fun x => ?_
  rw [mem_matG hr, mem_matG hr]
  constructor <;> rintro ⟨j, rfl, h1, h2⟩ <;> exact ⟨j, rfl, h1, by rw [← h2, h r j hr h1]⟩
theorem matG_none (m : Nat) {E : Nat → Nat → Bool} (h : ∀ r j, r < m → j < m → E r j = false) : matG m E = List.replicate m [] := by
  refine graph_ext (by simp [matG_length]) fun r hr => ?_
  rw [matG_length] at hr
  rw [row_matG hr]
  have e : (List.range m).filter (E r) = [] := by
    rw [List.filter_eq_nil_iff]
    intro j hj
    rw [h r j hr (by simpa using hj)]
    simp
  rw [e]
  simp [row, natInts, hr]
theorem matG_row_le {m : Nat} {E : Nat → Nat → Bool} (r : Nat) : (row (matG m E) r).length ≤ m := by
  by_cases hr : r < m
  · rw [row_matG hr, natInts_length]
    exact Nat.le_trans (List.length_filter_le _ _) (by simp)
  · rw [row_out (by rw [matG_length]; exact hr)]; simp

/-- Two vertices linked. -/
def linkL (g : List (List Int)) (u v : Nat) : List (List Int) := (g.set u (intoL (row g u) v)).set v (intoL (row (g.set u (intoL (row g u) v)) v) u)
theorem linkL_length (g : List (List Int)) (u v : Nat) : (linkL g u v).length = g.length := by simp [linkL]
theorem link_matG {m : Nat} {E : Nat → Nat → Bool} {u v : Nat} (hu : u < m) (hv : v < m) (huv : u ≠ v) :
    linkL (matG m E) u v = matG m (fun r j => E r j || (r == u && j == v) || (r == v && j == u)) := by
  have hl := matG_length m E
  have hrow : ∀ r, row (linkL (matG m E) u v) r = if r = v then intoL (row (matG m E) v) u else if r = u then intoL (row (matG m E) u) v else row (matG m E) r := by
    intro r
    unfold linkL
    rw [row_set _ _ _ _ (by simpa [hl] using hv)]
    by_cases e : r = v
    · rw [if_pos e, if_pos e, row_set _ _ _ _ (by omega), if_neg (fun h => huv h.symm)]
    · rw [if_neg e, if_neg e, row_set _ _ _ _ (by omega)]
  refine graph_ext (by rw [linkL_length, matG_length, matG_length]) fun r hr => ?_
  rw [linkL_length, matG_length] at hr
  rw [hrow]
  by_cases e : r = v
  · subst e
    rw [if_pos rfl]
    refine rising_ext_int _ _ (intoL_rising (matG_rising hr)) (matG_rising hr) fun x => ?_
    rw [mem_intoL, mem_matG hr, mem_matG hr]
    constructor
    · rintro (⟨j, rfl, h1, h2⟩ | rfl)
      · exact ⟨j, rfl, h1, by simp [h2]⟩
      · exact ⟨u, rfl, hu, by simp⟩
    · rintro ⟨j, rfl, h1, h2⟩
      simp only [Bool.or_eq_true, Bool.and_eq_true, beq_iff_eq] at h2
      rcases h2 with (h2 | ⟨h2, _⟩) | ⟨_, h2⟩
      · exact .inl ⟨j, rfl, h1, h2⟩
      · exact absurd h2.symm huv
      · exact .inr (by rw [h2])
  · rw [if_neg e]
    by_cases e2 : r = u
    · subst e2
      rw [if_pos rfl]
      refine rising_ext_int _ _ (intoL_rising (matG_rising hr)) (matG_rising hr) fun x => ?_
      rw [mem_intoL, mem_matG hr, mem_matG hr]
      constructor
      · rintro (⟨j, rfl, h1, h2⟩ | rfl)
        · exact ⟨j, rfl, h1, by simp [h2]⟩
        · exact ⟨v, rfl, hv, by simp⟩
      · rintro ⟨j, rfl, h1, h2⟩
        simp only [Bool.or_eq_true, Bool.and_eq_true, beq_iff_eq] at h2
        rcases h2 with (h2 | ⟨_, h2⟩) | ⟨h2, _⟩
        · exact .inl ⟨j, rfl, h1, h2⟩
        · exact .inr (by rw [h2])
        · exact absurd h2 e
    · rw [if_neg e2]
      refine rising_ext_int _ _ (matG_rising hr) (matG_rising hr) fun x => ?_
      rw [mem_matG hr, mem_matG hr]
      constructor <;> rintro ⟨j, rfl, h1, h2⟩ <;> refine ⟨j, rfl, h1, ?_⟩ <;> simpa [e, e2] using h2

/-- The edges among the first vertices: what the reference's double loop has made. -/
def uptoE (E : Nat → Nat → Bool) (i k : Nat) : Nat → Nat → Bool := fun r j => E r j && (decide (max r j < i) || (decide (max r j = i) && decide (min r j < k)))
structure SymE (m : Nat) (E : Nat → Nat → Bool) : Prop where
  sym : ∀ r j, r < m → j < m → E r j = E j r
  irr : ∀ r, r < m → E r r = false
theorem upto_start (m : Nat) (E : Nat → Nat → Bool) : matG m (uptoE E 0 0) = List.replicate m [] := matG_none m fun r j _ _ => by simp [uptoE]
theorem upto_row {m : Nat} {E : Nat → Nat → Bool} (h : SymE m E) {i : Nat} : matG m (uptoE E i i) = matG m (uptoE E (i + 1) 0) := by
  refine matG_congr fun r j hr hj => ?_
  by_cases e : r = j
  · subst e; simp [uptoE, h.irr r hr]
  · unfold uptoE
    congr 1
    by_cases h1 : max r j < i
    · simp [h1, show max r j < i + 1 by omega]
    · by_cases h2 : max r j = i
      · have : min r j < i := by omega
        simp [h2, this]
      · simp [h1, h2, show ¬ max r j < i + 1 by omega]
theorem upto_end {m : Nat} {E : Nat → Nat → Bool} : matG m (uptoE E m 0) = matG m E := by
  refine matG_congr fun r j hr hj => ?_
  simp [uptoE, show max r j < m by omega]
theorem upto_yes {m : Nat} {E : Nat → Nat → Bool} (h : SymE m E) {i k : Nat} (hi : i < m) (hk : k < i) (he : E i k = true) : linkL (matG m (uptoE E i k)) k i = matG m (uptoE E i (k + 1)) := by
  rw [link_matG (by omega) hi (by omega)]
  refine matG_congr fun r j hr hj => ?_
  have he' : E k i = true := by rw [h.sym k i (by omega) hi]; exact he
  by_cases h1 : r = k ∧ j = i
  · obtain ⟨rfl, rfl⟩ := h1
    have e1 : max r j = j := by omega
    have e2 : min r j < r + 1 := by omega
    simp [uptoE, he', e1, e2]
  by_cases h2 : r = i ∧ j = k
  · obtain ⟨rfl, rfl⟩ := h2
    have e1 : max r j = r := by omega
    have e2 : min r j < j + 1 := by omega
    simp [uptoE, he, e1, e2]
  have e1 : (r == k && j == i) = false := by
    simp only [Bool.and_eq_false_iff, beq_eq_false_iff_ne]
    by_cases hh : r = k
    · exact .inr fun q => h1 ⟨hh, q⟩
    · exact .inl hh
  have e2 : (r == i && j == k) = false := by
    simp only [Bool.and_eq_false_iff, beq_eq_false_iff_ne]
    by_cases hh : r = i
    · exact .inr fun q => h2 ⟨hh, q⟩
    · exact .inl hh
  simp only [e1, e2, Bool.or_false]
  unfold uptoE
  congr 2
  by_cases e : max r j = i
  · have : min r j < k ↔ min r j < k + 1 := by omega
    simp [this]
  · simp [e]
theorem upto_no {m : Nat} {E : Nat → Nat → Bool} (h : SymE m E) {i k : Nat} (hi : i < m) (hk : k < i) (he : E i k = false) : matG m (uptoE E i k) = matG m (uptoE E i (k + 1)) := by
  refine matG_congr fun r j hr hj => ?_
  have he' : E k i = false := by rw [h.sym k i (by omega) hi]; exact he
  by_cases h1 : r = k ∧ j = i
  · obtain ⟨rfl, rfl⟩ := h1
    simp [uptoE, he']
  by_cases h2 : r = i ∧ j = k
  · obtain ⟨rfl, rfl⟩ := h2
    simp [uptoE, he]
  unfold uptoE
  congr 2
  by_cases e : max r j = i
  · have : min r j < k ↔ min r j < k + 1 := by omega
    simp [this]
  · simp [e]

/-- Which of the listed vertices are neighbours. -/
def indE (g : List (List Int)) (l : List Int) : Nat → Nat → Bool := fun r j => decide (l.getD j 0 ∈ row g (l.getD r 0).toNat)
def indL (g : List (List Int)) (l : List Int) : List (List Int) := matG l.length (indE g l)
theorem getD_int {l : List Int} {j : Nat} (h : j < l.length) : l.getD j 0 = l[j] := by simp [h]
theorem indE_sym {g : List (List Int)} (hg : GOk g) {l : List Int} (hl : ∀ x ∈ l, 0 ≤ x ∧ x < g.length) : SymE l.length (indE g l) := by
  refine ⟨fun r j hr hj => ?_, fun r hr => ?_⟩
  · unfold indE
    rw [getD_int hr, getD_int hj]
    have hr' := hl _ (List.getElem_mem hr)
    have hj' := hl _ (List.getElem_mem hj)
    have h1 := hg.both (l[r].toNat) (by omega)
    have h2 := hg.both (l[j].toNat) (by omega)
    have e1 : ((l[r].toNat : Nat) : Int) = l[r] := Int.toNat_of_nonneg hr'.1
    have e2 : ((l[j].toNat : Nat) : Int) = l[j] := Int.toNat_of_nonneg hj'.1
    rw [e1] at h1
    rw [e2] at h2
    exact decide_eq_decide.2 ⟨fun h => h1 _ h, fun h => h2 _ h⟩
  · unfold indE
    rw [getD_int hr]
    have hr' := hl _ (List.getElem_mem hr)
    have h := (hg.sets (l[r].toNat) (by omega)).2
    rw [Int.toNat_of_nonneg hr'.1] at h
    exact decide_eq_false h

/-- Folding keeps a graph right. -/
theorem foldG_ok {g : List (List Int)} (hg : GOk g) {v : Nat} (hv : v < g.length) (h2 : (row g v).length ≤ 2) : GOk (foldG g (atRow v (row g v))) := by
  obtain ⟨hs, hirr⟩ := hg.sets v hv
  obtain ⟨hV, hAB⟩ := atRow_cases (v : Int) hs.2 h2 (fun x hx => (hs.1 x hx).1)
  have hA : 0 ≤ (atRow (v : Int) (row g v)).B → (atRow (v : Int) (row g v)).A ∈ row g v ∧ (atRow (v : Int) (row g v)).B ∈ row g v ∧ (atRow (v : Int) (row g v)).A ≠ (atRow (v : Int) (row g v)).B := by
    intro h
    rcases hAB with ⟨hB, _⟩ | ⟨h1, h3, _, _, h5⟩
    · omega
    · exact ⟨h1, h3, by omega⟩
  generalize hf : atRow (v : Int) (row g v) = f at *
  have hA1 : 0 ≤ f.B → (0 ≤ f.A ∧ f.A < g.length) ∧ (0 ≤ f.B ∧ f.B < g.length) ∧ f.A ≠ v ∧ f.B ≠ v ∧ f.A ≠ f.B := by
    intro h
    obtain ⟨a1, a2, a3⟩ := hA h
    exact ⟨hs.1 _ a1, hs.1 _ a2, fun e => hirr (e ▸ a1), fun e => hirr (e ▸ a2), a3⟩
  have hmem : ∀ u, u < g.length → ∀ x, x ∈ foldRow g f u ↔ ((u : Int) ≠ v ∧ x ≠ v ∧ x ∈ row g u) ∨ (0 ≤ f.B ∧ (((u : Int) = f.A ∧ x = f.B) ∨ ((u : Int) = f.B ∧ x = f.A))) := by
    intro u hu x
    have k1 : ∀ x, x ∈ fr1 g f u ↔ ((u : Int) ≠ v ∧ x ≠ v ∧ x ∈ row g u) := by
      intro x
      by_cases e : (u : Int) = f.V
      · rw [fr1_yes e]; rw [hV] at e; simp [e]
      · rw [fr1_no e, mem_lessL]; rw [hV] at e ⊢; simp [e]; exact and_comm
    have k2 : ∀ x, x ∈ fr2 g f u ↔ ((u : Int) ≠ v ∧ x ≠ v ∧ x ∈ row g u) ∨ (0 ≤ f.B ∧ (u : Int) = f.A ∧ x = f.B) := by
      intro x
      by_cases e : (u : Int) = f.A ∧ 0 ≤ f.B
      · rw [fr2_yes e.1 e.2, mem_intoL, k1]; simp [e.1, e.2]
      · rw [fr2_no e, k1]
        constructor
        · exact .inl
        · rintro (h | h)
          · exact h
          · exact absurd ⟨h.2.1, h.1⟩ e
    by_cases e : (u : Int) = f.B
    · rw [foldRow_yes e, mem_intoL, k2]
      have hB : 0 ≤ f.B := by omega
      have := (hA1 hB).2.2.2.2
      constructor
      · rintro ((h | h) | h)
        · exact .inl h
        · exact absurd (h.2.1.symm.trans e) this
        · exact .inr ⟨hB, .inr ⟨e, h⟩⟩
      · rintro (h | ⟨_, h | h⟩)
        · exact .inl (.inl h)
        · exact absurd (h.1.symm.trans e) this
        · exact .inr h.2
    · rw [foldRow_no e, k2]
      constructor
      · rintro (h | h)
        · exact .inl h
        · exact .inr ⟨h.1, .inl h.2⟩
      · rintro (h | ⟨h0, h | h⟩)
        · exact .inl h
        · exact .inr ⟨h0, h⟩
        · exact absurd h.1 e
  have hris : ∀ u, u < g.length → (foldRow g f u).Pairwise (· < ·) := by
    intro u hu
    have k1 : (fr1 g f u).Pairwise (· < ·) := by
      by_cases e : (u : Int) = f.V
      · rw [fr1_yes e]; exact List.Pairwise.nil
      · rw [fr1_no e]; exact lessL_rising (hg.sets u hu).1.2 _
    have k2 : (fr2 g f u).Pairwise (· < ·) := by
      by_cases e : (u : Int) = f.A ∧ 0 ≤ f.B
      · rw [fr2_yes e.1 e.2]; exact intoL_rising k1
      · rw [fr2_no e]; exact k1
    by_cases e : (u : Int) = f.B
    · rw [foldRow_yes e]; exact intoL_rising k2
    · rw [foldRow_no e]; exact k2
  refine ⟨by rw [foldG_length]; exact hg.pos, by rw [foldG_length]; exact hg.le, fun u hu => ?_, fun u hu x hx => ?_⟩
  · rw [foldG_length] at hu ⊢
    rw [row_foldG g f hu]
    refine ⟨⟨fun x hx => ?_, hris u hu⟩, fun h => ?_⟩
    · rcases (hmem u hu x).1 hx with ⟨_, _, h⟩ | ⟨h0, ⟨_, rfl⟩ | ⟨_, rfl⟩⟩
      · exact (hg.sets u hu).1.1 x h
      · exact (hA1 h0).2.1
      · exact (hA1 h0).1
    · rcases (hmem u hu _).1 h with ⟨_, _, h⟩ | ⟨h0, ⟨e1, e2⟩ | ⟨e1, e2⟩⟩
      · exact (hg.sets u hu).2 h
      · exact (hA1 h0).2.2.2.2 (e1.symm.trans e2)
      · exact (hA1 h0).2.2.2.2 (e2.symm.trans e1)
  · rw [foldG_length] at hu
    rw [row_foldG g f hu] at hx
    rcases (hmem u hu x).1 hx with ⟨h1, h3, h⟩ | ⟨h0, h⟩
    · obtain ⟨x0, xn⟩ := (hg.sets u hu).1.1 x h
      have hb := hg.both u hu x h
      rw [row_foldG g f (by omega)]
      refine (hmem _ (by omega) _).2 (.inl ⟨by omega, h1, hb⟩)
    · obtain ⟨⟨a0, an⟩, ⟨b0, bn⟩, _⟩ := hA1 h0
      rcases h with ⟨e1, rfl⟩ | ⟨e1, rfl⟩
      · rw [row_foldG g f (by omega)]
        exact (hmem _ (by omega) _).2 (.inr ⟨h0, .inr ⟨by omega, e1⟩⟩)
      · rw [row_foldG g f (by omega)]
        exact (hmem _ (by omega) _).2 (.inr ⟨h0, .inl ⟨by omega, e1⟩⟩)

theorem folds_ok {g : List (List Int)} {left : List Int} {fs : List Fd} {l : List Int} {g' : List (List Int)} (h : Folds g left fs l g') : GOk g → (∀ x ∈ left, 0 ≤ x ∧ x < g.length) → left.Pairwise (· < ·) → GOk g' ∧ g'.length = g.length ∧ SetIn g.length l := by
  induction h with
  | stop _ => intro hg hl hs; exact ⟨hg, rfl, hl, hs⟩
  | step h1 h2 h ih =>
    intro hg hl hs
    rename_i g l1 l2 v fs l g'
    have hv := hl v (by simp)
    obtain ⟨n, rfl⟩ := Int.eq_ofNat_of_zero_le hv.1
    have hgo := foldG_ok hg (v := n) (by omega) h2
    obtain ⟨r1, r2, r3⟩ := ih hgo (fun x hx => by rw [foldG_length]; exact hl x (mem_lessL.1 hx).1) (lessL_rising hs _)
    rw [foldG_length] at r2 r3
    exact ⟨r1, r2, r3⟩

/-- What CoreOf returns. -/
def CoreS (g gg : List (List Int)) (ok : Bool) : Prop :=
  (ok = true ∧ GOk g ∧ ∃ fs l g', Folds g (allL g.length) fs l g' ∧ l ≠ [] ∧ gg = indL g' l) ∨ (ok = false ∧ gg = [] ∧ (¬ GOk g ∨ ∃ fs g', Folds g (allL g.length) fs [] g'))
theorem coreS_det {g gg hh : List (List Int)} {ok ok' : Bool} (h : CoreS g gg ok) (h' : CoreS g hh ok') : gg = hh ∧ ok = ok' := by
  rcases h with ⟨rfl, hg, fs, l, g', hf, hl, rfl⟩ | ⟨rfl, rfl, h⟩ <;> rcases h' with ⟨rfl, hg', fs2, l2, g2, hf2, hl2, rfl⟩ | ⟨rfl, rfl, h'⟩
  · obtain ⟨_, rfl, rfl⟩ := folds_det hf hf2
    exact ⟨rfl, rfl⟩
  · rcases h' with h' | ⟨fs2, g2, h'⟩
    · exact absurd hg h'
    · obtain ⟨_, rfl, _⟩ := folds_det hf h'
      exact absurd rfl hl
  · rcases h with h | ⟨fs3, g3, h⟩
    · exact absurd hg' h
    · obtain ⟨_, rfl, _⟩ := folds_det hf2 h
      exact absurd rfl hl2
  · exact ⟨rfl, rfl⟩

end Go.Proofs.YtfphapcgjlhieaaDoor
