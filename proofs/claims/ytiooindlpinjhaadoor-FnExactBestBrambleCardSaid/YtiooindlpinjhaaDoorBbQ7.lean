/- Plain: colouring along a folding order. -/
import Derived.Test.YtiooindlpinjhaaDoorBbQ5
import Derived.Test.YtiooindlpinjhaaDoorBbQ6
import Derived.Test.YtiooindlpinjhaaDoorBbQ3
import Derived.Deep.RegionHeld3
import Derived.Deep.DeepCutAuto
namespace Go.Proofs.YtiooindlpinjhaaDoor

structure FdIn (n : Nat) (f : Fd) : Prop where
  V0 : 0 ≤ f.V
  V1 : f.V < n
  A0 : -1 ≤ f.A
  A1 : f.A < n
  B0 : -1 ≤ f.B
  B1 : f.B < n
  BA : 0 ≤ f.B → 0 ≤ f.A

def RowsIn (n : Nat) (g : List (List Int)) : Prop := ∀ j, ∀ x ∈ row g j, 0 ≤ x ∧ x < n

theorem atRow_in {n : Nat} {v : Int} {r : List Int} (hv : 0 ≤ v ∧ v < n) (h : ∀ x ∈ r, 0 ≤ x ∧ x < n) : FdIn n (atRow v r) := by
  match r, h with
  | [], _ => exact ⟨hv.1, hv.2, by simp [atRow], by simp [atRow]; omega, by simp [atRow], by simp [atRow]; omega, by simp [atRow]⟩
  | [a], h =>
    have := h a (by simp)
    exact ⟨hv.1, hv.2, by simp [atRow]; omega, by simp [atRow]; omega, by simp [atRow], by simp [atRow]; omega, by simp [atRow]⟩
  | a :: b :: r, h =>
    have h1 := h a (by simp)
    have h2 := h b (by simp)
    exact ⟨hv.1, hv.2, by simp [atRow]; omega, by simp [atRow]; omega, by simp [atRow]; omega, by simp [atRow]; omega, by simp [atRow]; omega⟩

theorem mem_intoL' {n x : Int} {l : List Int} (h : x ∈ intoL l n) : x ∈ l ∨ x = n := mem_intoL.1 h

theorem foldG_in {n : Nat} {g : List (List Int)} {f : Fd} (h : RowsIn n g) (hf : FdIn n f) : RowsIn n (foldG g f) := by
  intro j x hx
  by_cases hj : j < g.length
  case neg =>
    have : row (foldG g f) j = [] := by simp [row, List.getElem?_eq_none (show (foldG g f).length ≤ j by rw [foldG_length]; omega)]
    rw [this] at hx
    cases hx
  rw [row_foldG g f hj] at hx
  have k1 : ∀ x ∈ fr1 g f j, 0 ≤ x ∧ x < n := by
    intro x hx
    unfold fr1 at hx
    split at hx
    · cases hx
    · exact h j x (mem_lessL.1 hx).1
  have k2 : ∀ x ∈ fr2 g f j, 0 ≤ x ∧ x < n := by
    intro x hx
    unfold fr2 at hx
    split at hx
    · rename_i hc
      rcases mem_intoL' hx with h1 | rfl
      · exact k1 x h1
      · exact ⟨hc.2, hf.B1⟩
    · exact k1 x hx
  unfold foldRow at hx
  split at hx
  · rename_i hc
    rcases mem_intoL' hx with h1 | rfl
    · exact k2 x h1
    · exact ⟨hf.BA (by omega), hf.A1⟩
  · exact k2 x hx

theorem folds_in {n : Nat} {g : List (List Int)} {left : List Int} {fs : List Fd} {l : List Int} {g' : List (List Int)} (h : Folds g left fs l g') : RowsIn n g → (∀ x ∈ left, 0 ≤ x ∧ x < n) → ∀ f ∈ fs, FdIn n f := by
  induction h with
  | stop _ => intro _ _ f hf; cases hf
  | step h1 h2 h ih =>
    intro hg hl f hf
    rename_i g l1 l2 v fs l g'
    have hv := hl v (by simp)
    have ha := atRow_in hv (hg v.toNat)
    rcases List.mem_cons.1 hf with rfl | hf
    · exact ha
    · exact ih (foldG_in hg ha) (fun x hx => hl x (mem_lessL.1 hx).1) f hf

theorem foldedS_in {g : List (List Int)} {fs : List Fd} {l : List Int} (h : FoldedS g fs l) : ∀ f ∈ fs, FdIn g.length f := by
  rcases h with ⟨hg, g', h⟩ | ⟨_, rfl, _⟩
  · refine folds_in h ?_ ?_
    · intro j x hx
      by_cases hj : j < g.length
      · have := (hg.sets j hj).1.1 x hx
        exact this
      · have : row g j = [] := by simp [row, List.getElem?_eq_none (show g.length ≤ j by omega)]
        rw [this] at hx
        cases hx
    · intro x hx
      simp only [allL, List.mem_map, List.mem_range] at hx
      obtain ⟨i, hi, rfl⟩ := hx
      omega
  · intro f hf; cases hf

/-- A colour that a fold's neighbours bear. -/
def Taken (out : List Int) (f : Fd) (n : Int) : Prop := (0 ≤ f.A ∧ out.getD f.A.toNat 0 = n) ∨ (0 ≤ f.B ∧ out.getD f.B.toNat 0 = n)
instance (out : List Int) (f : Fd) (n : Int) : Decidable (Taken out f n) := by unfold Taken; infer_instance
def colN (out : List Int) (f : Fd) : Nat := if Taken out f 0 then (if Taken out f 1 then 2 else 1) else 0
theorem colN_le (out : List Int) (f : Fd) : colN out f ≤ 2 := by
  unfold colN; split
  · split <;> omega
  · omega
theorem colN_lt {out : List Int} {f : Fd} {k : Nat} (h : k < colN out f) : Taken out f k := by
  unfold colN at h
  split at h
  · split at h
    · match k, h with
      | 0, _ => assumption
      | 1, _ => assumption
    · match k, h with
      | 0, _ => assumption
  · omega
theorem colN_free {out : List Int} {f : Fd} : ¬ Taken out f (colN out f) := by
  unfold colN
  split
  · split
    · rename_i h0 h1
      intro h2
      unfold Taken at h0 h1 h2
      have e0 : ((2 : Nat) : Int) = 2 := rfl
      rw [e0] at h2
      omega
    · assumption
  · assumption
def colStep (out : List Int) (f : Fd) : List Int := out.set f.V.toNat (colN out f)
def colL (n : Nat) (fs : List Fd) : List Int := fs.foldr (fun f out => colStep out f) (List.replicate n 0)
theorem colL_length (n : Nat) (fs : List Fd) : (colL n fs).length = n := by
  induction fs with
  | nil => simp [colL]
  | cons f fs ih => simp only [colL, List.foldr_cons, colStep, List.length_set] at ih ⊢; exact ih
theorem colL_lt (n : Nat) (fs : List Fd) : ∀ x ∈ colL n fs, x = 0 ∨ x = 1 ∨ x = 2 := by
  induction fs with
  | nil => intro x hx; simp only [colL, List.foldr_nil, List.mem_replicate] at hx; exact .inl hx.2
  | cons f fs ih =>
    intro x hx
    simp only [colL, List.foldr_cons, colStep] at ih hx
    rcases List.mem_or_eq_of_mem_set hx with h | rfl
    · exact ih x h
    · have := colN_le (List.foldr (fun f out => out.set f.V.toNat (colN out f)) (List.replicate n 0) fs) f
      omega
theorem colL_step (n : Nat) (fs : List Fd) (k : Nat) (h : k < fs.length) : colL n (fs.drop k) = colStep (colL n (fs.drop (k + 1))) fs[k] := by
  rw [List.drop_eq_getElem_cons h]
  rfl

/-- What ThreeColours returns. -/
def ColS (g : List (List Int)) (ys : List Int) : Prop := (SerS g ∧ ∃ fs l, FoldedS g fs l ∧ ys = colL g.length fs) ∨ (¬ SerS g ∧ ys = [])

end Go.Proofs.YtiooindlpinjhaaDoor

/- Plain: the core of a graph; graphs that are written as matrices. -/
namespace Go.Proofs.YtiooindlpinjhaaDoor

theorem graph_ext {g h : List (List Int)} (hl : g.length = h.length) (hr : ∀ j, j < g.length → row g j = row h j) : g = h := by
  refine List.ext_getElem hl fun j h1 h2 => ?_
  have := hr j h1
  simpa [row, h1, h2] using this
theorem row_set (g : List (List Int)) (u j : Nat) (s : List Int) (hu : u < g.length) : row (g.set u s) j = if j = u then s else row g j := by
  by_cases e : j = u
  · subst e; simp [row, hu]
  · rw [if_neg e]
    simp [row, show ¬ u = j from fun h => e h.symm]
theorem row_out {g : List (List Int)} {j : Nat} (h : ¬ j < g.length) : row g j = [] := by simp [row, List.getElem?_eq_none (show g.length ≤ j by omega)]

/-- The graph of m vertices with the edges E. -/
def matG (m : Nat) (E : Nat → Nat → Bool) : List (List Int) := (List.range m).map fun r => natInts ((List.range m).filter (E r))
theorem matG_length (m : Nat) (E : Nat → Nat → Bool) : (matG m E).length = m := by simp [matG]
theorem row_matG {m : Nat} {E : Nat → Nat → Bool} {r : Nat} (hr : r < m) : row (matG m E) r = natInts ((List.range m).filter (E r)) := by simp [row, matG, hr]
theorem mem_matG {m : Nat} {E : Nat → Nat → Bool} {r : Nat} (hr : r < m) {x : Int} : x ∈ row (matG m E) r ↔ ∃ j : Nat, (j : Int) = x ∧ j < m ∧ E r j = true := by
  rw [row_matG hr, mem_natInts]
  simp only [List.mem_filter, List.mem_range]
  constructor
  · rintro ⟨i, ⟨h1, h2⟩, rfl⟩; exact ⟨i, rfl, h1, h2⟩
  · rintro ⟨i, rfl, h1, h2⟩; exact ⟨i, ⟨h1, h2⟩, rfl⟩
theorem matG_rising {m : Nat} {E : Nat → Nat → Bool} {r : Nat} (hr : r < m) : (row (matG m E) r).Pairwise (· < ·) := by
  rw [row_matG hr]
  exact natInts_rising (List.Pairwise.filter _ List.pairwise_lt_range)
theorem matG_congr {m : Nat} {E F : Nat → Nat → Bool} (h : ∀ r j, r < m → j < m → E r j = F r j) : matG m E = matG m F := by
  refine graph_ext (by simp [matG_length]) fun r hr => ?_
  rw [matG_length] at hr
  refine rising_ext_int _ _ (matG_rising hr) (matG_rising hr) fun x => ?_
  rw [mem_matG hr, mem_matG hr]
  constructor <;> rintro ⟨j, rfl, h1, h2⟩ <;> exact ⟨j, rfl, h1, by rw [← h2, h r j hr h1]⟩
theorem matG_none (m : Nat) {E : Nat → Nat → Bool} (h : ∀ r j, r < m → j < m → E r j = false) : matG m E = List.replicate m [] := by
  refine graph_ext (by simp [matG_length]) fun r hr => ?_
  rw [matG_length] at hr
  rw [row_matG hr]
  have e : (List.range m).filter (E r) = [] := by
    rw [List.filter_eq_nil_iff]
    intro j hj
    rw [h r j hr (by simpa using hj)]
    simp
  rw [e]
  simp [row, natInts, hr]
theorem matG_row_le {m : Nat} {E : Nat → Nat → Bool} (r : Nat) : (row (matG m E) r).length ≤ m := by
  by_cases hr : r < m
  · rw [row_matG hr, natInts_length]
    exact Nat.le_trans (List.length_filter_le _ _) (by simp)
  · rw [row_out (by rw [matG_length]; exact hr)]; simp

/-- Two vertices linked. -/
def linkL (g : List (List Int)) (u v : Nat) : List (List Int) := (g.set u (intoL (row g u) v)).set v (intoL (row (g.set u (intoL (row g u) v)) v) u)
theorem linkL_length (g : List (List Int)) (u v : Nat) : (linkL g u v).length = g.length := by simp [linkL]
theorem link_matG {m : Nat} {E : Nat → Nat → Bool} {u v : Nat} (hu : u < m) (hv : v < m) (huv : u ≠ v) :
    linkL (matG m E) u v = matG m (fun r j => E r j || (r == u && j == v) || (r == v && j == u)) := by
  have hl := matG_length m E
  have hrow : ∀ r, row (linkL (matG m E) u v) r = if r = v then intoL (row (matG m E) v) u else if r = u then intoL (row (matG m E) u) v else row (matG m E) r := by
    intro r
    unfold linkL
    rw [row_set _ _ _ _ (by simpa [hl] using hv)]
    by_cases e : r = v
    · rw [if_pos e, if_pos e, row_set _ _ _ _ (by omega), if_neg (fun h => huv h.symm)]
    · rw [if_neg e, if_neg e, row_set _ _ _ _ (by omega)]
  refine graph_ext (by rw [linkL_length, matG_length, matG_length]) fun r hr => ?_
  rw [linkL_length, matG_length] at hr
  rw [hrow]
  by_cases e : r = v
  · subst e
    rw [if_pos rfl]
    refine rising_ext_int _ _ (intoL_rising (matG_rising hr)) (matG_rising hr) fun x => ?_
    rw [mem_intoL, mem_matG hr, mem_matG hr]
    constructor
    · rintro (⟨j, rfl, h1, h2⟩ | rfl)
      · exact ⟨j, rfl, h1, by simp [h2]⟩
      · exact ⟨u, rfl, hu, by simp⟩
    · rintro ⟨j, rfl, h1, h2⟩
      simp only [Bool.or_eq_true, Bool.and_eq_true, beq_iff_eq] at h2
      rcases h2 with (h2 | ⟨h2, _⟩) | ⟨_, h2⟩
      · exact .inl ⟨j, rfl, h1, h2⟩
      · exact absurd h2.symm huv
      · exact .inr (by rw [h2])
  · rw [if_neg e]
    by_cases e2 : r = u
    · subst e2
      rw [if_pos rfl]
      refine rising_ext_int _ _ (intoL_rising (matG_rising hr)) (matG_rising hr) fun x => ?_
      rw [mem_intoL, mem_matG hr, mem_matG hr]
      constructor
      · rintro (⟨j, rfl, h1, h2⟩ | rfl)
        · exact ⟨j, rfl, h1, by simp [h2]⟩
        · exact ⟨v, rfl, hv, by simp⟩
      · rintro ⟨j, rfl, h1, h2⟩
        simp only [Bool.or_eq_true, Bool.and_eq_true, beq_iff_eq] at h2
        rcases h2 with (h2 | ⟨_, h2⟩) | ⟨h2, _⟩
        · exact .inl ⟨j, rfl, h1, h2⟩
        · exact .inr (by rw [h2])
        · exact absurd h2 e
    · rw [if_neg e2]
      refine rising_ext_int _ _ (matG_rising hr) (matG_rising hr) fun x => ?_
      rw [mem_matG hr, mem_matG hr]
      constructor <;> rintro ⟨j, rfl, h1, h2⟩ <;> refine ⟨j, rfl, h1, ?_⟩ <;> simpa [e, e2] using h2

/-- The edges among the first vertices: what the reference's double loop has made. -/
def uptoE (E : Nat → Nat → Bool) (i k : Nat) : Nat → Nat → Bool := fun r j => E r j && (decide (max r j < i) || (decide (max r j = i) && decide (min r j < k)))
structure SymE (m : Nat) (E : Nat → Nat → Bool) : Prop where
  sym : ∀ r j, r < m → j < m → E r j = E j r
  irr : ∀ r, r < m → E r r = false
theorem upto_start (m : Nat) (E : Nat → Nat → Bool) : matG m (uptoE E 0 0) = List.replicate m [] := matG_none m fun r j _ _ => by simp [uptoE]
theorem upto_row {m : Nat} {E : Nat → Nat → Bool} (h : SymE m E) {i : Nat} : matG m (uptoE E i i) = matG m (uptoE E (i + 1) 0) := by
  refine matG_congr fun r j hr hj => ?_
  by_cases e : r = j
  · subst e; simp [uptoE, h.irr r hr]
  · unfold uptoE
    congr 1
    by_cases h1 : max r j < i
    · simp [h1, show max r j < i + 1 by omega]
    · by_cases h2 : max r j = i
      · have : min r j < i := by omega
        simp [h2, this]
      · simp [h1, h2, show ¬ max r j < i + 1 by omega]
theorem upto_end {m : Nat} {E : Nat → Nat → Bool} : matG m (uptoE E m 0) = matG m E := by
  refine matG_congr fun r j hr hj => ?_
  simp [uptoE, show max r j < m by omega]
theorem upto_yes {m : Nat} {E : Nat → Nat → Bool} (h : SymE m E) {i k : Nat} (hi : i < m) (hk : k < i) (he : E i k = true) : linkL (matG m (uptoE E i k)) k i = matG m (uptoE E i (k + 1)) := by
  rw [link_matG (by omega) hi (by omega)]
  refine matG_congr fun r j hr hj => ?_
  have he' : E k i = true := by rw [h.sym k i (by omega) hi]; exact he
  by_cases h1 : r = k ∧ j = i
  · obtain ⟨rfl, rfl⟩ := h1
    have e1 : max r j = j := by omega
    have e2 : min r j < r + 1 := by omega
    simp [uptoE, he', e1, e2]
  by_cases h2 : r = i ∧ j = k
  · obtain ⟨rfl, rfl⟩ := h2
    have e1 : max r j = r := by omega
    have e2 : min r j < j + 1 := by omega
    simp [uptoE, he, e1, e2]
  have e1 : (r == k && j == i) = false := by
    simp only [Bool.and_eq_false_iff, beq_eq_false_iff_ne]
    by_cases hh : r = k
    · exact .inr fun q => h1 ⟨hh, q⟩
    · exact .inl hh
  have e2 : (r == i && j == k) = false := by
    simp only [Bool.and_eq_false_iff, beq_eq_false_iff_ne]
    by_cases hh : r = i
    · exact .inr fun q => h2 ⟨hh, q⟩
    · exact .inl hh
  simp only [e1, e2, Bool.or_false]
  unfold uptoE
  congr 2
  by_cases e : max r j = i
  · have : min r j < k ↔ min r j < k + 1 := by omega
    simp [this]
  · simp [e]
theorem upto_no {m : Nat} {E : Nat → Nat → Bool} (h : SymE m E) {i k : Nat} (hi : i < m) (hk : k < i) (he : E i k = false) : matG m (uptoE E i k) = matG m (uptoE E i (k + 1)) := by
  refine matG_congr fun r j hr hj => ?_
  have he' : E k i = false := by rw [h.sym k i (by omega) hi]; exact he
  by_cases h1 : r = k ∧ j = i
  · obtain ⟨rfl, rfl⟩ := h1
    simp [uptoE, he']
  by_cases h2 : r = i ∧ j = k
  · obtain ⟨rfl, rfl⟩ := h2
    simp [uptoE, he]
  unfold uptoE
  congr 2
  by_cases e : max r j = i
  · have : min r j < k ↔ min r j < k + 1 := by omega
    simp [this]
  · simp [e]

/-- Which of the listed vertices are neighbours. -/
def indE (g : List (List Int)) (l : List Int) : Nat → Nat → Bool := fun r j => decide (l.getD j 0 ∈ row g (l.getD r 0).toNat)
def indL (g : List (List Int)) (l : List Int) : List (List Int) := matG l.length (indE g l)
theorem getD_int {l : List Int} {j : Nat} (h : j < l.length) : l.getD j 0 = l[j] := by simp [h]
theorem indE_sym {g : List (List Int)} (hg : GOk g) {l : List Int} (hl : ∀ x ∈ l, 0 ≤ x ∧ x < g.length) : SymE l.length (indE g l) := by
  refine ⟨fun r j hr hj => ?_, fun r hr => ?_⟩
  · unfold indE
    rw [getD_int hr, getD_int hj]
    have hr' := hl _ (List.getElem_mem hr)
    have hj' := hl _ (List.getElem_mem hj)
    have h1 := hg.both (l[r].toNat) (by omega)
    have h2 := hg.both (l[j].toNat) (by omega)
    have e1 : ((l[r].toNat : Nat) : Int) = l[r] := Int.toNat_of_nonneg hr'.1
    have e2 : ((l[j].toNat : Nat) : Int) = l[j] := Int.toNat_of_nonneg hj'.1
    rw [e1] at h1
    rw [e2] at h2
    exact decide_eq_decide.2 ⟨fun h => h1 _ h, fun h => h2 _ h⟩
  · unfold indE
    rw [getD_int hr]
    have hr' := hl _ (List.getElem_mem hr)
    have h := (hg.sets (l[r].toNat) (by omega)).2
    rw [Int.toNat_of_nonneg hr'.1] at h
    exact decide_eq_false h

/-- Folding keeps a graph right. -/
theorem foldG_ok {g : List (List Int)} (hg : GOk g) {v : Nat} (hv : v < g.length) (h2 : (row g v).length ≤ 2) : GOk (foldG g (atRow v (row g v))) := by
  obtain ⟨hs, hirr⟩ := hg.sets v hv
  obtain ⟨hV, hAB⟩ := atRow_cases (v : Int) hs.2 h2 (fun x hx => (hs.1 x hx).1)
  have hA : 0 ≤ (atRow (v : Int) (row g v)).B → (atRow (v : Int) (row g v)).A ∈ row g v ∧ (atRow (v : Int) (row g v)).B ∈ row g v ∧ (atRow (v : Int) (row g v)).A ≠ (atRow (v : Int) (row g v)).B := by
    intro h
    rcases hAB with ⟨hB, _⟩ | ⟨h1, h3, _, _, h5⟩
    · omega
    · exact ⟨h1, h3, by omega⟩
  generalize hf : atRow (v : Int) (row g v) = f at *
  have hA1 : 0 ≤ f.B → (0 ≤ f.A ∧ f.A < g.length) ∧ (0 ≤ f.B ∧ f.B < g.length) ∧ f.A ≠ v ∧ f.B ≠ v ∧ f.A ≠ f.B := by
    intro h
    obtain ⟨a1, a2, a3⟩ := hA h
    exact ⟨hs.1 _ a1, hs.1 _ a2, fun e => hirr (e ▸ a1), fun e => hirr (e ▸ a2), a3⟩
  have hmem : ∀ u, u < g.length → ∀ x, x ∈ foldRow g f u ↔ ((u : Int) ≠ v ∧ x ≠ v ∧ x ∈ row g u) ∨ (0 ≤ f.B ∧ (((u : Int) = f.A ∧ x = f.B) ∨ ((u : Int) = f.B ∧ x = f.A))) := by
    intro u hu x
    have k1 : ∀ x, x ∈ fr1 g f u ↔ ((u : Int) ≠ v ∧ x ≠ v ∧ x ∈ row g u) := by
      intro x
      by_cases e : (u : Int) = f.V
      · rw [fr1_yes e]; rw [hV] at e; simp [e]
      · rw [fr1_no e, mem_lessL]; rw [hV] at e ⊢; simp [e]; exact and_comm
    have k2 : ∀ x, x ∈ fr2 g f u ↔ ((u : Int) ≠ v ∧ x ≠ v ∧ x ∈ row g u) ∨ (0 ≤ f.B ∧ (u : Int) = f.A ∧ x = f.B) := by
      intro x
      by_cases e : (u : Int) = f.A ∧ 0 ≤ f.B
      · rw [fr2_yes e.1 e.2, mem_intoL, k1]; simp [e.1, e.2]
      · rw [fr2_no e, k1]
        constructor
        · exact .inl
        · rintro (h | h)
          · exact h
          · exact absurd ⟨h.2.1, h.1⟩ e
    by_cases e : (u : Int) = f.B
    · rw [foldRow_yes e, mem_intoL, k2]
      have hB : 0 ≤ f.B := by omega
      have := (hA1 hB).2.2.2.2
      constructor
      · rintro ((h | h) | h)
        · exact .inl h
        · exact absurd (h.2.1.symm.trans e) this
        · exact .inr ⟨hB, .inr ⟨e, h⟩⟩
      · rintro (h | ⟨_, h | h⟩)
        · exact .inl (.inl h)
        · exact absurd (h.1.symm.trans e) this
        · exact .inr h.2
    · rw [foldRow_no e, k2]
      constructor
      · rintro (h | h)
        · exact .inl h
        · exact .inr ⟨h.1, .inl h.2⟩
      · rintro (h | ⟨h0, h | h⟩)
        · exact .inl h
        · exact .inr ⟨h0, h⟩
        · exact absurd h.1 e
  have hris : ∀ u, u < g.length → (foldRow g f u).Pairwise (· < ·) := by
    intro u hu
    have k1 : (fr1 g f u).Pairwise (· < ·) := by
      by_cases e : (u : Int) = f.V
      · rw [fr1_yes e]; exact List.Pairwise.nil
      · rw [fr1_no e]; exact lessL_rising (hg.sets u hu).1.2 _
    have k2 : (fr2 g f u).Pairwise (· < ·) := by
      by_cases e : (u : Int) = f.A ∧ 0 ≤ f.B
      · rw [fr2_yes e.1 e.2]; exact intoL_rising k1
      · rw [fr2_no e]; exact k1
    by_cases e : (u : Int) = f.B
    · rw [foldRow_yes e]; exact intoL_rising k2
    · rw [foldRow_no e]; exact k2
  refine ⟨by rw [foldG_length]; exact hg.pos, by rw [foldG_length]; exact hg.le, fun u hu => ?_, fun u hu x hx => ?_⟩
  · rw [foldG_length] at hu ⊢
    rw [row_foldG g f hu]
    refine ⟨⟨fun x hx => ?_, hris u hu⟩, fun h => ?_⟩
    · rcases (hmem u hu x).1 hx with ⟨_, _, h⟩ | ⟨h0, ⟨_, rfl⟩ | ⟨_, rfl⟩⟩
      · exact (hg.sets u hu).1.1 x h
      · exact (hA1 h0).2.1
      · exact (hA1 h0).1
    · rcases (hmem u hu _).1 h with ⟨_, _, h⟩ | ⟨h0, ⟨e1, e2⟩ | ⟨e1, e2⟩⟩
      · exact (hg.sets u hu).2 h
      · exact (hA1 h0).2.2.2.2 (e1.symm.trans e2)
      · exact (hA1 h0).2.2.2.2 (e2.symm.trans e1)
  · rw [foldG_length] at hu
    rw [row_foldG g f hu] at hx
    rcases (hmem u hu x).1 hx with ⟨h1, h3, h⟩ | ⟨h0, h⟩
    · obtain ⟨x0, xn⟩ := (hg.sets u hu).1.1 x h
      have hb := hg.both u hu x h
      rw [row_foldG g f (by omega)]
      refine (hmem _ (by omega) _).2 (.inl ⟨by omega, h1, hb⟩)
    · obtain ⟨⟨a0, an⟩, ⟨b0, bn⟩, _⟩ := hA1 h0
      rcases h with ⟨e1, rfl⟩ | ⟨e1, rfl⟩
      · rw [row_foldG g f (by omega)]
        exact (hmem _ (by omega) _).2 (.inr ⟨h0, .inr ⟨by omega, e1⟩⟩)
      · rw [row_foldG g f (by omega)]
        exact (hmem _ (by omega) _).2 (.inr ⟨h0, .inl ⟨by omega, e1⟩⟩)

theorem folds_ok {g : List (List Int)} {left : List Int} {fs : List Fd} {l : List Int} {g' : List (List Int)} (h : Folds g left fs l g') : GOk g → (∀ x ∈ left, 0 ≤ x ∧ x < g.length) → left.Pairwise (· < ·) → GOk g' ∧ g'.length = g.length ∧ SetIn g.length l := by
  induction h with
  | stop _ => intro hg hl hs; exact ⟨hg, rfl, hl, hs⟩
  | step h1 h2 h ih =>
    intro hg hl hs
    rename_i g l1 l2 v fs l g'
    have hv := hl v (by simp)
    obtain ⟨n, rfl⟩ := Int.eq_ofNat_of_zero_le hv.1
    have hgo := foldG_ok hg (v := n) (by omega) h2
    obtain ⟨r1, r2, r3⟩ := ih hgo (fun x hx => by rw [foldG_length]; exact hl x (mem_lessL.1 hx).1) (lessL_rising hs _)
    rw [foldG_length] at r2 r3
    exact ⟨r1, r2, r3⟩

/-- What CoreOf returns. -/
def CoreS (g gg : List (List Int)) (ok : Bool) : Prop :=
  (ok = true ∧ GOk g ∧ ∃ fs l g', Folds g (allL g.length) fs l g' ∧ l ≠ [] ∧ gg = indL g' l) ∨ (ok = false ∧ gg = [] ∧ (¬ GOk g ∨ ∃ fs g', Folds g (allL g.length) fs [] g'))
theorem coreS_det {g gg hh : List (List Int)} {ok ok' : Bool} (h : CoreS g gg ok) (h' : CoreS g hh ok') : gg = hh ∧ ok = ok' := by
  rcases h with ⟨rfl, hg, fs, l, g', hf, hl, rfl⟩ | ⟨rfl, rfl, h⟩ <;> rcases h' with ⟨rfl, hg', fs2, l2, g2, hf2, hl2, rfl⟩ | ⟨rfl, rfl, h'⟩
  · obtain ⟨_, rfl, rfl⟩ := folds_det hf hf2
    exact ⟨rfl, rfl⟩
  · rcases h' with h' | ⟨fs2, g2, h'⟩
    · exact absurd hg h'
    · obtain ⟨_, rfl, _⟩ := folds_det hf h'
      exact absurd rfl hl
  · rcases h with h | ⟨fs3, g3, h⟩
    · exact absurd hg' h
    · obtain ⟨_, rfl, _⟩ := folds_det hf2 h
      exact absurd rfl hl2
  · exact ⟨rfl, rfl⟩

end Go.Proofs.YtiooindlpinjhaaDoor

/- Plain: the neighbours among some vertices, as masks. -/
namespace Go.Proofs.YtiooindlpinjhaaDoor

theorem mask_bit (l : List Nat) (j : Nat) : (mask (natInts l)).testBit j = decide (j ∈ l) := by
  rw [testBit_mask, Bool.eq_iff_iff]
  simp [natInts]
theorem mask_nat_lt16 {l : List Nat} (h : ∀ i ∈ l, i < 16) : mask (natInts l) < 65536 := mask_lt16 _ fun x hx => by
  obtain ⟨i, hi, rfl⟩ := mem_natInts.1 hx
  have := h i hi
  omega
def indN (m : Nat) (E : Nat → Nat → Bool) : List Nat := (List.range m).map fun r => mask (natInts ((List.range m).filter (E r)))
theorem indN_length (m : Nat) (E : Nat → Nat → Bool) : (indN m E).length = m := by simp [indN]
theorem indN_get {m : Nat} {E : Nat → Nat → Bool} {r : Nat} (h : r < m) : (indN m E).getD r 0 = mask (natInts ((List.range m).filter (E r))) := by simp [indN, h]
theorem indN_bit {m : Nat} {E : Nat → Nat → Bool} {r : Nat} (h : r < m) (j : Nat) : ((indN m E).getD r 0).testBit j = (decide (j < m) && E r j) := by
  rw [indN_get h, mask_bit, Bool.eq_iff_iff]
  simp
theorem indN_lt16 {m : Nat} {E : Nat → Nat → Bool} (hm : m ≤ 16) : ∀ s ∈ indN m E, s < 65536 := by
  intro s hs
  simp only [indN, List.mem_map, List.mem_range] at hs
  obtain ⟨r, hr, rfl⟩ := hs
  exact mask_nat_lt16 fun i hi => by simp only [List.mem_filter, List.mem_range] at hi; omega
theorem natList_ext {a b : List Nat} (hl : a.length = b.length) (h : ∀ r, r < a.length → a.getD r 0 = b.getD r 0) : a = b := by
  refine List.ext_getElem hl fun j h1 h2 => ?_
  have := h j h1
  simpa [h1, h2] using this
theorem indN_congr {m : Nat} {E F : Nat → Nat → Bool} (h : ∀ r j, r < m → j < m → E r j = F r j) : indN m E = indN m F := by
  refine natList_ext (by simp [indN_length]) fun r hr => ?_
  rw [indN_length] at hr
  refine Nat.eq_of_testBit_eq fun j => ?_
  rw [indN_bit hr, indN_bit hr]
  by_cases hj : j < m
  · simp [h r j hr hj]
  · simp [hj]
theorem indN_none (m : Nat) {E : Nat → Nat → Bool} (h : ∀ r j, r < m → j < m → E r j = false) : indN m E = List.replicate m 0 := by
  refine natList_ext (by simp [indN_length]) fun r hr => ?_
  rw [indN_length] at hr
  refine Nat.eq_of_testBit_eq fun j => ?_
  rw [indN_bit hr]
  by_cases hj : j < m
  · simp [h r j hr hj, hr]
  · simp [hj, hr]
def rowsE (E : Nat → Nat → Bool) (i k : Nat) : Nat → Nat → Bool := fun r j => E r j && (decide (r < i) || (decide (r = i) && decide (j < k)))
theorem rows_start (m : Nat) (E : Nat → Nat → Bool) : indN m (rowsE E 0 0) = List.replicate m 0 := indN_none m fun r j _ _ => by simp [rowsE]
theorem rows_row {m : Nat} {E : Nat → Nat → Bool} {i : Nat} : indN m (rowsE E i m) = indN m (rowsE E (i + 1) 0) := by
  refine indN_congr fun r j hr hj => ?_
  unfold rowsE
  congr 1
  by_cases h1 : r < i
  · simp [h1, show r < i + 1 by omega]
  · by_cases h2 : r = i
    · simp [h2, hj]
    · simp [h1, h2, show ¬ r < i + 1 by omega]
theorem rows_end {m : Nat} {E : Nat → Nat → Bool} : indN m (rowsE E m 0) = indN m E := indN_congr fun r j hr hj => by simp [rowsE, hr]
theorem rows_yes {m : Nat} {E : Nat → Nat → Bool} {i k : Nat} (hi : i < m) (hk : k < m) (he : E i k = true) :
    (indN m (rowsE E i k)).set i ((indN m (rowsE E i k)).getD i 0 ||| 2 ^ k) = indN m (rowsE E i (k + 1)) := by
  refine natList_ext (by simp [indN_length]) fun r hr => ?_
  rw [List.length_set, indN_length] at hr
  have hl := indN_length m (rowsE E i k)
  rw [getD_set _ _ _ _ (by omega)]
  refine Nat.eq_of_testBit_eq fun j => ?_
  by_cases e : r = i
  · subst e
    rw [if_pos rfl, Nat.testBit_or, indN_bit hr, indN_bit hr, testBit_pow]
    unfold rowsE
    by_cases h1 : k = j
    · subst h1; simp [he, hk]
    · have : j < k ↔ j < k + 1 := by omega
      simp [h1, this]
  · rw [if_neg e, indN_bit hr, indN_bit hr]
    unfold rowsE
    simp [e]
theorem rows_no {m : Nat} {E : Nat → Nat → Bool} {i k : Nat} (he : E i k = false) : indN m (rowsE E i k) = indN m (rowsE E i (k + 1)) := by
  refine indN_congr fun r j hr hj => ?_
  unfold rowsE
  by_cases h : r = i ∧ j = k
  · obtain ⟨rfl, rfl⟩ := h; simp [he]
  · congr 2
    by_cases e : r = i
    · have : j < k ↔ j < k + 1 := by omega
      simp [this]
    · simp [e]
/-- The masks' graph. -/
theorem indN_rows {m : Nat} (hm : m ≤ 16) {E : Nat → Nat → Bool} {r : Nat} (hr : r < m) : natInts (bitsOf ((indN m E).getD r 0)) = row (matG m E) r := by
  have h16 : (indN m E).getD r 0 < 65536 := lt16_getD (indN_lt16 hm) r
  refine rising_ext_int _ _ (natInts_rising (bitsOf_rising _)) (matG_rising hr) fun x => ?_
  rw [mem_natInts, mem_matG hr]
  constructor
  · rintro ⟨j, hj, rfl⟩
    rw [mem_bitsOf' (by omega), indN_bit hr] at hj
    simp only [Bool.and_eq_true, decide_eq_true_eq] at hj
    exact ⟨j, rfl, hj.1, hj.2⟩
  · rintro ⟨j, rfl, h1, h2⟩
    exact ⟨j, by rw [mem_bitsOf' (by omega), indN_bit hr]; simp [h1, h2], rfl⟩

/-- The edges among the bits of a set, in masks that are a graph's rows. -/
def bitE (a : List Nat) (l : List Nat) : Nat → Nat → Bool := fun r j => (a.getD (l.getD r 0) 0).testBit (l.getD j 0)
theorem bitE_ind {g : List (List Int)} {L : List Int} {a : List Nat} {left : Nat} (h : Same g L a left) : indL g L = matG (bitsOf left).length (bitE a (bitsOf left)) := by
  have hL := h.list
  subst hL
  unfold indL
  rw [natInts_length]
  refine matG_congr fun r j hr hj => ?_
  unfold indE bitE
  have e1 : (natInts (bitsOf left)).getD r 0 = (((bitsOf left)[r] : Nat) : Int) := by simp [natInts, hr]
  have e2 : (natInts (bitsOf left)).getD j 0 = (((bitsOf left)[j] : Nat) : Int) := by simp [natInts, hj]
  rw [e1, e2, Int.toNat_natCast]
  have hl16 := h.left16
  have hr' := (mem_bitsOf' (by omega)).1 (List.getElem_mem hr)
  have hj' := (mem_bitsOf' (by omega)).1 (List.getElem_mem hj)
  rw [h.rows _ hr', Bool.eq_iff_iff, decide_eq_true_eq, mem_near hl16]
  have f1 : (bitsOf left).getD r 0 = (bitsOf left)[r] := by simp [hr]
  have f2 : (bitsOf left).getD j 0 = (bitsOf left)[j] := by simp [hj]
  rw [f1, f2]
  constructor
  · rintro ⟨i, hi, h1, _⟩
    obtain rfl : i = (bitsOf left)[j] := by omega
    exact h1
  · intro h1
    exact ⟨_, rfl, h1, hj'⟩

end Go.Proofs.YtiooindlpinjhaaDoor

/- Walks: how the program says that a vertex may be folded, and how it folds it away. -/
namespace Go.Proofs.YtiooindlpinjhaaDoor
open Go.RowKit

theorem and_near {a : List Nat} (ha : ∀ s ∈ a, s < 65536) {v left : Nat} (hv : v < a.length) (hl : left < 65536) : bits BinOp.and IntKind.u32 (a[v] : Int) (left : Int) = ((a.getD v 0 &&& left : Nat) : Int) := by
  have e : a.getD v 0 = a[v] := by simp [hv]
  rw [e]
  exact u32_and_nat _ _ (by have := ha _ (List.getElem_mem hv); omega) (by omega)

theorem nets_cell {w : World} {p : Option Addr} {n c : Nat} {a : List Nat} (h : Sl w 71 (.slice p n c) a.length (a.map u32v)) {v : Nat} (hv : v < a.length) :
    ∃ b o, p = some ⟨b, o, none⟩ ∧ w.cell? ⟨b, o + v, none⟩ = some (.int .u32 (a[v] : Int)) := by
  obtain ⟨p', c', he, _, _, _, hat⟩ := h
  simp only [Value.slice.injEq] at he
  obtain ⟨rfl, rfl, rfl⟩ := he
  obtain ⟨b, o, h1, h2⟩ := hat.cells (k := v) (by simpa using hv)
  exact ⟨b, o, h1, h2 v _ (by simp [hv, u32v])⟩


end Go.Proofs.YtiooindlpinjhaaDoor

/- Walks: the reference's list operations that make memory. -/
namespace Go.Proofs.YtiooindlpinjhaaDoor
open Go.RowKit

set_option maxRecDepth 100000 in
set_option maxHeartbeats 1000000 in
theorem l1Copy_any (v : Value) (n : Nat) (vals : List Value) (h1 : ∀ x ∈ vals, x.oneCell' = true) (hl : vals.length = n) (w : World) (hx : Sl w 2 v n vals) :
    Calls Tryd.prog 87 #[v] w fun e w' => ∃ u, e = .returned u ∧ w'.ownsRow w.heap.size 2 1 u n vals ∧ Below w.heap.size w w' := by
  have hn := hx
  obtain ⟨p, c, rfl, _, _, hn, _⟩ := hn
  have hx' := hx.below (below_alloc w (.cells #[] 2))
  have ho := ownsRow_empty w 2 1
  have hb := below_alloc w (.cells #[] 2)
  have hsz : w.heap.size ≤ (w.alloc (.cells #[] 2)).heap.size := hb.size
  have Hl := Lib.hid hl
  clear hl
  go_enter Tryd.func87, Tryd.ntmps87
  go_wp2_with (at_builtin; refine wpList_app ty_i64 rfl rfl rfl ho rfl hx' (by have := Hl.out; omega) h1 (by omega) hsz ?_; intro v' w1 hown' hg _)
  go_ret
  refine ⟨_, rfl, by simpa using hown', below_grown hb ho hg (Nat.le_refl _) hsz⟩

theorem oneCell_ints (K : IntKind) (xs : List Int) : ∀ x ∈ xs.map (Value.int K), x.oneCell' = true := by
  intro x hx
  obtain ⟨y, _, rfl⟩ := List.mem_map.1 hx
  rfl



end Go.Proofs.YtiooindlpinjhaaDoor

/- Walk: the reference's list with one more. -/
namespace Go.Proofs.YtiooindlpinjhaaDoor
open Go.RowKit

set_option maxRecDepth 100000 in
set_option maxHeartbeats 1000000 in
theorem l1Into_any (v : Value) (xs : List Int) (n : Int) (hl : xs.length ≤ 100000000) (w : World) (hx : Nums w 2 .i64 v xs) :
    Calls Tryd.prog 149 #[v, .int .i64 n] w fun e w' => ∃ u, e = .returned u ∧ Nums w' 2 .i64 u (intoL xs n) ∧ Below w.heap.size w w' := by
  have hx0 := Lib.hid hx
  obtain ⟨p, c, rfl, hp, hnc, hn, hat⟩ := hx
  go_enter Tryd.func149, Tryd.ntmps149
  go_wp2
  go_loop [5] (fun i => ∃ k : Nat, k ≤ xs.length ∧ i = .int .i64 k ∧ ∀ j (hj : j < xs.length), j < k → xs[j] < n) (fun i => xs.length - (intOf i).toNat)
  case atStart => exact ⟨0, Nat.zero_le _, rfl, fun j hj h => by omega⟩
  case round =>
    obtain ⟨k, hk, rfl, hlow⟩ := hrel
    have Hlow := Lib.hid hlow
    clear hlow
    by_cases hlt : k < xs.length
    · obtain ⟨b, o, rfl, hcell⟩ := hat.num hlt
      by_cases h1 : xs[k] < n
      · go_wp2
        go_round
        case rel =>
          refine ⟨k + 1, by omega, by go_num, fun j hj h => ?_⟩
          by_cases e : j = k
          · subst e; exact h1
          · exact Hlow.out j hj (by omega)
        case measure => simp [intOf]; omega
      · by_cases h2 : xs[k] = n
        · have h2' : (xs[k] == n) = true := by simpa using h2
          have H := Lib.hid (intoL_eq hlt Hlow.out h1 h2)
          clear h2
          go_wp2
          go_ret
          exact ⟨_, rfl, by rw [H.out]; exact hx0.out, Below.refl _ _⟩
        · have h2' : (xs[k] == n) = false := by simpa using h2
          have H := Lib.hid (intoL_new hk Hlow.out (fun _ => h1) (fun _ => h2))
          clear h2
          have hsl : Sl w 2 (.slice (some ⟨b, o, none⟩) k c) k ((xs.take k).map (Value.int .i64)) :=
            ⟨_, _, rfl, (fun e => by cases e), by omega, by omega, by rw [List.map_take]; exact hat.take k⟩
          have hkc : k < c := by omega
          have hd : Sl w 2 (.slice (some ⟨b, o + k, none⟩) (xs.length - k) (c - k)) (xs.length - k) ((xs.drop k).map (Value.int .i64)) :=
            ⟨_, _, rfl, (fun e => by cases e), by omega, by omega, by rw [List.map_drop]; exact hat.drop k⟩
          go_wp2_with (first
            | (go_at_call 87; refine (l1Copy_any _ k _ (oneCell_ints _ _) (by simp; omega) _ hsl).mono ?_; rintro e w1 ⟨u1, rfl, hown1, hb1⟩)
            | (at_builtin; refine wpList_app1 ty_i64 rfl rfl rfl hown1 rfl rfl (by omega) hb1.size ?_; intro v2 w2 hown2 hg2 _; have hb2 := below_grown hb1 hown1 hg2 (Nat.le_refl _) hb1.size; have hd2 : Sl w2 2 (.slice (some ⟨b, o + k, none⟩) (xs.length - k) (c - k)) (xs.length - k) ((xs.drop k).map (Value.int .i64)) := hd.below hb2)
            | (at_builtin; refine wpList_app ty_i64 rfl rfl rfl hown2 rfl hd2 (by simp) (oneCell_ints _ _) (by omega) hb2.size ?_; intro v3 w3 hown3 hg3 _))
          go_ret
          refine ⟨_, rfl, ?_, below_grown hb2 hown2 hg3 (Nat.le_refl _) hb2.size⟩
          have e : (xs.take k).map (Value.int .i64) ++ [Value.int .i64 n] ++ (xs.drop k).map (Value.int .i64) = (intoL xs n).map (Value.int .i64) := by rw [H.out]; simp
          rw [e] at hown3
          have hlen : k + 1 + (xs.length - k) = (intoL xs n).length := by rw [H.out]; simp; omega
          exact Nums.of_owns hown3 hlen (by omega)
    · obtain rfl : k = xs.length := by omega
      have H := Lib.hid (intoL_new hk Hlow.out (fun h => absurd h hlt) (fun h => absurd h hlt))
      have hsl : Sl w 2 (.slice p xs.length c) xs.length (xs.map (Value.int .i64)) := hx0.out
      have hfin : ∀ (w2 : World) (u : Value), w2.ownsRow w.heap.size 2 1 u (xs.length + 1 + 0) (xs.map (Value.int .i64) ++ [Value.int .i64 n] ++ []) → Nums w2 2 .i64 u (intoL xs n) := by
        intro w2 u ho
        have e : xs.map (Value.int .i64) ++ [Value.int .i64 n] ++ [] = (intoL xs n).map (Value.int .i64) := by rw [H.out]; simp
        rw [e] at ho
        exact Nums.of_owns ho (by rw [H.out]; simp) (by omega)
      rcases p with _ | a
      · obtain ⟨h0, rfl⟩ := hp rfl
        have h0' : xs = [] := List.eq_nil_of_length_eq_zero h0
        subst h0'
        go_wp2_with (first
          | (go_at_call 87; refine (l1Copy_any _ 0 _ (oneCell_ints _ _) rfl _ hsl).mono ?_; rintro e w1 ⟨u1, rfl, hown1, hb1⟩)
          | (at_builtin; refine wpList_app1 ty_i64 rfl rfl rfl hown1 rfl rfl (by omega) hb1.size ?_; intro v2 w2 hown2 hg2 _; have hb2 := below_grown hb1 hown1 hg2 (Nat.le_refl _) hb1.size)
          | (at_builtin; refine wpList_app ty_i64 rfl rfl rfl hown2 rfl (Sl.nothing _ _ _ _ (fun _ => rfl)) rfl (fun x hx => by cases hx) (by omega) hb2.size ?_; intro v3 w3 hown3 hg3 _))
        go_ret
        exact ⟨_, rfl, hfin _ _ hown3, below_grown hb2 hown2 hg3 (Nat.le_refl _) hb2.size⟩
      · by_cases hcl : c = xs.length
        · subst hcl
          go_wp2_with (first
            | (go_at_call 87; refine (l1Copy_any _ xs.length _ (oneCell_ints _ _) (by simp) _ hsl).mono ?_; rintro e w1 ⟨u1, rfl, hown1, hb1⟩)
            | (at_builtin; refine wpList_app1 ty_i64 rfl rfl rfl hown1 rfl rfl (by omega) hb1.size ?_; intro v2 w2 hown2 hg2 _; have hb2 := below_grown hb1 hown1 hg2 (Nat.le_refl _) hb1.size)
            | (at_builtin; refine wpList_app ty_i64 rfl rfl rfl hown2 rfl (Sl.nothing _ _ _ _ (fun e => by cases e)) rfl (fun x hx => by cases hx) (by omega) hb2.size ?_; intro v3 w3 hown3 hg3 _))
          go_ret
          exact ⟨_, rfl, hfin _ _ hown3, below_grown hb2 hown2 hg3 (Nat.le_refl _) hb2.size⟩
        · have hcl' : xs.length < c := by omega
          go_wp2_with (first
            | (go_at_call 87; refine (l1Copy_any _ xs.length _ (oneCell_ints _ _) (by simp) _ hsl).mono ?_; rintro e w1 ⟨u1, rfl, hown1, hb1⟩)
            | (at_builtin; refine wpList_app1 ty_i64 rfl rfl rfl hown1 rfl rfl (by omega) hb1.size ?_; intro v2 w2 hown2 hg2 _; have hb2 := below_grown hb1 hown1 hg2 (Nat.le_refl _) hb1.size)
            | (at_builtin; refine wpList_app ty_i64 rfl rfl rfl hown2 rfl (Sl.nothing _ _ _ _ (fun e => by cases e)) rfl (fun x hx => by cases hx) (by omega) hb2.size ?_; intro v3 w3 hown3 hg3 _))
          go_ret
          exact ⟨_, rfl, hfin _ _ hown3, below_grown hb2 hown2 hg3 (Nat.le_refl _) hb2.size⟩

end Go.Proofs.YtiooindlpinjhaaDoor

/- Walks: the reference's fold of a vertex. -/
namespace Go.Proofs.YtiooindlpinjhaaDoor
open Go.RowKit

def fdVal (f : Fd) : Value := .agg #[.int .i64 f.V, .int .i64 f.A, .int .i64 f.B]

theorem Rws.of_owned {w : World} {base EO EI : Nat} {v : Value} {g : List (List Int)} (vals : List Value) (hl : vals.length = g.length) (ho : w.ownsRow base EO 1 v g.length vals) (hn : g.length ≤ 1000000000)
    (hr : ∀ j, j < g.length → Nums w EI .i64 (vals.getD j undef) (row g j)) : Rws w EO EI v g := ⟨vals, hl, Sl.of_owns ho hn, hr⟩

theorem getD_append_left {α : Type} (l m : List α) (j : Nat) (d : α) (h : j < l.length) : (l ++ m).getD j d = l.getD j d := by simp [List.getElem?_append_left h]
theorem getD_append_last {α : Type} (l : List α) (x d : α) : (l ++ [x]).getD l.length d = x := by simp

theorem cell_new3 (w : World) (a b c : Value) (T : TypeId) : (w.alloc (.cells #[a, b, c] T)).cell? ⟨w.heap.size, 0, none⟩ = some a ∧ (w.alloc (.cells #[a, b, c] T)).cell? ⟨w.heap.size, 1, none⟩ = some b ∧ (w.alloc (.cells #[a, b, c] T)).cell? ⟨w.heap.size, 2, none⟩ = some c := by
  have := heap_alloc_new w (.cells #[a, b, c] T)
  refine ⟨?_, ?_, ?_⟩ <;> (unfold World.cell?; rw [this]; rfl)


end Go.Proofs.YtiooindlpinjhaaDoor
