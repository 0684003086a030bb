/- Plain: what is made by cutting and contracting is a minor: models of single vertices, of a contracted edge; a model's word. -/
import Derived.Test.YtfokiijcpkhllaaDoorFuQ32
import Derived.Test.YtfokiijcpkhllaaDoorFuQ19
import Derived.Test.YtfokiijcpkhllaaDoorFuQ6
import Derived.Test.YtfokiijcpkhllaaDoorFuQ10
import Derived.Test.YtfokiijcpkhllaaDoorFuQ11
namespace Go.Proofs.YtfokiijcpkhllaaDoor

theorem connL_one (E : Nat → Nat → Bool) (x : Nat) : ConnL E [x] := ⟨by simp, fun y hy => by
  obtain rfl : y = x := by simpa using hy
  exact .base⟩
def oneL (l : List Nat) : List (List Int) := l.map fun v : Nat => [((v : Nat) : Int)]
theorem oneL_length (l : List Nat) : (oneL l).length = l.length := by simp [oneL]
theorem row_oneL {l : List Nat} {i : Nat} (h : i < l.length) : row (oneL l) i = [(l[i] : Int)] := by simp [row, oneL, h]
/-- Single vertices are a model of what lies between them. -/
theorem mdOk_one {h x : List (List Int)} {l : List Nat} (hh : GOk h) (hx : GOk x) (hl : x.length = l.length) (hr : l.Pairwise (· < ·)) (hlt : ∀ v ∈ l, v < h.length)
    (hE : ∀ i k (hi : i < l.length) (hk : k < l.length), ofG x i k = true → ofG h l[i] l[k] = true) : MdOk h x (oneL l) := by
  refine ⟨⟨⟨⟨⟨hh, by rw [oneL_length, ← hl]; exact hx.le⟩, fun a ha => ?_⟩, hx⟩, by rw [oneL_length, hl]⟩, fun a ha => ?_, fun e he => ?_⟩
  · rw [oneL_length] at ha
    rw [row_oneL ha]
    have h1 := hlt _ (List.getElem_mem ha)
    refine ⟨⟨fun y hy => ?_, by simp⟩, fun b hb y hy hyb => ?_⟩
    · obtain rfl : y = (l[a] : Int) := by simpa using hy
      omega
    · rw [row_oneL (show b < l.length by omega)] at hyb
      obtain rfl : y = (l[a] : Int) := by simpa using hy
      have e : (l[a] : Int) = (l[b]'(by omega) : Int) := by simpa using hyb
      have e2 : l[a] = l[b]'(by omega) := by omega
      have := rising_inj hr ha (by omega) e2
      omega
  · rw [oneL_length] at ha
    rw [row_oneL ha]
    have h1 := hlt _ (List.getElem_mem ha)
    refine ⟨⟨hh, ⟨fun y hy => ?_, by simp⟩⟩, ?_⟩
    · obtain rfl : y = (l[a] : Int) := by simpa using hy
      omega
    · have : ([(l[a] : Int)]).map Int.toNat = [l[a]] := by simp
      rw [this]
      exact connL_one _ _
  · obtain ⟨h1, h2, _, h4⟩ := mem_edN (Nat.le_refl _) he
    have k1 : e.1 < l.length := by omega
    have k2 : e.2 < l.length := by omega
    rw [row_oneL k1, row_oneL k2]
    have := hE e.1 e.2 k1 k2 h4
    exact ⟨(l[e.1] : Int), by simp, (l[e.2] : Int), by simp, by simpa [ofG] using this⟩

/-- A graph is a minor of itself. -/
theorem minor_self {g : List (List Int)} (hg : GOk g) : MdOk g g (oneL (List.range g.length)) :=
  mdOk_one hg hg (by simp) List.pairwise_lt_range (fun v hv => List.mem_range.1 hv) fun i k hi hk h => by simpa using h
/-- What is left when a vertex is cut is a minor. -/
theorem minor_cut {h : List (List Int)} (hh : GOk h) {b : Nat} (_hb : b < h.length) (h2 : 2 ≤ h.length) : GOk (indL h (natInts (restN h.length b))) ∧ MdOk h (indL h (natInts (restN h.length b))) (oneL (restN h.length b)) := by
  have hlt : ∀ v ∈ restN h.length b, v < h.length := fun v hv => (mem_restN.1 hv).1
  have hne : 1 ≤ (restN h.length b).length := by
    refine List.length_pos_of_mem (a := if b = 0 then 1 else 0) (mem_restN.2 ?_)
    by_cases e : b = 0
    · rw [if_pos e]; omega
    · rw [if_neg e]; omega
  have hle : (restN h.length b).length ≤ 16 := Nat.le_trans (List.length_filter_le _ _) (by rw [List.length_range]; exact hh.le)
  have hx := indL_gok hh hlt hne hle
  refine ⟨hx, mdOk_one hh hx (by unfold indL; rw [matG_length, natInts_length]) (restN_rising _ _) hlt fun i k hi hk e => ?_⟩
  unfold indL at e
  rw [natInts_length] at e
  rw [← indE_nat hi hk]
  exact matG_to hi hk e

/-! ### A contracted edge -/
def conL (l : List Nat) (a b : Nat) : List (List Int) := l.map fun v : Nat => if v = a then [(a : Int), (b : Int)] else [((v : Nat) : Int)]
theorem conL_length (l : List Nat) (a b : Nat) : (conL l a b).length = l.length := by simp [conL]
theorem row_conL {l : List Nat} {a b i : Nat} (h : i < l.length) : row (conL l a b) i = if l[i] = a then [(a : Int), (b : Int)] else [(l[i] : Int)] := by simp [row, conL, h]
theorem mem_conL {l : List Nat} {a b i : Nat} {x : Int} (h : i < l.length) (hx : x ∈ row (conL l a b) i) : x = (l[i] : Int) ∨ (l[i] = a ∧ x = (b : Int)) := by
  rw [row_conL h] at hx
  by_cases e : l[i] = a
  · rw [if_pos e] at hx
    rcases List.mem_cons.1 hx with h1 | h1
    · exact .inl (by rw [h1, e])
    · exact .inr ⟨e, by simpa using h1⟩
  · rw [if_neg e] at hx
    exact .inl (by simpa using hx)
theorem minor_con {h : List (List Int)} (hh : GOk h) {a b : Nat} (hab : a < b) (hb : b < h.length) (hE : ofG h a b = true) :
    GOk (indL (matG h.length (conE (ofG h) a b)) (natInts (restN h.length b))) ∧ MdOk h (indL (matG h.length (conE (ofG h) a b)) (natInts (restN h.length b))) (conL (restN h.length b) a b) := by
  have hc : GOk (matG h.length (conE (ofG h) a b)) := gok_matG hh.pos hh.le (conE_sym (ofG_sym hh) a b) (conE_irr (ofG_irr hh) a b)
  have hlt : ∀ v ∈ restN h.length b, v < h.length := fun v hv => (mem_restN.1 hv).1
  have hnb : ∀ v ∈ restN h.length b, v ≠ b := fun v hv => (mem_restN.1 hv).2
  have hne : 1 ≤ (restN h.length b).length := List.length_pos_of_mem (a := a) (mem_restN.2 ⟨by omega, by omega⟩)
  have hle : (restN h.length b).length ≤ 16 := Nat.le_trans (List.length_filter_le _ _) (by rw [List.length_range]; exact hh.le)
  have hr := restN_rising h.length b
  have hx := indL_gok hc (l := restN h.length b) (fun v hv => by rw [matG_length]; exact hlt v hv) hne hle
  have hxl : (indL (matG h.length (conE (ofG h) a b)) (natInts (restN h.length b))).length = (restN h.length b).length := by unfold indL; rw [matG_length, natInts_length]
  generalize hl : restN h.length b = l at hlt hnb hne hle hr hx hxl
  have hset : ∀ i, i < l.length → SetIn h.length (row (conL l a b) i) := fun i hi => by
    have h1 := hlt _ (List.getElem_mem hi)
    rw [row_conL hi]
    by_cases e : l[i] = a
    · rw [if_pos e]
      refine ⟨fun y hy => ?_, by simp; omega⟩
      rcases List.mem_cons.1 hy with rfl | hy
      · omega
      · obtain rfl : y = (b : Int) := by simpa using hy
        omega
    · rw [if_neg e]
      refine ⟨fun y hy => ?_, by simp⟩
      obtain rfl : y = (l[i] : Int) := by simpa using hy
      omega
  refine ⟨hx, ⟨⟨⟨⟨hh, by rw [conL_length]; exact hle⟩, fun i hi => ?_⟩, hx⟩, by rw [conL_length, hxl]⟩, fun i hi => ?_, fun e he => ?_⟩
  · rw [conL_length] at hi
    refine ⟨hset i hi, fun k hk y hy hyk => ?_⟩
    have hkl : k < l.length := by omega
    have n1 := hnb _ (List.getElem_mem hi)
    have n2 := hnb _ (List.getElem_mem hkl)
    rcases mem_conL hi hy with e1 | ⟨e1, e1'⟩ <;> rcases mem_conL hkl hyk with e2 | ⟨e2, e2'⟩
    · have := rising_inj hr hi hkl (by omega)
      omega
    · omega
    · omega
    · have := rising_inj hr hi hkl (by omega)
      omega
  · rw [conL_length] at hi
    refine ⟨⟨hh, hset i hi⟩, ?_⟩
    rw [row_conL hi]
    by_cases e : l[i] = a
    · rw [if_pos e]
      have e2 : ([(a : Int), (b : Int)]).map Int.toNat = [a, b] := by simp
      rw [e2]
      refine connL_of (by simp) fun x hx y hy => ?_
      have step1 : Rch (ofG h) (· ∈ [a, b]) a b := .step .base hE (by simp)
      have step2 : Rch (ofG h) (· ∈ [a, b]) b a := .step .base (ofG_sym hh _ _ hE) (by simp)
      simp only [List.mem_cons, List.not_mem_nil, or_false] at hx hy
      rcases hx with rfl | rfl <;> rcases hy with rfl | rfl
      · exact .base
      · exact step1
      · exact step2
      · exact .base
    · rw [if_neg e]
      have e2 : ([(l[i] : Int)]).map Int.toNat = [l[i]] := by simp
      rw [e2]
      exact connL_one _ _
  · obtain ⟨h1, h2, _, h4⟩ := mem_edN (Nat.le_refl _) he
    rw [hxl] at h1 h2
    have hin : ∀ i (hi : i < l.length), (l[i] : Int) ∈ row (conL l a b) i := fun i hi => by
      rw [row_conL hi]
      by_cases e : l[i] = a
      · rw [if_pos e, e]; simp
      · rw [if_neg e]; simp
    have hinb : ∀ i (hi : i < l.length), l[i] = a → (b : Int) ∈ row (conL l a b) i := fun i hi e => by
      rw [row_conL hi, if_pos e]; simp
    have hc4 : conE (ofG h) a b l[e.1] l[e.2] = true := by
      unfold indL at h4
      rw [natInts_length] at h4
      have h5 := matG_to h1 h2 h4
      rw [indE_nat h1 h2] at h5
      exact matG_to (hlt _ (List.getElem_mem h1)) (hlt _ (List.getElem_mem h2)) h5
    unfold conE at hc4
    simp only [Bool.or_eq_true, Bool.and_eq_true, beq_iff_eq] at hc4
    have hto : ∀ u v : Nat, ofG h u v = true → (v : Int) ∈ row h ((u : Int)).toNat := fun u v h => by simpa [ofG] using h
    rcases hc4 with (k | ⟨k1, k2, _⟩) | ⟨k1, k2, _⟩
    · exact ⟨_, hin e.1 h1, _, hin e.2 h2, hto _ _ k⟩
    · exact ⟨_, hinb e.1 h1 k1, _, hin e.2 h2, hto _ _ k2⟩
    · exact ⟨_, hin e.1 h1, _, hinb e.2 h2 k1, hto _ _ (ofG_sym hh _ _ k2)⟩

/-! ### The model of a minor of a minor; a model's word -/
theorem cmpS_ex (n : Nat) (M W : List (List Int)) (hM : ∀ j, ∀ x ∈ row M j, 0 ≤ x ∧ x < n) : ∃ R, CmpS M W R := by
  refine ⟨(List.range W.length).map fun i => natInts ((List.range n).filter fun v => dec (∃ k ∈ row W i, (v : Int) ∈ row M k.toNat)), by simp, fun i hi => ?_⟩
  have e : row ((List.range W.length).map fun i => natInts ((List.range n).filter fun v => dec (∃ k ∈ row W i, (v : Int) ∈ row M k.toNat))) i = natInts ((List.range n).filter fun v => dec (∃ k ∈ row W i, (v : Int) ∈ row M k.toNat)) := by simp [row, hi]
  rw [e]
  refine ⟨natInts_rising (List.Pairwise.filter _ List.pairwise_lt_range), fun x => ?_⟩
  rw [mem_natInts]
  constructor
  · rintro ⟨v, hv, rfl⟩
    exact dec_iff.1 (List.mem_filter.1 hv).2
  · rintro ⟨k, hk, hx⟩
    have h0 := hM _ x hx
    have ex : ((x.toNat : Nat) : Int) = x := by omega
    exact ⟨x.toNat, List.mem_filter.2 ⟨List.mem_range.2 (by omega), dec_true ⟨k, hk, by rw [ex]; exact hx⟩⟩, ex⟩
theorem mdOk_rows {g p M : List (List Int)} (h : MdOk g p M) (j : Nat) : ∀ x ∈ row M j, 0 ≤ x ∧ x < g.length := fun x hx => by
  by_cases hj : j < M.length
  · exact (h.1.1.1.2 j hj).1.1 x hx
  · have : row M j = [] := by simp [row, List.getElem?_eq_none (show M.length ≤ j by omega)]
    rw [this] at hx; simp at hx
/-- g has p as a minor. -/
def MinOf (g p : List (List Int)) : Prop := ∃ M, MdOk g p M
theorem MinOf.trans {g p q : List (List Int)} (h : MinOf g p) (k : MinOf p q) : MinOf g q := by
  obtain ⟨M, hM⟩ := h
  obtain ⟨W, hW⟩ := k
  obtain ⟨R, hR⟩ := cmpS_ex g.length M W (mdOk_rows hM)
  exact ⟨R, mdOk_comp hM hW hR⟩
/-- A model's word. -/
noncomputable def wordM (n : Nat) (M : List (List Int)) : List Nat := (List.range n).map fun v : Nat => ((List.range M.length).find? fun i => dec (((v : Nat) : Int) ∈ row M i)).elim 0 (· + 1)
theorem wordM_length (n : Nat) (M : List (List Int)) : (wordM n M).length = n := by simp [wordM]
theorem wordM_le {n : Nat} {M : List (List Int)} : ∀ c ∈ wordM n M, c ≤ M.length := fun c hc => by
  obtain ⟨v, _, rfl⟩ := List.mem_map.1 hc
  cases h : (List.range M.length).find? fun i => dec ((v : Int) ∈ row M i) with
  | none => simp
  | some i =>
    have := List.mem_range.1 (List.mem_of_find?_eq_some h)
    simp; omega
theorem wordM_at {g p M : List (List Int)} (h : MdOk g p M) {v i : Nat} (hv : v < g.length) (hi : i < M.length) : (wordM g.length M).getD v 0 = i + 1 ↔ (v : Int) ∈ row M i := by
  have e : (wordM g.length M).getD v 0 = ((List.range M.length).find? fun i => dec ((v : Int) ∈ row M i)).elim 0 (· + 1) := by simp [wordM, List.getD_eq_getElem?_getD, hv]
  rw [e]
  have hone : ∀ i j, i < M.length → j < M.length → (v : Int) ∈ row M i → (v : Int) ∈ row M j → i = j := fun i j hi hj h1 h2 => by
    rcases Nat.lt_trichotomy i j with hlt | e | hgt
    · exact absurd h1 ((h.1.1.1.2 j hj).2 i hlt _ h2)
    · exact e
    · exact absurd h2 ((h.1.1.1.2 i hi).2 j hgt _ h1)
  cases hf : (List.range M.length).find? fun i => dec ((v : Int) ∈ row M i) with
  | none =>
    have := List.find?_eq_none.1 hf i (List.mem_range.2 hi)
    simp only [dec_iff] at this
    simp [this]
  | some j =>
    have hj := List.mem_range.1 (List.mem_of_find?_eq_some hf)
    have hjm := dec_iff.1 (List.find?_some (p := fun i => dec ((v : Int) ∈ row M i)) hf)
    simp only [Option.elim_some, Nat.add_right_cancel_iff]
    constructor
    · rintro rfl; exact hjm
    · exact fun hm => hone j i hj hi hjm hm
theorem setW_wordM {g p M : List (List Int)} (h : MdOk g p M) {i : Nat} (hi : i < M.length) : setW (wordM g.length M) i = (row M i).map Int.toNat := by
  have hs := (h.1.1.1.2 i hi).1
  refine rising_ext _ _ (setW_rising _ _) ?_ fun x => ?_
  · rw [List.pairwise_map]
    refine hs.2.imp_of_mem fun {a b} ha hb hab => ?_
    have := hs.1 a ha
    have := hs.1 b hb
    omega
  · rw [mem_setW, wordM_length, List.mem_map]
    constructor
    · rintro ⟨h1, h2⟩
      exact ⟨x, (wordM_at h h1 hi).1 h2, by simp⟩
    · rintro ⟨y, hy, rfl⟩
      have := hs.1 y hy
      have e : ((y.toNat : Nat) : Int) = y := by omega
      refine ⟨by omega, (wordM_at h (by omega) hi).2 (by rw [e]; exact hy)⟩
/-- The search finds a minor. -/
theorem minor_found {g p : List (List Int)} (h : MinOf g p) : ∃ w, findN p.length (FitW p.length (ofG g) (ofG p)) g.length [] = some w := by
  obtain ⟨M, hM⟩ := h
  have hl := hM.1.2
  have hfit : FitW p.length (ofG g) (ofG p) (wordM g.length M) := by
    refine ⟨fun k hk => ?_, fun i hi k hk hE => ?_⟩
    · rw [setW_wordM hM (by omega)]
      exact (hM.2.1 k (by omega)).2
    · rw [setW_wordM hM (by omega), setW_wordM hM (by omega)]
      obtain ⟨x, hx, y, hy, hj⟩ := mdOk_join hM hE
      have h1 := mdOk_rows hM i x hx
      have h2 := mdOk_rows hM k y hy
      refine ⟨x.toNat, List.mem_map.2 ⟨x, hx, rfl⟩, y.toNat, List.mem_map.2 ⟨y, hy, rfl⟩, ?_⟩
      simp only [ofG, decide_eq_true_eq]
      rw [show ((y.toNat : Nat) : Int) = y by omega]
      exact hj
  cases hf : findN p.length (FitW p.length (ofG g) (ofG p)) g.length [] with
  | some w => exact ⟨w, rfl⟩
  | none =>
    refine absurd hfit ?_
    have := findN_none (fun w h => fitW_has h) _ _ hf (wordM g.length M) (wordM_length _ _) (fun c hc => by have := wordM_le c hc; omega)
    rwa [List.nil_append] at this

end Go.Proofs.YtfokiijcpkhllaaDoor

/- Walks: the reference cuts a vertex, and contracts an edge. -/
namespace Go.Proofs.YtfokiijcpkhllaaDoor
open Go.RowKit

theorem free_start (w : World) (u : Value) :
    ∃ W, W = ((w.alloc (.cells #[u] 29)).alloc (.cells #[.slice none 0 0] 29)).alloc (.cells #[.slice none 0 0] 29) ∧ Below w.heap.size w W ∧ W.heap.size = w.heap.size + 3 ∧
      W.cell? ⟨w.heap.size, 0, none⟩ = some u ∧ Box W (w.heap.size + 1) 29 (.slice none 0 0) ∧ Box W (w.heap.size + 1 + 1) 29 (.slice none 0 0) := by
  refine ⟨_, rfl, below_alloc3 _ _ _ _, by rw [size_alloc, size_alloc, size_alloc], ?_, ?_, ?_⟩
  · exact (((Box.new w u 29).alloc _).alloc _).cell
  · have := (Box.new (w.alloc (.cells #[u] 29)) (.slice none 0 0) 29).alloc (.cells #[.slice none 0 0] 29)
    rw [size_alloc] at this
    exact this
  · have := Box.new ((w.alloc (.cells #[u] 29)).alloc (.cells #[.slice none 0 0] 29)) (.slice none 0 0) 29
    rw [size_alloc, size_alloc] at this
    exact this

theorem free_step {w wr wc w7 : World} {k b7 c8 : Nat} {ov x rv : Value} {u : Value} {vals : List Value} {f : Nat → List Int}
    (hbel : Below w.heap.size w wr) (hsz : w.heap.size + 3 ≤ wr.heap.size) (hbc : Below wr.heap.size wr wc) (hc0 : wr.cell? ⟨w.heap.size, 0, none⟩ = some u)
    (hb2 : Box wr (w.heap.size + 1) 29 x) (hb3 : Box wr (w.heap.size + 1 + 1) 29 ov) (hown : wr.ownsRow (w.heap.size + 3) 32 1 ov k vals)
    (hvl : vals.length = k) (hrows : ∀ j, j < k → Nums wr 2 .i64 (vals.getD j undef) (f j)) (hn : Nums wc 2 .i64 rv (f k))
    (hown7 : w7.ownsRow (w.heap.size + 3) 32 1 (.slice (some ⟨b7, 0, none⟩) (k + 1) c8) (k + 1) (vals ++ [rv])) (hg7 : wc.grownBy w7 ov.ownBlock) :
    ∃ W, W = w7.setCell ⟨w.heap.size + 1 + 1, 0, none⟩ (.slice (some ⟨b7, 0, none⟩) (k + 1) c8) ∧
      Below w.heap.size w W ∧ w.heap.size + 3 ≤ W.heap.size ∧ W.cell? ⟨w.heap.size, 0, none⟩ = some u ∧ Box W (w.heap.size + 1) 29 x ∧ Box W (w.heap.size + 1 + 1) 29 (.slice (some ⟨b7, 0, none⟩) (k + 1) c8) ∧
      W.ownsRow (w.heap.size + 3) 32 1 (.slice (some ⟨b7, 0, none⟩) (k + 1) c8) (k + 1) (vals ++ [rv]) ∧ ∀ j, j < k + 1 → Nums W 2 .i64 ((vals ++ [rv]).getD j undef) (f j) := by
  have hownc := ownsRow_below hown hbc
  have hszc := hbc.size
  have hsz7 := hg7.size
  have hb7 : Below (w.heap.size + 3) wc w7 := below_grown (Below.refl _ _) hownc hg7 (Nat.le_refl _) (by omega)
  have hb37 : Box w7 (w.heap.size + 1 + 1) 29 ov := (hb3.keep hbc).below hb7 (by omega)
  have hb9 : Below (w.heap.size + 1 + 1) w7 (w7.setCell ⟨w.heap.size + 1 + 1, 0, none⟩ (.slice (some ⟨b7, 0, none⟩) (k + 1) c8)) := (Below.refl _ _).setCell (by show w.heap.size + 1 + 1 ≤ w.heap.size + 1 + 1; omega) _
  have hall : Below (w.heap.size + 1 + 1) wr (w7.setCell ⟨w.heap.size + 1 + 1, 0, none⟩ (.slice (some ⟨b7, 0, none⟩) (k + 1) c8)) := ((hbc.mono (by omega)).trans (hb7.mono (by omega))).trans hb9
  refine ⟨_, rfl, hbel.trans (hall.mono (by omega)), by have := hall.size; omega, hall.at (by omega) hc0, hb2.below hall (by omega), hb37.set _, ownsRow_setBox hown7 hb37 (by decide) _, fun j hj => ?_⟩
  by_cases e : j = k
  · subst e
    rw [← hvl, getD_append_last]
    rw [hvl]
    exact (hn.other hownc hg7 (by decide)).setBox hb37 (by decide) _
  · rw [getD_append_left _ _ _ _ (by omega)]
    exact (((hrows j (by omega)).below hbc).other hownc hg7 (by decide)).setBox hb37 (by decide) _

/-- What the contraction's loop carries. -/
structure JK (W0 wr : World) (b5 ob c m : Nat) (gg : List (List Int)) (vals : List Value) : Prop where
  len : vals.length = m
  gl : gg.length = m
  own : wr.ownsRow W0.heap.size 32 1 (.slice (some ⟨ob, 0, none⟩) m c) m vals
  rows : ∀ j, j < m → Nums wr 2 .i64 (vals.getD j undef) (row gg j)
  box : Box wr b5 29 (.slice (some ⟨ob, 0, none⟩) m c)
  bel : Below W0.heap.size W0 wr
  le : W0.heap.size ≤ ob
  lt : ob < b5

theorem JK.next {W0 wr wx : World} {b5 ob c m : Nat} {gg : List (List Int)} {vals : List Value} (h : JK W0 wr b5 ob c m gg vals) (hb : Below wr.heap.size wr wx) : JK W0 wx b5 ob c m gg vals :=
  ⟨h.len, h.gl, ownsRow_below h.own hb, fun j hj => (h.rows j hj).below hb, h.box.keep hb, h.bel.trans (hb.mono h.bel.size), h.le, h.lt⟩
theorem JK.step {W0 wr w2 : World} {b5 ob c m : Nat} {gg : List (List Int)} {vals : List Value} (h : JK W0 wr b5 ob c m gg vals) (hb : Below wr.heap.size wr w2) {rv : Value} {s : List Int} (hn : Nums w2 2 .i64 rv s) {u : Nat} (hu : u < m) :
    JK W0 (w2.setCell ⟨ob, u, none⟩ rv) b5 ob c m (gg.set u s) (vals.set u rv) := by
  have hx := h.next hb
  obtain ⟨ho2, hg2⟩ := hx.own.stored u rv
  have hl := h.lt
  refine ⟨by simp [h.len], by simp [h.gl], ho2, fun j hj => ?_, hx.box.setOther (by show b5 ≠ ob; omega) _, hx.bel.setCell (by show W0.heap.size ≤ ob; exact h.le) _, h.le, hl⟩
  rw [row_put]
  by_cases e : j = u
  · subst e
    rw [if_pos ⟨rfl, by rw [h.gl]; exact hu⟩]
    have : (vals.set j rv).getD j undef = rv := by simp [h.len, hj]
    rw [this]
    exact hn.other hx.own hg2 (by decide)
  · rw [if_neg (fun q => e q.1)]
    have : (vals.set u rv).getD j undef = vals.getD j undef := by simp [show ¬ u = j from fun q => e q.symm]
    rw [this]
    exact (hx.rows j hj).other hx.own hg2 (by decide)
theorem JK.sg {W0 wr : World} {b5 ob c m : Nat} {gg : List (List Int)} {vals : List Value} (h : JK W0 wr b5 ob c m gg vals) : SG wr W0.heap.size (.agg #[.slice (some ⟨ob, 0, none⟩) m c]) gg :=
  ⟨_, vals, rfl, by rw [h.len, h.gl], by rw [h.gl]; exact h.own, fun j hj => h.rows j (by rw [← h.gl]; exact hj)⟩

theorem take_fold {α : Type} (f : α → Int → α) (a : α) (l : List Int) {k : Nat} (h : k < l.length) : (l.take (k + 1)).foldl f a = f ((l.take k).foldl f a) l[k] := by
  rw [take_snoc' l k h, List.foldl_append]; rfl

end Go.Proofs.YtfokiijcpkhllaaDoor

/- Walks: what the reference can cut, and what it can contract. -/
namespace Go.Proofs.YtfokiijcpkhllaaDoor
open Go.RowKit

/-- A graph and some of its vertices that the walks of this text take. -/
structure GL (g : List (List Int)) (L : List Int) : Prop where
  n16 : g.length ≤ 16
  l16 : L.length ≤ 16
  inn : ∀ x ∈ L, 0 ≤ x ∧ x < g.length
  rg : RG g
theorem GL.rl {g : List (List Int)} {L : List Int} (h : GL g L) (j : Nat) : (row g j).length ≤ 16 := by have := h.rg.row_le j; have := h.n16; omega
theorem GL.less {g g' : List (List Int)} {L : List Int} (h : GL g L) (hl : g'.length = g.length) (hr : RG g') (v : Int) : GL g' (lessL L v) :=
  ⟨by rw [hl]; exact h.n16, by have := lessL_length L v; have := h.l16; omega, fun x hx => by rw [hl]; exact h.inn x (mem_lessL.1 hx).1, hr⟩

/-- The two boxes that a function of a graph lays at its start: the graph's and the result's. -/
theorem two_start (w : World) (u : Value) : ∃ W0, W0 = (w.alloc (.cells #[u] 29)).alloc (.cells #[.slice none 0 0] 29) ∧ Below w.heap.size w W0 ∧ Box W0 w.heap.size 29 u ∧ Box W0 (w.heap.size + 1) 29 (.slice none 0 0) ∧ W0.heap.size = w.heap.size + 2 := by
  refine ⟨_, rfl, below_alloc2 _ _ _, (Box.new _ _ _).alloc _, ?_, by rw [size_alloc, size_alloc]⟩
  have := Box.new (w.alloc (.cells #[u] 29)) (.slice none 0 0) 29
  rw [size_alloc] at this
  exact this

theorem SG.outer {w : World} {base : Nat} {r : Value} {g : List (List Int)} (h : SG w base r g) (hn : 1 ≤ g.length) (hm : g.length ≤ 1000000000) : ∃ b c, r = .agg #[.slice (some ⟨b, 0, none⟩) g.length c] ∧ base ≤ b ∧ b < w.heap.size ∧ Rws w 32 2 (.slice (some ⟨b, 0, none⟩) g.length c) g := by
  have hg := h.gr hm
  obtain ⟨u, vals, rfl, _, h3, _⟩ := h
  have hlt := h3.lt
  rcases h3.2 with ⟨_, h0⟩ | ⟨b, c, _, rfl, _⟩
  · omega
  · obtain ⟨u', e, hr⟩ := hg
    cases e
    exact ⟨b, c, rfl, (hlt b rfl).1, (hlt b rfl).2, hr⟩

end Go.Proofs.YtfokiijcpkhllaaDoor

/- Walk: which edge the reference can contract. -/
namespace Go.Proofs.YtfokiijcpkhllaaDoor
open Go.RowKit

theorem GL.join {g : List (List Int)} {L : List Int} (h : GL g L) {u v : Int} (hu : u ∈ L) : GL (joinG g u v) (lessL L v) :=
  h.less (joinG_length g u v) (joinG_mem h.rg (h.inn u hu).1 (h.inn u hu).2).1 v

end Go.Proofs.YtfokiijcpkhllaaDoor

/- Walks: what the reference's FourModel carries. -/
namespace Go.Proofs.YtfokiijcpkhllaaDoor
open Go.RowKit

theorem row_snoc (g : List (List Int)) (s : List Int) (j : Nat) : row (g ++ [s]) j = if j = g.length then s else row g j := by
  unfold row
  by_cases e : j = g.length
  · subst e; simp
  · rw [if_neg e]
    by_cases h : j < g.length
    · simp [List.getElem?_append_left h]
    · rw [List.getD_eq_getElem?_getD, List.getElem?_eq_none (by simp; omega), List.getD_eq_getElem?_getD, List.getElem?_eq_none (by omega)]
theorem SG.snoc {w w' : World} {base : Nat} {u u' rv : Value} {g : List (List Int)} {s : List Int} {vals : List Value} (hl : vals.length = g.length) (ho : w.ownsRow base 32 1 u g.length vals) (hr : ∀ j, j < g.length → Nums w 2 .i64 (vals.getD j undef) (row g j))
    (ho' : w'.ownsRow base 32 1 u' (g.length + 1) (vals ++ [rv])) (hg : w.grownBy w' u.ownBlock) (hn : Nums w 2 .i64 rv s) : SG w' base (.agg #[u']) (g ++ [s]) := by
  refine ⟨u', vals ++ [rv], rfl, by simp [hl], by rw [List.length_append]; exact ho', fun j hj => ?_⟩
  rw [List.length_append] at hj
  simp only [List.length_cons, List.length_nil] at hj
  rw [row_snoc]
  by_cases h : j = g.length
  · subst h
    rw [if_pos rfl, ← hl, getD_append_last]
    exact hn.other ho hg (by decide)
  · rw [if_neg h, getD_append_left _ _ _ _ (by omega)]
    exact (hr j (by omega)).other ho hg (by decide)

theorem aloneL_length (n : Nat) : (aloneL n).length = n := by simp [aloneL]
theorem aloneL_succ (n : Nat) : aloneL (n + 1) = aloneL n ++ [[(n : Int)]] := by simp [aloneL, List.range_succ]
theorem aloneL_rg (n : Nat) : RG (aloneL n) := by
  intro j
  rw [aloneL_length]
  by_cases h : j < n
  · have : row (aloneL n) j = [(j : Int)] := by simp [row, aloneL, h]
    rw [this]
    exact ⟨fun x hx => by simp at hx; omega, by simp⟩
  · rw [row_over (by rw [aloneL_length]; omega)]; exact setIn_nil _
theorem RG.put {S : List (List Int)} (h : RG S) (u : Nat) {s : List Int} (hs : SetIn S.length s) : RG (S.set u s) := by
  intro j
  rw [List.length_set, row_put]
  split
  · exact hs
  · exact h j
theorem intoAll_set {n : Int} (t : List Int) : ∀ {s : List Int}, SetIn n s → (∀ x ∈ t, 0 ≤ x ∧ x < n) → SetIn n (intoAll s t) := by
  induction t with
  | nil => intro s hs _; exact hs
  | cons x t ih => intro s hs ht; exact ih (setIn_intoL hs (ht x (by simp)).1 (ht x (by simp)).2) fun y hy => ht y (by simp [hy])

/-- What has another outer row stays while one row is written. -/
theorem Rws.away {w w' : World} {gb go n c sb base m : Nat} {u : Value} {ys : List Value} {gg : List (List Int)} (h : Rws w 32 2 (.slice (some ⟨gb, go, none⟩) n c) gg) (ho : w.ownsRow base 32 1 u m ys) (hu : u.ownBlock = some sb)
    (hg : w.grownBy w' (some sb)) (hne : gb ≠ sb) : Rws w' 32 2 (.slice (some ⟨gb, go, none⟩) n c) gg := by
  obtain ⟨vals, h1, ⟨p, c', e, h2, h3, h4, hat⟩, h5⟩ := h
  cases e
  refine ⟨vals, h1, ⟨_, _, rfl, h2, h3, h4, hat.keep fun b o cur fz hp hb => hg.block b (Array.getElem?_eq_some_iff.1 hb).1 fun q => ?_⟩, fun j hj => (h5 j hj).other ho (by rw [hu]; exact hg) (by decide)⟩
  simp only [Option.some.injEq, Addr.mk.injEq, and_true] at hp q
  omega

/-- What the loop carries. -/
structure FrI (w wr : World) (n sb sc : Nat) (gg : List (List Int)) (L : List Int) (S : List (List Int)) (gb go gc : Nat) (lv : Value) : Prop where
  bel : Below w.heap.size w wr
  sz : w.heap.size + 2 ≤ wr.heap.size
  box : Box wr w.heap.size 29 (.slice (some ⟨gb, go, none⟩) n gc)
  gr : Rws wr 32 2 (.slice (some ⟨gb, go, none⟩) n gc) gg
  ne : gb ≠ sb
  res : Box wr (w.heap.size + 1) 49 (.slice none 0 0)
  left : Nums wr 2 .i64 lv L
  sets : SG wr (w.heap.size + 2) (.agg #[.slice (some ⟨sb, 0, none⟩) n sc]) S
  gl : gg.length = n
  sl : S.length = n
  rs : RG S
  gw : GL gg L

theorem FrI.next {w wr wx : World} {n sb sc gb go gc : Nat} {gg S : List (List Int)} {L : List Int} {lv : Value} (h : FrI w wr n sb sc gg L S gb go gc lv) (hb : Below wr.heap.size wr wx) : FrI w wx n sb sc gg L S gb go gc lv :=
  { bel := h.bel.trans (hb.mono h.bel.size), sz := Nat.le_trans h.sz hb.size, box := h.box.keep hb, gr := h.gr.below hb, ne := h.ne, res := h.res.keep hb, left := h.left.below hb, sets := h.sets.below hb, gl := h.gl, sl := h.sl, rs := h.rs, gw := h.gw }
theorem FrI.slt {w wr : World} {n sb sc gb go gc : Nat} {gg S : List (List Int)} {L : List Int} {lv : Value} (h : FrI w wr n sb sc gg L S gb go gc lv) : w.heap.size + 2 ≤ sb ∧ sb < wr.heap.size := h.sets.lt sb rfl
/-- The graph and the vertices that are left change. -/
theorem FrI.go {w wr wx : World} {n sb sc gb go gc gb' go' gc' : Nat} {gg S : List (List Int)} {L : List Int} {lv : Value} (h : FrI w wr n sb sc gg L S gb go gc lv) (hb : Below wr.heap.size wr wx) {g1 : List (List Int)} {L1 : List Int} {lv1 : Value}
    (hR : Rws wx 32 2 (.slice (some ⟨gb', go', none⟩) n gc') g1) (hne : gb' ≠ sb) (hN : Nums wx 2 .i64 lv1 L1) (hl : g1.length = n) (hw : GL g1 L1) :
    FrI w (wx.setCell ⟨w.heap.size, 0, none⟩ (.slice (some ⟨gb', go', none⟩) n gc')) n sb sc g1 L1 S gb' go' gc' lv1 := by
  have hx := h.next hb
  exact { bel := hx.bel.setCell (Nat.le_refl _) _, sz := by have := hx.sz; simpa [World.setCell] using this, box := hx.box.set _, gr := hR.setBox hx.box (by decide) (by decide) _, ne := hne, res := hx.res.setOther (by show w.heap.size + 1 ≠ w.heap.size; omega) _
          left := Sl.setBox hN hx.box (by decide) _, sets := hx.sets.setBox hx.box _, gl := hl, sl := h.sl, rs := h.rs, gw := hw }
/-- A vertex's set changes. -/
theorem FrI.put {w wr w2 : World} {n sb sc gb go gc : Nat} {gg S : List (List Int)} {L : List Int} {lv rv : Value} (h : FrI w wr n sb sc gg L S gb go gc lv) (hb : Below wr.heap.size wr w2) {s : List Int} (hn : Nums w2 2 .i64 rv s) {u : Nat} (hu : u < n) (hs : SetIn n s) :
    FrI w (w2.setCell ⟨sb, u, none⟩ rv) n sb sc gg L (S.set u s) gb go gc lv := by
  have hx := h.next hb
  obtain ⟨_, vals, e, h1, h2, h3⟩ := hx.sets
  cases e
  rw [h.sl] at h1 h2 h3
  obtain ⟨ho2, hg2⟩ := h2.stored u rv
  obtain ⟨s1, s2⟩ := hx.slt
  refine { bel := hx.bel.setCell (by show w.heap.size ≤ sb; omega) _, sz := by have := hx.sz; simpa [World.setCell] using this, box := hx.box.setOther (by show w.heap.size ≠ sb; omega) _, gr := hx.gr.away h2 rfl hg2 h.ne, ne := h.ne
           res := hx.res.setOther (by show w.heap.size + 1 ≠ sb; omega) _, left := hx.left.other h2 hg2 (by decide), sets := ⟨_, vals.set u rv, rfl, by simp [h1, h.sl], by rw [List.length_set, h.sl]; exact ho2, fun j hj => ?_⟩, gl := h.gl, sl := by simp [h.sl], rs := h.rs.put u (by rw [h.sl]; exact hs), gw := h.gw }
  rw [List.length_set, h.sl] at hj
  rw [row_put]
  by_cases e : j = u
  · subst e
    rw [if_pos ⟨rfl, by rw [h.sl]; exact hj⟩]
    have : (vals.set j rv).getD j undef = rv := by simp [h1, hj]
    rw [this]
    exact hn.other h2 hg2 (by decide)
  · rw [if_neg (fun q => e q.1)]
    have : (vals.set u rv).getD j undef = vals.getD j undef := by simp [show ¬ u = j from fun q => e q.symm]
    rw [this]
    exact (h3 j hj).other h2 hg2 (by decide)

theorem FrI.setLeft {w wr : World} {n sb sc gb go gc : Nat} {gg S : List (List Int)} {L L1 : List Int} {lv lv1 : Value} (h : FrI w wr n sb sc gg L S gb go gc lv) (hN : Nums wr 2 .i64 lv1 L1) (hw : GL gg L1) : FrI w wr n sb sc gg L1 S gb go gc lv1 :=
  { h with left := hN, gw := hw }
/-- A set's cells. -/
theorem FrI.get {w wr : World} {n sb sc gb go gc : Nat} {gg S : List (List Int)} {L : List Int} {lv : Value} (h : FrI w wr n sb sc gg L S gb go gc lv) {u : Nat} (hu : u < n) :
    ∃ p c, wr.cell? ⟨sb, u, none⟩ = some (.slice p (row S u).length c) ∧ wr.frozen? ⟨sb, u, none⟩ = false ∧ Nums wr 2 .i64 (.slice p (row S u).length c) (row S u) := by
  obtain ⟨_, vals, e, h1, h2, h3⟩ := h.sets
  cases e
  rw [h.sl] at h1 h2 h3
  have hc := h2.cellAt u (by omega)
  have hf := h2.frozenAt u
  have hn := h3 u hu
  obtain ⟨p, c, hv, _⟩ := hn.shape
  rw [get_getD vals u undef (by rw [h1]; exact hu), hv] at hc
  rw [hv] at hn
  exact ⟨p, c, hc, hf, hn⟩

/-- Neighbours of who is left are left, and none is its own. -/
structure CL (g : List (List Int)) (L : List Int) : Prop where
  cl : ∀ u ∈ L, ∀ y ∈ row g u.toNat, y ∈ L
  irr : ∀ u ∈ L, u ∉ row g u.toNat
theorem CL.start {g : List (List Int)} (h : GOk g) : CL g (allL g.length) := by
  refine ⟨fun u hu y hy => ?_, fun u hu => ?_⟩
  · have hu := mem_allL.1 hu
    have := (h.sets u.toNat (by omega)).1.1 y hy
    exact mem_allL.2 this
  · have hu := mem_allL.1 hu
    have := (h.sets u.toNat (by omega)).2
    rwa [Int.toNat_of_nonneg hu.1] at this
theorem freeG_mem {g : List (List Int)} {L : List Int} (h : GL g L) {v u : Int} (hu : u ∈ L) (hne : u ≠ v) (y : Int) : y ∈ row (freeG g v) u.toNat ↔ y ∈ row g u.toNat ∧ y ≠ v := by
  have := h.inn u hu
  rw [row_freeG g v (by omega), freeRow_no (by omega), mem_lessL]
theorem CL.free {g : List (List Int)} {L : List Int} (h : CL g L) (hg : GL g L) (v : Int) : CL (freeG g v) (lessL L v) := by
  refine ⟨fun u hu y hy => ?_, fun u hu hy => ?_⟩
  · obtain ⟨h1, h2⟩ := mem_lessL.1 hu
    have hy := (freeG_mem hg h1 h2 y).1 hy
    exact mem_lessL.2 ⟨h.cl u h1 y hy.1, hy.2⟩
  · obtain ⟨h1, h2⟩ := mem_lessL.1 hu
    exact h.irr u h1 ((freeG_mem hg h1 h2 u).1 hy).1
theorem CL.join {g : List (List Int)} {L : List Int} (h : CL g L) (hg : GL g L) {a b : Int} (ha : a ∈ L) (hb : b ∈ L) (hab : a ≠ b) : CL (joinG g a b) (lessL L b) := by
  obtain ⟨_, hm⟩ := joinG_mem (v := b) hg.rg (hg.inn a ha).1 (hg.inn a ha).2
  have hT : ∀ u ∈ L, ((u.toNat : Nat) : Int) = u := fun u hu => Int.toNat_of_nonneg (hg.inn u hu).1
  refine ⟨fun u hu y hy => ?_, fun u hu hy => ?_⟩
  · obtain ⟨h1, h2⟩ := mem_lessL.1 hu
    rcases (hm _ _).1 hy with hy | ⟨x, hx, hxa, ⟨_, rfl⟩ | ⟨_, rfl⟩⟩
    · have hy := (freeG_mem hg h1 h2 y).1 hy
      exact mem_lessL.2 ⟨h.cl u h1 y hy.1, hy.2⟩
    · exact mem_lessL.2 ⟨ha, hab⟩
    · exact mem_lessL.2 ⟨h.cl b hb _ hx, fun e => h.irr b hb (by rw [e] at hx; exact hx)⟩
  · obtain ⟨h1, h2⟩ := mem_lessL.1 hu
    rcases (hm _ _).1 hy with hy | ⟨x, hx, hxa, ⟨e1, e2⟩ | ⟨e1, e2⟩⟩
    · exact h.irr u h1 ((freeG_mem hg h1 h2 u).1 hy).1
    · rw [hT u h1] at e1; exact hxa (by rw [← e1, e2])
    · rw [hT u h1] at e1; exact hxa (by rw [← e2, e1])

theorem SG.setM {w : World} {base b : Nat} {v x : Value} {g : List (List Int)} (h : SG w base v g) (hb : Box w b 49 x) (u : Value) : SG (w.setCell ⟨b, 0, none⟩ u) base v g := by
  obtain ⟨u0, vals, h1, h2, h3, h4⟩ := h
  exact ⟨u0, vals, h1, h2, ownsRow_setBox h3 hb (by decide) _, fun j hj => (h4 j hj).setBox hb (by decide) _⟩

end Go.Proofs.YtfokiijcpkhllaaDoor
