/- Plain: orders of all vertices. -/
import Derived.Test.YtfphapcgjlhieaaDoorGtQ10
import Derived.Test.YtfphapcgjlhieaaDoorGtQ11
namespace Go.Proofs.YtfphapcgjlhieaaDoor

/-- An order of the numbers below n. -/
def OrdOk (n : Nat) (l : List Int) : Prop := l.length = n ∧ (∀ x ∈ l, 0 ≤ x ∧ x < n) ∧ l.Nodup

theorem strict_of {l : List Int} (h : l.Pairwise (· ≤ ·)) (hn : l.Nodup) : l.Pairwise (· < ·) := by
  induction l with
  | nil => exact List.Pairwise.nil
  | cons x l ih =>
    rw [List.pairwise_cons] at h
    rw [List.nodup_cons] at hn
    rw [List.pairwise_cons]
    refine ⟨fun y hy => ?_, ih h.2 hn.2⟩
    have h1 := h.1 y hy
    by_cases e : x = y
    · subst e; exact absurd hy hn.1
    · omega
theorem nodup_of {l : List Int} (h : l.Pairwise (· < ·)) : l.Nodup := by
  unfold List.Nodup
  exact h.imp fun hx e => by omega

theorem setIn_sort {n : Int} {l : List Int} : SetIn n (l.mergeSort fun x y => decide (x ≤ y)) ↔ (∀ x ∈ l, 0 ≤ x ∧ x < n) ∧ l.Nodup := by
  have hp := List.mergeSort_perm l (fun x y => decide (x ≤ y))
  have hs : (l.mergeSort fun x y => decide (x ≤ y)).Pairwise (fun a b => decide (a ≤ b) = true) :=
    List.pairwise_mergeSort (fun a b c h1 h2 => by simp only [decide_eq_true_eq] at *; omega) (fun a b => by simp only [Bool.or_eq_true, decide_eq_true_eq]; omega) l
  have hs' : (l.mergeSort fun x y => decide (x ≤ y)).Pairwise (· ≤ ·) := hs.imp fun h => by simpa using h
  constructor
  · rintro ⟨h1, h2⟩
    exact ⟨fun x hx => h1 x (hp.mem_iff.2 hx), hp.nodup_iff.1 (nodup_of h2)⟩
  · rintro ⟨h1, h2⟩
    exact ⟨fun x hx => h1 x (hp.mem_iff.1 hx), strict_of hs' (hp.nodup_iff.2 h2)⟩

theorem ordOk_sort {n : Nat} {l : List Int} (hl : l.length = n) : SetIn n (l.mergeSort fun x y => decide (x ≤ y)) ↔ OrdOk n l := by
  rw [setIn_sort]
  exact ⟨fun h => ⟨hl, h.1, h.2⟩, fun h => ⟨h.2.1, h.2.2⟩⟩

theorem nodup_snoc {l : List Int} {x : Int} : (l ++ [x]).Nodup ↔ l.Nodup ∧ x ∉ l := by
  rw [List.nodup_append]
  constructor
  · rintro ⟨h1, _, h2⟩
    exact ⟨h1, fun h => h2 x h x (by simp) rfl⟩
  · rintro ⟨h1, h2⟩
    refine ⟨h1, by simp, fun a ha b hb e => ?_⟩
    simp only [List.mem_singleton] at hb
    subst hb; subst e
    exact h2 ha

theorem ordE_sym {g : List (List Int)} (hg : GOk g) {l : List Int} (hl : OrdOk g.length l) : SymE l.length (indE g l) := indE_sym hg hl.2.1

/-- What Renamed returns. -/
def RenS (g : List (List Int)) (l : List Int) (gg : List (List Int)) (ok : Bool) : Prop :=
  (ok = true ∧ GOk g ∧ OrdOk g.length l ∧ gg = indL g l) ∨ (ok = false ∧ gg = [] ∧ ¬ (GOk g ∧ OrdOk g.length l))
theorem renS_det {g gg hh : List (List Int)} {l : List Int} {ok ok' : Bool} (h : RenS g l gg ok) (h' : RenS g l hh ok') : gg = hh ∧ ok = ok' := by
  rcases h with ⟨rfl, h1, h2, rfl⟩ | ⟨rfl, rfl, h⟩ <;> rcases h' with ⟨rfl, h1', h2', rfl⟩ | ⟨rfl, rfl, h'⟩
  · exact ⟨rfl, rfl⟩
  · exact absurd ⟨h1, h2⟩ h'
  · exact absurd ⟨h1', h2'⟩ h
  · exact ⟨rfl, rfl⟩

/-- The edges among listed vertices, in masks. -/
theorem bitE_netL {g : List (List Int)} (hg : GOk g) {l : List Nat} (hl : ∀ v ∈ l, v < g.length) : indL g (natInts l) = matG l.length (bitE (netL g) l) := by
  unfold indL
  rw [natInts_length]
  refine matG_congr fun r j hr hj => ?_
  unfold indE bitE
  have e1 : (natInts l).getD r 0 = ((l[r] : Nat) : Int) := by simp [natInts, hr]
  have e2 : (natInts l).getD j 0 = ((l[j] : Nat) : Int) := by simp [natInts, hj]
  have f1 : l.getD r 0 = l[r] := by simp [hr]
  have f2 : l.getD j 0 = l[j] := by simp [hj]
  rw [e1, e2, f1, f2, Int.toNat_natCast, netL_getD, Bool.eq_iff_iff, decide_eq_true_eq]
  exact (testBit_row hg (hl _ (List.getElem_mem hr)) _).symm

end Go.Proofs.YtfphapcgjlhieaaDoor

/- Plain: the graph that an elimination along an order fills. -/
namespace Go.Proofs.YtfphapcgjlhieaaDoor

/-- The later neighbours are made neighbours of each other. -/
def elimE (E : Nat → Nat → Bool) (S : Nat → Bool) : Nat → Nat → Bool := fun r j => E r j || (S r && S j && decide (r ≠ j))
def laterE (E : Nat → Nat → Bool) (l : List Nat) (m : Nat) (v : Nat) : Nat → Bool := fun x => E v x && decide (x ∉ l.take (m + 1))
/-- The edges behind the first m eliminations. -/
def fillP (E : Nat → Nat → Bool) (l : List Nat) : Nat → Nat → Nat → Bool
  | 0 => E
  | m + 1 => elimE (fillP E l m) (laterE (fillP E l m) l m (l.getD m 0))
/-- The later neighbours, as a list. -/
def lateL (n : Nat) (E : Nat → Nat → Bool) (l : List Nat) (m : Nat) : List Nat := (List.range n).filter (laterE (fillP E l m) l m (l.getD m 0))

theorem mem_lateL {n : Nat} {E : Nat → Nat → Bool} {l : List Nat} {m x : Nat} : x ∈ lateL n E l m ↔ x < n ∧ laterE (fillP E l m) l m (l.getD m 0) x = true := by simp [lateL]
theorem lateL_rising (n : Nat) (E : Nat → Nat → Bool) (l : List Nat) (m : Nat) : (lateL n E l m).Pairwise (· < ·) := List.Pairwise.filter _ List.pairwise_lt_range
theorem elim_late {n : Nat} {E : Nat → Nat → Bool} {l : List Nat} {m r j : Nat} (hr : r < n) (hj : j < n) :
    fillP E l (m + 1) r j = (fillP E l m r j || (decide (r ∈ lateL n E l m) && decide (j ∈ lateL n E l m) && decide (r ≠ j))) := by
  show elimE _ _ r j = _
  unfold elimE
  have h1 : laterE (fillP E l m) l m (l.getD m 0) r = decide (r ∈ lateL n E l m) := by rw [Bool.eq_iff_iff]; simp [mem_lateL, hr]
  have h2 : laterE (fillP E l m) l m (l.getD m 0) j = decide (j ∈ lateL n E l m) := by rw [Bool.eq_iff_iff]; simp [mem_lateL, hj]
  rw [h1, h2]

/-- The reference's double loop, in its midst. -/
def cliqE (E : Nat → Nat → Bool) (L : List Nat) (i k : Nat) : Nat → Nat → Bool := fun r j =>
  E r j || decide ((r ≠ j ∧ r ∈ L.take i ∧ j ∈ L.take i) ∨ (r = L.getD i 0 ∧ j ∈ L.take k) ∨ (j = L.getD i 0 ∧ r ∈ L.take k))
theorem getD_nat {L : List Nat} {i : Nat} (h : i < L.length) : L.getD i 0 = L[i] := by simp [h]
theorem take_snoc_mem {L : List Nat} {k x : Nat} (h : k < L.length) : x ∈ L.take (k + 1) ↔ x ∈ L.take k ∨ x = L[k] := by
  rw [List.take_succ_eq_append_getElem h, List.mem_append, List.mem_singleton]
theorem not_mem_take {L : List Nat} (hs : L.Pairwise (· < ·)) {i : Nat} (h : i < L.length) : L[i] ∉ L.take i := by
  intro hm
  obtain ⟨j, hj, e⟩ := List.mem_iff_getElem.1 hm
  rw [List.length_take] at hj
  rw [List.getElem_take] at e
  have := List.pairwise_iff_getElem.1 hs j i (by omega) h (by omega)
  omega
theorem cliq_start (m : Nat) (E : Nat → Nat → Bool) (L : List Nat) : matG m (cliqE E L 0 0) = matG m E := matG_congr fun r j _ _ => by simp [cliqE]
theorem cliq_step {m : Nat} {E : Nat → Nat → Bool} {L : List Nat} (hs : L.Pairwise (· < ·)) (hL : ∀ x ∈ L, x < m) {i k : Nat} (hi : i < L.length) (hk : k < i) :
    linkL (matG m (cliqE E L i k)) L[k] L[i] = matG m (cliqE E L i (k + 1)) := by
  have hlt := List.pairwise_iff_getElem.1 hs k i (by omega) hi hk
  rw [link_matG (hL _ (List.getElem_mem _)) (hL _ (List.getElem_mem _)) (by omega)]
  refine matG_congr fun r j hr hj => ?_
  unfold cliqE
  rw [getD_nat hi, Bool.eq_iff_iff]
  simp only [Bool.or_eq_true, Bool.and_eq_true, beq_iff_eq, decide_eq_true_eq, take_snoc_mem (show k < L.length by omega)]
  constructor
  · rintro (((h | h) | ⟨h1, h2⟩) | ⟨h1, h2⟩)
    · exact .inl h
    · rcases h with h | ⟨h1, h2⟩ | ⟨h1, h2⟩
      · exact .inr (.inl h)
      · exact .inr (.inr (.inl ⟨h1, .inl h2⟩))
      · exact .inr (.inr (.inr ⟨h1, .inl h2⟩))
    · exact .inr (.inr (.inr ⟨h2, .inr h1⟩))
    · exact .inr (.inr (.inl ⟨h1, .inr h2⟩))
  · rintro (h | h | ⟨h1, h2 | h2⟩ | ⟨h1, h2 | h2⟩)
    · exact .inl (.inl (.inl h))
    · exact .inl (.inl (.inr (.inl h)))
    · exact .inl (.inl (.inr (.inr (.inl ⟨h1, h2⟩))))
    · exact .inr ⟨h1, h2⟩
    · exact .inl (.inl (.inr (.inr (.inr ⟨h1, h2⟩))))
    · exact .inl (.inr ⟨h2, h1⟩)
theorem cliq_row {m : Nat} {E : Nat → Nat → Bool} {L : List Nat} (hs : L.Pairwise (· < ·)) {i : Nat} (hi : i < L.length) : matG m (cliqE E L i i) = matG m (cliqE E L (i + 1) 0) := by
  refine matG_congr fun r j hr hj => ?_
  have hn := not_mem_take hs hi
  unfold cliqE
  rw [getD_nat hi, Bool.eq_iff_iff]
  simp only [Bool.or_eq_true, decide_eq_true_eq, take_snoc_mem hi, List.take_zero, List.not_mem_nil, and_false, or_false]
  constructor
  · rintro (h | ⟨h0, h1, h2⟩ | ⟨h1, h2⟩ | ⟨h1, h2⟩)
    · exact .inl h
    · exact .inr ⟨h0, .inl h1, .inl h2⟩
    · exact .inr ⟨fun e => hn (h1 ▸ e ▸ h2), .inr h1, .inl h2⟩
    · exact .inr ⟨fun e => hn (h1 ▸ e ▸ h2), .inl h2, .inr h1⟩
  · rintro (h | ⟨h0, h1 | h1, h2 | h2⟩)
    · exact .inl h
    · exact .inr (.inl ⟨h0, h1, h2⟩)
    · exact .inr (.inr (.inr ⟨h2, h1⟩))
    · exact .inr (.inr (.inl ⟨h1, h2⟩))
    · exact absurd (h1.trans h2.symm) h0
theorem cliq_end {m : Nat} {E : Nat → Nat → Bool} {l : List Nat} {k : Nat} : matG m (cliqE (fillP E l k) (lateL m E l k) (lateL m E l k).length 0) = matG m (fillP E l (k + 1)) := by
  refine matG_congr fun r j hr hj => ?_
  rw [elim_late hr hj]
  unfold cliqE
  rw [Bool.eq_iff_iff]
  simp only [List.take_length, List.take_zero, List.not_mem_nil, and_false, or_false, Bool.or_eq_true, Bool.and_eq_true, decide_eq_true_eq]
  constructor
  · rintro (h | ⟨h0, h1, h2⟩)
    · exact .inl h
    · exact .inr ⟨⟨h1, h2⟩, h0⟩
  · rintro (h | ⟨⟨h1, h2⟩, h0⟩)
    · exact .inl h
    · exact .inr ⟨h0, h1, h2⟩

/-- The program's loop, in its midst. -/
def wingE (E : Nat → Nat → Bool) (L : List Nat) (t : Nat) : Nat → Nat → Bool := fun r j => E r j || decide (r ∈ L.take t ∧ j ∈ L ∧ r ≠ j)
theorem wing_start (m : Nat) (E : Nat → Nat → Bool) (L : List Nat) : indN m (wingE E L 0) = indN m E := indN_congr fun r j _ _ => by simp [wingE]
theorem wing_end {m : Nat} {E : Nat → Nat → Bool} {l : List Nat} {k : Nat} : indN m (wingE (fillP E l k) (lateL m E l k) (lateL m E l k).length) = indN m (fillP E l (k + 1)) := by
  refine indN_congr fun r j hr hj => ?_
  rw [elim_late hr hj]
  unfold wingE
  rw [Bool.eq_iff_iff]
  simp only [List.take_length, Bool.or_eq_true, Bool.and_eq_true, decide_eq_true_eq, and_assoc]
theorem wing_step {m : Nat} (hm : m ≤ 16) {E : Nat → Nat → Bool} {L : List Nat} (hs : L.Pairwise (· < ·)) (hL : ∀ x ∈ L, x < m) {t : Nat} (ht : t < L.length) {s : Nat} (hs16 : s < 65536) (hsL : ∀ j, s.testBit j = decide (j ∈ L)) :
    (indN m (wingE E L t)).set L[t] ((indN m (wingE E L t)).getD L[t] 0 ||| sub s (2 ^ L[t])) = indN m (wingE E L (t + 1)) := by
  have hu := hL _ (List.getElem_mem ht)
  refine natList_ext (by simp [indN_length]) fun r hr => ?_
  rw [List.length_set, indN_length] at hr
  have hl := indN_length m (wingE E L t)
  rw [getD_set _ _ _ _ (by omega)]
  refine Nat.eq_of_testBit_eq fun j => ?_
  by_cases e : r = L[t]
  · subst e
    rw [if_pos rfl, Nat.testBit_or, indN_bit hr, indN_bit hr, testBit_sub _ _ (by omega) (by have := pow_lt32 L[t] (by omega); exact this), hsL, testBit_pow]
    unfold wingE
    rw [Bool.eq_iff_iff]
    simp only [Bool.or_eq_true, Bool.and_eq_true, decide_eq_true_eq, Bool.not_eq_true', decide_eq_false_iff_not, take_snoc_mem ht]
    constructor
    · rintro (⟨h0, h | ⟨h1, h2, h3⟩⟩ | ⟨h1, h2⟩)
      · exact ⟨h0, .inl h⟩
      · exact ⟨h0, .inr ⟨.inl h1, h2, h3⟩⟩
      · exact ⟨hL _ h1, .inr ⟨.inr trivial, h1, h2⟩⟩
    · rintro ⟨h0, h | ⟨_, h2, h3⟩⟩
      · exact .inl ⟨h0, .inl h⟩
      · exact .inr ⟨h2, h3⟩
  · rw [if_neg e, indN_bit hr, indN_bit hr]
    unfold wingE
    congr 2
    rw [Bool.eq_iff_iff]
    simp only [decide_eq_true_eq, take_snoc_mem ht, e, or_false]

/-- A right graph as a matrix. -/
def ofG (g : List (List Int)) : Nat → Nat → Bool := fun r j => decide ((j : Int) ∈ row g r)
theorem matG_ofG {g : List (List Int)} (hg : GOk g) : matG g.length (ofG g) = g := by
  refine graph_ext (matG_length _ _) fun r hr => ?_
  rw [matG_length] at hr
  refine rising_ext_int _ _ (matG_rising hr) (hg.sets r hr).1.2 fun x => ?_
  rw [mem_matG hr]
  constructor
  · rintro ⟨j, rfl, _, h⟩; simpa [ofG] using h
  · intro h
    have := (hg.sets r hr).1.1 x h
    obtain ⟨j, rfl⟩ := Int.eq_ofNat_of_zero_le this.1
    exact ⟨j, rfl, by omega, by simpa [ofG] using h⟩
theorem indN_ofG {g : List (List Int)} (hg : GOk g) : indN g.length (ofG g) = netL g := by
  refine natList_ext (by simp [indN_length, netL]) fun r hr => ?_
  rw [indN_length] at hr
  refine Nat.eq_of_testBit_eq fun j => ?_
  rw [indN_bit hr, netL_getD, Bool.eq_iff_iff, testBit_row hg hr]
  simp only [Bool.and_eq_true, decide_eq_true_eq, ofG]
  exact ⟨fun h => h.2, fun h => ⟨by have := (hg.sets r hr).1.1 _ h; omega, h⟩⟩

/-- What FillOf returns. -/
def FillS (g : List (List Int)) (l : List Int) (gg : List (List Int)) (ok : Bool) : Prop :=
  (ok = true ∧ GOk g ∧ OrdOk g.length l ∧ gg = matG g.length (fillP (ofG g) (l.map Int.toNat) l.length)) ∨ (ok = false ∧ gg = [] ∧ ¬ (GOk g ∧ OrdOk g.length l))
theorem fillS_det {g gg hh : List (List Int)} {l : List Int} {ok ok' : Bool} (h : FillS g l gg ok) (h' : FillS g l hh ok') : gg = hh ∧ ok = ok' := by
  rcases h with ⟨rfl, h1, h2, rfl⟩ | ⟨rfl, rfl, h⟩ <;> rcases h' with ⟨rfl, h1', h2', rfl⟩ | ⟨rfl, rfl, h'⟩
  · exact ⟨rfl, rfl⟩
  · exact absurd ⟨h1, h2⟩ h'
  · exact absurd ⟨h1', h2'⟩ h
  · exact ⟨rfl, rfl⟩

end Go.Proofs.YtfphapcgjlhieaaDoor

/- Plain: how many edges a graph has; a filled graph is right. -/
namespace Go.Proofs.YtfphapcgjlhieaaDoor

def upL (k : Nat) (xs : List Int) : Nat := (xs.filter fun x => decide ((k : Int) < x)).length
theorem upL_snoc {k : Nat} {xs : List Int} {i : Nat} (h : i < xs.length) : upL k (xs.take (i + 1)) = upL k (xs.take i) + (if (k : Int) < xs[i] then 1 else 0) := by
  unfold upL
  rw [List.take_succ_eq_append_getElem h, List.filter_append, List.length_append]
  by_cases e : (k : Int) < xs[i] <;> simp [e]
theorem upL_le (k : Nat) (xs : List Int) : upL k xs ≤ xs.length := List.length_filter_le _ _
def cntE (g : List (List Int)) : Nat → Nat
  | 0 => 0
  | k + 1 => cntE g k + upL k (row g k)
theorem cntE_le {g : List (List Int)} {m : Nat} (h : ∀ j, (row g j).length ≤ m) : ∀ k, cntE g k ≤ k * m
  | 0 => by simp [cntE]
  | k + 1 => by
    have h1 := cntE_le h k
    have h2 := h k
    have h3 := upL_le k (row g k)
    have : (k + 1) * m = k * m + m := Nat.succ_mul k m
    simp only [cntE]; omega

theorem gok_matG {n : Nat} (h1 : 1 ≤ n) (h16 : n ≤ 16) {E : Nat → Nat → Bool} (hs : ∀ r j, E r j = true → E j r = true) (hi : ∀ r, E r r = false) : GOk (matG n E) where
  pos := by rw [matG_length]; exact h1
  le := by rw [matG_length]; exact h16
  sets := fun v hv => by
    rw [matG_length] at hv ⊢
    refine ⟨⟨fun x hx => ?_, matG_rising hv⟩, fun h => ?_⟩
    · obtain ⟨j, rfl, hj, _⟩ := (mem_matG hv).1 hx
      omega
    · obtain ⟨j, e, _, hE⟩ := (mem_matG hv).1 h
      obtain rfl : v = j := by omega
      rw [hi] at hE
      exact absurd hE (by decide)
  both := fun v hv u hu => by
    rw [matG_length] at hv
    obtain ⟨j, rfl, hj, hE⟩ := (mem_matG hv).1 hu
    rw [Int.toNat_natCast]
    exact (mem_matG hj).2 ⟨v, rfl, hv, hs _ _ hE⟩
theorem ofG_sym {g : List (List Int)} (hg : GOk g) (r j : Nat) (h : ofG g r j = true) : ofG g j r = true := by
  simp only [ofG, decide_eq_true_eq] at h ⊢
  by_cases hr : r < g.length
  · have := hg.both r hr _ h
    rwa [Int.toNat_natCast] at this
  · rw [row_out hr] at h
    exact absurd h (by simp)
theorem ofG_irr {g : List (List Int)} (hg : GOk g) (r : Nat) : ofG g r r = false := by
  by_cases hr : r < g.length
  · simp only [ofG, decide_eq_false_iff_not]
    exact (hg.sets r hr).2
  · simp [ofG, row_out hr]
theorem elim_sym {E : Nat → Nat → Bool} {S : Nat → Bool} (h : ∀ r j, E r j = true → E j r = true) (r j : Nat) (he : elimE E S r j = true) : elimE E S j r = true := by
  simp only [elimE, Bool.or_eq_true, Bool.and_eq_true, decide_eq_true_eq] at he ⊢
  rcases he with he | ⟨⟨h1, h2⟩, h3⟩
  · exact .inl (h _ _ he)
  · exact .inr ⟨⟨h2, h1⟩, fun e => h3 e.symm⟩
theorem fill_sym {E : Nat → Nat → Bool} (h : ∀ r j, E r j = true → E j r = true) (l : List Nat) : ∀ m r j, fillP E l m r j = true → fillP E l m j r = true
  | 0 => h
  | m + 1 => elim_sym (fill_sym h l m)
theorem fill_irr {E : Nat → Nat → Bool} (h : ∀ r, E r r = false) (l : List Nat) : ∀ m r, fillP E l m r r = false
  | 0 => h
  | m + 1 => fun r => by
    have := fill_irr h l m r
    simp [fillP, elimE, this]
theorem gok_fill {g : List (List Int)} (hg : GOk g) (l : List Nat) (m : Nat) : GOk (matG g.length (fillP (ofG g) l m)) :=
  gok_matG hg.pos hg.le (fill_sym (ofG_sym hg) l m) (fill_irr (ofG_irr hg) l m)

end Go.Proofs.YtfphapcgjlhieaaDoor
