/- Plain: the graph of a tree of union and join, as the program and as the reference make it. -/
import Derived.Test.YtfphapcgjlhieaaDoorGtQ36
import Derived.Test.YtfphapcgjlhieaaDoorGtQ9
import Derived.Test.YtfphapcgjlhieaaDoorGtQ11
import Derived.Test.YtfphapcgjlhieaaDoorGtQ1
namespace Go.Proofs.YtfphapcgjlhieaaDoor

def add1 (E : Nat → Nat → Bool) (u v : Nat) : Nat → Nat → Bool := fun r c => E r c || (r == u && c == v) || (r == v && c == u)
def add2 (E : Nat → Nat → Bool) (u v : Nat) : Nat → Nat → Bool := fun r c => E r c || (r == u && c == v)
theorem add1_iff {E : Nat → Nat → Bool} {u v r c : Nat} : add1 E u v r c = true ↔ E r c = true ∨ (r = u ∧ c = v) ∨ (r = v ∧ c = u) := by
  unfold add1
  simp only [Bool.or_eq_true, Bool.and_eq_true, beq_iff_eq, or_assoc]
theorem add2_iff {E : Nat → Nat → Bool} {u v r c : Nat} : add2 E u v r c = true ↔ E r c = true ∨ (r = u ∧ c = v) := by
  unfold add2
  simp only [Bool.or_eq_true, Bool.and_eq_true, beq_iff_eq]
/-- A fold that adds. -/
theorem fold_adds {α : Type} {F : (Nat → Nat → Bool) → α → (Nat → Nat → Bool)} {S : α → Nat → Nat → Prop} : ∀ (l : List α) (E : Nat → Nat → Bool), (∀ x ∈ l, ∀ E r c, F E x r c = true ↔ E r c = true ∨ S x r c) → ∀ r c, l.foldl F E r c = true ↔ E r c = true ∨ ∃ x ∈ l, S x r c
  | [], E, _, r, c => by simp
  | y :: l, E, h, r, c => by
    rw [List.foldl_cons, fold_adds l (F E y) (fun x hx => h x (List.mem_cons_of_mem _ hx)) r c, h y (List.mem_cons_self ..)]
    simp only [List.mem_cons, exists_eq_or_imp, or_assoc]
def row1 (E : Nat → Nat → Bool) (u : Nat) (B : List Nat) : Nat → Nat → Bool := B.foldl (fun E v => add1 E u v) E
def blk1 (E : Nat → Nat → Bool) (A B : List Nat) : Nat → Nat → Bool := A.foldl (fun E u => row1 E u B) E
def row2 (E : Nat → Nat → Bool) (u : Nat) (B : List Nat) : Nat → Nat → Bool := B.foldl (fun E v => add2 E u v) E
def blk2 (E : Nat → Nat → Bool) (A B : List Nat) : Nat → Nat → Bool := A.foldl (fun E u => row2 E u B) E
theorem row1_iff {E : Nat → Nat → Bool} {u : Nat} {B : List Nat} {r c : Nat} : row1 E u B r c = true ↔ E r c = true ∨ ∃ v ∈ B, (r = u ∧ c = v) ∨ (r = v ∧ c = u) :=
  fold_adds (F := fun E v => add1 E u v) (S := fun v r c => (r = u ∧ c = v) ∨ (r = v ∧ c = u)) B E (fun _ _ _ _ _ => add1_iff) r c
theorem row2_iff {E : Nat → Nat → Bool} {u : Nat} {B : List Nat} {r c : Nat} : row2 E u B r c = true ↔ E r c = true ∨ ∃ v ∈ B, (r = u ∧ c = v) :=
  fold_adds (F := fun E v => add2 E u v) (S := fun v r c => r = u ∧ c = v) B E (fun _ _ _ _ _ => add2_iff) r c
theorem blk1_iff {E : Nat → Nat → Bool} {A B : List Nat} {r c : Nat} : blk1 E A B r c = true ↔ E r c = true ∨ (r ∈ A ∧ c ∈ B) ∨ (r ∈ B ∧ c ∈ A) := by
  unfold blk1
  rw [fold_adds (F := fun E u => row1 E u B) (S := fun u r c => ∃ v ∈ B, (r = u ∧ c = v) ∨ (r = v ∧ c = u)) A E (fun _ _ _ _ _ => row1_iff) r c]
  refine or_congr Iff.rfl ⟨?_, ?_⟩
  · rintro ⟨u, hu, v, hv, ⟨rfl, rfl⟩ | ⟨rfl, rfl⟩⟩
    · exact .inl ⟨hu, hv⟩
    · exact .inr ⟨hv, hu⟩
  · rintro (⟨h1, h2⟩ | ⟨h1, h2⟩)
    · exact ⟨r, h1, c, h2, .inl ⟨rfl, rfl⟩⟩
    · exact ⟨c, h2, r, h1, .inr ⟨rfl, rfl⟩⟩
theorem blk2_iff {E : Nat → Nat → Bool} {A B : List Nat} {r c : Nat} : blk2 E A B r c = true ↔ E r c = true ∨ (r ∈ A ∧ c ∈ B) := by
  unfold blk2
  rw [fold_adds (F := fun E u => row2 E u B) (S := fun u r c => ∃ v ∈ B, r = u ∧ c = v) A E (fun _ _ _ _ _ => row2_iff) r c]
  refine or_congr Iff.rfl ⟨?_, ?_⟩
  · rintro ⟨u, hu, v, hv, rfl, rfl⟩
    exact ⟨hu, hv⟩
  · rintro ⟨h1, h2⟩
    exact ⟨r, h1, c, h2, rfl, rfl⟩
/-- All pairs of kids. -/
def prm1 (K : Nat → List Nat) (i m : Nat) (E : Nat → Nat → Bool) : Nat → Nat → Bool := (List.range m).foldl (fun E m => blk1 E (K i) (K m)) E
def prs1 (K : Nat → List Nat) (n : Nat) (E : Nat → Nat → Bool) : Nat → Nat → Bool := (List.range n).foldl (fun E i => prm1 K i i E) E
def prm2 (K : Nat → List Nat) (k m : Nat) (E : Nat → Nat → Bool) : Nat → Nat → Bool := (List.range m).foldl (fun E m => if k = m then E else blk2 E (K k) (K m)) E
def prs2 (K : Nat → List Nat) (n k : Nat) (E : Nat → Nat → Bool) : Nat → Nat → Bool := (List.range k).foldl (fun E k => prm2 K k n E) E
theorem prm1_succ (K : Nat → List Nat) (i m : Nat) (E : Nat → Nat → Bool) : prm1 K i (m + 1) E = blk1 (prm1 K i m E) (K i) (K m) := by unfold prm1; rw [List.range_succ, List.foldl_append]; rfl
theorem prs1_succ (K : Nat → List Nat) (n : Nat) (E : Nat → Nat → Bool) : prs1 K (n + 1) E = prm1 K n n (prs1 K n E) := by unfold prs1; rw [List.range_succ, List.foldl_append]; rfl
theorem prm2_succ (K : Nat → List Nat) (k m : Nat) (E : Nat → Nat → Bool) : prm2 K k (m + 1) E = if k = m then prm2 K k m E else blk2 (prm2 K k m E) (K k) (K m) := by unfold prm2; rw [List.range_succ, List.foldl_append]; rfl
theorem prs2_succ (K : Nat → List Nat) (n k : Nat) (E : Nat → Nat → Bool) : prs2 K n (k + 1) E = prm2 K k n (prs2 K n k E) := by unfold prs2; rw [List.range_succ, List.foldl_append]; rfl
theorem prs1_iff {K : Nat → List Nat} {n : Nat} {E : Nat → Nat → Bool} {r c : Nat} : prs1 K n E r c = true ↔ E r c = true ∨ ∃ a b, a < n ∧ b < n ∧ a ≠ b ∧ r ∈ K a ∧ c ∈ K b := by
  unfold prs1
  rw [fold_adds (F := fun E i => prm1 K i i E) (S := fun i r c => ∃ m, m < i ∧ ((r ∈ K i ∧ c ∈ K m) ∨ (r ∈ K m ∧ c ∈ K i))) (List.range n) E (fun i _ E r c => by
    unfold prm1
    rw [fold_adds (F := fun E m => blk1 E (K i) (K m)) (S := fun m r c => (r ∈ K i ∧ c ∈ K m) ∨ (r ∈ K m ∧ c ∈ K i)) (List.range i) E (fun _ _ _ _ _ => blk1_iff) r c]
    simp only [List.mem_range]) r c]
  refine or_congr Iff.rfl ⟨?_, ?_⟩
  · rintro ⟨i, hi, m, hm, h | h⟩
    · exact ⟨i, m, List.mem_range.1 hi, by have := List.mem_range.1 hi; omega, by omega, h.1, h.2⟩
    · exact ⟨m, i, by have := List.mem_range.1 hi; omega, List.mem_range.1 hi, by omega, h.1, h.2⟩
  · rintro ⟨a, b, ha, hb, hab, h1, h2⟩
    by_cases h : b < a
    · exact ⟨a, List.mem_range.2 ha, b, h, .inl ⟨h1, h2⟩⟩
    · exact ⟨b, List.mem_range.2 hb, a, by omega, .inr ⟨h1, h2⟩⟩
theorem prs2_iff {K : Nat → List Nat} {n : Nat} {E : Nat → Nat → Bool} {r c : Nat} : prs2 K n n E r c = true ↔ E r c = true ∨ ∃ a b, a < n ∧ b < n ∧ a ≠ b ∧ r ∈ K a ∧ c ∈ K b := by
  unfold prs2
  rw [fold_adds (F := fun E k => prm2 K k n E) (S := fun k r c => ∃ m, m < n ∧ k ≠ m ∧ r ∈ K k ∧ c ∈ K m) (List.range n) E (fun k _ E r c => by
    unfold prm2
    rw [fold_adds (F := fun E m => if k = m then E else blk2 E (K k) (K m)) (S := fun m r c => k ≠ m ∧ r ∈ K k ∧ c ∈ K m) (List.range n) E (fun m _ E r c => by
      by_cases e : k = m
      · rw [if_pos e]
        exact ⟨.inl, fun h => h.elim id fun h => absurd e h.1⟩
      · rw [if_neg e, blk2_iff]
        exact or_congr Iff.rfl ⟨fun h => ⟨e, h⟩, fun h => h.2⟩) r c]
    simp only [List.mem_range]) r c]
  refine or_congr Iff.rfl ⟨?_, ?_⟩
  · rintro ⟨a, ha, b, hb, hab, h1, h2⟩
    exact ⟨a, b, List.mem_range.1 ha, hb, hab, h1, h2⟩
  · rintro ⟨a, b, ha, hb, hab, h1, h2⟩
    exact ⟨a, List.mem_range.2 ha, b, hb, hab, h1, h2⟩
theorem prs_same (K : Nat → List Nat) (n : Nat) (E : Nat → Nat → Bool) : prs1 K n E = prs2 K n n E := by
  funext r c
  rw [Bool.eq_iff_iff, prs1_iff, prs2_iff]

/-- The vertices of a kid. -/
def kidB (ts : List Pt) (s : List Int) (i : Nat) : List Nat := bitsOf ((mskT ts).getD (s.getD i 0).toNat 0)
def nodF (ts : List Pt) (E : Nat → Nat → Bool) (p : Pt) : Nat → Nat → Bool := if p.k = 3 then prs1 (kidB ts p.s) p.s.length E else E
def nodE (ts : List Pt) (J : Nat) : Nat → Nat → Bool := (ts.take J).foldl (nodF ts) (fun _ _ => false)
theorem nodE_succ {ts : List Pt} {J : Nat} {p : Pt} (hp : ts[J]? = some p) : nodE ts (J + 1) = nodF ts (nodE ts J) p := by
  unfold nodE
  rw [List.take_succ_eq_append_getElem (List.getElem?_eq_some_iff.1 hp).1, (List.getElem?_eq_some_iff.1 hp).2, List.foldl_append]
  rfl

theorem joinL_ind {n u v : Nat} {E : Nat → Nat → Bool} (hn : n ≤ 16) (hu : u < n) (hv : v < n) (huv : u ≠ v) : joinL (indN n E) u v = indN n (add1 E u v) := by
  have hl := indN_length n E
  refine List.ext_getElem (by rw [joinL_length, indN_length, indN_length]) fun i h1 h2 => ?_
  rw [joinL_length, hl] at h1
  have e1 : (joinL (indN n E) u v)[i]'(by rw [joinL_length, hl]; exact h1) = (joinL (indN n E) u v).getD i 0 := (getD_atT (by rw [joinL_length, hl]; exact h1)).symm
  have e2 : (indN n (add1 E u v))[i]'(by rw [indN_length]; exact h1) = (indN n (add1 E u v)).getD i 0 := (getD_atT (by rw [indN_length]; exact h1)).symm
  rw [e1, e2]
  refine Nat.eq_of_testBit_eq fun j => ?_
  rw [Bool.eq_iff_iff, joinL_testBit (by rw [hl]; exact hu) (by rw [hl]; exact hv) huv, indN_bit h1, indN_bit h1, Bool.and_eq_true, Bool.and_eq_true, decide_eq_true_iff, add1_iff]
  constructor
  · rintro (⟨h, k⟩ | ⟨rfl, rfl⟩ | ⟨rfl, rfl⟩)
    · exact ⟨h, .inl k⟩
    · exact ⟨hv, .inr (.inl ⟨rfl, rfl⟩)⟩
    · exact ⟨hu, .inr (.inr ⟨rfl, rfl⟩)⟩
  · rintro ⟨h, k | k | k⟩
    · exact .inl ⟨h, k⟩
    · exact .inr (.inl k)
    · exact .inr (.inr k)
theorem into_row {n a b : Nat} {E : Nat → Nat → Bool} (hb : b < n) : intoL (natInts ((List.range n).filter (E a))) (b : Int) = natInts ((List.range n).filter (add2 E a b a)) := by
  refine rising_ext_int _ _ (intoL_rising (natInts_rising (List.Pairwise.filter _ List.pairwise_lt_range))) (natInts_rising (List.Pairwise.filter _ List.pairwise_lt_range)) fun x => ?_
  rw [mem_intoL, mem_natInts, mem_natInts]
  constructor
  · rintro (⟨i, hi, rfl⟩ | rfl)
    · obtain ⟨h1, h2⟩ := List.mem_filter.1 hi
      exact ⟨i, List.mem_filter.2 ⟨h1, add2_iff.2 (.inl h2)⟩, rfl⟩
    · exact ⟨b, List.mem_filter.2 ⟨List.mem_range.2 hb, add2_iff.2 (.inr ⟨rfl, rfl⟩)⟩, rfl⟩
  · rintro ⟨i, hi, rfl⟩
    obtain ⟨h1, h2⟩ := List.mem_filter.1 hi
    rcases add2_iff.1 h2 with h | ⟨_, rfl⟩
    · exact .inl ⟨i, List.mem_filter.2 ⟨h1, h⟩, rfl⟩
    · exact .inr rfl
theorem add2_row {n a b r : Nat} {E : Nat → Nat → Bool} (h : r ≠ a) : (List.range n).filter (add2 E a b r) = (List.range n).filter (E r) := by
  congr 1
  funext c
  rw [Bool.eq_iff_iff, add2_iff]
  exact ⟨fun h2 => h2.elim id fun h2 => absurd h2.1 h, .inl⟩

theorem ind_zeroB (n : Nat) (ts : List Pt) : indN n (nodE ts 0) = List.replicate n 0 := by
  refine List.ext_getElem (by simp [indN_length]) fun i h1 h2 => ?_
  rw [indN_length] at h1
  rw [← getD_atT (d := 0) (by rw [indN_length]; exact h1), List.getElem_replicate]
  refine Nat.eq_of_testBit_eq fun j => ?_
  rw [indN_bit h1, Nat.zero_testBit]
  show (decide (j < n) && false) = false
  rw [Bool.and_false]
/-- What GraphOfTree returns. -/
def GtS (ts : List Pt) (co : Prop) (R : List (List Int)) (ok : Bool) : Prop := (co ∧ ok = true ∧ R = matG (cn (rootM ts)) (nodE ts ts.length)) ∨ (¬ co ∧ ok = false ∧ R = [])
theorem gtS_det {ts : List Pt} {co : Prop} {R R' : List (List Int)} {a b : Bool} (h : GtS ts co R a) (k : GtS ts co R' b) : R = R' ∧ a = b := by
  rcases h with ⟨h1, h2, h3⟩ | ⟨h1, h2, h3⟩ <;> rcases k with ⟨k1, k2, k3⟩ | ⟨k1, k2, k3⟩
  · exact ⟨h3.trans k3.symm, h2.trans k2.symm⟩
  · exact absurd h1 k1
  · exact absurd k1 h1
  · exact ⟨h3.trans k3.symm, h2.trans k2.symm⟩
/-- The kids of a right tree's node have no vertex in common. -/
theorem kids_apart {ts : List Pt} (h : PartsI ts) {j : Nat} {p : Pt} (hp : ts[j]? = some p) {a b : Nat} (ha : a < p.s.length) (hb : b < p.s.length) (hab : a ≠ b) {x : Nat} (h1 : x ∈ kidB ts p.s a) : x ∉ kidB ts p.s b := by
  have key : ∀ a b, a < b → b < p.s.length → ∀ x, x ∈ kidB ts p.s a → x ∉ kidB ts p.s b := fun a b hab hb x h1 h2 => by
    have hd := (h.2.2.1 j p hp).2 b hb
    unfold kidB at h1 h2
    rw [mem_bitsOf] at h1 h2
    have : (orM (mskT ts) (p.s.take b) &&& (mskT ts).getD (p.s.getD b 0).toNat 0).testBit x = true := by
      rw [Nat.testBit_and, h2.2, Bool.and_true, orM_bit]
      refine ⟨p.s.getD a 0, ?_, h1.2⟩
      rw [getD_atT (show a < p.s.length by omega), List.mem_iff_getElem]
      exact ⟨a, by rw [List.length_take]; omega, by simp⟩
    rw [hd, Nat.zero_testBit] at this
    cases this
  intro h2
  rcases Nat.lt_or_ge a b with h3 | h3
  · exact key a b h3 hb x h1 h2
  · exact key b a (by omega) ha x h2 h1
theorem kids_in {ts : List Pt} (h : PartsI ts) {j : Nat} {p : Pt} (hp : ts[j]? = some p) {a : Nat} (ha : a < p.s.length) {x : Nat} (h1 : x ∈ kidB ts p.s a) : x < cn (rootM ts) := by
  unfold kidB at h1
  rw [mem_bitsOf] at h1
  have hk := parts_kids h hp (p.s.getD a 0) (by rw [getD_atT ha]; exact List.getElem_mem _)
  have hj := (List.getElem?_eq_some_iff.1 hp).1
  exact parts_bit h (j := (p.s.getD a 0).toNat) (by omega) h1.2

end Go.Proofs.YtfphapcgjlhieaaDoor

/- Two boxes. -/
namespace Go.Proofs.YtfphapcgjlhieaaDoor
open Go.RowKit

theorem two_boxesM (w : World) (a b : Value) (T1 T2 : TypeId) : ∃ W, W = (w.alloc (.cells #[a] T1)).alloc (.cells #[b] T2) ∧ Below w.heap.size w W ∧ W.heap.size = w.heap.size + 2 ∧ Box W w.heap.size T1 a ∧ Box W (w.heap.size + 1) T2 b := by
  have h2 := Box.new (w.alloc (.cells #[a] T1)) b T2
  rw [size_alloc] at h2
  exact ⟨_, rfl, below_alloc2 _ _ _, by rw [size_alloc, size_alloc], (Box.new w a T1).alloc _, h2⟩

end Go.Proofs.YtfphapcgjlhieaaDoor
