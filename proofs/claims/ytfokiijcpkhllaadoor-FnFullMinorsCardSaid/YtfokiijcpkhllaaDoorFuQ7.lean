/- Walks: the reference's draws: numbers (l1New, l1Byte, l1Below, l1Once). -/
import Derived.Test.YtfokiijcpkhllaaDoorFuQ3
import Derived.Test.YtfokiijcpkhllaaDoorFuQ6
import Derived.Deep.RegionLaw
import Derived.Deep.DeepCutAuto
import Derived.Deep.RegionHeld3
import Derived.Test.YtfokiijcpkhllaaDoorFuQ5
namespace Go.Proofs.YtfokiijcpkhllaaDoor
open Go.RowKit

section
variable {w w' : World} {b : Nat} {x y z : Value}
end
theorem grown_setCell (w : World) (b i : Nat) (u : Value) : w.grownBy (w.setCell ⟨b, i, none⟩ u) (some b) :=
  ⟨rfl, rfl, rfl, by rw [World.size_setCell]; exact Nat.le_refl _, fun k _ hne => Below.heap_setCell _ _ _ _ (fun e => hne (by simp only at e; rw [e]))⟩

theorem below_grownC {w0 w w' : World} {cb : Nat} (h : Below w0.heap.size w0 w) (hg : w.grownBy w' (some cb)) (hl : w0.heap.size ≤ cb) : Below w0.heap.size w0 w' :=
  ⟨hg.os.trans h.os, hg.tape.trans h.tape, hg.output.trans h.output, Nat.le_trans h.size hg.size, fun k hk => (hg.block k (Nat.lt_of_lt_of_le hk h.size) (fun e => by simp only [Option.some.injEq] at e; omega)).trans (h.block k hk)⟩
theorem and255 (x : Int) : ∃ r : Nat, bits BinOp.and IntKind.i64 x 255 = (r : Int) ∧ r ≤ 255 := by
  refine ⟨(BitVec.ofInt 64 x &&& BitVec.ofInt 64 255).toNat, ?_, ?_⟩
  · show IntKind.i64.wrap ((BitVec.ofInt 64 x &&& BitVec.ofInt 64 255).toNat : Int) = _
    have h : (BitVec.ofInt 64 x &&& BitVec.ofInt 64 255).toNat ≤ 255 := by
      rw [BitVec.toNat_and]
      exact Nat.le_trans Nat.and_le_right (by decide)
    rw [IntKind.wrap_i64]
    omega
  · rw [BitVec.toNat_and]
    exact Nat.le_trans Nat.and_le_right (by decide)

end Go.Proofs.YtfokiijcpkhllaaDoor

/- Plain: the neighbours among some vertices, as masks. -/
namespace Go.Proofs.YtfokiijcpkhllaaDoor

theorem mask_bit (l : List Nat) (j : Nat) : (mask (natInts l)).testBit j = decide (j ∈ l) := by
  rw [testBit_mask, Bool.eq_iff_iff]
  simp [natInts]
theorem mask_nat_lt16 {l : List Nat} (h : ∀ i ∈ l, i < 16) : mask (natInts l) < 65536 := mask_lt16 _ fun x hx => by
  obtain ⟨i, hi, rfl⟩ := mem_natInts.1 hx
  have := h i hi
  omega
def indN (m : Nat) (E : Nat → Nat → Bool) : List Nat := (List.range m).map fun r => mask (natInts ((List.range m).filter (E r)))
theorem indN_length (m : Nat) (E : Nat → Nat → Bool) : (indN m E).length = m := by simp [indN]
theorem indN_get {m : Nat} {E : Nat → Nat → Bool} {r : Nat} (h : r < m) : (indN m E).getD r 0 = mask (natInts ((List.range m).filter (E r))) := by simp [indN, h]
theorem indN_bit {m : Nat} {E : Nat → Nat → Bool} {r : Nat} (h : r < m) (j : Nat) : ((indN m E).getD r 0).testBit j = (decide (j < m) && E r j) := by
  rw [indN_get h, mask_bit, Bool.eq_iff_iff]
  simp
theorem indN_lt16 {m : Nat} {E : Nat → Nat → Bool} (hm : m ≤ 16) : ∀ s ∈ indN m E, s < 65536 := by
  intro s hs
  simp only [indN, List.mem_map, List.mem_range] at hs
  obtain ⟨r, hr, rfl⟩ := hs
  exact mask_nat_lt16 fun i hi => by simp only [List.mem_filter, List.mem_range] at hi; omega
theorem natList_ext {a b : List Nat} (hl : a.length = b.length) (h : ∀ r, r < a.length → a.getD r 0 = b.getD r 0) : a = b := by
  refine List.ext_getElem hl fun j h1 h2 => ?_
  have := h j h1
  simpa [h1, h2] using this
theorem indN_congr {m : Nat} {E F : Nat → Nat → Bool} (h : ∀ r j, r < m → j < m → E r j = F r j) : indN m E = indN m F := by
  refine natList_ext (by simp [indN_length]) fun r hr => ?_
  rw [indN_length] at hr
  refine Nat.eq_of_testBit_eq fun j => ?_
  rw [indN_bit hr, indN_bit hr]
  by_cases hj : j < m
  · simp [h r j hr hj]
  · simp [hj]
theorem indN_none (m : Nat) {E : Nat → Nat → Bool} (h : ∀ r j, r < m → j < m → E r j = false) : indN m E = List.replicate m 0 := by
  refine natList_ext (by simp [indN_length]) fun r hr => ?_
  rw [indN_length] at hr
  refine Nat.eq_of_testBit_eq fun j => ?_
  rw [indN_bit hr]
  by_cases hj : j < m
  · simp [h r j hr hj, hr]
  · simp [hj, hr]
def rowsE (E : Nat → Nat → Bool) (i k : Nat) : Nat → Nat → Bool := fun r j => E r j && (decide (r < i) || (decide (r = i) && decide (j < k)))
theorem rows_start (m : Nat) (E : Nat → Nat → Bool) : indN m (rowsE E 0 0) = List.replicate m 0 := indN_none m fun r j _ _ => by simp [rowsE]
theorem rows_row {m : Nat} {E : Nat → Nat → Bool} {i : Nat} : indN m (rowsE E i m) = indN m (rowsE E (i + 1) 0) := by
  refine indN_congr fun r j hr hj => ?_
  unfold rowsE
  congr 1
  by_cases h1 : r < i
  · simp [h1, show r < i + 1 by omega]
  · by_cases h2 : r = i
    · simp [h2, hj]
    · simp [h1, h2, show ¬ r < i + 1 by omega]
theorem rows_end {m : Nat} {E : Nat → Nat → Bool} : indN m (rowsE E m 0) = indN m E := indN_congr fun r j hr hj => by simp [rowsE, hr]
theorem rows_yes {m : Nat} {E : Nat → Nat → Bool} {i k : Nat} (hi : i < m) (hk : k < m) (he : E i k = true) :
    (indN m (rowsE E i k)).set i ((indN m (rowsE E i k)).getD i 0 ||| 2 ^ k) = indN m (rowsE E i (k + 1)) := by
  refine natList_ext (by simp [indN_length]) fun r hr => ?_
  rw [List.length_set, indN_length] at hr
  have hl := indN_length m (rowsE E i k)
  rw [getD_set _ _ _ _ (by omega)]
  refine Nat.eq_of_testBit_eq fun j => ?_
  by_cases e : r = i
  · subst e
    rw [if_pos rfl, Nat.testBit_or, indN_bit hr, indN_bit hr, testBit_pow]
    unfold rowsE
    by_cases h1 : k = j
    · subst h1; simp [he, hk]
    · have : j < k ↔ j < k + 1 := by omega
      simp [h1, this]
  · rw [if_neg e, indN_bit hr, indN_bit hr]
    unfold rowsE
    simp [e]
theorem rows_no {m : Nat} {E : Nat → Nat → Bool} {i k : Nat} (he : E i k = false) : indN m (rowsE E i k) = indN m (rowsE E i (k + 1)) := by
  refine indN_congr fun r j hr hj => ?_
  unfold rowsE
  by_cases h : r = i ∧ j = k
  · obtain ⟨rfl, rfl⟩ := h; simp [he]
  · congr 2
    by_cases e : r = i
    · have : j < k ↔ j < k + 1 := by omega
      simp [this]
    · simp [e]
/-- The masks' graph. -/
theorem indN_rows {m : Nat} (hm : m ≤ 16) {E : Nat → Nat → Bool} {r : Nat} (hr : r < m) : natInts (bitsOf ((indN m E).getD r 0)) = row (matG m E) r := by
  have h16 : (indN m E).getD r 0 < 65536 := lt16_getD (indN_lt16 hm) r
  refine rising_ext_int _ _ (natInts_rising (bitsOf_rising _)) (matG_rising hr) fun x => ?_
  rw [mem_natInts, mem_matG hr]
  constructor
  · rintro ⟨j, hj, rfl⟩
    rw [mem_bitsOf' (by omega), indN_bit hr] at hj
    simp only [Bool.and_eq_true, decide_eq_true_eq] at hj
    exact ⟨j, rfl, hj.1, hj.2⟩
  · rintro ⟨j, rfl, h1, h2⟩
    exact ⟨j, by rw [mem_bitsOf' (by omega), indN_bit hr]; simp [h1, h2], rfl⟩

/-- The edges among the bits of a set, in masks that are a graph's rows. -/
def bitE (a : List Nat) (l : List Nat) : Nat → Nat → Bool := fun r j => (a.getD (l.getD r 0) 0).testBit (l.getD j 0)
theorem bitE_ind {g : List (List Int)} {L : List Int} {a : List Nat} {left : Nat} (h : Same g L a left) : indL g L = matG (bitsOf left).length (bitE a (bitsOf left)) := by
  have hL := h.list
  subst hL
  unfold indL
  rw [natInts_length]
  refine matG_congr fun r j hr hj => ?_
  unfold indE bitE
  have e1 : (natInts (bitsOf left)).getD r 0 = (((bitsOf left)[r] : Nat) : Int) := by simp [natInts, hr]
  have e2 : (natInts (bitsOf left)).getD j 0 = (((bitsOf left)[j] : Nat) : Int) := by simp [natInts, hj]
  rw [e1, e2, Int.toNat_natCast]
  have hl16 := h.left16
  have hr' := (mem_bitsOf' (by omega)).1 (List.getElem_mem hr)
  have hj' := (mem_bitsOf' (by omega)).1 (List.getElem_mem hj)
  rw [h.rows _ hr', Bool.eq_iff_iff, decide_eq_true_eq, mem_near hl16]
  have f1 : (bitsOf left).getD r 0 = (bitsOf left)[r] := by simp [hr]
  have f2 : (bitsOf left).getD j 0 = (bitsOf left)[j] := by simp [hj]
  rw [f1, f2]
  constructor
  · rintro ⟨i, hi, h1, _⟩
    obtain rfl : i = (bitsOf left)[j] := by omega
    exact h1
  · intro h1
    exact ⟨_, rfl, h1, hj'⟩

end Go.Proofs.YtfokiijcpkhllaaDoor

/- Plain: orders of all vertices. -/
namespace Go.Proofs.YtfokiijcpkhllaaDoor

/-- An order of the numbers below n. -/
def OrdOk (n : Nat) (l : List Int) : Prop := l.length = n ∧ (∀ x ∈ l, 0 ≤ x ∧ x < n) ∧ l.Nodup

theorem strict_of {l : List Int} (h : l.Pairwise (· ≤ ·)) (hn : l.Nodup) : l.Pairwise (· < ·) := by
  induction l with
  | nil => exact List.Pairwise.nil
  | cons x l ih =>
    rw [List.pairwise_cons] at h
    rw [List.nodup_cons] at hn
    rw [List.pairwise_cons]
    refine ⟨fun y hy => ?_, ih h.2 hn.2⟩
    have h1 := h.1 y hy
    by_cases e : x = y
    · subst e; exact absurd hy hn.1
    · omega
theorem nodup_of {l : List Int} (h : l.Pairwise (· < ·)) : l.Nodup := by
  unfold List.Nodup
  exact h.imp fun hx e => by omega

theorem setIn_sort {n : Int} {l : List Int} : SetIn n (l.mergeSort fun x y => decide (x ≤ y)) ↔ (∀ x ∈ l, 0 ≤ x ∧ x < n) ∧ l.Nodup := by
  have hp := List.mergeSort_perm l (fun x y => decide (x ≤ y))
  have hs : (l.mergeSort fun x y => decide (x ≤ y)).Pairwise (fun a b => decide (a ≤ b) = true) :=
    List.pairwise_mergeSort (fun a b c h1 h2 => by simp only [decide_eq_true_eq] at *; omega) (fun a b => by simp only [Bool.or_eq_true, decide_eq_true_eq]; omega) l
  have hs' : (l.mergeSort fun x y => decide (x ≤ y)).Pairwise (· ≤ ·) := hs.imp fun h => by simpa using h
  constructor
  · rintro ⟨h1, h2⟩
    exact ⟨fun x hx => h1 x (hp.mem_iff.2 hx), hp.nodup_iff.1 (nodup_of h2)⟩
  · rintro ⟨h1, h2⟩
    exact ⟨fun x hx => h1 x (hp.mem_iff.1 hx), strict_of hs' (hp.nodup_iff.2 h2)⟩

theorem ordOk_sort {n : Nat} {l : List Int} (hl : l.length = n) : SetIn n (l.mergeSort fun x y => decide (x ≤ y)) ↔ OrdOk n l := by
  rw [setIn_sort]
  exact ⟨fun h => ⟨hl, h.1, h.2⟩, fun h => ⟨h.2.1, h.2.2⟩⟩

theorem nodup_snoc {l : List Int} {x : Int} : (l ++ [x]).Nodup ↔ l.Nodup ∧ x ∉ l := by
  rw [List.nodup_append]
  constructor
  · rintro ⟨h1, _, h2⟩
    exact ⟨h1, fun h => h2 x h x (by simp) rfl⟩
  · rintro ⟨h1, h2⟩
    refine ⟨h1, by simp, fun a ha b hb e => ?_⟩
    simp only [List.mem_singleton] at hb
    subst hb; subst e
    exact h2 ha

theorem ordE_sym {g : List (List Int)} (hg : GOk g) {l : List Int} (hl : OrdOk g.length l) : SymE l.length (indE g l) := indE_sym hg hl.2.1

/-- What Renamed returns. -/
def RenS (g : List (List Int)) (l : List Int) (gg : List (List Int)) (ok : Bool) : Prop :=
  (ok = true ∧ GOk g ∧ OrdOk g.length l ∧ gg = indL g l) ∨ (ok = false ∧ gg = [] ∧ ¬ (GOk g ∧ OrdOk g.length l))
theorem renS_det {g gg hh : List (List Int)} {l : List Int} {ok ok' : Bool} (h : RenS g l gg ok) (h' : RenS g l hh ok') : gg = hh ∧ ok = ok' := by
  rcases h with ⟨rfl, h1, h2, rfl⟩ | ⟨rfl, rfl, h⟩ <;> rcases h' with ⟨rfl, h1', h2', rfl⟩ | ⟨rfl, rfl, h'⟩
  · exact ⟨rfl, rfl⟩
  · exact absurd ⟨h1, h2⟩ h'
  · exact absurd ⟨h1', h2'⟩ h
  · exact ⟨rfl, rfl⟩

/-- The edges among listed vertices, in masks. -/
theorem bitE_netL {g : List (List Int)} (hg : GOk g) {l : List Nat} (hl : ∀ v ∈ l, v < g.length) : indL g (natInts l) = matG l.length (bitE (netL g) l) := by
  unfold indL
  rw [natInts_length]
  refine matG_congr fun r j hr hj => ?_
  unfold indE bitE
  have e1 : (natInts l).getD r 0 = ((l[r] : Nat) : Int) := by simp [natInts, hr]
  have e2 : (natInts l).getD j 0 = ((l[j] : Nat) : Int) := by simp [natInts, hj]
  have f1 : l.getD r 0 = l[r] := by simp [hr]
  have f2 : l.getD j 0 = l[j] := by simp [hj]
  rw [e1, e2, f1, f2, Int.toNat_natCast, netL_getD, Bool.eq_iff_iff, decide_eq_true_eq]
  exact (testBit_row hg (hl _ (List.getElem_mem hr)) _).symm

end Go.Proofs.YtfokiijcpkhllaaDoor

/- Plain: the graph that an elimination along an order fills. -/
namespace Go.Proofs.YtfokiijcpkhllaaDoor

/-- The later neighbours are made neighbours of each other. -/
def elimE (E : Nat → Nat → Bool) (S : Nat → Bool) : Nat → Nat → Bool := fun r j => E r j || (S r && S j && decide (r ≠ j))
def laterE (E : Nat → Nat → Bool) (l : List Nat) (m : Nat) (v : Nat) : Nat → Bool := fun x => E v x && decide (x ∉ l.take (m + 1))
/-- The edges behind the first m eliminations. -/
def fillP (E : Nat → Nat → Bool) (l : List Nat) : Nat → Nat → Nat → Bool
  | 0 => E
  | m + 1 => elimE (fillP E l m) (laterE (fillP E l m) l m (l.getD m 0))
/-- The later neighbours, as a list. -/
def lateL (n : Nat) (E : Nat → Nat → Bool) (l : List Nat) (m : Nat) : List Nat := (List.range n).filter (laterE (fillP E l m) l m (l.getD m 0))

theorem mem_lateL {n : Nat} {E : Nat → Nat → Bool} {l : List Nat} {m x : Nat} : x ∈ lateL n E l m ↔ x < n ∧ laterE (fillP E l m) l m (l.getD m 0) x = true := by simp [lateL]
theorem lateL_rising (n : Nat) (E : Nat → Nat → Bool) (l : List Nat) (m : Nat) : (lateL n E l m).Pairwise (· < ·) := List.Pairwise.filter _ List.pairwise_lt_range
theorem elim_late {n : Nat} {E : Nat → Nat → Bool} {l : List Nat} {m r j : Nat} (hr : r < n) (hj : j < n) :
    fillP E l (m + 1) r j = (fillP E l m r j || (decide (r ∈ lateL n E l m) && decide (j ∈ lateL n E l m) && decide (r ≠ j))) := by
  show elimE _ _ r j = _
  unfold elimE
  have h1 : laterE (fillP E l m) l m (l.getD m 0) r = decide (r ∈ lateL n E l m) := by rw [Bool.eq_iff_iff]; simp [mem_lateL, hr]
  have h2 : laterE (fillP E l m) l m (l.getD m 0) j = decide (j ∈ lateL n E l m) := by rw [Bool.eq_iff_iff]; simp [mem_lateL, hj]
  rw [h1, h2]

/-- The reference's double loop, in its midst. -/
def cliqE (E : Nat → Nat → Bool) (L : List Nat) (i k : Nat) : Nat → Nat → Bool := fun r j =>
  E r j || decide ((r ≠ j ∧ r ∈ L.take i ∧ j ∈ L.take i) ∨ (r = L.getD i 0 ∧ j ∈ L.take k) ∨ (j = L.getD i 0 ∧ r ∈ L.take k))
theorem getD_nat {L : List Nat} {i : Nat} (h : i < L.length) : L.getD i 0 = L[i] := by simp [h]
theorem take_snoc_mem {L : List Nat} {k x : Nat} (h : k < L.length) : x ∈ L.take (k + 1) ↔ x ∈ L.take k ∨ x = L[k] := by
  rw [List.take_succ_eq_append_getElem h, List.mem_append, List.mem_singleton]
theorem not_mem_take {L : List Nat} (hs : L.Pairwise (· < ·)) {i : Nat} (h : i < L.length) : L[i] ∉ L.take i := by
  intro hm
  obtain ⟨j, hj, e⟩ := List.mem_iff_getElem.1 hm
  rw [List.length_take] at hj
  rw [List.getElem_take] at e
  have := List.pairwise_iff_getElem.1 hs j i (by omega) h (by omega)
  omega
theorem cliq_start (m : Nat) (E : Nat → Nat → Bool) (L : List Nat) : matG m (cliqE E L 0 0) = matG m E := matG_congr fun r j _ _ => by simp [cliqE]
theorem cliq_step {m : Nat} {E : Nat → Nat → Bool} {L : List Nat} (hs : L.Pairwise (· < ·)) (hL : ∀ x ∈ L, x < m) {i k : Nat} (hi : i < L.length) (hk : k < i) :
    linkL (matG m (cliqE E L i k)) L[k] L[i] = matG m (cliqE E L i (k + 1)) := by
  have hlt := List.pairwise_iff_getElem.1 hs k i (by omega) hi hk
  rw [link_matG (hL _ (List.getElem_mem _)) (hL _ (List.getElem_mem _)) (by omega)]
  refine matG_congr fun r j hr hj => ?_
  unfold cliqE
  rw [getD_nat hi, Bool.eq_iff_iff]
  simp only [Bool.or_eq_true, Bool.and_eq_true, beq_iff_eq, decide_eq_true_eq, take_snoc_mem (show k < L.length by omega)]
  constructor
  · rintro (((h | h) | ⟨h1, h2⟩) | ⟨h1, h2⟩)
    · exact .inl h
    · rcases h with h | ⟨h1, h2⟩ | ⟨h1, h2⟩
      · exact .inr (.inl h)
      · exact .inr (.inr (.inl ⟨h1, .inl h2⟩))
      · exact .inr (.inr (.inr ⟨h1, .inl h2⟩))
    · exact .inr (.inr (.inr ⟨h2, .inr h1⟩))
    · exact .inr (.inr (.inl ⟨h1, .inr h2⟩))
  · rintro (h | h | ⟨h1, h2 | h2⟩ | ⟨h1, h2 | h2⟩)
    · exact .inl (.inl (.inl h))
    · exact .inl (.inl (.inr (.inl h)))
    · exact .inl (.inl (.inr (.inr (.inl ⟨h1, h2⟩))))
    · exact .inr ⟨h1, h2⟩
    · exact .inl (.inl (.inr (.inr (.inr ⟨h1, h2⟩))))
    · exact .inl (.inr ⟨h2, h1⟩)
theorem cliq_row {m : Nat} {E : Nat → Nat → Bool} {L : List Nat} (hs : L.Pairwise (· < ·)) {i : Nat} (hi : i < L.length) : matG m (cliqE E L i i) = matG m (cliqE E L (i + 1) 0) := by
  refine matG_congr fun r j hr hj => ?_
  have hn := not_mem_take hs hi
  unfold cliqE
  rw [getD_nat hi, Bool.eq_iff_iff]
  simp only [Bool.or_eq_true, decide_eq_true_eq, take_snoc_mem hi, List.take_zero, List.not_mem_nil, and_false, or_false]
  constructor
  · rintro (h | ⟨h0, h1, h2⟩ | ⟨h1, h2⟩ | ⟨h1, h2⟩)
    · exact .inl h
    · exact .inr ⟨h0, .inl h1, .inl h2⟩
    · exact .inr ⟨fun e => hn (h1 ▸ e ▸ h2), .inr h1, .inl h2⟩
    · exact .inr ⟨fun e => hn (h1 ▸ e ▸ h2), .inl h2, .inr h1⟩
  · rintro (h | ⟨h0, h1 | h1, h2 | h2⟩)
    · exact .inl h
    · exact .inr (.inl ⟨h0, h1, h2⟩)
    · exact .inr (.inr (.inr ⟨h2, h1⟩))
    · exact .inr (.inr (.inl ⟨h1, h2⟩))
    · exact absurd (h1.trans h2.symm) h0
theorem cliq_end {m : Nat} {E : Nat → Nat → Bool} {l : List Nat} {k : Nat} : matG m (cliqE (fillP E l k) (lateL m E l k) (lateL m E l k).length 0) = matG m (fillP E l (k + 1)) := by
  refine matG_congr fun r j hr hj => ?_
  rw [elim_late hr hj]
  unfold cliqE
  rw [Bool.eq_iff_iff]
  simp only [List.take_length, List.take_zero, List.not_mem_nil, and_false, or_false, Bool.or_eq_true, Bool.and_eq_true, decide_eq_true_eq]
  constructor
  · rintro (h | ⟨h0, h1, h2⟩)
    · exact .inl h
    · exact .inr ⟨⟨h1, h2⟩, h0⟩
  · rintro (h | ⟨⟨h1, h2⟩, h0⟩)
    · exact .inl h
    · exact .inr ⟨h0, h1, h2⟩

/-- The program's loop, in its midst. -/
def wingE (E : Nat → Nat → Bool) (L : List Nat) (t : Nat) : Nat → Nat → Bool := fun r j => E r j || decide (r ∈ L.take t ∧ j ∈ L ∧ r ≠ j)
theorem wing_start (m : Nat) (E : Nat → Nat → Bool) (L : List Nat) : indN m (wingE E L 0) = indN m E := indN_congr fun r j _ _ => by simp [wingE]
theorem wing_end {m : Nat} {E : Nat → Nat → Bool} {l : List Nat} {k : Nat} : indN m (wingE (fillP E l k) (lateL m E l k) (lateL m E l k).length) = indN m (fillP E l (k + 1)) := by
  refine indN_congr fun r j hr hj => ?_
  rw [elim_late hr hj]
  unfold wingE
  rw [Bool.eq_iff_iff]
  simp only [List.take_length, Bool.or_eq_true, Bool.and_eq_true, decide_eq_true_eq, and_assoc]
theorem wing_step {m : Nat} (hm : m ≤ 16) {E : Nat → Nat → Bool} {L : List Nat} (hs : L.Pairwise (· < ·)) (hL : ∀ x ∈ L, x < m) {t : Nat} (ht : t < L.length) {s : Nat} (hs16 : s < 65536) (hsL : ∀ j, s.testBit j = decide (j ∈ L)) :
    (indN m (wingE E L t)).set L[t] ((indN m (wingE E L t)).getD L[t] 0 ||| sub s (2 ^ L[t])) = indN m (wingE E L (t + 1)) := by
  have hu := hL _ (List.getElem_mem ht)
  refine natList_ext (by simp [indN_length]) fun r hr => ?_
  rw [List.length_set, indN_length] at hr
  have hl := indN_length m (wingE E L t)
  rw [getD_set _ _ _ _ (by omega)]
  refine Nat.eq_of_testBit_eq fun j => ?_
  by_cases e : r = L[t]
  · subst e
    rw [if_pos rfl, Nat.testBit_or, indN_bit hr, indN_bit hr, testBit_sub _ _ (by omega) (by have := pow_lt32 L[t] (by omega); exact this), hsL, testBit_pow]
    unfold wingE
    rw [Bool.eq_iff_iff]
    simp only [Bool.or_eq_true, Bool.and_eq_true, decide_eq_true_eq, Bool.not_eq_true', decide_eq_false_iff_not, take_snoc_mem ht]
    constructor
    · rintro (⟨h0, h | ⟨h1, h2, h3⟩⟩ | ⟨h1, h2⟩)
      · exact ⟨h0, .inl h⟩
      · exact ⟨h0, .inr ⟨.inl h1, h2, h3⟩⟩
      · exact ⟨hL _ h1, .inr ⟨.inr trivial, h1, h2⟩⟩
    · rintro ⟨h0, h | ⟨_, h2, h3⟩⟩
      · exact .inl ⟨h0, .inl h⟩
      · exact .inr ⟨h2, h3⟩
  · rw [if_neg e, indN_bit hr, indN_bit hr]
    unfold wingE
    congr 2
    rw [Bool.eq_iff_iff]
    simp only [decide_eq_true_eq, take_snoc_mem ht, e, or_false]

/-- A right graph as a matrix. -/
def ofG (g : List (List Int)) : Nat → Nat → Bool := fun r j => decide ((j : Int) ∈ row g r)
theorem matG_ofG {g : List (List Int)} (hg : GOk g) : matG g.length (ofG g) = g := by
  refine graph_ext (matG_length _ _) fun r hr => ?_
  rw [matG_length] at hr
  refine rising_ext_int _ _ (matG_rising hr) (hg.sets r hr).1.2 fun x => ?_
  rw [mem_matG hr]
  constructor
  · rintro ⟨j, rfl, _, h⟩; simpa [ofG] using h
  · intro h
    have := (hg.sets r hr).1.1 x h
    obtain ⟨j, rfl⟩ := Int.eq_ofNat_of_zero_le this.1
    exact ⟨j, rfl, by omega, by simpa [ofG] using h⟩
theorem indN_ofG {g : List (List Int)} (hg : GOk g) : indN g.length (ofG g) = netL g := by
  refine natList_ext (by simp [indN_length, netL]) fun r hr => ?_
  rw [indN_length] at hr
  refine Nat.eq_of_testBit_eq fun j => ?_
  rw [indN_bit hr, netL_getD, Bool.eq_iff_iff, testBit_row hg hr]
  simp only [Bool.and_eq_true, decide_eq_true_eq, ofG]
  exact ⟨fun h => h.2, fun h => ⟨by have := (hg.sets r hr).1.1 _ h; omega, h⟩⟩

/-- What FillOf returns. -/
def FillS (g : List (List Int)) (l : List Int) (gg : List (List Int)) (ok : Bool) : Prop :=
  (ok = true ∧ GOk g ∧ OrdOk g.length l ∧ gg = matG g.length (fillP (ofG g) (l.map Int.toNat) l.length)) ∨ (ok = false ∧ gg = [] ∧ ¬ (GOk g ∧ OrdOk g.length l))
theorem fillS_det {g gg hh : List (List Int)} {l : List Int} {ok ok' : Bool} (h : FillS g l gg ok) (h' : FillS g l hh ok') : gg = hh ∧ ok = ok' := by
  rcases h with ⟨rfl, h1, h2, rfl⟩ | ⟨rfl, rfl, h⟩ <;> rcases h' with ⟨rfl, h1', h2', rfl⟩ | ⟨rfl, rfl, h'⟩
  · exact ⟨rfl, rfl⟩
  · exact absurd ⟨h1, h2⟩ h'
  · exact absurd ⟨h1', h2'⟩ h
  · exact ⟨rfl, rfl⟩

end Go.Proofs.YtfokiijcpkhllaaDoor

/- Plain: how many edges a graph has; a filled graph is right. -/
namespace Go.Proofs.YtfokiijcpkhllaaDoor

def upL (k : Nat) (xs : List Int) : Nat := (xs.filter fun x => decide ((k : Int) < x)).length
theorem upL_snoc {k : Nat} {xs : List Int} {i : Nat} (h : i < xs.length) : upL k (xs.take (i + 1)) = upL k (xs.take i) + (if (k : Int) < xs[i] then 1 else 0) := by
  unfold upL
  rw [List.take_succ_eq_append_getElem h, List.filter_append, List.length_append]
  by_cases e : (k : Int) < xs[i] <;> simp [e]
theorem upL_le (k : Nat) (xs : List Int) : upL k xs ≤ xs.length := List.length_filter_le _ _
def cntE (g : List (List Int)) : Nat → Nat
  | 0 => 0
  | k + 1 => cntE g k + upL k (row g k)
theorem cntE_le {g : List (List Int)} {m : Nat} (h : ∀ j, (row g j).length ≤ m) : ∀ k, cntE g k ≤ k * m
  | 0 => by simp [cntE]
  | k + 1 => by
    have h1 := cntE_le h k
    have h2 := h k
    have h3 := upL_le k (row g k)
    have : (k + 1) * m = k * m + m := Nat.succ_mul k m
    simp only [cntE]; omega

theorem gok_matG {n : Nat} (h1 : 1 ≤ n) (h16 : n ≤ 16) {E : Nat → Nat → Bool} (hs : ∀ r j, E r j = true → E j r = true) (hi : ∀ r, E r r = false) : GOk (matG n E) where
  pos := by rw [matG_length]; exact h1
  le := by rw [matG_length]; exact h16
  sets := fun v hv => by
    rw [matG_length] at hv ⊢
    refine ⟨⟨fun x hx => ?_, matG_rising hv⟩, fun h => ?_⟩
    · obtain ⟨j, rfl, hj, _⟩ := (mem_matG hv).1 hx
      omega
    · obtain ⟨j, e, _, hE⟩ := (mem_matG hv).1 h
      obtain rfl : v = j := by omega
      rw [hi] at hE
      exact absurd hE (by decide)
  both := fun v hv u hu => by
    rw [matG_length] at hv
    obtain ⟨j, rfl, hj, hE⟩ := (mem_matG hv).1 hu
    rw [Int.toNat_natCast]
    exact (mem_matG hj).2 ⟨v, rfl, hv, hs _ _ hE⟩
theorem ofG_sym {g : List (List Int)} (hg : GOk g) (r j : Nat) (h : ofG g r j = true) : ofG g j r = true := by
  simp only [ofG, decide_eq_true_eq] at h ⊢
  by_cases hr : r < g.length
  · have := hg.both r hr _ h
    rwa [Int.toNat_natCast] at this
  · rw [row_out hr] at h
    exact absurd h (by simp)
theorem ofG_irr {g : List (List Int)} (hg : GOk g) (r : Nat) : ofG g r r = false := by
  by_cases hr : r < g.length
  · simp only [ofG, decide_eq_false_iff_not]
    exact (hg.sets r hr).2
  · simp [ofG, row_out hr]
theorem elim_sym {E : Nat → Nat → Bool} {S : Nat → Bool} (h : ∀ r j, E r j = true → E j r = true) (r j : Nat) (he : elimE E S r j = true) : elimE E S j r = true := by
  simp only [elimE, Bool.or_eq_true, Bool.and_eq_true, decide_eq_true_eq] at he ⊢
  rcases he with he | ⟨⟨h1, h2⟩, h3⟩
  · exact .inl (h _ _ he)
  · exact .inr ⟨⟨h2, h1⟩, fun e => h3 e.symm⟩
theorem fill_sym {E : Nat → Nat → Bool} (h : ∀ r j, E r j = true → E j r = true) (l : List Nat) : ∀ m r j, fillP E l m r j = true → fillP E l m j r = true
  | 0 => h
  | m + 1 => elim_sym (fill_sym h l m)
theorem fill_irr {E : Nat → Nat → Bool} (h : ∀ r, E r r = false) (l : List Nat) : ∀ m r, fillP E l m r r = false
  | 0 => h
  | m + 1 => fun r => by
    have := fill_irr h l m r
    simp [fillP, elimE, this]
theorem gok_fill {g : List (List Int)} (hg : GOk g) (l : List Nat) (m : Nat) : GOk (matG g.length (fillP (ofG g) l m)) :=
  gok_matG hg.pos hg.le (fill_sym (ofG_sym hg) l m) (fill_irr (ofG_irr hg) l m)

end Go.Proofs.YtfokiijcpkhllaaDoor

/- Plain: what may be pruned away. -/
namespace Go.Proofs.YtfokiijcpkhllaaDoor

/-- A prune: a vertex, another one, a kind. -/
structure Pr where
  V : Int
  B : Int
  K : Int

/-- A vertex may go so, of some that are left. -/
def CondP (g : List (List Int)) (L : List Int) (v b k : Int) : Prop :=
  (k = 2 ∧ ∀ x ∈ L, (x ∈ row g v.toNat ↔ x = b)) ∨
  (k = 3 ∧ b ∉ row g v.toNat ∧ ∀ x ∈ L, x ≠ v → x ≠ b → (x ∈ row g v.toNat ↔ x ∈ row g b.toNat)) ∨
  (k = 4 ∧ b ∈ row g v.toNat ∧ ∀ x ∈ L, x ≠ v → x ≠ b → (x ∈ row g v.toNat ↔ x ∈ row g b.toNat))
def GoP (g : List (List Int)) (L : List Int) (v b k : Int) : Prop :=
  (k = 1 ∧ b = -1 ∧ ∀ x ∈ L, x ∉ row g v.toNat) ∨ (b ∈ L ∧ b ≠ v ∧ CondP g L v b k)
theorem condP_kind {g : List (List Int)} {L : List Int} {v b k : Int} (h : CondP g L v b k) : 2 ≤ k ∧ k ≤ 4 := by
  rcases h with ⟨h, _⟩ | ⟨h, _⟩ | ⟨h, _⟩ <;> omega
theorem goP_kind {g : List (List Int)} {L : List Int} {v b k : Int} (h : GoP g L v b k) : 1 ≤ k ∧ k ≤ 4 := by
  rcases h with ⟨h, _⟩ | ⟨_, _, h⟩
  · omega
  · have := condP_kind h; omega

/-- The first prune of a vertex. -/
def PrS (g : List (List Int)) (L : List Int) (v : Int) : Option Pr → Prop
  | none => ∀ k b, ¬ GoP g L v b k
  | some p => p.V = v ∧ GoP g L v p.B p.K ∧ ∀ k b, (k < p.K ∨ (k = p.K ∧ b < p.B)) → ¬ GoP g L v b k
theorem prS_det {g : List (List Int)} {L : List Int} {v : Int} {r s : Option Pr} (h : PrS g L v r) (h2 : PrS g L v s) : r = s := by
  cases r with
  | none =>
    cases s with
    | none => rfl
    | some q => exact absurd h2.2.1 (h _ _)
  | some p =>
    cases s with
    | none => exact absurd h.2.1 (h2 _ _)
    | some q =>
      obtain ⟨p1, p2, p3⟩ := p
      obtain ⟨q1, q2, q3⟩ := q
      obtain ⟨a1, a2, a3⟩ := h
      obtain ⟨b1, b2, b3⟩ := h2
      simp only at a1 a2 a3 b1 b2 b3
      subst a1; subst b1
      have hk : p3 = q3 := by
        rcases Int.lt_trichotomy p3 q3 with h | h | h
        · exact absurd a2 (b3 _ _ (.inl h))
        · exact h
        · exact absurd b2 (a3 _ _ (.inl h))
      subst hk
      have hb : p2 = q2 := by
        rcases Int.lt_trichotomy p2 q2 with h | h | h
        · exact absurd a2 (b3 _ _ (.inr ⟨rfl, h⟩))
        · exact h
        · exact absurd b2 (a3 _ _ (.inr ⟨rfl, h⟩))
      subst hb
      rfl

/-- The least vertex that may goes, again and again. -/
inductive Prunes (g : List (List Int)) : List Int → List Pr → List Int → Prop
  | done (L : List Int) : (∀ j (hj : j < L.length), PrS g L L[j] none) → Prunes g L [] L
  | step (L : List Int) (j : Nat) (hj : j < L.length) (p : Pr) (ps : List Pr) (L' : List Int) : (∀ i (hi : i < L.length), i < j → PrS g L L[i] none) → PrS g L L[j] (some p) → Prunes g (lessL L L[j]) ps L' → Prunes g L (p :: ps) L'
theorem prunes_det {g : List (List Int)} {L : List Int} {ps : List Pr} {L' : List Int} (h : Prunes g L ps L') : ∀ {qs : List Pr} {M' : List Int}, Prunes g L qs M' → ps = qs ∧ L' = M' := by
  induction h with
  | done L h =>
    intro qs M' h2
    cases h2 with
    | done _ h2 => exact ⟨rfl, rfl⟩
    | step _ j hj p ps L' h3 h4 h5 => exact nomatch prS_det (h j hj) h4
  | step L j hj p ps L' h1 h2 h3 ih =>
    intro qs M' k
    cases k with
    | done _ k1 => exact nomatch prS_det (k1 j hj) h2
    | step _ i hi q qs _ k1 k2 k3 =>
      obtain rfl : i = j := by
        rcases Nat.lt_trichotomy i j with h | h | h
        · exact nomatch prS_det (h1 i hi h) k2
        · exact h
        · exact nomatch prS_det (k1 j hj h) h2
      have e := prS_det h2 k2
      obtain rfl : p = q := Option.some.inj e
      obtain ⟨e1, e2⟩ := ih k3
      exact ⟨by rw [e1], e2⟩

def PrOn (g : List (List Int)) (L0 : List Int) (os : List Pr) (L : List Int) : Prop := ∀ ps L', Prunes g L ps L' → Prunes g L0 (os ++ ps) L'
theorem prOn_start (g : List (List Int)) (L : List Int) : PrOn g L [] L := fun _ _ h => h
theorem prOn_step {g : List (List Int)} {L0 L : List Int} {os : List Pr} {j : Nat} {p : Pr} (h : PrOn g L0 os L) (hj : j < L.length) (h1 : ∀ i (hi : i < L.length), i < j → PrS g L L[i] none) (h2 : PrS g L L[j] (some p)) :
    PrOn g L0 (os ++ [p]) (lessL L L[j]) := fun ps L' k => by
  have := h (p :: ps) L' (.step L j hj p ps L' h1 h2 k)
  simpa using this
theorem prOn_stop {g : List (List Int)} {L0 L : List Int} {os : List Pr} (h : PrOn g L0 os L) (h1 : ∀ j (hj : j < L.length), PrS g L L[j] none) : Prunes g L0 os L := by
  have := h [] L (.done L h1)
  simpa using this

/-- What PrunedOf returns. -/
def PrunedS (g : List (List Int)) (ps : List Pr) (l : List Int) : Prop := (GOk g ∧ Prunes g (allL g.length) ps l) ∨ (¬ GOk g ∧ ps = [] ∧ l = [])
theorem prunedS_det {g : List (List Int)} {ps qs : List Pr} {l m : List Int} (h : PrunedS g ps l) (h2 : PrunedS g qs m) : ps = qs ∧ l = m := by
  rcases h with ⟨hg, h⟩ | ⟨hg, rfl, rfl⟩ <;> rcases h2 with ⟨hg2, h2⟩ | ⟨hg2, rfl, rfl⟩
  · exact prunes_det h h2
  · exact absurd hg hg2
  · exact absurd hg2 hg
  · exact ⟨rfl, rfl⟩

/-- The reference's neighbours that are left, but one. -/
def nearB (g : List (List Int)) (L : List Int) (v : Nat) (b : Int) : List Int := (row g v).filter fun x => decide (x ≠ b ∧ x ∈ L)
theorem mem_nearB {g : List (List Int)} {L : List Int} {v : Nat} {b x : Int} : x ∈ nearB g L v b ↔ x ∈ row g v ∧ x ≠ b ∧ x ∈ L := by simp [nearB]
theorem nearB_len (g : List (List Int)) (L : List Int) (v : Nat) (b : Int) : (nearB g L v b).length ≤ (row g v).length := List.length_filter_le _ _
theorem nearB_rising {g : List (List Int)} (hg : GOk g) {L : List Int} {v : Nat} (hv : v < g.length) (b : Int) : (nearB g L v b).Pairwise (· < ·) := (hg.sets v hv).1.2.filter _
theorem nearB_nil {g : List (List Int)} {L : List Int} {v : Nat} {b : Int} : (nearB g L v b).length = 0 ↔ ∀ x ∈ L, x ∈ row g v → x = b := by
  constructor
  · intro h x hx hr
    refine Classical.byContradiction fun e => ?_
    have : x ∈ nearB g L v b := mem_nearB.2 ⟨hr, e, hx⟩
    rw [List.eq_nil_of_length_eq_zero h] at this
    exact absurd this (by simp)
  · intro h
    cases e : nearB g L v b with
    | nil => rfl
    | cons y l =>
      have hy : y ∈ nearB g L v b := by rw [e]; simp
      obtain ⟨h1, h2, h3⟩ := mem_nearB.1 hy
      exact absurd (h y h3 h1) h2
theorem nearB_same {g : List (List Int)} (hg : GOk g) {L : List Int} {v b : Nat} (hv : v < g.length) (hb : b < g.length) (hvL : (v : Int) ∈ L) (hbL : (b : Int) ∈ L) (hvb : v ≠ b) :
    nearB g L v b = nearB g L b v ↔ ∀ x ∈ L, x ≠ v → x ≠ b → (x ∈ row g v ↔ x ∈ row g b) := by
  constructor
  · intro h x hx h1 h2
    have := congrArg (x ∈ ·) h
    simp only [mem_nearB, eq_iff_iff] at this
    constructor
    · intro hr; exact (this.1 ⟨hr, h2, hx⟩).1
    · intro hr; exact (this.2 ⟨hr, h1, hx⟩).1
  · intro h
    refine rising_ext_int _ _ (nearB_rising hg hv _) (nearB_rising hg hb _) fun x => ?_
    rw [mem_nearB, mem_nearB]
    constructor
    · rintro ⟨h1, h2, h3⟩
      have hne : x ≠ (v : Int) := fun e => (hg.sets v hv).2 (e ▸ h1)
      exact ⟨(h x h3 hne h2).1 h1, hne, h3⟩
    · rintro ⟨h1, h2, h3⟩
      have hne : x ≠ (b : Int) := fun e => (hg.sets b hb).2 (e ▸ h1)
      exact ⟨(h x h3 h2 hne).2 h1, hne, h3⟩

/-- The program's masks. -/
structure LOk (g : List (List Int)) (s : Nat) : Prop where
  ok : GOk g
  s16 : s < 65536
  inn : ∀ i, s.testBit i = true → i < g.length
theorem mem_bitsI {s : Nat} (h : s < 65536) {i : Nat} : ((i : Nat) : Int) ∈ natInts (bitsOf s) ↔ s.testBit i = true := by
  rw [mem_natInts]
  constructor
  · rintro ⟨j, hj, e⟩
    obtain rfl : j = i := by omega
    exact (mem_left h).1 hj
  · intro hi
    exact ⟨i, (mem_left h).2 hi, rfl⟩
theorem mem_bitsZ {s : Nat} (h : s < 65536) {x : Int} : x ∈ natInts (bitsOf s) ↔ ∃ i : Nat, (i : Int) = x ∧ s.testBit i = true := by
  rw [mem_natInts]
  constructor
  · rintro ⟨j, hj, e⟩; exact ⟨j, e, (mem_left h).1 hj⟩
  · rintro ⟨j, e, hj⟩; exact ⟨j, (mem_left h).2 hj, e⟩
theorem near_bit {g : List (List Int)} {s : Nat} (h : LOk g s) {v : Nat} (hv : v < g.length) (i : Nat) : (mask (row g v) &&& s).testBit i = true ↔ ((i : Nat) : Int) ∈ row g v ∧ s.testBit i = true := by
  rw [Nat.testBit_and, Bool.and_eq_true, testBit_row h.ok hv]
theorem alone_mask {g : List (List Int)} {s : Nat} (h : LOk g s) {v : Nat} (hv : v < g.length) : mask (row g v) &&& s = 0 ↔ ∀ x ∈ natInts (bitsOf s), x ∉ row g v := by
  constructor
  · intro e x hx hr
    obtain ⟨i, rfl, hi⟩ := (mem_bitsZ h.s16).1 hx
    have := (near_bit h hv i).2 ⟨hr, hi⟩
    rw [e] at this
    simp at this
  · intro hx
    refine Nat.eq_of_testBit_eq fun i => ?_
    rw [Nat.zero_testBit, Bool.eq_false_iff]
    intro hb
    obtain ⟨h1, h2⟩ := (near_bit h hv i).1 hb
    exact hx _ ((mem_bitsI h.s16).2 h2) h1
theorem pend_mask {g : List (List Int)} {s : Nat} (h : LOk g s) {v b : Nat} (hv : v < g.length) (hb : s.testBit b = true) : mask (row g v) &&& s = 2 ^ b ↔ ∀ x ∈ natInts (bitsOf s), (x ∈ row g v ↔ x = b) := by
  constructor
  · intro e x hx
    obtain ⟨i, rfl, hi⟩ := (mem_bitsZ h.s16).1 hx
    have h1 := near_bit h hv i
    rw [e, testBit_pow] at h1
    simp only [hi, and_true, decide_eq_true_eq] at h1
    rw [← h1]
    omega
  · intro hx
    refine Nat.eq_of_testBit_eq fun i => ?_
    rw [Bool.eq_iff_iff, near_bit h hv, testBit_pow, decide_eq_true_eq]
    constructor
    · rintro ⟨h1, h2⟩
      have := (hx _ ((mem_bitsI h.s16).2 h2)).1 h1
      omega
    · rintro rfl
      exact ⟨(hx _ ((mem_bitsI h.s16).2 hb)).2 rfl, hb⟩
theorem false_mask {g : List (List Int)} {s : Nat} (h : LOk g s) {v b : Nat} (hv : s.testBit v = true) (hb : s.testBit b = true) (hvb : v ≠ b) :
    mask (row g v) &&& s = mask (row g b) &&& s ↔ ((b : Nat) : Int) ∉ row g v ∧ ∀ x ∈ natInts (bitsOf s), x ≠ v → x ≠ b → (x ∈ row g v ↔ x ∈ row g b) := by
  have hvl := h.inn v hv
  have hbl := h.inn b hb
  constructor
  · intro e
    have key : ∀ i : Nat, s.testBit i = true → (((i : Nat) : Int) ∈ row g v ↔ ((i : Nat) : Int) ∈ row g b) := fun i hi => by
      have h1 := near_bit h hvl i
      have h2 := near_bit h hbl i
      rw [e] at h1
      simp only [hi, and_true] at h1 h2
      rw [← h1, ← h2]
    refine ⟨fun hr => ?_, fun x hx _ _ => ?_⟩
    · exact (h.ok.sets b hbl).2 ((key b hb).1 hr)
    · obtain ⟨i, rfl, hi⟩ := (mem_bitsZ h.s16).1 hx
      exact key i hi
  · rintro ⟨hn, hx⟩
    refine Nat.eq_of_testBit_eq fun i => ?_
    rw [Bool.eq_iff_iff, near_bit h hvl, near_bit h hbl]
    by_cases hi : s.testBit i = true
    · simp only [hi, and_true]
      by_cases e1 : i = v
      · subst e1
        have a1 := (h.ok.sets i hvl).2
        have a2 : ((i : Nat) : Int) ∉ row g b := fun hr => hn (by have := h.ok.both b hbl _ hr; rwa [Int.toNat_natCast] at this)
        simp [a1, a2]
      · by_cases e2 : i = b
        · subst e2
          have a1 := (h.ok.sets i hbl).2
          simp [a1, hn]
        · exact hx _ ((mem_bitsI h.s16).2 hi) (by omega) (by omega)
    · simp [hi]
theorem true_mask {g : List (List Int)} {s : Nat} (h : LOk g s) {v b : Nat} (hv : s.testBit v = true) (hb : s.testBit b = true) (hvb : v ≠ b) :
    ((mask (row g v) &&& s).testBit b = true ∧ sub (mask (row g v) &&& s) (2 ^ b) = sub (mask (row g b) &&& s) (2 ^ v)) ↔ ((b : Nat) : Int) ∈ row g v ∧ ∀ x ∈ natInts (bitsOf s), x ≠ v → x ≠ b → (x ∈ row g v ↔ x ∈ row g b) := by
  have hvl := h.inn v hv
  have hbl := h.inn b hb
  have hle := h.ok.le
  have s32 := h.s16
  have m1 : mask (row g v) &&& s < 65536 := Nat.lt_of_le_of_lt Nat.and_le_right h.s16
  have m2 : mask (row g b) &&& s < 65536 := Nat.lt_of_le_of_lt Nat.and_le_right h.s16
  rw [near_bit h hvl]
  constructor
  · rintro ⟨⟨hr, _⟩, e⟩
    refine ⟨hr, fun x hx e1 e2 => ?_⟩
    obtain ⟨i, rfl, hi⟩ := (mem_bitsZ h.s16).1 hx
    have h1 := testBit_sub1 m1 (show b < 16 by omega) i
    have h2 := testBit_sub1 m2 (show v < 16 by omega) i
    rw [e] at h1
    rw [h1, near_bit h hvl, near_bit h hbl] at h2
    have i1 : i ≠ b := fun q => e2 (by omega)
    have i2 : i ≠ v := fun q => e1 (by omega)
    simpa [hi, i1, i2] using h2
  · rintro ⟨hr, hx⟩
    refine ⟨⟨hr, hb⟩, Nat.eq_of_testBit_eq fun i => ?_⟩
    rw [Bool.eq_iff_iff, testBit_sub1 m1 (show b < 16 by omega), testBit_sub1 m2 (show v < 16 by omega), near_bit h hvl, near_bit h hbl]
    by_cases hi : s.testBit i = true
    · simp only [hi, and_true]
      by_cases e1 : i = v
      · subst e1
        have a1 := (h.ok.sets i hvl).2
        simp [a1]
      · by_cases e2 : i = b
        · subst e2
          have a1 := (h.ok.sets i hbl).2
          simp [a1]
        · have := hx _ ((mem_bitsI h.s16).2 hi) (by omega) (by omega)
          simp [e1, e2, this]
    · simp [hi]

end Go.Proofs.YtfokiijcpkhllaaDoor

/- Plain: what can be reached in a set; the parts of a set. -/
namespace Go.Proofs.YtfokiijcpkhllaaDoor

/-- Reached from u along E in S. -/
inductive Rch (E : Nat → Nat → Bool) (S : Nat → Prop) (u : Nat) : Nat → Prop
  | base : Rch E S u u
  | step {x y : Nat} : Rch E S u x → E x y = true → S y → Rch E S u y
theorem rch_closed {E : Nat → Nat → Bool} {S : Nat → Prop} {u : Nat} {T : Nat → Prop} (h0 : T u) (hcl : ∀ x y, T x → E x y = true → S y → T y) : ∀ x, Rch E S u x → T x := by
  intro x h
  induction h with
  | base => exact h0
  | step _ h2 h3 ih => exact hcl _ _ ih h2 h3
theorem rch_in {E : Nat → Nat → Bool} {S : Nat → Prop} {u : Nat} (hu : S u) : ∀ x, Rch E S u x → S x := rch_closed hu fun _ _ _ _ h => h
theorem rch_trans {E : Nat → Nat → Bool} {S : Nat → Prop} {u x y : Nat} (h : Rch E S u x) (k : Rch E S x y) : Rch E S u y := by
  induction k with
  | base => exact h
  | step _ h2 h3 ih => exact .step ih h2 h3
theorem rch_sym {E : Nat → Nat → Bool} (hE : ∀ r j, E r j = true → E j r = true) {S : Nat → Prop} {u x : Nat} (hu : S u) (h : Rch E S u x) : Rch E S x u := by
  induction h with
  | base => exact .base
  | step h1 h2 h3 ih => exact rch_trans (.step .base (hE _ _ h2) (rch_in hu _ h1)) ih
theorem rch_mono {E : Nat → Nat → Bool} {S S' : Nat → Prop} {u : Nat} (h : ∀ x, S x → S' x) : ∀ x, Rch E S u x → Rch E S' u x := by
  intro x hx
  induction hx with
  | base => exact .base
  | step _ h2 h3 ih => exact .step ih h2 (h _ h3)
/-- Away from closed parts the same is reached. -/
theorem rch_away {E : Nat → Nat → Bool} (hE : ∀ r j, E r j = true → E j r = true) {S D : Nat → Prop} (hD : ∀ x y, D x → E x y = true → S y → D y) {u : Nat} (hu : S u) (hnu : ¬ D u) :
    ∀ x, Rch E S u x ↔ Rch E (fun y => S y ∧ ¬ D y) u x := by
  intro x
  constructor
  · intro h
    induction h with
    | base => exact .base
    | @step x y h1 h2 h3 ih =>
      refine .step ih h2 ⟨h3, fun hd => ?_⟩
      have hx := rch_in (S := fun y => S y ∧ ¬ D y) ⟨hu, hnu⟩ _ ih
      exact hx.2 (hD _ _ hd (hE _ _ h2) hx.1)
  · exact rch_mono (fun _ h => h.1) x

/-- The part of a vertex, as a list out of L. -/
noncomputable def partL (E : Nat → Nat → Bool) (L : List Nat) (u : Nat) : List Nat := L.filter fun x => dec (Rch E (· ∈ L) u x)
theorem mem_partL {E : Nat → Nat → Bool} {L : List Nat} {u x : Nat} : x ∈ partL E L u ↔ x ∈ L ∧ Rch E (· ∈ L) u x := by
  simp [partL, dec_iff]
theorem partL_rising {E : Nat → Nat → Bool} {L : List Nat} (h : L.Pairwise (· < ·)) (u : Nat) : (partL E L u).Pairwise (· < ·) := List.Pairwise.filter _ h
theorem partL_length (E : Nat → Nat → Bool) (L : List Nat) (u : Nat) : (partL E L u).length ≤ L.length := List.length_filter_le _ _
noncomputable def restL (E : Nat → Nat → Bool) (L : List Nat) (u : Nat) : List Nat := L.filter fun x => !dec (Rch E (· ∈ L) u x)
theorem mem_restL {E : Nat → Nat → Bool} {L : List Nat} {u x : Nat} : x ∈ restL E L u ↔ x ∈ L ∧ ¬ Rch E (· ∈ L) u x := by
  simp only [restL, List.mem_filter, Bool.not_eq_true', and_congr_right_iff]
  intro _
  by_cases h : Rch E (· ∈ L) u x
  · simp [dec_true h, h]
  · simp [dec_false h, h]
theorem restL_rising {E : Nat → Nat → Bool} {L : List Nat} (h : L.Pairwise (· < ·)) (u : Nat) : (restL E L u).Pairwise (· < ·) := List.Pairwise.filter _ h
theorem restL_lt {E : Nat → Nat → Bool} {L : List Nat} {u : Nat} (hu : u ∈ L) : (restL E L u).length < L.length := by
  rcases Nat.lt_or_ge (restL E L u).length L.length with h | h
  · exact h
  · exfalso
    have e : restL E L u = L := List.filter_eq_self.2 (fun x hx => by
      have h2 : (restL E L u).length = L.length := Nat.le_antisymm (List.length_filter_le _ _) h
      exact List.length_filter_eq_length_iff.1 h2 x hx)
    have : u ∈ restL E L u := by rw [e]; exact hu
    exact (mem_restL.1 this).2 .base

/-- The parts of a rising list, by their least ones. -/
inductive Parts (E : Nat → Nat → Bool) : List Nat → List (List Nat) → Prop
  | done : Parts E [] []
  | step (u : Nat) (L : List Nat) (ps : List (List Nat)) : Parts E (restL E (u :: L) u) ps → Parts E (u :: L) (partL E (u :: L) u :: ps)
theorem parts_det {E : Nat → Nat → Bool} {L : List Nat} {ps : List (List Nat)} (h : Parts E L ps) : ∀ {qs : List (List Nat)}, Parts E L qs → ps = qs := by
  induction h with
  | done => intro qs h2; cases h2; rfl
  | step u L ps _ ih =>
    intro qs h2
    cases h2 with
    | step _ _ qs h3 => rw [ih h3]

def PartOn (E : Nat → Nat → Bool) (L0 : List Nat) (os : List (List Nat)) (L : List Nat) : Prop := ∀ ps, Parts E L ps → Parts E L0 (os ++ ps)
theorem partOn_start (E : Nat → Nat → Bool) (L : List Nat) : PartOn E L [] L := fun _ h => h
theorem partOn_step {E : Nat → Nat → Bool} {L0 L : List Nat} {os : List (List Nat)} {u : Nat} (h : PartOn E L0 os (u :: L)) : PartOn E L0 (os ++ [partL E (u :: L) u]) (restL E (u :: L) u) := fun ps k => by
  have := h _ (.step u L ps k)
  simpa using this
theorem partOn_stop {E : Nat → Nat → Bool} {L0 : List Nat} {os : List (List Nat)} (h : PartOn E L0 os []) : Parts E L0 os := by
  have := h [] .done
  simpa using this

end Go.Proofs.YtfokiijcpkhllaaDoor
