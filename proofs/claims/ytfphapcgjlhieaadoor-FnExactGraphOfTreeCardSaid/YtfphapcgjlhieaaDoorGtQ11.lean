/- Plain: the neighbours among some vertices, as masks. -/
import Derived.Test.YtfphapcgjlhieaaDoorGtQ10
import Derived.Test.YtfphapcgjlhieaaDoorGtQ9
import Derived.Test.YtfphapcgjlhieaaDoorGtQ4
import Derived.Test.YtfphapcgjlhieaaDoorGtQ7
namespace Go.Proofs.YtfphapcgjlhieaaDoor

theorem mask_bit (l : List Nat) (j : Nat) : (mask (natInts l)).testBit j = decide (j ∈ l) := by
  rw [testBit_mask, Bool.eq_iff_iff]
  simp [natInts]
theorem mask_nat_lt16 {l : List Nat} (h : ∀ i ∈ l, i < 16) : mask (natInts l) < 65536 := mask_lt16 _ fun x hx => by
  obtain ⟨i, hi, rfl⟩ := mem_natInts.1 hx
  have := h i hi
  omega
def indN (m : Nat) (E : Nat → Nat → Bool) : List Nat := (List.range m).map fun r => mask (natInts ((List.range m).filter (E r)))
theorem indN_length (m : Nat) (E : Nat → Nat → Bool) : (indN m E).length = m := by simp [indN]
theorem indN_get {m : Nat} {E : Nat → Nat → Bool} {r : Nat} (h : r < m) : (indN m E).getD r 0 = mask (natInts ((List.range m).filter (E r))) := by simp [indN, h]
theorem indN_bit {m : Nat} {E : Nat → Nat → Bool} {r : Nat} (h : r < m) (j : Nat) : ((indN m E).getD r 0).testBit j = (decide (j < m) && E r j) := by
  rw [indN_get h, mask_bit, Bool.eq_iff_iff]
  simp
theorem indN_lt16 {m : Nat} {E : Nat → Nat → Bool} (hm : m ≤ 16) : ∀ s ∈ indN m E, s < 65536 := by
  intro s hs
  simp only [indN, List.mem_map, List.mem_range] at hs
  obtain ⟨r, hr, rfl⟩ := hs
  exact mask_nat_lt16 fun i hi => by simp only [List.mem_filter, List.mem_range] at hi; omega
theorem natList_ext {a b : List Nat} (hl : a.length = b.length) (h : ∀ r, r < a.length → a.getD r 0 = b.getD r 0) : a = b := by
  refine List.ext_getElem hl fun j h1 h2 => ?_
  have := h j h1
  simpa [h1, h2] using this
theorem indN_congr {m : Nat} {E F : Nat → Nat → Bool} (h : ∀ r j, r < m → j < m → E r j = F r j) : indN m E = indN m F := by
  refine natList_ext (by simp [indN_length]) fun r hr => ?_
  rw [indN_length] at hr
  refine Nat.eq_of_testBit_eq fun j => ?_
  rw [indN_bit hr, indN_bit hr]
  by_cases hj : j < m
  · simp [h r j hr hj]
  · simp [hj]
theorem indN_none (m : Nat) {E : Nat → Nat → Bool} (h : ∀ r j, r < m → j < m → E r j = false) : indN m E = List.replicate m 0 := by
  refine natList_ext (by simp [indN_length]) fun r hr => ?_
  rw [indN_length] at hr
  refine Nat.eq_of_testBit_eq fun j => ?_
  rw [indN_bit hr]
  by_cases hj : j < m
  · simp [h r j hr hj, hr]
  · simp [hj, hr]
def rowsE (E : Nat → Nat → Bool) (i k : Nat) : Nat → Nat → Bool := fun r j => E r j && (decide (r < i) || (decide (r = i) && decide (j < k)))
theorem rows_start (m : Nat) (E : Nat → Nat → Bool) : indN m (rowsE E 0 0) = List.replicate m 0 := indN_none m fun r j _ _ => by simp [rowsE]
theorem rows_row {m : Nat} {E : Nat → Nat → Bool} {i : Nat} : indN m (rowsE E i m) = indN m (rowsE E (i + 1) 0) := by
  refine indN_congr fun r j hr hj => ?_
  unfold rowsE
  congr 1
  by_cases h1 : r < i
  · simp [h1, show r < i + 1 by omega]
  · by_cases h2 : r = i
    · simp [h2, hj]
    · simp [h1, h2, show ¬ r < i + 1 by omega]
theorem rows_end {m : Nat} {E : Nat → Nat → Bool} : indN m (rowsE E m 0) = indN m E := indN_congr fun r j hr hj => by simp [rowsE, hr]
theorem rows_yes {m : Nat} {E : Nat → Nat → Bool} {i k : Nat} (hi : i < m) (hk : k < m) (he : E i k = true) :
    (indN m (rowsE E i k)).set i ((indN m (rowsE E i k)).getD i 0 ||| 2 ^ k) = indN m (rowsE E i (k + 1)) := by
  refine natList_ext (by simp [indN_length]) fun r hr => ?_
  rw [List.length_set, indN_length] at hr
  have hl := indN_length m (rowsE E i k)
  rw [getD_set _ _ _ _ (by omega)]
  refine Nat.eq_of_testBit_eq fun j => ?_
  by_cases e : r = i
  · subst e
    rw [if_pos rfl, Nat.testBit_or, indN_bit hr, indN_bit hr, testBit_pow]
    unfold rowsE
    by_cases h1 : k = j
    · subst h1; simp [he, hk]
    · have : j < k ↔ j < k + 1 := by omega
      simp [h1, this]
  · rw [if_neg e, indN_bit hr, indN_bit hr]
    unfold rowsE
    simp [e]
theorem rows_no {m : Nat} {E : Nat → Nat → Bool} {i k : Nat} (he : E i k = false) : indN m (rowsE E i k) = indN m (rowsE E i (k + 1)) := by
  refine indN_congr fun r j hr hj => ?_
  unfold rowsE
  by_cases h : r = i ∧ j = k
  · obtain ⟨rfl, rfl⟩ := h; simp [he]
  · congr 2
    by_cases e : r = i
    · have : j < k ↔ j < k + 1 := by omega
      simp [this]
    · simp [e]
/-- The masks' graph. -/
theorem indN_rows {m : Nat} (hm : m ≤ 16) {E : Nat → Nat → Bool} {r : Nat} (hr : r < m) : natInts (bitsOf ((indN m E).getD r 0)) = row (matG m E) r := by
  have h16 : (indN m E).getD r 0 < 65536 := lt16_getD (indN_lt16 hm) r
  refine rising_ext_int _ _ (natInts_rising (bitsOf_rising _)) (matG_rising hr) fun x => ?_
  rw [mem_natInts, mem_matG hr]
  constructor
  · rintro ⟨j, hj, rfl⟩
    rw [mem_bitsOf' (by omega), indN_bit hr] at hj
    simp only [Bool.and_eq_true, decide_eq_true_eq] at hj
    exact ⟨j, rfl, hj.1, hj.2⟩
  · rintro ⟨j, rfl, h1, h2⟩
    exact ⟨j, by rw [mem_bitsOf' (by omega), indN_bit hr]; simp [h1, h2], rfl⟩

/-- The edges among the bits of a set, in masks that are a graph's rows. -/
def bitE (a : List Nat) (l : List Nat) : Nat → Nat → Bool := fun r j => (a.getD (l.getD r 0) 0).testBit (l.getD j 0)
theorem bitE_ind {g : List (List Int)} {L : List Int} {a : List Nat} {left : Nat} (h : Same g L a left) : indL g L = matG (bitsOf left).length (bitE a (bitsOf left)) := by
  have hL := h.list
  subst hL
  unfold indL
  rw [natInts_length]
  refine matG_congr fun r j hr hj => ?_
  unfold indE bitE
  have e1 : (natInts (bitsOf left)).getD r 0 = (((bitsOf left)[r] : Nat) : Int) := by simp [natInts, hr]
  have e2 : (natInts (bitsOf left)).getD j 0 = (((bitsOf left)[j] : Nat) : Int) := by simp [natInts, hj]
  rw [e1, e2, Int.toNat_natCast]
  have hl16 := h.left16
  have hr' := (mem_bitsOf' (by omega)).1 (List.getElem_mem hr)
  have hj' := (mem_bitsOf' (by omega)).1 (List.getElem_mem hj)
  rw [h.rows _ hr', Bool.eq_iff_iff, decide_eq_true_eq, mem_near hl16]
  have f1 : (bitsOf left).getD r 0 = (bitsOf left)[r] := by simp [hr]
  have f2 : (bitsOf left).getD j 0 = (bitsOf left)[j] := by simp [hj]
  rw [f1, f2]
  constructor
  · rintro ⟨i, hi, h1, _⟩
    obtain rfl : i = (bitsOf left)[j] := by omega
    exact h1
  · intro h1
    exact ⟨_, rfl, h1, hj'⟩

end Go.Proofs.YtfphapcgjlhieaaDoor

/- Walks: how the program says that a vertex may be folded, and how it folds it away. -/
namespace Go.Proofs.YtfphapcgjlhieaaDoor
open Go.RowKit

theorem and_near {a : List Nat} (ha : ∀ s ∈ a, s < 65536) {v left : Nat} (hv : v < a.length) (hl : left < 65536) : bits BinOp.and IntKind.u32 (a[v] : Int) (left : Int) = ((a.getD v 0 &&& left : Nat) : Int) := by
  have e : a.getD v 0 = a[v] := by simp [hv]
  rw [e]
  exact u32_and_nat _ _ (by have := ha _ (List.getElem_mem hv); omega) (by omega)

theorem nets_cell {w : World} {p : Option Addr} {n c : Nat} {a : List Nat} (h : Sl w 76 (.slice p n c) a.length (a.map u32v)) {v : Nat} (hv : v < a.length) :
    ∃ b o, p = some ⟨b, o, none⟩ ∧ w.cell? ⟨b, o + v, none⟩ = some (.int .u32 (a[v] : Int)) := by
  obtain ⟨p', c', he, _, _, _, hat⟩ := h
  simp only [Value.slice.injEq] at he
  obtain ⟨rfl, rfl, rfl⟩ := he
  obtain ⟨b, o, h1, h2⟩ := hat.cells (k := v) (by simpa using hv)
  exact ⟨b, o, h1, h2 v _ (by simp [hv, u32v])⟩


end Go.Proofs.YtfphapcgjlhieaaDoor

/- Walks: the reference's list operations that make memory. -/
namespace Go.Proofs.YtfphapcgjlhieaaDoor
open Go.RowKit

set_option maxRecDepth 100000 in
set_option maxHeartbeats 1000000 in
theorem l1Copy_any (v : Value) (n : Nat) (vals : List Value) (h1 : ∀ x ∈ vals, x.oneCell' = true) (hl : vals.length = n) (w : World) (hx : Sl w 2 v n vals) :
    Calls Tryd.prog 150 #[v] w fun e w' => ∃ u, e = .returned u ∧ w'.ownsRow w.heap.size 2 1 u n vals ∧ Below w.heap.size w w' := by
  have hn := hx
  obtain ⟨p, c, rfl, _, _, hn, _⟩ := hn
  have hx' := hx.below (below_alloc w (.cells #[] 2))
  have ho := ownsRow_empty w 2 1
  have hb := below_alloc w (.cells #[] 2)
  have hsz : w.heap.size ≤ (w.alloc (.cells #[] 2)).heap.size := hb.size
  have Hl := Lib.hid hl
  clear hl
  go_enter Tryd.func150, Tryd.ntmps150
  go_wp2_with (at_builtin; refine wpList_app ty_i64 rfl rfl rfl ho rfl hx' (by have := Hl.out; omega) h1 (by omega) hsz ?_; intro v' w1 hown' hg _)
  go_ret
  refine ⟨_, rfl, by simpa using hown', below_grown hb ho hg (Nat.le_refl _) hsz⟩

theorem oneCell_ints (K : IntKind) (xs : List Int) : ∀ x ∈ xs.map (Value.int K), x.oneCell' = true := by
  intro x hx
  obtain ⟨y, _, rfl⟩ := List.mem_map.1 hx
  rfl


set_option maxRecDepth 100000 in
set_option maxHeartbeats 1000000 in
theorem l16All_any (v : Value) (g : List (List Int)) (hl : g.length ≤ 1000) (w : World) (hg : Gr w v g) :
    Calls Tryd.prog 82 #[v] w fun e w' => ∃ u, e = .returned u ∧
      w'.ownsRow w.heap.size 2 1 u g.length ((allL g.length).map (Value.int .i64)) ∧ Below w.heap.size w w' := by
  obtain ⟨u, rfl, hr⟩ := hg
  obtain ⟨p, c, rfl, _, _, hn⟩ := hr.shape
  have hbox := Box.new w (.slice p g.length c) 26
  have hb1 := below_alloc w (.cells #[.slice p g.length c] 26)
  go_enter Tryd.func82, Tryd.ntmps82
  go_wp2
  go_loopw [3, 4] (fun u i wr => ∃ k : Nat, k ≤ g.length ∧ i = .int .i64 k ∧ wr.ownsRow (w.heap.size + 1) 2 1 u k ((allL k).map (Value.int .i64)) ∧ Below w.heap.size w wr ∧ Box wr w.heap.size 26 (.slice p g.length c))
    (fun _ i _ => g.length - (intOf i).toNat)
  case atStart => exact ⟨0, Nat.zero_le _, rfl, ownsRow_empty' _ _ _ _ _ (Nat.le_refl _), hb1.alloc (by rw [size_alloc]; omega) _, hbox.alloc _⟩
  case round =>
    clear hbox hb1
    obtain ⟨k, hk, rfl, hown, hbel, hbx⟩ := hrel
    obtain ⟨hc, hf, hlt0, _⟩ := id hbx
    have hsz := hbel.size
    by_cases hlt : k < g.length
    · go_wp2_with (at_builtin; refine wpList_app1 ty_i64 rfl rfl rfl hown rfl rfl (by omega) (by omega) ?_; intro v' w1 hown' hg _)
      go_roundw
      case rel =>
        refine ⟨k + 1, by omega, by go_num, ?_, below_grown hbel hown hg (by omega) hsz, ?_⟩
        · rw [allL_succ, List.map_append]; exact hown'
        · exact hbx.below (below_grown (Below.refl (w.heap.size + 1) wr) hown hg (Nat.le_refl _) (by omega)) (by omega)
      case measure => simp [intOf]; omega
    · obtain rfl : k = g.length := by omega
      go_wp2
      go_ret
      exact ⟨_, rfl, ownsRow_base hown (by omega), hbel⟩

end Go.Proofs.YtfphapcgjlhieaaDoor
