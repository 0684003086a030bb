/- Plain: edges cut; bridges; the parts without them. -/
import Derived.Test.YtkppbmfliejnmaaDoorLpQ7
import Derived.Test.YtkppbmfliejnmaaDoorLpQ5
import Derived.Test.YtkppbmfliejnmaaDoorLpQ4
import Derived.Test.YtkppbmfliejnmaaDoorLpQ1
import Derived.Deep.RegionHeld3
import Derived.Deep.DeepCutAuto
import Derived.Test.YtkppbmfliejnmaaDoorLpQ6
import Derived.Deep.RegionLaw
namespace Go.Proofs.YtkppbmfliejnmaaDoor

def cutE (E : Nat → Nat → Bool) (p q : Nat) : Nat → Nat → Bool := fun r j => E r j && !((r == p && j == q) || (r == q && j == p))
theorem cutE_sym {E : Nat → Nat → Bool} (h : ∀ r j, E r j = true → E j r = true) (p q : Nat) (r j : Nat) (he : cutE E p q r j = true) : cutE E p q j r = true := by
  simp only [cutE, Bool.and_eq_true, Bool.not_eq_true', Bool.or_eq_false_iff, Bool.and_eq_false_iff, beq_eq_false_iff_ne] at he ⊢
  obtain ⟨h1, h2, h3⟩ := he
  refine ⟨h _ _ h1, ?_, ?_⟩
  · rcases h3 with h3 | h3
    · exact .inr h3
    · exact .inl h3
  · rcases h2 with h2 | h2
    · exact .inr h2
    · exact .inl h2
theorem cutE_irr {E : Nat → Nat → Bool} (h : ∀ r, E r r = false) (p q r : Nat) : cutE E p q r r = false := by simp [cutE, h r]

/-- Two vertices are made no neighbours. -/
def partN (a : List Nat) (u v : Nat) : List Nat := let b := a.set u (sub (a.getD u 0) (2 ^ v)); b.set v (sub (b.getD v 0) (2 ^ u))
theorem partN_length (a : List Nat) (u v : Nat) : (partN a u v).length = a.length := by simp [partN]
theorem partN_indN {n : Nat} (hn : n ≤ 16) {E : Nat → Nat → Bool} {u v : Nat} (hu : u < n) (hv : v < n) (huv : u ≠ v) : partN (indN n E) u v = indN n (cutE E u v) := by
  have hl := indN_length n E
  have h16 := indN_lt16 (E := E) hn
  refine natList_ext (by rw [partN_length, hl, indN_length]) fun r hr => ?_
  rw [partN_length, hl] at hr
  have e : (partN (indN n E) u v).getD r 0 = if r = v then sub ((indN n E).getD v 0) (2 ^ u) else if r = u then sub ((indN n E).getD u 0) (2 ^ v) else (indN n E).getD r 0 := by
    unfold partN
    rw [getD_set _ _ _ _ (by rw [List.length_set, hl]; exact hv)]
    by_cases e : r = v
    · subst e
      rw [if_pos rfl, if_pos rfl, getD_set _ _ _ _ (by rw [hl]; exact hu), if_neg (fun q => huv q.symm)]
    · rw [if_neg e, if_neg e, getD_set _ _ _ _ (by rw [hl]; exact hu)]
  rw [e]
  refine Nat.eq_of_testBit_eq fun j => ?_
  rw [Bool.eq_iff_iff, indN_bit hr]
  by_cases e1 : r = v
  · subst e1
    rw [if_pos rfl, testBit_sub1 (lt16_getD h16 _) (by omega), indN_bit hr]
    simp only [cutE, Bool.and_eq_true, decide_eq_true_eq, Bool.not_eq_true', Bool.or_eq_false_iff, Bool.and_eq_false_iff, beq_eq_false_iff_ne, ne_eq]
    constructor
    · rintro ⟨⟨h1, h2⟩, h3⟩; exact ⟨h1, h2, .inl (fun q => huv q.symm), .inr h3⟩
    · rintro ⟨h1, h2, _, h3⟩
      exact ⟨⟨h1, h2⟩, fun q => by rcases h3 with h3 | h3; exact h3 trivial; exact h3 q⟩
  · rw [if_neg e1]
    by_cases e2 : r = u
    · subst e2
      rw [if_pos rfl, testBit_sub1 (lt16_getD h16 _) (by omega), indN_bit hr]
      simp only [cutE, Bool.and_eq_true, decide_eq_true_eq, Bool.not_eq_true', Bool.or_eq_false_iff, Bool.and_eq_false_iff, beq_eq_false_iff_ne, ne_eq]
      constructor
      · rintro ⟨⟨h1, h2⟩, h3⟩; exact ⟨h1, h2, .inr h3, .inl e1⟩
      · rintro ⟨h1, h2, h3, _⟩
        exact ⟨⟨h1, h2⟩, fun q => by rcases h3 with h3 | h3; exact h3 trivial; exact h3 q⟩
    · rw [if_neg e2, indN_bit hr]
      have a1 : (r == u) = false := by simpa using e2
      have a2 : (r == v) = false := by simpa using e1
      simp [cutE, a1, a2]
theorem joinL_cut {n : Nat} {E : Nat → Nat → Bool} {u v : Nat} (hu : u < n) (hv : v < n) (huv : u ≠ v) (h1 : E u v = true) (h2 : E v u = true) : joinL (indN n (cutE E u v)) u v = indN n E := by
  refine natList_ext (by rw [joinL_length, indN_length, indN_length]) fun r hr => ?_
  rw [joinL_length, indN_length] at hr
  refine Nat.eq_of_testBit_eq fun j => ?_
  rw [Bool.eq_iff_iff, joinL_testBit (by rw [indN_length]; exact hu) (by rw [indN_length]; exact hv) huv, indN_bit hr, indN_bit hr]
  simp only [cutE, Bool.and_eq_true, decide_eq_true_eq, Bool.not_eq_true', Bool.or_eq_false_iff, Bool.and_eq_false_iff, beq_eq_false_iff_ne, ne_eq]
  constructor
  · rintro (⟨a, b, _⟩ | ⟨rfl, rfl⟩ | ⟨rfl, rfl⟩)
    · exact ⟨a, b⟩
    · exact ⟨hv, h1⟩
    · exact ⟨hu, h2⟩
  · rintro ⟨a, b⟩
    by_cases c1 : r = u ∧ j = v
    · exact .inr (.inl c1)
    · by_cases c2 : r = v ∧ j = u
      · exact .inr (.inr c2)
      · refine .inl ⟨a, b, ?_, ?_⟩
        · by_cases q : r = u
          · exact .inr fun q2 => c1 ⟨q, q2⟩
          · exact .inl q
        · by_cases q : r = v
          · exact .inr fun q2 => c2 ⟨q, q2⟩
          · exact .inl q

/-- The edges, in order. -/
def edRow (n : Nat) (E : Nat → Nat → Bool) (u : Nat) : List (Nat × Nat) := ((List.range n).filter fun v => decide (u < v) && E u v).map fun v => (u, v)
def edN (n : Nat) (E : Nat → Nat → Bool) (k : Nat) : List (Nat × Nat) := (List.range k).flatMap (edRow n E)
theorem edN_succ (n : Nat) (E : Nat → Nat → Bool) (k : Nat) : edN n E (k + 1) = edN n E k ++ edRow n E k := by simp [edN, List.range_succ, List.flatMap_append]
theorem mem_edN {n : Nat} {E : Nat → Nat → Bool} {k : Nat} (hk : k ≤ n) {e : Nat × Nat} (h : e ∈ edN n E k) : e.1 < n ∧ e.2 < n ∧ e.1 < e.2 ∧ E e.1 e.2 = true := by
  simp only [edN, edRow, List.mem_flatMap, List.mem_range, List.mem_map, List.mem_filter, Bool.and_eq_true, decide_eq_true_eq] at h
  obtain ⟨u, hu, v, ⟨hv, h1, h2⟩, rfl⟩ := h
  exact ⟨by show u < n; omega, hv, h1, h2⟩
theorem edRow_length (n : Nat) (E : Nat → Nat → Bool) (u : Nat) : (edRow n E u).length ≤ n := by
  simp only [edRow, List.length_map]
  exact Nat.le_trans (List.length_filter_le _ _) (by simp)
theorem edN_length (n : Nat) (E : Nat → Nat → Bool) : ∀ k, (edN n E k).length ≤ k * n
  | 0 => by simp [edN]
  | k + 1 => by
    rw [edN_succ, List.length_append]
    have h1 := edN_length n E k
    have h2 := edRow_length n E k
    have : (k + 1) * n = k * n + n := Nat.succ_mul k n
    omega

/-- No way between the ends of an edge without it. -/
def Brd (n : Nat) (E : Nat → Nat → Bool) (e : Nat × Nat) : Prop := ¬ Rch (cutE E e.1 e.2) (· ∈ List.range n) e.1 e.2
noncomputable def brdL (n : Nat) (E : Nat → Nat → Bool) (l : List (Nat × Nat)) : List (Nat × Nat) := l.filter fun e => dec (Brd n E e)
theorem brdL_snoc (n : Nat) (E : Nat → Nat → Bool) (l : List (Nat × Nat)) (e : Nat × Nat) : brdL n E (l ++ [e]) = if dec (Brd n E e) = true then brdL n E l ++ [e] else brdL n E l := by
  unfold brdL
  rw [List.filter_append]
  by_cases h : dec (Brd n E e) = true
  · rw [if_pos h]; simp [List.filter_cons, h]
  · rw [if_neg h]; simp [List.filter_cons, h]
theorem brdL_length (n : Nat) (E : Nat → Nat → Bool) (l : List (Nat × Nat)) : (brdL n E l).length ≤ l.length := List.length_filter_le _ _
theorem mem_brdL {n : Nat} {E : Nat → Nat → Bool} {l : List (Nat × Nat)} {e : Nat × Nat} (h : e ∈ brdL n E l) : e ∈ l := (List.mem_filter.1 h).1
def cutAll (E : Nat → Nat → Bool) (l : List (Nat × Nat)) : Nat → Nat → Bool := l.foldl (fun E e => cutE E e.1 e.2) E
theorem cutAll_snoc (E : Nat → Nat → Bool) (l : List (Nat × Nat)) (e : Nat × Nat) : cutAll E (l ++ [e]) = cutE (cutAll E l) e.1 e.2 := by simp [cutAll]
theorem cutAll_sym {E : Nat → Nat → Bool} (h : ∀ r j, E r j = true → E j r = true) (l : List (Nat × Nat)) : ∀ r j, cutAll E l r j = true → cutAll E l j r = true := by
  induction l generalizing E with
  | nil => exact h
  | cons e l ih => exact ih (cutE_sym h _ _)
theorem cutAll_irr {E : Nat → Nat → Bool} (h : ∀ r, E r r = false) (l : List (Nat × Nat)) : ∀ r, cutAll E l r r = false := by
  induction l generalizing E with
  | nil => exact h
  | cons e l ih => exact ih (cutE_irr h _ _)

/-- Pairs, as rows. -/
def prsL (l : List (Nat × Nat)) : List (List Int) := l.map fun e => [(e.1 : Int), (e.2 : Int)]
theorem prsL_length (l : List (Nat × Nat)) : (prsL l).length = l.length := by simp [prsL]
theorem prsL_snoc (l : List (Nat × Nat)) (e : Nat × Nat) : prsL (l ++ [e]) = prsL l ++ [[(e.1 : Int), (e.2 : Int)]] := by simp [prsL]

/-- What EdgeParts returns. -/
def EpS (g : List (List Int)) (gg : List (List Int)) : Prop :=
  (GOk g ∧ ∃ ps, Parts (cutAll (ofG g) (brdL g.length (ofG g) (edN g.length (ofG g) g.length))) (List.range g.length) ps ∧ gg = ps.map natInts) ∨ (¬ GOk g ∧ gg = [])
theorem epS_det {g gg hh : List (List Int)} (h : EpS g gg) (h2 : EpS g hh) : gg = hh := by
  rcases h with ⟨hg, ps, h, rfl⟩ | ⟨hg, rfl⟩ <;> rcases h2 with ⟨hg2, qs, h2, rfl⟩ | ⟨hg2, rfl⟩
  · rw [parts_det h h2]
  · exact absurd hg hg2
  · exact absurd hg2 hg
  · rfl

end Go.Proofs.YtkppbmfliejnmaaDoor

/- Walks: how the program says that a vertex may be folded, and how it folds it away. -/
namespace Go.Proofs.YtkppbmfliejnmaaDoor
open Go.RowKit

theorem and_near {a : List Nat} (ha : ∀ s ∈ a, s < 65536) {v left : Nat} (hv : v < a.length) (hl : left < 65536) : bits BinOp.and IntKind.u32 (a[v] : Int) (left : Int) = ((a.getD v 0 &&& left : Nat) : Int) := by
  have e : a.getD v 0 = a[v] := by simp [hv]
  rw [e]
  exact u32_and_nat _ _ (by have := ha _ (List.getElem_mem hv); omega) (by omega)

theorem nets_cell {w : World} {p : Option Addr} {n c : Nat} {a : List Nat} (h : Sl w 70 (.slice p n c) a.length (a.map u32v)) {v : Nat} (hv : v < a.length) :
    ∃ b o, p = some ⟨b, o, none⟩ ∧ w.cell? ⟨b, o + v, none⟩ = some (.int .u32 (a[v] : Int)) := by
  obtain ⟨p', c', he, _, _, _, hat⟩ := h
  simp only [Value.slice.injEq] at he
  obtain ⟨rfl, rfl, rfl⟩ := he
  obtain ⟨b, o, h1, h2⟩ := hat.cells (k := v) (by simpa using hv)
  exact ⟨b, o, h1, h2 v _ (by simp [hv, u32v])⟩


end Go.Proofs.YtkppbmfliejnmaaDoor

/- Walks: the reference's list operations that make memory. -/
namespace Go.Proofs.YtkppbmfliejnmaaDoor
open Go.RowKit

set_option maxRecDepth 100000 in
set_option maxHeartbeats 1000000 in
theorem l1Copy_any (v : Value) (n : Nat) (vals : List Value) (h1 : ∀ x ∈ vals, x.oneCell' = true) (hl : vals.length = n) (w : World) (hx : Sl w 2 v n vals) :
    Calls Tryd.prog 200 #[v] w fun e w' => ∃ u, e = .returned u ∧ w'.ownsRow w.heap.size 2 1 u n vals ∧ Below w.heap.size w w' := by
  have hn := hx
  obtain ⟨p, c, rfl, _, _, hn, _⟩ := hn
  have hx' := hx.below (below_alloc w (.cells #[] 2))
  have ho := ownsRow_empty w 2 1
  have hb := below_alloc w (.cells #[] 2)
  have hsz : w.heap.size ≤ (w.alloc (.cells #[] 2)).heap.size := hb.size
  have Hl := Lib.hid hl
  clear hl
  go_enter Tryd.func200, Tryd.ntmps200
  go_wp2_with (at_builtin; refine wpList_app ty_i64 rfl rfl rfl ho rfl hx' (by have := Hl.out; omega) h1 (by omega) hsz ?_; intro v' w1 hown' hg _)
  go_ret
  refine ⟨_, rfl, by simpa using hown', below_grown hb ho hg (Nat.le_refl _) hsz⟩

theorem oneCell_ints (K : IntKind) (xs : List Int) : ∀ x ∈ xs.map (Value.int K), x.oneCell' = true := by
  intro x hx
  obtain ⟨y, _, rfl⟩ := List.mem_map.1 hx
  rfl



end Go.Proofs.YtkppbmfliejnmaaDoor

/- Walk: the reference's list with one more. -/
namespace Go.Proofs.YtkppbmfliejnmaaDoor
open Go.RowKit

set_option maxRecDepth 100000 in
set_option maxHeartbeats 1000000 in
theorem l1Into_any (v : Value) (xs : List Int) (n : Int) (hl : xs.length ≤ 100000000) (w : World) (hx : Nums w 2 .i64 v xs) :
    Calls Tryd.prog 210 #[v, .int .i64 n] w fun e w' => ∃ u, e = .returned u ∧ Nums w' 2 .i64 u (intoL xs n) ∧ Below w.heap.size w w' := by
  have hx0 := Lib.hid hx
  obtain ⟨p, c, rfl, hp, hnc, hn, hat⟩ := hx
  go_enter Tryd.func210, Tryd.ntmps210
  go_wp2
  go_loop [5] (fun i => ∃ k : Nat, k ≤ xs.length ∧ i = .int .i64 k ∧ ∀ j (hj : j < xs.length), j < k → xs[j] < n) (fun i => xs.length - (intOf i).toNat)
  case atStart => exact ⟨0, Nat.zero_le _, rfl, fun j hj h => by omega⟩
  case round =>
    obtain ⟨k, hk, rfl, hlow⟩ := hrel
    have Hlow := Lib.hid hlow
    clear hlow
    by_cases hlt : k < xs.length
    · obtain ⟨b, o, rfl, hcell⟩ := hat.num hlt
      by_cases h1 : xs[k] < n
      · go_wp2
        go_round
        case rel =>
          refine ⟨k + 1, by omega, by go_num, fun j hj h => ?_⟩
          by_cases e : j = k
          · subst e; exact h1
          · exact Hlow.out j hj (by omega)
        case measure => simp [intOf]; omega
      · by_cases h2 : xs[k] = n
        · have h2' : (xs[k] == n) = true := by simpa using h2
          have H := Lib.hid (intoL_eq hlt Hlow.out h1 h2)
          clear h2
          go_wp2
          go_ret
          exact ⟨_, rfl, by rw [H.out]; exact hx0.out, Below.refl _ _⟩
        · have h2' : (xs[k] == n) = false := by simpa using h2
          have H := Lib.hid (intoL_new hk Hlow.out (fun _ => h1) (fun _ => h2))
          clear h2
          have hsl : Sl w 2 (.slice (some ⟨b, o, none⟩) k c) k ((xs.take k).map (Value.int .i64)) :=
            ⟨_, _, rfl, (fun e => by cases e), by omega, by omega, by rw [List.map_take]; exact hat.take k⟩
          have hkc : k < c := by omega
          have hd : Sl w 2 (.slice (some ⟨b, o + k, none⟩) (xs.length - k) (c - k)) (xs.length - k) ((xs.drop k).map (Value.int .i64)) :=
            ⟨_, _, rfl, (fun e => by cases e), by omega, by omega, by rw [List.map_drop]; exact hat.drop k⟩
          go_wp2_with (first
            | (go_at_call 200; refine (l1Copy_any _ k _ (oneCell_ints _ _) (by simp; omega) _ hsl).mono ?_; rintro e w1 ⟨u1, rfl, hown1, hb1⟩)
            | (at_builtin; refine wpList_app1 ty_i64 rfl rfl rfl hown1 rfl rfl (by omega) hb1.size ?_; intro v2 w2 hown2 hg2 _; have hb2 := below_grown hb1 hown1 hg2 (Nat.le_refl _) hb1.size; have hd2 : Sl w2 2 (.slice (some ⟨b, o + k, none⟩) (xs.length - k) (c - k)) (xs.length - k) ((xs.drop k).map (Value.int .i64)) := hd.below hb2)
            | (at_builtin; refine wpList_app ty_i64 rfl rfl rfl hown2 rfl hd2 (by simp) (oneCell_ints _ _) (by omega) hb2.size ?_; intro v3 w3 hown3 hg3 _))
          go_ret
          refine ⟨_, rfl, ?_, below_grown hb2 hown2 hg3 (Nat.le_refl _) hb2.size⟩
          have e : (xs.take k).map (Value.int .i64) ++ [Value.int .i64 n] ++ (xs.drop k).map (Value.int .i64) = (intoL xs n).map (Value.int .i64) := by rw [H.out]; simp
          rw [e] at hown3
          have hlen : k + 1 + (xs.length - k) = (intoL xs n).length := by rw [H.out]; simp; omega
          exact Nums.of_owns hown3 hlen (by omega)
    · obtain rfl : k = xs.length := by omega
      have H := Lib.hid (intoL_new hk Hlow.out (fun h => absurd h hlt) (fun h => absurd h hlt))
      have hsl : Sl w 2 (.slice p xs.length c) xs.length (xs.map (Value.int .i64)) := hx0.out
      have hfin : ∀ (w2 : World) (u : Value), w2.ownsRow w.heap.size 2 1 u (xs.length + 1 + 0) (xs.map (Value.int .i64) ++ [Value.int .i64 n] ++ []) → Nums w2 2 .i64 u (intoL xs n) := by
        intro w2 u ho
        have e : xs.map (Value.int .i64) ++ [Value.int .i64 n] ++ [] = (intoL xs n).map (Value.int .i64) := by rw [H.out]; simp
        rw [e] at ho
        exact Nums.of_owns ho (by rw [H.out]; simp) (by omega)
      rcases p with _ | a
      · obtain ⟨h0, rfl⟩ := hp rfl
        have h0' : xs = [] := List.eq_nil_of_length_eq_zero h0
        subst h0'
        go_wp2_with (first
          | (go_at_call 200; refine (l1Copy_any _ 0 _ (oneCell_ints _ _) rfl _ hsl).mono ?_; rintro e w1 ⟨u1, rfl, hown1, hb1⟩)
          | (at_builtin; refine wpList_app1 ty_i64 rfl rfl rfl hown1 rfl rfl (by omega) hb1.size ?_; intro v2 w2 hown2 hg2 _; have hb2 := below_grown hb1 hown1 hg2 (Nat.le_refl _) hb1.size)
          | (at_builtin; refine wpList_app ty_i64 rfl rfl rfl hown2 rfl (Sl.nothing _ _ _ _ (fun _ => rfl)) rfl (fun x hx => by cases hx) (by omega) hb2.size ?_; intro v3 w3 hown3 hg3 _))
        go_ret
        exact ⟨_, rfl, hfin _ _ hown3, below_grown hb2 hown2 hg3 (Nat.le_refl _) hb2.size⟩
      · by_cases hcl : c = xs.length
        · subst hcl
          go_wp2_with (first
            | (go_at_call 200; refine (l1Copy_any _ xs.length _ (oneCell_ints _ _) (by simp) _ hsl).mono ?_; rintro e w1 ⟨u1, rfl, hown1, hb1⟩)
            | (at_builtin; refine wpList_app1 ty_i64 rfl rfl rfl hown1 rfl rfl (by omega) hb1.size ?_; intro v2 w2 hown2 hg2 _; have hb2 := below_grown hb1 hown1 hg2 (Nat.le_refl _) hb1.size)
            | (at_builtin; refine wpList_app ty_i64 rfl rfl rfl hown2 rfl (Sl.nothing _ _ _ _ (fun e => by cases e)) rfl (fun x hx => by cases hx) (by omega) hb2.size ?_; intro v3 w3 hown3 hg3 _))
          go_ret
          exact ⟨_, rfl, hfin _ _ hown3, below_grown hb2 hown2 hg3 (Nat.le_refl _) hb2.size⟩
        · have hcl' : xs.length < c := by omega
          go_wp2_with (first
            | (go_at_call 200; refine (l1Copy_any _ xs.length _ (oneCell_ints _ _) (by simp) _ hsl).mono ?_; rintro e w1 ⟨u1, rfl, hown1, hb1⟩)
            | (at_builtin; refine wpList_app1 ty_i64 rfl rfl rfl hown1 rfl rfl (by omega) hb1.size ?_; intro v2 w2 hown2 hg2 _; have hb2 := below_grown hb1 hown1 hg2 (Nat.le_refl _) hb1.size)
            | (at_builtin; refine wpList_app ty_i64 rfl rfl rfl hown2 rfl (Sl.nothing _ _ _ _ (fun e => by cases e)) rfl (fun x hx => by cases hx) (by omega) hb2.size ?_; intro v3 w3 hown3 hg3 _))
          go_ret
          exact ⟨_, rfl, hfin _ _ hown3, below_grown hb2 hown2 hg3 (Nat.le_refl _) hb2.size⟩

end Go.Proofs.YtkppbmfliejnmaaDoor

/- Walks: the reference's fold of a vertex. -/
namespace Go.Proofs.YtkppbmfliejnmaaDoor
open Go.RowKit

def fdVal (f : Fd) : Value := .agg #[.int .i64 f.V, .int .i64 f.A, .int .i64 f.B]

theorem Rws.of_owned {w : World} {base EO EI : Nat} {v : Value} {g : List (List Int)} (vals : List Value) (hl : vals.length = g.length) (ho : w.ownsRow base EO 1 v g.length vals) (hn : g.length ≤ 1000000000)
    (hr : ∀ j, j < g.length → Nums w EI .i64 (vals.getD j undef) (row g j)) : Rws w EO EI v g := ⟨vals, hl, Sl.of_owns ho hn, hr⟩

theorem getD_append_left {α : Type} (l m : List α) (j : Nat) (d : α) (h : j < l.length) : (l ++ m).getD j d = l.getD j d := by simp [List.getElem?_append_left h]
theorem getD_append_last {α : Type} (l : List α) (x d : α) : (l ++ [x]).getD l.length d = x := by simp

theorem cell_new3 (w : World) (a b c : Value) (T : TypeId) : (w.alloc (.cells #[a, b, c] T)).cell? ⟨w.heap.size, 0, none⟩ = some a ∧ (w.alloc (.cells #[a, b, c] T)).cell? ⟨w.heap.size, 1, none⟩ = some b ∧ (w.alloc (.cells #[a, b, c] T)).cell? ⟨w.heap.size, 2, none⟩ = some c := by
  have := heap_alloc_new w (.cells #[a, b, c] T)
  refine ⟨?_, ?_, ?_⟩ <;> (unfold World.cell?; rw [this]; rfl)


end Go.Proofs.YtkppbmfliejnmaaDoor

/- Walks: graphs that the reference makes. -/
namespace Go.Proofs.YtkppbmfliejnmaaDoor
open Go.RowKit

/-- v is a graph whose outer row is the callee's own; its rows are read alone. -/
def SG (w : World) (base : Nat) (v : Value) (g : List (List Int)) : Prop :=
  ∃ u vals, v = .agg #[u] ∧ vals.length = g.length ∧ w.ownsRow base 33 1 u g.length vals ∧ ∀ j, j < g.length → Nums w 2 .i64 (vals.getD j undef) (row g j)
theorem SG.below {w w' : World} {base : Nat} {v : Value} {g : List (List Int)} (h : SG w base v g) (hb : Below w.heap.size w w') : SG w' base v g := by
  obtain ⟨u, vals, h1, h2, h3, h4⟩ := h
  exact ⟨u, vals, h1, h2, ownsRow_below h3 hb, fun j hj => (h4 j hj).below hb⟩
theorem SG.gr {w : World} {base : Nat} {v : Value} {g : List (List Int)} (h : SG w base v g) (hn : g.length ≤ 1000000000) : Gr w v g := by
  obtain ⟨u, vals, rfl, h2, h3, h4⟩ := h
  exact ⟨u, rfl, Rws.of_owned vals h2 h3 hn h4⟩
theorem SG.shape {w : World} {base : Nat} {v : Value} {g : List (List Int)} (h : SG w base v g) : ∃ p c, v = .agg #[.slice p g.length c] := by
  obtain ⟨u, vals, rfl, h2, h3, h4⟩ := h
  rcases h3.2 with ⟨rfl, h0⟩ | ⟨b, c, _, rfl, _⟩
  · exact ⟨none, 0, by rw [h0]⟩
  · exact ⟨_, _, rfl⟩

/-- Two boxes of a graph: the result's, and the one that grows. -/
theorem two_boxes (w : World) : ∃ W, W = (w.alloc (.cells #[.slice none 0 0] 29)).alloc (.cells #[.slice none 0 0] 29) ∧ Below w.heap.size w W ∧ W.heap.size = w.heap.size + 2 ∧
    Box W w.heap.size 29 (.slice none 0 0) ∧ Box W (w.heap.size + 1) 29 (.slice none 0 0) := by
  refine ⟨_, rfl, below_alloc2 _ _ _, by rw [size_alloc, size_alloc], (Box.new w _ _).alloc _, ?_⟩
  have := Box.new (w.alloc (.cells #[.slice none 0 0] 29)) (.slice none 0 0) 29
  rw [size_alloc] at this
  exact this

/-- What a round leaves that puts a row behind the others. -/
theorem box_step {w wr wc w7 : World} {k b7 c8 : Nat} {ov x rv : Value} {vals : List Value}
    (hbel : Below w.heap.size w wr) (hsz : w.heap.size + 2 ≤ wr.heap.size) (hbc : Below wr.heap.size wr wc)
    (hb2 : Box wr w.heap.size 29 x) (hb3 : Box wr (w.heap.size + 1) 29 ov) (hown : wr.ownsRow (w.heap.size + 2) 33 1 ov k vals)
    (hown7 : w7.ownsRow (w.heap.size + 2) 33 1 (.slice (some ⟨b7, 0, none⟩) (k + 1) c8) (k + 1) (vals ++ [rv])) (hg7 : wc.grownBy w7 ov.ownBlock) :
    ∃ W, W = w7.setCell ⟨w.heap.size + 1, 0, none⟩ (.slice (some ⟨b7, 0, none⟩) (k + 1) c8) ∧
      Below w.heap.size w W ∧ w.heap.size + 2 ≤ W.heap.size ∧ Box W w.heap.size 29 x ∧ Box W (w.heap.size + 1) 29 (.slice (some ⟨b7, 0, none⟩) (k + 1) c8) ∧ W.ownsRow (w.heap.size + 2) 33 1 (.slice (some ⟨b7, 0, none⟩) (k + 1) c8) (k + 1) (vals ++ [rv]) ∧
      (∀ base size n v (xs : List Value), wc.ownsRow base 2 size v n xs → W.ownsRow base 2 size v n xs) := by
  have hownc := ownsRow_below hown hbc
  have hszc := hbc.size
  have hsz7 := hg7.size
  have hb7 : Below (w.heap.size + 2) wc w7 := below_grown (Below.refl _ _) hownc hg7 (Nat.le_refl _) (by omega)
  have hb37 : Box w7 (w.heap.size + 1) 29 ov := (hb3.keep hbc).below hb7 (by omega)
  have hb9 : Below (w.heap.size + 1) w7 (w7.setCell ⟨w.heap.size + 1, 0, none⟩ (.slice (some ⟨b7, 0, none⟩) (k + 1) c8)) := (Below.refl _ _).setCell (by show w.heap.size + 1 ≤ w.heap.size + 1; omega) _
  have hall : Below (w.heap.size + 1) wr (w7.setCell ⟨w.heap.size + 1, 0, none⟩ (.slice (some ⟨b7, 0, none⟩) (k + 1) c8)) := ((hbc.mono (by omega)).trans (hb7.mono (by omega))).trans hb9
  refine ⟨_, rfl, hbel.trans (hall.mono (by omega)), by have := hall.size; omega, hb2.below hall (by omega), hb37.set _, ownsRow_setBox hown7 hb37 (by decide) _, fun base size n v xs h => ?_⟩
  exact ownsRow_setBox (ownsRow_other h hownc hg7 (by decide)) hb37 (by decide) _

set_option maxRecDepth 100000 in
set_option maxHeartbeats 2000000 in
theorem l1Empty_any (z : Int) (n : Nat) (hz : z = n) (hn : n ≤ 1000) (w : World) :
    Calls Tryd.prog 157 #[.int .i64 z] w fun e w' => ∃ u, e = .returned u ∧ SG w' w.heap.size u (List.replicate n []) ∧ Below w.heap.size w w' := by
  subst hz
  have START := Lib.hid (two_boxes w)
  go_enter Tryd.func157, Tryd.ntmps157
  go_wp2
  go_loopw [4] (fun i wr => ∃ (k : Nat) (ov : Value) (vals : List Value), k ≤ n ∧ i = .int .i64 k ∧ Below w.heap.size w wr ∧ w.heap.size + 2 ≤ wr.heap.size ∧
      Box wr w.heap.size 29 (.slice none 0 0) ∧ Box wr (w.heap.size + 1) 29 ov ∧ wr.ownsRow (w.heap.size + 2) 33 1 ov k vals ∧ vals.length = k ∧ ∀ j, j < k → ∃ a, vals.getD j undef = .slice (some a) 0 0)
    (fun i _ => n - (intOf i).toNat)
  case atStart =>
    obtain ⟨W, rfl, h1, h2, h3, h4⟩ := START.out
    exact ⟨0, _, [], Nat.zero_le _, rfl, h1, by omega, h3, h4, World.ownsRow_nil _ _ _ _, rfl, fun j hj => by omega⟩
  case round =>
    obtain ⟨k, ov, vals, hk, rfl, hbel, hsz, hb2, hb3, hown, hvl, hrows⟩ := hrel
    have Hvl := Lib.hid hvl
    have Hrows := Lib.hid hrows
    have Hb2 := Lib.hid hb2
    have Hb3 := Lib.hid hb3
    have Hown := Lib.hid hown
    clear hvl hrows hb3 hb2 hown
    by_cases hlt : k < n
    · have hba := Lib.hid (below_alloc wr (.cells #[] 2))
      have hownc := ownsRow_below Hown.out hba.out
      obtain ⟨c3, f3, _, _⟩ := Hb3.out
      have hob := fun o => (below_alloc2 wr (.cells #[] 2) o).at' c3
      go_wp2_with (at_builtin; refine wpList_app1s ty_rows rfl rfl rfl hownc (by rw [size_alloc]; rfl) rfl (by omega) (by rw [size_alloc]; omega) ?_; intro b7 c8 w7 hown7 hg7 _; have hb7 := below_grown (Below.refl (w.heap.size + 2) (wr.alloc (.cells #[] 2))) hownc hg7 (Nat.le_refl _) (by rw [size_alloc]; omega); have hob7 := hb7.at (by omega) ((below_alloc wr (.cells #[] 2)).at' c3); have hof7 := (hb7.frozen (p := ⟨w.heap.size + 1, 0, none⟩) (by show w.heap.size + 1 < _; omega)).trans (((below_alloc wr (.cells #[] 2)).frozen (p := ⟨w.heap.size + 1, 0, none⟩) (by show w.heap.size + 1 < _; omega)).trans f3))
      go_roundw
      case rel =>
        obtain ⟨W, rfl, r1, r2, r3, r4, r5, _⟩ := box_step hbel hsz hba.out Hb2.out Hb3.out Hown.out hown7 hg7
        refine ⟨k + 1, _, _, by omega, by go_num, r1, r2, r3, r4, r5, by simp [Hvl.out], fun j hj => ?_⟩
        by_cases e : j = k
        · subst e
          exact ⟨_, by rw [← Hvl.out]; exact getD_append_last _ _ _⟩
        · rw [getD_append_left _ _ _ _ (by have := Hvl.out; omega)]
          exact Hrows.out j (by omega)
      case measure => simp [intOf]; omega
    · obtain rfl : k = n := by omega
      obtain ⟨k2c, k2f, _⟩ := Hb2.out
      obtain ⟨k3c, k3f, _⟩ := Hb3.out
      obtain ⟨p9, c9, rfl⟩ : ∃ p c, ov = .slice p k c := by
        rcases Hown.out.2 with ⟨h1, h2⟩ | ⟨g1, cap, cur, h1, _⟩
        · exact ⟨none, 0, by rw [h1, h2]⟩
        · exact ⟨_, _, h1⟩
      go_wp2
      refine bodyPost_ret (v := .agg #[.slice p9 k c9]) (by simp [results, Tryd.results157, go_sem, k2c]) rfl ⟨_, rfl, ⟨_, vals, rfl, by simpa using Hvl.out, ?_, fun j hj => ?_⟩, ?_⟩
      · rw [List.length_replicate]; exact ownsRow_base (ownsRow_setBox Hown.out Hb2.out (by decide) (.slice p9 k c9)) (by omega)
      · rw [List.length_replicate] at hj
        obtain ⟨a, ha⟩ := Hrows.out j hj
        rw [ha, show row (List.replicate k ([] : List Int)) j = [] by simp [row, hj]]
        exact Sl.nothing _ _ _ _ (by simp)
      · exact hbel.setCell (by show w.heap.size ≤ w.heap.size; omega) _

set_option maxRecDepth 100000 in
theorem l1Edge_any (v : Value) (g : List (List Int)) (y z : Int) (u k : Nat) (hy : y = u) (hz : z = k) (hu : u < g.length) (w : World) (hg : Gr w v g) :
    Calls Tryd.prog 109 #[v, .int .i64 y, .int .i64 z] w fun e w' => e = .returned (.bool (dec ((k : Int) ∈ row g u))) ∧ Below w.heap.size w w' := by
  subst hy; subst hz
  obtain ⟨u0, rfl, hr⟩ := hg
  obtain ⟨p, c, rfl, _, _, hn⟩ := hr.shape
  have hb := below_alloc w (.cells #[.slice p g.length c] 29)
  obtain ⟨b, o, rp, rc, rfl, hcell, hnums⟩ := (hr.below hb).get hu
  change World.cell? _ _ = some (.slice rp (row g u).length rc) at hcell
  change Nums _ _ _ (.slice rp (row g u).length rc) (row g u) at hnums
  have Hb := Lib.hid hb
  clear hb hr
  go_enter Tryd.func109, Tryd.ntmps109
  go_wp2_with (go_at_call 158; refine (l1Has_any _ _ k _ hnums).mono ?_; rintro e w2 ⟨rfl, rfl⟩)
  go_ret
  exact ⟨rfl, Hb.out⟩

end Go.Proofs.YtkppbmfliejnmaaDoor

/- Walks: the program's graph of some vertices; a graph made of masks. -/
namespace Go.Proofs.YtkppbmfliejnmaaDoor
open Go.RowKit

theorem step_app1s {P : Program} {T E : TypeId} {z : Value} {bytes : Nat} (S : SlTy P T E z 1 bytes) {w : World} {ops : Array Oper} {o : Oper} {a : Act} {K : Act → World → Prop} {Q : Exit → Act → World → Prop} {F : Prop}
    (hgd : o.guard = none) {s x : Operand} (ho : o.op = .call { callee := .builtin .append, args := #[s, x], argTypes := #[T, T] })
    {base : Nat} {v : Value} {n : Nat} {xs : List Value} {el : Value} (hs : a.eval s = v) (hown : w.ownsRow base E 1 v n xs)
    (hx : a.eval x = .slice (some ⟨w.heap.size, 0, none⟩) 1 1) (h1 : el.oneCell' = true)
    (hnm : n < 1000000000) (hbase : base ≤ w.heap.size)
    (h : ∀ b c w', w'.ownsRow base E 1 (.slice (some ⟨b, 0, none⟩) (n + 1) c) (n + 1) (xs ++ [el]) → w.grownBy w' v.ownBlock → K (a.put o.dst (.slice (some ⟨b, 0, none⟩) (n + 1) c)) w') :
    if Region.wanted o (yielded ops a.tmps) = true then Oper.wp P o a (w.alloc (.cells #[el] E)) K Q else F := by
  have hw : Region.wanted o (yielded ops a.tmps) = true := by simp [Region.wanted, hgd]
  rw [if_pos hw]
  have hal : (w.alloc (.cells #[el] E)).heap.size = w.heap.size + 1 := by show (w.heap.push _).size = _; simp
  have hu : Sl (w.alloc (.cells #[el] E)) E (.slice (some ⟨w.heap.size, 0, none⟩) 1 1) 1 [el] := by
    refine ⟨_, 1, rfl, (fun e => by cases e), Nat.le_refl _, by omega, Or.inr ⟨w.heap.size, 0, #[el], (0, 0), rfl, heap_alloc_new w _, ?_⟩⟩
    intro j u hu
    match j, hu with
    | 0, hu => simpa using hu
    | j + 1, hu => simp at hu
  obtain ⟨v', w', hr, h2, h3, h4⟩ := run_app S (w.alloc (.cells #[el] E)) o.type base v n xs (hown.alloc _) _ 1 [el] hu (by simp) (by simpa using h1) (by omega) (by omega)
  unfold Oper.wp execOp
  simp only [ho, resolve, invoke, builtin, Sem.run_bind, Sem.run_pure, Result.andThen_ok, List.map_toArray, List.map_cons, List.map_nil, hs, hx, hr]
  rcases id h2.2 with ⟨_, h0⟩ | ⟨g, cap, cur, rfl, _⟩
  · omega
  · exact h g cap w' h2 ⟨h3.os, h3.tape, h3.output, by have := h3.size; omega, fun k hk hne => (h3.block k (by omega) hne).trans (Below.heap_alloc w _ k hk)⟩

set_option maxRecDepth 100000 in
set_option maxHeartbeats 4000000 in
theorem induced_any (x lv : Value) (a l : List Nat) (h16 : a.length ≤ 16) (ha : ∀ s ∈ a, s < 65536) (hl : ∀ v ∈ l, v < a.length) (hm : l.length ≤ 16) (w : World)
    (hx : Sl w 70 x a.length (a.map u32v)) (hn : Nums w 3 .i64 lv (natInts l)) :
    Calls Tryd.prog 116 #[x, lv] w fun e w' => ∃ u, e = .returned u ∧
      w'.ownsRow w.heap.size 70 1 u l.length ((indN l.length (bitE a l)).map u32v) ∧ Below w.heap.size w w' := by
  obtain ⟨p, c, rfl, _⟩ := id hx
  obtain ⟨lp, lc, rfl, _⟩ := id hn.shape
  have hll := natInts_length l
  rw [hll] at hn ⊢
  have HX := Lib.hid hx
  have HN := Lib.hid hn
  clear hx hn
  go_enter Tryd.func116, Tryd.ntmps116
  go_wp2_with (at_make; refine wpList_mk ty_nets rfl rfl rfl l.length rfl rfl rfl rfl (by omega) ?_; intro w1 hown1 hg1)
  have hb1 := grown_below hg1
  have START : Hid (w1.ownsRow w.heap.size 70 1 (.slice (some ⟨w.heap.size, 0, none⟩) l.length l.length) l.length ((indN l.length (rowsE (bitE a l) 0 0)).map u32v) ∧ Below w.heap.size w w1) := Lib.hid
    ⟨by rw [rows_start, List.map_replicate]; exact hown1, hb1⟩
  clear hg1 hown1 hb1
  go_loopw [15] (fun i wr => ∃ k : Nat, k ≤ l.length ∧ i = .int .i64 k ∧ wr.ownsRow w.heap.size 70 1 (.slice (some ⟨w.heap.size, 0, none⟩) l.length l.length) l.length ((indN l.length (rowsE (bitE a l) k 0)).map u32v) ∧ Below w.heap.size w wr)
    (fun i _ => l.length - (intOf i).toNat)
  case atStart => exact ⟨0, Nat.zero_le _, rfl, START.out⟩
  case round =>
    obtain ⟨i, hi, rfl, hown, hbel⟩ := hrel
    have HI := Lib.hid hown
    clear hown
    by_cases hlt : i < l.length
    · have hin := hl _ (List.getElem_mem hlt)
      obtain ⟨b, o, rfl, hci⟩ := (HN.out.below hbel).get (k := i) (by rw [hll]; exact hlt)
      rw [show (natInts l)[i]'(by rw [hll]; exact hlt) = ((l[i] : Nat) : Int) by simp [natInts]] at hci
      go_wp2_with fail
      clear hci
      go_loopw [22] (fun i' wr => ∃ k : Nat, k ≤ l.length ∧ i' = .int .i64 k ∧ wr.ownsRow w.heap.size 70 1 (.slice (some ⟨w.heap.size, 0, none⟩) l.length l.length) l.length ((indN l.length (rowsE (bitE a l) i k)).map u32v) ∧ Below w.heap.size w wr)
        (fun i' _ => l.length - (intOf i').toNat)
      case atStart => exact ⟨0, Nat.zero_le _, rfl, HI.out, hbel⟩
      case round =>
        clear HI hbel
        obtain ⟨k, hk, rfl, hown, hbel⟩ := hrel
        by_cases hlt2 : k < l.length
        · have hkn := hl _ (List.getElem_mem hlt2)
          obtain ⟨_, _, hbo, hck⟩ := (HN.out.below hbel).get (k := k) (by rw [hll]; exact hlt2)
          cases hbo
          rw [show (natInts l)[k]'(by rw [hll]; exact hlt2) = ((l[k] : Nat) : Int) by simp [natInts]] at hck
          obtain ⟨ab, ao, rfl, hca⟩ := nets_cell (HX.out.below hbel) hin
          have hs16 := ha _ (List.getElem_mem hin)
          have hbit : Hid (a[l[i]].testBit l[k] = bitE a l i k) := Lib.hid (by unfold bitE; simp [hlt, hlt2, hin])
          have e0 : (0 : Int) ≤ (k : Int) := by omega
          have hrl := hown.cellAt i (by omega)
          have hfz := hown.frozenAt i
          have hil : i < (indN l.length (rowsE (bitE a l) i k)).length := by rw [indN_length]; exact hlt
          rw [List.getElem?_map, List.getElem?_eq_getElem hil] at hrl
          change wr.cell? _ = some (.int .u32 (((indN l.length (rowsE (bitE a l) i k))[i] : Nat) : Int)) at hrl
          have hr16 := indN_lt16 (E := rowsE (bitE a l) i k) hm _ (List.getElem_mem hil)
          obtain ⟨ho2, hg2⟩ := hown.stored i (.int .u32 (((indN l.length (rowsE (bitE a l) i k))[i] ||| 2 ^ k : Nat) : Int))
          have hb2 := below_grown hbel hown hg2 (Nat.le_refl _) hbel.size
          have hyes : Hid (bitE a l i k = true → ((indN l.length (rowsE (bitE a l) i k)).map u32v).set i (.int .u32 (((indN l.length (rowsE (bitE a l) i k))[i] ||| 2 ^ k : Nat) : Int)) = (indN l.length (rowsE (bitE a l) i (k + 1))).map u32v) := Lib.hid (fun he => by
            rw [← rows_yes hlt hlt2 he, List.map_set]
            have : (indN l.length (rowsE (bitE a l) i k)).getD i 0 = (indN l.length (rowsE (bitE a l) i k))[i] := by simp [hil]
            rw [this]; rfl)
          have Hown := Lib.hid hown
          have Ho2 := Lib.hid ho2
          have Hb2 := Lib.hid hb2
          have Hbel := Lib.hid hbel
          have hor := or_u32 (indN l.length (rowsE (bitE a l) i k))[i] (2 ^ k) hr16 (pow_lt16 k (by omega))
          generalize (indN l.length (rowsE (bitE a l) i k))[i] = m0 at hrl hr16 hyes Ho2 Hb2 hor
          have c1 := Lib.hid (fun w => one_any (k : Int) k rfl (by omega) w)
          clear hown ho2 hb2 hg2 hbel hil
          cases hE' : bitE a l i k
          · rw [hE'] at hbit
            have hb' := hbit.out
            go_wp2_with (go_at_call 175; refine (has_any _ _ a[l[i]] l[k] rfl rfl (by omega) (by omega) _).mono ?_; rintro e w2 ⟨rfl, rfl⟩)
            go_roundw
            case rel => exact ⟨k + 1, by omega, by go_num, by rw [← rows_no hE']; exact Hown.out, Hbel.out⟩
            case measure => simp [intOf]; omega
          · rw [hE'] at hbit
            have hb' := hbit.out
            generalize 2 ^ k = pk at *
            go_upto_region 9 with (go_at_call 175; refine (has_any _ _ a[l[i]] l[k] rfl rfl (by omega) (by omega) _).mono ?_; rintro e w2 ⟨rfl, rfl⟩)
            go_region_with (go_at_call 156; refine (c1.out _).mono ?_; rintro e w2 ⟨rfl, rfl⟩)
            all_goals go_wp2
            all_goals go_roundw
            all_goals first
              | exact ⟨k + 1, by omega, by go_num, by rw [← hyes.out hE']; exact Ho2.out, ⟨Hb2.out.os, Hb2.out.tape, Hb2.out.output, Hb2.out.size, Hb2.out.block⟩⟩
              | (simp [intOf]; omega)
        · obtain rfl : k = l.length := by omega
          go_wp2
          go_roundw
          case rel => exact ⟨i + 1, by omega, by go_num, by rw [← rows_row]; exact hown, hbel⟩
          case measure => simp [intOf]; omega
    · obtain rfl : i = l.length := by omega
      go_wp2
      go_ret
      exact ⟨_, rfl, by rw [← rows_end]; exact HI.out, hbel⟩

end Go.Proofs.YtkppbmfliejnmaaDoor
