/- Plain: edges cut; bridges; the parts without them. -/
import Derived.Test.YtiooindlpinjhaaDoorBaQ15
import Derived.Test.YtiooindlpinjhaaDoorBaQ9
import Derived.Test.YtiooindlpinjhaaDoorBaQ7
import Derived.Test.YtiooindlpinjhaaDoorBaQ2
import Derived.Test.YtiooindlpinjhaaDoorBaQ3
import Derived.Deep.RegionHeld3
import Derived.Deep.DeepCutAuto
namespace Go.Proofs.YtiooindlpinjhaaDoor

def cutE (E : Nat → Nat → Bool) (p q : Nat) : Nat → Nat → Bool := fun r j => E r j && !((r == p && j == q) || (r == q && j == p))
theorem cutE_sym {E : Nat → Nat → Bool} (h : ∀ r j, E r j = true → E j r = true) (p q : Nat) (r j : Nat) (he : cutE E p q r j = true) : cutE E p q j r = true := by
  simp only [cutE, Bool.and_eq_true, Bool.not_eq_true', Bool.or_eq_false_iff, Bool.and_eq_false_iff, beq_eq_false_iff_ne] at he ⊢
  obtain ⟨h1, h2, h3⟩ := he
  refine ⟨h _ _ h1, ?_, ?_⟩
  · rcases h3 with h3 | h3
    · exact .inr h3
    · exact .inl h3
  · rcases h2 with h2 | h2
    · exact .inr h2
    · exact .inl h2
theorem cutE_irr {E : Nat → Nat → Bool} (h : ∀ r, E r r = false) (p q r : Nat) : cutE E p q r r = false := by simp [cutE, h r]

/-- Two vertices are made no neighbours. -/
def partN (a : List Nat) (u v : Nat) : List Nat := let b := a.set u (sub (a.getD u 0) (2 ^ v)); b.set v (sub (b.getD v 0) (2 ^ u))
theorem partN_length (a : List Nat) (u v : Nat) : (partN a u v).length = a.length := by simp [partN]
theorem partN_indN {n : Nat} (hn : n ≤ 16) {E : Nat → Nat → Bool} {u v : Nat} (hu : u < n) (hv : v < n) (huv : u ≠ v) : partN (indN n E) u v = indN n (cutE E u v) := by
  have hl := indN_length n E
  have h16 := indN_lt16 (E := E) hn
  refine natList_ext (by rw [partN_length, hl, indN_length]) fun r hr => ?_
  rw [partN_length, hl] at hr
  have e : (partN (indN n E) u v).getD r 0 = if r = v then sub ((indN n E).getD v 0) (2 ^ u) else if r = u then sub ((indN n E).getD u 0) (2 ^ v) else (indN n E).getD r 0 := by
    unfold partN
    rw [getD_set _ _ _ _ (by rw [List.length_set, hl]; exact hv)]
    by_cases e : r = v
    · subst e
      rw [if_pos rfl, if_pos rfl, getD_set _ _ _ _ (by rw [hl]; exact hu), if_neg (fun q => huv q.symm)]
    · rw [if_neg e, if_neg e, getD_set _ _ _ _ (by rw [hl]; exact hu)]
  rw [e]
  refine Nat.eq_of_testBit_eq fun j => ?_
  rw [Bool.eq_iff_iff, indN_bit hr]
  by_cases e1 : r = v
  · subst e1
    rw [if_pos rfl, testBit_sub1 (lt16_getD h16 _) (by omega), indN_bit hr]
    simp only [cutE, Bool.and_eq_true, decide_eq_true_eq, Bool.not_eq_true', Bool.or_eq_false_iff, Bool.and_eq_false_iff, beq_eq_false_iff_ne, ne_eq]
    constructor
    · rintro ⟨⟨h1, h2⟩, h3⟩; exact ⟨h1, h2, .inl (fun q => huv q.symm), .inr h3⟩
    · rintro ⟨h1, h2, _, h3⟩
      exact ⟨⟨h1, h2⟩, fun q => by rcases h3 with h3 | h3; exact h3 trivial; exact h3 q⟩
  · rw [if_neg e1]
    by_cases e2 : r = u
    · subst e2
      rw [if_pos rfl, testBit_sub1 (lt16_getD h16 _) (by omega), indN_bit hr]
      simp only [cutE, Bool.and_eq_true, decide_eq_true_eq, Bool.not_eq_true', Bool.or_eq_false_iff, Bool.and_eq_false_iff, beq_eq_false_iff_ne, ne_eq]
      constructor
      · rintro ⟨⟨h1, h2⟩, h3⟩; exact ⟨h1, h2, .inr h3, .inl e1⟩
      · rintro ⟨h1, h2, h3, _⟩
        exact ⟨⟨h1, h2⟩, fun q => by rcases h3 with h3 | h3; exact h3 trivial; exact h3 q⟩
    · rw [if_neg e2, indN_bit hr]
      have a1 : (r == u) = false := by simpa using e2
      have a2 : (r == v) = false := by simpa using e1
      simp [cutE, a1, a2]
theorem joinL_cut {n : Nat} {E : Nat → Nat → Bool} {u v : Nat} (hu : u < n) (hv : v < n) (huv : u ≠ v) (h1 : E u v = true) (h2 : E v u = true) : joinL (indN n (cutE E u v)) u v = indN n E := by
  refine natList_ext (by rw [joinL_length, indN_length, indN_length]) fun r hr => ?_
  rw [joinL_length, indN_length] at hr
  refine Nat.eq_of_testBit_eq fun j => ?_
  rw [Bool.eq_iff_iff, joinL_testBit (by rw [indN_length]; exact hu) (by rw [indN_length]; exact hv) huv, indN_bit hr, indN_bit hr]
  simp only [cutE, Bool.and_eq_true, decide_eq_true_eq, Bool.not_eq_true', Bool.or_eq_false_iff, Bool.and_eq_false_iff, beq_eq_false_iff_ne, ne_eq]
  constructor
  · rintro (⟨a, b, _⟩ | ⟨rfl, rfl⟩ | ⟨rfl, rfl⟩)
    · exact ⟨a, b⟩
    · exact ⟨hv, h1⟩
    · exact ⟨hu, h2⟩
  · rintro ⟨a, b⟩
    by_cases c1 : r = u ∧ j = v
    · exact .inr (.inl c1)
    · by_cases c2 : r = v ∧ j = u
      · exact .inr (.inr c2)
      · refine .inl ⟨a, b, ?_, ?_⟩
        · by_cases q : r = u
          · exact .inr fun q2 => c1 ⟨q, q2⟩
          · exact .inl q
        · by_cases q : r = v
          · exact .inr fun q2 => c2 ⟨q, q2⟩
          · exact .inl q

/-- The edges, in order. -/
def edRow (n : Nat) (E : Nat → Nat → Bool) (u : Nat) : List (Nat × Nat) := ((List.range n).filter fun v => decide (u < v) && E u v).map fun v => (u, v)
def edN (n : Nat) (E : Nat → Nat → Bool) (k : Nat) : List (Nat × Nat) := (List.range k).flatMap (edRow n E)
theorem edN_succ (n : Nat) (E : Nat → Nat → Bool) (k : Nat) : edN n E (k + 1) = edN n E k ++ edRow n E k := by simp [edN, List.range_succ, List.flatMap_append]
theorem mem_edN {n : Nat} {E : Nat → Nat → Bool} {k : Nat} (hk : k ≤ n) {e : Nat × Nat} (h : e ∈ edN n E k) : e.1 < n ∧ e.2 < n ∧ e.1 < e.2 ∧ E e.1 e.2 = true := by
  simp only [edN, edRow, List.mem_flatMap, List.mem_range, List.mem_map, List.mem_filter, Bool.and_eq_true, decide_eq_true_eq] at h
  obtain ⟨u, hu, v, ⟨hv, h1, h2⟩, rfl⟩ := h
  exact ⟨by show u < n; omega, hv, h1, h2⟩
theorem edRow_length (n : Nat) (E : Nat → Nat → Bool) (u : Nat) : (edRow n E u).length ≤ n := by
  simp only [edRow, List.length_map]
  exact Nat.le_trans (List.length_filter_le _ _) (by simp)
theorem edN_length (n : Nat) (E : Nat → Nat → Bool) : ∀ k, (edN n E k).length ≤ k * n
  | 0 => by simp [edN]
  | k + 1 => by
    rw [edN_succ, List.length_append]
    have h1 := edN_length n E k
    have h2 := edRow_length n E k
    have : (k + 1) * n = k * n + n := Nat.succ_mul k n
    omega

/-- No way between the ends of an edge without it. -/
def Brd (n : Nat) (E : Nat → Nat → Bool) (e : Nat × Nat) : Prop := ¬ Rch (cutE E e.1 e.2) (· ∈ List.range n) e.1 e.2
noncomputable def brdL (n : Nat) (E : Nat → Nat → Bool) (l : List (Nat × Nat)) : List (Nat × Nat) := l.filter fun e => dec (Brd n E e)
theorem brdL_snoc (n : Nat) (E : Nat → Nat → Bool) (l : List (Nat × Nat)) (e : Nat × Nat) : brdL n E (l ++ [e]) = if dec (Brd n E e) = true then brdL n E l ++ [e] else brdL n E l := by
  unfold brdL
  rw [List.filter_append]
  by_cases h : dec (Brd n E e) = true
  · rw [if_pos h]; simp [List.filter_cons, h]
  · rw [if_neg h]; simp [List.filter_cons, h]
theorem brdL_length (n : Nat) (E : Nat → Nat → Bool) (l : List (Nat × Nat)) : (brdL n E l).length ≤ l.length := List.length_filter_le _ _
theorem mem_brdL {n : Nat} {E : Nat → Nat → Bool} {l : List (Nat × Nat)} {e : Nat × Nat} (h : e ∈ brdL n E l) : e ∈ l := (List.mem_filter.1 h).1
def cutAll (E : Nat → Nat → Bool) (l : List (Nat × Nat)) : Nat → Nat → Bool := l.foldl (fun E e => cutE E e.1 e.2) E
theorem cutAll_snoc (E : Nat → Nat → Bool) (l : List (Nat × Nat)) (e : Nat × Nat) : cutAll E (l ++ [e]) = cutE (cutAll E l) e.1 e.2 := by simp [cutAll]
theorem cutAll_sym {E : Nat → Nat → Bool} (h : ∀ r j, E r j = true → E j r = true) (l : List (Nat × Nat)) : ∀ r j, cutAll E l r j = true → cutAll E l j r = true := by
  induction l generalizing E with
  | nil => exact h
  | cons e l ih => exact ih (cutE_sym h _ _)
theorem cutAll_irr {E : Nat → Nat → Bool} (h : ∀ r, E r r = false) (l : List (Nat × Nat)) : ∀ r, cutAll E l r r = false := by
  induction l generalizing E with
  | nil => exact h
  | cons e l ih => exact ih (cutE_irr h _ _)

/-- Pairs, as rows. -/
def prsL (l : List (Nat × Nat)) : List (List Int) := l.map fun e => [(e.1 : Int), (e.2 : Int)]
theorem prsL_length (l : List (Nat × Nat)) : (prsL l).length = l.length := by simp [prsL]
theorem prsL_snoc (l : List (Nat × Nat)) (e : Nat × Nat) : prsL (l ++ [e]) = prsL l ++ [[(e.1 : Int), (e.2 : Int)]] := by simp [prsL]

/-- What EdgeParts returns. -/
def EpS (g : List (List Int)) (gg : List (List Int)) : Prop :=
  (GOk g ∧ ∃ ps, Parts (cutAll (ofG g) (brdL g.length (ofG g) (edN g.length (ofG g) g.length))) (List.range g.length) ps ∧ gg = ps.map natInts) ∨ (¬ GOk g ∧ gg = [])
theorem epS_det {g gg hh : List (List Int)} (h : EpS g gg) (h2 : EpS g hh) : gg = hh := by
  rcases h with ⟨hg, ps, h, rfl⟩ | ⟨hg, rfl⟩ <;> rcases h2 with ⟨hg2, qs, h2, rfl⟩ | ⟨hg2, rfl⟩
  · rw [parts_det h h2]
  · exact absurd hg hg2
  · exact absurd hg2 hg
  · rfl

end Go.Proofs.YtiooindlpinjhaaDoor

/- Walks: how the program says that a vertex may be folded, and how it folds it away. -/
namespace Go.Proofs.YtiooindlpinjhaaDoor
open Go.RowKit

theorem and_near {a : List Nat} (ha : ∀ s ∈ a, s < 65536) {v left : Nat} (hv : v < a.length) (hl : left < 65536) : bits BinOp.and IntKind.u32 (a[v] : Int) (left : Int) = ((a.getD v 0 &&& left : Nat) : Int) := by
  have e : a.getD v 0 = a[v] := by simp [hv]
  rw [e]
  exact u32_and_nat _ _ (by have := ha _ (List.getElem_mem hv); omega) (by omega)

theorem nets_cell {w : World} {p : Option Addr} {n c : Nat} {a : List Nat} (h : Sl w 71 (.slice p n c) a.length (a.map u32v)) {v : Nat} (hv : v < a.length) :
    ∃ b o, p = some ⟨b, o, none⟩ ∧ w.cell? ⟨b, o + v, none⟩ = some (.int .u32 (a[v] : Int)) := by
  obtain ⟨p', c', he, _, _, _, hat⟩ := h
  simp only [Value.slice.injEq] at he
  obtain ⟨rfl, rfl, rfl⟩ := he
  obtain ⟨b, o, h1, h2⟩ := hat.cells (k := v) (by simpa using hv)
  exact ⟨b, o, h1, h2 v _ (by simp [hv, u32v])⟩


end Go.Proofs.YtiooindlpinjhaaDoor

/- Walks: the reference's list operations that make memory. -/
namespace Go.Proofs.YtiooindlpinjhaaDoor
open Go.RowKit

set_option maxRecDepth 100000 in
set_option maxHeartbeats 1000000 in
theorem l1Copy_any (v : Value) (n : Nat) (vals : List Value) (h1 : ∀ x ∈ vals, x.oneCell' = true) (hl : vals.length = n) (w : World) (hx : Sl w 2 v n vals) :
    Calls Tryd.prog 87 #[v] w fun e w' => ∃ u, e = .returned u ∧ w'.ownsRow w.heap.size 2 1 u n vals ∧ Below w.heap.size w w' := by
  have hn := hx
  obtain ⟨p, c, rfl, _, _, hn, _⟩ := hn
  have hx' := hx.below (below_alloc w (.cells #[] 2))
  have ho := ownsRow_empty w 2 1
  have hb := below_alloc w (.cells #[] 2)
  have hsz : w.heap.size ≤ (w.alloc (.cells #[] 2)).heap.size := hb.size
  have Hl := Lib.hid hl
  clear hl
  go_enter Tryd.func87, Tryd.ntmps87
  go_wp2_with (at_builtin; refine wpList_app ty_i64 rfl rfl rfl ho rfl hx' (by have := Hl.out; omega) h1 (by omega) hsz ?_; intro v' w1 hown' hg _)
  go_ret
  refine ⟨_, rfl, by simpa using hown', below_grown hb ho hg (Nat.le_refl _) hsz⟩

theorem oneCell_ints (K : IntKind) (xs : List Int) : ∀ x ∈ xs.map (Value.int K), x.oneCell' = true := by
  intro x hx
  obtain ⟨y, _, rfl⟩ := List.mem_map.1 hx
  rfl



end Go.Proofs.YtiooindlpinjhaaDoor

/- Walk: the reference's list with one more. -/
namespace Go.Proofs.YtiooindlpinjhaaDoor
open Go.RowKit

set_option maxRecDepth 100000 in
set_option maxHeartbeats 1000000 in
theorem l1Into_any (v : Value) (xs : List Int) (n : Int) (hl : xs.length ≤ 100000000) (w : World) (hx : Nums w 2 .i64 v xs) :
    Calls Tryd.prog 149 #[v, .int .i64 n] w fun e w' => ∃ u, e = .returned u ∧ Nums w' 2 .i64 u (intoL xs n) ∧ Below w.heap.size w w' := by
  have hx0 := Lib.hid hx
  obtain ⟨p, c, rfl, hp, hnc, hn, hat⟩ := hx
  go_enter Tryd.func149, Tryd.ntmps149
  go_wp2
  go_loop [5] (fun i => ∃ k : Nat, k ≤ xs.length ∧ i = .int .i64 k ∧ ∀ j (hj : j < xs.length), j < k → xs[j] < n) (fun i => xs.length - (intOf i).toNat)
  case atStart => exact ⟨0, Nat.zero_le _, rfl, fun j hj h => by omega⟩
  case round =>
    obtain ⟨k, hk, rfl, hlow⟩ := hrel
    have Hlow := Lib.hid hlow
    clear hlow
    by_cases hlt : k < xs.length
    · obtain ⟨b, o, rfl, hcell⟩ := hat.num hlt
      by_cases h1 : xs[k] < n
      · go_wp2
        go_round
        case rel =>
          refine ⟨k + 1, by omega, by go_num, fun j hj h => ?_⟩
          by_cases e : j = k
          · subst e; exact h1
          · exact Hlow.out j hj (by omega)
        case measure => simp [intOf]; omega
      · by_cases h2 : xs[k] = n
        · have h2' : (xs[k] == n) = true := by simpa using h2
          have H := Lib.hid (intoL_eq hlt Hlow.out h1 h2)
          clear h2
          go_wp2
          go_ret
          exact ⟨_, rfl, by rw [H.out]; exact hx0.out, Below.refl _ _⟩
        · have h2' : (xs[k] == n) = false := by simpa using h2
          have H := Lib.hid (intoL_new hk Hlow.out (fun _ => h1) (fun _ => h2))
          clear h2
          have hsl : Sl w 2 (.slice (some ⟨b, o, none⟩) k c) k ((xs.take k).map (Value.int .i64)) :=
            ⟨_, _, rfl, (fun e => by cases e), by omega, by omega, by rw [List.map_take]; exact hat.take k⟩
          have hkc : k < c := by omega
          have hd : Sl w 2 (.slice (some ⟨b, o + k, none⟩) (xs.length - k) (c - k)) (xs.length - k) ((xs.drop k).map (Value.int .i64)) :=
            ⟨_, _, rfl, (fun e => by cases e), by omega, by omega, by rw [List.map_drop]; exact hat.drop k⟩
          go_wp2_with (first
            | (go_at_call 87; refine (l1Copy_any _ k _ (oneCell_ints _ _) (by simp; omega) _ hsl).mono ?_; rintro e w1 ⟨u1, rfl, hown1, hb1⟩)
            | (at_builtin; refine wpList_app1 ty_i64 rfl rfl rfl hown1 rfl rfl (by omega) hb1.size ?_; intro v2 w2 hown2 hg2 _; have hb2 := below_grown hb1 hown1 hg2 (Nat.le_refl _) hb1.size; have hd2 : Sl w2 2 (.slice (some ⟨b, o + k, none⟩) (xs.length - k) (c - k)) (xs.length - k) ((xs.drop k).map (Value.int .i64)) := hd.below hb2)
            | (at_builtin; refine wpList_app ty_i64 rfl rfl rfl hown2 rfl hd2 (by simp) (oneCell_ints _ _) (by omega) hb2.size ?_; intro v3 w3 hown3 hg3 _))
          go_ret
          refine ⟨_, rfl, ?_, below_grown hb2 hown2 hg3 (Nat.le_refl _) hb2.size⟩
          have e : (xs.take k).map (Value.int .i64) ++ [Value.int .i64 n] ++ (xs.drop k).map (Value.int .i64) = (intoL xs n).map (Value.int .i64) := by rw [H.out]; simp
          rw [e] at hown3
          have hlen : k + 1 + (xs.length - k) = (intoL xs n).length := by rw [H.out]; simp; omega
          exact Nums.of_owns hown3 hlen (by omega)
    · obtain rfl : k = xs.length := by omega
      have H := Lib.hid (intoL_new hk Hlow.out (fun h => absurd h hlt) (fun h => absurd h hlt))
      have hsl : Sl w 2 (.slice p xs.length c) xs.length (xs.map (Value.int .i64)) := hx0.out
      have hfin : ∀ (w2 : World) (u : Value), w2.ownsRow w.heap.size 2 1 u (xs.length + 1 + 0) (xs.map (Value.int .i64) ++ [Value.int .i64 n] ++ []) → Nums w2 2 .i64 u (intoL xs n) := by
        intro w2 u ho
        have e : xs.map (Value.int .i64) ++ [Value.int .i64 n] ++ [] = (intoL xs n).map (Value.int .i64) := by rw [H.out]; simp
        rw [e] at ho
        exact Nums.of_owns ho (by rw [H.out]; simp) (by omega)
      rcases p with _ | a
      · obtain ⟨h0, rfl⟩ := hp rfl
        have h0' : xs = [] := List.eq_nil_of_length_eq_zero h0
        subst h0'
        go_wp2_with (first
          | (go_at_call 87; refine (l1Copy_any _ 0 _ (oneCell_ints _ _) rfl _ hsl).mono ?_; rintro e w1 ⟨u1, rfl, hown1, hb1⟩)
          | (at_builtin; refine wpList_app1 ty_i64 rfl rfl rfl hown1 rfl rfl (by omega) hb1.size ?_; intro v2 w2 hown2 hg2 _; have hb2 := below_grown hb1 hown1 hg2 (Nat.le_refl _) hb1.size)
          | (at_builtin; refine wpList_app ty_i64 rfl rfl rfl hown2 rfl (Sl.nothing _ _ _ _ (fun _ => rfl)) rfl (fun x hx => by cases hx) (by omega) hb2.size ?_; intro v3 w3 hown3 hg3 _))
        go_ret
        exact ⟨_, rfl, hfin _ _ hown3, below_grown hb2 hown2 hg3 (Nat.le_refl _) hb2.size⟩
      · by_cases hcl : c = xs.length
        · subst hcl
          go_wp2_with (first
            | (go_at_call 87; refine (l1Copy_any _ xs.length _ (oneCell_ints _ _) (by simp) _ hsl).mono ?_; rintro e w1 ⟨u1, rfl, hown1, hb1⟩)
            | (at_builtin; refine wpList_app1 ty_i64 rfl rfl rfl hown1 rfl rfl (by omega) hb1.size ?_; intro v2 w2 hown2 hg2 _; have hb2 := below_grown hb1 hown1 hg2 (Nat.le_refl _) hb1.size)
            | (at_builtin; refine wpList_app ty_i64 rfl rfl rfl hown2 rfl (Sl.nothing _ _ _ _ (fun e => by cases e)) rfl (fun x hx => by cases hx) (by omega) hb2.size ?_; intro v3 w3 hown3 hg3 _))
          go_ret
          exact ⟨_, rfl, hfin _ _ hown3, below_grown hb2 hown2 hg3 (Nat.le_refl _) hb2.size⟩
        · have hcl' : xs.length < c := by omega
          go_wp2_with (first
            | (go_at_call 87; refine (l1Copy_any _ xs.length _ (oneCell_ints _ _) (by simp) _ hsl).mono ?_; rintro e w1 ⟨u1, rfl, hown1, hb1⟩)
            | (at_builtin; refine wpList_app1 ty_i64 rfl rfl rfl hown1 rfl rfl (by omega) hb1.size ?_; intro v2 w2 hown2 hg2 _; have hb2 := below_grown hb1 hown1 hg2 (Nat.le_refl _) hb1.size)
            | (at_builtin; refine wpList_app ty_i64 rfl rfl rfl hown2 rfl (Sl.nothing _ _ _ _ (fun e => by cases e)) rfl (fun x hx => by cases hx) (by omega) hb2.size ?_; intro v3 w3 hown3 hg3 _))
          go_ret
          exact ⟨_, rfl, hfin _ _ hown3, below_grown hb2 hown2 hg3 (Nat.le_refl _) hb2.size⟩

end Go.Proofs.YtiooindlpinjhaaDoor

/- Walks: the reference's fold of a vertex. -/
namespace Go.Proofs.YtiooindlpinjhaaDoor
open Go.RowKit

def fdVal (f : Fd) : Value := .agg #[.int .i64 f.V, .int .i64 f.A, .int .i64 f.B]

theorem Rws.of_owned {w : World} {base EO EI : Nat} {v : Value} {g : List (List Int)} (vals : List Value) (hl : vals.length = g.length) (ho : w.ownsRow base EO 1 v g.length vals) (hn : g.length ≤ 1000000000)
    (hr : ∀ j, j < g.length → Nums w EI .i64 (vals.getD j undef) (row g j)) : Rws w EO EI v g := ⟨vals, hl, Sl.of_owns ho hn, hr⟩

theorem getD_append_left {α : Type} (l m : List α) (j : Nat) (d : α) (h : j < l.length) : (l ++ m).getD j d = l.getD j d := by simp [List.getElem?_append_left h]
theorem getD_append_last {α : Type} (l : List α) (x d : α) : (l ++ [x]).getD l.length d = x := by simp

theorem cell_new3 (w : World) (a b c : Value) (T : TypeId) : (w.alloc (.cells #[a, b, c] T)).cell? ⟨w.heap.size, 0, none⟩ = some a ∧ (w.alloc (.cells #[a, b, c] T)).cell? ⟨w.heap.size, 1, none⟩ = some b ∧ (w.alloc (.cells #[a, b, c] T)).cell? ⟨w.heap.size, 2, none⟩ = some c := by
  have := heap_alloc_new w (.cells #[a, b, c] T)
  refine ⟨?_, ?_, ?_⟩ <;> (unfold World.cell?; rw [this]; rfl)


end Go.Proofs.YtiooindlpinjhaaDoor
