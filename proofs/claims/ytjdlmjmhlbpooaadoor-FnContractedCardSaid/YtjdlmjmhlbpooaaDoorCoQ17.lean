/- Walks: the reference's draws: a cursor made (l1New), numbers (l1Odd, l1Min, l1Num). -/
import Derived.Test.YtjdlmjmhlbpooaaDoorCoQ10
import Derived.Test.YtjdlmjmhlbpooaaDoorCoQ16
import Derived.Test.YtjdlmjmhlbpooaaDoorCoQ12
namespace Go.Proofs.YtjdlmjmhlbpooaaDoor
open Go.RowKit

theorem cur_far {w0 w : World} {cb : Nat} {bs : List Int} (h : Cur w0 w cb bs) {cur : Array Value} {E : TypeId} {fz : Nat × Nat} {b : Nat} (hE : E ≠ 113) (hb : w.heap[b]? = some (.cells cur E fz)) : b ≠ cb := by
  obtain ⟨bv, i, z, h1, _⟩ := h.ex
  intro e
  subst e
  rw [h1.blk] at hb
  simp only [Option.some.injEq, Obj.cells.injEq] at hb
  exact hE hb.2.1.symm
theorem Sl.cured {w0 w w' : World} {cb : Nat} {bs : List Int} (h : Cur w0 w cb bs) (hg : w.grownBy w' (some cb)) {E : TypeId} (hE : E ≠ 113) {v : Value} {n : Nat} {vals : List Value} (hs : Sl w E v n vals) : Sl w' E v n vals :=
  hs.keep fun b cur fz hb => hg.block b (Array.getElem?_eq_some_iff.1 hb).1 (fun e => cur_far h hE hb (by simpa using e))
theorem ownsRow_cured {w0 w w' : World} {cb : Nat} {bs : List Int} (h : Cur w0 w cb bs) (hg : w.grownBy w' (some cb)) {E : TypeId} (hE : E ≠ 113) {base size n : Nat} {v : Value} {xs : List Value} (ho : w.ownsRow base E size v n xs) : w'.ownsRow base E size v n xs :=
  ho.kept hg (by
    rcases ho.2 with ⟨rfl, _⟩ | ⟨g, cap, cur, rfl, _, hgg, _⟩
    · exact .inl rfl
    · exact .inr fun e => cur_far h hE hgg (by simpa [Value.ownBlock] using e))
theorem Box.cured {w0 w w' : World} {cb : Nat} {bs : List Int} (h : Cur w0 w cb bs) (hg : w.grownBy w' (some cb)) {T : TypeId} (hT : T ≠ 113) {b : Nat} {v : Value} (hb : Box w b T v) : Box w' b T v :=
  hb.grown hg (fun e => cur_far h hT hb.blk (by simpa using e))
theorem DG.cured {w0 w w' : World} {cb : Nat} {bs : List Int} (h : Cur w0 w cb bs) (hg : w.grownBy w' (some cb)) {base : Nat} {v : Value} {g : List (List Int)} (hs : DG w base v g) : DG w' base v g := by
  obtain ⟨u, vals, h1, h2, h3, h4⟩ := hs
  exact ⟨u, vals, h1, h2, ownsRow_cured h hg (by decide) h3, ⟨fun j hj => ownsRow_cured h hg (by decide) (h4.rows j hj), h4.dis⟩⟩

set_option maxRecDepth 100000 in
set_option maxHeartbeats 4000000 in
theorem l1New_any (v : Value) (bs : List Int) (hl : bs.length ≤ 4096) (w : World) (ha : ArgB w v bs) :
    Calls Tryd.prog 80 #[v] w fun e w' => ∃ cb : Nat, e = .returned (.pointer (some ⟨cb, 0, none⟩)) ∧ Cur w w' cb bs ∧ Below w.heap.size w w' := by
  obtain ⟨p, c, e, _⟩ := id ha
  subst e
  have HA := Lib.hid ha
  clear ha
  go_enter Tryd.func80, Tryd.ntmps80
  go_wp2
  go_loopw [3, 4] (fun h i wr => ∃ (k : Nat) (z : Int), i = .int .i64 k ∧ h = .int .i64 z ∧ k ≤ bs.length ∧ wr = w) (fun _ i _ => bs.length - (intOf i).toNat)
  case atStart => exact ⟨0, _, rfl, rfl, Nat.zero_le _, rfl⟩
  case round =>
    obtain ⟨k, z, rfl, rfl, hk, rfl⟩ := hrel
    by_cases hlt : k < bs.length
    · obtain ⟨xb, xo, rfl, hcx, hx0, hx1⟩ := HA.out.get hlt
      generalize bs[k] = x at hcx hx0 hx1
      go_wp2
      go_roundw
      case rel => exact ⟨k + 1, _, by go_num, rfl, by omega, trivial⟩
      case measure => simp [intOf]; omega
    · obtain rfl : k = bs.length := by omega
      go_wp2
      go_ret
      exact ⟨_, rfl, ⟨⟨_, 0, z, BoxC.new _ _ _ _, Nat.zero_le _, HA.out⟩, hl, Nat.le_refl _, below_alloc _ _⟩, below_alloc _ _⟩

theorem l1Min_any (x y : Int) (w : World) : Calls Tryd.prog 140 #[.int .i64 x, .int .i64 y] w fun e w' => e = .returned (.int .i64 (min x y)) ∧ w = w' := by
  by_cases h : x < y
  · have hm : Hid (min x y = x) := Lib.hid (by omega)
    go_enter Tryd.func140, Tryd.ntmps140
    go_wp2
    go_ret
    exact ⟨by rw [hm.out]; rfl, rfl⟩
  · have hm : Hid (min x y = y) := Lib.hid (by omega)
    go_enter Tryd.func140, Tryd.ntmps140
    go_wp2
    go_ret
    exact ⟨by rw [hm.out]; rfl, rfl⟩

theorem lit_nums (w : World) (xs : List Int) (hl : xs.length ≤ 1000) : Nums (w.alloc (.cells (xs.map (Value.int .i64)).toArray 2)) 2 .i64 (.slice (some ⟨w.heap.size, 0, none⟩) xs.length xs.length) xs := by
  have := World.ownsRow_lit w (xs.map (Value.int .i64)).toArray xs.length (base := w.heap.size) (e := 2) (size := 1) (Nat.le_refl _) (by unfold maxLen; omega) (by simp)
  exact Nums.of_owns (by simpa using this) rfl (by omega)

set_option maxRecDepth 100000 in
set_option maxHeartbeats 4000000 in
theorem l1Odd_any (w0 : World) (cb : Nat) (bs : List Int) (w : World) (hc : Cur w0 w cb bs) :
    Calls Tryd.prog 139 #[.pointer (some ⟨cb, 0, none⟩)] w fun e w' => ∃ z : Int, e = .returned (.int .i64 z) ∧ Cur w0 w' cb bs ∧ w.grownBy w' (some cb) := by
  have HB := Lib.hid (below_alloc w (.cells #[.int .i64 (-1), .int .i64 0, .int .i64 1, .int .i64 2147483648, .int .i64 (-2147483648), .int .i64 1099511627776, .int .i64 4611686018427387904, .int .i64 (-4611686018427387904), .int .i64 9223372036854775807, .int .i64 (-9223372036854775808)] 2))
  have HC := Lib.hid (hc.keep HB.out)
  have HL := Lib.hid (lit_nums w [-1, 0, 1, 2147483648, -2147483648, 1099511627776, 4611686018427387904, -4611686018427387904, 9223372036854775807, -9223372036854775808] (by simp))
  clear hc
  go_enter Tryd.func139, Tryd.ntmps139
  go_wp2_with go_loud (go_at_call 125; refine (l1Below_any w0 cb bs 10 (by decide) _ HC.out).mono ?_; rintro e w2 ⟨r, rfl, hr, _, hc2, hg2⟩; have HC2 := Lib.hid hc2; have HG2 := Lib.hid hg2; have hr10 := hr (by decide); (obtain ⟨_, _, e1, hcell⟩ := (show Nums w2 2 .i64 _ _ from Sl.cured HC.out hg2 (by decide) HL.out).get (k := r) (by simp; omega)); cases e1; rw [Nat.zero_add] at hcell; (obtain ⟨zz, hzz⟩ : ∃ z : Int, w2.cell? ⟨w.heap.size, r, none⟩ = some (.int .i64 z) := ⟨_, hcell⟩); (have hr0 : (r : Int) < 10 := hr10); clear hcell hr hc2 hg2 hr10)
  go_ret
  exact ⟨_, rfl, HC2.out, grown_trans (grown_of_below HB.out _) HG2.out⟩

set_option maxRecDepth 100000 in
set_option maxHeartbeats 4000000 in
theorem l1Num_any (w0 : World) (cb : Nat) (bs : List Int) (n : Int) (hn0 : 0 ≤ n) (hn : n ≤ 1000000) (w : World) (hc : Cur w0 w cb bs) :
    Calls Tryd.prog 126 #[.pointer (some ⟨cb, 0, none⟩), .int .i64 n] w fun e w' => ∃ z : Int, e = .returned (.int .i64 z) ∧ Cur w0 w' cb bs ∧ w.grownBy w' (some cb) := by
  have HC := Lib.hid hc
  have hwr : IntKind.i64.wrap (n + 1) = n + 1 := by rw [IntKind.wrap_i64]; omega
  clear hc
  go_enter Tryd.func126, Tryd.ntmps126
  go_upto_if 6 with (go_at_call 124; refine (l1Once_any w0 cb bs 10 (by decide) _ HC.out).mono ?_; rintro e w2 ⟨b, rfl, hc2, hg2⟩; have HC2 := Lib.hid hc2; have HG2 := Lib.hid hg2; clear hc2 hg2)
  cases b
  · go_upto_if 18 with (go_at_call 124; refine (l1Once_any w0 cb bs 2 (by decide) _ HC2.out).mono ?_; rintro e w3 ⟨b, rfl, hc2, hg2⟩; have HC3 := Lib.hid hc2; have HG3 := Lib.hid (grown_trans HG2.out hg2); clear hc2 hg2)
    cases b
    · go_wp2_with (go_at_call 125; refine (l1Below_any w0 cb bs (n + 1) (by omega) _ HC3.out).mono ?_; rintro e w4 ⟨r, rfl, _, _, hc2, hg2⟩; have HC4 := Lib.hid hc2; have HG4 := Lib.hid (grown_trans HG3.out hg2); clear hc2 hg2)
      go_ret
      exact ⟨_, rfl, HC4.out, HG4.out⟩
    · have hmn : 0 ≤ min n 4 ∧ min n 4 ≤ 4 := by omega
      have hwr2 : IntKind.i64.wrap (min n 4 + 1) = min n 4 + 1 := by rw [IntKind.wrap_i64]; omega
      have HMI := Lib.hid (l1Min_any n 4)
      obtain ⟨mn, hm⟩ : ∃ mn, mn = min n 4 := ⟨_, rfl⟩
      rw [← hm] at hmn hwr2 HMI
      clear hm
      go_wp2_with (first
        | (go_at_call 125; refine (l1Below_any w0 cb bs (mn + 1) (by omega) _ HC3.out).mono ?_; rintro e w4 ⟨r, rfl, _, _, hc2, hg2⟩; have HC4 := Lib.hid hc2; have HG4 := Lib.hid (grown_trans HG3.out hg2); clear hc2 hg2)
        | (go_at_call 140; refine (HMI.out _).mono ?_; rintro e wm ⟨rfl, rfl⟩))
      go_ret
      exact ⟨_, rfl, HC4.out, HG4.out⟩
  · go_wp2_with (first
      | (go_at_call 125; refine (l1Below_any w0 cb bs 4 (by decide) _ HC4.out).mono ?_; rintro e w5 ⟨r, rfl, hr, _, hc2, hg2⟩; have HC5 := Lib.hid hc2; have HG5 := Lib.hid (grown_trans HG4.out hg2); have hr4 := hr (by decide); (obtain ⟨_, _, e1, hcell⟩ := (show Nums w5 2 .i64 _ _ from Sl.cured HC4.out hg2 (by decide) HL.out).get (k := r) (by simp; omega)); cases e1; rw [Nat.zero_add] at hcell; (obtain ⟨zz, hzz⟩ : ∃ z : Int, w5.cell? ⟨w3.heap.size, r, none⟩ = some (.int .i64 z) := ⟨_, hcell⟩); (have hr0 : (r : Int) < 4 := hr4); clear hcell hr hc2 hg2 hr4)
      | (go_at_call 139; refine (l1Odd_any w0 cb bs _ HC2.out).mono ?_; rintro e w3 ⟨od, rfl, hc2, hg2⟩; have HC3 := Lib.hid hc2; have HG3 := Lib.hid (grown_trans HG2.out hg2); clear hc2 hg2; have HB3 := Lib.hid (below_alloc w3 (.cells #[.int .i64 (-1), .int .i64 n, .int .i64 (n + 1), .int .i64 od] 2)); have HC4 := Lib.hid (HC3.out.keep HB3.out); have HG4 := Lib.hid (grown_trans HG3.out (grown_of_below HB3.out _)); have HL := Lib.hid (lit_nums w3 [-1, n, n + 1, od] (by simp))))
    go_ret
    exact ⟨_, rfl, HC5.out, HG5.out⟩

end Go.Proofs.YtjdlmjmhlbpooaaDoor

/- Plain: edges cut; bridges; the parts without them. -/
namespace Go.Proofs.YtjdlmjmhlbpooaaDoor

def cutE (E : Nat → Nat → Bool) (p q : Nat) : Nat → Nat → Bool := fun r j => E r j && !((r == p && j == q) || (r == q && j == p))
theorem cutE_sym {E : Nat → Nat → Bool} (h : ∀ r j, E r j = true → E j r = true) (p q : Nat) (r j : Nat) (he : cutE E p q r j = true) : cutE E p q j r = true := by
  simp only [cutE, Bool.and_eq_true, Bool.not_eq_true', Bool.or_eq_false_iff, Bool.and_eq_false_iff, beq_eq_false_iff_ne] at he ⊢
  obtain ⟨h1, h2, h3⟩ := he
  refine ⟨h _ _ h1, ?_, ?_⟩
  · rcases h3 with h3 | h3
    · exact .inr h3
    · exact .inl h3
  · rcases h2 with h2 | h2
    · exact .inr h2
    · exact .inl h2
theorem cutE_irr {E : Nat → Nat → Bool} (h : ∀ r, E r r = false) (p q r : Nat) : cutE E p q r r = false := by simp [cutE, h r]

/-- Two vertices are made no neighbours. -/
def partN (a : List Nat) (u v : Nat) : List Nat := let b := a.set u (sub (a.getD u 0) (2 ^ v)); b.set v (sub (b.getD v 0) (2 ^ u))
theorem partN_length (a : List Nat) (u v : Nat) : (partN a u v).length = a.length := by simp [partN]
theorem partN_indN {n : Nat} (hn : n ≤ 16) {E : Nat → Nat → Bool} {u v : Nat} (hu : u < n) (hv : v < n) (huv : u ≠ v) : partN (indN n E) u v = indN n (cutE E u v) := by
  have hl := indN_length n E
  have h16 := indN_lt16 (E := E) hn
  refine natList_ext (by rw [partN_length, hl, indN_length]) fun r hr => ?_
  rw [partN_length, hl] at hr
  have e : (partN (indN n E) u v).getD r 0 = if r = v then sub ((indN n E).getD v 0) (2 ^ u) else if r = u then sub ((indN n E).getD u 0) (2 ^ v) else (indN n E).getD r 0 := by
    unfold partN
    rw [getD_set _ _ _ _ (by rw [List.length_set, hl]; exact hv)]
    by_cases e : r = v
    · subst e
      rw [if_pos rfl, if_pos rfl, getD_set _ _ _ _ (by rw [hl]; exact hu), if_neg (fun q => huv q.symm)]
    · rw [if_neg e, if_neg e, getD_set _ _ _ _ (by rw [hl]; exact hu)]
  rw [e]
  refine Nat.eq_of_testBit_eq fun j => ?_
  rw [Bool.eq_iff_iff, indN_bit hr]
  by_cases e1 : r = v
  · subst e1
    rw [if_pos rfl, testBit_sub1 (lt16_getD h16 _) (by omega), indN_bit hr]
    simp only [cutE, Bool.and_eq_true, decide_eq_true_eq, Bool.not_eq_true', Bool.or_eq_false_iff, Bool.and_eq_false_iff, beq_eq_false_iff_ne, ne_eq]
    constructor
    · rintro ⟨⟨h1, h2⟩, h3⟩; exact ⟨h1, h2, .inl (fun q => huv q.symm), .inr h3⟩
    · rintro ⟨h1, h2, _, h3⟩
      exact ⟨⟨h1, h2⟩, fun q => by rcases h3 with h3 | h3; exact h3 trivial; exact h3 q⟩
  · rw [if_neg e1]
    by_cases e2 : r = u
    · subst e2
      rw [if_pos rfl, testBit_sub1 (lt16_getD h16 _) (by omega), indN_bit hr]
      simp only [cutE, Bool.and_eq_true, decide_eq_true_eq, Bool.not_eq_true', Bool.or_eq_false_iff, Bool.and_eq_false_iff, beq_eq_false_iff_ne, ne_eq]
      constructor
      · rintro ⟨⟨h1, h2⟩, h3⟩; exact ⟨h1, h2, .inr h3, .inl e1⟩
      · rintro ⟨h1, h2, h3, _⟩
        exact ⟨⟨h1, h2⟩, fun q => by rcases h3 with h3 | h3; exact h3 trivial; exact h3 q⟩
    · rw [if_neg e2, indN_bit hr]
      have a1 : (r == u) = false := by simpa using e2
      have a2 : (r == v) = false := by simpa using e1
      simp [cutE, a1, a2]
theorem joinL_cut {n : Nat} {E : Nat → Nat → Bool} {u v : Nat} (hu : u < n) (hv : v < n) (huv : u ≠ v) (h1 : E u v = true) (h2 : E v u = true) : joinL (indN n (cutE E u v)) u v = indN n E := by
  refine natList_ext (by rw [joinL_length, indN_length, indN_length]) fun r hr => ?_
  rw [joinL_length, indN_length] at hr
  refine Nat.eq_of_testBit_eq fun j => ?_
  rw [Bool.eq_iff_iff, joinL_testBit (by rw [indN_length]; exact hu) (by rw [indN_length]; exact hv) huv, indN_bit hr, indN_bit hr]
  simp only [cutE, Bool.and_eq_true, decide_eq_true_eq, Bool.not_eq_true', Bool.or_eq_false_iff, Bool.and_eq_false_iff, beq_eq_false_iff_ne, ne_eq]
  constructor
  · rintro (⟨a, b, _⟩ | ⟨rfl, rfl⟩ | ⟨rfl, rfl⟩)
    · exact ⟨a, b⟩
    · exact ⟨hv, h1⟩
    · exact ⟨hu, h2⟩
  · rintro ⟨a, b⟩
    by_cases c1 : r = u ∧ j = v
    · exact .inr (.inl c1)
    · by_cases c2 : r = v ∧ j = u
      · exact .inr (.inr c2)
      · refine .inl ⟨a, b, ?_, ?_⟩
        · by_cases q : r = u
          · exact .inr fun q2 => c1 ⟨q, q2⟩
          · exact .inl q
        · by_cases q : r = v
          · exact .inr fun q2 => c2 ⟨q, q2⟩
          · exact .inl q

/-- The edges, in order. -/
def edRow (n : Nat) (E : Nat → Nat → Bool) (u : Nat) : List (Nat × Nat) := ((List.range n).filter fun v => decide (u < v) && E u v).map fun v => (u, v)
def edN (n : Nat) (E : Nat → Nat → Bool) (k : Nat) : List (Nat × Nat) := (List.range k).flatMap (edRow n E)
theorem edN_succ (n : Nat) (E : Nat → Nat → Bool) (k : Nat) : edN n E (k + 1) = edN n E k ++ edRow n E k := by simp [edN, List.range_succ, List.flatMap_append]
theorem mem_edN {n : Nat} {E : Nat → Nat → Bool} {k : Nat} (hk : k ≤ n) {e : Nat × Nat} (h : e ∈ edN n E k) : e.1 < n ∧ e.2 < n ∧ e.1 < e.2 ∧ E e.1 e.2 = true := by
  simp only [edN, edRow, List.mem_flatMap, List.mem_range, List.mem_map, List.mem_filter, Bool.and_eq_true, decide_eq_true_eq] at h
  obtain ⟨u, hu, v, ⟨hv, h1, h2⟩, rfl⟩ := h
  exact ⟨by show u < n; omega, hv, h1, h2⟩
theorem edRow_length (n : Nat) (E : Nat → Nat → Bool) (u : Nat) : (edRow n E u).length ≤ n := by
  simp only [edRow, List.length_map]
  exact Nat.le_trans (List.length_filter_le _ _) (by simp)
theorem edN_length (n : Nat) (E : Nat → Nat → Bool) : ∀ k, (edN n E k).length ≤ k * n
  | 0 => by simp [edN]
  | k + 1 => by
    rw [edN_succ, List.length_append]
    have h1 := edN_length n E k
    have h2 := edRow_length n E k
    have : (k + 1) * n = k * n + n := Nat.succ_mul k n
    omega

/-- No way between the ends of an edge without it. -/
def Brd (n : Nat) (E : Nat → Nat → Bool) (e : Nat × Nat) : Prop := ¬ Rch (cutE E e.1 e.2) (· ∈ List.range n) e.1 e.2
noncomputable def brdL (n : Nat) (E : Nat → Nat → Bool) (l : List (Nat × Nat)) : List (Nat × Nat) := l.filter fun e => dec (Brd n E e)
theorem brdL_snoc (n : Nat) (E : Nat → Nat → Bool) (l : List (Nat × Nat)) (e : Nat × Nat) : brdL n E (l ++ [e]) = if dec (Brd n E e) = true then brdL n E l ++ [e] else brdL n E l := by
  unfold brdL
  rw [List.filter_append]
  by_cases h : dec (Brd n E e) = true
  · rw [if_pos h]; simp [List.filter_cons, h]
  · rw [if_neg h]; simp [List.filter_cons, h]
theorem brdL_length (n : Nat) (E : Nat → Nat → Bool) (l : List (Nat × Nat)) : (brdL n E l).length ≤ l.length := List.length_filter_le _ _
theorem mem_brdL {n : Nat} {E : Nat → Nat → Bool} {l : List (Nat × Nat)} {e : Nat × Nat} (h : e ∈ brdL n E l) : e ∈ l := (List.mem_filter.1 h).1
def cutAll (E : Nat → Nat → Bool) (l : List (Nat × Nat)) : Nat → Nat → Bool := l.foldl (fun E e => cutE E e.1 e.2) E
theorem cutAll_snoc (E : Nat → Nat → Bool) (l : List (Nat × Nat)) (e : Nat × Nat) : cutAll E (l ++ [e]) = cutE (cutAll E l) e.1 e.2 := by simp [cutAll]
theorem cutAll_sym {E : Nat → Nat → Bool} (h : ∀ r j, E r j = true → E j r = true) (l : List (Nat × Nat)) : ∀ r j, cutAll E l r j = true → cutAll E l j r = true := by
  induction l generalizing E with
  | nil => exact h
  | cons e l ih => exact ih (cutE_sym h _ _)
theorem cutAll_irr {E : Nat → Nat → Bool} (h : ∀ r, E r r = false) (l : List (Nat × Nat)) : ∀ r, cutAll E l r r = false := by
  induction l generalizing E with
  | nil => exact h
  | cons e l ih => exact ih (cutE_irr h _ _)

/-- Pairs, as rows. -/
def prsL (l : List (Nat × Nat)) : List (List Int) := l.map fun e => [(e.1 : Int), (e.2 : Int)]
theorem prsL_length (l : List (Nat × Nat)) : (prsL l).length = l.length := by simp [prsL]
theorem prsL_snoc (l : List (Nat × Nat)) (e : Nat × Nat) : prsL (l ++ [e]) = prsL l ++ [[(e.1 : Int), (e.2 : Int)]] := by simp [prsL]

/-- What EdgeParts returns. -/
def EpS (g : List (List Int)) (gg : List (List Int)) : Prop :=
  (GOk g ∧ ∃ ps, Parts (cutAll (ofG g) (brdL g.length (ofG g) (edN g.length (ofG g) g.length))) (List.range g.length) ps ∧ gg = ps.map natInts) ∨ (¬ GOk g ∧ gg = [])
theorem epS_det {g gg hh : List (List Int)} (h : EpS g gg) (h2 : EpS g hh) : gg = hh := by
  rcases h with ⟨hg, ps, h, rfl⟩ | ⟨hg, rfl⟩ <;> rcases h2 with ⟨hg2, qs, h2, rfl⟩ | ⟨hg2, rfl⟩
  · rw [parts_det h h2]
  · exact absurd hg hg2
  · exact absurd hg2 hg
  · rfl

end Go.Proofs.YtjdlmjmhlbpooaaDoor
