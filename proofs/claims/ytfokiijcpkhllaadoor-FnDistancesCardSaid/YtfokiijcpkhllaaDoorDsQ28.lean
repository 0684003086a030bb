/- Plain: the edges counted are half the degrees. -/
import Derived.Test.YtfokiijcpkhllaaDoorDsQ27
import Derived.Test.YtfokiijcpkhllaaDoorDsQ5
import Derived.Test.YtfokiijcpkhllaaDoorDsQ7
import Derived.Test.YtfokiijcpkhllaaDoorDsQ25
import Derived.Test.YtfokiijcpkhllaaDoorDsQ23
namespace Go.Proofs.YtfokiijcpkhllaaDoor

theorem cntE_edN {g : List (List Int)} (hg : GOk g) : ∀ k, k ≤ g.length → cntE g k = (edN g.length (ofG g) k).length
  | 0, _ => rfl
  | k + 1, hk => by
    have ih := cntE_edN hg k (by omega)
    have h1 := edT_end hg (show k < g.length by omega)
    have h2 : (edT g k (row g k).length).length = upL k (row g k) := by simp [edT, upL]
    rw [cntE, ih, edN_succ, List.length_append, ← h1, h2]
/-- The degrees within the first m. -/
def sumS (E : Nat → Nat → Bool) (m : Nat) : Nat := ((List.range m).map fun u => (List.range m).countP (E u)).sum
def sumP (E : Nat → Nat → Bool) (m : Nat) : Nat := ((List.range m).map fun u => (List.range m).countP fun v => decide (u < v) && E u v).sum
theorem sum_two {E : Nat → Nat → Bool} (hs : ∀ r j, E r j = true → E j r = true) (hi : ∀ r, E r r = false) : ∀ m, sumS E m = 2 * sumP E m
  | 0 => rfl
  | m + 1 => by
    have ih := sum_two hs hi m
    have e1 : sumS E (m + 1) = sumS E m + 2 * (List.range m).countP (E m) := by
      unfold sumS
      rw [List.range_succ, List.map_append, List.sum_append, List.map_singleton, List.sum_singleton]
      have a : ((List.range m).map fun u => (List.range m ++ [m]).countP (E u)) = (List.range m).map fun u => (List.range m).countP (E u) + (if E u m = true then 1 else 0) := List.map_congr_left fun u _ => by
        rw [List.countP_append, List.countP_singleton]
      have b := sum_add2 (fun u => (List.range m).countP (E u)) (fun u => if E u m = true then 1 else 0) (List.range m)
      have c := sum_ite (fun u => E u m) (List.range m)
      have d : (List.range m).countP (fun u => E u m) = (List.range m).countP (E m) := List.countP_congr fun v _ => ⟨fun h => hs _ _ h, fun h => hs _ _ h⟩
      rw [a, b, c, d, List.countP_append, List.countP_singleton, hi m]
      simp only [Bool.false_eq_true, if_false]
      omega
    have e2 : sumP E (m + 1) = sumP E m + (List.range m).countP (E m) := by
      unfold sumP
      rw [List.range_succ, List.map_append, List.sum_append, List.map_singleton, List.sum_singleton]
      have a : ((List.range m).map fun u => (List.range m ++ [m]).countP fun v => decide (u < v) && E u v) = (List.range m).map fun u => ((List.range m).countP fun v => decide (u < v) && E u v) + (if E u m = true then 1 else 0) := List.map_congr_left fun u hu => by
        have hum : u < m := List.mem_range.1 hu
        rw [List.countP_append, List.countP_singleton]
        simp [hum]
      have b := sum_add2 (fun u => (List.range m).countP fun v => decide (u < v) && E u v) (fun u => if E u m = true then 1 else 0) (List.range m)
      have c := sum_ite (fun u => E u m) (List.range m)
      have d : (List.range m).countP (fun u => E u m) = (List.range m).countP (E m) := List.countP_congr fun v _ => ⟨fun h => hs _ _ h, fun h => hs _ _ h⟩
      have f : (List.range m ++ [m]).countP (fun v => decide (m < v) && E m v) = 0 := List.countP_eq_zero.2 fun v hv => by
        rcases List.mem_append.1 hv with h | h
        · have := List.mem_range.1 h
          simp [show ¬ m < v by omega]
        · have : v = m := by simpa using h
          simp [this]
      rw [a, b, c, d, f]
      omega
    omega
theorem edN_sum (n : Nat) (E : Nat → Nat → Bool) : ∀ k, (edN n E k).length = ((List.range k).map fun u => (List.range n).countP fun v => decide (u < v) && E u v).sum
  | 0 => rfl
  | k + 1 => by
    rw [edN_succ, List.length_append, edN_sum n E k, List.range_succ, List.map_append, List.sum_append, List.map_singleton, List.sum_singleton]
    unfold edRow
    rw [List.length_map, ← List.countP_eq_length_filter]
/-- Twice the edges are the degrees. -/
theorem two_cntE {g : List (List Int)} (hg : GOk g) : totN g.length (ofG g) = 2 * cntE g g.length := by
  rw [cntE_edN hg g.length (Nat.le_refl _), edN_sum]
  exact sum_two (ofG_sym hg) (ofG_irr hg) g.length

end Go.Proofs.YtfokiijcpkhllaaDoor

/- Plain: a graph is made of its edges again; a sum does not depend on the order. -/
namespace Go.Proofs.YtfokiijcpkhllaaDoor

/-- The edges that a list of pairs has. -/
def memE (l : List (Nat × Nat)) : Nat → Nat → Bool := fun r j => decide ((r, j) ∈ l ∨ (j, r) ∈ l)
theorem memE_nil (n : Nat) : indN n (memE []) = List.replicate n 0 := indN_none n fun r j _ _ => by simp [memE]
theorem memE_snoc {n a b : Nat} {l : List (Nat × Nat)} (ha : a < n) (hb : b < n) (hab : a ≠ b) : joinL (indN n (memE l)) a b = indN n (memE (l ++ [(a, b)])) := by
  refine natList_ext (by rw [joinL_length, indN_length, indN_length]) fun r hr => ?_
  rw [joinL_length, indN_length] at hr
  refine Nat.eq_of_testBit_eq fun j => ?_
  rw [Bool.eq_iff_iff, joinL_testBit (by rw [indN_length]; exact ha) (by rw [indN_length]; exact hb) hab, indN_bit hr, indN_bit hr]
  simp only [memE, Bool.and_eq_true, decide_eq_true_eq, List.mem_append, List.mem_singleton, Prod.mk.injEq]
  constructor
  · rintro (⟨h1, h2⟩ | ⟨rfl, rfl⟩ | ⟨rfl, rfl⟩)
    · exact ⟨h1, h2.imp .inl .inl⟩
    · exact ⟨hb, .inl (.inr ⟨rfl, rfl⟩)⟩
    · exact ⟨ha, .inr (.inr ⟨rfl, rfl⟩)⟩
  · rintro ⟨h1, (h2 | ⟨rfl, rfl⟩) | (h2 | ⟨rfl, rfl⟩)⟩
    · exact .inl ⟨h1, .inl h2⟩
    · exact .inr (.inl ⟨rfl, rfl⟩)
    · exact .inl ⟨h1, .inr h2⟩
    · exact .inr (.inr ⟨rfl, rfl⟩)
theorem mem_edN_iff {n : Nat} {E : Nat → Nat → Bool} {a b : Nat} : (a, b) ∈ edN n E n ↔ a < b ∧ b < n ∧ E a b = true := by
  simp only [edN, edRow, List.mem_flatMap, List.mem_range, List.mem_map, List.mem_filter, Bool.and_eq_true, decide_eq_true_eq, Prod.mk.injEq]
  constructor
  · rintro ⟨u, hu, v, ⟨hv, h1, h2⟩, rfl, rfl⟩
    exact ⟨h1, hv, h2⟩
  · rintro ⟨h1, h2, h3⟩
    exact ⟨a, by omega, b, ⟨h2, h1, h3⟩, rfl, rfl⟩
theorem memE_edN {g : List (List Int)} (hg : GOk g) : matG g.length (memE (edN g.length (ofG g) g.length)) = g := by
  rw [← matG_congr (E := ofG g)]
  · exact matG_ofG hg
  · intro r j hr hj
    rw [Bool.eq_iff_iff]
    simp only [memE, decide_eq_true_eq, mem_edN_iff]
    constructor
    · intro h
      rcases Nat.lt_trichotomy r j with h1 | rfl | h1
      · exact .inl ⟨h1, hj, h⟩
      · rw [ofG_irr hg] at h; cases h
      · exact .inr ⟨h1, hr, ofG_sym hg _ _ h⟩
    · rintro (⟨_, _, h⟩ | ⟨_, _, h⟩)
      · exact h
      · exact ofG_sym hg _ _ h
theorem perm_sumI {a b : List Int} (h : a.Perm b) : a.sum = b.sum := by
  induction h with
  | nil => rfl
  | cons x _ ih => simp [ih]
  | swap x y l => simp; omega
  | trans _ _ h1 h2 => exact h1.trans h2
theorem sum_take_snoc {l : List Int} {k : Nat} (h : k < l.length) : (l.take (k + 1)).sum = (l.take k).sum + l[k] := by
  rw [List.take_succ_eq_append_getElem h, List.sum_append]
  simp
theorem sum_bound {l : List Int} {c : Int} (h : ∀ x ∈ l, 0 ≤ x ∧ x ≤ c) : 0 ≤ l.sum ∧ l.sum ≤ c * l.length := by
  induction l with
  | nil => simp
  | cons a l ih =>
    have h1 := h a (by simp)
    have h2 := ih fun x hx => h x (by simp [hx])
    rw [List.sum_cons, List.length_cons]
    have e : c * ((l.length + 1 : Nat) : Int) = c * (l.length : Int) + c := by rw [Int.natCast_add, Int.mul_add]; simp
    rw [e]
    omega
/-- The degrees of the first vertices. -/
def degL (g : List (List Int)) (k : Nat) : List Int := (List.range k).map fun v => ((row g v).length : Int)
theorem degL_succ (g : List (List Int)) (k : Nat) : degL g (k + 1) = degL g k ++ [((row g k).length : Int)] := by simp [degL, List.range_succ]
theorem degL_length (g : List (List Int)) (k : Nat) : (degL g k).length = k := by simp [degL]
theorem row_degE {g : List (List Int)} (hg : GOk g) {v : Nat} (hv : v < g.length) : (row g v).length = degN g.length (ofG g) v := by
  have hs := (hg.sets v hv).1
  have e : (row g v).map Int.toNat = (List.range g.length).filter (ofG g v) := by
    refine rising_ext _ _ ?_ (List.Pairwise.filter _ List.pairwise_lt_range) fun x => ?_
    · rw [List.pairwise_map]
      refine hs.2.imp_of_mem fun {a b} ha hb hab => ?_
      have := hs.1 a ha
      have := hs.1 b hb
      omega
    · rw [List.mem_map, List.mem_filter, List.mem_range]
      simp only [ofG, decide_eq_true_eq]
      constructor
      · rintro ⟨y, hy, rfl⟩
        have := hs.1 y hy
        exact ⟨by omega, by rw [show ((y.toNat : Nat) : Int) = y by omega]; exact hy⟩
      · rintro ⟨_, h⟩
        exact ⟨_, h, by simp⟩
  have := congrArg List.length e
  rw [List.length_map] at this
  rw [this, degN, List.countP_eq_length_filter]
theorem degL_sum {g : List (List Int)} (hg : GOk g) : (degL g g.length).sum = ((2 * (edN g.length (ofG g) g.length).length : Nat) : Int) := by
  have h1 := two_cntE hg
  rw [cntE_edN hg _ (Nat.le_refl _)] at h1
  rw [← h1]
  unfold degL totN
  have : ∀ k, k ≤ g.length → ((List.range k).map fun v => ((row g v).length : Int)).sum = ((((List.range k).map (degN g.length (ofG g))).sum : Nat) : Int) := by
    intro k
    induction k with
    | zero => intro _; rfl
    | succ k ih =>
      intro hk
      rw [List.range_succ, List.map_append, List.map_append, List.sum_append, List.sum_append, ih (by omega)]
      have := row_degE hg (v := k) (by omega)
      simp [this]
  exact this g.length (Nat.le_refl _)

end Go.Proofs.YtfokiijcpkhllaaDoor

/- Plain: the vertices that are left when one is cut; an edge contracted; the graph of some vertices. -/
namespace Go.Proofs.YtfokiijcpkhllaaDoor

/-- The vertices that are left when one is cut. -/
def restN (n b : Nat) : List Nat := (List.range n).filter fun v => v != b
theorem mem_restN {n b v : Nat} : v ∈ restN n b ↔ v < n ∧ v ≠ b := by simp [restN]
theorem restN_rising (n b : Nat) : (restN n b).Pairwise (· < ·) := List.Pairwise.filter _ List.pairwise_lt_range
/-- Sets of a pattern's vertices: row i holds the i-th of a rising list, and perhaps one more vertex. -/
theorem rising_inj {l : List Nat} (h : l.Pairwise (· < ·)) {i k : Nat} (hi : i < l.length) (hk : k < l.length) (e : l[i] = l[k]) : i = k := by
  rcases Nat.lt_trichotomy i k with h1 | h1 | h1
  · have := List.pairwise_iff_getElem.1 h i k hi hk h1; omega
  · exact h1
  · have := List.pairwise_iff_getElem.1 h k i hk hi h1; omega

theorem natInts_at {l : List Nat} {i : Nat} (h : i < l.length) : (natInts l).getD i 0 = (l[i] : Int) := by simp [natInts, h]
theorem indE_nat {g : List (List Int)} {l : List Nat} {i k : Nat} (hi : i < l.length) (hk : k < l.length) : indE g (natInts l) i k = ofG g l[i] l[k] := by
  unfold indE ofG
  rw [natInts_at hi, natInts_at hk, Int.toNat_natCast]
theorem indL_gok {g : List (List Int)} {l : List Nat} (hg : GOk g) (hl : ∀ v ∈ l, v < g.length) (h1 : 1 ≤ l.length) (h16 : l.length ≤ 16) : GOk (indL g (natInts l)) := by
  have hs := indE_sym hg (l := natInts l) fun x hx => by
    obtain ⟨i, hi, rfl⟩ := mem_natInts.1 hx
    have := hl i hi
    omega
  unfold indL
  rw [natInts_length] at hs ⊢
  rw [show matG l.length (indE g (natInts l)) = matG l.length (fun r j => decide (r < l.length) && decide (j < l.length) && indE g (natInts l) r j) from matG_congr fun r j hr hj => by simp [hr, hj]]
  refine gok_matG h1 h16 (fun r j h => ?_) fun r => ?_
  · simp only [Bool.and_eq_true, decide_eq_true_eq] at h ⊢
    exact ⟨⟨h.1.2, h.1.1⟩, by rw [← hs.sym r j h.1.1 h.1.2]; exact h.2⟩
  · by_cases hr : r < l.length
    · rw [hs.irr r hr]; simp
    · simp [hr]
theorem matG_to {m : Nat} {E : Nat → Nat → Bool} {i k : Nat} (hi : i < m) (_hk : k < m) (h : ofG (matG m E) i k = true) : E i k = true := by
  simp only [ofG, decide_eq_true_eq] at h
  obtain ⟨j, hj, _, hE⟩ := (mem_matG hi).1 h
  obtain rfl : j = k := by omega
  exact hE
/-- The edges when what b has is given to a. -/
def conE (E : Nat → Nat → Bool) (a b : Nat) : Nat → Nat → Bool := fun r j => E r j || (r == a && (E b j && j != a)) || (j == a && (E b r && r != a))
theorem conE_sym {E : Nat → Nat → Bool} (hs : ∀ r j, E r j = true → E j r = true) (a b r j : Nat) (h : conE E a b r j = true) : conE E a b j r = true := by
  unfold conE at h ⊢
  simp only [Bool.or_eq_true, Bool.and_eq_true] at h ⊢
  rcases h with (h | h) | h
  · exact .inl (.inl (hs _ _ h))
  · exact .inr h
  · exact .inl (.inr h)
theorem conE_irr {E : Nat → Nat → Bool} (hi : ∀ r, E r r = false) (a b r : Nat) : conE E a b r r = false := by
  unfold conE
  rw [hi]
  by_cases e : r = a
  · subst e; simp
  · simp [e]
end Go.Proofs.YtfokiijcpkhllaaDoor

/- Plain: a contracted edge: nets, vertices, edges, parts. -/
namespace Go.Proofs.YtfokiijcpkhllaaDoor

theorem filter_off {L : List Nat} {b : Nat} (h : b ∉ L) : (L.filter fun v => v != b) = L := List.filter_eq_self.2 fun x hx => by
  rw [bne_iff_ne]
  intro e
  exact h (e ▸ hx)
theorem sum_splitC {L : List Nat} {a : Nat} (f : Nat → Nat) (hn : L.Nodup) (ha : a ∈ L) : (L.map f).sum = f a + ((L.filter fun v => v != a).map f).sum := by
  induction L with
  | nil => cases ha
  | cons x L ih =>
    rw [List.nodup_cons] at hn
    by_cases e : x = a
    · subst e
      rw [List.filter_cons_of_neg (by simp), filter_off hn.1]
      simp
    · have ha' : a ∈ L := (List.mem_cons.1 ha).resolve_left fun h => e h.symm
      rw [List.filter_cons_of_pos (by simpa using e), List.map_cons, List.map_cons, List.sum_cons, List.sum_cons, ih hn.2 ha']
      omega
theorem countP_splitC {L : List Nat} {a : Nat} (p : Nat → Bool) (hn : L.Nodup) (ha : a ∈ L) : L.countP p = (p a).toNat + (L.filter fun v => v != a).countP p := by
  induction L with
  | nil => cases ha
  | cons x L ih =>
    rw [List.nodup_cons] at hn
    by_cases e : x = a
    · subst e
      rw [List.filter_cons_of_neg (by simp), filter_off hn.1, List.countP_cons]
      cases p x <;> simp <;> omega
    · have ha' : a ∈ L := (List.mem_cons.1 ha).resolve_left fun h => e h.symm
      rw [List.filter_cons_of_pos (by simpa using e), List.countP_cons, List.countP_cons, ih hn.2 ha']
      omega
theorem sum_leC {L : List Nat} {f g : Nat → Nat} (h : ∀ x ∈ L, f x ≤ g x) : (L.map f).sum ≤ (L.map g).sum := by
  induction L with
  | nil => exact Nat.le_refl _
  | cons x L ih =>
    rw [List.map_cons, List.map_cons, List.sum_cons, List.sum_cons]
    have h1 := h x (List.mem_cons_self ..)
    have h2 := ih fun y hy => h y (List.mem_cons_of_mem _ hy)
    omega
theorem countP_orC {L : List Nat} {p q r : Nat → Bool} (h : ∀ x ∈ L, p x = true → q x = true ∨ r x = true) : L.countP p ≤ L.countP q + L.countP r := by
  induction L with
  | nil => simp
  | cons x L ih =>
    have h1 := h x (List.mem_cons_self ..)
    have h2 := ih fun y hy => h y (List.mem_cons_of_mem _ hy)
    rw [List.countP_cons, List.countP_cons, List.countP_cons]
    cases hp : p x <;> cases hq : q x <;> cases hr : r x <;> simp_all <;> omega
theorem restN_nodup (n b : Nat) : (restN n b).Nodup := List.Pairwise.filter _ List.nodup_range
theorem restN_length {n b : Nat} (hb : b < n) : (restN n b).length = n - 1 := by
  have h := countP_splitC (fun _ => true) List.nodup_range (List.mem_range.2 hb)
  simp only [List.countP_true, List.length_range, Bool.toNat_true] at h
  unfold restN
  omega
/-! ### What the program's rows are -/
/-- What b has, as far as read, is given to a. -/
def conF (E : Nat → Nat → Bool) (a : Nat) (ws : List Nat) : Nat → Nat → Bool := fun r j => E r j || (r == a && decide (j ∈ ws)) || (j == a && decide (r ∈ ws))
theorem conF_nil (E : Nat → Nat → Bool) (a : Nat) : conF E a [] = E := by
  funext r j
  simp [conF]
theorem conF_snoc {n a v : Nat} {E : Nat → Nat → Bool} {ws : List Nat} (ha : a < n) (hv : v < n) (hav : a ≠ v) : joinL (indN n (conF E a ws)) a v = indN n (conF E a (ws ++ [v])) := by
  refine natList_ext (by rw [joinL_length, indN_length, indN_length]) fun r hr => ?_
  rw [joinL_length, indN_length] at hr
  refine Nat.eq_of_testBit_eq fun j => ?_
  rw [Bool.eq_iff_iff, joinL_testBit (by rw [indN_length]; exact ha) (by rw [indN_length]; exact hv) hav, indN_bit hr, indN_bit hr]
  simp only [conF, Bool.and_eq_true, Bool.or_eq_true, decide_eq_true_eq, List.mem_append, List.mem_singleton, beq_iff_eq]
  constructor
  · rintro (⟨h1, (h2 | ⟨h3, h4⟩) | ⟨h3, h4⟩⟩ | ⟨rfl, rfl⟩ | ⟨rfl, rfl⟩)
    · exact ⟨h1, .inl (.inl h2)⟩
    · exact ⟨h1, .inl (.inr ⟨h3, .inl h4⟩)⟩
    · exact ⟨h1, .inr ⟨h3, .inl h4⟩⟩
    · exact ⟨hv, .inl (.inr ⟨rfl, .inr rfl⟩)⟩
    · exact ⟨ha, .inr ⟨rfl, .inr rfl⟩⟩
  · rintro ⟨h1, (h2 | ⟨h3, h4 | h4⟩) | ⟨h3, h4 | h4⟩⟩
    · exact .inl ⟨h1, .inl (.inl h2)⟩
    · exact .inl ⟨h1, .inl (.inr ⟨h3, h4⟩)⟩
    · exact .inr (.inl ⟨h3, h4⟩)
    · exact .inl ⟨h1, .inr ⟨h3, h4⟩⟩
    · exact .inr (.inr ⟨h4, h3⟩)
/-- The neighbours of b but a. -/
def nbL (n : Nat) (E : Nat → Nat → Bool) (a b : Nat) : List Nat := (List.range n).filter fun j => E b j && j != a
theorem conF_all {n a b : Nat} {E : Nat → Nat → Bool} : indN n (conF E a (nbL n E a b)) = indN n (conE E a b) := by
  refine natList_ext (by rw [indN_length, indN_length]) fun r hr => ?_
  rw [indN_length] at hr
  refine Nat.eq_of_testBit_eq fun j => ?_
  rw [indN_bit hr, indN_bit hr]
  by_cases hj : j < n
  · simp only [conF, conE, nbL, List.mem_filter, List.mem_range, hj, hr, true_and, Bool.decide_eq_true]
  · simp [hj]
/-! ### Parts -/
theorem rch_con {E : Nat → Nat → Bool} (hs : ∀ r j, E r j = true → E j r = true) {L : List Nat} {a b : Nat} (ha : a ∈ L) (hb : b ∈ L) (hab : a ≠ b) (hE : E a b = true) {u : Nat} (hub : u ≠ b) (x : Nat) (hx : x ≠ b) :
    Rch E (· ∈ L) u x ↔ Rch (conE E a b) (· ∈ L.filter fun v => v != b) u x := by
  constructor
  · intro h
    have key : ∀ y, Rch E (· ∈ L) u y → Rch (conE E a b) (· ∈ L.filter fun v => v != b) u (if y = b then a else y) := by
      refine rch_closed (by rw [if_neg hub]; exact .base) fun y z hy hyz hz => ?_
      by_cases h1 : y = b
      · rw [if_pos h1] at hy
        by_cases h2 : z = b
        · rw [if_pos h2]; exact hy
        · rw [if_neg h2]
          by_cases h3 : z = a
          · rw [h3]; exact hy
          · refine .step hy ?_ (by simp [hz, h2])
            subst h1
            simp [conE, hyz, h3]
      · rw [if_neg h1] at hy
        by_cases h2 : z = b
        · rw [if_pos h2]
          by_cases h3 : y = a
          · rw [h3] at hy; exact hy
          · refine .step hy ?_ (by simp [ha, hab])
            have := hs _ _ hyz
            subst h2
            simp [conE, this, h3]
        · rw [if_neg h2]
          refine .step hy ?_ (by simp [hz, h2])
          simp [conE, hyz]
    have := key x h
    rwa [if_neg hx] at this
  · intro h
    refine (rch_closed (T := fun x => Rch E (· ∈ L) u x) .base (fun y z hy hyz hz => ?_) x h)
    have hz := (List.mem_filter.1 hz).1
    simp only [conE, Bool.or_eq_true, Bool.and_eq_true, beq_iff_eq, bne_iff_ne] at hyz
    rcases hyz with (h1 | ⟨rfl, h1, _⟩) | ⟨rfl, h1, _⟩
    · exact .step hy h1 hz
    · exact .step (.step hy hE hb) h1 hz
    · exact .step (.step hy (hs _ _ h1) hb) (hs _ _ hE) hz
theorem con_far {E : Nat → Nat → Bool} {a b r j : Nat} (hr : r ≠ a) (hj : j ≠ a) : conE E a b r j = E r j := by
  have h1 : (r == a) = false := beq_eq_false_iff_ne.2 hr
  have h2 : (j == a) = false := beq_eq_false_iff_ne.2 hj
  simp [conE, h1, h2]
theorem parts_con {E : Nat → Nat → Bool} (hs : ∀ r j, E r j = true → E j r = true) {a b : Nat} (hab : a < b) (hE : E a b = true) {L : List Nat} {ps : List (List Nat)} (h : Parts E L ps) : L.Pairwise (· < ·) → a ∈ L → b ∈ L →
    ∃ qs, Parts (conE E a b) (L.filter fun v => v != b) qs ∧ qs.length = ps.length := by
  induction h with
  | done => intro _ ha; cases ha
  | step u L ps hp ih =>
    intro hr ha hb
    have hub : u ≠ b := by
      rintro rfl
      rcases List.mem_cons.1 ha with e | e
      · omega
      · have := (List.pairwise_cons.1 hr).1 a e
        omega
    have hne : a ≠ b := by omega
    have eF : ((u :: L).filter fun v => v != b) = u :: (L.filter fun v => v != b) := by rw [List.filter_cons_of_pos (by simpa using hub)]
    have key := rch_con hs ha hb hne hE hub
    have eR : restL (conE E a b) ((u :: L).filter fun v => v != b) u = (restL E (u :: L) u).filter fun v => v != b := by
      unfold restL
      rw [List.filter_filter, List.filter_filter]
      refine List.filter_congr fun x _ => ?_
      by_cases hx : x = b
      · simp [hx]
      · rw [dec_congr (key x hx)]
        simp [hx, Bool.and_comm]
    by_cases hra : Rch E (· ∈ u :: L) u a
    · have hrb : Rch E (· ∈ u :: L) u b := .step hra hE hb
      have ha' : a ∉ restL E (u :: L) u := fun h => (mem_restL.1 h).2 hra
      have hb' : b ∉ restL E (u :: L) u := fun h => (mem_restL.1 h).2 hrb
      refine ⟨partL (conE E a b) (u :: (L.filter fun v => v != b)) u :: ps, ?_, rfl⟩
      rw [eF] at eR ⊢
      refine .step u _ ps ?_
      rw [eR, filter_off hb']
      exact parts_congr hp fun r j h1 h2 => (con_far (by rintro rfl; exact ha' h1) (by rintro rfl; exact ha' h2)).symm
    · have hrb : ¬ Rch E (· ∈ u :: L) u b := fun h => hra (.step h (hs _ _ hE) ha)
      obtain ⟨qs, h1, h2⟩ := ih (restL_rising hr u) (mem_restL.2 ⟨ha, hra⟩) (mem_restL.2 ⟨hb, hrb⟩)
      refine ⟨partL (conE E a b) (u :: (L.filter fun v => v != b)) u :: qs, ?_, by simp [h2]⟩
      rw [eF] at eR ⊢
      refine .step u _ qs ?_
      rw [eR]
      exact h1
theorem rch_named {E X : Nat → Nat → Bool} {f : Nat → Nat} {M : List Nat} (hX : ∀ r j, r ∈ M → j ∈ M → X r j = E (f r) (f j)) (hf : ∀ r j, r ∈ M → j ∈ M → f r = f j → r = j) {u : Nat} (hu : u ∈ M) (x : Nat) (hx : x ∈ M) : Rch E (· ∈ M.map f) (f u) (f x) ↔ Rch X (· ∈ M) u x := by
  constructor
  · intro h
    have key : ∀ y, Rch E (· ∈ M.map f) (f u) y → ∃ z, z ∈ M ∧ y = f z ∧ Rch X (· ∈ M) u z := by
      refine rch_closed ⟨u, hu, rfl, .base⟩ fun a b ha hE hb => ?_
      obtain ⟨z, hzM, rfl, hz⟩ := ha
      obtain ⟨c, hc, rfl⟩ := List.mem_map.1 hb
      exact ⟨c, hc, rfl, .step hz (by rw [hX z c hzM hc]; exact hE) hc⟩
    obtain ⟨z, hzM, e, hz⟩ := key _ h
    rw [hf x z hx hzM e]
    exact hz
  · intro h
    have key : ∀ y, Rch X (· ∈ M) u y → y ∈ M ∧ Rch E (· ∈ M.map f) (f u) (f y) := by
      refine rch_closed ⟨hu, .base⟩ fun a b ha hE hb => ⟨hb, .step ha.2 (by rw [← hX a b ha.1 hb]; exact hE) (List.mem_map.2 ⟨b, hb, rfl⟩)⟩
    exact (key x h).2
theorem parts_named {E X : Nat → Nat → Bool} {f : Nat → Nat} {M : List Nat} {qs : List (List Nat)} (h : Parts X M qs) : (∀ r j, r ∈ M → j ∈ M → X r j = E (f r) (f j)) → (∀ r j, r ∈ M → j ∈ M → f r = f j → r = j) → Parts E (M.map f) (qs.map (List.map f)) := by
  induction h with
  | done => intro _ _; exact .done
  | step u M qs _ ih =>
    intro hX hf
    have hu : u ∈ u :: M := List.mem_cons_self ..
    have e1 : partL E ((u :: M).map f) (f u) = (partL X (u :: M) u).map f := by
      unfold partL
      rw [List.filter_map]
      congr 1
      exact List.filter_congr fun x hx => dec_congr (rch_named hX hf hu x hx)
    have e2 : restL E ((u :: M).map f) (f u) = (restL X (u :: M) u).map f := by
      unfold restL
      rw [List.filter_map]
      congr 1
      refine List.filter_congr fun x hx => ?_
      simp only [Function.comp]
      rw [dec_congr (rch_named hX hf hu x hx)]
    have hin : ∀ r, r ∈ restL X (u :: M) u → r ∈ u :: M := fun r h => (mem_restL.1 h).1
    have := Parts.step (E := E) (f u) (M.map f) (qs.map (List.map f)) (by rw [← List.map_cons (f := f), e2]; exact ih (fun r j h1 h2 => hX r j (hin r h1) (hin j h2)) fun r j h1 h2 => hf r j (hin r h1) (hin j h2))
    rw [← List.map_cons (f := f), e1] at this
    exact this

/-! ### How many edges -/
theorem con_cnt {n a b : Nat} {E : Nat → Nat → Bool} (hs : ∀ r j, E r j = true → E j r = true) (hi : ∀ r, E r r = false) (hab : a < b) (hb : b < n) (hE : E a b = true) :
    ((restN n b).map fun r => (restN n b).countP (conE E a b r)).sum + 2 ≤ totN n E := by
  have haR : a ∈ restN n b := mem_restN.2 ⟨by omega, by omega⟩
  have hbR : b ∈ List.range n := List.mem_range.2 hb
  have hdeg : ∀ r, degN n E r = (E r b).toNat + (restN n b).countP (E r) := fun r => countP_splitC (E r) List.nodup_range hbR
  unfold totN
  rw [sum_splitC (degN n E) List.nodup_range hbR]
  change _ ≤ degN n E b + ((restN n b).map (degN n E)).sum
  rw [sum_splitC (degN n E) (restN_nodup n b) haR, sum_splitC (fun r => (restN n b).countP (conE E a b r)) (restN_nodup n b) haR]
  have hba := hs _ _ hE
  have h1 : (restN n b).countP (conE E a b a) ≤ (restN n b).countP (E a) + (restN n b).countP (fun j => E b j && j != a) := by
    refine countP_orC fun x hx h => ?_
    simp only [conE, Bool.or_eq_true, Bool.and_eq_true, beq_iff_eq, bne_iff_ne] at h
    rcases h with (h | ⟨_, h2, h3⟩) | ⟨_, _, h⟩
    · exact .inl h
    · exact .inr (by simp [h2, h3])
    · exact absurd rfl h
  have h2 := countP_splitC (fun j => E b j && j != a) (restN_nodup n b) haR
  have h3 := countP_splitC (E b) (restN_nodup n b) haR
  have h4 : ((restN n b).filter fun v => v != a).countP (fun j => E b j && j != a) = ((restN n b).filter fun v => v != a).countP (E b) := by
    refine List.countP_congr fun x hx => ?_
    have := (List.mem_filter.1 hx).2
    simp [this]
  have h5 := hdeg a
  have h6 := hdeg b
  rw [hE] at h5
  rw [hi] at h6
  rw [hba] at h3
  simp at h2 h3 h5 h6
  have h7 : (((restN n b).filter fun v => v != a).map fun r => (restN n b).countP (conE E a b r)).sum ≤ (((restN n b).filter fun v => v != a).map (degN n E)).sum := by
    refine sum_leC fun r hr => ?_
    obtain ⟨hrR, hra⟩ := List.mem_filter.1 hr
    rw [bne_iff_ne] at hra
    rw [hdeg r]
    by_cases hrb : E r b = true
    · have h8 : (restN n b).countP (conE E a b r) ≤ (restN n b).countP (E r) + (restN n b).countP (fun j => j == a) := by
        refine countP_orC fun x hx h => ?_
        simp only [conE, Bool.or_eq_true, Bool.and_eq_true, beq_iff_eq, bne_iff_ne] at h
        rcases h with (h | ⟨h, _⟩) | ⟨h, _⟩
        · exact .inl h
        · exact absurd h hra
        · exact .inr (by simp [h])
      have h9 : (restN n b).countP (fun j => j == a) ≤ 1 := by
        have := List.nodup_iff_count.1 (restN_nodup n b) a
        exact this
      rw [hrb]
      simp
      omega
    · have h8 : (restN n b).countP (conE E a b r) ≤ (restN n b).countP (E r) := by
        refine List.countP_mono_left fun x hx h => ?_
        simp only [conE, Bool.or_eq_true, Bool.and_eq_true, beq_iff_eq, bne_iff_ne] at h
        rcases h with (h | ⟨h, _⟩) | ⟨_, h, _⟩
        · exact h
        · exact absurd h hra
        · exact absurd (hs _ _ h) hrb
      omega
  rw [h5] at *
  omega

/-! ### The contracted graph -/
def conG (g : List (List Int)) (a b : Nat) : List (List Int) := indL (matG g.length (conE (ofG g) a b)) (natInts (restN g.length b))
theorem conG_length {g : List (List Int)} {a b : Nat} (hb : b < g.length) : (conG g a b).length = g.length - 1 := by
  unfold conG indL
  rw [matG_length, natInts_length, restN_length hb]
theorem conG_get {g : List (List Int)} {a b i k : Nat} (hi : i < (restN g.length b).length) (hk : k < (restN g.length b).length) : ofG (conG g a b) i k = conE (ofG g) a b ((restN g.length b)[i]) ((restN g.length b)[k]) := by
  unfold conG indL
  rw [ofG_matG (by rw [natInts_length]; exact hi) (by rw [natInts_length]; exact hk), indE_nat hi hk, ofG_matG (mem_restN.1 (List.getElem_mem hi)).1 (mem_restN.1 (List.getElem_mem hk)).1]
theorem map_getC {L : List Nat} : (List.range L.length).map (fun i => L.getD i 0) = L := by
  refine List.ext_getElem (by simp) fun i h1 h2 => ?_
  simp only [List.getElem_map, List.getElem_range]
  rw [List.getD_eq_getElem?_getD, List.getElem?_eq_getElem h2]
  rfl
theorem conG_gok {g : List (List Int)} (hg : GOk g) {a b : Nat} (hab : a < b) (hb : b < g.length) : GOk (conG g a b) := by
  have h16 := hg.le
  unfold conG
  exact indL_gok (gok_matG hg.pos h16 (conE_sym (ofG_sym hg) a b) (conE_irr (ofG_irr hg) a b)) (fun v hv => by rw [matG_length]; exact (mem_restN.1 hv).1) (by rw [restN_length hb]; omega) (by rw [restN_length hb]; omega)
theorem conG_less {g : List (List Int)} (hg : GOk g) {a b : Nat} (hab : a < b) (hb : b < g.length) (hE : ofG g a b = true) : cntE (conG g a b) (conG g a b).length < cntE g g.length := by
  have h1 := two_cntE hg
  have hok : GOk (conG g a b) := conG_gok hg hab hb
  have h2 := two_cntE hok
  have h3 := con_cnt (ofG_sym hg) (ofG_irr hg) hab hb hE
  have hl : (conG g a b).length = (restN g.length b).length := by rw [conG_length hb, restN_length hb]
  have h4 : totN (conG g a b).length (ofG (conG g a b)) = ((restN g.length b).map fun r => (restN g.length b).countP (conE (ofG g) a b r)).sum := by
    unfold totN
    rw [hl]
    congr 1
    conv => rhs; rw [← map_getC (L := restN g.length b)]
    rw [List.map_map]
    refine List.map_congr_left fun i hi => ?_
    have hi := List.mem_range.1 hi
    unfold degN
    simp only [Function.comp]
    conv => rhs; rw [map_getC]
    have e := List.countP_map (p := conE (ofG g) a b ((restN g.length b).getD i 0)) (f := fun i => (restN g.length b).getD i 0) (l := List.range (restN g.length b).length)
    rw [map_getC] at e
    rw [e]
    refine List.countP_congr fun k hk => ?_
    have hk := List.mem_range.1 hk
    rw [conG_get hi hk]
    simp only [Function.comp, List.getD_eq_getElem?_getD, List.getElem?_eq_getElem hi, List.getElem?_eq_getElem hk, Option.getD_some]
  omega
theorem conG_parts {g : List (List Int)} (hg : GOk g) {a b : Nat} (hab : a < b) (hb : b < g.length) (hE : ofG g a b = true) {ps rs : List (List Nat)} (h : Parts (ofG g) (List.range g.length) ps) (hr : Parts (ofG (conG g a b)) (List.range (conG g a b).length) rs) : rs.length = ps.length := by
  obtain ⟨qs, h1, h2⟩ := parts_con (ofG_sym hg) hab hE h List.pairwise_lt_range (List.mem_range.2 (by omega)) (List.mem_range.2 hb)
  have hl : (conG g a b).length = (restN g.length b).length := by rw [conG_length hb, restN_length hb]
  rw [hl] at hr
  have h3 := parts_named (E := conE (ofG g) a b) (f := fun i => (restN g.length b).getD i 0) hr (fun r j h4 h5 => by
    have h4 := List.mem_range.1 h4
    have h5 := List.mem_range.1 h5
    rw [conG_get h4 h5]
    simp only [List.getD_eq_getElem?_getD, List.getElem?_eq_getElem h4, List.getElem?_eq_getElem h5, Option.getD_some]) (fun r j h4 h5 e => by
    have h4 := List.mem_range.1 h4
    have h5 := List.mem_range.1 h5
    simp only [List.getD_eq_getElem?_getD, List.getElem?_eq_getElem h4, List.getElem?_eq_getElem h5, Option.getD_some] at e
    exact rising_inj (restN_rising _ _) h4 h5 e)
  rw [map_getC] at h3
  have := parts_det h1 h3
  rw [this, List.length_map] at h2
  exact h2

end Go.Proofs.YtfokiijcpkhllaaDoor
