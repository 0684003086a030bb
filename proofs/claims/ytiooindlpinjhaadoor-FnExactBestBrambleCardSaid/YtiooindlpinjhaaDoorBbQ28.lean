/- Plain: models of full graphs: what taking a vertex away does to them, and what contracting an edge does. -/
import Derived.Test.YtiooindlpinjhaaDoorBbQ5
import Derived.Test.YtiooindlpinjhaaDoorBbQ27
import Derived.Test.YtiooindlpinjhaaDoorBbQ6
namespace Go.Proofs.YtiooindlpinjhaaDoor

/-- So many sets that are connected, apart, and joined two by two. -/
structure KM (R : Nat → Nat → Prop) (k : Nat) (B : Nat → Nat → Prop) : Prop where
  ne : ∀ i, i < k → ∃ x, B i x
  conn : ∀ i, i < k → ∀ P : Nat → Prop, (∃ x, B i x ∧ P x) → (∃ x, B i x ∧ ¬ P x) → ∃ x y, B i x ∧ B i y ∧ P x ∧ ¬ P y ∧ R x y
  dis : ∀ i, i < k → ∀ j, j < k → ∀ x, B i x → B j x → i = j
  jn : ∀ i, i < k → ∀ j, j < k → i ≠ j → ∃ x y, B i x ∧ B j y ∧ R x y

theorem KM.mono {R S : Nat → Nat → Prop} {k : Nat} {B : Nat → Nat → Prop} (h : KM R k B) (hRS : ∀ i, i < k → ∀ j, j < k → ∀ x y, B i x → B j y → R x y → S x y) : KM S k B where
  ne := h.ne
  conn i hi P h1 h2 := by
    obtain ⟨x, y, a, b, c, d, e⟩ := h.conn i hi P h1 h2
    exact ⟨x, y, a, b, c, d, hRS i hi i hi x y a b e⟩
  dis := h.dis
  jn i hi j hj hij := by
    obtain ⟨x, y, a, b, c⟩ := h.jn i hi j hj hij
    exact ⟨x, y, a, b, hRS i hi j hj x y a b c⟩

/-- Who is in a set has a neighbour. -/
theorem KM.near {R : Nat → Nat → Prop} {k : Nat} {B : Nat → Nat → Prop} (h : KM R k B) (hk : 2 ≤ k) {i x : Nat} (hi : i < k) (hx : B i x) : ∃ y, R x y := by
  by_cases c : ∃ y, B i y ∧ ¬ y = x
  · obtain ⟨a, b, _, _, e, _, r⟩ := h.conn i hi (· = x) ⟨x, hx, rfl⟩ c
    exact ⟨b, e ▸ r⟩
  · have key : ∀ y, B i y → y = x := fun y hy => Classical.byContradiction fun h => c ⟨y, hy, h⟩
    obtain ⟨a, b, ha, _, r⟩ := h.jn i hi (if i = 0 then 1 else 0) (by split <;> omega) (by split <;> omega)
    exact ⟨b, key a ha ▸ r⟩
theorem KM.none {R : Nat → Nat → Prop} {k : Nat} {B : Nat → Nat → Prop} (h : KM R k B) (hk : 2 ≤ k) (hR : ∀ x y, ¬ R x y) : False := by
  obtain ⟨x, hx⟩ := h.ne 0 (by omega)
  obtain ⟨y, hy⟩ := h.near hk (by omega) hx
  exact hR x y hy

/-- What is left when a vertex goes whose neighbours are joined to each other first. -/
def goneR (R : Nat → Nat → Prop) (v : Nat) : Nat → Nat → Prop := fun x y => x ≠ v ∧ y ≠ v ∧ x ≠ y ∧ (R x y ∨ (R v x ∧ R v y))
theorem KM.gone {R : Nat → Nat → Prop} {k : Nat} {B : Nat → Nat → Prop} (hs : ∀ x y, R x y → R y x) (h : KM R k B) {v : Nat} {l : List Nat} (hl : l.length + 2 ≤ k) (hN : ∀ x, R v x → x ∈ l) :
    KM (goneR R v) k fun i x => B i x ∧ x ≠ v := by
  have hne : ∀ i, i < k → ∃ x, B i x ∧ x ≠ v := by
    intro i hi
    refine Classical.byContradiction fun hno => ?_
    have hall : ∀ x, B i x → x = v := fun x hx => Classical.byContradiction fun h => hno ⟨x, hx, h⟩
    have hj : ∀ j, j < k → i ≠ j → ∃ y, B j y ∧ R v y := fun j hj hij => by
      obtain ⟨x, y, a, b, c⟩ := h.jn i hi j hj hij
      exact ⟨y, b, hall x a ▸ c⟩
    classical
    let f : Nat → Nat := fun j => if hh : ∃ y, B j y ∧ R v y then hh.choose else 0
    have hf : ∀ j, j < k → i ≠ j → B j (f j) ∧ R v (f j) := fun j hj1 hij => by
      have hh := hj j hj1 hij
      show B j (if hh : ∃ y, B j y ∧ R v y then hh.choose else 0) ∧ R v (if hh : ∃ y, B j y ∧ R v y then hh.choose else 0)
      rw [dif_pos hh]
      exact hh.choose_spec
    have hsub := sub_len (((List.range k).filter fun j => decide (j ≠ i)).map f) l (by
        rw [List.Nodup, List.pairwise_map]
        refine (List.Pairwise.and_mem.1 (List.Pairwise.filter (fun j => decide (j ≠ i)) (List.nodup_range (n := k)))).imp fun {a b} hab => ?_
        obtain ⟨ha, hb, hne⟩ := hab
        rw [List.mem_filter, List.mem_range, decide_eq_true_eq] at ha hb
        intro e
        exact hne (h.dis a ha.1 b hb.1 (f a) (hf a ha.1 (Ne.symm ha.2)).1 (e ▸ (hf b hb.1 (Ne.symm hb.2)).1))) fun x hx => by
        obtain ⟨j, hj1, rfl⟩ := List.mem_map.1 hx
        rw [List.mem_filter, List.mem_range, decide_eq_true_eq] at hj1
        exact hN _ (hf j hj1.1 (Ne.symm hj1.2)).2
    rw [List.length_map] at hsub
    have hcount : k ≤ ((List.range k).filter fun j => decide (j ≠ i)).length + 1 := by
      have h1 := List.length_eq_countP_add_countP (fun j => decide (j ≠ i)) (l := List.range k)
      rw [List.length_range, List.countP_eq_length_filter, List.countP_eq_length_filter] at h1
      have h2 : ((List.range k).filter fun a => decide (¬ decide (a ≠ i) = true)).length ≤ 1 := by
        have := sub_len ((List.range k).filter fun a => decide (¬ decide (a ≠ i) = true)) [i] (List.Pairwise.filter _ List.nodup_range) fun x hx => by
          rw [List.mem_filter, decide_eq_true_eq, decide_eq_true_eq] at hx
          have := hx.2
          simp only [ne_eq, Decidable.not_not] at this
          simp [this]
        simpa using this
      omega
    omega
  refine ⟨hne, fun i hi P hp hq => ?_, fun i hi j hj x hx hy => h.dis i hi j hj x hx.1 hy.1, fun i hi j hj hij => ?_⟩
  · obtain ⟨x0, ⟨hx0, hx0v⟩, hpx0⟩ := hp
    obtain ⟨x1, ⟨hx1, hx1v⟩, hpx1⟩ := hq
    by_cases c : ∃ n, B i n ∧ n ≠ v ∧ R v n ∧ P n
    · obtain ⟨n, hn1, hn2, hn3, hn4⟩ := c
      obtain ⟨x, y, a, b, hx, hy, r⟩ := h.conn i hi (fun x => x = v ∨ P x) ⟨x0, hx0, .inr hpx0⟩ ⟨x1, hx1, fun e => e.elim hx1v hpx1⟩
      have hyv : y ≠ v := fun e => hy (.inl e)
      have hyP : ¬ P y := fun e => hy (.inr e)
      by_cases e : x = v
      · subst e
        exact ⟨n, y, ⟨hn1, hn2⟩, ⟨b, hyv⟩, hn4, hyP, hn2, hyv, fun e => hyP (e ▸ hn4), .inr ⟨hn3, r⟩⟩
      · have hxP := hx.resolve_left e
        exact ⟨x, y, ⟨a, e⟩, ⟨b, hyv⟩, hxP, hyP, e, hyv, fun e => hyP (e ▸ hxP), .inl r⟩
    · obtain ⟨x, y, a, b, ⟨hxv, hxP⟩, hy, r⟩ := h.conn i hi (fun x => x ≠ v ∧ P x) ⟨x0, hx0, hx0v, hpx0⟩ ⟨x1, hx1, fun e => hpx1 e.2⟩
      have hyv : y ≠ v := fun e => c ⟨x, a, hxv, e ▸ hs _ _ r, hxP⟩
      have hyP : ¬ P y := fun e => hy ⟨hyv, e⟩
      exact ⟨x, y, ⟨a, hxv⟩, ⟨b, hyv⟩, hxP, hyP, hxv, hyv, fun e => hyP (e ▸ hxP), .inl r⟩
  · obtain ⟨x, y, a, b, r⟩ := h.jn i hi j hj hij
    by_cases ex : x = v
    · subst ex
      have hy : y ≠ x := fun e => hij (h.dis i hi j hj x a (e ▸ b))
      obtain ⟨x', hx', hx'v⟩ := hne i hi
      obtain ⟨z, y', _, hy', rfl, hy'v, r'⟩ := h.conn i hi (· = x) ⟨x, a, rfl⟩ ⟨x', hx', hx'v⟩
      exact ⟨y', y, ⟨hy', hy'v⟩, ⟨b, hy⟩, hy'v, hy, fun e => hij (h.dis i hi j hj y' hy' (e ▸ b)), .inr ⟨r', r⟩⟩
    · by_cases ey : y = v
      · subst ey
        obtain ⟨x', hx', hx'v⟩ := hne j hj
        obtain ⟨z, y', _, hy', rfl, hy'v, r'⟩ := h.conn j hj (· = y) ⟨y, b, rfl⟩ ⟨x', hx', hx'v⟩
        exact ⟨x, y', ⟨a, ex⟩, ⟨hy', hy'v⟩, ex, hy'v, fun e => hij (h.dis i hi j hj x a (e ▸ hy')), .inr ⟨hs _ _ r, r'⟩⟩
      · exact ⟨x, y, ⟨a, ex⟩, ⟨b, ey⟩, ex, ey, fun e => hij (h.dis i hi j hj x a (e ▸ b)), .inl r⟩

/-- A vertex of two neighbours at most comes back. -/
theorem KM.back {R : Nat → Nat → Prop} {k : Nat} {B : Nat → Nat → Prop} (hs : ∀ x y, R x y → R y x) {v a b : Nat} (hN : ∀ x, R v x → x = a ∨ x = b) (h : KM (goneR R v) k B) (hk : 2 ≤ k) :
    ∃ C, KM R k C := by
  have hv : ∀ i, i < k → ¬ B i v := fun i hi hb => by
    obtain ⟨y, hy⟩ := h.near hk hi hb
    exact hy.1 rfl
  by_cases hab : R v a ∧ R v b ∧ a ≠ b
  · obtain ⟨ha, hb, hab⟩ := hab
    have two : ∀ x y, R v x → R v y → x ≠ y → (x = a ∧ y = b) ∨ (x = b ∧ y = a) := fun x y h1 h2 h3 => by
      rcases hN x h1 with e | e <;> rcases hN y h2 with e' | e'
      · exact absurd (e.trans e'.symm) h3
      · exact .inl ⟨e, e'⟩
      · exact .inr ⟨e, e'⟩
      · exact absurd (e.trans e'.symm) h3
    refine ⟨fun i x => B i x ∨ (x = v ∧ B i a), fun i hi => ?_, fun i hi P hp hq => ?_, fun i hi j hj x hx hy => ?_, fun i hi j hj hij => ?_⟩
    · obtain ⟨x, hx⟩ := h.ne i hi
      exact ⟨x, .inl hx⟩
    · by_cases c : (∃ x, B i x ∧ P x) ∧ (∃ x, B i x ∧ ¬ P x)
      · obtain ⟨x, y, h1, h2, h3, h4, _, _, hne, r | ⟨r1, r2⟩⟩ := h.conn i hi P c.1 c.2
        · exact ⟨x, y, .inl h1, .inl h2, h3, h4, r⟩
        · have hia : B i a := by
            rcases two x y r1 r2 hne with ⟨e, _⟩ | ⟨_, e⟩
            · exact e ▸ h1
            · exact e ▸ h2
          by_cases hpv : P v
          · exact ⟨v, y, .inr ⟨rfl, hia⟩, .inl h2, hpv, h4, r2⟩
          · exact ⟨x, v, .inl h1, .inr ⟨rfl, hia⟩, h3, hpv, hs _ _ r1⟩
      · obtain ⟨x0, hx0, hp0⟩ := hp
        obtain ⟨x1, hx1, hp1⟩ := hq
        rcases hx0 with hx0 | ⟨rfl, hx0⟩
        · rcases hx1 with hx1 | ⟨rfl, hx1⟩
          · exact absurd ⟨⟨x0, hx0, hp0⟩, ⟨x1, hx1, hp1⟩⟩ c
          · refine ⟨a, x1, .inl hx1, .inr ⟨rfl, hx1⟩, Classical.byContradiction fun hpa => c ⟨⟨x0, hx0, hp0⟩, ⟨a, hx1, hpa⟩⟩, hp1, hs _ _ ha⟩
        · rcases hx1 with hx1 | ⟨rfl, hx1⟩
          · refine ⟨x0, a, .inr ⟨rfl, hx0⟩, .inl hx0, hp0, fun hpa => c ⟨⟨a, hx0, hpa⟩, ⟨x1, hx1, hp1⟩⟩, ha⟩
          · exact absurd hp0 hp1
    · rcases hx with hx | ⟨rfl, hx⟩
      · rcases hy with hy | ⟨rfl, hy⟩
        · exact h.dis i hi j hj x hx hy
        · exact absurd hx (hv i hi)
      · rcases hy with hy | ⟨_, hy⟩
        · exact absurd hy (hv j hj)
        · exact h.dis i hi j hj a hx hy
    · obtain ⟨x, y, h1, h2, _, _, hne, r | ⟨r1, r2⟩⟩ := h.jn i hi j hj hij
      · exact ⟨x, y, .inl h1, .inl h2, r⟩
      · rcases two x y r1 r2 hne with ⟨rfl, rfl⟩ | ⟨rfl, rfl⟩
        · exact ⟨v, y, .inr ⟨rfl, h1⟩, .inl h2, r2⟩
        · exact ⟨x, v, .inl h1, .inr ⟨rfl, h2⟩, hs _ _ r1⟩
  · refine ⟨B, h.mono fun i hi j hj x y hx hy r => ?_⟩
    obtain ⟨_, _, hne, r | ⟨r1, r2⟩⟩ := r
    · exact r
    · refine absurd ?_ hab
      rcases hN x r1 with rfl | rfl <;> rcases hN y r2 with rfl | rfl
      · exact absurd rfl hne
      · exact ⟨r1, r2, hne⟩
      · exact ⟨r2, r1, Ne.symm hne⟩
      · exact absurd rfl hne

/-- What is left when an edge is contracted into its first end. -/
def conR (R : Nat → Nat → Prop) (u v : Nat) : Nat → Nat → Prop := fun x y => x ≠ v ∧ y ≠ v ∧ x ≠ y ∧ (R x y ∨ (x = u ∧ R v y) ∨ (y = u ∧ R v x))
theorem KM.contr {R : Nat → Nat → Prop} {k : Nat} {B : Nat → Nat → Prop} (hs : ∀ x y, R x y → R y x) (h : KM R k B) {u v i0 : Nat} (huv : u ≠ v) (hi0 : i0 < k) (hu : B i0 u) (hv : B i0 v) :
    KM (conR R u v) k fun i x => B i x ∧ x ≠ v := by
  refine ⟨fun i hi => ?_, fun i hi P hp hq => ?_, fun i hi j hj x hx hy => h.dis i hi j hj x hx.1 hy.1, fun i hi j hj hij => ?_⟩
  · obtain ⟨x, hx⟩ := h.ne i hi
    by_cases e : x = v
    · subst e
      obtain rfl := h.dis i hi i0 hi0 x hx hv
      exact ⟨u, hu, huv⟩
    · exact ⟨x, hx, e⟩
  · obtain ⟨x0, ⟨hx0, hx0v⟩, hpx0⟩ := hp
    obtain ⟨x1, ⟨hx1, hx1v⟩, hpx1⟩ := hq
    have key : ∀ z, B i z → B i (if z = v then u else z) ∧ (if z = v then u else z) ≠ v := fun z hz => by
      by_cases e : z = v
      · rw [if_pos e]
        subst e
        obtain rfl := h.dis i hi i0 hi0 z hz hv
        exact ⟨hu, huv⟩
      · rw [if_neg e]; exact ⟨hz, e⟩
    obtain ⟨x, y, a, b, hx, hy, r⟩ := h.conn i hi (fun z => P (if z = v then u else z)) ⟨x0, hx0, by rw [if_neg hx0v]; exact hpx0⟩ ⟨x1, hx1, by rw [if_neg hx1v]; exact hpx1⟩
    refine ⟨_, _, key x a, key y b, hx, hy, (key x a).2, (key y b).2, fun e => hy (by rw [← e]; exact hx), ?_⟩
    by_cases ex : x = v
    · rw [if_pos ex]
      by_cases ey : y = v
      · subst ex ey; exact absurd hx hy
      · rw [if_neg ey]; exact .inr (.inl ⟨rfl, ex ▸ r⟩)
    · rw [if_neg ex]
      by_cases ey : y = v
      · rw [if_pos ey]; exact .inr (.inr ⟨rfl, ey ▸ hs _ _ r⟩)
      · rw [if_neg ey]; exact .inl r
  · obtain ⟨x, y, a, b, r⟩ := h.jn i hi j hj hij
    by_cases ex : x = v
    · subst ex
      obtain rfl := h.dis i hi i0 hi0 x a hv
      have hyx : y ≠ x := fun e => hij (h.dis i hi j hj x a (e ▸ b))
      exact ⟨u, y, ⟨hu, huv⟩, ⟨b, hyx⟩, huv, hyx, fun e => hij (h.dis i hi j hj u hu (e ▸ b)), .inr (.inl ⟨rfl, r⟩)⟩
    · by_cases ey : y = v
      · subst ey
        obtain rfl := h.dis j hj i0 hi0 y b hv
        exact ⟨x, u, ⟨a, ex⟩, ⟨hu, huv⟩, ex, huv, fun e => hij (h.dis i hi j hj x a (e ▸ hu)), .inr (.inr ⟨rfl, hs _ _ r⟩)⟩
      · exact ⟨x, y, ⟨a, ex⟩, ⟨b, ey⟩, ex, ey, fun e => hij (h.dis i hi j hj x a (e ▸ b)), .inl r⟩

end Go.Proofs.YtiooindlpinjhaaDoor

/- Plain facts, with no program in sight: cutting and contracting a graph that is not folded away, as the reference does it, and on sets of bits. -/
namespace Go.Proofs.YtiooindlpinjhaaDoor

/-- A row behind v's cutting. -/
def freeRow (g : List (List Int)) (v : Int) (u : Nat) : List Int := if (u : Int) = v then [] else lessL (row g u) v
def freeG (g : List (List Int)) (v : Int) : List (List Int) := (List.range g.length).map (freeRow g v)
theorem freeG_length (g : List (List Int)) (v : Int) : (freeG g v).length = g.length := by simp [freeG]
theorem row_freeG (g : List (List Int)) (v : Int) {u : Nat} (hu : u < g.length) : row (freeG g v) u = freeRow g v u := by simp [row, freeG, hu]
theorem freeRow_length (g : List (List Int)) (v : Int) (u : Nat) : (freeRow g v u).length ≤ (row g u).length := by
  unfold freeRow; split
  · simp
  · exact lessL_length _ _
theorem freeRow_yes {g : List (List Int)} {v : Int} {u : Nat} (h : (u : Int) = v) : freeRow g v u = [] := if_pos h
theorem freeRow_no {g : List (List Int)} {v : Int} {u : Nat} (h : ¬ (u : Int) = v) : freeRow g v u = lessL (row g u) v := if_neg h

theorem row_put (g : List (List Int)) (x y : Nat) (r : List Int) : row (g.set x r) y = if y = x ∧ x < g.length then r else row g y := by
  simp only [row, List.getD_eq_getElem?_getD, List.getElem?_set]
  by_cases e : x = y
  · subst e
    by_cases h : x < g.length
    · simp [h]
    · simp [h]
  · simp [e, Ne.symm e]

/-- Two more neighbours. -/
def tieG (g : List (List Int)) (u x : Nat) : List (List Int) := (g.set x (intoL (row g x) u)).set u (intoL (row (g.set x (intoL (row g x) u)) u) x)
theorem tieG_length (g : List (List Int)) (u x : Nat) : (tieG g u x).length = g.length := by simp [tieG]
theorem row_tieG (g : List (List Int)) {u x : Nat} (hu : u < g.length) (hx : x < g.length) (h : x ≠ u) (y : Nat) : row (tieG g u x) y = if y = u then intoL (row g u) x else if y = x then intoL (row g x) u else row g y := by
  unfold tieG
  rw [row_put]
  by_cases e : y = u
  · subst e
    rw [if_pos ⟨rfl, by simpa using hu⟩, if_pos rfl, row_put, if_neg (fun c => h c.1.symm)]
  · rw [if_neg (fun c => e c.1), if_neg e, row_put]
    by_cases e2 : y = x
    · rw [if_pos ⟨e2, hx⟩, if_pos e2]
    · rw [if_neg (fun c => e2 c.1), if_neg e2]
def tieStep (u : Int) (g : List (List Int)) (x : Int) : List (List Int) := if x = u then g else tieG g u.toNat x.toNat
def joinG (g : List (List Int)) (u v : Int) : List (List Int) := (row g v.toNat).foldl (tieStep u) (freeG g v)
theorem tieStep_length (u : Int) (g : List (List Int)) (x : Int) : (tieStep u g x).length = g.length := by
  unfold tieStep; split
  · rfl
  · exact tieG_length ..
theorem tieFold_length (u : Int) (l : List Int) : ∀ g : List (List Int), (l.foldl (tieStep u) g).length = g.length := by
  induction l with
  | nil => intro g; rfl
  | cons x l ih => intro g; rw [List.foldl_cons, ih, tieStep_length]
theorem joinG_length (g : List (List Int)) (u v : Int) : (joinG g u v).length = g.length := by rw [joinG, tieFold_length, freeG_length]

/-- Rows that are sets of vertices. -/
def RG (g : List (List Int)) : Prop := ∀ j, SetIn g.length (row g j)
theorem row_over {g : List (List Int)} {j : Nat} (h : g.length ≤ j) : row g j = [] := by simp [row, h]
theorem RG.of_ok {g : List (List Int)} (h : GOk g) : RG g := by
  intro j
  by_cases hj : j < g.length
  · exact (h.sets j hj).1
  · rw [row_over (by omega)]; exact setIn_nil _
theorem RG.row_le {g : List (List Int)} (h : RG g) (j : Nat) : (row g j).length ≤ g.length := by
  have := setIn_length (by omega) (h j)
  omega
theorem setIn_lessL {n : Int} {s : List Int} (h : SetIn n s) (v : Int) : SetIn n (lessL s v) := ⟨fun x hx => h.1 x (mem_lessL.1 hx).1, lessL_rising h.2 v⟩
theorem setIn_intoL {n : Int} {s : List Int} (h : SetIn n s) {v : Int} (h0 : 0 ≤ v) (hn : v < n) : SetIn n (intoL s v) := by
  refine ⟨fun x hx => ?_, intoL_rising h.2⟩
  rcases mem_intoL.1 hx with e | e
  · exact h.1 x e
  · subst e; exact ⟨h0, hn⟩
theorem RG.free {g : List (List Int)} (h : RG g) (v : Int) : RG (freeG g v) := by
  intro j
  rw [freeG_length]
  by_cases hj : j < g.length
  · rw [row_freeG g v hj]
    unfold freeRow; split
    · exact setIn_nil _
    · exact setIn_lessL (h j) v
  · rw [row_over (by rw [freeG_length]; omega)]; exact setIn_nil _
theorem RG.tie {u : Int} {g : List (List Int)} {x : Int} (h : RG g) (hu0 : 0 ≤ u) (hu : u.toNat < g.length) (hx0 : 0 ≤ x) (hx : x.toNat < g.length) : RG (tieStep u g x) := by
  intro j
  rw [tieStep_length]
  unfold tieStep
  by_cases e : x = u
  · rw [if_pos e]; exact h j
  · rw [if_neg e, row_tieG g hu hx (by omega)]
    split
    · exact setIn_intoL (h _) (by omega) (by omega)
    · split
      · exact setIn_intoL (h _) (by omega) (by omega)
      · exact h j
theorem tieStep_mem {u : Int} {g : List (List Int)} {x : Int} (hu : u.toNat < g.length) (hx : x.toNat < g.length) (hu0 : 0 ≤ u) (hx0 : 0 ≤ x) (j : Nat) (y : Int) :
    y ∈ row (tieStep u g x) j ↔ y ∈ row g j ∨ (x ≠ u ∧ (((j : Int) = x ∧ y = u) ∨ ((j : Int) = u ∧ y = x))) := by
  unfold tieStep
  by_cases e : x = u
  · rw [if_pos e]; simp [e]
  · rw [if_neg e, row_tieG g hu hx (by omega)]
    have e1 : (u.toNat : Int) = u := by omega
    have e2 : (x.toNat : Int) = x := by omega
    by_cases c : j = u.toNat
    · subst c
      rw [if_pos rfl, mem_intoL, e1, e2]
      constructor
      · rintro (h | h)
        · exact .inl h
        · exact .inr ⟨e, .inr ⟨rfl, h⟩⟩
      · rintro (h | ⟨_, ⟨h, _⟩ | ⟨_, h⟩⟩)
        · exact .inl h
        · exact absurd h.symm e
        · exact .inr h
    · rw [if_neg c]
      by_cases c2 : j = x.toNat
      · subst c2
        rw [if_pos rfl, mem_intoL, e1, e2]
        constructor
        · rintro (h | h)
          · exact .inl h
          · exact .inr ⟨e, .inl ⟨rfl, h⟩⟩
        · rintro (h | ⟨_, ⟨_, h⟩ | ⟨h, _⟩⟩)
          · exact .inl h
          · exact .inr h
          · exact absurd h e
      · rw [if_neg c2]
        constructor
        · exact .inl
        · rintro (h | ⟨_, ⟨h, _⟩ | ⟨h, _⟩⟩)
          · exact h
          · omega
          · omega
theorem tieFold_mem {u : Int} (hu0 : 0 ≤ u) (l : List Int) : ∀ g : List (List Int), u.toNat < g.length → (∀ x ∈ l, 0 ≤ x ∧ x.toNat < g.length) → RG g → RG (l.foldl (tieStep u) g) ∧
    ∀ (j : Nat) (y : Int), y ∈ row (l.foldl (tieStep u) g) j ↔ y ∈ row g j ∨ (∃ x ∈ l, x ≠ u ∧ (((j : Int) = x ∧ y = u) ∨ ((j : Int) = u ∧ y = x))) := by
  induction l with
  | nil => intro g _ _ hr; exact ⟨hr, fun j y => by simp⟩
  | cons x l ih =>
    intro g hu hl hr
    have hx := hl x (by simp)
    obtain ⟨h1, h2⟩ := ih (tieStep u g x) (by rw [tieStep_length]; exact hu) (fun y hy => by rw [tieStep_length]; exact hl y (by simp [hy])) (hr.tie hu0 hu hx.1 hx.2)
    refine ⟨h1, fun j y => ?_⟩
    rw [List.foldl_cons, h2 j y, tieStep_mem hu hx.2 hu0 hx.1]
    constructor
    · rintro ((h | h) | ⟨z, hz, h⟩)
      · exact .inl h
      · exact .inr ⟨x, by simp, h⟩
      · exact .inr ⟨z, by simp [hz], h⟩
    · rintro (h | ⟨z, hz, h⟩)
      · exact .inl (.inl h)
      · rcases List.mem_cons.1 hz with e | e
        · subst e; exact .inl (.inr h)
        · exact .inr ⟨z, e, h⟩

/-- What the contracting adds. -/
theorem joinG_mem {g : List (List Int)} {u v : Int} (hr : RG g) (hu0 : 0 ≤ u) (hu : u < g.length) : RG (joinG g u v) ∧ ∀ (j : Nat) (y : Int), y ∈ row (joinG g u v) j ↔ y ∈ row (freeG g v) j ∨ (∃ x ∈ row g v.toNat, x ≠ u ∧ (((j : Int) = x ∧ y = u) ∨ ((j : Int) = u ∧ y = x))) :=
  tieFold_mem hu0 _ _ (by rw [freeG_length]; omega) (fun x hx => by have := (hr v.toNat).1 x hx; rw [freeG_length]; omega) (hr.free v)

/-- Something is left, if one folds as long as one can. -/
def HardS (g : List (List Int)) (left : List Int) : Prop := ∃ fs l g', Folds g left fs l g' ∧ 0 < l.length
theorem hardS_iff {g : List (List Int)} {left : List Int} {fs : List Fd} {l : List Int} {g' : List (List Int)} (h : Folds g left fs l g') : HardS g left ↔ 0 < l.length := by
  constructor
  · rintro ⟨fs2, l2, g2, h2, hl⟩
    obtain ⟨_, rfl, _⟩ := folds_det h h2
    exact hl
  · exact fun hl => ⟨_, _, _, h, hl⟩

/-- Who can be cut, and which edge can be contracted. -/
noncomputable def lessOf (g : List (List Int)) (L : List Int) : Option Int := L.find? (fun v => dec (HardS (freeG g v) (lessL L v)))
noncomputable def edgeRow (g : List (List Int)) (L : List Int) (u : Int) : Option Int := (row g u.toNat).find? (fun v => dec (u < v) && dec (HardS (joinG g u v) (lessL L v)))
noncomputable def edgeF (g : List (List Int)) (L : List Int) (u : Int) : Option (Int × Int) := (edgeRow g L u).map fun v => (u, v)
noncomputable def edgeOf (g : List (List Int)) (L : List Int) : Option (Int × Int) := L.findSome? (edgeF g L)
def intoAll (s t : List Int) : List Int := t.foldl intoL s

theorem find_drop {p : Int → Bool} {l : List Int} {i : Nat} (h : i < l.length) : (l.drop i).find? p = if p l[i] = true then some l[i] else (l.drop (i + 1)).find? p := by
  rw [List.drop_eq_getElem_cons h, List.find?_cons]
  cases p l[i] <;> simp
theorem find_stop {p : Int → Bool} {l : List Int} {i : Nat} (h : l.length ≤ i) : (l.drop i).find? p = none := by rw [List.drop_of_length_le h]; rfl
theorem some_drop {f : Int → Option (Int × Int)} {l : List Int} {i : Nat} (h : i < l.length) : (l.drop i).findSome? f = (f l[i]).or ((l.drop (i + 1)).findSome? f) := by
  rw [List.drop_eq_getElem_cons h, List.findSome?_cons]
  cases f l[i] <;> simp
theorem some_stop {f : Int → Option (Int × Int)} {l : List Int} {i : Nat} (h : l.length ≤ i) : (l.drop i).findSome? f = none := by rw [List.drop_of_length_le h]; rfl

/-- The reference cuts and contracts as long as it can. -/
inductive Fours : List (List Int) → List Int → List (List Int) → List Int → List (List Int) → Prop
  | stop {g : List (List Int)} {L : List Int} {S : List (List Int)} (h1 : lessOf g L = none) (h2 : edgeOf g L = none) : Fours g L S L S
  | less {g : List (List Int)} {L : List Int} {S : List (List Int)} {v : Int} {L' : List Int} {S' : List (List Int)} (h1 : lessOf g L = some v) (h : Fours (freeG g v) (lessL L v) S L' S') : Fours g L S L' S'
  | edge {g : List (List Int)} {L : List Int} {S : List (List Int)} {u v : Int} {L' : List Int} {S' : List (List Int)} (h1 : lessOf g L = none) (h2 : edgeOf g L = some (u, v))
      (h : Fours (joinG g u v) (lessL L v) (S.set u.toNat (intoAll (row S u.toNat) (row S v.toNat))) L' S') : Fours g L S L' S'

theorem fours_det {g : List (List Int)} {L : List Int} {S : List (List Int)} {L' : List Int} {S' : List (List Int)} (h : Fours g L S L' S') : ∀ {L2 : List Int} {S2 : List (List Int)}, Fours g L S L2 S2 → L' = L2 ∧ S' = S2 := by
  induction h with
  | stop h1 h2 =>
    intro L2 S2 k
    cases k with
    | stop => exact ⟨rfl, rfl⟩
    | less k1 _ => rw [h1] at k1; cases k1
    | edge _ k2 _ => rw [h2] at k2; cases k2
  | less h1 _ ih =>
    intro L2 S2 k
    cases k with
    | stop k1 _ => rw [h1] at k1; cases k1
    | less k1 k => rw [h1] at k1; cases k1; exact ih k
    | edge k1 _ _ => rw [h1] at k1; cases k1
  | edge h1 h2 _ ih =>
    intro L2 S2 k
    cases k with
    | stop _ k2 => rw [h2] at k2; cases k2
    | less k1 _ => rw [h1] at k1; cases k1
    | edge _ k2 k => rw [h2] at k2; cases k2; exact ih k

/-- What a loop carries: whatever comes of this comes of the first. -/
def FoursOn (g0 : List (List Int)) (L0 : List Int) (S0 : List (List Int)) (g : List (List Int)) (L : List Int) (S : List (List Int)) : Prop := ∀ L' S', Fours g L S L' S' → Fours g0 L0 S0 L' S'

/-- The sets at the start, and the result. -/
def aloneL (n : Nat) : List (List Int) := (List.range n).map fun (i : Nat) => [(i : Int)]
def FourS (g : List (List Int)) (out : List (List Int)) (b : Bool) : Prop :=
  (b = false ∧ out = [] ∧ ¬ (GOk g ∧ ¬ SerS g)) ∨ (b = true ∧ GOk g ∧ ¬ SerS g ∧ ∃ L S, Fours g (allL g.length) (aloneL g.length) L S ∧ out = L.map fun v => row S v.toNat)
theorem fourS_det {g : List (List Int)} {o1 o2 : List (List Int)} {b1 b2 : Bool} (h1 : FourS g o1 b1) (h2 : FourS g o2 b2) : o1 = o2 ∧ b1 = b2 := by
  rcases h1 with ⟨rfl, rfl, h⟩ | ⟨rfl, h, h', L, S, hf, rfl⟩
  · rcases h2 with ⟨rfl, rfl, _⟩ | ⟨_, k, k', _⟩
    · exact ⟨rfl, rfl⟩
    · exact absurd ⟨k, k'⟩ h
  · rcases h2 with ⟨_, _, k⟩ | ⟨rfl, _, _, L2, S2, hf2, rfl⟩
    · exact absurd ⟨h, h'⟩ k
    · obtain ⟨rfl, rfl⟩ := fours_det hf hf2
      exact ⟨rfl, rfl⟩

end Go.Proofs.YtiooindlpinjhaaDoor
