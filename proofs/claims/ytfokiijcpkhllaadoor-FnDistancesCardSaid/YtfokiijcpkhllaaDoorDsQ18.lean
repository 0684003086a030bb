/- Plain: models of full graphs: what taking a vertex away does to them, and what contracting an edge does. -/
import Derived.Test.YtfokiijcpkhllaaDoorDsQ1
import Derived.Test.YtfokiijcpkhllaaDoorDsQ9
namespace Go.Proofs.YtfokiijcpkhllaaDoor

/-- So many sets that are connected, apart, and joined two by two. -/
structure KM (R : Nat → Nat → Prop) (k : Nat) (B : Nat → Nat → Prop) : Prop where
  ne : ∀ i, i < k → ∃ x, B i x
  conn : ∀ i, i < k → ∀ P : Nat → Prop, (∃ x, B i x ∧ P x) → (∃ x, B i x ∧ ¬ P x) → ∃ x y, B i x ∧ B i y ∧ P x ∧ ¬ P y ∧ R x y
  dis : ∀ i, i < k → ∀ j, j < k → ∀ x, B i x → B j x → i = j
  jn : ∀ i, i < k → ∀ j, j < k → i ≠ j → ∃ x y, B i x ∧ B j y ∧ R x y

theorem KM.mono {R S : Nat → Nat → Prop} {k : Nat} {B : Nat → Nat → Prop} (h : KM R k B) (hRS : ∀ i, i < k → ∀ j, j < k → ∀ x y, B i x → B j y → R x y → S x y) : KM S k B where
  ne := h.ne
  conn i hi P h1 h2 := by
    obtain ⟨x, y, a, b, c, d, e⟩ := h.conn i hi P h1 h2
    exact ⟨x, y, a, b, c, d, hRS i hi i hi x y a b e⟩
  dis := h.dis
  jn i hi j hj hij := by
    obtain ⟨x, y, a, b, c⟩ := h.jn i hi j hj hij
    exact ⟨x, y, a, b, hRS i hi j hj x y a b c⟩

/-- Who is in a set has a neighbour. -/
theorem KM.near {R : Nat → Nat → Prop} {k : Nat} {B : Nat → Nat → Prop} (h : KM R k B) (hk : 2 ≤ k) {i x : Nat} (hi : i < k) (hx : B i x) : ∃ y, R x y := by
  by_cases c : ∃ y, B i y ∧ ¬ y = x
  · obtain ⟨a, b, _, _, e, _, r⟩ := h.conn i hi (· = x) ⟨x, hx, rfl⟩ c
    exact ⟨b, e ▸ r⟩
  · have key : ∀ y, B i y → y = x := fun y hy => Classical.byContradiction fun h => c ⟨y, hy, h⟩
    obtain ⟨a, b, ha, _, r⟩ := h.jn i hi (if i = 0 then 1 else 0) (by split <;> omega) (by split <;> omega)
    exact ⟨b, key a ha ▸ r⟩
theorem KM.none {R : Nat → Nat → Prop} {k : Nat} {B : Nat → Nat → Prop} (h : KM R k B) (hk : 2 ≤ k) (hR : ∀ x y, ¬ R x y) : False := by
  obtain ⟨x, hx⟩ := h.ne 0 (by omega)
  obtain ⟨y, hy⟩ := h.near hk (by omega) hx
  exact hR x y hy

/-- What is left when a vertex goes whose neighbours are joined to each other first. -/
def goneR (R : Nat → Nat → Prop) (v : Nat) : Nat → Nat → Prop := fun x y => x ≠ v ∧ y ≠ v ∧ x ≠ y ∧ (R x y ∨ (R v x ∧ R v y))
theorem KM.gone {R : Nat → Nat → Prop} {k : Nat} {B : Nat → Nat → Prop} (hs : ∀ x y, R x y → R y x) (h : KM R k B) {v : Nat} {l : List Nat} (hl : l.length + 2 ≤ k) (hN : ∀ x, R v x → x ∈ l) :
    KM (goneR R v) k fun i x => B i x ∧ x ≠ v := by
  have hne : ∀ i, i < k → ∃ x, B i x ∧ x ≠ v := by
    intro i hi
    refine Classical.byContradiction fun hno => ?_
    have hall : ∀ x, B i x → x = v := fun x hx => Classical.byContradiction fun h => hno ⟨x, hx, h⟩
    have hj : ∀ j, j < k → i ≠ j → ∃ y, B j y ∧ R v y := fun j hj hij => by
      obtain ⟨x, y, a, b, c⟩ := h.jn i hi j hj hij
      exact ⟨y, b, hall x a ▸ c⟩
    classical
    let f : Nat → Nat := fun j => if hh : ∃ y, B j y ∧ R v y then hh.choose else 0
    have hf : ∀ j, j < k → i ≠ j → B j (f j) ∧ R v (f j) := fun j hj1 hij => by
      have hh := hj j hj1 hij
      show B j (if hh : ∃ y, B j y ∧ R v y then hh.choose else 0) ∧ R v (if hh : ∃ y, B j y ∧ R v y then hh.choose else 0)
      rw [dif_pos hh]
      exact hh.choose_spec
    have hsub := sub_len (((List.range k).filter fun j => decide (j ≠ i)).map f) l (by
        rw [List.Nodup, List.pairwise_map]
        refine (List.Pairwise.and_mem.1 (List.Pairwise.filter (fun j => decide (j ≠ i)) (List.nodup_range (n := k)))).imp fun {a b} hab => ?_
        obtain ⟨ha, hb, hne⟩ := hab
        rw [List.mem_filter, List.mem_range, decide_eq_true_eq] at ha hb
        intro e
        exact hne (h.dis a ha.1 b hb.1 (f a) (hf a ha.1 (Ne.symm ha.2)).1 (e ▸ (hf b hb.1 (Ne.symm hb.2)).1))) fun x hx => by
        obtain ⟨j, hj1, rfl⟩ := List.mem_map.1 hx
        rw [List.mem_filter, List.mem_range, decide_eq_true_eq] at hj1
        exact hN _ (hf j hj1.1 (Ne.symm hj1.2)).2
    rw [List.length_map] at hsub
    have hcount : k ≤ ((List.range k).filter fun j => decide (j ≠ i)).length + 1 := by
      have h1 := List.length_eq_countP_add_countP (fun j => decide (j ≠ i)) (l := List.range k)
      rw [List.length_range, List.countP_eq_length_filter, List.countP_eq_length_filter] at h1
      have h2 : ((List.range k).filter fun a => decide (¬ decide (a ≠ i) = true)).length ≤ 1 := by
        have := sub_len ((List.range k).filter fun a => decide (¬ decide (a ≠ i) = true)) [i] (List.Pairwise.filter _ List.nodup_range) fun x hx => by
          rw [List.mem_filter, decide_eq_true_eq, decide_eq_true_eq] at hx
          have := hx.2
          simp only [ne_eq, Decidable.not_not] at this
          simp [this]
        simpa using this
      omega
    omega
  refine ⟨hne, fun i hi P hp hq => ?_, fun i hi j hj x hx hy => h.dis i hi j hj x hx.1 hy.1, fun i hi j hj hij => ?_⟩
  · obtain ⟨x0, ⟨hx0, hx0v⟩, hpx0⟩ := hp
    obtain ⟨x1, ⟨hx1, hx1v⟩, hpx1⟩ := hq
    by_cases c : ∃ n, B i n ∧ n ≠ v ∧ R v n ∧ P n
    · obtain ⟨n, hn1, hn2, hn3, hn4⟩ := c
      obtain ⟨x, y, a, b, hx, hy, r⟩ := h.conn i hi (fun x => x = v ∨ P x) ⟨x0, hx0, .inr hpx0⟩ ⟨x1, hx1, fun e => e.elim hx1v hpx1⟩
      have hyv : y ≠ v := fun e => hy (.inl e)
      have hyP : ¬ P y := fun e => hy (.inr e)
      by_cases e : x = v
      · subst e
        exact ⟨n, y, ⟨hn1, hn2⟩, ⟨b, hyv⟩, hn4, hyP, hn2, hyv, fun e => hyP (e ▸ hn4), .inr ⟨hn3, r⟩⟩
      · have hxP := hx.resolve_left e
        exact ⟨x, y, ⟨a, e⟩, ⟨b, hyv⟩, hxP, hyP, e, hyv, fun e => hyP (e ▸ hxP), .inl r⟩
    · obtain ⟨x, y, a, b, ⟨hxv, hxP⟩, hy, r⟩ := h.conn i hi (fun x => x ≠ v ∧ P x) ⟨x0, hx0, hx0v, hpx0⟩ ⟨x1, hx1, fun e => hpx1 e.2⟩
      have hyv : y ≠ v := fun e => c ⟨x, a, hxv, e ▸ hs _ _ r, hxP⟩
      have hyP : ¬ P y := fun e => hy ⟨hyv, e⟩
      exact ⟨x, y, ⟨a, hxv⟩, ⟨b, hyv⟩, hxP, hyP, hxv, hyv, fun e => hyP (e ▸ hxP), .inl r⟩
  · obtain ⟨x, y, a, b, r⟩ := h.jn i hi j hj hij
    by_cases ex : x = v
    · subst ex
      have hy : y ≠ x := fun e => hij (h.dis i hi j hj x a (e ▸ b))
      obtain ⟨x', hx', hx'v⟩ := hne i hi
      obtain ⟨z, y', _, hy', rfl, hy'v, r'⟩ := h.conn i hi (· = x) ⟨x, a, rfl⟩ ⟨x', hx', hx'v⟩
      exact ⟨y', y, ⟨hy', hy'v⟩, ⟨b, hy⟩, hy'v, hy, fun e => hij (h.dis i hi j hj y' hy' (e ▸ b)), .inr ⟨r', r⟩⟩
    · by_cases ey : y = v
      · subst ey
        obtain ⟨x', hx', hx'v⟩ := hne j hj
        obtain ⟨z, y', _, hy', rfl, hy'v, r'⟩ := h.conn j hj (· = y) ⟨y, b, rfl⟩ ⟨x', hx', hx'v⟩
        exact ⟨x, y', ⟨a, ex⟩, ⟨hy', hy'v⟩, ex, hy'v, fun e => hij (h.dis i hi j hj x a (e ▸ hy')), .inr ⟨hs _ _ r, r'⟩⟩
      · exact ⟨x, y, ⟨a, ex⟩, ⟨b, ey⟩, ex, ey, fun e => hij (h.dis i hi j hj x a (e ▸ b)), .inl r⟩

/-- A vertex of two neighbours at most comes back. -/
theorem KM.back {R : Nat → Nat → Prop} {k : Nat} {B : Nat → Nat → Prop} (hs : ∀ x y, R x y → R y x) {v a b : Nat} (hN : ∀ x, R v x → x = a ∨ x = b) (h : KM (goneR R v) k B) (hk : 2 ≤ k) :
    ∃ C, KM R k C := by
  have hv : ∀ i, i < k → ¬ B i v := fun i hi hb => by
    obtain ⟨y, hy⟩ := h.near hk hi hb
    exact hy.1 rfl
  by_cases hab : R v a ∧ R v b ∧ a ≠ b
  · obtain ⟨ha, hb, hab⟩ := hab
    have two : ∀ x y, R v x → R v y → x ≠ y → (x = a ∧ y = b) ∨ (x = b ∧ y = a) := fun x y h1 h2 h3 => by
      rcases hN x h1 with e | e <;> rcases hN y h2 with e' | e'
      · exact absurd (e.trans e'.symm) h3
      · exact .inl ⟨e, e'⟩
      · exact .inr ⟨e, e'⟩
      · exact absurd (e.trans e'.symm) h3
    refine ⟨fun i x => B i x ∨ (x = v ∧ B i a), fun i hi => ?_, fun i hi P hp hq => ?_, fun i hi j hj x hx hy => ?_, fun i hi j hj hij => ?_⟩
    · obtain ⟨x, hx⟩ := h.ne i hi
      exact ⟨x, .inl hx⟩
    · by_cases c : (∃ x, B i x ∧ P x) ∧ (∃ x, B i x ∧ ¬ P x)
      · obtain ⟨x, y, h1, h2, h3, h4, _, _, hne, r | ⟨r1, r2⟩⟩ := h.conn i hi P c.1 c.2
        · exact ⟨x, y, .inl h1, .inl h2, h3, h4, r⟩
        · have hia : B i a := by
            rcases two x y r1 r2 hne with ⟨e, _⟩ | ⟨_, e⟩
            · exact e ▸ h1
            · exact e ▸ h2
          by_cases hpv : P v
          · exact ⟨v, y, .inr ⟨rfl, hia⟩, .inl h2, hpv, h4, r2⟩
          · exact ⟨x, v, .inl h1, .inr ⟨rfl, hia⟩, h3, hpv, hs _ _ r1⟩
      · obtain ⟨x0, hx0, hp0⟩ := hp
        obtain ⟨x1, hx1, hp1⟩ := hq
        rcases hx0 with hx0 | ⟨rfl, hx0⟩
        · rcases hx1 with hx1 | ⟨rfl, hx1⟩
          · exact absurd ⟨⟨x0, hx0, hp0⟩, ⟨x1, hx1, hp1⟩⟩ c
          · refine ⟨a, x1, .inl hx1, .inr ⟨rfl, hx1⟩, Classical.byContradiction fun hpa => c ⟨⟨x0, hx0, hp0⟩, ⟨a, hx1, hpa⟩⟩, hp1, hs _ _ ha⟩
        · rcases hx1 with hx1 | ⟨rfl, hx1⟩
          · refine ⟨x0, a, .inr ⟨rfl, hx0⟩, .inl hx0, hp0, fun hpa => c ⟨⟨a, hx0, hpa⟩, ⟨x1, hx1, hp1⟩⟩, ha⟩
          · exact absurd hp0 hp1
    · rcases hx with hx | ⟨rfl, hx⟩
      · rcases hy with hy | ⟨rfl, hy⟩
        · exact h.dis i hi j hj x hx hy
        · exact absurd hx (hv i hi)
      · rcases hy with hy | ⟨_, hy⟩
        · exact absurd hy (hv j hj)
        · exact h.dis i hi j hj a hx hy
    · obtain ⟨x, y, h1, h2, _, _, hne, r | ⟨r1, r2⟩⟩ := h.jn i hi j hj hij
      · exact ⟨x, y, .inl h1, .inl h2, r⟩
      · rcases two x y r1 r2 hne with ⟨rfl, rfl⟩ | ⟨rfl, rfl⟩
        · exact ⟨v, y, .inr ⟨rfl, h1⟩, .inl h2, r2⟩
        · exact ⟨x, v, .inl h1, .inr ⟨rfl, h2⟩, hs _ _ r1⟩
  · refine ⟨B, h.mono fun i hi j hj x y hx hy r => ?_⟩
    obtain ⟨_, _, hne, r | ⟨r1, r2⟩⟩ := r
    · exact r
    · refine absurd ?_ hab
      rcases hN x r1 with rfl | rfl <;> rcases hN y r2 with rfl | rfl
      · exact absurd rfl hne
      · exact ⟨r1, r2, hne⟩
      · exact ⟨r2, r1, Ne.symm hne⟩
      · exact absurd rfl hne

/-- What is left when an edge is contracted into its first end. -/
def conR (R : Nat → Nat → Prop) (u v : Nat) : Nat → Nat → Prop := fun x y => x ≠ v ∧ y ≠ v ∧ x ≠ y ∧ (R x y ∨ (x = u ∧ R v y) ∨ (y = u ∧ R v x))
theorem KM.contr {R : Nat → Nat → Prop} {k : Nat} {B : Nat → Nat → Prop} (hs : ∀ x y, R x y → R y x) (h : KM R k B) {u v i0 : Nat} (huv : u ≠ v) (hi0 : i0 < k) (hu : B i0 u) (hv : B i0 v) :
    KM (conR R u v) k fun i x => B i x ∧ x ≠ v := by
  refine ⟨fun i hi => ?_, fun i hi P hp hq => ?_, fun i hi j hj x hx hy => h.dis i hi j hj x hx.1 hy.1, fun i hi j hj hij => ?_⟩
  · obtain ⟨x, hx⟩ := h.ne i hi
    by_cases e : x = v
    · subst e
      obtain rfl := h.dis i hi i0 hi0 x hx hv
      exact ⟨u, hu, huv⟩
    · exact ⟨x, hx, e⟩
  · obtain ⟨x0, ⟨hx0, hx0v⟩, hpx0⟩ := hp
    obtain ⟨x1, ⟨hx1, hx1v⟩, hpx1⟩ := hq
    have key : ∀ z, B i z → B i (if z = v then u else z) ∧ (if z = v then u else z) ≠ v := fun z hz => by
      by_cases e : z = v
      · rw [if_pos e]
        subst e
        obtain rfl := h.dis i hi i0 hi0 z hz hv
        exact ⟨hu, huv⟩
      · rw [if_neg e]; exact ⟨hz, e⟩
    obtain ⟨x, y, a, b, hx, hy, r⟩ := h.conn i hi (fun z => P (if z = v then u else z)) ⟨x0, hx0, by rw [if_neg hx0v]; exact hpx0⟩ ⟨x1, hx1, by rw [if_neg hx1v]; exact hpx1⟩
    refine ⟨_, _, key x a, key y b, hx, hy, (key x a).2, (key y b).2, fun e => hy (by rw [← e]; exact hx), ?_⟩
    by_cases ex : x = v
    · rw [if_pos ex]
      by_cases ey : y = v
      · subst ex ey; exact absurd hx hy
      · rw [if_neg ey]; exact .inr (.inl ⟨rfl, ex ▸ r⟩)
    · rw [if_neg ex]
      by_cases ey : y = v
      · rw [if_pos ey]; exact .inr (.inr ⟨rfl, ey ▸ hs _ _ r⟩)
      · rw [if_neg ey]; exact .inl r
  · obtain ⟨x, y, a, b, r⟩ := h.jn i hi j hj hij
    by_cases ex : x = v
    · subst ex
      obtain rfl := h.dis i hi i0 hi0 x a hv
      have hyx : y ≠ x := fun e => hij (h.dis i hi j hj x a (e ▸ b))
      exact ⟨u, y, ⟨hu, huv⟩, ⟨b, hyx⟩, huv, hyx, fun e => hij (h.dis i hi j hj u hu (e ▸ b)), .inr (.inl ⟨rfl, r⟩)⟩
    · by_cases ey : y = v
      · subst ey
        obtain rfl := h.dis j hj i0 hi0 y b hv
        exact ⟨x, u, ⟨a, ex⟩, ⟨hu, huv⟩, ex, huv, fun e => hij (h.dis i hi j hj x a (e ▸ hu)), .inr (.inr ⟨rfl, hs _ _ r⟩)⟩
      · exact ⟨x, y, ⟨a, ex⟩, ⟨b, ey⟩, ex, ey, fun e => hij (h.dis i hi j hj x a (e ▸ b)), .inl r⟩

end Go.Proofs.YtfokiijcpkhllaaDoor

/- Plain: each graph of six vertices at most in which no vertex has one or two neighbours, and some edge is, has a model of the full graph of four. -/
namespace Go.Proofs.YtfokiijcpkhllaaDoor

/-- The bit of an edge. -/
def bitVd (u v : Nat) : Nat := if u < v then v * (v - 1) / 2 + u else u * (u - 1) / 2 + v
theorem bitVd_comm (u v : Nat) : bitVd u v = bitVd v u := by
  unfold bitVd
  by_cases h : u < v
  · rw [if_pos h, if_neg (by omega)]
  · by_cases h2 : v < u
    · rw [if_neg h, if_pos h2]
    · obtain rfl : u = v := by omega
      rfl
/-- The edges between two lists. -/
def joinVd (A B : List Nat) : Nat := A.foldl (fun m x => B.foldl (fun m y => m ||| 2 ^ bitVd x y) m) 0
theorem joinVd_in {c x : Nat} (B : List Nat) : ∀ m, c &&& B.foldl (fun m y => m ||| 2 ^ bitVd x y) m ≠ 0 → c &&& m ≠ 0 ∨ ∃ y ∈ B, c.testBit (bitVd x y) = true := by
  induction B with
  | nil => intro m h; exact .inl h
  | cons y B ih =>
    intro m h
    rcases ih _ h with h | ⟨z, hz, h⟩
    · by_cases e : c.testBit (bitVd x y) = true
      · exact .inr ⟨y, by simp, e⟩
      · refine .inl fun h0 => h (Nat.eq_of_testBit_eq fun i => ?_)
        have := congrArg (Nat.testBit · i) h0
        simp only [Nat.testBit_and, Nat.zero_testBit, Nat.testBit_or] at this ⊢
        by_cases ei : i = bitVd x y
        · subst ei
          have e' : c.testBit (bitVd x y) = false := by simpa using e
          rw [e']; rfl
        · rw [Nat.testBit_two_pow_of_ne (Ne.symm ei), Bool.or_false, this]
    · exact .inr ⟨z, by simp [hz], h⟩
theorem joinVd_out {c : Nat} {B : List Nat} (A : List Nat) : ∀ m, c &&& A.foldl (fun m x => B.foldl (fun m y => m ||| 2 ^ bitVd x y) m) m ≠ 0 → c &&& m ≠ 0 ∨ ∃ x ∈ A, ∃ y ∈ B, c.testBit (bitVd x y) = true := by
  induction A with
  | nil => intro m h; exact .inl h
  | cons x A ih =>
    intro m h
    rcases ih _ h with h | ⟨z, hz, h⟩
    · rcases joinVd_in B m h with h | ⟨y, hy, h⟩
      · exact .inl h
      · exact .inr ⟨x, by simp, y, hy, h⟩
    · exact .inr ⟨z, by simp [hz], h⟩
theorem joinVd_hit {c : Nat} {A B : List Nat} (h : c &&& joinVd A B ≠ 0) : ∃ x ∈ A, ∃ y ∈ B, c.testBit (bitVd x y) = true := by
  rcases joinVd_out A 0 h with h | h
  · rw [Nat.and_zero] at h; exact absurd rfl h
  · exact h

/-- What a set of a model needs: each vertex an edge to the rest. -/
def wholeVd (B : List Nat) : List Nat := if B.length ≤ 1 then [] else B.map fun x => joinVd [x] (B.filter (· != x))
def condsVd (M : List (List Nat)) : List Nat := M.flatMap wholeVd ++ (List.range 4).flatMap fun i => (List.range i).map fun j => joinVd (M.getD i []) (M.getD j [])
def shapeVd (M : List (List Nat)) : Bool := M.length == 4 && M.all (fun B => decide (1 ≤ B.length) && decide (B.length ≤ 3)) && decide M.flatten.Nodup && M.all (fun B => B.all (· < 6))

def modsVd : List (List (List Nat)) := [
  [[0], [1], [2], [3]],
  [[0], [1], [2], [4]],
  [[0], [1], [2], [5]],
  [[0], [1], [3], [4]],
  [[0], [1], [3], [5]],
  [[0], [1], [4], [5]],
  [[0], [2], [3], [4]],
  [[0], [2], [3], [5]],
  [[0], [2], [4], [5]],
  [[0], [3], [4], [5]],
  [[1], [2], [3], [4]],
  [[1], [2], [3], [5]],
  [[1], [2], [4], [5]],
  [[1], [3], [4], [5]],
  [[2], [3], [4], [5]],
  [[0, 1], [2], [3], [4]],
  [[0, 1], [2], [3], [5]],
  [[0, 1], [2], [4], [5]],
  [[0, 1], [3], [4], [5]],
  [[0, 2], [1], [3], [4]],
  [[0, 2], [1], [3], [5]],
  [[0, 2], [1], [4], [5]],
  [[0, 2], [3], [4], [5]],
  [[0, 3], [1], [2], [4]],
  [[0, 3], [1], [2], [5]],
  [[0, 3], [1], [4], [5]],
  [[0, 3], [2], [4], [5]],
  [[0, 4], [1], [2], [3]],
  [[0, 4], [1], [2], [5]],
  [[0, 4], [1], [3], [5]],
  [[0, 4], [2], [3], [5]],
  [[0, 5], [1], [2], [3]],
  [[0, 5], [1], [2], [4]],
  [[0, 5], [1], [3], [4]],
  [[0, 5], [2], [3], [4]],
  [[1, 2], [0], [3], [4]],
  [[1, 2], [0], [3], [5]],
  [[1, 2], [0], [4], [5]],
  [[1, 2], [3], [4], [5]],
  [[1, 3], [0], [2], [4]],
  [[1, 3], [0], [2], [5]],
  [[1, 3], [0], [4], [5]],
  [[1, 3], [2], [4], [5]],
  [[1, 4], [0], [2], [3]],
  [[1, 4], [0], [2], [5]],
  [[1, 4], [0], [3], [5]],
  [[1, 4], [2], [3], [5]],
  [[1, 5], [0], [2], [3]],
  [[1, 5], [0], [2], [4]],
  [[1, 5], [0], [3], [4]],
  [[1, 5], [2], [3], [4]],
  [[2, 3], [0], [1], [4]],
  [[2, 3], [0], [1], [5]],
  [[2, 3], [0], [4], [5]],
  [[2, 3], [1], [4], [5]],
  [[2, 4], [0], [1], [3]],
  [[2, 4], [0], [1], [5]],
  [[2, 4], [0], [3], [5]],
  [[2, 4], [1], [3], [5]],
  [[2, 5], [0], [1], [3]],
  [[2, 5], [0], [1], [4]],
  [[2, 5], [0], [3], [4]],
  [[2, 5], [1], [3], [4]],
  [[3, 4], [0], [1], [2]],
  [[3, 4], [0], [1], [5]],
  [[3, 4], [0], [2], [5]],
  [[3, 4], [1], [2], [5]],
  [[3, 5], [0], [1], [2]],
  [[3, 5], [0], [1], [4]],
  [[3, 5], [0], [2], [4]],
  [[3, 5], [1], [2], [4]],
  [[4, 5], [0], [1], [2]],
  [[4, 5], [0], [1], [3]],
  [[4, 5], [0], [2], [3]],
  [[4, 5], [1], [2], [3]],
  [[0, 1, 2], [3], [4], [5]],
  [[0, 1, 3], [2], [4], [5]],
  [[0, 1, 4], [2], [3], [5]],
  [[0, 1, 5], [2], [3], [4]],
  [[0, 2, 3], [1], [4], [5]],
  [[0, 2, 4], [1], [3], [5]],
  [[0, 2, 5], [1], [3], [4]],
  [[0, 3, 4], [1], [2], [5]],
  [[0, 3, 5], [1], [2], [4]],
  [[0, 4, 5], [1], [2], [3]],
  [[1, 2, 3], [0], [4], [5]],
  [[1, 2, 4], [0], [3], [5]],
  [[1, 2, 5], [0], [3], [4]],
  [[1, 3, 4], [0], [2], [5]],
  [[1, 3, 5], [0], [2], [4]],
  [[1, 4, 5], [0], [2], [3]],
  [[2, 3, 4], [0], [1], [5]],
  [[2, 3, 5], [0], [1], [4]],
  [[2, 4, 5], [0], [1], [3]],
  [[3, 4, 5], [0], [1], [2]],
  [[0, 1], [2, 3], [4], [5]],
  [[0, 1], [2, 4], [3], [5]],
  [[0, 1], [2, 5], [3], [4]],
  [[0, 1], [3, 4], [2], [5]],
  [[0, 1], [3, 5], [2], [4]],
  [[0, 1], [4, 5], [2], [3]],
  [[0, 2], [1, 3], [4], [5]],
  [[0, 2], [1, 4], [3], [5]],
  [[0, 2], [1, 5], [3], [4]],
  [[0, 2], [3, 4], [1], [5]],
  [[0, 2], [3, 5], [1], [4]],
  [[0, 2], [4, 5], [1], [3]],
  [[0, 3], [1, 2], [4], [5]],
  [[0, 3], [1, 4], [2], [5]],
  [[0, 3], [1, 5], [2], [4]],
  [[0, 3], [2, 4], [1], [5]],
  [[0, 3], [2, 5], [1], [4]],
  [[0, 3], [4, 5], [1], [2]],
  [[0, 4], [1, 2], [3], [5]],
  [[0, 4], [1, 3], [2], [5]],
  [[0, 4], [1, 5], [2], [3]],
  [[0, 4], [2, 3], [1], [5]],
  [[0, 4], [2, 5], [1], [3]],
  [[0, 4], [3, 5], [1], [2]],
  [[0, 5], [1, 2], [3], [4]],
  [[0, 5], [1, 3], [2], [4]],
  [[0, 5], [1, 4], [2], [3]],
  [[0, 5], [2, 3], [1], [4]],
  [[0, 5], [2, 4], [1], [3]],
  [[0, 5], [3, 4], [1], [2]],
  [[1, 2], [3, 4], [0], [5]],
  [[1, 2], [3, 5], [0], [4]],
  [[1, 2], [4, 5], [0], [3]],
  [[1, 3], [2, 4], [0], [5]],
  [[1, 3], [2, 5], [0], [4]],
  [[1, 3], [4, 5], [0], [2]],
  [[1, 4], [2, 3], [0], [5]],
  [[1, 4], [2, 5], [0], [3]],
  [[1, 4], [3, 5], [0], [2]],
  [[1, 5], [2, 3], [0], [4]],
  [[1, 5], [2, 4], [0], [3]],
  [[1, 5], [3, 4], [0], [2]],
  [[2, 3], [4, 5], [0], [1]],
  [[2, 4], [3, 5], [0], [1]],
  [[2, 5], [3, 4], [0], [1]]]
def condVd : List (List Nat) := [
  [1, 2, 4, 8, 16, 32],
  [1, 2, 4, 64, 128, 256],
  [1, 2, 4, 1024, 2048, 4096],
  [1, 8, 16, 64, 128, 512],
  [1, 8, 16, 1024, 2048, 8192],
  [1, 64, 128, 1024, 2048, 16384],
  [2, 8, 32, 64, 256, 512],
  [2, 8, 32, 1024, 4096, 8192],
  [2, 64, 256, 1024, 4096, 16384],
  [8, 64, 512, 1024, 8192, 16384],
  [4, 16, 32, 128, 256, 512],
  [4, 16, 32, 2048, 4096, 8192],
  [4, 128, 256, 2048, 4096, 16384],
  [16, 128, 512, 2048, 8192, 16384],
  [32, 256, 512, 4096, 8192, 16384],
  [1, 1, 6, 24, 32, 192, 256, 512],
  [1, 1, 6, 24, 32, 3072, 4096, 8192],
  [1, 1, 6, 192, 256, 3072, 4096, 16384],
  [1, 1, 24, 192, 512, 3072, 8192, 16384],
  [2, 2, 5, 40, 16, 320, 128, 512],
  [2, 2, 5, 40, 16, 5120, 2048, 8192],
  [2, 2, 5, 320, 128, 5120, 2048, 16384],
  [2, 2, 40, 320, 512, 5120, 8192, 16384],
  [8, 8, 17, 34, 4, 576, 128, 256],
  [8, 8, 17, 34, 4, 9216, 2048, 4096],
  [8, 8, 17, 576, 128, 9216, 2048, 16384],
  [8, 8, 34, 576, 256, 9216, 4096, 16384],
  [64, 64, 129, 258, 4, 520, 16, 32],
  [64, 64, 129, 258, 4, 17408, 2048, 4096],
  [64, 64, 129, 520, 16, 17408, 2048, 8192],
  [64, 64, 258, 520, 32, 17408, 4096, 8192],
  [1024, 1024, 2049, 4098, 4, 8200, 16, 32],
  [1024, 1024, 2049, 4098, 4, 16448, 128, 256],
  [1024, 1024, 2049, 8200, 16, 16448, 128, 512],
  [1024, 1024, 4098, 8200, 32, 16448, 256, 512],
  [4, 4, 3, 48, 8, 384, 64, 512],
  [4, 4, 3, 48, 8, 6144, 1024, 8192],
  [4, 4, 3, 384, 64, 6144, 1024, 16384],
  [4, 4, 48, 384, 512, 6144, 8192, 16384],
  [16, 16, 9, 36, 2, 640, 64, 256],
  [16, 16, 9, 36, 2, 10240, 1024, 4096],
  [16, 16, 9, 640, 64, 10240, 1024, 16384],
  [16, 16, 36, 640, 256, 10240, 4096, 16384],
  [128, 128, 65, 260, 2, 528, 8, 32],
  [128, 128, 65, 260, 2, 18432, 1024, 4096],
  [128, 128, 65, 528, 8, 18432, 1024, 8192],
  [128, 128, 260, 528, 32, 18432, 4096, 8192],
  [2048, 2048, 1025, 4100, 2, 8208, 8, 32],
  [2048, 2048, 1025, 4100, 2, 16512, 64, 256],
  [2048, 2048, 1025, 8208, 8, 16512, 64, 512],
  [2048, 2048, 4100, 8208, 32, 16512, 256, 512],
  [32, 32, 10, 20, 1, 768, 64, 128],
  [32, 32, 10, 20, 1, 12288, 1024, 2048],
  [32, 32, 10, 768, 64, 12288, 1024, 16384],
  [32, 32, 20, 768, 128, 12288, 2048, 16384],
  [256, 256, 66, 132, 1, 544, 8, 16],
  [256, 256, 66, 132, 1, 20480, 1024, 2048],
  [256, 256, 66, 544, 8, 20480, 1024, 8192],
  [256, 256, 132, 544, 16, 20480, 2048, 8192],
  [4096, 4096, 1026, 2052, 1, 8224, 8, 16],
  [4096, 4096, 1026, 2052, 1, 16640, 64, 128],
  [4096, 4096, 1026, 8224, 8, 16640, 64, 512],
  [4096, 4096, 2052, 8224, 16, 16640, 128, 512],
  [512, 512, 72, 144, 1, 288, 2, 4],
  [512, 512, 72, 144, 1, 24576, 1024, 2048],
  [512, 512, 72, 288, 2, 24576, 1024, 4096],
  [512, 512, 144, 288, 4, 24576, 2048, 4096],
  [8192, 8192, 1032, 2064, 1, 4128, 2, 4],
  [8192, 8192, 1032, 2064, 1, 16896, 64, 128],
  [8192, 8192, 1032, 4128, 2, 16896, 64, 256],
  [8192, 8192, 2064, 4128, 4, 16896, 128, 256],
  [16384, 16384, 1088, 2176, 1, 4352, 2, 4],
  [16384, 16384, 1088, 2176, 1, 8704, 8, 16],
  [16384, 16384, 1088, 4352, 2, 8704, 8, 32],
  [16384, 16384, 2176, 4352, 4, 8704, 16, 32],
  [3, 5, 6, 56, 448, 512, 7168, 8192, 16384],
  [9, 17, 24, 38, 704, 256, 11264, 4096, 16384],
  [65, 129, 192, 262, 536, 32, 19456, 4096, 8192],
  [1025, 2049, 3072, 4102, 8216, 32, 16576, 256, 512],
  [10, 34, 40, 21, 832, 128, 13312, 2048, 16384],
  [66, 258, 320, 133, 552, 16, 21504, 2048, 8192],
  [1026, 4098, 5120, 2053, 8232, 16, 16704, 128, 512],
  [72, 520, 576, 145, 290, 4, 25600, 2048, 4096],
  [1032, 8200, 9216, 2065, 4130, 4, 16960, 128, 256],
  [1088, 16448, 17408, 2177, 4354, 4, 8712, 16, 32],
  [20, 36, 48, 11, 896, 64, 14336, 1024, 16384],
  [132, 260, 384, 67, 560, 8, 22528, 1024, 8192],
  [2052, 4100, 6144, 1027, 8240, 8, 16768, 64, 512],
  [144, 528, 640, 73, 292, 2, 26624, 1024, 4096],
  [2064, 8208, 10240, 1033, 4132, 2, 17024, 64, 256],
  [2176, 16512, 18432, 1089, 4356, 2, 8720, 8, 32],
  [288, 544, 768, 74, 148, 1, 28672, 1024, 2048],
  [4128, 8224, 12288, 1034, 2068, 1, 17152, 64, 128],
  [4352, 16640, 20480, 1090, 2180, 1, 8736, 8, 16],
  [8704, 16896, 24576, 1096, 2192, 1, 4384, 2, 4],
  [1, 1, 32, 32, 30, 192, 768, 3072, 12288, 16384],
  [1, 1, 256, 256, 198, 24, 544, 3072, 20480, 8192],
  [1, 1, 4096, 4096, 3078, 24, 8224, 192, 16640, 512],
  [1, 1, 512, 512, 216, 6, 288, 3072, 24576, 4096],
  [1, 1, 8192, 8192, 3096, 6, 4128, 192, 16896, 256],
  [1, 1, 16384, 16384, 3264, 6, 4352, 24, 8704, 32],
  [2, 2, 16, 16, 45, 320, 640, 5120, 10240, 16384],
  [2, 2, 128, 128, 325, 40, 528, 5120, 18432, 8192],
  [2, 2, 2048, 2048, 5125, 40, 8208, 320, 16512, 512],
  [2, 2, 512, 512, 360, 5, 144, 5120, 24576, 2048],
  [2, 2, 8192, 8192, 5160, 5, 2064, 320, 16896, 128],
  [2, 2, 16384, 16384, 5440, 5, 2176, 40, 8704, 16],
  [8, 8, 4, 4, 51, 576, 384, 9216, 6144, 16384],
  [8, 8, 128, 128, 593, 34, 260, 9216, 18432, 4096],
  [8, 8, 2048, 2048, 9233, 34, 4100, 576, 16512, 256],
  [8, 8, 256, 256, 610, 17, 132, 9216, 20480, 2048],
  [8, 8, 4096, 4096, 9250, 17, 2052, 576, 16640, 128],
  [8, 8, 16384, 16384, 9792, 17, 2176, 34, 4352, 4],
  [64, 64, 4, 4, 387, 520, 48, 17408, 6144, 8192],
  [64, 64, 16, 16, 649, 258, 36, 17408, 10240, 4096],
  [64, 64, 2048, 2048, 17537, 258, 4100, 520, 8208, 32],
  [64, 64, 32, 32, 778, 129, 20, 17408, 12288, 2048],
  [64, 64, 4096, 4096, 17666, 129, 2052, 520, 8224, 16],
  [64, 64, 8192, 8192, 17928, 129, 2064, 258, 4128, 4],
  [1024, 1024, 4, 4, 6147, 8200, 48, 16448, 384, 512],
  [1024, 1024, 16, 16, 10249, 4098, 36, 16448, 640, 256],
  [1024, 1024, 128, 128, 18497, 4098, 260, 8200, 528, 32],
  [1024, 1024, 32, 32, 12298, 2049, 20, 16448, 768, 128],
  [1024, 1024, 256, 256, 20546, 2049, 132, 8200, 544, 16],
  [1024, 1024, 512, 512, 24648, 2049, 144, 4098, 288, 4],
  [4, 4, 512, 512, 432, 3, 72, 6144, 24576, 1024],
  [4, 4, 8192, 8192, 6192, 3, 1032, 384, 16896, 64],
  [4, 4, 16384, 16384, 6528, 3, 1088, 48, 8704, 8],
  [16, 16, 256, 256, 676, 9, 66, 10240, 20480, 1024],
  [16, 16, 4096, 4096, 10276, 9, 1026, 640, 16640, 64],
  [16, 16, 16384, 16384, 10880, 9, 1088, 36, 4352, 2],
  [128, 128, 32, 32, 788, 65, 10, 18432, 12288, 1024],
  [128, 128, 4096, 4096, 18692, 65, 1026, 528, 8224, 8],
  [128, 128, 8192, 8192, 18960, 65, 1032, 260, 4128, 2],
  [2048, 2048, 32, 32, 12308, 1025, 10, 16512, 768, 64],
  [2048, 2048, 256, 256, 20612, 1025, 66, 8208, 544, 8],
  [2048, 2048, 512, 512, 24720, 1025, 72, 4100, 288, 2],
  [32, 32, 16384, 16384, 13056, 10, 1088, 20, 2176, 1],
  [256, 256, 8192, 8192, 21024, 66, 1032, 132, 2064, 1],
  [4096, 4096, 512, 512, 24864, 1026, 72, 2052, 144, 1]]
theorem condVd_eq : condVd = modsVd.map condsVd := by decide +kernel
theorem modsVd_ok : modsVd.all shapeVd = true := by decide +kernel

def degVd : List Nat := [1099, 2197, 4390, 8760, 17344, 31744]
/-- One or two bits. -/
def fewVd (x : Nat) : Bool := x != 0 && (x ^^^ 2 ^ x.log2 == 0 || (x ^^^ 2 ^ x.log2) ^^^ 2 ^ (x ^^^ 2 ^ x.log2).log2 == 0)
def chkVd (c : Nat) : Bool := degVd.any (fun m => fewVd (c &&& m)) || c == 0 || condVd.any fun l => l.all fun m => c &&& m != 0
def allVd (p : Nat → Bool) : Nat → Nat → Bool
  | 0, c => p c
  | k + 1, c => allVd p k (2 * c) && allVd p k (2 * c + 1)
theorem allVd_yes {p : Nat → Bool} : ∀ (k c : Nat), allVd p k c = true → ∀ x, x < 2 ^ k → p (c * 2 ^ k + x) = true
  | 0, c, h, x, hx => by
    obtain rfl : x = 0 := by omega
    rw [allVd] at h; simpa using h
  | k + 1, c, h, x, hx => by
    rw [allVd, Bool.and_eq_true] at h
    have e : 2 ^ (k + 1) = 2 * 2 ^ k := by rw [Nat.pow_succ]; omega
    by_cases hx2 : x < 2 ^ k
    · have := allVd_yes k _ h.1 x hx2
      rwa [show c * 2 ^ (k + 1) = 2 * c * 2 ^ k by rw [e, ← Nat.mul_assoc, Nat.mul_comm c 2]]
    · have := allVd_yes k _ h.2 (x - 2 ^ k) (by omega)
      rw [show (2 * c + 1) * 2 ^ k + (x - 2 ^ k) = c * 2 ^ (k + 1) + x by
        rw [e, ← Nat.mul_assoc, Nat.mul_comm c 2, Nat.add_mul]; omega] at this
      exact this
set_option maxRecDepth 100000 in
theorem chkVd_all : allVd chkVd 15 0 = true := by decide +kernel

end Go.Proofs.YtfokiijcpkhllaaDoor
