/- Plain: models of full graphs: what taking a vertex away does to them, and what contracting an edge does. -/
import Derived.Test.YtiooindlpinjhaaDoorWlQ1
import Derived.Test.YtiooindlpinjhaaDoorWlQ7
import Derived.Test.YtiooindlpinjhaaDoorWlQ5
import Derived.Test.YtiooindlpinjhaaDoorWlQ6
namespace Go.Proofs.YtiooindlpinjhaaDoor

/-- So many sets that are connected, apart, and joined two by two. -/
structure KM (R : Nat → Nat → Prop) (k : Nat) (B : Nat → Nat → Prop) : Prop where
  ne : ∀ i, i < k → ∃ x, B i x
  conn : ∀ i, i < k → ∀ P : Nat → Prop, (∃ x, B i x ∧ P x) → (∃ x, B i x ∧ ¬ P x) → ∃ x y, B i x ∧ B i y ∧ P x ∧ ¬ P y ∧ R x y
  dis : ∀ i, i < k → ∀ j, j < k → ∀ x, B i x → B j x → i = j
  jn : ∀ i, i < k → ∀ j, j < k → i ≠ j → ∃ x y, B i x ∧ B j y ∧ R x y

theorem KM.mono {R S : Nat → Nat → Prop} {k : Nat} {B : Nat → Nat → Prop} (h : KM R k B) (hRS : ∀ i, i < k → ∀ j, j < k → ∀ x y, B i x → B j y → R x y → S x y) : KM S k B where
  ne := h.ne
  conn i hi P h1 h2 := by
    obtain ⟨x, y, a, b, c, d, e⟩ := h.conn i hi P h1 h2
    exact ⟨x, y, a, b, c, d, hRS i hi i hi x y a b e⟩
  dis := h.dis
  jn i hi j hj hij := by
    obtain ⟨x, y, a, b, c⟩ := h.jn i hi j hj hij
    exact ⟨x, y, a, b, hRS i hi j hj x y a b c⟩

/-- Who is in a set has a neighbour. -/
theorem KM.near {R : Nat → Nat → Prop} {k : Nat} {B : Nat → Nat → Prop} (h : KM R k B) (hk : 2 ≤ k) {i x : Nat} (hi : i < k) (hx : B i x) : ∃ y, R x y := by
  by_cases c : ∃ y, B i y ∧ ¬ y = x
  · obtain ⟨a, b, _, _, e, _, r⟩ := h.conn i hi (· = x) ⟨x, hx, rfl⟩ c
    exact ⟨b, e ▸ r⟩
  · have key : ∀ y, B i y → y = x := fun y hy => Classical.byContradiction fun h => c ⟨y, hy, h⟩
    obtain ⟨a, b, ha, _, r⟩ := h.jn i hi (if i = 0 then 1 else 0) (by split <;> omega) (by split <;> omega)
    exact ⟨b, key a ha ▸ r⟩
theorem KM.none {R : Nat → Nat → Prop} {k : Nat} {B : Nat → Nat → Prop} (h : KM R k B) (hk : 2 ≤ k) (hR : ∀ x y, ¬ R x y) : False := by
  obtain ⟨x, hx⟩ := h.ne 0 (by omega)
  obtain ⟨y, hy⟩ := h.near hk (by omega) hx
  exact hR x y hy

/-- What is left when a vertex goes whose neighbours are joined to each other first. -/
def goneR (R : Nat → Nat → Prop) (v : Nat) : Nat → Nat → Prop := fun x y => x ≠ v ∧ y ≠ v ∧ x ≠ y ∧ (R x y ∨ (R v x ∧ R v y))
theorem KM.gone {R : Nat → Nat → Prop} {k : Nat} {B : Nat → Nat → Prop} (hs : ∀ x y, R x y → R y x) (h : KM R k B) {v : Nat} {l : List Nat} (hl : l.length + 2 ≤ k) (hN : ∀ x, R v x → x ∈ l) :
    KM (goneR R v) k fun i x => B i x ∧ x ≠ v := by
  have hne : ∀ i, i < k → ∃ x, B i x ∧ x ≠ v := by
    intro i hi
    refine Classical.byContradiction fun hno => ?_
    have hall : ∀ x, B i x → x = v := fun x hx => Classical.byContradiction fun h => hno ⟨x, hx, h⟩
    have hj : ∀ j, j < k → i ≠ j → ∃ y, B j y ∧ R v y := fun j hj hij => by
      obtain ⟨x, y, a, b, c⟩ := h.jn i hi j hj hij
      exact ⟨y, b, hall x a ▸ c⟩
    classical
    let f : Nat → Nat := fun j => if hh : ∃ y, B j y ∧ R v y then hh.choose else 0
    have hf : ∀ j, j < k → i ≠ j → B j (f j) ∧ R v (f j) := fun j hj1 hij => by
      have hh := hj j hj1 hij
      show B j (if hh : ∃ y, B j y ∧ R v y then hh.choose else 0) ∧ R v (if hh : ∃ y, B j y ∧ R v y then hh.choose else 0)
      rw [dif_pos hh]
      exact hh.choose_spec
    have hsub := sub_len (((List.range k).filter fun j => decide (j ≠ i)).map f) l (by
        rw [List.Nodup, List.pairwise_map]
        refine (List.Pairwise.and_mem.1 (List.Pairwise.filter (fun j => decide (j ≠ i)) (List.nodup_range (n := k)))).imp fun {a b} hab => ?_
        obtain ⟨ha, hb, hne⟩ := hab
        rw [List.mem_filter, List.mem_range, decide_eq_true_eq] at ha hb
        intro e
        exact hne (h.dis a ha.1 b hb.1 (f a) (hf a ha.1 (Ne.symm ha.2)).1 (e ▸ (hf b hb.1 (Ne.symm hb.2)).1))) fun x hx => by
        obtain ⟨j, hj1, rfl⟩ := List.mem_map.1 hx
        rw [List.mem_filter, List.mem_range, decide_eq_true_eq] at hj1
        exact hN _ (hf j hj1.1 (Ne.symm hj1.2)).2
    rw [List.length_map] at hsub
    have hcount : k ≤ ((List.range k).filter fun j => decide (j ≠ i)).length + 1 := by
      have h1 := List.length_eq_countP_add_countP (fun j => decide (j ≠ i)) (l := List.range k)
      rw [List.length_range, List.countP_eq_length_filter, List.countP_eq_length_filter] at h1
      have h2 : ((List.range k).filter fun a => decide (¬ decide (a ≠ i) = true)).length ≤ 1 := by
        have := sub_len ((List.range k).filter fun a => decide (¬ decide (a ≠ i) = true)) [i] (List.Pairwise.filter _ List.nodup_range) fun x hx => by
          rw [List.mem_filter, decide_eq_true_eq, decide_eq_true_eq] at hx
          have := hx.2
          simp only [ne_eq, Decidable.not_not] at this
          simp [this]
        simpa using this
      omega
    omega
  refine ⟨hne, fun i hi P hp hq => ?_, fun i hi j hj x hx hy => h.dis i hi j hj x hx.1 hy.1, fun i hi j hj hij => ?_⟩
  · obtain ⟨x0, ⟨hx0, hx0v⟩, hpx0⟩ := hp
    obtain ⟨x1, ⟨hx1, hx1v⟩, hpx1⟩ := hq
    by_cases c : ∃ n, B i n ∧ n ≠ v ∧ R v n ∧ P n
    · obtain ⟨n, hn1, hn2, hn3, hn4⟩ := c
      obtain ⟨x, y, a, b, hx, hy, r⟩ := h.conn i hi (fun x => x = v ∨ P x) ⟨x0, hx0, .inr hpx0⟩ ⟨x1, hx1, fun e => e.elim hx1v hpx1⟩
      have hyv : y ≠ v := fun e => hy (.inl e)
      have hyP : ¬ P y := fun e => hy (.inr e)
      by_cases e : x = v
      · subst e
        exact ⟨n, y, ⟨hn1, hn2⟩, ⟨b, hyv⟩, hn4, hyP, hn2, hyv, fun e => hyP (e ▸ hn4), .inr ⟨hn3, r⟩⟩
      · have hxP := hx.resolve_left e
        exact ⟨x, y, ⟨a, e⟩, ⟨b, hyv⟩, hxP, hyP, e, hyv, fun e => hyP (e ▸ hxP), .inl r⟩
    · obtain ⟨x, y, a, b, ⟨hxv, hxP⟩, hy, r⟩ := h.conn i hi (fun x => x ≠ v ∧ P x) ⟨x0, hx0, hx0v, hpx0⟩ ⟨x1, hx1, fun e => hpx1 e.2⟩
      have hyv : y ≠ v := fun e => c ⟨x, a, hxv, e ▸ hs _ _ r, hxP⟩
      have hyP : ¬ P y := fun e => hy ⟨hyv, e⟩
      exact ⟨x, y, ⟨a, hxv⟩, ⟨b, hyv⟩, hxP, hyP, hxv, hyv, fun e => hyP (e ▸ hxP), .inl r⟩
  · obtain ⟨x, y, a, b, r⟩ := h.jn i hi j hj hij
    by_cases ex : x = v
    · subst ex
      have hy : y ≠ x := fun e => hij (h.dis i hi j hj x a (e ▸ b))
      obtain ⟨x', hx', hx'v⟩ := hne i hi
      obtain ⟨z, y', _, hy', rfl, hy'v, r'⟩ := h.conn i hi (· = x) ⟨x, a, rfl⟩ ⟨x', hx', hx'v⟩
      exact ⟨y', y, ⟨hy', hy'v⟩, ⟨b, hy⟩, hy'v, hy, fun e => hij (h.dis i hi j hj y' hy' (e ▸ b)), .inr ⟨r', r⟩⟩
    · by_cases ey : y = v
      · subst ey
        obtain ⟨x', hx', hx'v⟩ := hne j hj
        obtain ⟨z, y', _, hy', rfl, hy'v, r'⟩ := h.conn j hj (· = y) ⟨y, b, rfl⟩ ⟨x', hx', hx'v⟩
        exact ⟨x, y', ⟨a, ex⟩, ⟨hy', hy'v⟩, ex, hy'v, fun e => hij (h.dis i hi j hj x a (e ▸ hy')), .inr ⟨hs _ _ r, r'⟩⟩
      · exact ⟨x, y, ⟨a, ex⟩, ⟨b, ey⟩, ex, ey, fun e => hij (h.dis i hi j hj x a (e ▸ b)), .inl r⟩

/-- A vertex of two neighbours at most comes back. -/
theorem KM.back {R : Nat → Nat → Prop} {k : Nat} {B : Nat → Nat → Prop} (hs : ∀ x y, R x y → R y x) {v a b : Nat} (hN : ∀ x, R v x → x = a ∨ x = b) (h : KM (goneR R v) k B) (hk : 2 ≤ k) :
    ∃ C, KM R k C := by
  have hv : ∀ i, i < k → ¬ B i v := fun i hi hb => by
    obtain ⟨y, hy⟩ := h.near hk hi hb
    exact hy.1 rfl
  by_cases hab : R v a ∧ R v b ∧ a ≠ b
  · obtain ⟨ha, hb, hab⟩ := hab
    have two : ∀ x y, R v x → R v y → x ≠ y → (x = a ∧ y = b) ∨ (x = b ∧ y = a) := fun x y h1 h2 h3 => by
      rcases hN x h1 with e | e <;> rcases hN y h2 with e' | e'
      · exact absurd (e.trans e'.symm) h3
      · exact .inl ⟨e, e'⟩
      · exact .inr ⟨e, e'⟩
      · exact absurd (e.trans e'.symm) h3
    refine ⟨fun i x => B i x ∨ (x = v ∧ B i a), fun i hi => ?_, fun i hi P hp hq => ?_, fun i hi j hj x hx hy => ?_, fun i hi j hj hij => ?_⟩
    · obtain ⟨x, hx⟩ := h.ne i hi
      exact ⟨x, .inl hx⟩
    · by_cases c : (∃ x, B i x ∧ P x) ∧ (∃ x, B i x ∧ ¬ P x)
      · obtain ⟨x, y, h1, h2, h3, h4, _, _, hne, r | ⟨r1, r2⟩⟩ := h.conn i hi P c.1 c.2
        · exact ⟨x, y, .inl h1, .inl h2, h3, h4, r⟩
        · have hia : B i a := by
            rcases two x y r1 r2 hne with ⟨e, _⟩ | ⟨_, e⟩
            · exact e ▸ h1
            · exact e ▸ h2
          by_cases hpv : P v
          · exact ⟨v, y, .inr ⟨rfl, hia⟩, .inl h2, hpv, h4, r2⟩
          · exact ⟨x, v, .inl h1, .inr ⟨rfl, hia⟩, h3, hpv, hs _ _ r1⟩
      · obtain ⟨x0, hx0, hp0⟩ := hp
        obtain ⟨x1, hx1, hp1⟩ := hq
        rcases hx0 with hx0 | ⟨rfl, hx0⟩
        · rcases hx1 with hx1 | ⟨rfl, hx1⟩
          · exact absurd ⟨⟨x0, hx0, hp0⟩, ⟨x1, hx1, hp1⟩⟩ c
          · refine ⟨a, x1, .inl hx1, .inr ⟨rfl, hx1⟩, Classical.byContradiction fun hpa => c ⟨⟨x0, hx0, hp0⟩, ⟨a, hx1, hpa⟩⟩, hp1, hs _ _ ha⟩
        · rcases hx1 with hx1 | ⟨rfl, hx1⟩
          · refine ⟨x0, a, .inr ⟨rfl, hx0⟩, .inl hx0, hp0, fun hpa => c ⟨⟨a, hx0, hpa⟩, ⟨x1, hx1, hp1⟩⟩, ha⟩
          · exact absurd hp0 hp1
    · rcases hx with hx | ⟨rfl, hx⟩
      · rcases hy with hy | ⟨rfl, hy⟩
        · exact h.dis i hi j hj x hx hy
        · exact absurd hx (hv i hi)
      · rcases hy with hy | ⟨_, hy⟩
        · exact absurd hy (hv j hj)
        · exact h.dis i hi j hj a hx hy
    · obtain ⟨x, y, h1, h2, _, _, hne, r | ⟨r1, r2⟩⟩ := h.jn i hi j hj hij
      · exact ⟨x, y, .inl h1, .inl h2, r⟩
      · rcases two x y r1 r2 hne with ⟨rfl, rfl⟩ | ⟨rfl, rfl⟩
        · exact ⟨v, y, .inr ⟨rfl, h1⟩, .inl h2, r2⟩
        · exact ⟨x, v, .inl h1, .inr ⟨rfl, h2⟩, hs _ _ r1⟩
  · refine ⟨B, h.mono fun i hi j hj x y hx hy r => ?_⟩
    obtain ⟨_, _, hne, r | ⟨r1, r2⟩⟩ := r
    · exact r
    · refine absurd ?_ hab
      rcases hN x r1 with rfl | rfl <;> rcases hN y r2 with rfl | rfl
      · exact absurd rfl hne
      · exact ⟨r1, r2, hne⟩
      · exact ⟨r2, r1, Ne.symm hne⟩
      · exact absurd rfl hne

/-- What is left when an edge is contracted into its first end. -/
def conR (R : Nat → Nat → Prop) (u v : Nat) : Nat → Nat → Prop := fun x y => x ≠ v ∧ y ≠ v ∧ x ≠ y ∧ (R x y ∨ (x = u ∧ R v y) ∨ (y = u ∧ R v x))
theorem KM.contr {R : Nat → Nat → Prop} {k : Nat} {B : Nat → Nat → Prop} (hs : ∀ x y, R x y → R y x) (h : KM R k B) {u v i0 : Nat} (huv : u ≠ v) (hi0 : i0 < k) (hu : B i0 u) (hv : B i0 v) :
    KM (conR R u v) k fun i x => B i x ∧ x ≠ v := by
  refine ⟨fun i hi => ?_, fun i hi P hp hq => ?_, fun i hi j hj x hx hy => h.dis i hi j hj x hx.1 hy.1, fun i hi j hj hij => ?_⟩
  · obtain ⟨x, hx⟩ := h.ne i hi
    by_cases e : x = v
    · subst e
      obtain rfl := h.dis i hi i0 hi0 x hx hv
      exact ⟨u, hu, huv⟩
    · exact ⟨x, hx, e⟩
  · obtain ⟨x0, ⟨hx0, hx0v⟩, hpx0⟩ := hp
    obtain ⟨x1, ⟨hx1, hx1v⟩, hpx1⟩ := hq
    have key : ∀ z, B i z → B i (if z = v then u else z) ∧ (if z = v then u else z) ≠ v := fun z hz => by
      by_cases e : z = v
      · rw [if_pos e]
        subst e
        obtain rfl := h.dis i hi i0 hi0 z hz hv
        exact ⟨hu, huv⟩
      · rw [if_neg e]; exact ⟨hz, e⟩
    obtain ⟨x, y, a, b, hx, hy, r⟩ := h.conn i hi (fun z => P (if z = v then u else z)) ⟨x0, hx0, by rw [if_neg hx0v]; exact hpx0⟩ ⟨x1, hx1, by rw [if_neg hx1v]; exact hpx1⟩
    refine ⟨_, _, key x a, key y b, hx, hy, (key x a).2, (key y b).2, fun e => hy (by rw [← e]; exact hx), ?_⟩
    by_cases ex : x = v
    · rw [if_pos ex]
      by_cases ey : y = v
      · subst ex ey; exact absurd hx hy
      · rw [if_neg ey]; exact .inr (.inl ⟨rfl, ex ▸ r⟩)
    · rw [if_neg ex]
      by_cases ey : y = v
      · rw [if_pos ey]; exact .inr (.inr ⟨rfl, ey ▸ hs _ _ r⟩)
      · rw [if_neg ey]; exact .inl r
  · obtain ⟨x, y, a, b, r⟩ := h.jn i hi j hj hij
    by_cases ex : x = v
    · subst ex
      obtain rfl := h.dis i hi i0 hi0 x a hv
      have hyx : y ≠ x := fun e => hij (h.dis i hi j hj x a (e ▸ b))
      exact ⟨u, y, ⟨hu, huv⟩, ⟨b, hyx⟩, huv, hyx, fun e => hij (h.dis i hi j hj u hu (e ▸ b)), .inr (.inl ⟨rfl, r⟩)⟩
    · by_cases ey : y = v
      · subst ey
        obtain rfl := h.dis j hj i0 hi0 y b hv
        exact ⟨x, u, ⟨a, ex⟩, ⟨hu, huv⟩, ex, huv, fun e => hij (h.dis i hi j hj x a (e ▸ hu)), .inr (.inr ⟨rfl, hs _ _ r⟩)⟩
      · exact ⟨x, y, ⟨a, ex⟩, ⟨b, ey⟩, ex, ey, fun e => hij (h.dis i hi j hj x a (e ▸ b)), .inl r⟩

end Go.Proofs.YtiooindlpinjhaaDoor

/- Plain: orders of all vertices. -/
namespace Go.Proofs.YtiooindlpinjhaaDoor

/-- An order of the numbers below n. -/
def OrdOk (n : Nat) (l : List Int) : Prop := l.length = n ∧ (∀ x ∈ l, 0 ≤ x ∧ x < n) ∧ l.Nodup

theorem strict_of {l : List Int} (h : l.Pairwise (· ≤ ·)) (hn : l.Nodup) : l.Pairwise (· < ·) := by
  induction l with
  | nil => exact List.Pairwise.nil
  | cons x l ih =>
    rw [List.pairwise_cons] at h
    rw [List.nodup_cons] at hn
    rw [List.pairwise_cons]
    refine ⟨fun y hy => ?_, ih h.2 hn.2⟩
    have h1 := h.1 y hy
    by_cases e : x = y
    · subst e; exact absurd hy hn.1
    · omega
theorem nodup_of {l : List Int} (h : l.Pairwise (· < ·)) : l.Nodup := by
  unfold List.Nodup
  exact h.imp fun hx e => by omega

theorem setIn_sort {n : Int} {l : List Int} : SetIn n (l.mergeSort fun x y => decide (x ≤ y)) ↔ (∀ x ∈ l, 0 ≤ x ∧ x < n) ∧ l.Nodup := by
  have hp := List.mergeSort_perm l (fun x y => decide (x ≤ y))
  have hs : (l.mergeSort fun x y => decide (x ≤ y)).Pairwise (fun a b => decide (a ≤ b) = true) :=
    List.pairwise_mergeSort (fun a b c h1 h2 => by simp only [decide_eq_true_eq] at *; omega) (fun a b => by simp only [Bool.or_eq_true, decide_eq_true_eq]; omega) l
  have hs' : (l.mergeSort fun x y => decide (x ≤ y)).Pairwise (· ≤ ·) := hs.imp fun h => by simpa using h
  constructor
  · rintro ⟨h1, h2⟩
    exact ⟨fun x hx => h1 x (hp.mem_iff.2 hx), hp.nodup_iff.1 (nodup_of h2)⟩
  · rintro ⟨h1, h2⟩
    exact ⟨fun x hx => h1 x (hp.mem_iff.1 hx), strict_of hs' (hp.nodup_iff.2 h2)⟩

theorem ordOk_sort {n : Nat} {l : List Int} (hl : l.length = n) : SetIn n (l.mergeSort fun x y => decide (x ≤ y)) ↔ OrdOk n l := by
  rw [setIn_sort]
  exact ⟨fun h => ⟨hl, h.1, h.2⟩, fun h => ⟨h.2.1, h.2.2⟩⟩

theorem nodup_snoc {l : List Int} {x : Int} : (l ++ [x]).Nodup ↔ l.Nodup ∧ x ∉ l := by
  rw [List.nodup_append]
  constructor
  · rintro ⟨h1, _, h2⟩
    exact ⟨h1, fun h => h2 x h x (by simp) rfl⟩
  · rintro ⟨h1, h2⟩
    refine ⟨h1, by simp, fun a ha b hb e => ?_⟩
    simp only [List.mem_singleton] at hb
    subst hb; subst e
    exact h2 ha

theorem ordE_sym {g : List (List Int)} (hg : GOk g) {l : List Int} (hl : OrdOk g.length l) : SymE l.length (indE g l) := indE_sym hg hl.2.1

/-- What Renamed returns. -/
def RenS (g : List (List Int)) (l : List Int) (gg : List (List Int)) (ok : Bool) : Prop :=
  (ok = true ∧ GOk g ∧ OrdOk g.length l ∧ gg = indL g l) ∨ (ok = false ∧ gg = [] ∧ ¬ (GOk g ∧ OrdOk g.length l))
theorem renS_det {g gg hh : List (List Int)} {l : List Int} {ok ok' : Bool} (h : RenS g l gg ok) (h' : RenS g l hh ok') : gg = hh ∧ ok = ok' := by
  rcases h with ⟨rfl, h1, h2, rfl⟩ | ⟨rfl, rfl, h⟩ <;> rcases h' with ⟨rfl, h1', h2', rfl⟩ | ⟨rfl, rfl, h'⟩
  · exact ⟨rfl, rfl⟩
  · exact absurd ⟨h1, h2⟩ h'
  · exact absurd ⟨h1', h2'⟩ h
  · exact ⟨rfl, rfl⟩

/-- The edges among listed vertices, in masks. -/
theorem bitE_netL {g : List (List Int)} (hg : GOk g) {l : List Nat} (hl : ∀ v ∈ l, v < g.length) : indL g (natInts l) = matG l.length (bitE (netL g) l) := by
  unfold indL
  rw [natInts_length]
  refine matG_congr fun r j hr hj => ?_
  unfold indE bitE
  have e1 : (natInts l).getD r 0 = ((l[r] : Nat) : Int) := by simp [natInts, hr]
  have e2 : (natInts l).getD j 0 = ((l[j] : Nat) : Int) := by simp [natInts, hj]
  have f1 : l.getD r 0 = l[r] := by simp [hr]
  have f2 : l.getD j 0 = l[j] := by simp [hj]
  rw [e1, e2, f1, f2, Int.toNat_natCast, netL_getD, Bool.eq_iff_iff, decide_eq_true_eq]
  exact (testBit_row hg (hl _ (List.getElem_mem hr)) _).symm

end Go.Proofs.YtiooindlpinjhaaDoor

/- Plain: the graph that an elimination along an order fills. -/
namespace Go.Proofs.YtiooindlpinjhaaDoor

/-- The later neighbours are made neighbours of each other. -/
def elimE (E : Nat → Nat → Bool) (S : Nat → Bool) : Nat → Nat → Bool := fun r j => E r j || (S r && S j && decide (r ≠ j))
def laterE (E : Nat → Nat → Bool) (l : List Nat) (m : Nat) (v : Nat) : Nat → Bool := fun x => E v x && decide (x ∉ l.take (m + 1))
/-- The edges behind the first m eliminations. -/
def fillP (E : Nat → Nat → Bool) (l : List Nat) : Nat → Nat → Nat → Bool
  | 0 => E
  | m + 1 => elimE (fillP E l m) (laterE (fillP E l m) l m (l.getD m 0))
/-- The later neighbours, as a list. -/
def lateL (n : Nat) (E : Nat → Nat → Bool) (l : List Nat) (m : Nat) : List Nat := (List.range n).filter (laterE (fillP E l m) l m (l.getD m 0))

theorem mem_lateL {n : Nat} {E : Nat → Nat → Bool} {l : List Nat} {m x : Nat} : x ∈ lateL n E l m ↔ x < n ∧ laterE (fillP E l m) l m (l.getD m 0) x = true := by simp [lateL]
theorem lateL_rising (n : Nat) (E : Nat → Nat → Bool) (l : List Nat) (m : Nat) : (lateL n E l m).Pairwise (· < ·) := List.Pairwise.filter _ List.pairwise_lt_range
theorem elim_late {n : Nat} {E : Nat → Nat → Bool} {l : List Nat} {m r j : Nat} (hr : r < n) (hj : j < n) :
    fillP E l (m + 1) r j = (fillP E l m r j || (decide (r ∈ lateL n E l m) && decide (j ∈ lateL n E l m) && decide (r ≠ j))) := by
  show elimE _ _ r j = _
  unfold elimE
  have h1 : laterE (fillP E l m) l m (l.getD m 0) r = decide (r ∈ lateL n E l m) := by rw [Bool.eq_iff_iff]; simp [mem_lateL, hr]
  have h2 : laterE (fillP E l m) l m (l.getD m 0) j = decide (j ∈ lateL n E l m) := by rw [Bool.eq_iff_iff]; simp [mem_lateL, hj]
  rw [h1, h2]

/-- The reference's double loop, in its midst. -/
def cliqE (E : Nat → Nat → Bool) (L : List Nat) (i k : Nat) : Nat → Nat → Bool := fun r j =>
  E r j || decide ((r ≠ j ∧ r ∈ L.take i ∧ j ∈ L.take i) ∨ (r = L.getD i 0 ∧ j ∈ L.take k) ∨ (j = L.getD i 0 ∧ r ∈ L.take k))
theorem getD_nat {L : List Nat} {i : Nat} (h : i < L.length) : L.getD i 0 = L[i] := by simp [h]
theorem take_snoc_mem {L : List Nat} {k x : Nat} (h : k < L.length) : x ∈ L.take (k + 1) ↔ x ∈ L.take k ∨ x = L[k] := by
  rw [List.take_succ_eq_append_getElem h, List.mem_append, List.mem_singleton]
theorem not_mem_take {L : List Nat} (hs : L.Pairwise (· < ·)) {i : Nat} (h : i < L.length) : L[i] ∉ L.take i := by
  intro hm
  obtain ⟨j, hj, e⟩ := List.mem_iff_getElem.1 hm
  rw [List.length_take] at hj
  rw [List.getElem_take] at e
  have := List.pairwise_iff_getElem.1 hs j i (by omega) h (by omega)
  omega
theorem cliq_start (m : Nat) (E : Nat → Nat → Bool) (L : List Nat) : matG m (cliqE E L 0 0) = matG m E := matG_congr fun r j _ _ => by simp [cliqE]
theorem cliq_step {m : Nat} {E : Nat → Nat → Bool} {L : List Nat} (hs : L.Pairwise (· < ·)) (hL : ∀ x ∈ L, x < m) {i k : Nat} (hi : i < L.length) (hk : k < i) :
    linkL (matG m (cliqE E L i k)) L[k] L[i] = matG m (cliqE E L i (k + 1)) := by
  have hlt := List.pairwise_iff_getElem.1 hs k i (by omega) hi hk
  rw [link_matG (hL _ (List.getElem_mem _)) (hL _ (List.getElem_mem _)) (by omega)]
  refine matG_congr fun r j hr hj => ?_
  unfold cliqE
  rw [getD_nat hi, Bool.eq_iff_iff]
  simp only [Bool.or_eq_true, Bool.and_eq_true, beq_iff_eq, decide_eq_true_eq, take_snoc_mem (show k < L.length by omega)]
  constructor
  · rintro (((h | h) | ⟨h1, h2⟩) | ⟨h1, h2⟩)
    · exact .inl h
    · rcases h with h | ⟨h1, h2⟩ | ⟨h1, h2⟩
      · exact .inr (.inl h)
      · exact .inr (.inr (.inl ⟨h1, .inl h2⟩))
      · exact .inr (.inr (.inr ⟨h1, .inl h2⟩))
    · exact .inr (.inr (.inr ⟨h2, .inr h1⟩))
    · exact .inr (.inr (.inl ⟨h1, .inr h2⟩))
  · rintro (h | h | ⟨h1, h2 | h2⟩ | ⟨h1, h2 | h2⟩)
    · exact .inl (.inl (.inl h))
    · exact .inl (.inl (.inr (.inl h)))
    · exact .inl (.inl (.inr (.inr (.inl ⟨h1, h2⟩))))
    · exact .inr ⟨h1, h2⟩
    · exact .inl (.inl (.inr (.inr (.inr ⟨h1, h2⟩))))
    · exact .inl (.inr ⟨h2, h1⟩)
theorem cliq_row {m : Nat} {E : Nat → Nat → Bool} {L : List Nat} (hs : L.Pairwise (· < ·)) {i : Nat} (hi : i < L.length) : matG m (cliqE E L i i) = matG m (cliqE E L (i + 1) 0) := by
  refine matG_congr fun r j hr hj => ?_
  have hn := not_mem_take hs hi
  unfold cliqE
  rw [getD_nat hi, Bool.eq_iff_iff]
  simp only [Bool.or_eq_true, decide_eq_true_eq, take_snoc_mem hi, List.take_zero, List.not_mem_nil, and_false, or_false]
  constructor
  · rintro (h | ⟨h0, h1, h2⟩ | ⟨h1, h2⟩ | ⟨h1, h2⟩)
    · exact .inl h
    · exact .inr ⟨h0, .inl h1, .inl h2⟩
    · exact .inr ⟨fun e => hn (h1 ▸ e ▸ h2), .inr h1, .inl h2⟩
    · exact .inr ⟨fun e => hn (h1 ▸ e ▸ h2), .inl h2, .inr h1⟩
  · rintro (h | ⟨h0, h1 | h1, h2 | h2⟩)
    · exact .inl h
    · exact .inr (.inl ⟨h0, h1, h2⟩)
    · exact .inr (.inr (.inr ⟨h2, h1⟩))
    · exact .inr (.inr (.inl ⟨h1, h2⟩))
    · exact absurd (h1.trans h2.symm) h0
theorem cliq_end {m : Nat} {E : Nat → Nat → Bool} {l : List Nat} {k : Nat} : matG m (cliqE (fillP E l k) (lateL m E l k) (lateL m E l k).length 0) = matG m (fillP E l (k + 1)) := by
  refine matG_congr fun r j hr hj => ?_
  rw [elim_late hr hj]
  unfold cliqE
  rw [Bool.eq_iff_iff]
  simp only [List.take_length, List.take_zero, List.not_mem_nil, and_false, or_false, Bool.or_eq_true, Bool.and_eq_true, decide_eq_true_eq]
  constructor
  · rintro (h | ⟨h0, h1, h2⟩)
    · exact .inl h
    · exact .inr ⟨⟨h1, h2⟩, h0⟩
  · rintro (h | ⟨⟨h1, h2⟩, h0⟩)
    · exact .inl h
    · exact .inr ⟨h0, h1, h2⟩

/-- The program's loop, in its midst. -/
def wingE (E : Nat → Nat → Bool) (L : List Nat) (t : Nat) : Nat → Nat → Bool := fun r j => E r j || decide (r ∈ L.take t ∧ j ∈ L ∧ r ≠ j)
theorem wing_start (m : Nat) (E : Nat → Nat → Bool) (L : List Nat) : indN m (wingE E L 0) = indN m E := indN_congr fun r j _ _ => by simp [wingE]
theorem wing_end {m : Nat} {E : Nat → Nat → Bool} {l : List Nat} {k : Nat} : indN m (wingE (fillP E l k) (lateL m E l k) (lateL m E l k).length) = indN m (fillP E l (k + 1)) := by
  refine indN_congr fun r j hr hj => ?_
  rw [elim_late hr hj]
  unfold wingE
  rw [Bool.eq_iff_iff]
  simp only [List.take_length, Bool.or_eq_true, Bool.and_eq_true, decide_eq_true_eq, and_assoc]
theorem wing_step {m : Nat} (hm : m ≤ 16) {E : Nat → Nat → Bool} {L : List Nat} (hs : L.Pairwise (· < ·)) (hL : ∀ x ∈ L, x < m) {t : Nat} (ht : t < L.length) {s : Nat} (hs16 : s < 65536) (hsL : ∀ j, s.testBit j = decide (j ∈ L)) :
    (indN m (wingE E L t)).set L[t] ((indN m (wingE E L t)).getD L[t] 0 ||| sub s (2 ^ L[t])) = indN m (wingE E L (t + 1)) := by
  have hu := hL _ (List.getElem_mem ht)
  refine natList_ext (by simp [indN_length]) fun r hr => ?_
  rw [List.length_set, indN_length] at hr
  have hl := indN_length m (wingE E L t)
  rw [getD_set _ _ _ _ (by omega)]
  refine Nat.eq_of_testBit_eq fun j => ?_
  by_cases e : r = L[t]
  · subst e
    rw [if_pos rfl, Nat.testBit_or, indN_bit hr, indN_bit hr, testBit_sub _ _ (by omega) (by have := pow_lt32 L[t] (by omega); exact this), hsL, testBit_pow]
    unfold wingE
    rw [Bool.eq_iff_iff]
    simp only [Bool.or_eq_true, Bool.and_eq_true, decide_eq_true_eq, Bool.not_eq_true', decide_eq_false_iff_not, take_snoc_mem ht]
    constructor
    · rintro (⟨h0, h | ⟨h1, h2, h3⟩⟩ | ⟨h1, h2⟩)
      · exact ⟨h0, .inl h⟩
      · exact ⟨h0, .inr ⟨.inl h1, h2, h3⟩⟩
      · exact ⟨hL _ h1, .inr ⟨.inr trivial, h1, h2⟩⟩
    · rintro ⟨h0, h | ⟨_, h2, h3⟩⟩
      · exact .inl ⟨h0, .inl h⟩
      · exact .inr ⟨h2, h3⟩
  · rw [if_neg e, indN_bit hr, indN_bit hr]
    unfold wingE
    congr 2
    rw [Bool.eq_iff_iff]
    simp only [decide_eq_true_eq, take_snoc_mem ht, e, or_false]

/-- A right graph as a matrix. -/
def ofG (g : List (List Int)) : Nat → Nat → Bool := fun r j => decide ((j : Int) ∈ row g r)
theorem matG_ofG {g : List (List Int)} (hg : GOk g) : matG g.length (ofG g) = g := by
  refine graph_ext (matG_length _ _) fun r hr => ?_
  rw [matG_length] at hr
  refine rising_ext_int _ _ (matG_rising hr) (hg.sets r hr).1.2 fun x => ?_
  rw [mem_matG hr]
  constructor
  · rintro ⟨j, rfl, _, h⟩; simpa [ofG] using h
  · intro h
    have := (hg.sets r hr).1.1 x h
    obtain ⟨j, rfl⟩ := Int.eq_ofNat_of_zero_le this.1
    exact ⟨j, rfl, by omega, by simpa [ofG] using h⟩
theorem indN_ofG {g : List (List Int)} (hg : GOk g) : indN g.length (ofG g) = netL g := by
  refine natList_ext (by simp [indN_length, netL]) fun r hr => ?_
  rw [indN_length] at hr
  refine Nat.eq_of_testBit_eq fun j => ?_
  rw [indN_bit hr, netL_getD, Bool.eq_iff_iff, testBit_row hg hr]
  simp only [Bool.and_eq_true, decide_eq_true_eq, ofG]
  exact ⟨fun h => h.2, fun h => ⟨by have := (hg.sets r hr).1.1 _ h; omega, h⟩⟩

/-- What FillOf returns. -/
def FillS (g : List (List Int)) (l : List Int) (gg : List (List Int)) (ok : Bool) : Prop :=
  (ok = true ∧ GOk g ∧ OrdOk g.length l ∧ gg = matG g.length (fillP (ofG g) (l.map Int.toNat) l.length)) ∨ (ok = false ∧ gg = [] ∧ ¬ (GOk g ∧ OrdOk g.length l))
theorem fillS_det {g gg hh : List (List Int)} {l : List Int} {ok ok' : Bool} (h : FillS g l gg ok) (h' : FillS g l hh ok') : gg = hh ∧ ok = ok' := by
  rcases h with ⟨rfl, h1, h2, rfl⟩ | ⟨rfl, rfl, h⟩ <;> rcases h' with ⟨rfl, h1', h2', rfl⟩ | ⟨rfl, rfl, h'⟩
  · exact ⟨rfl, rfl⟩
  · exact absurd ⟨h1, h2⟩ h'
  · exact absurd ⟨h1', h2'⟩ h
  · exact ⟨rfl, rfl⟩

end Go.Proofs.YtiooindlpinjhaaDoor

/- Plain: how many edges a graph has; a filled graph is right. -/
namespace Go.Proofs.YtiooindlpinjhaaDoor

def upL (k : Nat) (xs : List Int) : Nat := (xs.filter fun x => decide ((k : Int) < x)).length
theorem upL_snoc {k : Nat} {xs : List Int} {i : Nat} (h : i < xs.length) : upL k (xs.take (i + 1)) = upL k (xs.take i) + (if (k : Int) < xs[i] then 1 else 0) := by
  unfold upL
  rw [List.take_succ_eq_append_getElem h, List.filter_append, List.length_append]
  by_cases e : (k : Int) < xs[i] <;> simp [e]
theorem upL_le (k : Nat) (xs : List Int) : upL k xs ≤ xs.length := List.length_filter_le _ _
def cntE (g : List (List Int)) : Nat → Nat
  | 0 => 0
  | k + 1 => cntE g k + upL k (row g k)
theorem cntE_le {g : List (List Int)} {m : Nat} (h : ∀ j, (row g j).length ≤ m) : ∀ k, cntE g k ≤ k * m
  | 0 => by simp [cntE]
  | k + 1 => by
    have h1 := cntE_le h k
    have h2 := h k
    have h3 := upL_le k (row g k)
    have : (k + 1) * m = k * m + m := Nat.succ_mul k m
    simp only [cntE]; omega

theorem gok_matG {n : Nat} (h1 : 1 ≤ n) (h16 : n ≤ 16) {E : Nat → Nat → Bool} (hs : ∀ r j, E r j = true → E j r = true) (hi : ∀ r, E r r = false) : GOk (matG n E) where
  pos := by rw [matG_length]; exact h1
  le := by rw [matG_length]; exact h16
  sets := fun v hv => by
    rw [matG_length] at hv ⊢
    refine ⟨⟨fun x hx => ?_, matG_rising hv⟩, fun h => ?_⟩
    · obtain ⟨j, rfl, hj, _⟩ := (mem_matG hv).1 hx
      omega
    · obtain ⟨j, e, _, hE⟩ := (mem_matG hv).1 h
      obtain rfl : v = j := by omega
      rw [hi] at hE
      exact absurd hE (by decide)
  both := fun v hv u hu => by
    rw [matG_length] at hv
    obtain ⟨j, rfl, hj, hE⟩ := (mem_matG hv).1 hu
    rw [Int.toNat_natCast]
    exact (mem_matG hj).2 ⟨v, rfl, hv, hs _ _ hE⟩
theorem ofG_sym {g : List (List Int)} (hg : GOk g) (r j : Nat) (h : ofG g r j = true) : ofG g j r = true := by
  simp only [ofG, decide_eq_true_eq] at h ⊢
  by_cases hr : r < g.length
  · have := hg.both r hr _ h
    rwa [Int.toNat_natCast] at this
  · rw [row_out hr] at h
    exact absurd h (by simp)
theorem ofG_irr {g : List (List Int)} (hg : GOk g) (r : Nat) : ofG g r r = false := by
  by_cases hr : r < g.length
  · simp only [ofG, decide_eq_false_iff_not]
    exact (hg.sets r hr).2
  · simp [ofG, row_out hr]
theorem elim_sym {E : Nat → Nat → Bool} {S : Nat → Bool} (h : ∀ r j, E r j = true → E j r = true) (r j : Nat) (he : elimE E S r j = true) : elimE E S j r = true := by
  simp only [elimE, Bool.or_eq_true, Bool.and_eq_true, decide_eq_true_eq] at he ⊢
  rcases he with he | ⟨⟨h1, h2⟩, h3⟩
  · exact .inl (h _ _ he)
  · exact .inr ⟨⟨h2, h1⟩, fun e => h3 e.symm⟩
theorem fill_sym {E : Nat → Nat → Bool} (h : ∀ r j, E r j = true → E j r = true) (l : List Nat) : ∀ m r j, fillP E l m r j = true → fillP E l m j r = true
  | 0 => h
  | m + 1 => elim_sym (fill_sym h l m)
theorem fill_irr {E : Nat → Nat → Bool} (h : ∀ r, E r r = false) (l : List Nat) : ∀ m r, fillP E l m r r = false
  | 0 => h
  | m + 1 => fun r => by
    have := fill_irr h l m r
    simp [fillP, elimE, this]
theorem gok_fill {g : List (List Int)} (hg : GOk g) (l : List Nat) (m : Nat) : GOk (matG g.length (fillP (ofG g) l m)) :=
  gok_matG hg.pos hg.le (fill_sym (ofG_sym hg) l m) (fill_irr (ofG_irr hg) l m)

end Go.Proofs.YtiooindlpinjhaaDoor

/- Plain: what can be reached in a set; the parts of a set. -/
namespace Go.Proofs.YtiooindlpinjhaaDoor

/-- Reached from u along E in S. -/
inductive Rch (E : Nat → Nat → Bool) (S : Nat → Prop) (u : Nat) : Nat → Prop
  | base : Rch E S u u
  | step {x y : Nat} : Rch E S u x → E x y = true → S y → Rch E S u y
theorem rch_closed {E : Nat → Nat → Bool} {S : Nat → Prop} {u : Nat} {T : Nat → Prop} (h0 : T u) (hcl : ∀ x y, T x → E x y = true → S y → T y) : ∀ x, Rch E S u x → T x := by
  intro x h
  induction h with
  | base => exact h0
  | step _ h2 h3 ih => exact hcl _ _ ih h2 h3
theorem rch_in {E : Nat → Nat → Bool} {S : Nat → Prop} {u : Nat} (hu : S u) : ∀ x, Rch E S u x → S x := rch_closed hu fun _ _ _ _ h => h
theorem rch_trans {E : Nat → Nat → Bool} {S : Nat → Prop} {u x y : Nat} (h : Rch E S u x) (k : Rch E S x y) : Rch E S u y := by
  induction k with
  | base => exact h
  | step _ h2 h3 ih => exact .step ih h2 h3
theorem rch_sym {E : Nat → Nat → Bool} (hE : ∀ r j, E r j = true → E j r = true) {S : Nat → Prop} {u x : Nat} (hu : S u) (h : Rch E S u x) : Rch E S x u := by
  induction h with
  | base => exact .base
  | step h1 h2 h3 ih => exact rch_trans (.step .base (hE _ _ h2) (rch_in hu _ h1)) ih
theorem rch_mono {E : Nat → Nat → Bool} {S S' : Nat → Prop} {u : Nat} (h : ∀ x, S x → S' x) : ∀ x, Rch E S u x → Rch E S' u x := by
  intro x hx
  induction hx with
  | base => exact .base
  | step _ h2 h3 ih => exact .step ih h2 (h _ h3)
/-- Away from closed parts the same is reached. -/
theorem rch_away {E : Nat → Nat → Bool} (hE : ∀ r j, E r j = true → E j r = true) {S D : Nat → Prop} (hD : ∀ x y, D x → E x y = true → S y → D y) {u : Nat} (hu : S u) (hnu : ¬ D u) :
    ∀ x, Rch E S u x ↔ Rch E (fun y => S y ∧ ¬ D y) u x := by
  intro x
  constructor
  · intro h
    induction h with
    | base => exact .base
    | @step x y h1 h2 h3 ih =>
      refine .step ih h2 ⟨h3, fun hd => ?_⟩
      have hx := rch_in (S := fun y => S y ∧ ¬ D y) ⟨hu, hnu⟩ _ ih
      exact hx.2 (hD _ _ hd (hE _ _ h2) hx.1)
  · exact rch_mono (fun _ h => h.1) x

/-- The part of a vertex, as a list out of L. -/
noncomputable def partL (E : Nat → Nat → Bool) (L : List Nat) (u : Nat) : List Nat := L.filter fun x => dec (Rch E (· ∈ L) u x)
theorem mem_partL {E : Nat → Nat → Bool} {L : List Nat} {u x : Nat} : x ∈ partL E L u ↔ x ∈ L ∧ Rch E (· ∈ L) u x := by
  simp [partL, dec_iff]
theorem partL_rising {E : Nat → Nat → Bool} {L : List Nat} (h : L.Pairwise (· < ·)) (u : Nat) : (partL E L u).Pairwise (· < ·) := List.Pairwise.filter _ h
theorem partL_length (E : Nat → Nat → Bool) (L : List Nat) (u : Nat) : (partL E L u).length ≤ L.length := List.length_filter_le _ _
noncomputable def restL (E : Nat → Nat → Bool) (L : List Nat) (u : Nat) : List Nat := L.filter fun x => !dec (Rch E (· ∈ L) u x)
theorem mem_restL {E : Nat → Nat → Bool} {L : List Nat} {u x : Nat} : x ∈ restL E L u ↔ x ∈ L ∧ ¬ Rch E (· ∈ L) u x := by
  simp only [restL, List.mem_filter, Bool.not_eq_true', and_congr_right_iff]
  intro _
  by_cases h : Rch E (· ∈ L) u x
  · simp [dec_true h, h]
  · simp [dec_false h, h]
theorem restL_rising {E : Nat → Nat → Bool} {L : List Nat} (h : L.Pairwise (· < ·)) (u : Nat) : (restL E L u).Pairwise (· < ·) := List.Pairwise.filter _ h
theorem restL_lt {E : Nat → Nat → Bool} {L : List Nat} {u : Nat} (hu : u ∈ L) : (restL E L u).length < L.length := by
  rcases Nat.lt_or_ge (restL E L u).length L.length with h | h
  · exact h
  · exfalso
    have e : restL E L u = L := List.filter_eq_self.2 (fun x hx => by
      have h2 : (restL E L u).length = L.length := Nat.le_antisymm (List.length_filter_le _ _) h
      exact List.length_filter_eq_length_iff.1 h2 x hx)
    have : u ∈ restL E L u := by rw [e]; exact hu
    exact (mem_restL.1 this).2 .base

/-- The parts of a rising list, by their least ones. -/
inductive Parts (E : Nat → Nat → Bool) : List Nat → List (List Nat) → Prop
  | done : Parts E [] []
  | step (u : Nat) (L : List Nat) (ps : List (List Nat)) : Parts E (restL E (u :: L) u) ps → Parts E (u :: L) (partL E (u :: L) u :: ps)
theorem parts_det {E : Nat → Nat → Bool} {L : List Nat} {ps : List (List Nat)} (h : Parts E L ps) : ∀ {qs : List (List Nat)}, Parts E L qs → ps = qs := by
  induction h with
  | done => intro qs h2; cases h2; rfl
  | step u L ps _ ih =>
    intro qs h2
    cases h2 with
    | step _ _ qs h3 => rw [ih h3]

def PartOn (E : Nat → Nat → Bool) (L0 : List Nat) (os : List (List Nat)) (L : List Nat) : Prop := ∀ ps, Parts E L ps → Parts E L0 (os ++ ps)
theorem partOn_start (E : Nat → Nat → Bool) (L : List Nat) : PartOn E L [] L := fun _ h => h
theorem partOn_step {E : Nat → Nat → Bool} {L0 L : List Nat} {os : List (List Nat)} {u : Nat} (h : PartOn E L0 os (u :: L)) : PartOn E L0 (os ++ [partL E (u :: L) u]) (restL E (u :: L) u) := fun ps k => by
  have := h _ (.step u L ps k)
  simpa using this
theorem partOn_stop {E : Nat → Nat → Bool} {L0 : List Nat} {os : List (List Nat)} (h : PartOn E L0 os []) : Parts E L0 os := by
  have := h [] .done
  simpa using this

end Go.Proofs.YtiooindlpinjhaaDoor

/- Plain: connected sets; a search by a list that grows at its end. -/
namespace Go.Proofs.YtiooindlpinjhaaDoor

/-- A list that is not empty and in which each is reached from the first. -/
def ConnL (E : Nat → Nat → Bool) (L : List Nat) : Prop := L ≠ [] ∧ ∀ x ∈ L, Rch E (· ∈ L) (L.headD 0) x
theorem connL_part {E : Nat → Nat → Bool} {u : Nat} {T : List Nat} : ConnL E (u :: T) ↔ partL E (u :: T) u = u :: T := by
  unfold ConnL partL
  rw [List.filter_eq_self]
  constructor
  · rintro ⟨_, h⟩ x hx
    exact dec_iff.2 (h x hx)
  · intro h
    exact ⟨by simp, fun x hx => dec_iff.1 (h x hx)⟩
theorem connL_len {E : Nat → Nat → Bool} {u : Nat} {T : List Nat} : ConnL E (u :: T) ↔ (partL E (u :: T) u).length = (u :: T).length := by
  rw [connL_part]
  constructor
  · intro h; rw [h]
  · intro h
    refine List.filter_eq_self.2 fun x hx => ?_
    exact List.length_filter_eq_length_iff.1 h x hx
theorem not_connL_nil (E : Nat → Nat → Bool) : ¬ ConnL E [] := fun h => h.1 rfl

theorem nodup_le : ∀ (n : Nat) (M : List Nat), M.Nodup → (∀ x ∈ M, x < n) → M.length ≤ n
  | 0, M, _, h => by
    cases M with
    | nil => exact Nat.le_refl _
    | cons x M => exact absurd (h x (by simp)) (Nat.not_lt_zero _)
  | n + 1, M, hn, h => by
    by_cases hm : n ∈ M
    · have h1 := List.length_erase_of_mem hm
      have h2 := nodup_le n (M.erase n) (hn.erase n) fun x hx => by
        have h3 := (List.Nodup.mem_erase_iff hn).1 hx
        have := h x h3.2
        have := h3.1
        omega
      omega
    · have := nodup_le n M hn fun x hx => by
        have := h x hx
        have : x ≠ n := fun e => hm (e ▸ hx)
        omega
      omega

/-- The search: what is met has a number that is not negative. -/
structure Bf (E : Nat → Nat → Bool) (L : List Nat) (n u : Nat) (F : List Int) (M : List Nat) : Prop where
  len : F.length = n
  nod : M.Nodup
  inn : ∀ x ∈ M, x ∈ L ∧ x < n
  rch : ∀ x ∈ M, Rch E (· ∈ L) u x
  frm : u ∈ M
  sgn : ∀ x, x < n → (0 ≤ F.getD x 0 ↔ x ∈ M)
  bnd : ∀ x, x < n → -1 ≤ F.getD x 0 ∧ F.getD x 0 < M.length
  stp : ∀ x, x < n → 0 < F.getD x 0 → ∃ y, y < n ∧ E y x = true ∧ F.getD y 0 + 1 = F.getD x 0
  zer : ∀ x, x < n → F.getD x 0 = 0 → x = u
theorem Bf.start {E : Nat → Nat → Bool} {L : List Nat} {n u : Nat} (hu : u ∈ L) (hn : u < n) : Bf E L n u ((List.replicate n (-1 : Int)).set u 0) [u] where
  len := by simp
  nod := by simp
  inn := fun x hx => by
    obtain rfl : x = u := by simpa using hx
    exact ⟨hu, hn⟩
  rch := fun x hx => by
    obtain rfl : x = u := by simpa using hx
    exact .base
  frm := by simp
  sgn := fun x hx => by
    rw [List.getD_eq_getElem?_getD, List.getElem?_set]
    by_cases e : u = x
    · subst e; simp [hn]
    · simp [e, hx, Ne.symm e]
  bnd := fun x hx => by
    rw [List.getD_eq_getElem?_getD, List.getElem?_set]
    by_cases e : u = x
    · subst e; simp [hn]
    · simp [e, hx]
  stp := fun x hx h => by
    rw [List.getD_eq_getElem?_getD, List.getElem?_set] at h
    by_cases e : u = x
    · subst e; simp [hn] at h
    · simp [e, hx] at h
  zer := fun x hx h => by
    rw [List.getD_eq_getElem?_getD, List.getElem?_set] at h
    by_cases e : u = x
    · exact e.symm
    · simp [e, hx] at h
theorem Bf.le {E : Nat → Nat → Bool} {L : List Nat} {n u : Nat} {F : List Int} {M : List Nat} (h : Bf E L n u F M) : M.length ≤ n := nodup_le n M h.nod fun x hx => (h.inn x hx).2
theorem Bf.add {E : Nat → Nat → Bool} {L : List Nat} {n u x y : Nat} {F : List Int} {M : List Nat} (h : Bf E L n u F M) (hx : x ∈ M) (hE : E x y = true) (hy : y ∈ L) (hn : y < n) (hm : y ∉ M) : Bf E L n u (F.set y (F.getD x 0 + 1)) (M ++ [y]) where
  len := by rw [List.length_set]; exact h.len
  nod := by
    rw [List.nodup_append]
    exact ⟨h.nod, by simp, fun a ha b hb => by
      obtain rfl : b = y := by simpa using hb
      exact fun e => hm (e ▸ ha)⟩
  inn := fun z hz => by
    rcases List.mem_append.1 hz with e | e
    · exact h.inn z e
    · obtain rfl : z = y := by simpa using e
      exact ⟨hy, hn⟩
  rch := fun z hz => by
    rcases List.mem_append.1 hz with e | e
    · exact h.rch z e
    · obtain rfl : z = y := by simpa using e
      exact .step (h.rch x hx) hE hy
  frm := List.mem_append_left _ h.frm
  sgn := fun z hz => by
    have hxn := (h.inn x hx).2
    have h0 := (h.sgn x hxn).2 hx
    generalize F.getD x 0 = q at h0 ⊢
    rw [List.getD_eq_getElem?_getD, List.getElem?_set]
    by_cases e : y = z
    · subst e
      simp [h.len, hn]
      omega
    · have := h.sgn z hz
      rw [List.getD_eq_getElem?_getD] at this
      simp [e, this, Ne.symm e]
  bnd := fun z hz => by
    have hxn := (h.inn x hx).2
    have h1 := h.bnd x hxn
    have h2 := h.bnd z hz
    generalize F.getD x 0 = q at h1 ⊢
    rw [List.getD_eq_getElem?_getD] at h2
    rw [List.getD_eq_getElem?_getD, List.getElem?_set, List.length_append]
    by_cases e : y = z
    · subst e
      simp [h.len, hn]
      omega
    · simp only [e, if_false]
      simp
      omega
  stp := fun z hz h0 => by
    have hxn := (h.inn x hx).2
    have hxy : x ≠ y := fun e => hm (e ▸ hx)
    have get : ∀ a, a ≠ y → (F.set y (F.getD x 0 + 1)).getD a 0 = F.getD a 0 := fun a ha => by
      rw [List.getD_eq_getElem?_getD, List.getD_eq_getElem?_getD, List.getElem?_set]
      simp [Ne.symm ha]
    by_cases e : z = y
    · subst e
      refine ⟨x, hxn, hE, ?_⟩
      rw [get x hxy, List.getD_eq_getElem?_getD (l := F.set _ _), List.getElem?_set]
      simp [h.len, hn]
    · rw [get z e] at h0 ⊢
      obtain ⟨q, h1, h2, h3⟩ := h.stp z hz h0
      refine ⟨q, h1, h2, ?_⟩
      rw [get q (fun e2 => hm (e2 ▸ (h.sgn q h1).1 (by omega)))]
      exact h3
  zer := fun z hz h0 => by
    have hxn := (h.inn x hx).2
    have h1 := (h.sgn x hxn).2 hx
    rw [List.getD_eq_getElem?_getD, List.getElem?_set] at h0
    by_cases e : y = z
    · subst e
      simp [h.len, hn] at h0
      rw [List.getD_eq_getElem?_getD] at h1
      omega
    · simp only [e, if_false] at h0
      exact h.zer z hz (by rw [List.getD_eq_getElem?_getD]; exact h0)
/-- Of the first so many met all neighbours are met. -/
def BfTo (E : Nat → Nat → Bool) (L M : List Nat) (i : Nat) : Prop := ∀ j, j < i → ∀ y, y ∈ L → E (M.getD j 0) y = true → y ∈ M
theorem BfTo.more {E : Nat → Nat → Bool} {L M : List Nat} {i y : Nat} (h : BfTo E L M i) (hi : i ≤ M.length) : BfTo E L (M ++ [y]) i := fun j hj z hz hE => by
  have e : (M ++ [y]).getD j 0 = M.getD j 0 := by simp [List.getElem?_append_left (show j < M.length by omega)]
  rw [e] at hE
  exact List.mem_append_left _ (h j hj z hz hE)
theorem Bf.done {E : Nat → Nat → Bool} {L : List Nat} {n u : Nat} {F : List Int} {M : List Nat} (h : Bf E L n u F M) (hc : BfTo E L M M.length) : ∀ x, x ∈ M ↔ x ∈ partL E L u := by
  intro x
  rw [mem_partL]
  constructor
  · intro hx
    exact ⟨(h.inn x hx).1, h.rch x hx⟩
  · rintro ⟨_, hx⟩
    refine rch_closed (T := (· ∈ M)) h.frm (fun a b ha hE hb => ?_) x hx
    obtain ⟨j, hj, e⟩ := List.getElem_of_mem ha
    exact hc j hj b hb (by have k : M.getD j 0 = a := by simp [hj, e]
                           rw [k]; exact hE)

end Go.Proofs.YtiooindlpinjhaaDoor
