/- Plain facts, with no program in sight: cutting and contracting a graph that is not folded away, as the reference does it, and on sets of bits. -/
import Derived.Test.YtiooindlpinjhaaDoorWlQ5
import Derived.Test.YtiooindlpinjhaaDoorWlQ8
namespace Go.Proofs.YtiooindlpinjhaaDoor

/-- A row behind v's cutting. -/
def freeRow (g : List (List Int)) (v : Int) (u : Nat) : List Int := if (u : Int) = v then [] else lessL (row g u) v
def freeG (g : List (List Int)) (v : Int) : List (List Int) := (List.range g.length).map (freeRow g v)
theorem freeG_length (g : List (List Int)) (v : Int) : (freeG g v).length = g.length := by simp [freeG]
theorem row_freeG (g : List (List Int)) (v : Int) {u : Nat} (hu : u < g.length) : row (freeG g v) u = freeRow g v u := by simp [row, freeG, hu]
theorem freeRow_length (g : List (List Int)) (v : Int) (u : Nat) : (freeRow g v u).length ≤ (row g u).length := by
  unfold freeRow; split
  · simp
  · exact lessL_length _ _
theorem freeRow_yes {g : List (List Int)} {v : Int} {u : Nat} (h : (u : Int) = v) : freeRow g v u = [] := if_pos h
theorem freeRow_no {g : List (List Int)} {v : Int} {u : Nat} (h : ¬ (u : Int) = v) : freeRow g v u = lessL (row g u) v := if_neg h

theorem row_put (g : List (List Int)) (x y : Nat) (r : List Int) : row (g.set x r) y = if y = x ∧ x < g.length then r else row g y := by
  simp only [row, List.getD_eq_getElem?_getD, List.getElem?_set]
  by_cases e : x = y
  · subst e
    by_cases h : x < g.length
    · simp [h]
    · simp [h]
  · simp [e, Ne.symm e]

/-- Two more neighbours. -/
def tieG (g : List (List Int)) (u x : Nat) : List (List Int) := (g.set x (intoL (row g x) u)).set u (intoL (row (g.set x (intoL (row g x) u)) u) x)
theorem tieG_length (g : List (List Int)) (u x : Nat) : (tieG g u x).length = g.length := by simp [tieG]
theorem row_tieG (g : List (List Int)) {u x : Nat} (hu : u < g.length) (hx : x < g.length) (h : x ≠ u) (y : Nat) : row (tieG g u x) y = if y = u then intoL (row g u) x else if y = x then intoL (row g x) u else row g y := by
  unfold tieG
  rw [row_put]
  by_cases e : y = u
  · subst e
    rw [if_pos ⟨rfl, by simpa using hu⟩, if_pos rfl, row_put, if_neg (fun c => h c.1.symm)]
  · rw [if_neg (fun c => e c.1), if_neg e, row_put]
    by_cases e2 : y = x
    · rw [if_pos ⟨e2, hx⟩, if_pos e2]
    · rw [if_neg (fun c => e2 c.1), if_neg e2]
def tieStep (u : Int) (g : List (List Int)) (x : Int) : List (List Int) := if x = u then g else tieG g u.toNat x.toNat
def joinG (g : List (List Int)) (u v : Int) : List (List Int) := (row g v.toNat).foldl (tieStep u) (freeG g v)
theorem tieStep_length (u : Int) (g : List (List Int)) (x : Int) : (tieStep u g x).length = g.length := by
  unfold tieStep; split
  · rfl
  · exact tieG_length ..
theorem tieFold_length (u : Int) (l : List Int) : ∀ g : List (List Int), (l.foldl (tieStep u) g).length = g.length := by
  induction l with
  | nil => intro g; rfl
  | cons x l ih => intro g; rw [List.foldl_cons, ih, tieStep_length]
theorem joinG_length (g : List (List Int)) (u v : Int) : (joinG g u v).length = g.length := by rw [joinG, tieFold_length, freeG_length]

/-- Rows that are sets of vertices. -/
def RG (g : List (List Int)) : Prop := ∀ j, SetIn g.length (row g j)
theorem row_over {g : List (List Int)} {j : Nat} (h : g.length ≤ j) : row g j = [] := by simp [row, h]
theorem RG.of_ok {g : List (List Int)} (h : GOk g) : RG g := by
  intro j
  by_cases hj : j < g.length
  · exact (h.sets j hj).1
  · rw [row_over (by omega)]; exact setIn_nil _
theorem RG.row_le {g : List (List Int)} (h : RG g) (j : Nat) : (row g j).length ≤ g.length := by
  have := setIn_length (by omega) (h j)
  omega
theorem setIn_lessL {n : Int} {s : List Int} (h : SetIn n s) (v : Int) : SetIn n (lessL s v) := ⟨fun x hx => h.1 x (mem_lessL.1 hx).1, lessL_rising h.2 v⟩
theorem setIn_intoL {n : Int} {s : List Int} (h : SetIn n s) {v : Int} (h0 : 0 ≤ v) (hn : v < n) : SetIn n (intoL s v) := by
  refine ⟨fun x hx => ?_, intoL_rising h.2⟩
  rcases mem_intoL.1 hx with e | e
  · exact h.1 x e
  · subst e; exact ⟨h0, hn⟩
theorem RG.free {g : List (List Int)} (h : RG g) (v : Int) : RG (freeG g v) := by
  intro j
  rw [freeG_length]
  by_cases hj : j < g.length
  · rw [row_freeG g v hj]
    unfold freeRow; split
    · exact setIn_nil _
    · exact setIn_lessL (h j) v
  · rw [row_over (by rw [freeG_length]; omega)]; exact setIn_nil _
theorem RG.tie {u : Int} {g : List (List Int)} {x : Int} (h : RG g) (hu0 : 0 ≤ u) (hu : u.toNat < g.length) (hx0 : 0 ≤ x) (hx : x.toNat < g.length) : RG (tieStep u g x) := by
  intro j
  rw [tieStep_length]
  unfold tieStep
  by_cases e : x = u
  · rw [if_pos e]; exact h j
  · rw [if_neg e, row_tieG g hu hx (by omega)]
    split
    · exact setIn_intoL (h _) (by omega) (by omega)
    · split
      · exact setIn_intoL (h _) (by omega) (by omega)
      · exact h j
theorem tieStep_mem {u : Int} {g : List (List Int)} {x : Int} (hu : u.toNat < g.length) (hx : x.toNat < g.length) (hu0 : 0 ≤ u) (hx0 : 0 ≤ x) (j : Nat) (y : Int) :
    y ∈ row (tieStep u g x) j ↔ y ∈ row g j ∨ (x ≠ u ∧ (((j : Int) = x ∧ y = u) ∨ ((j : Int) = u ∧ y = x))) := by
  unfold tieStep
  by_cases e : x = u
  · rw [if_pos e]; simp [e]
  · rw [if_neg e, row_tieG g hu hx (by omega)]
    have e1 : (u.toNat : Int) = u := by omega
    have e2 : (x.toNat : Int) = x := by omega
    by_cases c : j = u.toNat
    · subst c
      rw [if_pos rfl, mem_intoL, e1, e2]
      constructor
      · rintro (h | h)
        · exact .inl h
        · exact .inr ⟨e, .inr ⟨rfl, h⟩⟩
      · rintro (h | ⟨_, ⟨h, _⟩ | ⟨_, h⟩⟩)
        · exact .inl h
        · exact absurd h.symm e
        · exact .inr h
    · rw [if_neg c]
      by_cases c2 : j = x.toNat
      · subst c2
        rw [if_pos rfl, mem_intoL, e1, e2]
        constructor
        · rintro (h | h)
          · exact .inl h
          · exact .inr ⟨e, .inl ⟨rfl, h⟩⟩
        · rintro (h | ⟨_, ⟨_, h⟩ | ⟨h, _⟩⟩)
          · exact .inl h
          · exact .inr h
          · exact absurd h e
      · rw [if_neg c2]
        constructor
        · exact .inl
        · rintro (h | ⟨_, ⟨h, _⟩ | ⟨h, _⟩⟩)
          · exact h
          · omega
          · omega
theorem tieFold_mem {u : Int} (hu0 : 0 ≤ u) (l : List Int) : ∀ g : List (List Int), u.toNat < g.length → (∀ x ∈ l, 0 ≤ x ∧ x.toNat < g.length) → RG g → RG (l.foldl (tieStep u) g) ∧
    ∀ (j : Nat) (y : Int), y ∈ row (l.foldl (tieStep u) g) j ↔ y ∈ row g j ∨ (∃ x ∈ l, x ≠ u ∧ (((j : Int) = x ∧ y = u) ∨ ((j : Int) = u ∧ y = x))) := by
  induction l with
  | nil => intro g _ _ hr; exact ⟨hr, fun j y => by simp⟩
  | cons x l ih =>
    intro g hu hl hr
    have hx := hl x (by simp)
    obtain ⟨h1, h2⟩ := ih (tieStep u g x) (by rw [tieStep_length]; exact hu) (fun y hy => by rw [tieStep_length]; exact hl y (by simp [hy])) (hr.tie hu0 hu hx.1 hx.2)
    refine ⟨h1, fun j y => ?_⟩
    rw [List.foldl_cons, h2 j y, tieStep_mem hu hx.2 hu0 hx.1]
    constructor
    · rintro ((h | h) | ⟨z, hz, h⟩)
      · exact .inl h
      · exact .inr ⟨x, by simp, h⟩
      · exact .inr ⟨z, by simp [hz], h⟩
    · rintro (h | ⟨z, hz, h⟩)
      · exact .inl (.inl h)
      · rcases List.mem_cons.1 hz with e | e
        · subst e; exact .inl (.inr h)
        · exact .inr ⟨z, e, h⟩

/-- What the contracting adds. -/
theorem joinG_mem {g : List (List Int)} {u v : Int} (hr : RG g) (hu0 : 0 ≤ u) (hu : u < g.length) : RG (joinG g u v) ∧ ∀ (j : Nat) (y : Int), y ∈ row (joinG g u v) j ↔ y ∈ row (freeG g v) j ∨ (∃ x ∈ row g v.toNat, x ≠ u ∧ (((j : Int) = x ∧ y = u) ∨ ((j : Int) = u ∧ y = x))) :=
  tieFold_mem hu0 _ _ (by rw [freeG_length]; omega) (fun x hx => by have := (hr v.toNat).1 x hx; rw [freeG_length]; omega) (hr.free v)

/-- Something is left, if one folds as long as one can. -/
def HardS (g : List (List Int)) (left : List Int) : Prop := ∃ fs l g', Folds g left fs l g' ∧ 0 < l.length
theorem hardS_iff {g : List (List Int)} {left : List Int} {fs : List Fd} {l : List Int} {g' : List (List Int)} (h : Folds g left fs l g') : HardS g left ↔ 0 < l.length := by
  constructor
  · rintro ⟨fs2, l2, g2, h2, hl⟩
    obtain ⟨_, rfl, _⟩ := folds_det h h2
    exact hl
  · exact fun hl => ⟨_, _, _, h, hl⟩

/-- Who can be cut, and which edge can be contracted. -/
noncomputable def lessOf (g : List (List Int)) (L : List Int) : Option Int := L.find? (fun v => dec (HardS (freeG g v) (lessL L v)))
noncomputable def edgeRow (g : List (List Int)) (L : List Int) (u : Int) : Option Int := (row g u.toNat).find? (fun v => dec (u < v) && dec (HardS (joinG g u v) (lessL L v)))
noncomputable def edgeF (g : List (List Int)) (L : List Int) (u : Int) : Option (Int × Int) := (edgeRow g L u).map fun v => (u, v)
noncomputable def edgeOf (g : List (List Int)) (L : List Int) : Option (Int × Int) := L.findSome? (edgeF g L)
def intoAll (s t : List Int) : List Int := t.foldl intoL s

theorem find_drop {p : Int → Bool} {l : List Int} {i : Nat} (h : i < l.length) : (l.drop i).find? p = if p l[i] = true then some l[i] else (l.drop (i + 1)).find? p := by
  rw [List.drop_eq_getElem_cons h, List.find?_cons]
  cases p l[i] <;> simp
theorem find_stop {p : Int → Bool} {l : List Int} {i : Nat} (h : l.length ≤ i) : (l.drop i).find? p = none := by rw [List.drop_of_length_le h]; rfl
theorem some_drop {f : Int → Option (Int × Int)} {l : List Int} {i : Nat} (h : i < l.length) : (l.drop i).findSome? f = (f l[i]).or ((l.drop (i + 1)).findSome? f) := by
  rw [List.drop_eq_getElem_cons h, List.findSome?_cons]
  cases f l[i] <;> simp
theorem some_stop {f : Int → Option (Int × Int)} {l : List Int} {i : Nat} (h : l.length ≤ i) : (l.drop i).findSome? f = none := by rw [List.drop_of_length_le h]; rfl

/-- The reference cuts and contracts as long as it can. -/
inductive Fours : List (List Int) → List Int → List (List Int) → List Int → List (List Int) → Prop
  | stop {g : List (List Int)} {L : List Int} {S : List (List Int)} (h1 : lessOf g L = none) (h2 : edgeOf g L = none) : Fours g L S L S
  | less {g : List (List Int)} {L : List Int} {S : List (List Int)} {v : Int} {L' : List Int} {S' : List (List Int)} (h1 : lessOf g L = some v) (h : Fours (freeG g v) (lessL L v) S L' S') : Fours g L S L' S'
  | edge {g : List (List Int)} {L : List Int} {S : List (List Int)} {u v : Int} {L' : List Int} {S' : List (List Int)} (h1 : lessOf g L = none) (h2 : edgeOf g L = some (u, v))
      (h : Fours (joinG g u v) (lessL L v) (S.set u.toNat (intoAll (row S u.toNat) (row S v.toNat))) L' S') : Fours g L S L' S'

theorem fours_det {g : List (List Int)} {L : List Int} {S : List (List Int)} {L' : List Int} {S' : List (List Int)} (h : Fours g L S L' S') : ∀ {L2 : List Int} {S2 : List (List Int)}, Fours g L S L2 S2 → L' = L2 ∧ S' = S2 := by
  induction h with
  | stop h1 h2 =>
    intro L2 S2 k
    cases k with
    | stop => exact ⟨rfl, rfl⟩
    | less k1 _ => rw [h1] at k1; cases k1
    | edge _ k2 _ => rw [h2] at k2; cases k2
  | less h1 _ ih =>
    intro L2 S2 k
    cases k with
    | stop k1 _ => rw [h1] at k1; cases k1
    | less k1 k => rw [h1] at k1; cases k1; exact ih k
    | edge k1 _ _ => rw [h1] at k1; cases k1
  | edge h1 h2 _ ih =>
    intro L2 S2 k
    cases k with
    | stop _ k2 => rw [h2] at k2; cases k2
    | less k1 _ => rw [h1] at k1; cases k1
    | edge _ k2 k => rw [h2] at k2; cases k2; exact ih k

/-- What a loop carries: whatever comes of this comes of the first. -/
def FoursOn (g0 : List (List Int)) (L0 : List Int) (S0 : List (List Int)) (g : List (List Int)) (L : List Int) (S : List (List Int)) : Prop := ∀ L' S', Fours g L S L' S' → Fours g0 L0 S0 L' S'

/-- The sets at the start, and the result. -/
def aloneL (n : Nat) : List (List Int) := (List.range n).map fun (i : Nat) => [(i : Int)]
def FourS (g : List (List Int)) (out : List (List Int)) (b : Bool) : Prop :=
  (b = false ∧ out = [] ∧ ¬ (GOk g ∧ ¬ SerS g)) ∨ (b = true ∧ GOk g ∧ ¬ SerS g ∧ ∃ L S, Fours g (allL g.length) (aloneL g.length) L S ∧ out = L.map fun v => row S v.toNat)
theorem fourS_det {g : List (List Int)} {o1 o2 : List (List Int)} {b1 b2 : Bool} (h1 : FourS g o1 b1) (h2 : FourS g o2 b2) : o1 = o2 ∧ b1 = b2 := by
  rcases h1 with ⟨rfl, rfl, h⟩ | ⟨rfl, h, h', L, S, hf, rfl⟩
  · rcases h2 with ⟨rfl, rfl, _⟩ | ⟨_, k, k', _⟩
    · exact ⟨rfl, rfl⟩
    · exact absurd ⟨k, k'⟩ h
  · rcases h2 with ⟨_, _, k⟩ | ⟨rfl, _, _, L2, S2, hf2, rfl⟩
    · exact absurd ⟨h, h'⟩ k
    · obtain ⟨rfl, rfl⟩ := fours_det hf hf2
      exact ⟨rfl, rfl⟩

end Go.Proofs.YtiooindlpinjhaaDoor

/- Plain: the least width of taking away all vertices; a model of a full graph bounds it from below. -/
namespace Go.Proofs.YtiooindlpinjhaaDoor

/-- Who is gone, by bits. -/
def inS (s : Nat) : Nat → Prop := fun x => s.testBit x = true
noncomputable def behS (n : Nat) (E : Nat → Nat → Bool) (s v : Nat) : List Nat := (List.range n).filter fun u => !s.testBit u && decide (u ≠ v) && dec (∃ x, Rch E (inS s) v x ∧ E x u = true)
theorem mem_behS {n : Nat} {E : Nat → Nat → Bool} {s v u : Nat} : u ∈ behS n E s v ↔ u < n ∧ s.testBit u = false ∧ u ≠ v ∧ ∃ x, Rch E (inS s) v x ∧ E x u = true := by
  unfold behS
  rw [List.mem_filter, List.mem_range, Bool.and_eq_true, Bool.and_eq_true, Bool.not_eq_true', decide_eq_true_eq, dec_iff, and_assoc]
theorem behS_rising (n : Nat) (E : Nat → Nat → Bool) (s v : Nat) : (behS n E s v).Pairwise (· < ·) := List.Pairwise.filter _ List.pairwise_lt_range
theorem behS_le (n : Nat) (E : Nat → Nat → Bool) (s v : Nat) : (behS n E s v).length ≤ n := by
  have := List.length_filter_le (fun u => !s.testBit u && decide (u ≠ v) && dec (∃ x, Rch E (inS s) v x ∧ E x u = true)) (List.range n)
  rwa [List.length_range] at this

/-- Whom a search that goes over those who are gone has seen to. -/
def HndB (s v : Nat) (M : List Nat) (O : List Int) (u : Nat) : Prop := (s.testBit u = true → u ∈ M) ∧ (s.testBit u = false → u ≠ v → (u : Int) ∈ O)
structure BhI (n : Nat) (E : Nat → Nat → Bool) (s v : Nat) (M : List Nat) (O : List Int) : Prop where
  nod : M.Nodup
  one : v ∈ M
  rch : ∀ x ∈ M, Rch E (inS s) v x
  lt : ∀ x ∈ M, x < n
  ris : O.Pairwise (· < ·)
  snd : ∀ y ∈ O, ∃ u : Nat, y = u ∧ u ∈ behS n E s v
theorem BhI.start {n : Nat} {E : Nat → Nat → Bool} {s v : Nat} (hv : v < n) : BhI n E s v [v] [] :=
  ⟨by simp, by simp, fun x hx => by
    obtain rfl : x = v := by simpa using hx
    exact .base, fun x hx => by
    obtain rfl : x = v := by simpa using hx
    exact hv, List.Pairwise.nil, fun y hy => by cases hy⟩
theorem BhI.le {n : Nat} {E : Nat → Nat → Bool} {s v : Nat} {M : List Nat} {O : List Int} (h : BhI n E s v M O) : M.length ≤ n := nodup_le n M h.nod h.lt
theorem BhI.le2 {n : Nat} {E : Nat → Nat → Bool} {s v : Nat} {M : List Nat} {O : List Int} (h : BhI n E s v M O) : O.length ≤ n := by
  have hs : SetIn n O := ⟨fun x hx => by
    obtain ⟨u, rfl, hu⟩ := h.snd x hx
    have := (mem_behS.1 hu).1
    omega, h.ris⟩
  have := setIn_length (by omega) hs
  omega
theorem BhI.add {n : Nat} {E : Nat → Nat → Bool} {s v x u : Nat} {M : List Nat} {O : List Int} (h : BhI n E s v M O) (hx : x ∈ M) (hE : E x u = true) (hu : u < n) (hs : s.testBit u = true) (hm : u ∉ M) : BhI n E s v (M ++ [u]) O :=
  ⟨by
    rw [List.nodup_append]
    exact ⟨h.nod, by simp, fun a ha b hb e => by
      obtain rfl : b = u := by simpa using hb
      exact hm (e ▸ ha)⟩, List.mem_append_left _ h.one, fun y hy => by
    rcases List.mem_append.1 hy with hy | hy
    · exact h.rch y hy
    · obtain rfl : y = u := by simpa using hy
      exact .step (h.rch x hx) hE hs, fun y hy => by
    rcases List.mem_append.1 hy with hy | hy
    · exact h.lt y hy
    · obtain rfl : y = u := by simpa using hy
      exact hu, h.ris, h.snd⟩
theorem BhI.put {n : Nat} {E : Nat → Nat → Bool} {s v x u : Nat} {M : List Nat} {O : List Int} (h : BhI n E s v M O) (hx : x ∈ M) (hE : E x u = true) (hu : u < n) (hs : s.testBit u = false) (hv : u ≠ v) : BhI n E s v M (intoL O u) :=
  ⟨h.nod, h.one, h.rch, h.lt, intoL_rising h.ris, fun y hy => by
    rcases mem_intoL.1 hy with hy | rfl
    · exact h.snd y hy
    · exact ⟨u, rfl, mem_behS.2 ⟨hu, hs, hv, x, h.rch x hx, hE⟩⟩⟩
theorem HndB.mono {s v u : Nat} {M M' : List Nat} {O O' : List Int} (h : HndB s v M O u) (hM : ∀ x ∈ M, x ∈ M') (hO : ∀ x ∈ O, x ∈ O') : HndB s v M' O' u := ⟨fun k => hM _ (h.1 k), fun k k' => hO _ (h.2 k k')⟩
/-- When all are seen to, the list is right. -/
theorem BhI.done {n : Nat} {E : Nat → Nat → Bool} {s v : Nat} {M : List Nat} {O : List Int} (h : BhI n E s v M O) (hc : ∀ x ∈ M, ∀ u, u < n → E x u = true → HndB s v M O u) (hEn : ∀ x y, E x y = true → y < n) : O = natInts (behS n E s v) := by
  have hall : ∀ x, Rch E (inS s) v x → x ∈ M := rch_closed (T := (· ∈ M)) h.one fun x y hx hE hy => (hc x hx y (hEn x y hE) hE).1 hy
  refine rising_ext_int _ _ h.ris (natInts_rising (behS_rising _ _ _ _)) fun y => ?_
  rw [mem_natInts]
  constructor
  · intro hy
    obtain ⟨u, rfl, hu⟩ := h.snd y hy
    exact ⟨u, hu, rfl⟩
  · rintro ⟨u, hu, rfl⟩
    obtain ⟨h1, h2, h3, x, h4, h5⟩ := mem_behS.1 hu
    exact (hc x (hall x h4) u h1 h5).2 h2 h3

/-! ### The least width -/
def stepO (b : Int) (x : Nat) : Int := if b < 0 ∨ (x : Int) < b then (x : Int) else b
def minO (l : List Nat) : Int := l.foldl stepO (-1)
theorem minO_snoc (l : List Nat) (x : Nat) : minO (l ++ [x]) = stepO (minO l) x := by simp [minO]
theorem foldO (l : List Nat) : ∀ b : Int, (0 ≤ b → 0 ≤ l.foldl stepO b ∧ l.foldl stepO b ≤ b ∧ (l.foldl stepO b = b ∨ ∃ x ∈ l, l.foldl stepO b = (x : Int)) ∧ ∀ x ∈ l, l.foldl stepO b ≤ (x : Int)) := by
  induction l with
  | nil => intro b hb; exact ⟨hb, Int.le_refl _, .inl rfl, fun x hx => by cases hx⟩
  | cons y l ih =>
    intro b hb
    have hs : 0 ≤ stepO b y := by unfold stepO; split <;> omega
    have hs2 : stepO b y ≤ b ∧ stepO b y ≤ y ∧ (stepO b y = b ∨ stepO b y = y) := by unfold stepO; split <;> omega
    obtain ⟨h1, h2, h3, h4⟩ := ih _ hs
    rw [List.foldl_cons]
    refine ⟨h1, by omega, ?_, fun x hx => ?_⟩
    · rcases h3 with h3 | ⟨x, hx, h3⟩
      · rcases hs2.2.2 with e | e
        · exact .inl (h3.trans e)
        · exact .inr ⟨y, by simp, h3.trans e⟩
      · exact .inr ⟨x, by simp [hx], h3⟩
    · rcases List.mem_cons.1 hx with rfl | hx
      · omega
      · exact h4 x hx
theorem minO_some {l : List Nat} (h : l ≠ []) : ∃ x ∈ l, minO l = (x : Int) := by
  cases l with
  | nil => exact absurd rfl h
  | cons y l =>
    have e : minO (y :: l) = l.foldl stepO (y : Int) := by
      unfold minO
      rw [List.foldl_cons]
      congr 1
    obtain ⟨_, _, h3, _⟩ := foldO l (y : Int) (by omega)
    rw [e]
    rcases h3 with h3 | ⟨x, hx, h3⟩
    · exact ⟨y, by simp, h3⟩
    · exact ⟨x, by simp [hx], h3⟩
theorem minO_le {l : List Nat} : ∀ x ∈ l, minO l ≤ (x : Int) := by
  cases l with
  | nil => intro x hx; cases hx
  | cons y l =>
    have e : minO (y :: l) = l.foldl stepO (y : Int) := by
      unfold minO
      rw [List.foldl_cons]
      congr 1
    obtain ⟨_, h2, _, h4⟩ := foldO l (y : Int) (by omega)
    intro x hx
    rw [e]
    rcases List.mem_cons.1 hx with rfl | hx
    · exact h2
    · exact h4 x hx
theorem minO_nil : minO [] = -1 := rfl
theorem minO_ge (l : List Nat) : -1 ≤ minO l := by
  by_cases h : l = []
  · rw [h, minO_nil]; omega
  · obtain ⟨x, _, hx⟩ := minO_some h
    omega

def freeS (n s : Nat) : List Nat := (List.range n).filter fun v => !s.testBit v
theorem mem_freeS {n s v : Nat} : v ∈ freeS n s ↔ v < n ∧ s.testBit v = false := by
  unfold freeS
  rw [List.mem_filter, List.mem_range, Bool.not_eq_true']
theorem testBit_put (s v x : Nat) : (s ||| 2 ^ v).testBit x = (s.testBit x || decide (v = x)) := by
  rw [Nat.testBit_or]
  by_cases e : v = x
  · subst e; simp
  · rw [Nat.testBit_two_pow_of_ne e]; simp [e]
theorem freeS_put {n s v : Nat} (hv : v ∈ freeS n s) : (freeS n (s ||| 2 ^ v)).length + 1 = (freeS n s).length := by
  have h1 : freeS n (s ||| 2 ^ v) = (freeS n s).filter (· != v) := by
    unfold freeS
    rw [List.filter_filter]
    congr 1
    funext x
    rw [testBit_put]
    by_cases e : v = x
    · subst e; simp
    · simp [e, Ne.symm e]
  have hnd : (freeS n s).Nodup := List.Pairwise.filter _ List.nodup_range
  rw [h1]
  have key : ∀ l : List Nat, l.Nodup → v ∈ l → (l.filter (· != v)).length + 1 = l.length := by
    intro l
    induction l with
    | nil => intro _ h; cases h
    | cons x l ih =>
      intro hn hm
      have hn' := List.nodup_cons.1 hn
      by_cases e : x = v
      · subst e
        have : l.filter (· != x) = l := List.filter_eq_self.2 fun y hy => by
          have : y ≠ x := fun e => hn'.1 (e ▸ hy)
          simpa using this
        rw [List.filter_cons, this]
        simp
      · have hm' : v ∈ l := by
          rcases List.mem_cons.1 hm with h | h
          · exact absurd h.symm e
          · exact h
        have h5 := ih hn'.2 hm'
        rw [List.filter_cons, if_pos (by simpa using e)]
        simp only [List.length_cons]
        omega
  exact key _ hnd hv
noncomputable def twN (n : Nat) (E : Nat → Nat → Bool) : Nat → Nat → Nat
  | 0, _ => 0
  | r + 1, s => (max (minO ((freeS n s).map fun v => max (behS n E s v).length (twN n E r (s ||| 2 ^ v)))) 0).toNat
noncomputable def twS (n : Nat) (E : Nat → Nat → Bool) (s : Nat) : Nat := twN n E (freeS n s).length s
noncomputable def valS (n : Nat) (E : Nat → Nat → Bool) (s v : Nat) : Nat := max (behS n E s v).length (twS n E (s ||| 2 ^ v))
theorem twS_eq (n : Nat) (E : Nat → Nat → Bool) (s : Nat) : (twS n E s : Int) = max (minO ((freeS n s).map (valS n E s))) 0 := by
  by_cases h : freeS n s = []
  · have e : twS n E s = 0 := by unfold twS; rw [h]; rfl
    rw [e, h, List.map_nil, minO_nil]
    rfl
  · obtain ⟨r, hr⟩ : ∃ r, (freeS n s).length = r + 1 := ⟨(freeS n s).length - 1, by have := List.length_pos_iff.2 h; omega⟩
    have e : twS n E s = twN n E (r + 1) s := by unfold twS; rw [hr]
    rw [e, twN]
    have e2 : ((freeS n s).map fun v => max (behS n E s v).length (twN n E r (s ||| 2 ^ v))) = (freeS n s).map (valS n E s) := by
      refine List.map_congr_left fun v hv => ?_
      have := freeS_put hv
      unfold valS twS
      rw [show (freeS n (s ||| 2 ^ v)).length = r by omega]
    rw [e2]
    omega
theorem behS_lt {n : Nat} {E : Nat → Nat → Bool} {s v : Nat} (hv : v < n) : (behS n E s v).length < n := by
  have := sub_len (v :: behS n E s v) (List.range n) (List.nodup_cons.2 ⟨fun h => (mem_behS.1 h).2.2.1 rfl, (behS_rising _ _ _ _).imp fun h => by omega⟩) fun x hx => by
    rw [List.mem_range]
    rcases List.mem_cons.1 hx with rfl | hx
    · exact hv
    · exact (mem_behS.1 hx).1
  rw [List.length_range] at this
  simp at this; omega
theorem twS_le (n : Nat) (E : Nat → Nat → Bool) : ∀ (r s : Nat), (freeS n s).length = r → twS n E s ≤ n
  | r, s, hr => by
    have h := twS_eq n E s
    by_cases hn : freeS n s = []
    · rw [hn, List.map_nil, minO_nil] at h
      omega
    · obtain ⟨x, hx, e⟩ := minO_some (l := (freeS n s).map (valS n E s)) (by simpa using hn)
      obtain ⟨v, hv, rfl⟩ := List.mem_map.1 hx
      have hf := freeS_put hv
      match r, hr with
      | 0, hr => omega
      | r + 1, hr =>
        have h1 := twS_le n E r (s ||| 2 ^ v) (by omega)
        have h2 := behS_le n E s v
        have : valS n E s v ≤ n := by unfold valS; omega
        rw [e] at h
        omega

/-- The neighbours over those who are gone. -/
def viaR (E : Nat → Nat → Bool) (s : Nat) : Nat → Nat → Prop := fun x y => s.testBit x = false ∧ s.testBit y = false ∧ x ≠ y ∧ ∃ z, Rch E (inS s) x z ∧ E z y = true
theorem rch_back {E : Nat → Nat → Bool} {s v : Nat} (hE : ∀ x y, E x y = true → E y x = true) {z : Nat} (h : Rch E (inS s) v z) : ∀ x, E z x = true → Rch E (inS (s ||| 2 ^ v)) x v := by
  induction h with
  | base => intro x hx; exact .step .base (hE _ _ hx) (by unfold inS; rw [testBit_put]; simp)
  | @step z' z hz' hzz hz ih =>
    intro x hx
    have h1 : inS (s ||| 2 ^ v) z := by unfold inS at *; rw [testBit_put, hz]; rfl
    exact rch_trans (.step .base (hE _ _ hx) h1) (ih z hzz)
theorem viaR_gone {E : Nat → Nat → Bool} {s v x y : Nat} (hE : ∀ x y, E x y = true → E y x = true) (h : goneR (viaR E s) v x y) : viaR E (s ||| 2 ^ v) x y := by
  obtain ⟨h1, h2, h3, h⟩ := h
  have mono : ∀ t, inS s t → inS (s ||| 2 ^ v) t := fun t ht => by unfold inS at *; rw [testBit_put, ht]; rfl
  have bit : ∀ t, t ≠ v → s.testBit t = false → (s ||| 2 ^ v).testBit t = false := fun t ht hs => by rw [testBit_put, hs]; simpa using Ne.symm ht
  rcases h with ⟨k1, k2, _, z, k3, k4⟩ | ⟨⟨_, k2, _, z, k3, k4⟩, ⟨_, m2, _, z2, m3, m4⟩⟩
  · exact ⟨bit x h1 k1, bit y h2 k2, h3, z, rch_mono mono _ k3, k4⟩
  · exact ⟨bit x h1 k2, bit y h2 m2, h3, z2, rch_trans (rch_back hE k3 x k4) (rch_mono mono _ m3), m4⟩
theorem viaR_sym {E : Nat → Nat → Bool} {s x y : Nat} (hE : ∀ x y, E x y = true → E y x = true) (h : viaR E s x y) : viaR E s y x := by
  obtain ⟨h1, h2, h3, z, h4, h5⟩ := h
  refine ⟨h2, h1, Ne.symm h3, ?_⟩
  -- from y back to x: the last step into x comes from a gone vertex or from y
  have key : ∀ z, Rch E (inS s) x z → ∀ y, E z y = true → ∃ t, Rch E (inS s) y t ∧ E t x = true := by
    intro z hz
    induction hz with
    | base => intro y hy; exact ⟨y, .base, hE _ _ hy⟩
    | @step z' z _ hzz hz ih =>
      intro y hy
      obtain ⟨t, ht, hx⟩ := ih z hzz
      exact ⟨t, rch_trans (.step .base (hE _ _ hy) hz) ht, hx⟩
  exact key z h4 y h5
theorem viaR_zero {E : Nat → Nat → Bool} (hi : ∀ x, E x x = false) (x y : Nat) (h : E x y = true) : viaR E 0 x y :=
  ⟨Nat.zero_testBit x, Nat.zero_testBit y, fun e => (by rw [e, hi] at h; cases h), x, .base, h⟩
/-- A model of a full graph: each order of taking away is at least so wide. -/
theorem km_tw {n : Nat} {E : Nat → Nat → Bool} (hE : ∀ x y, E x y = true → E y x = true) (hEn : ∀ x y, E x y = true → y < n) {k : Nat} (hk : 2 ≤ k) : ∀ (r s : Nat) (B : Nat → Nat → Prop), (freeS n s).length = r → KM (viaR E s) k B → k ≤ twS n E s + 1
  | r, s, B, hr, h => by
    have hne : freeS n s ≠ [] := by
      obtain ⟨x, hx⟩ := h.ne 0 (by omega)
      obtain ⟨y, hy⟩ := h.near hk (by omega) hx
      obtain ⟨_, h2, _, z, _, h5⟩ := hy
      exact List.ne_nil_of_mem (mem_freeS.2 ⟨hEn _ _ h5, h2⟩)
    obtain ⟨x, hx, e⟩ := minO_some (l := (freeS n s).map (valS n E s)) (by simpa using hne)
    obtain ⟨v, hv, rfl⟩ := List.mem_map.1 hx
    have hf := freeS_put hv
    have heq := twS_eq n E s
    rw [e] at heq
    have hval : twS n E s = valS n E s v := by omega
    rw [hval]
    unfold valS
    by_cases c : k ≤ (behS n E s v).length + 1
    · omega
    · have hg := h.gone (fun x y => viaR_sym hE) (v := v) (l := behS n E s v) (by omega) fun x hx => by
        obtain ⟨_, h2, h3, z, h4, h5⟩ := hx
        exact mem_behS.2 ⟨hEn _ _ h5, h2, Ne.symm h3, z, h4, h5⟩
      have hg2 := hg.mono fun _ _ _ _ x y _ _ r => viaR_gone hE r
      match r, hr with
      | 0, hr => omega
      | r + 1, hr =>
        have := km_tw hE hEn hk r (s ||| 2 ^ v) _ (by omega) hg2
        omega

end Go.Proofs.YtiooindlpinjhaaDoor
