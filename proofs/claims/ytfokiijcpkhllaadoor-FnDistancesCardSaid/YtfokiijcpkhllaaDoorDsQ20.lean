/- Plain facts, with no program in sight: cutting and contracting a graph that is not folded away, as the reference does it, and on sets of bits. -/
import Derived.Test.YtfokiijcpkhllaaDoorDsQ5
namespace Go.Proofs.YtfokiijcpkhllaaDoor

/-- A row behind v's cutting. -/
def freeRow (g : List (List Int)) (v : Int) (u : Nat) : List Int := if (u : Int) = v then [] else lessL (row g u) v
def freeG (g : List (List Int)) (v : Int) : List (List Int) := (List.range g.length).map (freeRow g v)
theorem freeG_length (g : List (List Int)) (v : Int) : (freeG g v).length = g.length := by simp [freeG]
theorem row_freeG (g : List (List Int)) (v : Int) {u : Nat} (hu : u < g.length) : row (freeG g v) u = freeRow g v u := by simp [row, freeG, hu]
theorem freeRow_length (g : List (List Int)) (v : Int) (u : Nat) : (freeRow g v u).length ≤ (row g u).length := by
  unfold freeRow; split
  · simp
  · exact lessL_length _ _
theorem freeRow_yes {g : List (List Int)} {v : Int} {u : Nat} (h : (u : Int) = v) : freeRow g v u = [] := if_pos h
theorem freeRow_no {g : List (List Int)} {v : Int} {u : Nat} (h : ¬ (u : Int) = v) : freeRow g v u = lessL (row g u) v := if_neg h

theorem row_put (g : List (List Int)) (x y : Nat) (r : List Int) : row (g.set x r) y = if y = x ∧ x < g.length then r else row g y := by
  simp only [row, List.getD_eq_getElem?_getD, List.getElem?_set]
  by_cases e : x = y
  · subst e
    by_cases h : x < g.length
    · simp [h]
    · simp [h]
  · simp [e, Ne.symm e]

/-- Two more neighbours. -/
def tieG (g : List (List Int)) (u x : Nat) : List (List Int) := (g.set x (intoL (row g x) u)).set u (intoL (row (g.set x (intoL (row g x) u)) u) x)
theorem tieG_length (g : List (List Int)) (u x : Nat) : (tieG g u x).length = g.length := by simp [tieG]
theorem row_tieG (g : List (List Int)) {u x : Nat} (hu : u < g.length) (hx : x < g.length) (h : x ≠ u) (y : Nat) : row (tieG g u x) y = if y = u then intoL (row g u) x else if y = x then intoL (row g x) u else row g y := by
  unfold tieG
  rw [row_put]
  by_cases e : y = u
  · subst e
    rw [if_pos ⟨rfl, by simpa using hu⟩, if_pos rfl, row_put, if_neg (fun c => h c.1.symm)]
  · rw [if_neg (fun c => e c.1), if_neg e, row_put]
    by_cases e2 : y = x
    · rw [if_pos ⟨e2, hx⟩, if_pos e2]
    · rw [if_neg (fun c => e2 c.1), if_neg e2]
def tieStep (u : Int) (g : List (List Int)) (x : Int) : List (List Int) := if x = u then g else tieG g u.toNat x.toNat
def joinG (g : List (List Int)) (u v : Int) : List (List Int) := (row g v.toNat).foldl (tieStep u) (freeG g v)
theorem tieStep_length (u : Int) (g : List (List Int)) (x : Int) : (tieStep u g x).length = g.length := by
  unfold tieStep; split
  · rfl
  · exact tieG_length ..
theorem tieFold_length (u : Int) (l : List Int) : ∀ g : List (List Int), (l.foldl (tieStep u) g).length = g.length := by
  induction l with
  | nil => intro g; rfl
  | cons x l ih => intro g; rw [List.foldl_cons, ih, tieStep_length]
theorem joinG_length (g : List (List Int)) (u v : Int) : (joinG g u v).length = g.length := by rw [joinG, tieFold_length, freeG_length]

/-- Rows that are sets of vertices. -/
def RG (g : List (List Int)) : Prop := ∀ j, SetIn g.length (row g j)
theorem row_over {g : List (List Int)} {j : Nat} (h : g.length ≤ j) : row g j = [] := by simp [row, h]
theorem RG.of_ok {g : List (List Int)} (h : GOk g) : RG g := by
  intro j
  by_cases hj : j < g.length
  · exact (h.sets j hj).1
  · rw [row_over (by omega)]; exact setIn_nil _
theorem RG.row_le {g : List (List Int)} (h : RG g) (j : Nat) : (row g j).length ≤ g.length := by
  have := setIn_length (by omega) (h j)
  omega
theorem setIn_lessL {n : Int} {s : List Int} (h : SetIn n s) (v : Int) : SetIn n (lessL s v) := ⟨fun x hx => h.1 x (mem_lessL.1 hx).1, lessL_rising h.2 v⟩
theorem setIn_intoL {n : Int} {s : List Int} (h : SetIn n s) {v : Int} (h0 : 0 ≤ v) (hn : v < n) : SetIn n (intoL s v) := by
  refine ⟨fun x hx => ?_, intoL_rising h.2⟩
  rcases mem_intoL.1 hx with e | e
  · exact h.1 x e
  · subst e; exact ⟨h0, hn⟩
theorem RG.free {g : List (List Int)} (h : RG g) (v : Int) : RG (freeG g v) := by
  intro j
  rw [freeG_length]
  by_cases hj : j < g.length
  · rw [row_freeG g v hj]
    unfold freeRow; split
    · exact setIn_nil _
    · exact setIn_lessL (h j) v
  · rw [row_over (by rw [freeG_length]; omega)]; exact setIn_nil _
theorem RG.tie {u : Int} {g : List (List Int)} {x : Int} (h : RG g) (hu0 : 0 ≤ u) (hu : u.toNat < g.length) (hx0 : 0 ≤ x) (hx : x.toNat < g.length) : RG (tieStep u g x) := by
  intro j
  rw [tieStep_length]
  unfold tieStep
  by_cases e : x = u
  · rw [if_pos e]; exact h j
  · rw [if_neg e, row_tieG g hu hx (by omega)]
    split
    · exact setIn_intoL (h _) (by omega) (by omega)
    · split
      · exact setIn_intoL (h _) (by omega) (by omega)
      · exact h j
theorem tieStep_mem {u : Int} {g : List (List Int)} {x : Int} (hu : u.toNat < g.length) (hx : x.toNat < g.length) (hu0 : 0 ≤ u) (hx0 : 0 ≤ x) (j : Nat) (y : Int) :
    y ∈ row (tieStep u g x) j ↔ y ∈ row g j ∨ (x ≠ u ∧ (((j : Int) = x ∧ y = u) ∨ ((j : Int) = u ∧ y = x))) := by
  unfold tieStep
  by_cases e : x = u
  · rw [if_pos e]; simp [e]
  · rw [if_neg e, row_tieG g hu hx (by omega)]
    have e1 : (u.toNat : Int) = u := by omega
    have e2 : (x.toNat : Int) = x := by omega
    by_cases c : j = u.toNat
    · subst c
      rw [if_pos rfl, mem_intoL, e1, e2]
      constructor
      · rintro (h | h)
        · exact .inl h
        · exact .inr ⟨e, .inr ⟨rfl, h⟩⟩
      · rintro (h | ⟨_, ⟨h, _⟩ | ⟨_, h⟩⟩)
        · exact .inl h
        · exact absurd h.symm e
        · exact .inr h
    · rw [if_neg c]
      by_cases c2 : j = x.toNat
      · subst c2
        rw [if_pos rfl, mem_intoL, e1, e2]
        constructor
        · rintro (h | h)
          · exact .inl h
          · exact .inr ⟨e, .inl ⟨rfl, h⟩⟩
        · rintro (h | ⟨_, ⟨_, h⟩ | ⟨h, _⟩⟩)
          · exact .inl h
          · exact .inr h
          · exact absurd h e
      · rw [if_neg c2]
        constructor
        · exact .inl
        · rintro (h | ⟨_, ⟨h, _⟩ | ⟨h, _⟩⟩)
          · exact h
          · omega
          · omega
theorem tieFold_mem {u : Int} (hu0 : 0 ≤ u) (l : List Int) : ∀ g : List (List Int), u.toNat < g.length → (∀ x ∈ l, 0 ≤ x ∧ x.toNat < g.length) → RG g → RG (l.foldl (tieStep u) g) ∧
    ∀ (j : Nat) (y : Int), y ∈ row (l.foldl (tieStep u) g) j ↔ y ∈ row g j ∨ (∃ x ∈ l, x ≠ u ∧ (((j : Int) = x ∧ y = u) ∨ ((j : Int) = u ∧ y = x))) := by
  induction l with
  | nil => intro g _ _ hr; exact ⟨hr, fun j y => by simp⟩
  | cons x l ih =>
    intro g hu hl hr
    have hx := hl x (by simp)
    obtain ⟨h1, h2⟩ := ih (tieStep u g x) (by rw [tieStep_length]; exact hu) (fun y hy => by rw [tieStep_length]; exact hl y (by simp [hy])) (hr.tie hu0 hu hx.1 hx.2)
    refine ⟨h1, fun j y => ?_⟩
    rw [List.foldl_cons, h2 j y, tieStep_mem hu hx.2 hu0 hx.1]
    constructor
    · rintro ((h | h) | ⟨z, hz, h⟩)
      · exact .inl h
      · exact .inr ⟨x, by simp, h⟩
      · exact .inr ⟨z, by simp [hz], h⟩
    · rintro (h | ⟨z, hz, h⟩)
      · exact .inl (.inl h)
      · rcases List.mem_cons.1 hz with e | e
        · subst e; exact .inl (.inr h)
        · exact .inr ⟨z, e, h⟩

/-- What the contracting adds. -/
theorem joinG_mem {g : List (List Int)} {u v : Int} (hr : RG g) (hu0 : 0 ≤ u) (hu : u < g.length) : RG (joinG g u v) ∧ ∀ (j : Nat) (y : Int), y ∈ row (joinG g u v) j ↔ y ∈ row (freeG g v) j ∨ (∃ x ∈ row g v.toNat, x ≠ u ∧ (((j : Int) = x ∧ y = u) ∨ ((j : Int) = u ∧ y = x))) :=
  tieFold_mem hu0 _ _ (by rw [freeG_length]; omega) (fun x hx => by have := (hr v.toNat).1 x hx; rw [freeG_length]; omega) (hr.free v)

/-- Something is left, if one folds as long as one can. -/
def HardS (g : List (List Int)) (left : List Int) : Prop := ∃ fs l g', Folds g left fs l g' ∧ 0 < l.length
theorem hardS_iff {g : List (List Int)} {left : List Int} {fs : List Fd} {l : List Int} {g' : List (List Int)} (h : Folds g left fs l g') : HardS g left ↔ 0 < l.length := by
  constructor
  · rintro ⟨fs2, l2, g2, h2, hl⟩
    obtain ⟨_, rfl, _⟩ := folds_det h h2
    exact hl
  · exact fun hl => ⟨_, _, _, h, hl⟩

/-- Who can be cut, and which edge can be contracted. -/
noncomputable def lessOf (g : List (List Int)) (L : List Int) : Option Int := L.find? (fun v => dec (HardS (freeG g v) (lessL L v)))
noncomputable def edgeRow (g : List (List Int)) (L : List Int) (u : Int) : Option Int := (row g u.toNat).find? (fun v => dec (u < v) && dec (HardS (joinG g u v) (lessL L v)))
noncomputable def edgeF (g : List (List Int)) (L : List Int) (u : Int) : Option (Int × Int) := (edgeRow g L u).map fun v => (u, v)
noncomputable def edgeOf (g : List (List Int)) (L : List Int) : Option (Int × Int) := L.findSome? (edgeF g L)
def intoAll (s t : List Int) : List Int := t.foldl intoL s

theorem find_drop {p : Int → Bool} {l : List Int} {i : Nat} (h : i < l.length) : (l.drop i).find? p = if p l[i] = true then some l[i] else (l.drop (i + 1)).find? p := by
  rw [List.drop_eq_getElem_cons h, List.find?_cons]
  cases p l[i] <;> simp
theorem find_stop {p : Int → Bool} {l : List Int} {i : Nat} (h : l.length ≤ i) : (l.drop i).find? p = none := by rw [List.drop_of_length_le h]; rfl
theorem some_drop {f : Int → Option (Int × Int)} {l : List Int} {i : Nat} (h : i < l.length) : (l.drop i).findSome? f = (f l[i]).or ((l.drop (i + 1)).findSome? f) := by
  rw [List.drop_eq_getElem_cons h, List.findSome?_cons]
  cases f l[i] <;> simp
theorem some_stop {f : Int → Option (Int × Int)} {l : List Int} {i : Nat} (h : l.length ≤ i) : (l.drop i).findSome? f = none := by rw [List.drop_of_length_le h]; rfl

/-- The reference cuts and contracts as long as it can. -/
inductive Fours : List (List Int) → List Int → List (List Int) → List Int → List (List Int) → Prop
  | stop {g : List (List Int)} {L : List Int} {S : List (List Int)} (h1 : lessOf g L = none) (h2 : edgeOf g L = none) : Fours g L S L S
  | less {g : List (List Int)} {L : List Int} {S : List (List Int)} {v : Int} {L' : List Int} {S' : List (List Int)} (h1 : lessOf g L = some v) (h : Fours (freeG g v) (lessL L v) S L' S') : Fours g L S L' S'
  | edge {g : List (List Int)} {L : List Int} {S : List (List Int)} {u v : Int} {L' : List Int} {S' : List (List Int)} (h1 : lessOf g L = none) (h2 : edgeOf g L = some (u, v))
      (h : Fours (joinG g u v) (lessL L v) (S.set u.toNat (intoAll (row S u.toNat) (row S v.toNat))) L' S') : Fours g L S L' S'

theorem fours_det {g : List (List Int)} {L : List Int} {S : List (List Int)} {L' : List Int} {S' : List (List Int)} (h : Fours g L S L' S') : ∀ {L2 : List Int} {S2 : List (List Int)}, Fours g L S L2 S2 → L' = L2 ∧ S' = S2 := by
  induction h with
  | stop h1 h2 =>
    intro L2 S2 k
    cases k with
    | stop => exact ⟨rfl, rfl⟩
    | less k1 _ => rw [h1] at k1; cases k1
    | edge _ k2 _ => rw [h2] at k2; cases k2
  | less h1 _ ih =>
    intro L2 S2 k
    cases k with
    | stop k1 _ => rw [h1] at k1; cases k1
    | less k1 k => rw [h1] at k1; cases k1; exact ih k
    | edge k1 _ _ => rw [h1] at k1; cases k1
  | edge h1 h2 _ ih =>
    intro L2 S2 k
    cases k with
    | stop _ k2 => rw [h2] at k2; cases k2
    | less k1 _ => rw [h1] at k1; cases k1
    | edge _ k2 k => rw [h2] at k2; cases k2; exact ih k

/-- What a loop carries: whatever comes of this comes of the first. -/
def FoursOn (g0 : List (List Int)) (L0 : List Int) (S0 : List (List Int)) (g : List (List Int)) (L : List Int) (S : List (List Int)) : Prop := ∀ L' S', Fours g L S L' S' → Fours g0 L0 S0 L' S'

/-- The sets at the start, and the result. -/
def aloneL (n : Nat) : List (List Int) := (List.range n).map fun (i : Nat) => [(i : Int)]
def FourS (g : List (List Int)) (out : List (List Int)) (b : Bool) : Prop :=
  (b = false ∧ out = [] ∧ ¬ (GOk g ∧ ¬ SerS g)) ∨ (b = true ∧ GOk g ∧ ¬ SerS g ∧ ∃ L S, Fours g (allL g.length) (aloneL g.length) L S ∧ out = L.map fun v => row S v.toNat)
theorem fourS_det {g : List (List Int)} {o1 o2 : List (List Int)} {b1 b2 : Bool} (h1 : FourS g o1 b1) (h2 : FourS g o2 b2) : o1 = o2 ∧ b1 = b2 := by
  rcases h1 with ⟨rfl, rfl, h⟩ | ⟨rfl, h, h', L, S, hf, rfl⟩
  · rcases h2 with ⟨rfl, rfl, _⟩ | ⟨_, k, k', _⟩
    · exact ⟨rfl, rfl⟩
    · exact absurd ⟨k, k'⟩ h
  · rcases h2 with ⟨_, _, k⟩ | ⟨rfl, _, _, L2, S2, hf2, rfl⟩
    · exact absurd ⟨h, h'⟩ k
    · obtain ⟨rfl, rfl⟩ := fours_det hf hf2
      exact ⟨rfl, rfl⟩

end Go.Proofs.YtfokiijcpkhllaaDoor
