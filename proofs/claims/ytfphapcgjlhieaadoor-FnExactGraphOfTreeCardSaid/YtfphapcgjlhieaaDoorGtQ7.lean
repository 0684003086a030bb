/- Small laws on what a law's walk compares. -/
import Derived.Test.YtfphapcgjlhieaaDoorGtQ6
import Derived.Test.YtfphapcgjlhieaaDoorGtQ3
namespace Go.Proofs.YtfphapcgjlhieaaDoor
open Go.RowKit

theorem OwnG.shape {w : World} {base : Nat} {v : Value} {g : List (List Int)} (h : OwnG w base v g) : ∃ p c, v = .agg #[.slice p g.length c] := by
  obtain ⟨u, rfl, vals, _, h2, _⟩ := h
  rcases h2.2 with ⟨rfl, h0⟩ | ⟨b, c, _, rfl, _⟩
  · exact ⟨none, 0, by rw [h0]⟩
  · exact ⟨_, _, rfl⟩
theorem owns_shape {w : World} {base : Nat} {E : TypeId} {size n : Nat} {v : Value} {xs : List Value} (h : w.ownsRow base E size v n xs) : ∃ p c, v = .slice p n c := by
  rcases h.2 with ⟨rfl, rfl⟩ | ⟨b, c, _, rfl, _⟩
  · exact ⟨none, 0, rfl⟩
  · exact ⟨_, _, rfl⟩
theorem eqInt64S_b (u v : Value) (xs ys : List Int) (h : xs = ys) (w : World) (hx : Nums w 2 .i64 u xs) (hy : Nums w 2 .i64 v ys) :
    Calls Tryd.prog 117 #[u, v] w fun e w' => e = .returned (.bool true) ∧ Below w.heap.size w w' :=
  (eqInt64S_any u v xs ys w hx hy).mono fun e w' ⟨he, q, hq⟩ => by
    subst hq
    rw [dec_true h] at he
    exact ⟨he, below_dN (Below.refl _ _) q⟩
theorem eqGraph_b (u v : Value) (g : List (List Int)) (w : World) (hx : Gr w u g) (hy : Gr w v g) :
    Calls Tryd.prog 11 #[u, v] w fun e w' => e = .returned (.bool true) ∧ Below w.heap.size w w' :=
  (eqGraph_any u v g g w hx hy).mono fun e w' ⟨he, hb⟩ => by
    rw [dec_true rfl] at he
    exact ⟨he, hb⟩

end Go.Proofs.YtfphapcgjlhieaaDoor

/- Plain facts, with no program in sight: the reference's list operations. -/
namespace Go.Proofs.YtfphapcgjlhieaaDoor

/-- A list without a number. -/
def lessL (s : List Int) (v : Int) : List Int := s.filter (fun x => x != v)
/-- A rising list with one more. -/
def intoL : List Int → Int → List Int
  | [], n => [n]
  | x :: xs, n => if x < n then x :: intoL xs n else if x = n then x :: xs else n :: x :: xs
/-- 0, 1, .., n - 1. -/
def allL (n : Nat) : List Int := (List.range n).map (fun (i : Nat) => (i : Int))

theorem allL_length (n : Nat) : (allL n).length = n := by simp [allL]
theorem allL_succ (n : Nat) : allL (n + 1) = allL n ++ [(n : Int)] := by simp [allL, List.range_succ]
theorem mem_allL {n : Nat} {x : Int} : x ∈ allL n ↔ 0 ≤ x ∧ x < n := by
  simp only [allL, List.mem_map, List.mem_range]
  constructor
  · rintro ⟨i, hi, rfl⟩; omega
  · rintro ⟨h1, h2⟩; exact ⟨x.toNat, by omega, by omega⟩
theorem allL_rising (n : Nat) : (allL n).Pairwise (· < ·) := by
  unfold allL
  rw [List.pairwise_map]
  exact List.Pairwise.imp (fun h => by omega) List.pairwise_lt_range

theorem mem_lessL {s : List Int} {v x : Int} : x ∈ lessL s v ↔ x ∈ s ∧ x ≠ v := by simp [lessL]
theorem lessL_length (s : List Int) (v : Int) : (lessL s v).length ≤ s.length := List.length_filter_le _ _
theorem lessL_snoc (s : List Int) (v x : Int) : lessL (s ++ [x]) v = if x = v then lessL s v else lessL s v ++ [x] := by
  by_cases h : x = v
  · simp [lessL, h, List.filter_append]
  · simp [lessL, h, List.filter_append]
theorem lessL_rising {s : List Int} (h : s.Pairwise (· < ·)) (v : Int) : (lessL s v).Pairwise (· < ·) := h.filter _

theorem intoL_cut : ∀ (l : List Int) (n : Int) (k : Nat), k ≤ l.length → (∀ j (hj : j < l.length), j < k → l[j] < n) → (∀ h : k < l.length, ¬ l[k] < n) →
    intoL l n = if ∃ h : k < l.length, l[k] = n then l else l.take k ++ n :: l.drop k
  | [], n, k, hk, _, _ => by
    obtain rfl : k = 0 := by simpa using hk
    simp [intoL]
  | x :: xs, n, 0, hk, _, h2 => by
    have h3 : ¬ x < n := h2 (by simp)
    unfold intoL
    rw [if_neg h3]
    by_cases e : x = n
    · simp [e]
    · simp [e]
  | x :: xs, n, k + 1, hk, h1, h2 => by
    have h3 : x < n := h1 0 (by simp) (by omega)
    unfold intoL
    rw [if_pos h3, intoL_cut xs n k (by simpa using hk) (fun j hj hjk => h1 (j + 1) (by simpa using hj) (by omega)) (fun h => h2 (by simpa using h))]
    by_cases e : ∃ h : k < xs.length, xs[k] = n
    · rw [if_pos e, if_pos (by obtain ⟨a, b⟩ := e; exact ⟨by simpa using a, by simpa using b⟩)]
    · rw [if_neg e, if_neg (by rintro ⟨a, b⟩; exact e ⟨by simpa using a, by simpa using b⟩)]
      simp

theorem intoL_eq {l : List Int} {n : Int} {k : Nat} (hk : k < l.length) (h1 : ∀ j (hj : j < l.length), j < k → l[j] < n) (h2 : ¬ l[k] < n) (h3 : l[k] = n) : intoL l n = l := by
  rw [intoL_cut l n k (by omega) h1 (fun _ => h2), if_pos ⟨hk, h3⟩]
theorem intoL_new {l : List Int} {n : Int} {k : Nat} (hk : k ≤ l.length) (h1 : ∀ j (hj : j < l.length), j < k → l[j] < n) (h2 : ∀ h : k < l.length, ¬ l[k] < n) (h3 : ∀ h : k < l.length, l[k] ≠ n) : intoL l n = l.take k ++ n :: l.drop k := by
  rw [intoL_cut l n k hk h1 h2, if_neg (by rintro ⟨a, b⟩; exact h3 a b)]

theorem mem_intoL {n x : Int} : ∀ {l : List Int}, x ∈ intoL l n ↔ x ∈ l ∨ x = n
  | [] => by simp [intoL]
  | y :: l => by
    unfold intoL
    split
    · simp only [List.mem_cons, mem_intoL (l := l)]; exact ⟨fun h => by rcases h with h | h | h <;> simp [h], fun h => by rcases h with (h | h) | h <;> simp [h]⟩
    · split
      · rename_i h; subst h; simp only [List.mem_cons]; exact ⟨fun h => .inl h, fun h => by rcases h with h | h; exact h; exact .inl h⟩
      · simp only [List.mem_cons]; exact ⟨fun h => by rcases h with h | h | h <;> simp [h], fun h => by rcases h with (h | h) | h <;> simp [h]⟩

theorem intoL_rising {n : Int} : ∀ {l : List Int}, l.Pairwise (· < ·) → (intoL l n).Pairwise (· < ·)
  | [], _ => by simp [intoL]
  | y :: l, h => by
    rw [List.pairwise_cons] at h
    unfold intoL
    split
    · rename_i hy
      rw [List.pairwise_cons]
      refine ⟨fun z hz => ?_, intoL_rising h.2⟩
      rcases mem_intoL.1 hz with hz | rfl
      · exact h.1 z hz
      · exact hy
    · split
      · rw [List.pairwise_cons]; exact h
      · rw [List.pairwise_cons, List.pairwise_cons]
        refine ⟨fun z hz => ?_, h⟩
        rcases List.mem_cons.1 hz with rfl | hz
        · omega
        · have := h.1 z hz; omega

theorem intoL_length (l : List Int) (n : Int) : (intoL l n).length ≤ l.length + 1 := by
  induction l with
  | nil => simp [intoL]
  | cons x l ih =>
    unfold intoL
    split
    · simp; omega
    · split <;> simp

end Go.Proofs.YtfphapcgjlhieaaDoor

/- Plain facts, with no program in sight: folding, as the reference does it. -/
namespace Go.Proofs.YtfphapcgjlhieaaDoor

/-- A fold. -/
structure Fd where
  V : Int
  A : Int
  B : Int

/-- How vertex v may be folded, of a row of neighbours. -/
def atRow (v : Int) (r : List Int) : Fd := ⟨v, r.getD 0 (-1), r.getD 1 (-1)⟩

def fr1 (g : List (List Int)) (f : Fd) (u : Nat) : List Int := if (u : Int) = f.V then [] else lessL (row g u) f.V
def fr2 (g : List (List Int)) (f : Fd) (u : Nat) : List Int := if (u : Int) = f.A ∧ 0 ≤ f.B then intoL (fr1 g f u) f.B else fr1 g f u
/-- Row u behind a fold. -/
def foldRow (g : List (List Int)) (f : Fd) (u : Nat) : List Int := if (u : Int) = f.B then intoL (fr2 g f u) f.A else fr2 g f u
def foldG (g : List (List Int)) (f : Fd) : List (List Int) := (List.range g.length).map (foldRow g f)

theorem foldG_length (g : List (List Int)) (f : Fd) : (foldG g f).length = g.length := by simp [foldG]
theorem row_foldG (g : List (List Int)) (f : Fd) {u : Nat} (hu : u < g.length) : row (foldG g f) u = foldRow g f u := by simp [row, foldG, hu]

theorem fr1_length (g : List (List Int)) (f : Fd) (u : Nat) : (fr1 g f u).length ≤ (row g u).length := by
  unfold fr1; split
  · simp
  · exact lessL_length _ _
theorem fr2_length (g : List (List Int)) (f : Fd) (u : Nat) : (fr2 g f u).length ≤ (row g u).length + 1 := by
  have := fr1_length g f u
  unfold fr2; split
  · have := intoL_length (fr1 g f u) f.B; omega
  · omega
theorem foldRow_length (g : List (List Int)) (f : Fd) (u : Nat) : (foldRow g f u).length ≤ (row g u).length + 2 := by
  have := fr2_length g f u
  unfold foldRow; split
  · have := intoL_length (fr2 g f u) f.A; omega
  · omega

theorem fr1_yes {g : List (List Int)} {f : Fd} {u : Nat} (h : (u : Int) = f.V) : fr1 g f u = [] := if_pos h
theorem fr1_no {g : List (List Int)} {f : Fd} {u : Nat} (h : ¬ (u : Int) = f.V) : fr1 g f u = lessL (row g u) f.V := if_neg h
theorem fr2_yes {g : List (List Int)} {f : Fd} {u : Nat} (h : (u : Int) = f.A) (h2 : 0 ≤ f.B) : fr2 g f u = intoL (fr1 g f u) f.B := if_pos ⟨h, h2⟩
theorem fr2_no {g : List (List Int)} {f : Fd} {u : Nat} (h : ¬ ((u : Int) = f.A ∧ 0 ≤ f.B)) : fr2 g f u = fr1 g f u := if_neg h
theorem foldRow_yes {g : List (List Int)} {f : Fd} {u : Nat} (h : (u : Int) = f.B) : foldRow g f u = intoL (fr2 g f u) f.A := if_pos h
theorem foldRow_no {g : List (List Int)} {f : Fd} {u : Nat} (h : ¬ (u : Int) = f.B) : foldRow g f u = fr2 g f u := if_neg h

/-- The reference folds the least vertex of those that are left that may be folded, again and again. -/
inductive Folds : List (List Int) → List Int → List Fd → List Int → List (List Int) → Prop
  | stop {g : List (List Int)} {left : List Int} (h : ∀ v ∈ left, 2 < (row g v.toNat).length) : Folds g left [] left g
  | step {g : List (List Int)} {l1 l2 : List Int} {v : Int} {fs : List Fd} {l : List Int} {g' : List (List Int)} (h1 : ∀ x ∈ l1, 2 < (row g x.toNat).length) (h2 : (row g v.toNat).length ≤ 2)
      (h : Folds (foldG g (atRow v (row g v.toNat))) (lessL (l1 ++ v :: l2) v) fs l g') : Folds g (l1 ++ v :: l2) (atRow v (row g v.toNat) :: fs) l g'

theorem take_cons_drop {α : Type} (l : List α) (k : Nat) (h : k < l.length) : l = l.take k ++ l[k] :: l.drop (k + 1) := by
  rw [List.getElem_cons_drop, List.take_append_drop]

theorem lessL_length_lt {s : List Int} {v : Int} (h : v ∈ s) : (lessL s v).length < s.length := by
  induction s with
  | nil => cases h
  | cons x s ih =>
    by_cases e : x = v
    · have : lessL (x :: s) v = lessL s v := by simp [lessL, e]
      rw [this]
      have := lessL_length s v
      simp; omega
    · have h' : v ∈ s := by
        rcases List.mem_cons.1 h with h | h
        · exact absurd h.symm e
        · exact h
      have : lessL (x :: s) v = x :: lessL s v := by simp [lessL, e]
      rw [this]
      have := ih h'
      simp; omega

/-- What the loop of the reference carries: behind the folds so far these vertices and this graph are left. -/
def FoldsOn (g0 : List (List Int)) (left0 : List Int) (os : List Fd) (lf : List Int) (gg : List (List Int)) : Prop :=
  ∀ fs l g', Folds gg lf fs l g' → Folds g0 left0 (os ++ fs) l g'

theorem foldsOn_start (g : List (List Int)) (left : List Int) : FoldsOn g left [] left g := fun _ _ _ h => h
theorem foldsOn_step {g0 gg : List (List Int)} {left0 lf : List Int} {os : List Fd} {k : Nat} (h : FoldsOn g0 left0 os lf gg) (hk : k < lf.length) (h1 : ∀ j (hj : j < lf.length), j < k → 2 < (row gg (lf[j]).toNat).length)
    (h2 : (row gg (lf[k]).toNat).length ≤ 2) : FoldsOn g0 left0 (os ++ [atRow lf[k] (row gg (lf[k]).toNat)]) (lessL lf lf[k]) (foldG gg (atRow lf[k] (row gg (lf[k]).toNat))) := by
  intro fs l g' hf
  rw [List.append_assoc, List.singleton_append]
  refine h _ _ _ ?_
  have e := take_cons_drop lf k hk
  have hs : Folds gg (lf.take k ++ lf[k] :: lf.drop (k + 1)) (atRow lf[k] (row gg (lf[k]).toNat) :: fs) l g' := by
    refine Folds.step (fun x hx => ?_) h2 (by rw [← e]; exact hf)
    obtain ⟨j, hj, rfl⟩ := List.mem_iff_getElem.1 hx
    rw [List.length_take] at hj
    rw [List.getElem_take]
    exact h1 j (by omega) (by omega)
  rwa [← e] at hs
theorem foldsOn_stop {g0 gg : List (List Int)} {left0 lf : List Int} {os : List Fd} (h : FoldsOn g0 left0 os lf gg) (h1 : ∀ j (hj : j < lf.length), 2 < (row gg (lf[j]).toNat).length) : Folds g0 left0 os lf gg := by
  have := h [] lf gg (Folds.stop fun v hv => by
    obtain ⟨j, hj, rfl⟩ := List.mem_iff_getElem.1 hv
    exact h1 j hj)
  rwa [List.append_nil] at this

theorem first_unique {α : Type} (p : α → Prop) : ∀ {l1 l2 m1 m2 : List α} {v x : α}, l1 ++ v :: l2 = m1 ++ x :: m2 → (∀ y ∈ l1, ¬ p y) → p v → (∀ y ∈ m1, ¬ p y) → p x → l1 = m1 ∧ v = x ∧ l2 = m2
  | [], l2, [], m2, v, x, h, _, _, _, _ => by simp at h; exact ⟨rfl, h.1, h.2⟩
  | [], l2, y :: m1, m2, v, x, h, _, hv, hm, _ => by simp at h; exact absurd (h.1 ▸ hv) (hm y (by simp))
  | y :: l1, l2, [], m2, v, x, h, hl, _, _, hx => by simp at h; exact absurd (h.1 ▸ hx) (hl y (by simp))
  | y :: l1, l2, z :: m1, m2, v, x, h, hl, hv, hm, hx => by
    simp at h
    obtain ⟨rfl, h⟩ := h
    obtain ⟨rfl, rfl, rfl⟩ := first_unique p h (fun y hy => hl y (by simp [hy])) hv (fun y hy => hm y (by simp [hy])) hx
    exact ⟨rfl, rfl, rfl⟩

theorem folds_det {g : List (List Int)} {left : List Int} {fs : List Fd} {l : List Int} {g' : List (List Int)} (h : Folds g left fs l g') : ∀ {fs2 : List Fd} {l2 : List Int} {g2 : List (List Int)}, Folds g left fs2 l2 g2 → fs = fs2 ∧ l = l2 ∧ g' = g2 := by
  induction h with
  | stop h =>
    intro fs2 l2 g2 k
    cases k with
    | stop => exact ⟨rfl, rfl, rfl⟩
    | step h1 h2 _ =>
      have := h _ (List.mem_append_right _ (List.mem_cons_self ..))
      omega
  | @step g l1 l2 v fs l g' h1 h2 _ ih =>
    intro fs2 l3 g2 k
    generalize hL : l1 ++ v :: l2 = L at k
    cases k with
    | stop h =>
      have := h v (by rw [← hL]; simp)
      omega
    | @step _ m1 m2 x fs3 _ _ k1 k2 k3 =>
      obtain ⟨rfl, rfl, rfl⟩ := first_unique (fun (y : Int) => (row g y.toNat).length ≤ 2) hL (fun y hy => by have := h1 y hy; omega) h2 (fun y hy => by have := k1 y hy; omega) k2
      obtain ⟨rfl, rfl, rfl⟩ := ih k3
      exact ⟨rfl, rfl, rfl⟩

/-- What the reference's FoldedOf returns. -/
def FoldedS (g : List (List Int)) (fs : List Fd) (l : List Int) : Prop := (GOk g ∧ ∃ g', Folds g (allL g.length) fs l g') ∨ (¬ GOk g ∧ fs = [] ∧ l = [])
/-- All vertices are folded away. -/
def SerS (g : List (List Int)) : Prop := GOk g ∧ ∃ fs g', Folds g (allL g.length) fs [] g'

theorem serS_iff {g : List (List Int)} {fs : List Fd} {l : List Int} {g' : List (List Int)} (hg : GOk g) (h : Folds g (allL g.length) fs l g') : SerS g ↔ l.length = 0 := by
  constructor
  · rintro ⟨_, fs2, g2, h2⟩
    obtain ⟨_, rfl, _⟩ := folds_det h h2
    rfl
  · intro hl
    obtain rfl := List.eq_nil_of_length_eq_zero hl
    exact ⟨hg, fs, g', h⟩

theorem gOk_row_le {g : List (List Int)} (h : GOk g) (j : Nat) (hj : j < g.length) : (row g j).length ≤ 16 := by
  have h1 := setIn_length (by omega) (h.sets j hj).1
  have := h.le
  omega

end Go.Proofs.YtfphapcgjlhieaaDoor
