/- Small laws on what a law's walk compares. -/
import Derived.Test.YtiooindlpinjhaaDoorBbQ4
import Derived.Test.YtiooindlpinjhaaDoorBbQ3
import Derived.Deep.RegionWith
namespace Go.Proofs.YtiooindlpinjhaaDoor
open Go.RowKit

theorem OwnG.shape {w : World} {base : Nat} {v : Value} {g : List (List Int)} (h : OwnG w base v g) : ∃ p c, v = .agg #[.slice p g.length c] := by
  obtain ⟨u, rfl, vals, _, h2, _⟩ := h
  rcases h2.2 with ⟨rfl, h0⟩ | ⟨b, c, _, rfl, _⟩
  · exact ⟨none, 0, by rw [h0]⟩
  · exact ⟨_, _, rfl⟩
theorem owns_shape {w : World} {base : Nat} {E : TypeId} {size n : Nat} {v : Value} {xs : List Value} (h : w.ownsRow base E size v n xs) : ∃ p c, v = .slice p n c := by
  rcases h.2 with ⟨rfl, rfl⟩ | ⟨b, c, _, rfl, _⟩
  · exact ⟨none, 0, rfl⟩
  · exact ⟨_, _, rfl⟩
theorem eqInt64S_b (u v : Value) (xs ys : List Int) (h : xs = ys) (w : World) (hx : Nums w 2 .i64 u xs) (hy : Nums w 2 .i64 v ys) :
    Calls Tryd.prog 11 #[u, v] w fun e w' => e = .returned (.bool true) ∧ Below w.heap.size w w' :=
  (eqInt64S_any u v xs ys w hx hy).mono fun e w' ⟨he, q, hq⟩ => by
    subst hq
    rw [dec_true h] at he
    exact ⟨he, below_dN (Below.refl _ _) q⟩
theorem eqGraph_b (u v : Value) (g : List (List Int)) (w : World) (hx : Gr w u g) (hy : Gr w v g) :
    Calls Tryd.prog 12 #[u, v] w fun e w' => e = .returned (.bool true) ∧ Below w.heap.size w w' :=
  (eqGraph_any u v g g w hx hy).mono fun e w' ⟨he, hb⟩ => by
    rw [dec_true rfl] at he
    exact ⟨he, hb⟩

end Go.Proofs.YtiooindlpinjhaaDoor

/- Plain facts, with no program in sight: the reference's list operations. -/
namespace Go.Proofs.YtiooindlpinjhaaDoor

/-- A list without a number. -/
def lessL (s : List Int) (v : Int) : List Int := s.filter (fun x => x != v)
/-- A rising list with one more. -/
def intoL : List Int → Int → List Int
  | [], n => [n]
  | x :: xs, n => if x < n then x :: intoL xs n else if x = n then x :: xs else n :: x :: xs
/-- 0, 1, .., n - 1. -/
def allL (n : Nat) : List Int := (List.range n).map (fun (i : Nat) => (i : Int))

theorem allL_length (n : Nat) : (allL n).length = n := by simp [allL]
theorem allL_succ (n : Nat) : allL (n + 1) = allL n ++ [(n : Int)] := by simp [allL, List.range_succ]
theorem mem_allL {n : Nat} {x : Int} : x ∈ allL n ↔ 0 ≤ x ∧ x < n := by
  simp only [allL, List.mem_map, List.mem_range]
  constructor
  · rintro ⟨i, hi, rfl⟩; omega
  · rintro ⟨h1, h2⟩; exact ⟨x.toNat, by omega, by omega⟩
theorem allL_rising (n : Nat) : (allL n).Pairwise (· < ·) := by
  unfold allL
  rw [List.pairwise_map]
  exact List.Pairwise.imp (fun h => by omega) List.pairwise_lt_range

theorem mem_lessL {s : List Int} {v x : Int} : x ∈ lessL s v ↔ x ∈ s ∧ x ≠ v := by simp [lessL]
theorem lessL_length (s : List Int) (v : Int) : (lessL s v).length ≤ s.length := List.length_filter_le _ _
theorem lessL_snoc (s : List Int) (v x : Int) : lessL (s ++ [x]) v = if x = v then lessL s v else lessL s v ++ [x] := by
  by_cases h : x = v
  · simp [lessL, h, List.filter_append]
  · simp [lessL, h, List.filter_append]
theorem lessL_rising {s : List Int} (h : s.Pairwise (· < ·)) (v : Int) : (lessL s v).Pairwise (· < ·) := h.filter _

theorem intoL_cut : ∀ (l : List Int) (n : Int) (k : Nat), k ≤ l.length → (∀ j (hj : j < l.length), j < k → l[j] < n) → (∀ h : k < l.length, ¬ l[k] < n) →
    intoL l n = if ∃ h : k < l.length, l[k] = n then l else l.take k ++ n :: l.drop k
  | [], n, k, hk, _, _ => by
    obtain rfl : k = 0 := by simpa using hk
    simp [intoL]
  | x :: xs, n, 0, hk, _, h2 => by
    have h3 : ¬ x < n := h2 (by simp)
    unfold intoL
    rw [if_neg h3]
    by_cases e : x = n
    · simp [e]
    · simp [e]
  | x :: xs, n, k + 1, hk, h1, h2 => by
    have h3 : x < n := h1 0 (by simp) (by omega)
    unfold intoL
    rw [if_pos h3, intoL_cut xs n k (by simpa using hk) (fun j hj hjk => h1 (j + 1) (by simpa using hj) (by omega)) (fun h => h2 (by simpa using h))]
    by_cases e : ∃ h : k < xs.length, xs[k] = n
    · rw [if_pos e, if_pos (by obtain ⟨a, b⟩ := e; exact ⟨by simpa using a, by simpa using b⟩)]
    · rw [if_neg e, if_neg (by rintro ⟨a, b⟩; exact e ⟨by simpa using a, by simpa using b⟩)]
      simp

theorem intoL_eq {l : List Int} {n : Int} {k : Nat} (hk : k < l.length) (h1 : ∀ j (hj : j < l.length), j < k → l[j] < n) (h2 : ¬ l[k] < n) (h3 : l[k] = n) : intoL l n = l := by
  rw [intoL_cut l n k (by omega) h1 (fun _ => h2), if_pos ⟨hk, h3⟩]
theorem intoL_new {l : List Int} {n : Int} {k : Nat} (hk : k ≤ l.length) (h1 : ∀ j (hj : j < l.length), j < k → l[j] < n) (h2 : ∀ h : k < l.length, ¬ l[k] < n) (h3 : ∀ h : k < l.length, l[k] ≠ n) : intoL l n = l.take k ++ n :: l.drop k := by
  rw [intoL_cut l n k hk h1 h2, if_neg (by rintro ⟨a, b⟩; exact h3 a b)]

theorem mem_intoL {n x : Int} : ∀ {l : List Int}, x ∈ intoL l n ↔ x ∈ l ∨ x = n
  | [] => by simp [intoL]
  | y :: l => by
    unfold intoL
    split
    · simp only [List.mem_cons, mem_intoL (l := l)]; exact ⟨fun h => by rcases h with h | h | h <;> simp [h], fun h => by rcases h with (h | h) | h <;> simp [h]⟩
    · split
      · rename_i h; subst h; simp only [List.mem_cons]; exact ⟨fun h => .inl h, fun h => by rcases h with h | h; exact h; exact .inl h⟩
      · simp only [List.mem_cons]; exact ⟨fun h => by rcases h with h | h | h <;> simp [h], fun h => by rcases h with (h | h) | h <;> simp [h]⟩

theorem intoL_rising {n : Int} : ∀ {l : List Int}, l.Pairwise (· < ·) → (intoL l n).Pairwise (· < ·)
  | [], _ => by simp [intoL]
  | y :: l, h => by
    rw [List.pairwise_cons] at h
    unfold intoL
    split
    · rename_i hy
      rw [List.pairwise_cons]
      refine ⟨fun z hz => ?_, intoL_rising h.2⟩
      rcases mem_intoL.1 hz with hz | rfl
      · exact h.1 z hz
      · exact hy
    · split
      · rw [List.pairwise_cons]; exact h
      · rw [List.pairwise_cons, List.pairwise_cons]
        refine ⟨fun z hz => ?_, h⟩
        rcases List.mem_cons.1 hz with rfl | hz
        · omega
        · have := h.1 z hz; omega

theorem intoL_length (l : List Int) (n : Int) : (intoL l n).length ≤ l.length + 1 := by
  induction l with
  | nil => simp [intoL]
  | cons x l ih =>
    unfold intoL
    split
    · simp; omega
    · split <;> simp

end Go.Proofs.YtiooindlpinjhaaDoor

/- Plain facts, with no program in sight: folding, as the reference does it. -/
namespace Go.Proofs.YtiooindlpinjhaaDoor

/-- A fold. -/
structure Fd where
  V : Int
  A : Int
  B : Int

/-- How vertex v may be folded, of a row of neighbours. -/
def atRow (v : Int) (r : List Int) : Fd := ⟨v, r.getD 0 (-1), r.getD 1 (-1)⟩

def fr1 (g : List (List Int)) (f : Fd) (u : Nat) : List Int := if (u : Int) = f.V then [] else lessL (row g u) f.V
def fr2 (g : List (List Int)) (f : Fd) (u : Nat) : List Int := if (u : Int) = f.A ∧ 0 ≤ f.B then intoL (fr1 g f u) f.B else fr1 g f u
/-- Row u behind a fold. -/
def foldRow (g : List (List Int)) (f : Fd) (u : Nat) : List Int := if (u : Int) = f.B then intoL (fr2 g f u) f.A else fr2 g f u
def foldG (g : List (List Int)) (f : Fd) : List (List Int) := (List.range g.length).map (foldRow g f)

theorem foldG_length (g : List (List Int)) (f : Fd) : (foldG g f).length = g.length := by simp [foldG]
theorem row_foldG (g : List (List Int)) (f : Fd) {u : Nat} (hu : u < g.length) : row (foldG g f) u = foldRow g f u := by simp [row, foldG, hu]

theorem fr1_length (g : List (List Int)) (f : Fd) (u : Nat) : (fr1 g f u).length ≤ (row g u).length := by
  unfold fr1; split
  · simp
  · exact lessL_length _ _
theorem fr2_length (g : List (List Int)) (f : Fd) (u : Nat) : (fr2 g f u).length ≤ (row g u).length + 1 := by
  have := fr1_length g f u
  unfold fr2; split
  · have := intoL_length (fr1 g f u) f.B; omega
  · omega
theorem foldRow_length (g : List (List Int)) (f : Fd) (u : Nat) : (foldRow g f u).length ≤ (row g u).length + 2 := by
  have := fr2_length g f u
  unfold foldRow; split
  · have := intoL_length (fr2 g f u) f.A; omega
  · omega

theorem fr1_yes {g : List (List Int)} {f : Fd} {u : Nat} (h : (u : Int) = f.V) : fr1 g f u = [] := if_pos h
theorem fr1_no {g : List (List Int)} {f : Fd} {u : Nat} (h : ¬ (u : Int) = f.V) : fr1 g f u = lessL (row g u) f.V := if_neg h
theorem fr2_yes {g : List (List Int)} {f : Fd} {u : Nat} (h : (u : Int) = f.A) (h2 : 0 ≤ f.B) : fr2 g f u = intoL (fr1 g f u) f.B := if_pos ⟨h, h2⟩
theorem fr2_no {g : List (List Int)} {f : Fd} {u : Nat} (h : ¬ ((u : Int) = f.A ∧ 0 ≤ f.B)) : fr2 g f u = fr1 g f u := if_neg h
theorem foldRow_yes {g : List (List Int)} {f : Fd} {u : Nat} (h : (u : Int) = f.B) : foldRow g f u = intoL (fr2 g f u) f.A := if_pos h
theorem foldRow_no {g : List (List Int)} {f : Fd} {u : Nat} (h : ¬ (u : Int) = f.B) : foldRow g f u = fr2 g f u := if_neg h

/-- The reference folds the least vertex of those that are left that may be folded, again and again. -/
inductive Folds : List (List Int) → List Int → List Fd → List Int → List (List Int) → Prop
  | stop {g : List (List Int)} {left : List Int} (h : ∀ v ∈ left, 2 < (row g v.toNat).length) : Folds g left [] left g
  | step {g : List (List Int)} {l1 l2 : List Int} {v : Int} {fs : List Fd} {l : List Int} {g' : List (List Int)} (h1 : ∀ x ∈ l1, 2 < (row g x.toNat).length) (h2 : (row g v.toNat).length ≤ 2)
      (h : Folds (foldG g (atRow v (row g v.toNat))) (lessL (l1 ++ v :: l2) v) fs l g') : Folds g (l1 ++ v :: l2) (atRow v (row g v.toNat) :: fs) l g'

theorem take_cons_drop {α : Type} (l : List α) (k : Nat) (h : k < l.length) : l = l.take k ++ l[k] :: l.drop (k + 1) := by
  rw [List.getElem_cons_drop, List.take_append_drop]

theorem lessL_length_lt {s : List Int} {v : Int} (h : v ∈ s) : (lessL s v).length < s.length := by
  induction s with
  | nil => cases h
  | cons x s ih =>
    by_cases e : x = v
    · have : lessL (x :: s) v = lessL s v := by simp [lessL, e]
      rw [this]
      have := lessL_length s v
      simp; omega
    · have h' : v ∈ s := by
        rcases List.mem_cons.1 h with h | h
        · exact absurd h.symm e
        · exact h
      have : lessL (x :: s) v = x :: lessL s v := by simp [lessL, e]
      rw [this]
      have := ih h'
      simp; omega

/-- What the loop of the reference carries: behind the folds so far these vertices and this graph are left. -/
def FoldsOn (g0 : List (List Int)) (left0 : List Int) (os : List Fd) (lf : List Int) (gg : List (List Int)) : Prop :=
  ∀ fs l g', Folds gg lf fs l g' → Folds g0 left0 (os ++ fs) l g'

theorem foldsOn_start (g : List (List Int)) (left : List Int) : FoldsOn g left [] left g := fun _ _ _ h => h
theorem foldsOn_step {g0 gg : List (List Int)} {left0 lf : List Int} {os : List Fd} {k : Nat} (h : FoldsOn g0 left0 os lf gg) (hk : k < lf.length) (h1 : ∀ j (hj : j < lf.length), j < k → 2 < (row gg (lf[j]).toNat).length)
    (h2 : (row gg (lf[k]).toNat).length ≤ 2) : FoldsOn g0 left0 (os ++ [atRow lf[k] (row gg (lf[k]).toNat)]) (lessL lf lf[k]) (foldG gg (atRow lf[k] (row gg (lf[k]).toNat))) := by
  intro fs l g' hf
  rw [List.append_assoc, List.singleton_append]
  refine h _ _ _ ?_
  have e := take_cons_drop lf k hk
  have hs : Folds gg (lf.take k ++ lf[k] :: lf.drop (k + 1)) (atRow lf[k] (row gg (lf[k]).toNat) :: fs) l g' := by
    refine Folds.step (fun x hx => ?_) h2 (by rw [← e]; exact hf)
    obtain ⟨j, hj, rfl⟩ := List.mem_iff_getElem.1 hx
    rw [List.length_take] at hj
    rw [List.getElem_take]
    exact h1 j (by omega) (by omega)
  rwa [← e] at hs
theorem foldsOn_stop {g0 gg : List (List Int)} {left0 lf : List Int} {os : List Fd} (h : FoldsOn g0 left0 os lf gg) (h1 : ∀ j (hj : j < lf.length), 2 < (row gg (lf[j]).toNat).length) : Folds g0 left0 os lf gg := by
  have := h [] lf gg (Folds.stop fun v hv => by
    obtain ⟨j, hj, rfl⟩ := List.mem_iff_getElem.1 hv
    exact h1 j hj)
  rwa [List.append_nil] at this

theorem first_unique {α : Type} (p : α → Prop) : ∀ {l1 l2 m1 m2 : List α} {v x : α}, l1 ++ v :: l2 = m1 ++ x :: m2 → (∀ y ∈ l1, ¬ p y) → p v → (∀ y ∈ m1, ¬ p y) → p x → l1 = m1 ∧ v = x ∧ l2 = m2
  | [], l2, [], m2, v, x, h, _, _, _, _ => by simp at h; exact ⟨rfl, h.1, h.2⟩
  | [], l2, y :: m1, m2, v, x, h, _, hv, hm, _ => by simp at h; exact absurd (h.1 ▸ hv) (hm y (by simp))
  | y :: l1, l2, [], m2, v, x, h, hl, _, _, hx => by simp at h; exact absurd (h.1 ▸ hx) (hl y (by simp))
  | y :: l1, l2, z :: m1, m2, v, x, h, hl, hv, hm, hx => by
    simp at h
    obtain ⟨rfl, h⟩ := h
    obtain ⟨rfl, rfl, rfl⟩ := first_unique p h (fun y hy => hl y (by simp [hy])) hv (fun y hy => hm y (by simp [hy])) hx
    exact ⟨rfl, rfl, rfl⟩

theorem folds_det {g : List (List Int)} {left : List Int} {fs : List Fd} {l : List Int} {g' : List (List Int)} (h : Folds g left fs l g') : ∀ {fs2 : List Fd} {l2 : List Int} {g2 : List (List Int)}, Folds g left fs2 l2 g2 → fs = fs2 ∧ l = l2 ∧ g' = g2 := by
  induction h with
  | stop h =>
    intro fs2 l2 g2 k
    cases k with
    | stop => exact ⟨rfl, rfl, rfl⟩
    | step h1 h2 _ =>
      have := h _ (List.mem_append_right _ (List.mem_cons_self ..))
      omega
  | @step g l1 l2 v fs l g' h1 h2 _ ih =>
    intro fs2 l3 g2 k
    generalize hL : l1 ++ v :: l2 = L at k
    cases k with
    | stop h =>
      have := h v (by rw [← hL]; simp)
      omega
    | @step _ m1 m2 x fs3 _ _ k1 k2 k3 =>
      obtain ⟨rfl, rfl, rfl⟩ := first_unique (fun (y : Int) => (row g y.toNat).length ≤ 2) hL (fun y hy => by have := h1 y hy; omega) h2 (fun y hy => by have := k1 y hy; omega) k2
      obtain ⟨rfl, rfl, rfl⟩ := ih k3
      exact ⟨rfl, rfl, rfl⟩

/-- What the reference's FoldedOf returns. -/
def FoldedS (g : List (List Int)) (fs : List Fd) (l : List Int) : Prop := (GOk g ∧ ∃ g', Folds g (allL g.length) fs l g') ∨ (¬ GOk g ∧ fs = [] ∧ l = [])
/-- All vertices are folded away. -/
def SerS (g : List (List Int)) : Prop := GOk g ∧ ∃ fs g', Folds g (allL g.length) fs [] g'

theorem serS_iff {g : List (List Int)} {fs : List Fd} {l : List Int} {g' : List (List Int)} (hg : GOk g) (h : Folds g (allL g.length) fs l g') : SerS g ↔ l.length = 0 := by
  constructor
  · rintro ⟨_, fs2, g2, h2⟩
    obtain ⟨_, rfl, _⟩ := folds_det h h2
    rfl
  · intro hl
    obtain rfl := List.eq_nil_of_length_eq_zero hl
    exact ⟨hg, fs, g', h⟩

theorem gOk_row_le {g : List (List Int)} (h : GOk g) (j : Nat) (hj : j < g.length) : (row g j).length ≤ 16 := by
  have h1 := setIn_length (by omega) (h.sets j hj).1
  have := h.le
  omega

end Go.Proofs.YtiooindlpinjhaaDoor

/- Walks: the program's GraphOk. -/
namespace Go.Proofs.YtiooindlpinjhaaDoor
open Go.RowKit

set_option maxRecDepth 100000 in
set_option maxHeartbeats 1000000 in
theorem increasing_any (v : Value) (xs : List Int) (n : Int) (h0 : 0 ≤ n) (h1 : n ≤ 1000000000) (w : World) (hx : Nums w 2 .i64 v xs) :
    Calls Tryd.prog 121 #[v, .int .i64 n] w fun e w' => e = .returned (.bool (dec (SetIn n xs))) ∧ w = w' := by
  obtain ⟨p, c, rfl, _, _, hn, hat⟩ := hx
  go_enter Tryd.func121, Tryd.ntmps121
  go_wp2
  go_loop [5, 6, 9] (fun _ _ i => ∃ k : Nat, k ≤ xs.length ∧ i = .int .i64 k ∧ SetIn n (xs.take k)) (fun _ _ i => xs.length - (intOf i).toNat)
  case atStart => exact ⟨0, Nat.zero_le _, rfl, by simpa using setIn_nil n⟩
  case round =>
    obtain ⟨k, hk, rfl, hset⟩ := hrel
    by_cases hlt : k < xs.length
    · obtain ⟨b, o, rfl, hcs⟩ := hat.cells (k := k) (by simpa using hlt)
      have hcell : w.cell? ⟨b, o + k, none⟩ = some (.int .i64 xs[k]) := hcs k _ (by simp [hlt])
      have hcell' : 0 < k → ∃ y, y = xs[k - 1]'(by omega) ∧ w.cell? ⟨b, o + (k - 1), none⟩ = some (.int .i64 y) := fun hk0 => ⟨_, rfl, hcs (k - 1) _ (by rw [List.getElem?_map, List.getElem?_eq_getElem (by omega)]; rfl)⟩
      have hstep := setIn_step (n := n) hlt
      clear hcs hat
      have Hset := Lib.hid hset
      have Hstep := Lib.hid hstep
      clear hset hstep
      by_cases hin : 0 ≤ xs[k] ∧ xs[k] ≤ n - 1
      · have hin' := dec_true hin
        by_cases hk0 : 0 < k
        · obtain ⟨y, hy, hcy⟩ := hcell' hk0
          clear hcell'
          have Hy := Lib.hid hy
          clear hy
          have e3 : 0 ≤ (k : Int) - 1 := by omega
          have e4 : ((k : Int) - 1).toNat = k - 1 := by omega
          by_cases hle : xs[k] ≤ y
          · go_wp2_with (go_at_call 153; refine (inRange_any _ _ _ _).mono ?_; rintro e w2 ⟨rfl, rfl⟩)
            go_ret
            exact ⟨ret_bool (false_dec fun h => by have h3 := (Hstep.out.1 (setIn_take h _)).2.2 hk0; have := Hy.out; omega), rfl⟩
          · go_wp2_with (go_at_call 153; refine (inRange_any _ _ _ _).mono ?_; rintro e w2 ⟨rfl, rfl⟩)
            go_round
            case rel => exact ⟨k + 1, by omega, by go_num, Hstep.out.2 ⟨Hset.out, by omega, fun _ => by have := Hy.out; omega⟩⟩
            case measure => simp [intOf]; omega
        · go_wp2_with (go_at_call 153; refine (inRange_any _ _ _ _).mono ?_; rintro e w2 ⟨rfl, rfl⟩)
          go_round
          case rel => exact ⟨k + 1, by omega, by go_num, Hstep.out.2 ⟨Hset.out, by omega, fun h => absurd h (by omega)⟩⟩
          case measure => simp [intOf]; omega
      · have hin' := dec_false hin
        have Hin := Lib.hid hin
        clear hin
        go_wp2_with (go_at_call 153; refine (inRange_any _ _ _ _).mono ?_; rintro e w2 ⟨rfl, rfl⟩)
        go_ret
        exact ⟨ret_bool (false_dec fun h => by have h3 := (Hstep.out.1 (setIn_take h _)).2.1; have := Hin.out; omega), rfl⟩
    · obtain rfl : k = xs.length := by omega
      go_wp2
      go_ret
      rw [List.take_length] at hset
      exact ⟨ret_bool (true_dec hset), rfl⟩

set_option maxRecDepth 100000 in
set_option maxHeartbeats 2000000 in
theorem implGraphOk_any (v : Value) (g : List (List Int)) (w : World) (hg : Gr w v g) :
    Calls Tryd.prog 53 #[v] w fun e w' => e = .returned (.bool (dec (GOk g))) ∧ Below w.heap.size w w' := by
  obtain ⟨u, rfl, hr⟩ := hg
  obtain ⟨p, c, rfl, _, _, hn⟩ := hr.shape
  obtain ⟨W1, hW1⟩ : ∃ W1, W1 = w.alloc (.cells #[.slice p g.length c] 28) := ⟨_, rfl⟩
  have hs1 : W1.heap.size = w.heap.size + 1 := by rw [hW1]; exact size_alloc _ _
  have hb1 : Below w.heap.size w W1 := by rw [hW1]; exact below_alloc _ _
  have hbox : W1.cell? ⟨w.heap.size, 0, none⟩ = some (.slice p g.length c) := by rw [hW1]; exact cell_new _ _ _
  have hr1 := hr.below hb1
  have HW1 := Lib.hid hW1
  have hs1' : w.heap.size < W1.heap.size := by omega
  clear hW1 hs1 hr
  by_cases hlen : 1 ≤ g.length ∧ g.length ≤ 16
  case neg =>
    have Hlen := Lib.hid hlen
    by_cases hl0 : g.length < 1
    all_goals
      have hl0' : (g.length : Int) < 1 ∨ (16 : Int) < g.length := by omega
      clear hlen
      go_enter Tryd.func53, Tryd.ntmps53
      go_wp2
      go_ret
      exact ⟨ret_bool (false_dec fun h => Hlen.out ⟨h.pos, h.le⟩), HW1.out ▸ hb1⟩
  obtain ⟨hl1, hl2⟩ := hlen
  go_enter Tryd.func53, Tryd.ntmps53
  go_wp2
  go_loopw [4, 5, 22] (fun _ _ i wr => ∃ k : Nat, k ≤ g.length ∧ i = .int .i64 k ∧ (∀ j, j < k → RowOk g j) ∧ W1 = wr) (fun _ _ i _ => g.length - (intOf i).toNat)
  case atStart => exact ⟨0, Nat.zero_le _, rfl, fun j hj => by omega, HW1.out⟩
  case round =>
    obtain ⟨k, hk, rfl, hrows, rfl⟩ := hrel
    have Hrows := Lib.hid hrows
    clear hrows
    by_cases hlt : k < g.length
    · obtain ⟨b, o, rp, rc, rfl, hcell, hnums⟩ := hr1.get hlt
      change W1.cell? _ = some (.slice rp (row g k).length rc) at hcell
      change Nums W1 _ _ (.slice rp (row g k).length rc) (row g k) at hnums
      by_cases hs : SetIn (g.length : Int) (row g k)
      · have hs' := dec_true hs
        by_cases hh : (k : Int) ∈ row g k
        · have hh' := dec_true hh
          have Hh := Lib.hid hh
          have Hs := Lib.hid hs
          clear hh hs
          go_wp2_with (first
            | (go_at_call 121; refine (increasing_any _ _ _ (by omega) (by omega) _ hnums).mono ?_; rintro e w3 ⟨rfl, rfl⟩)
            | (go_at_call 122; refine (contains_any _ _ _ _ hnums).mono ?_; rintro e w4 ⟨rfl, rfl⟩))
          go_ret
          exact ⟨ret_bool (false_dec fun h => (h.sets k hlt).2 Hh.out), hb1⟩
        · have hh' := dec_false hh
          have Hok := Lib.hid (show RowOk g k from ⟨hs, hh⟩)
          clear hh hs
          go_wp2_with (first
            | (go_at_call 121; refine (increasing_any _ _ _ (by omega) (by omega) _ hnums).mono ?_; rintro e w3 ⟨rfl, rfl⟩)
            | (go_at_call 122; refine (contains_any _ _ _ _ hnums).mono ?_; rintro e w4 ⟨rfl, rfl⟩))
          go_roundw
          case rel =>
            refine ⟨k + 1, by omega, by go_num, fun j hj => ?_, by trivial⟩
            by_cases e : j = k
            · subst e; exact Hok.out
            · exact Hrows.out j (by omega)
          case measure => simp [intOf]; omega
      · have hs' := dec_false hs
        have Hs := Lib.hid hs
        clear hs
        go_wp2_with (go_at_call 121; refine (increasing_any _ _ _ (by omega) (by omega) _ hnums).mono ?_; rintro e w3 ⟨rfl, rfl⟩)
        go_ret
        exact ⟨ret_bool (false_dec fun h => Hs.out (h.sets k hlt).1), hb1⟩
    · obtain rfl : k = g.length := by omega
      go_wp2
      go_loopw [6, 7, 9, 40, 45, 46, 47] (fun _ _ _ i _ _ _ wr => ∃ k : Nat, k ≤ g.length ∧ i = .int .i64 k ∧ (∀ j, j < k → BackTo g j (row g j).length) ∧ W1 = wr) (fun _ _ _ i _ _ _ _ => g.length - (intOf i).toNat)
      case atStart => exact ⟨0, Nat.zero_le _, rfl, fun j hj => by omega, rfl⟩
      case round =>
        obtain ⟨k, hk, rfl, hback, rfl⟩ := hrel
        have Hback := Lib.hid hback
        clear hback
        by_cases hlt : k < g.length
        · obtain ⟨b, o, rp, rc, rfl, hcell, hnums⟩ := hr1.get hlt
          change W1.cell? _ = some (.slice rp (row g k).length rc) at hcell
          change Nums W1 _ _ (.slice rp (row g k).length rc) (row g k) at hnums
          obtain ⟨_, _, hv, _, _, hnr, hat⟩ := hnums
          simp only [Value.slice.injEq, true_and] at hv
          obtain ⟨rfl, rfl⟩ := hv
          go_wp2
          go_loopw [9, 47] (fun _ i wr => ∃ j : Nat, j ≤ (row g k).length ∧ i = .int .i64 j ∧ BackTo g k j ∧ W1 = wr) (fun _ i _ => (row g k).length - (intOf i).toNat)
          case atStart => exact ⟨0, Nat.zero_le _, rfl, fun u hu => by simp at hu, rfl⟩
          case round =>
            obtain ⟨i, hi, rfl, hbk, rfl⟩ := hrel
            have Hbk := Lib.hid hbk
            clear hbk
            by_cases hlti : i < (row g k).length
            · obtain ⟨m, hm, hmn⟩ := row_bound (Hrows.out k hlt) hlti
              obtain ⟨b2, o2, rfl, hcell2⟩ := hat.num hlti
              rw [hm] at hcell2
              obtain ⟨b', o', rp', rc', he, hcell3, hnums3⟩ := hr1.get hmn
              simp only [Option.some.injEq, Addr.mk.injEq, and_true] at he
              obtain ⟨rfl, rfl⟩ := he
              change W1.cell? _ = some (.slice rp' (row g m).length rc') at hcell3
              change Nums W1 _ _ (.slice rp' (row g m).length rc') (row g m) at hnums3
              clear hat
              have Hm := Lib.hid hm
              clear hm
              by_cases hh : (k : Int) ∈ row g m
              · have hh' := dec_true hh
                have Hh := Lib.hid hh
                clear hh
                go_wp2_with (go_at_call 122; refine (contains_any _ _ _ _ hnums3).mono ?_; rintro e w4 ⟨rfl, rfl⟩)
                go_roundw
                case rel =>
                  refine ⟨i + 1, by omega, by go_num, backTo_step hlti Hbk.out ?_, by trivial⟩
                  rw [Hm.out, Int.toNat_natCast]; exact Hh.out
                case measure => simp [intOf]; omega
              · have hh' := dec_false hh
                have Hh := Lib.hid hh
                clear hh
                go_wp2_with (go_at_call 122; refine (contains_any _ _ _ _ hnums3).mono ?_; rintro e w4 ⟨rfl, rfl⟩)
                go_ret
                refine ⟨ret_bool (false_dec fun h => Hh.out ?_), hb1⟩
                have := h.both k hlt _ (List.getElem_mem hlti)
                rwa [Hm.out, Int.toNat_natCast] at this
            · obtain rfl : i = (row g k).length := by omega
              go_wp2
              go_roundw
              case rel =>
                refine ⟨k + 1, by omega, by go_num, fun j hj => ?_, by trivial⟩
                by_cases e : j = k
                · subst e; exact Hbk.out
                · exact Hback.out j (by omega)
              case measure => simp [intOf]; omega
        · obtain rfl : k = g.length := by omega
          go_wp2
          go_ret
          exact ⟨ret_bool (true_dec (gOk_of ⟨hl1, hl2⟩ Hrows.out Hback.out)), hb1⟩

end Go.Proofs.YtiooindlpinjhaaDoor

/- Walks: sets of neighbours. -/
namespace Go.Proofs.YtiooindlpinjhaaDoor
open Go.RowKit

/-- A set of vertices as a value. -/
def u32v (s : Nat) : Value := .int .u32 (s : Int)
/-- The sets of neighbours of a graph. -/
def netL (g : List (List Int)) : List Nat := g.map mask

theorem mask_take_lt16 {xs : List Int} (h : ∀ x ∈ xs, 0 ≤ x ∧ x < 16) (k : Nat) : mask (xs.take k) < 65536 :=
  mask_lt16 _ fun x hx => (h x (List.mem_of_mem_take hx)).2

theorem or_u32 (a b : Nat) (ha : a < 65536) (hb : b < 65536) : bits BinOp.or IntKind.u32 (a : Int) (b : Int) = ((a ||| b : Nat) : Int) := u32_or_nat a b (by omega) (by omega)

set_option maxRecDepth 100000 in
set_option maxHeartbeats 1000000 in
theorem maskOf_any (v : Value) (xs : List Int) (hr : ∀ x ∈ xs, 0 ≤ x ∧ x < 16) (w : World) (hx : Nums w 2 .i64 v xs) :
    Calls Tryd.prog 65 #[v] w fun e w' => e = .returned (.int .u32 ((mask xs : Nat) : Int)) ∧ w = w' := by
  obtain ⟨p, c, rfl, _, _, hn, hat⟩ := hx
  go_enter Tryd.func65, Tryd.ntmps65
  go_wp2
  go_loop [3, 5, 8] (fun o _ i => ∃ k : Nat, k ≤ xs.length ∧ i = .int .i64 k ∧ o = .int .u32 (mask (xs.take k))) (fun _ _ i => xs.length - (intOf i).toNat)
  case atStart => exact ⟨0, Nat.zero_le _, rfl, rfl⟩
  case round =>
    obtain ⟨k, hk, rfl, rfl⟩ := hrel
    by_cases hlt : k < xs.length
    · obtain ⟨b, o, rfl, hcell⟩ := hat.num hlt
      have hb := hr _ (List.getElem_mem hlt)
      obtain ⟨m, hm⟩ : ∃ m : Nat, xs[k] = (m : Int) := ⟨xs[k].toNat, by omega⟩
      have hor := Lib.hid (or_u32 (mask (xs.take k)) (2 ^ m) (mask_take_lt16 hr k) (pow_lt16 m (by omega)))
      have hsn : mask (xs.take (k + 1)) = mask (xs.take k) ||| 2 ^ m := by rw [take_snoc' _ k hlt, mask_snoc, hm, Int.toNat_natCast]
      have Hsn := Lib.hid hsn
      have hm16 : m < 32 := by omega
      rw [hm] at hcell
      clear hsn hm hb hat hr
      generalize mask (xs.take k) = M at *
      go_wp2_with (go_at_call 70; refine (one_any _ m rfl hm16 _).mono ?_; rintro e w2 ⟨rfl, rfl⟩)
      go_round
      case rel => exact ⟨k + 1, by omega, by go_num, val_int (by rw [Hsn.out]; exact hor.out)⟩
      case measure => simp [intOf]; omega
    · obtain rfl : k = xs.length := by omega
      rw [List.take_length]
      go_wp2
      go_ret
      exact ⟨rfl, rfl⟩

theorem netL_lt {g : List (List Int)} (h : GOk g) : ∀ s ∈ netL g, s < 65536 := by
  intro s hs
  obtain ⟨r, hr, rfl⟩ := List.mem_map.1 hs
  obtain ⟨i, hi, rfl⟩ := List.mem_iff_getElem.1 hr
  have h1 := (h.sets i hi).1
  have e : row g i = g[i] := by simp [row, hi]
  rw [e] at h1
  exact mask_lt16 _ fun x hx => by have := (h1.1 x hx).2; have := h.le; omega

set_option maxRecDepth 100000 in
set_option maxHeartbeats 1000000 in
theorem netsOf_any (v : Value) (g : List (List Int)) (w : World) (hg : Gr w v g) (hok : GOk g) :
    Calls Tryd.prog 54 #[v] w fun e w' => ∃ u, e = .returned u ∧
      w'.ownsRow w.heap.size 71 1 u g.length ((netL g).map u32v) ∧ Below w.heap.size w w' := by
  obtain ⟨u, rfl, hr⟩ := hg
  obtain ⟨p, c, rfl, _, _, hn⟩ := hr.shape
  have h16 := hok.le
  have hbb := below_alloc w (.cells #[.slice p g.length c] 28)
  have hbox := cell_new w (.slice p g.length c) 28
  go_enter Tryd.func54, Tryd.ntmps54
  go_wp2
  go_loopw [3, 5, 10] (fun o _ i wr => ∃ k : Nat, k ≤ g.length ∧ i = .int .i64 k ∧ wr.ownsRow w.heap.size 71 1 o k ((netL (g.take k)).map u32v) ∧ Below w.heap.size w wr) (fun _ _ i _ => g.length - (intOf i).toNat)
  case atStart => exact ⟨0, Nat.zero_le _, rfl, ownsRow_empty' _ _ _ _ _ (by omega), hbb.alloc (by rw [size_alloc]; omega) _⟩
  case round =>
    clear hbox hbb
    obtain ⟨k, hk, rfl, hown, hbel⟩ := hrel
    have hszr := hbel.size
    by_cases hlt : k < g.length
    · obtain ⟨b, o, rp, rc, rfl, hcell, hnums⟩ := (hr.below hbel).get hlt
      change wr.cell? _ = some (.slice rp (row g k).length rc) at hcell
      change Nums wr _ _ (.slice rp (row g k).length rc) (row g k) at hnums
      have hin : ∀ x ∈ row g k, 0 ≤ x ∧ x < 16 := fun x hx => by have := (hok.sets k hlt).1.1 x hx; omega
      have ht := Lib.hid (take_snoc' g k hlt)
      have he : g[k] = row g k := by simp [row, hlt]
      have He := Lib.hid he
      clear he
      go_wp2_with (first
        | (go_at_call 65; refine (maskOf_any _ _ hin _ hnums).mono ?_; rintro e w2 ⟨rfl, rfl⟩)
        | (at_builtin; refine wpList_app1 ty_nets rfl rfl rfl hown rfl rfl (by omega) hszr ?_; intro v' w1 hown' hg _))
      go_roundw
      case rel =>
        refine ⟨k + 1, by omega, by go_num, ?_, below_grown hbel hown hg (Nat.le_refl _) hszr⟩
        rw [ht.out, netL, List.map_append, List.map_append, List.map_singleton, List.map_singleton, He.out]
        exact hown'
      case measure => simp [intOf]; omega
    · obtain rfl : k = g.length := by omega
      go_wp2
      go_ret
      rw [List.take_length] at hown
      exact ⟨_, rfl, hown, hbel⟩

set_option maxRecDepth 100000 in
set_option maxHeartbeats 400000 in
theorem all_any (p : Option Addr) (n c : Nat) (hn : n < 32) (w : World) :
    Calls Tryd.prog 56 #[.slice p n c] w fun e w' => e = .returned (.int .u32 ((2 ^ n - 1 : Nat) : Int)) ∧ w = w' := by
  go_enter Tryd.func56, Tryd.ntmps56
  go_wp2_with (go_at_call 66; refine (firstOf_any _ n rfl hn _).mono ?_; rintro e w2 ⟨rfl, rfl⟩)
  go_ret
  exact ⟨rfl, rfl⟩

/-- Two vertices are made neighbours. -/
def joinL (a : List Nat) (u v : Nat) : List Nat := let b := a.set u (a.getD u 0 ||| 2 ^ v); b.set v (b.getD v 0 ||| 2 ^ u)


end Go.Proofs.YtiooindlpinjhaaDoor
