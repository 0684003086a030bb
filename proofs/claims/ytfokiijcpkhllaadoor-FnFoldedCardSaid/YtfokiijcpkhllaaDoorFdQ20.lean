/- Plain: what can be reached in a set; the parts of a set. -/
import Derived.Test.YtfokiijcpkhllaaDoorFdQ18
import Derived.Test.YtfokiijcpkhllaaDoorFdQ15
import Derived.Test.YtfokiijcpkhllaaDoorFdQ17
namespace Go.Proofs.YtfokiijcpkhllaaDoor

/-- Reached from u along E in S. -/
inductive Rch (E : Nat → Nat → Bool) (S : Nat → Prop) (u : Nat) : Nat → Prop
  | base : Rch E S u u
  | step {x y : Nat} : Rch E S u x → E x y = true → S y → Rch E S u y
theorem rch_closed {E : Nat → Nat → Bool} {S : Nat → Prop} {u : Nat} {T : Nat → Prop} (h0 : T u) (hcl : ∀ x y, T x → E x y = true → S y → T y) : ∀ x, Rch E S u x → T x := by
  intro x h
  induction h with
  | base => exact h0
  | step _ h2 h3 ih => exact hcl _ _ ih h2 h3
theorem rch_in {E : Nat → Nat → Bool} {S : Nat → Prop} {u : Nat} (hu : S u) : ∀ x, Rch E S u x → S x := rch_closed hu fun _ _ _ _ h => h
theorem rch_trans {E : Nat → Nat → Bool} {S : Nat → Prop} {u x y : Nat} (h : Rch E S u x) (k : Rch E S x y) : Rch E S u y := by
  induction k with
  | base => exact h
  | step _ h2 h3 ih => exact .step ih h2 h3
theorem rch_sym {E : Nat → Nat → Bool} (hE : ∀ r j, E r j = true → E j r = true) {S : Nat → Prop} {u x : Nat} (hu : S u) (h : Rch E S u x) : Rch E S x u := by
  induction h with
  | base => exact .base
  | step h1 h2 h3 ih => exact rch_trans (.step .base (hE _ _ h2) (rch_in hu _ h1)) ih
theorem rch_mono {E : Nat → Nat → Bool} {S S' : Nat → Prop} {u : Nat} (h : ∀ x, S x → S' x) : ∀ x, Rch E S u x → Rch E S' u x := by
  intro x hx
  induction hx with
  | base => exact .base
  | step _ h2 h3 ih => exact .step ih h2 (h _ h3)
/-- Away from closed parts the same is reached. -/
theorem rch_away {E : Nat → Nat → Bool} (hE : ∀ r j, E r j = true → E j r = true) {S D : Nat → Prop} (hD : ∀ x y, D x → E x y = true → S y → D y) {u : Nat} (hu : S u) (hnu : ¬ D u) :
    ∀ x, Rch E S u x ↔ Rch E (fun y => S y ∧ ¬ D y) u x := by
  intro x
  constructor
  · intro h
    induction h with
    | base => exact .base
    | @step x y h1 h2 h3 ih =>
      refine .step ih h2 ⟨h3, fun hd => ?_⟩
      have hx := rch_in (S := fun y => S y ∧ ¬ D y) ⟨hu, hnu⟩ _ ih
      exact hx.2 (hD _ _ hd (hE _ _ h2) hx.1)
  · exact rch_mono (fun _ h => h.1) x

/-- The part of a vertex, as a list out of L. -/
noncomputable def partL (E : Nat → Nat → Bool) (L : List Nat) (u : Nat) : List Nat := L.filter fun x => dec (Rch E (· ∈ L) u x)
theorem mem_partL {E : Nat → Nat → Bool} {L : List Nat} {u x : Nat} : x ∈ partL E L u ↔ x ∈ L ∧ Rch E (· ∈ L) u x := by
  simp [partL, dec_iff]
theorem partL_rising {E : Nat → Nat → Bool} {L : List Nat} (h : L.Pairwise (· < ·)) (u : Nat) : (partL E L u).Pairwise (· < ·) := List.Pairwise.filter _ h
theorem partL_length (E : Nat → Nat → Bool) (L : List Nat) (u : Nat) : (partL E L u).length ≤ L.length := List.length_filter_le _ _
noncomputable def restL (E : Nat → Nat → Bool) (L : List Nat) (u : Nat) : List Nat := L.filter fun x => !dec (Rch E (· ∈ L) u x)
theorem mem_restL {E : Nat → Nat → Bool} {L : List Nat} {u x : Nat} : x ∈ restL E L u ↔ x ∈ L ∧ ¬ Rch E (· ∈ L) u x := by
  simp only [restL, List.mem_filter, Bool.not_eq_true', and_congr_right_iff]
  intro _
  by_cases h : Rch E (· ∈ L) u x
  · simp [dec_true h, h]
  · simp [dec_false h, h]
theorem restL_rising {E : Nat → Nat → Bool} {L : List Nat} (h : L.Pairwise (· < ·)) (u : Nat) : (restL E L u).Pairwise (· < ·) := List.Pairwise.filter _ h
theorem restL_lt {E : Nat → Nat → Bool} {L : List Nat} {u : Nat} (hu : u ∈ L) : (restL E L u).length < L.length := by
  rcases Nat.lt_or_ge (restL E L u).length L.length with h | h
  · exact h
  · exfalso
    have e : restL E L u = L := List.filter_eq_self.2 (fun x hx => by
      have h2 : (restL E L u).length = L.length := Nat.le_antisymm (List.length_filter_le _ _) h
      exact List.length_filter_eq_length_iff.1 h2 x hx)
    have : u ∈ restL E L u := by rw [e]; exact hu
    exact (mem_restL.1 this).2 .base

/-- The parts of a rising list, by their least ones. -/
inductive Parts (E : Nat → Nat → Bool) : List Nat → List (List Nat) → Prop
  | done : Parts E [] []
  | step (u : Nat) (L : List Nat) (ps : List (List Nat)) : Parts E (restL E (u :: L) u) ps → Parts E (u :: L) (partL E (u :: L) u :: ps)
theorem parts_det {E : Nat → Nat → Bool} {L : List Nat} {ps : List (List Nat)} (h : Parts E L ps) : ∀ {qs : List (List Nat)}, Parts E L qs → ps = qs := by
  induction h with
  | done => intro qs h2; cases h2; rfl
  | step u L ps _ ih =>
    intro qs h2
    cases h2 with
    | step _ _ qs h3 => rw [ih h3]

def PartOn (E : Nat → Nat → Bool) (L0 : List Nat) (os : List (List Nat)) (L : List Nat) : Prop := ∀ ps, Parts E L ps → Parts E L0 (os ++ ps)
theorem partOn_start (E : Nat → Nat → Bool) (L : List Nat) : PartOn E L [] L := fun _ h => h
theorem partOn_step {E : Nat → Nat → Bool} {L0 L : List Nat} {os : List (List Nat)} {u : Nat} (h : PartOn E L0 os (u :: L)) : PartOn E L0 (os ++ [partL E (u :: L) u]) (restL E (u :: L) u) := fun ps k => by
  have := h _ (.step u L ps k)
  simpa using this
theorem partOn_stop {E : Nat → Nat → Bool} {L0 : List Nat} {os : List (List Nat)} (h : PartOn E L0 os []) : Parts E L0 os := by
  have := h [] .done
  simpa using this

end Go.Proofs.YtfokiijcpkhllaaDoor

/- Plain: connected sets; a search by a list that grows at its end. -/
namespace Go.Proofs.YtfokiijcpkhllaaDoor

/-- A list that is not empty and in which each is reached from the first. -/
def ConnL (E : Nat → Nat → Bool) (L : List Nat) : Prop := L ≠ [] ∧ ∀ x ∈ L, Rch E (· ∈ L) (L.headD 0) x
theorem connL_part {E : Nat → Nat → Bool} {u : Nat} {T : List Nat} : ConnL E (u :: T) ↔ partL E (u :: T) u = u :: T := by
  unfold ConnL partL
  rw [List.filter_eq_self]
  constructor
  · rintro ⟨_, h⟩ x hx
    exact dec_iff.2 (h x hx)
  · intro h
    exact ⟨by simp, fun x hx => dec_iff.1 (h x hx)⟩
theorem connL_len {E : Nat → Nat → Bool} {u : Nat} {T : List Nat} : ConnL E (u :: T) ↔ (partL E (u :: T) u).length = (u :: T).length := by
  rw [connL_part]
  constructor
  · intro h; rw [h]
  · intro h
    refine List.filter_eq_self.2 fun x hx => ?_
    exact List.length_filter_eq_length_iff.1 h x hx
theorem not_connL_nil (E : Nat → Nat → Bool) : ¬ ConnL E [] := fun h => h.1 rfl

theorem nodup_le : ∀ (n : Nat) (M : List Nat), M.Nodup → (∀ x ∈ M, x < n) → M.length ≤ n
  | 0, M, _, h => by
    cases M with
    | nil => exact Nat.le_refl _
    | cons x M => exact absurd (h x (by simp)) (Nat.not_lt_zero _)
  | n + 1, M, hn, h => by
    by_cases hm : n ∈ M
    · have h1 := List.length_erase_of_mem hm
      have h2 := nodup_le n (M.erase n) (hn.erase n) fun x hx => by
        have h3 := (List.Nodup.mem_erase_iff hn).1 hx
        have := h x h3.2
        have := h3.1
        omega
      omega
    · have := nodup_le n M hn fun x hx => by
        have := h x hx
        have : x ≠ n := fun e => hm (e ▸ hx)
        omega
      omega

/-- The search: what is met has a number that is not negative. -/
structure Bf (E : Nat → Nat → Bool) (L : List Nat) (n u : Nat) (F : List Int) (M : List Nat) : Prop where
  len : F.length = n
  nod : M.Nodup
  inn : ∀ x ∈ M, x ∈ L ∧ x < n
  rch : ∀ x ∈ M, Rch E (· ∈ L) u x
  frm : u ∈ M
  sgn : ∀ x, x < n → (0 ≤ F.getD x 0 ↔ x ∈ M)
  bnd : ∀ x, x < n → -1 ≤ F.getD x 0 ∧ F.getD x 0 < M.length
  stp : ∀ x, x < n → 0 < F.getD x 0 → ∃ y, y < n ∧ E y x = true ∧ F.getD y 0 + 1 = F.getD x 0
  zer : ∀ x, x < n → F.getD x 0 = 0 → x = u
theorem Bf.start {E : Nat → Nat → Bool} {L : List Nat} {n u : Nat} (hu : u ∈ L) (hn : u < n) : Bf E L n u ((List.replicate n (-1 : Int)).set u 0) [u] where
  len := by simp
  nod := by simp
  inn := fun x hx => by
    obtain rfl : x = u := by simpa using hx
    exact ⟨hu, hn⟩
  rch := fun x hx => by
    obtain rfl : x = u := by simpa using hx
    exact .base
  frm := by simp
  sgn := fun x hx => by
    rw [List.getD_eq_getElem?_getD, List.getElem?_set]
    by_cases e : u = x
    · subst e; simp [hn]
    · simp [e, hx, Ne.symm e]
  bnd := fun x hx => by
    rw [List.getD_eq_getElem?_getD, List.getElem?_set]
    by_cases e : u = x
    · subst e; simp [hn]
    · simp [e, hx]
  stp := fun x hx h => by
    rw [List.getD_eq_getElem?_getD, List.getElem?_set] at h
    by_cases e : u = x
    · subst e; simp [hn] at h
    · simp [e, hx] at h
  zer := fun x hx h => by
    rw [List.getD_eq_getElem?_getD, List.getElem?_set] at h
    by_cases e : u = x
    · exact e.symm
    · simp [e, hx] at h
theorem Bf.le {E : Nat → Nat → Bool} {L : List Nat} {n u : Nat} {F : List Int} {M : List Nat} (h : Bf E L n u F M) : M.length ≤ n := nodup_le n M h.nod fun x hx => (h.inn x hx).2
theorem Bf.add {E : Nat → Nat → Bool} {L : List Nat} {n u x y : Nat} {F : List Int} {M : List Nat} (h : Bf E L n u F M) (hx : x ∈ M) (hE : E x y = true) (hy : y ∈ L) (hn : y < n) (hm : y ∉ M) : Bf E L n u (F.set y (F.getD x 0 + 1)) (M ++ [y]) where
  len := by rw [List.length_set]; exact h.len
  nod := by
    rw [List.nodup_append]
    exact ⟨h.nod, by simp, fun a ha b hb => by
      obtain rfl : b = y := by simpa using hb
      exact fun e => hm (e ▸ ha)⟩
  inn := fun z hz => by
    rcases List.mem_append.1 hz with e | e
    · exact h.inn z e
    · obtain rfl : z = y := by simpa using e
      exact ⟨hy, hn⟩
  rch := fun z hz => by
    rcases List.mem_append.1 hz with e | e
    · exact h.rch z e
    · obtain rfl : z = y := by simpa using e
      exact .step (h.rch x hx) hE hy
  frm := List.mem_append_left _ h.frm
  sgn := fun z hz => by
    have hxn := (h.inn x hx).2
    have h0 := (h.sgn x hxn).2 hx
    generalize F.getD x 0 = q at h0 ⊢
    rw [List.getD_eq_getElem?_getD, List.getElem?_set]
    by_cases e : y = z
    · subst e
      simp [h.len, hn]
      omega
    · have := h.sgn z hz
      rw [List.getD_eq_getElem?_getD] at this
      simp [e, this, Ne.symm e]
  bnd := fun z hz => by
    have hxn := (h.inn x hx).2
    have h1 := h.bnd x hxn
    have h2 := h.bnd z hz
    generalize F.getD x 0 = q at h1 ⊢
    rw [List.getD_eq_getElem?_getD] at h2
    rw [List.getD_eq_getElem?_getD, List.getElem?_set, List.length_append]
    by_cases e : y = z
    · subst e
      simp [h.len, hn]
      omega
    · simp only [e, if_false]
      simp
      omega
  stp := fun z hz h0 => by
    have hxn := (h.inn x hx).2
    have hxy : x ≠ y := fun e => hm (e ▸ hx)
    have get : ∀ a, a ≠ y → (F.set y (F.getD x 0 + 1)).getD a 0 = F.getD a 0 := fun a ha => by
      rw [List.getD_eq_getElem?_getD, List.getD_eq_getElem?_getD, List.getElem?_set]
      simp [Ne.symm ha]
    by_cases e : z = y
    · subst e
      refine ⟨x, hxn, hE, ?_⟩
      rw [get x hxy, List.getD_eq_getElem?_getD (l := F.set _ _), List.getElem?_set]
      simp [h.len, hn]
    · rw [get z e] at h0 ⊢
      obtain ⟨q, h1, h2, h3⟩ := h.stp z hz h0
      refine ⟨q, h1, h2, ?_⟩
      rw [get q (fun e2 => hm (e2 ▸ (h.sgn q h1).1 (by omega)))]
      exact h3
  zer := fun z hz h0 => by
    have hxn := (h.inn x hx).2
    have h1 := (h.sgn x hxn).2 hx
    rw [List.getD_eq_getElem?_getD, List.getElem?_set] at h0
    by_cases e : y = z
    · subst e
      simp [h.len, hn] at h0
      rw [List.getD_eq_getElem?_getD] at h1
      omega
    · simp only [e, if_false] at h0
      exact h.zer z hz (by rw [List.getD_eq_getElem?_getD]; exact h0)
/-- Of the first so many met all neighbours are met. -/
def BfTo (E : Nat → Nat → Bool) (L M : List Nat) (i : Nat) : Prop := ∀ j, j < i → ∀ y, y ∈ L → E (M.getD j 0) y = true → y ∈ M
theorem BfTo.more {E : Nat → Nat → Bool} {L M : List Nat} {i y : Nat} (h : BfTo E L M i) (hi : i ≤ M.length) : BfTo E L (M ++ [y]) i := fun j hj z hz hE => by
  have e : (M ++ [y]).getD j 0 = M.getD j 0 := by simp [List.getElem?_append_left (show j < M.length by omega)]
  rw [e] at hE
  exact List.mem_append_left _ (h j hj z hz hE)
theorem Bf.done {E : Nat → Nat → Bool} {L : List Nat} {n u : Nat} {F : List Int} {M : List Nat} (h : Bf E L n u F M) (hc : BfTo E L M M.length) : ∀ x, x ∈ M ↔ x ∈ partL E L u := by
  intro x
  rw [mem_partL]
  constructor
  · intro hx
    exact ⟨(h.inn x hx).1, h.rch x hx⟩
  · rintro ⟨_, hx⟩
    refine rch_closed (T := (· ∈ M)) h.frm (fun a b ha hE hb => ?_) x hx
    obtain ⟨j, hj, e⟩ := List.getElem_of_mem ha
    exact hc j hj b hb (by have k : M.getD j 0 = a := by simp [hj, e]
                           rw [k]; exact hE)

end Go.Proofs.YtfokiijcpkhllaaDoor

/- Plain: the least width of taking away all vertices; a model of a full graph bounds it from below. -/
namespace Go.Proofs.YtfokiijcpkhllaaDoor

/-- Who is gone, by bits. -/
def inS (s : Nat) : Nat → Prop := fun x => s.testBit x = true
noncomputable def behS (n : Nat) (E : Nat → Nat → Bool) (s v : Nat) : List Nat := (List.range n).filter fun u => !s.testBit u && decide (u ≠ v) && dec (∃ x, Rch E (inS s) v x ∧ E x u = true)
theorem mem_behS {n : Nat} {E : Nat → Nat → Bool} {s v u : Nat} : u ∈ behS n E s v ↔ u < n ∧ s.testBit u = false ∧ u ≠ v ∧ ∃ x, Rch E (inS s) v x ∧ E x u = true := by
  unfold behS
  rw [List.mem_filter, List.mem_range, Bool.and_eq_true, Bool.and_eq_true, Bool.not_eq_true', decide_eq_true_eq, dec_iff, and_assoc]
theorem behS_rising (n : Nat) (E : Nat → Nat → Bool) (s v : Nat) : (behS n E s v).Pairwise (· < ·) := List.Pairwise.filter _ List.pairwise_lt_range
theorem behS_le (n : Nat) (E : Nat → Nat → Bool) (s v : Nat) : (behS n E s v).length ≤ n := by
  have := List.length_filter_le (fun u => !s.testBit u && decide (u ≠ v) && dec (∃ x, Rch E (inS s) v x ∧ E x u = true)) (List.range n)
  rwa [List.length_range] at this

/-- Whom a search that goes over those who are gone has seen to. -/
def HndB (s v : Nat) (M : List Nat) (O : List Int) (u : Nat) : Prop := (s.testBit u = true → u ∈ M) ∧ (s.testBit u = false → u ≠ v → (u : Int) ∈ O)
structure BhI (n : Nat) (E : Nat → Nat → Bool) (s v : Nat) (M : List Nat) (O : List Int) : Prop where
  nod : M.Nodup
  one : v ∈ M
  rch : ∀ x ∈ M, Rch E (inS s) v x
  lt : ∀ x ∈ M, x < n
  ris : O.Pairwise (· < ·)
  snd : ∀ y ∈ O, ∃ u : Nat, y = u ∧ u ∈ behS n E s v
theorem BhI.start {n : Nat} {E : Nat → Nat → Bool} {s v : Nat} (hv : v < n) : BhI n E s v [v] [] :=
  ⟨by simp, by simp, fun x hx => by
    obtain rfl : x = v := by simpa using hx
    exact .base, fun x hx => by
    obtain rfl : x = v := by simpa using hx
    exact hv, List.Pairwise.nil, fun y hy => by cases hy⟩
theorem BhI.le {n : Nat} {E : Nat → Nat → Bool} {s v : Nat} {M : List Nat} {O : List Int} (h : BhI n E s v M O) : M.length ≤ n := nodup_le n M h.nod h.lt
theorem BhI.le2 {n : Nat} {E : Nat → Nat → Bool} {s v : Nat} {M : List Nat} {O : List Int} (h : BhI n E s v M O) : O.length ≤ n := by
  have hs : SetIn n O := ⟨fun x hx => by
    obtain ⟨u, rfl, hu⟩ := h.snd x hx
    have := (mem_behS.1 hu).1
    omega, h.ris⟩
  have := setIn_length (by omega) hs
  omega
theorem BhI.add {n : Nat} {E : Nat → Nat → Bool} {s v x u : Nat} {M : List Nat} {O : List Int} (h : BhI n E s v M O) (hx : x ∈ M) (hE : E x u = true) (hu : u < n) (hs : s.testBit u = true) (hm : u ∉ M) : BhI n E s v (M ++ [u]) O :=
  ⟨by
    rw [List.nodup_append]
    exact ⟨h.nod, by simp, fun a ha b hb e => by
      obtain rfl : b = u := by simpa using hb
      exact hm (e ▸ ha)⟩, List.mem_append_left _ h.one, fun y hy => by
    rcases List.mem_append.1 hy with hy | hy
    · exact h.rch y hy
    · obtain rfl : y = u := by simpa using hy
      exact .step (h.rch x hx) hE hs, fun y hy => by
    rcases List.mem_append.1 hy with hy | hy
    · exact h.lt y hy
    · obtain rfl : y = u := by simpa using hy
      exact hu, h.ris, h.snd⟩
theorem BhI.put {n : Nat} {E : Nat → Nat → Bool} {s v x u : Nat} {M : List Nat} {O : List Int} (h : BhI n E s v M O) (hx : x ∈ M) (hE : E x u = true) (hu : u < n) (hs : s.testBit u = false) (hv : u ≠ v) : BhI n E s v M (intoL O u) :=
  ⟨h.nod, h.one, h.rch, h.lt, intoL_rising h.ris, fun y hy => by
    rcases mem_intoL.1 hy with hy | rfl
    · exact h.snd y hy
    · exact ⟨u, rfl, mem_behS.2 ⟨hu, hs, hv, x, h.rch x hx, hE⟩⟩⟩
theorem HndB.mono {s v u : Nat} {M M' : List Nat} {O O' : List Int} (h : HndB s v M O u) (hM : ∀ x ∈ M, x ∈ M') (hO : ∀ x ∈ O, x ∈ O') : HndB s v M' O' u := ⟨fun k => hM _ (h.1 k), fun k k' => hO _ (h.2 k k')⟩
/-- When all are seen to, the list is right. -/
theorem BhI.done {n : Nat} {E : Nat → Nat → Bool} {s v : Nat} {M : List Nat} {O : List Int} (h : BhI n E s v M O) (hc : ∀ x ∈ M, ∀ u, u < n → E x u = true → HndB s v M O u) (hEn : ∀ x y, E x y = true → y < n) : O = natInts (behS n E s v) := by
  have hall : ∀ x, Rch E (inS s) v x → x ∈ M := rch_closed (T := (· ∈ M)) h.one fun x y hx hE hy => (hc x hx y (hEn x y hE) hE).1 hy
  refine rising_ext_int _ _ h.ris (natInts_rising (behS_rising _ _ _ _)) fun y => ?_
  rw [mem_natInts]
  constructor
  · intro hy
    obtain ⟨u, rfl, hu⟩ := h.snd y hy
    exact ⟨u, hu, rfl⟩
  · rintro ⟨u, hu, rfl⟩
    obtain ⟨h1, h2, h3, x, h4, h5⟩ := mem_behS.1 hu
    exact (hc x (hall x h4) u h1 h5).2 h2 h3

/-! ### The least width -/
def stepO (b : Int) (x : Nat) : Int := if b < 0 ∨ (x : Int) < b then (x : Int) else b
def minO (l : List Nat) : Int := l.foldl stepO (-1)
theorem minO_snoc (l : List Nat) (x : Nat) : minO (l ++ [x]) = stepO (minO l) x := by simp [minO]
theorem foldO (l : List Nat) : ∀ b : Int, (0 ≤ b → 0 ≤ l.foldl stepO b ∧ l.foldl stepO b ≤ b ∧ (l.foldl stepO b = b ∨ ∃ x ∈ l, l.foldl stepO b = (x : Int)) ∧ ∀ x ∈ l, l.foldl stepO b ≤ (x : Int)) := by
  induction l with
  | nil => intro b hb; exact ⟨hb, Int.le_refl _, .inl rfl, fun x hx => by cases hx⟩
  | cons y l ih =>
    intro b hb
    have hs : 0 ≤ stepO b y := by unfold stepO; split <;> omega
    have hs2 : stepO b y ≤ b ∧ stepO b y ≤ y ∧ (stepO b y = b ∨ stepO b y = y) := by unfold stepO; split <;> omega
    obtain ⟨h1, h2, h3, h4⟩ := ih _ hs
    rw [List.foldl_cons]
    refine ⟨h1, by omega, ?_, fun x hx => ?_⟩
    · rcases h3 with h3 | ⟨x, hx, h3⟩
      · rcases hs2.2.2 with e | e
        · exact .inl (h3.trans e)
        · exact .inr ⟨y, by simp, h3.trans e⟩
      · exact .inr ⟨x, by simp [hx], h3⟩
    · rcases List.mem_cons.1 hx with rfl | hx
      · omega
      · exact h4 x hx
theorem minO_some {l : List Nat} (h : l ≠ []) : ∃ x ∈ l, minO l = (x : Int) := by
  cases l with
  | nil => exact absurd rfl h
  | cons y l =>
    have e : minO (y :: l) = l.foldl stepO (y : Int) := by
      unfold minO
      rw [List.foldl_cons]
      congr 1
    obtain ⟨_, _, h3, _⟩ := foldO l (y : Int) (by omega)
    rw [e]
    rcases h3 with h3 | ⟨x, hx, h3⟩
    · exact ⟨y, by simp, h3⟩
    · exact ⟨x, by simp [hx], h3⟩
theorem minO_le {l : List Nat} : ∀ x ∈ l, minO l ≤ (x : Int) := by
  cases l with
  | nil => intro x hx; cases hx
  | cons y l =>
    have e : minO (y :: l) = l.foldl stepO (y : Int) := by
      unfold minO
      rw [List.foldl_cons]
      congr 1
    obtain ⟨_, h2, _, h4⟩ := foldO l (y : Int) (by omega)
    intro x hx
    rw [e]
    rcases List.mem_cons.1 hx with rfl | hx
    · exact h2
    · exact h4 x hx
theorem minO_nil : minO [] = -1 := rfl
theorem minO_ge (l : List Nat) : -1 ≤ minO l := by
  by_cases h : l = []
  · rw [h, minO_nil]; omega
  · obtain ⟨x, _, hx⟩ := minO_some h
    omega

def freeS (n s : Nat) : List Nat := (List.range n).filter fun v => !s.testBit v
theorem mem_freeS {n s v : Nat} : v ∈ freeS n s ↔ v < n ∧ s.testBit v = false := by
  unfold freeS
  rw [List.mem_filter, List.mem_range, Bool.not_eq_true']
theorem testBit_put (s v x : Nat) : (s ||| 2 ^ v).testBit x = (s.testBit x || decide (v = x)) := by
  rw [Nat.testBit_or]
  by_cases e : v = x
  · subst e; simp
  · rw [Nat.testBit_two_pow_of_ne e]; simp [e]
theorem freeS_put {n s v : Nat} (hv : v ∈ freeS n s) : (freeS n (s ||| 2 ^ v)).length + 1 = (freeS n s).length := by
  have h1 : freeS n (s ||| 2 ^ v) = (freeS n s).filter (· != v) := by
    unfold freeS
    rw [List.filter_filter]
    congr 1
    funext x
    rw [testBit_put]
    by_cases e : v = x
    · subst e; simp
    · simp [e, Ne.symm e]
  have hnd : (freeS n s).Nodup := List.Pairwise.filter _ List.nodup_range
  rw [h1]
  have key : ∀ l : List Nat, l.Nodup → v ∈ l → (l.filter (· != v)).length + 1 = l.length := by
    intro l
    induction l with
    | nil => intro _ h; cases h
    | cons x l ih =>
      intro hn hm
      have hn' := List.nodup_cons.1 hn
      by_cases e : x = v
      · subst e
        have : l.filter (· != x) = l := List.filter_eq_self.2 fun y hy => by
          have : y ≠ x := fun e => hn'.1 (e ▸ hy)
          simpa using this
        rw [List.filter_cons, this]
        simp
      · have hm' : v ∈ l := by
          rcases List.mem_cons.1 hm with h | h
          · exact absurd h.symm e
          · exact h
        have h5 := ih hn'.2 hm'
        rw [List.filter_cons, if_pos (by simpa using e)]
        simp only [List.length_cons]
        omega
  exact key _ hnd hv
noncomputable def twN (n : Nat) (E : Nat → Nat → Bool) : Nat → Nat → Nat
  | 0, _ => 0
  | r + 1, s => (max (minO ((freeS n s).map fun v => max (behS n E s v).length (twN n E r (s ||| 2 ^ v)))) 0).toNat
noncomputable def twS (n : Nat) (E : Nat → Nat → Bool) (s : Nat) : Nat := twN n E (freeS n s).length s
noncomputable def valS (n : Nat) (E : Nat → Nat → Bool) (s v : Nat) : Nat := max (behS n E s v).length (twS n E (s ||| 2 ^ v))
theorem twS_eq (n : Nat) (E : Nat → Nat → Bool) (s : Nat) : (twS n E s : Int) = max (minO ((freeS n s).map (valS n E s))) 0 := by
  by_cases h : freeS n s = []
  · have e : twS n E s = 0 := by unfold twS; rw [h]; rfl
    rw [e, h, List.map_nil, minO_nil]
    rfl
  · obtain ⟨r, hr⟩ : ∃ r, (freeS n s).length = r + 1 := ⟨(freeS n s).length - 1, by have := List.length_pos_iff.2 h; omega⟩
    have e : twS n E s = twN n E (r + 1) s := by unfold twS; rw [hr]
    rw [e, twN]
    have e2 : ((freeS n s).map fun v => max (behS n E s v).length (twN n E r (s ||| 2 ^ v))) = (freeS n s).map (valS n E s) := by
      refine List.map_congr_left fun v hv => ?_
      have := freeS_put hv
      unfold valS twS
      rw [show (freeS n (s ||| 2 ^ v)).length = r by omega]
    rw [e2]
    omega
theorem behS_lt {n : Nat} {E : Nat → Nat → Bool} {s v : Nat} (hv : v < n) : (behS n E s v).length < n := by
  have := sub_len (v :: behS n E s v) (List.range n) (List.nodup_cons.2 ⟨fun h => (mem_behS.1 h).2.2.1 rfl, (behS_rising _ _ _ _).imp fun h => by omega⟩) fun x hx => by
    rw [List.mem_range]
    rcases List.mem_cons.1 hx with rfl | hx
    · exact hv
    · exact (mem_behS.1 hx).1
  rw [List.length_range] at this
  simp at this; omega
theorem twS_le (n : Nat) (E : Nat → Nat → Bool) : ∀ (r s : Nat), (freeS n s).length = r → twS n E s ≤ n
  | r, s, hr => by
    have h := twS_eq n E s
    by_cases hn : freeS n s = []
    · rw [hn, List.map_nil, minO_nil] at h
      omega
    · obtain ⟨x, hx, e⟩ := minO_some (l := (freeS n s).map (valS n E s)) (by simpa using hn)
      obtain ⟨v, hv, rfl⟩ := List.mem_map.1 hx
      have hf := freeS_put hv
      match r, hr with
      | 0, hr => omega
      | r + 1, hr =>
        have h1 := twS_le n E r (s ||| 2 ^ v) (by omega)
        have h2 := behS_le n E s v
        have : valS n E s v ≤ n := by unfold valS; omega
        rw [e] at h
        omega

/-- The neighbours over those who are gone. -/
def viaR (E : Nat → Nat → Bool) (s : Nat) : Nat → Nat → Prop := fun x y => s.testBit x = false ∧ s.testBit y = false ∧ x ≠ y ∧ ∃ z, Rch E (inS s) x z ∧ E z y = true
theorem rch_back {E : Nat → Nat → Bool} {s v : Nat} (hE : ∀ x y, E x y = true → E y x = true) {z : Nat} (h : Rch E (inS s) v z) : ∀ x, E z x = true → Rch E (inS (s ||| 2 ^ v)) x v := by
  induction h with
  | base => intro x hx; exact .step .base (hE _ _ hx) (by unfold inS; rw [testBit_put]; simp)
  | @step z' z hz' hzz hz ih =>
    intro x hx
    have h1 : inS (s ||| 2 ^ v) z := by unfold inS at *; rw [testBit_put, hz]; rfl
    exact rch_trans (.step .base (hE _ _ hx) h1) (ih z hzz)
theorem viaR_gone {E : Nat → Nat → Bool} {s v x y : Nat} (hE : ∀ x y, E x y = true → E y x = true) (h : goneR (viaR E s) v x y) : viaR E (s ||| 2 ^ v) x y := by
  obtain ⟨h1, h2, h3, h⟩ := h
  have mono : ∀ t, inS s t → inS (s ||| 2 ^ v) t := fun t ht => by unfold inS at *; rw [testBit_put, ht]; rfl
  have bit : ∀ t, t ≠ v → s.testBit t = false → (s ||| 2 ^ v).testBit t = false := fun t ht hs => by rw [testBit_put, hs]; simpa using Ne.symm ht
  rcases h with ⟨k1, k2, _, z, k3, k4⟩ | ⟨⟨_, k2, _, z, k3, k4⟩, ⟨_, m2, _, z2, m3, m4⟩⟩
  · exact ⟨bit x h1 k1, bit y h2 k2, h3, z, rch_mono mono _ k3, k4⟩
  · exact ⟨bit x h1 k2, bit y h2 m2, h3, z2, rch_trans (rch_back hE k3 x k4) (rch_mono mono _ m3), m4⟩
theorem viaR_sym {E : Nat → Nat → Bool} {s x y : Nat} (hE : ∀ x y, E x y = true → E y x = true) (h : viaR E s x y) : viaR E s y x := by
  obtain ⟨h1, h2, h3, z, h4, h5⟩ := h
  refine ⟨h2, h1, Ne.symm h3, ?_⟩
  -- from y back to x: the last step into x comes from a gone vertex or from y
  have key : ∀ z, Rch E (inS s) x z → ∀ y, E z y = true → ∃ t, Rch E (inS s) y t ∧ E t x = true := by
    intro z hz
    induction hz with
    | base => intro y hy; exact ⟨y, .base, hE _ _ hy⟩
    | @step z' z _ hzz hz ih =>
      intro y hy
      obtain ⟨t, ht, hx⟩ := ih z hzz
      exact ⟨t, rch_trans (.step .base (hE _ _ hy) hz) ht, hx⟩
  exact key z h4 y h5
theorem viaR_zero {E : Nat → Nat → Bool} (hi : ∀ x, E x x = false) (x y : Nat) (h : E x y = true) : viaR E 0 x y :=
  ⟨Nat.zero_testBit x, Nat.zero_testBit y, fun e => (by rw [e, hi] at h; cases h), x, .base, h⟩
/-- A model of a full graph: each order of taking away is at least so wide. -/
theorem km_tw {n : Nat} {E : Nat → Nat → Bool} (hE : ∀ x y, E x y = true → E y x = true) (hEn : ∀ x y, E x y = true → y < n) {k : Nat} (hk : 2 ≤ k) : ∀ (r s : Nat) (B : Nat → Nat → Prop), (freeS n s).length = r → KM (viaR E s) k B → k ≤ twS n E s + 1
  | r, s, B, hr, h => by
    have hne : freeS n s ≠ [] := by
      obtain ⟨x, hx⟩ := h.ne 0 (by omega)
      obtain ⟨y, hy⟩ := h.near hk (by omega) hx
      obtain ⟨_, h2, _, z, _, h5⟩ := hy
      exact List.ne_nil_of_mem (mem_freeS.2 ⟨hEn _ _ h5, h2⟩)
    obtain ⟨x, hx, e⟩ := minO_some (l := (freeS n s).map (valS n E s)) (by simpa using hne)
    obtain ⟨v, hv, rfl⟩ := List.mem_map.1 hx
    have hf := freeS_put hv
    have heq := twS_eq n E s
    rw [e] at heq
    have hval : twS n E s = valS n E s v := by omega
    rw [hval]
    unfold valS
    by_cases c : k ≤ (behS n E s v).length + 1
    · omega
    · have hg := h.gone (fun x y => viaR_sym hE) (v := v) (l := behS n E s v) (by omega) fun x hx => by
        obtain ⟨_, h2, h3, z, h4, h5⟩ := hx
        exact mem_behS.2 ⟨hEn _ _ h5, h2, Ne.symm h3, z, h4, h5⟩
      have hg2 := hg.mono fun _ _ _ _ x y _ _ r => viaR_gone hE r
      match r, hr with
      | 0, hr => omega
      | r + 1, hr =>
        have := km_tw hE hEn hk r (s ||| 2 ^ v) _ (by omega) hg2
        omega

end Go.Proofs.YtfokiijcpkhllaaDoor
