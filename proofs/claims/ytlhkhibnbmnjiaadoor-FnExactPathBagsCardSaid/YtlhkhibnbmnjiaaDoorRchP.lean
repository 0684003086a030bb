/- Plain: what can be reached in a set; the parts of a set. -/
import Derived.Test.YtlhkhibnbmnjiaaDoorEdgesP
import Derived.Test.YtlhkhibnbmnjiaaDoorPrP
namespace Go.Proofs.YtlhkhibnbmnjiaaDoor

/-- Reached from u along E in S. -/
inductive Rch (E : Nat → Nat → Bool) (S : Nat → Prop) (u : Nat) : Nat → Prop
  | base : Rch E S u u
  | step {x y : Nat} : Rch E S u x → E x y = true → S y → Rch E S u y
theorem rch_closed {E : Nat → Nat → Bool} {S : Nat → Prop} {u : Nat} {T : Nat → Prop} (h0 : T u) (hcl : ∀ x y, T x → E x y = true → S y → T y) : ∀ x, Rch E S u x → T x := by
  intro x h
  induction h with
  | base => exact h0
  | step _ h2 h3 ih => exact hcl _ _ ih h2 h3
theorem rch_in {E : Nat → Nat → Bool} {S : Nat → Prop} {u : Nat} (hu : S u) : ∀ x, Rch E S u x → S x := rch_closed hu fun _ _ _ _ h => h
theorem rch_trans {E : Nat → Nat → Bool} {S : Nat → Prop} {u x y : Nat} (h : Rch E S u x) (k : Rch E S x y) : Rch E S u y := by
  induction k with
  | base => exact h
  | step _ h2 h3 ih => exact .step ih h2 h3
theorem rch_sym {E : Nat → Nat → Bool} (hE : ∀ r j, E r j = true → E j r = true) {S : Nat → Prop} {u x : Nat} (hu : S u) (h : Rch E S u x) : Rch E S x u := by
  induction h with
  | base => exact .base
  | step h1 h2 h3 ih => exact rch_trans (.step .base (hE _ _ h2) (rch_in hu _ h1)) ih
theorem rch_mono {E : Nat → Nat → Bool} {S S' : Nat → Prop} {u : Nat} (h : ∀ x, S x → S' x) : ∀ x, Rch E S u x → Rch E S' u x := by
  intro x hx
  induction hx with
  | base => exact .base
  | step _ h2 h3 ih => exact .step ih h2 (h _ h3)
/-- Away from closed parts the same is reached. -/
theorem rch_away {E : Nat → Nat → Bool} (hE : ∀ r j, E r j = true → E j r = true) {S D : Nat → Prop} (hD : ∀ x y, D x → E x y = true → S y → D y) {u : Nat} (hu : S u) (hnu : ¬ D u) :
    ∀ x, Rch E S u x ↔ Rch E (fun y => S y ∧ ¬ D y) u x := by
  intro x
  constructor
  · intro h
    induction h with
    | base => exact .base
    | @step x y h1 h2 h3 ih =>
      refine .step ih h2 ⟨h3, fun hd => ?_⟩
      have hx := rch_in (S := fun y => S y ∧ ¬ D y) ⟨hu, hnu⟩ _ ih
      exact hx.2 (hD _ _ hd (hE _ _ h2) hx.1)
  · exact rch_mono (fun _ h => h.1) x

/-- The part of a vertex, as a list out of L. -/
noncomputable def partL (E : Nat → Nat → Bool) (L : List Nat) (u : Nat) : List Nat := L.filter fun x => dec (Rch E (· ∈ L) u x)
theorem mem_partL {E : Nat → Nat → Bool} {L : List Nat} {u x : Nat} : x ∈ partL E L u ↔ x ∈ L ∧ Rch E (· ∈ L) u x := by
  simp [partL, dec_iff]
theorem partL_rising {E : Nat → Nat → Bool} {L : List Nat} (h : L.Pairwise (· < ·)) (u : Nat) : (partL E L u).Pairwise (· < ·) := List.Pairwise.filter _ h
theorem partL_length (E : Nat → Nat → Bool) (L : List Nat) (u : Nat) : (partL E L u).length ≤ L.length := List.length_filter_le _ _
noncomputable def restL (E : Nat → Nat → Bool) (L : List Nat) (u : Nat) : List Nat := L.filter fun x => !dec (Rch E (· ∈ L) u x)
theorem mem_restL {E : Nat → Nat → Bool} {L : List Nat} {u x : Nat} : x ∈ restL E L u ↔ x ∈ L ∧ ¬ Rch E (· ∈ L) u x := by
  simp only [restL, List.mem_filter, Bool.not_eq_true', and_congr_right_iff]
  intro _
  by_cases h : Rch E (· ∈ L) u x
  · simp [dec_true h, h]
  · simp [dec_false h, h]
theorem restL_rising {E : Nat → Nat → Bool} {L : List Nat} (h : L.Pairwise (· < ·)) (u : Nat) : (restL E L u).Pairwise (· < ·) := List.Pairwise.filter _ h
theorem restL_lt {E : Nat → Nat → Bool} {L : List Nat} {u : Nat} (hu : u ∈ L) : (restL E L u).length < L.length := by
  rcases Nat.lt_or_ge (restL E L u).length L.length with h | h
  · exact h
  · exfalso
    have e : restL E L u = L := List.filter_eq_self.2 (fun x hx => by
      have h2 : (restL E L u).length = L.length := Nat.le_antisymm (List.length_filter_le _ _) h
      exact List.length_filter_eq_length_iff.1 h2 x hx)
    have : u ∈ restL E L u := by rw [e]; exact hu
    exact (mem_restL.1 this).2 .base

/-- The parts of a rising list, by their least ones. -/
inductive Parts (E : Nat → Nat → Bool) : List Nat → List (List Nat) → Prop
  | done : Parts E [] []
  | step (u : Nat) (L : List Nat) (ps : List (List Nat)) : Parts E (restL E (u :: L) u) ps → Parts E (u :: L) (partL E (u :: L) u :: ps)
theorem parts_det {E : Nat → Nat → Bool} {L : List Nat} {ps : List (List Nat)} (h : Parts E L ps) : ∀ {qs : List (List Nat)}, Parts E L qs → ps = qs := by
  induction h with
  | done => intro qs h2; cases h2; rfl
  | step u L ps _ ih =>
    intro qs h2
    cases h2 with
    | step _ _ qs h3 => rw [ih h3]

def PartOn (E : Nat → Nat → Bool) (L0 : List Nat) (os : List (List Nat)) (L : List Nat) : Prop := ∀ ps, Parts E L ps → Parts E L0 (os ++ ps)
theorem partOn_start (E : Nat → Nat → Bool) (L : List Nat) : PartOn E L [] L := fun _ h => h
theorem partOn_step {E : Nat → Nat → Bool} {L0 L : List Nat} {os : List (List Nat)} {u : Nat} (h : PartOn E L0 os (u :: L)) : PartOn E L0 (os ++ [partL E (u :: L) u]) (restL E (u :: L) u) := fun ps k => by
  have := h _ (.step u L ps k)
  simpa using this
theorem partOn_stop {E : Nat → Nat → Bool} {L0 : List Nat} {os : List (List Nat)} (h : PartOn E L0 os []) : Parts E L0 os := by
  have := h [] .done
  simpa using this

end Go.Proofs.YtlhkhibnbmnjiaaDoor
