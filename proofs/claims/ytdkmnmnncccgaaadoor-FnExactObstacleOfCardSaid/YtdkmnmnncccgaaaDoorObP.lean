/- Plain: the least set that is not pruned away. -/
import Derived.Test.YtdkmnmnncccgaaaDoorChP
import Derived.Test.YtdkmnmnncccgaaaDoorPrP
namespace Go.Proofs.YtdkmnmnncccgaaaDoor

/-- A set that is not pruned away whole. -/
def StuckN (g : List (List Int)) (s : Nat) : Prop := ∃ ps L, Prunes g (natInts (bitsOf s)) ps L ∧ L ≠ []
theorem stuck_iff {g : List (List Int)} {s : Nat} {ps : List Pr} {L : List Int} (h : Prunes g (natInts (bitsOf s)) ps L) : StuckN g s ↔ L ≠ [] :=
  ⟨fun ⟨qs, M, h1, h2⟩ => by rw [(prunes_det h h1).2]; exact h2, fun h1 => ⟨ps, L, h, h1⟩⟩
theorem stuck_zero (g : List (List Int)) : ¬ StuckN g 0 := by
  have h : Prunes g (natInts (bitsOf 0)) [] [] := by
    rw [bitsOf_zero]
    exact .done [] fun j hj => by simp at hj
  rw [stuck_iff h]
  simp
def ObB (g : List (List Int)) : Prop := (GOk g ∧ g.length ≤ 8) ∧ ∃ s, s < 2 ^ g.length ∧ StuckN g s
/-- What ObstacleOf returns. -/
def ObS (g : List (List Int)) (ys : List Int) : Prop := (ObB g ∧ ∃ s, LeastP (StuckN g) g.length s ∧ ys = natInts (bitsOf s)) ∨ (¬ ObB g ∧ ys = [])
theorem obS_det {g : List (List Int)} {ys zs : List Int} (h : ObS g ys) (k : ObS g zs) : ys = zs := by
  rcases h with ⟨hb, s, h, rfl⟩ | ⟨hb, rfl⟩ <;> rcases k with ⟨kb, t, k, rfl⟩ | ⟨kb, rfl⟩
  · rw [leastP_det hb.1.1.le h k]
  · exact absurd hb kb
  · exact absurd kb hb
  · rfl
theorem obS_none {g : List (List Int)} (hn : ∀ t, t < 2 ^ g.length → ¬ StuckN g t) : ¬ ObB g ∧ ObS g [] := by
  have h : ¬ ObB g := fun ⟨_, t, h1, h2⟩ => hn t h1 h2
  exact ⟨h, .inr ⟨h, rfl⟩⟩
theorem obS_out {g : List (List Int)} (hn : ¬ (GOk g ∧ g.length ≤ 8)) : ¬ ObB g ∧ ObS g [] := by
  have h : ¬ ObB g := fun ⟨h1, _⟩ => hn h1
  exact ⟨h, .inr ⟨h, rfl⟩⟩
theorem obS_some {g : List (List Int)} {s : Nat} (h1 : GOk g) (h2 : g.length ≤ 8) (h : LeastP (StuckN g) g.length s) : ObB g ∧ ObS g (natInts (bitsOf s)) ∧ (natInts (bitsOf s)).length ≤ 16 := by
  have hb : ObB g := ⟨⟨h1, h2⟩, s, h.1, h.2.1⟩
  refine ⟨hb, .inl ⟨hb, s, h, rfl⟩, ?_⟩
  obtain ⟨hc, _⟩ := cand_bits h1.le h.1
  rw [natInts_length]
  by_cases he : bitsOf s = []
  · rw [he]; simp
  · have := rising_room hc.ris hc.inn he
    omega

end Go.Proofs.YtdkmnmnncccgaaaDoor
