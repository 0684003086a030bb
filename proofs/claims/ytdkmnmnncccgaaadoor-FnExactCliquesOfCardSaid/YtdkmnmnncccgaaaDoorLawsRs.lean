/- Small laws on rows of numbers that a law's walk compares. -/
import Derived.Test.YtdkmnmnncccgaaaDoorLawsG
import Derived.Test.YtdkmnmnncccgaaaDoorLawsF
import Derived.Test.YtdkmnmnncccgaaaDoorLink
namespace Go.Proofs.YtdkmnmnncccgaaaDoor
open Go.RowKit

theorem rws_gr {w : World} {u : Value} {g : List (List Int)} (h : Gr w (.agg #[u]) g) : Rws w 26 2 u g := by
  obtain ⟨u', he, hr⟩ := h
  cases he
  exact hr
theorem DG.shape1 {w : World} {base : Nat} {u : Value} {g : List (List Int)} (h : DG w base (.agg #[u]) g) : ∃ p c, u = .slice p g.length c := by
  obtain ⟨p, c, e⟩ := h.shape
  cases e
  exact ⟨p, c, rfl⟩
theorem SG.shape1 {w : World} {base : Nat} {u : Value} {g : List (List Int)} (h : SG w base (.agg #[u]) g) : ∃ p c, u = .slice p g.length c := by
  obtain ⟨p, c, e⟩ := h.shape
  cases e
  exact ⟨p, c, rfl⟩
theorem eqInt64SS_b (u v : Value) (g : List (List Int)) (w : World) (hx : Rws w 26 2 u g) (hy : Rws w 26 2 v g) :
    Calls Tryd.prog 17 #[u, v] w fun e w' => e = .returned (.bool true) ∧ Below w.heap.size w w' :=
  (eqInt64SS_any u v g g w hx hy).mono fun e w' ⟨he, hb⟩ => by
    rw [dec_true rfl] at he
    exact ⟨he, hb⟩
theorem markSS_x (v : Value) (g : List (List Int)) (base hi : Nat) (k : Int) (h1 : g.length ≤ 100000) (h2 : ∀ j, (row g j).length ≤ 1000) (h0 : 0 ≤ k) (hk1 : k ≤ 1048576) (w : World) (hd : DGh w base hi (.agg #[v]) g) :
    Calls Tryd.prog 18 #[v, .int .i64 k] w fun e w' => e = .returned (.int .i64 (k + preL g g.length)) ∧ DGh w' base hi (.agg #[v]) (markG k g) ∧ Apart base hi w w' := by
  obtain ⟨u, vals, he, hvl, ho, hr, hhi⟩ := hd
  cases he
  refine (markInt64SS_x _ g base k h1 h2 h0 hk1 _ vals hvl ho hr hi hhi).mono fun e w' ⟨h1, h2, h3, h4⟩ => ⟨h1, ⟨_, vals, rfl, ?_, ?_, ?_, ?_⟩, h4⟩
  · rw [markG_length]; exact hvl
  · rw [markG_length]; exact h2
  · rw [markG_length]; exact h3
  · rw [markG_length]; exact hhi

end Go.Proofs.YtdkmnmnncccgaaaDoor
