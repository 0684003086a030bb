/- Plain: how many edges a graph has; a filled graph is right. -/
import Derived.Test.YtlhkhibnbmnjiaaDoorFillP
namespace Go.Proofs.YtlhkhibnbmnjiaaDoor

def upL (k : Nat) (xs : List Int) : Nat := (xs.filter fun x => decide ((k : Int) < x)).length
theorem upL_snoc {k : Nat} {xs : List Int} {i : Nat} (h : i < xs.length) : upL k (xs.take (i + 1)) = upL k (xs.take i) + (if (k : Int) < xs[i] then 1 else 0) := by
  unfold upL
  rw [List.take_succ_eq_append_getElem h, List.filter_append, List.length_append]
  by_cases e : (k : Int) < xs[i] <;> simp [e]
theorem upL_le (k : Nat) (xs : List Int) : upL k xs ≤ xs.length := List.length_filter_le _ _
def cntE (g : List (List Int)) : Nat → Nat
  | 0 => 0
  | k + 1 => cntE g k + upL k (row g k)
theorem cntE_le {g : List (List Int)} {m : Nat} (h : ∀ j, (row g j).length ≤ m) : ∀ k, cntE g k ≤ k * m
  | 0 => by simp [cntE]
  | k + 1 => by
    have h1 := cntE_le h k
    have h2 := h k
    have h3 := upL_le k (row g k)
    have : (k + 1) * m = k * m + m := Nat.succ_mul k m
    simp only [cntE]; omega

theorem gok_matG {n : Nat} (h1 : 1 ≤ n) (h16 : n ≤ 16) {E : Nat → Nat → Bool} (hs : ∀ r j, E r j = true → E j r = true) (hi : ∀ r, E r r = false) : GOk (matG n E) where
  pos := by rw [matG_length]; exact h1
  le := by rw [matG_length]; exact h16
  sets := fun v hv => by
    rw [matG_length] at hv ⊢
    refine ⟨⟨fun x hx => ?_, matG_rising hv⟩, fun h => ?_⟩
    · obtain ⟨j, rfl, hj, _⟩ := (mem_matG hv).1 hx
      omega
    · obtain ⟨j, e, _, hE⟩ := (mem_matG hv).1 h
      obtain rfl : v = j := by omega
      rw [hi] at hE
      exact absurd hE (by decide)
  both := fun v hv u hu => by
    rw [matG_length] at hv
    obtain ⟨j, rfl, hj, hE⟩ := (mem_matG hv).1 hu
    rw [Int.toNat_natCast]
    exact (mem_matG hj).2 ⟨v, rfl, hv, hs _ _ hE⟩
theorem ofG_sym {g : List (List Int)} (hg : GOk g) (r j : Nat) (h : ofG g r j = true) : ofG g j r = true := by
  simp only [ofG, decide_eq_true_eq] at h ⊢
  by_cases hr : r < g.length
  · have := hg.both r hr _ h
    rwa [Int.toNat_natCast] at this
  · rw [row_out hr] at h
    exact absurd h (by simp)
theorem ofG_irr {g : List (List Int)} (hg : GOk g) (r : Nat) : ofG g r r = false := by
  by_cases hr : r < g.length
  · simp only [ofG, decide_eq_false_iff_not]
    exact (hg.sets r hr).2
  · simp [ofG, row_out hr]
theorem elim_sym {E : Nat → Nat → Bool} {S : Nat → Bool} (h : ∀ r j, E r j = true → E j r = true) (r j : Nat) (he : elimE E S r j = true) : elimE E S j r = true := by
  simp only [elimE, Bool.or_eq_true, Bool.and_eq_true, decide_eq_true_eq] at he ⊢
  rcases he with he | ⟨⟨h1, h2⟩, h3⟩
  · exact .inl (h _ _ he)
  · exact .inr ⟨⟨h2, h1⟩, fun e => h3 e.symm⟩
theorem fill_sym {E : Nat → Nat → Bool} (h : ∀ r j, E r j = true → E j r = true) (l : List Nat) : ∀ m r j, fillP E l m r j = true → fillP E l m j r = true
  | 0 => h
  | m + 1 => elim_sym (fill_sym h l m)
theorem fill_irr {E : Nat → Nat → Bool} (h : ∀ r, E r r = false) (l : List Nat) : ∀ m r, fillP E l m r r = false
  | 0 => h
  | m + 1 => fun r => by
    have := fill_irr h l m r
    simp [fillP, elimE, this]
theorem gok_fill {g : List (List Int)} (hg : GOk g) (l : List Nat) (m : Nat) : GOk (matG g.length (fillP (ofG g) l m)) :=
  gok_matG hg.pos hg.le (fill_sym (ofG_sym hg) l m) (fill_irr (ofG_irr hg) l m)

end Go.Proofs.YtlhkhibnbmnjiaaDoor
