/- Plain: the modules, in the order of size and of lists. -/
import Derived.Test.YtdkmnmnncccgaaaDoorMdQ19
import Derived.Test.YtdkmnmnncccgaaaDoorMdQ20
namespace Go.Proofs.YtdkmnmnncccgaaaDoor

/-- Two strictly sorted lists with the same members are one. -/
theorem sorted_ext {α : Type} (lt : α → α → Prop) (hirr : ∀ x, ¬ lt x x) (htr : ∀ {x y z}, lt x y → lt y z → lt x z) : ∀ (l m : List α), l.Pairwise lt → m.Pairwise lt → (∀ x, x ∈ l ↔ x ∈ m) → l = m
  | [], [], _, _, _ => rfl
  | [], b :: m, _, _, h => absurd ((h b).2 (by simp)) (by simp)
  | a :: l, [], _, _, h => absurd ((h a).1 (by simp)) (by simp)
  | a :: l, b :: m, hl, hm, h => by
    have hla := List.pairwise_cons.1 hl
    have hmb := List.pairwise_cons.1 hm
    have hab : a = b := by
      rcases List.mem_cons.1 ((h a).1 (by simp)) with e | h1
      · exact e
      · rcases List.mem_cons.1 ((h b).2 (by simp)) with e | h2
        · exact e.symm
        · exact absurd (htr (hla.1 b h2) (hmb.1 a h1)) (hirr a)
    subst hab
    rw [sorted_ext lt hirr htr l m hla.2 hmb.2 fun x => ?_]
    constructor
    · intro hx
      rcases List.mem_cons.1 ((h x).1 (List.mem_cons_of_mem _ hx)) with e | h1
      · subst e
        exact absurd (hla.1 x hx) (hirr x)
      · exact h1
    · intro hx
      rcases List.mem_cons.1 ((h x).2 (List.mem_cons_of_mem _ hx)) with e | h1
      · subst e
        exact absurd (hmb.1 x hx) (hirr x)
      · exact h1

/-- No vertex outside splits the set. -/
def ModN (g : List (List Int)) (s : Nat) : Prop := ∀ v, v < g.length → s.testBit v = false → mask (row g v) &&& s = 0 ∨ mask (row g v) &&& s = s
/-- The sets numbered below k that are modules, sorted. -/
structure MdOn (P : Nat → Prop) (k : Nat) (L : List (List Nat)) : Prop where
  srt : L.Pairwise lessP
  mem : ∀ x, x ∈ L ↔ ∃ s, 1 ≤ s ∧ s < k ∧ P s ∧ x = bitsOf s
theorem mdOn_start (P : Nat → Prop) : MdOn P 1 [] := ⟨by simp, fun x => by
  constructor
  · intro h; simp at h
  · rintro ⟨s, h1, h2, _⟩; omega⟩
theorem mdOn_skip {P : Nat → Prop} {k : Nat} {L : List (List Nat)} (h : MdOn P k L) (hk : ¬ P k) : MdOn P (k + 1) L := ⟨h.srt, fun x => by
  rw [h.mem]
  constructor
  · rintro ⟨s, h1, h2, h3, h4⟩
    exact ⟨s, h1, by omega, h3, h4⟩
  · rintro ⟨s, h1, h2, h3, h4⟩
    by_cases e : s = k
    · subst e; exact absurd h3 hk
    · exact ⟨s, h1, by omega, h3, h4⟩⟩
theorem mdOn_put {P : Nat → Prop} {k i : Nat} {L : List (List Nat)} (h : MdOn P k L) (hk : P k) (h1 : 1 ≤ k) (hk16 : k < 65536) (hi : i ≤ L.length)
    (hhi : ∀ j (hj : j < L.length), i ≤ j → lessP (bitsOf k) L[j]) (hlo : ∀ (h0 : 0 < i), ¬ lessP (bitsOf k) (L[i - 1]'(by omega))) : MdOn P (k + 1) (L.take i ++ [bitsOf k] ++ L.drop i) := by
  have hnew : bitsOf k ∉ L := fun hm => by
    obtain ⟨s, _, h2, _, h4⟩ := (h.mem _).1 hm
    have e : mask (natInts (bitsOf k)) = mask (natInts (bitsOf s)) := by rw [h4]
    rw [mask_bitsOf hk16, mask_bitsOf (by omega)] at e
    omega
  have hlow : ∀ x ∈ L.take i, lessP x (bitsOf k) := by
    intro x hx
    obtain ⟨j, hj, rfl⟩ := List.getElem_of_mem hx
    rw [List.length_take] at hj
    rw [List.getElem_take]
    have h0 : 0 < i := by omega
    have hl := hlo h0
    have hlast : lessP (L[i - 1]'(by omega)) (bitsOf k) := by
      by_cases hc : lessP (L[i - 1]'(by omega)) (bitsOf k)
      · exact hc
      · exact absurd (lessP_tri hl hc ▸ List.getElem_mem _) hnew
    by_cases hji : j = i - 1
    · subst hji; exact hlast
    · exact lessP_trans (List.pairwise_iff_getElem.1 h.srt j (i - 1) (by omega) (by omega) (by omega)) hlast
  have hhigh : ∀ x ∈ L.drop i, lessP (bitsOf k) x := by
    intro x hx
    obtain ⟨j, hj, rfl⟩ := List.getElem_of_mem hx
    rw [List.length_drop] at hj
    rw [List.getElem_drop]
    exact hhi _ (by omega) (by omega)
  refine ⟨?_, fun x => ?_⟩
  · rw [List.append_assoc, List.pairwise_append]
    refine ⟨h.srt.sublist (List.take_sublist _ _), ?_, fun a ha b hb => ?_⟩
    · rw [List.singleton_append, List.pairwise_cons]
      exact ⟨hhigh, h.srt.sublist (List.drop_sublist _ _)⟩
    · rw [List.singleton_append] at hb
      rcases List.mem_cons.1 hb with rfl | hb
      · exact hlow a ha
      · exact lessP_trans (hlow a ha) (hhigh b hb)
  · rw [List.mem_append, List.mem_append, List.mem_singleton]
    have hx : (x ∈ L.take i ∨ x ∈ L.drop i) ↔ x ∈ L := by rw [← List.mem_append, List.take_append_drop]
    constructor
    · intro hh
      have : x = bitsOf k ∨ x ∈ L := by
        rcases hh with (hh | hh) | hh
        · exact .inr (hx.1 (.inl hh))
        · exact .inl hh
        · exact .inr (hx.1 (.inr hh))
      rcases this with rfl | hm
      · exact ⟨k, h1, by omega, hk, rfl⟩
      · obtain ⟨s, a, b, c, d⟩ := (h.mem x).1 hm
        exact ⟨s, a, by omega, c, d⟩
    · rintro ⟨s, a, b, c, d⟩
      by_cases e : s = k
      · subst e; exact .inl (.inr d)
      · rcases hx.2 ((h.mem x).2 ⟨s, a, by omega, c, d⟩) with hh | hh
        · exact .inl (.inl hh)
        · exact .inr hh
theorem mdOn_det {P : Nat → Prop} {k : Nat} {L M : List (List Nat)} (h : MdOn P k L) (h2 : MdOn P k M) : L = M :=
  sorted_ext lessP lessP_irrefl lessP_trans L M h.srt h2.srt fun x => by rw [h.mem, h2.mem]
/-- What ModulesOf returns. -/
def MdS (g gg : List (List Int)) : Prop := ((GOk g ∧ g.length ≤ 8) ∧ ∃ L, MdOn (ModN g) (2 ^ g.length) L ∧ gg = L.map natInts) ∨ (¬ (GOk g ∧ g.length ≤ 8) ∧ gg = [])
theorem mdS_det {g gg hh : List (List Int)} (h : MdS g gg) (k : MdS g hh) : gg = hh := by
  rcases h with ⟨h1, L, h2, rfl⟩ | ⟨h1, rfl⟩ <;> rcases k with ⟨k1, M, k2, rfl⟩ | ⟨k1, rfl⟩
  · rw [mdOn_det h2 k2]
  · exact absurd h1 k1
  · exact absurd k1 h1
  · rfl
/-- A sorted arrangement of the modules' numbers. -/
theorem mdOn_sorted {P : Nat → Prop} {k : Nat} (hk : k ≤ 65536) {L : List (List Nat)} (hnd : L.Nodup) (hs : L.Pairwise fun x y => ¬ lessP y x) (hm : ∀ x, x ∈ L ↔ ∃ s, 1 ≤ s ∧ s < k ∧ P s ∧ x = bitsOf s) : MdOn P k L := by
  refine ⟨?_, hm⟩
  have hb := hnd.and hs
  exact hb.imp fun {a b} hab => by
    by_cases hc : lessP a b
    · exact hc
    · exact absurd (lessP_tri hc hab.2) hab.1

end Go.Proofs.YtdkmnmnncccgaaaDoor
