/- Plain: the size of a greatest matching by the least vertex; how many are left out. -/
import Derived.Test.YtiooindlpinjhaaDoorBaQ25
namespace Go.Proofs.YtiooindlpinjhaaDoor

/-- The size of a greatest matching within a list. -/
noncomputable def nuL (E : Nat → Nat → Bool) (L : List Nat) : Nat := (L.length - freN L (Classical.choose (mx_ex E L))) / 2
theorem nu_max {E : Nat → Nat → Bool} {L : List Nat} (hn : L.Nodup) : ∃ M, MxM E L M ∧ freN L M + 2 * nuL E L = L.length := by
  have h := Classical.choose_spec (mx_ex E L)
  refine ⟨_, h, ?_⟩
  have h1 := h.1.par hn
  have h2 := freN_le L (Classical.choose (mx_ex E L))
  unfold nuL
  omega
theorem nu_le {E : Nat → Nat → Bool} {L : List Nat} (hn : L.Nodup) {N : Nat → Nat} (h : Mt E L N) : L.length ≤ freN L N + 2 * nuL E L := by
  obtain ⟨M, h1, h2⟩ := nu_max (E := E) hn
  have := h1.2 N h
  omega
theorem nu_eq {E : Nat → Nat → Bool} {L : List Nat} (hn : L.Nodup) {k : Nat} (h1 : ∃ M, Mt E L M ∧ freN L M + 2 * k = L.length) (h2 : ∀ N, Mt E L N → L.length ≤ freN L N + 2 * k) : nuL E L = k := by
  obtain ⟨M, m1, m2⟩ := h1
  obtain ⟨K, k1, k2⟩ := nu_max (E := E) hn
  have a := nu_le hn m1
  have b := h2 K k1.1
  omega
theorem nu_half (E : Nat → Nat → Bool) {L : List Nat} (hn : L.Nodup) : 2 * nuL E L ≤ L.length := by
  obtain ⟨K, _, k2⟩ := nu_max (E := E) hn
  omega
theorem nu_nil (E : Nat → Nat → Bool) : nuL E [] = 0 := by
  have := nu_half E (L := []) List.nodup_nil
  rw [List.length_nil] at this
  omega
section
variable {E : Nat → Nat → Bool} (hs : ∀ x y, E x y = true → E y x = true)
omit hs in
theorem nu_rest {v : Nat} {R : List Nat} (hn : (v :: R).Nodup) : nuL E R ≤ nuL E (v :: R) := by
  obtain ⟨hv, hR⟩ := List.nodup_cons.1 hn
  obtain ⟨M, m1, m2⟩ := nu_max (E := E) hR
  have hMv : M v = v := Classical.byContradiction fun e => hv (m1.1.inn v e)
  have := nu_le hn (m1.1.sub (K := v :: R) fun x hx => List.mem_cons_of_mem _ hx)
  rw [freN_cons, if_pos hMv, List.length_cons] at this
  omega
include hs
theorem nu_with {v u : Nat} {R : List Nat} (hn : (v :: R).Nodup) (hu : u ∈ R) (hE : E v u = true) : nuL E (R.erase u) + 1 ≤ nuL E (v :: R) := by
  obtain ⟨hv, hR⟩ := List.nodup_cons.1 hn
  have hQ : (R.erase u).Nodup := hR.erase u
  obtain ⟨M, m1, m2⟩ := nu_max (E := E) hQ
  have hp := List.perm_cons_erase hu
  have hlen := hp.length_eq
  have huQ : u ∉ R.erase u := fun h => ((List.Nodup.mem_erase_iff hR).1 h).1 rfl
  have hMv : M v = v := Classical.byContradiction fun e => hv (List.mem_of_mem_erase (m1.1.inn v e))
  have hMu : M u = u := Classical.byContradiction fun e => huQ (m1.1.inn u e)
  have hvu : v ≠ u := fun e => hv (e ▸ hu)
  have hM' : Mt E (v :: R) M := m1.1.sub fun x hx => List.mem_cons_of_mem _ (List.mem_of_mem_erase hx)
  have huL : u ∈ v :: R := List.mem_cons_of_mem _ hu
  have hvL : v ∈ v :: R := List.mem_cons_self ..
  have a := nu_le hn (hM'.add hs hvL huL hE hMv hMu)
  have b := fre_add hn hvL huL hvu hMv hMu
  have c : freN (v :: R) M = freN (R.erase u) M + 2 := by
    rw [freN_cons, if_pos hMv, freN_perm hp, freN_cons, if_pos hMu]
  rw [List.length_cons] at a hlen
  omega
omit hs in
theorem nu_cases {v : Nat} {R : List Nat} (hn : (v :: R).Nodup) : nuL E (v :: R) ≤ nuL E R ∨ ∃ u ∈ R, E v u = true ∧ nuL E (v :: R) ≤ nuL E (R.erase u) + 1 := by
  obtain ⟨hv, hR⟩ := List.nodup_cons.1 hn
  obtain ⟨M, m1, m2⟩ := nu_max (E := E) hn
  by_cases hMv : M v = v
  · refine .inl ?_
    have hM : Mt E R M := ⟨m1.1.inv, m1.1.edge, fun x hx => by
      rcases List.mem_cons.1 (m1.1.inn x hx) with e | e
      · rw [e] at hx; exact absurd hMv hx
      · exact e⟩
    have := nu_le hR hM
    rw [freN_cons, if_pos hMv, List.length_cons] at m2
    omega
  · obtain ⟨w, hw⟩ : ∃ w, w = M v := ⟨_, rfl⟩
    have hMw : M w = v := by rw [hw, m1.1.inv]
    have hwv : w ≠ v := by rw [hw]; exact hMv
    have hwR : w ∈ R := by
      rcases List.mem_cons.1 (m1.1.inn' hMv) with e | e
      · exact absurd e hMv
      · rw [hw]; exact e
    refine .inr ⟨w, hwR, by rw [hw]; exact m1.1.edge v hMv, ?_⟩
    have hp := List.perm_cons_erase hwR
    have hlen := hp.length_eq
    have hwQ : w ∉ R.erase w := fun h => ((List.Nodup.mem_erase_iff hR).1 h).1 rfl
    have hD : Mt E (R.erase w) (fun x => if x = v ∨ x = w then x else M x) := {
      inv := fun x => by
        by_cases e : x = v ∨ x = w
        · simp only [if_pos e]
        · have e2 : ¬ (M x = v ∨ M x = w) := fun h => e (by
            rcases h with h | h
            · exact .inr (by have := congrArg M h; rw [m1.1.inv, ← hw] at this; exact this)
            · exact .inl (by have := congrArg M h; rw [m1.1.inv, hMw] at this; exact this))
          simp only [if_neg e, if_neg e2, m1.1.inv]
      edge := fun x hx => by
        by_cases e : x = v ∨ x = w
        · simp only [if_pos e] at hx; exact absurd rfl hx
        · simp only [if_neg e] at hx ⊢; exact m1.1.edge x hx
      inn := fun x hx => by
        by_cases e : x = v ∨ x = w
        · simp only [if_pos e] at hx; exact absurd rfl hx
        · simp only [if_neg e] at hx
          rcases List.mem_cons.1 (m1.1.inn x hx) with e3 | e3
          · exact absurd (.inl e3) e
          · exact (List.Nodup.mem_erase_iff hR).2 ⟨fun e4 => e (.inr e4), e3⟩ }
    have a := nu_le (hR.erase w) hD
    have c : freN (R.erase w) (fun x => if x = v ∨ x = w then x else M x) = freN (v :: R) M := by
      rw [freN_cons, if_neg hMv, freN_perm hp, freN_cons, hMw, if_neg (fun e => hwv e.symm)]
      refine freN_congr fun x hx => if_neg fun e => ?_
      rcases e with e | e
      · exact hv (e ▸ List.mem_of_mem_erase hx)
      · exact hwQ (e ▸ hx)
    rw [List.length_cons] at hlen m2
    omega

/-- The greatest of one and of one more than each. -/
def mxF (a : Nat) (l : List Nat) : Nat := l.foldl (fun a n => max a (n + 1)) a
omit hs in
theorem mxF_snoc (a : Nat) (l : List Nat) (n : Nat) : mxF a (l ++ [n]) = max (mxF a l) (n + 1) := by simp [mxF]
omit hs in
theorem mxF_spec : ∀ (l : List Nat) (a : Nat), a ≤ mxF a l ∧ (∀ n ∈ l, n + 1 ≤ mxF a l) ∧ (mxF a l = a ∨ ∃ n ∈ l, mxF a l = n + 1)
  | [], a => ⟨Nat.le_refl _, fun _ h => absurd h (by simp), .inl rfl⟩
  | n :: l, a => by
    obtain ⟨h1, h2, h3⟩ := mxF_spec l (max a (n + 1))
    have e : mxF a (n :: l) = mxF (max a (n + 1)) l := rfl
    rw [e]
    refine ⟨by omega, fun m hm => ?_, ?_⟩
    · rcases List.mem_cons.1 hm with rfl | hm
      · omega
      · exact h2 m hm
    · rcases h3 with h3 | ⟨m, hm, h3⟩
      · rw [h3]
        by_cases e : n + 1 ≤ a
        · exact .inl (by omega)
        · exact .inr ⟨n, List.mem_cons_self .., by omega⟩
      · exact .inr ⟨m, List.mem_cons_of_mem _ hm, h3⟩
theorem nu_step {v : Nat} {R W : List Nat} (hn : (v :: R).Nodup) (hW : ∀ u, u ∈ W ↔ u ∈ R ∧ E v u = true) : nuL E (v :: R) = mxF (nuL E R) (W.map fun u => nuL E (R.erase u)) := by
  obtain ⟨h1, h2, h3⟩ := mxF_spec (W.map fun u => nuL E (R.erase u)) (nuL E R)
  refine Nat.le_antisymm ?_ ?_
  · rcases nu_cases (E := E) hn with h | ⟨u, hu, hE, h⟩
    · omega
    · have := h2 _ (List.mem_map.2 ⟨u, (hW u).2 ⟨hu, hE⟩, rfl⟩)
      omega
  · rcases h3 with h3 | ⟨m, hm, h3⟩
    · rw [h3]; exact nu_rest hn
    · obtain ⟨u, hu, rfl⟩ := List.mem_map.1 hm
      obtain ⟨a, b⟩ := (hW u).1 hu
      rw [h3]; exact nu_with hs hn a b

/-- The formula for the number: no set has more odd parts too many, and some set has as many. -/
theorem gap_le {L U K : List Nat} (hn : L.Nodup) (hK : ∀ x, x ∈ K ↔ x ∈ L ∧ x ∉ U) (hKn : K.Nodup) {ps : List (List Nat)} (hp : Parts E K ps) : oddL ps + 2 * nuL E L ≤ L.length + U.length := by
  obtain ⟨M, m1, m2⟩ := nu_max (E := E) hn
  have := odd_le hs hK hKn m1.1 hp
  omega
theorem gap_ex {L : List Nat} (hn : L.Nodup) : ∃ U : List Nat, U.Nodup ∧ (∀ x ∈ U, x ∈ L) ∧ ∀ K : List Nat, (∀ x, x ∈ K ↔ x ∈ L ∧ x ∉ U) → K.Nodup → ∀ ps, Parts E K ps → oddL ps + 2 * nuL E L = L.length + U.length := by
  obtain ⟨U, M, u1, u2, u3, u4⟩ := tutte_berge hs L.length L (Nat.le_refl _) hn
  refine ⟨U, u1, u2, fun K hK hKn ps hp => ?_⟩
  have a := u4 K hK hKn ps hp
  have b := gap_le hs hn hK hKn hp
  have c := nu_le hn u3
  omega
end

end Go.Proofs.YtiooindlpinjhaaDoor
