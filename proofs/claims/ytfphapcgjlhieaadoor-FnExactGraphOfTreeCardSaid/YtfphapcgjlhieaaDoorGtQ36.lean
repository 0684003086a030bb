/- Plain: the quotient of a graph at a node of a tree. -/
import Derived.Test.YtfphapcgjlhieaaDoorGtQ19
import Derived.Test.YtfphapcgjlhieaaDoorGtQ10
namespace Go.Proofs.YtfphapcgjlhieaaDoor

theorem sc_cover {ts : List Pt} : ∀ (i : Nat) (R : List Nat), scT ts i 0 [] = some R → ∀ j, j < i → ∀ b, ((mskT ts).getD j 0).testBit b = true → ∃ r ∈ R, ((mskT ts).getD r 0).testBit b = true
  | 0, _, _, j, hj, _, _ => by omega
  | i + 1, R, h, j, hj, b, hb => by
    have hgood := (sc_good _ _ h).2
    rw [scT_snoc] at h
    cases hs : scT ts i 0 [] with
    | none => rw [hs] at h; cases h
    | some R0 =>
      rw [hs] at h
      by_cases e : j = i
      · subst e
        obtain ⟨p, _, ⟨_, rfl⟩ | ⟨_, _, rfl⟩⟩ := stT_some h
        · exact ⟨j, List.mem_cons_self .., hb⟩
        · exact ⟨j, List.mem_cons_self .., hb⟩
      · obtain ⟨r, hr, hrb⟩ := sc_cover i R0 hs j (by omega) b hb
        obtain ⟨p, hp, ⟨_, rfl⟩ | ⟨hi, hla, rfl⟩⟩ := stT_some h
        · exact ⟨r, List.mem_cons_of_mem _ hr, hrb⟩
        · rw [← List.take_append_drop p.s.length R0, List.mem_append] at hr
          rcases hr with hr | hr
          · refine ⟨i, List.mem_cons_self .., ?_⟩
            obtain ⟨p', hp', hh⟩ := mskT_good (hgood i (by omega))
            obtain rfl : p = p' := Option.some.inj (hp.symm.trans hp')
            rcases hh with ⟨hl, _⟩ | ⟨_, _, hm⟩
            · exact absurd hi (leaf_not_inn hl)
            · rw [hm, orM_bit]
              refine ⟨(r : Int), ?_, by rw [Int.toNat_natCast]; exact hrb⟩
              have : (r : Int) ∈ p.s.reverse := by rw [hla.2, mem_natInts]; exact ⟨r, hr, rfl⟩
              exact List.mem_reverse.1 this
          · exact ⟨r, List.mem_cons_of_mem _ hr, hrb⟩

/-- The nodes of a right tree. -/
theorem parts_good {ts : List Pt} (h : PartsI ts) : ∀ j, j < ts.length → GoodN ts j := (sc_good _ _ h.1).2
theorem parts_bit {ts : List Pt} (h : PartsI ts) {j : Nat} (hj : j < ts.length) {b : Nat} (hb : ((mskT ts).getD j 0).testBit b = true) : b < cn (rootM ts) := by
  obtain ⟨r, hr, hrb⟩ := sc_cover _ _ h.1 j hj b hb
  rw [List.mem_singleton] at hr
  subst hr
  have h2 : (rootM ts).testBit b = true := hrb
  rw [h.2.2.2, testBit_firstOf] at h2
  exact of_decide_eq_true h2
theorem parts_strict {ts : List Pt} (h : PartsI ts) {j : Nat} {p : Pt} (hp : ts[j]? = some p) : RisS (mskT ts) p := ((tparts_iff ts).1 h).2.2.2.1 j p hp
theorem parts_kids {ts : List Pt} (h : PartsI ts) {j : Nat} {p : Pt} (hp : ts[j]? = some p) : ∀ k ∈ p.s, 0 ≤ k ∧ k < j := fun k hk => by
  obtain ⟨p', hp', hh⟩ := parts_good h j (List.getElem?_eq_some_iff.1 hp).1
  obtain rfl : p = p' := Option.some.inj (hp.symm.trans hp')
  rcases hh with hl | hi
  · rw [hl.2.2.2] at hk; cases hk
  · exact hi.2 k hk

/-- The least vertices of the kids. -/
def quoL (ts : List Pt) (p : Pt) : List Nat := p.s.map fun k => Lib.ctz 32 ((mskT ts).getD k.toNat 0)
theorem quoL_length (ts : List Pt) (p : Pt) : (quoL ts p).length = p.s.length := by simp [quoL]
theorem rising_adj : ∀ (l : List Nat), (∀ m (h : m + 1 < l.length), l[m] < l[m + 1]) → l.Pairwise (· < ·)
  | [], _ => .nil
  | [a], _ => by simp
  | a :: b :: l, h => by
    have ih := rising_adj (b :: l) fun m hm => h (m + 1) (by simpa using hm)
    have h0 : a < b := h 0 (by simp)
    refine List.pairwise_cons.2 ⟨fun x hx => ?_, ih⟩
    rcases List.mem_cons.1 hx with rfl | hx
    · exact h0
    · have := (List.pairwise_cons.1 ih).1 x hx
      omega
theorem quoL_rising {ts : List Pt} {p : Pt} (h : RisS (mskT ts) p) : (quoL ts p).Pairwise (· < ·) := by
  refine rising_adj _ fun m hm0 => ?_
  have hm := hm0
  rw [quoL_length] at hm
  have := h m hm
  rw [getD_atT (show m < p.s.length by omega), getD_atT hm] at this
  simpa [quoL] using this
def QtP (g : List (List Int)) (ts : List Pt) (x : Int) : Prop := GOk g ∧ PartsI ts ∧ cn (rootM ts) = g.length ∧ 0 ≤ x ∧ x < ts.length ∧ ∀ p, ts[x.toNat]? = some p → p.k ≠ 1
/-- What QuotientAt returns. -/
def QtS (g : List (List Int)) (ts : List Pt) (x : Int) (R : List (List Int)) (ok : Bool) : Prop :=
  (QtP g ts x ∧ ok = true ∧ ∃ p, ts[x.toNat]? = some p ∧ R = indL g (natInts (quoL ts p))) ∨ (¬ QtP g ts x ∧ ok = false ∧ R = [])
theorem qtS_det {g : List (List Int)} {ts : List Pt} {x : Int} {R R' : List (List Int)} {a b : Bool} (h : QtS g ts x R a) (k : QtS g ts x R' b) : R = R' ∧ a = b := by
  rcases h with ⟨h1, h2, p, hp, h3⟩ | ⟨h1, h2, h3⟩ <;> rcases k with ⟨k1, k2, q, hq, k3⟩ | ⟨k1, k2, k3⟩
  · obtain rfl := Option.some.inj (hp.symm.trans hq)
    exact ⟨h3.trans k3.symm, h2.trans k2.symm⟩
  · exact absurd h1 k1
  · exact absurd k1 h1
  · exact ⟨h3.trans k3.symm, h2.trans k2.symm⟩
theorem quo_inn {g : List (List Int)} {ts : List Pt} {x : Int} (h : QtP g ts x) {p : Pt} (hp : ts[x.toNat]? = some p) : InnP p ∧ SetIn g.length (natInts (quoL ts p)) ∧ quoL ts p ≠ [] ∧ (quoL ts p).length ≤ 16 ∧ ∀ v ∈ quoL ts p, v < g.length := by
  obtain ⟨h1, h2, h3, h4, h5, h6⟩ := h
  have hx := (List.getElem?_eq_some_iff.1 hp).1
  have hin : InnP p := by
    obtain ⟨p', hp', hh⟩ := parts_good h2 _ hx
    obtain rfl : p = p' := Option.some.inj (hp.symm.trans hp')
    rcases hh with hl | hi
    · exact absurd hl.1 (h6 p hp)
    · exact hi.1
  have hlt : ∀ v ∈ quoL ts p, v < g.length := fun v hv => by
    unfold quoL at hv
    obtain ⟨k, hk, rfl⟩ := List.mem_map.1 hv
    have hk2 := parts_kids h2 hp k hk
    have hm := msk_ok (ts := ts) ts.length (parts_good h2) k.toNat (by omega)
    rw [← h3]
    exact parts_bit h2 (j := k.toNat) (by omega) (testBit_ctz _ hm.2 (by omega)).1
  have hr := quoL_rising (parts_strict h2 hp)
  have hset : SetIn g.length (natInts (quoL ts p)) := by
    refine ⟨fun y hy => ?_, ?_⟩
    · obtain ⟨i, hi, rfl⟩ := mem_natInts.1 hy
      have := hlt i hi
      omega
    · exact List.pairwise_map.2 (hr.imp fun {a b} hab => by omega)
  have hl16 := setIn_length (by omega) hset
  rw [natInts_length] at hl16
  have := h1.le
  refine ⟨hin, hset, fun e => ?_, by omega, hlt⟩
  have h7 := hin.2.2
  rw [← quoL_length ts, e] at h7
  simp at h7
theorem quoL_snoc {ts : List Pt} {a b : Int} {s : List Int} {k : Nat} (hk : k < s.length) : (quoL ts ⟨a, b, s⟩).take (k + 1) = (quoL ts ⟨a, b, s⟩).take k ++ [Lib.ctz 32 ((mskT ts).getD (s[k]).toNat 0)] := by
  unfold quoL
  rw [← List.map_take, ← List.map_take, List.take_succ_eq_append_getElem (show k < (⟨a, b, s⟩ : Pt).s.length from hk), List.map_append]
  rfl

end Go.Proofs.YtfphapcgjlhieaaDoor
