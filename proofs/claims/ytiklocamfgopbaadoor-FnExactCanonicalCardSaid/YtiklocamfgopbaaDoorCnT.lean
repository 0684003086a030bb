/- Walk: the reference's Canonical. -/
import Derived.Test.YtiklocamfgopbaaDoorCnB
import Derived.Test.YtiklocamfgopbaaDoorLinkC
namespace Go.Proofs.YtiklocamfgopbaaDoor
open Go.RowKit

/-- What Canonical returns: the first order of least code, and the graph by it. -/
def CanS (g gg : List (List Int)) (l : List Int) : Prop :=
  ((GOk g ∧ g.length ≤ 8) ∧ ∃ o, (levB g.length (edB g) g.length).head? = some o ∧ l = natInts o ∧ gg = indL g (natInts o)) ∨ (¬ (GOk g ∧ g.length ≤ 8) ∧ gg = [] ∧ l = [])
theorem canS_det {g g1 g2 : List (List Int)} {l1 l2 : List Int} (h : CanS g g1 l1) (k : CanS g g2 l2) : g1 = g2 ∧ l1 = l2 := by
  rcases h with ⟨h, o, h1, h2, h3⟩ | ⟨h, h1, h2⟩ <;> rcases k with ⟨k, p, k1, k2, k3⟩ | ⟨k, k1, k2⟩
  · rw [h1] at k1
    cases k1
    exact ⟨h3.trans k3.symm, h2.trans k2.symm⟩
  · exact absurd h k
  · exact absurd k h
  · exact ⟨h1.trans k1.symm, h2.trans k2.symm⟩

theorem sg_nilC (w : World) (base : Nat) : SG w base (.agg #[.slice none 0 0]) [] := ⟨_, [], rfl, rfl, World.ownsRow_nil _ _ _ _, fun j hj => by simp at hj⟩
theorem first_row {w : World} {base : Nat} {u : Value} {Ls : List (List Nat)} {o : List Nat} (h : SG w base (.agg #[u]) (Ls.map natInts)) (ho : Ls.head? = some o) (hl : Ls.length ≤ 16777216) :
    ∃ bb bo n c rp rc, u = .slice (some ⟨bb, bo, none⟩) n c ∧ 0 < n ∧ w.cell? ⟨bb, bo, none⟩ = some (.slice rp o.length rc) ∧ Nums w 2 .i64 (.slice rp o.length rc) (natInts o) := by
  cases Ls with
  | nil => simp at ho
  | cons o' Ls =>
    obtain rfl : o' = o := by simpa using ho
    obtain ⟨_, e, hr⟩ := h.gr (by rw [List.length_map]; omega)
    simp only [Value.agg.injEq, Array.mk.injEq, List.cons.injEq, and_true] at e
    subst e
    obtain ⟨p, c, rfl, _⟩ := hr.shape
    obtain ⟨bb, bo, rp, rc, rfl, hco, hno⟩ := hr.get (k := 0) (by simp)
    have e0 : ((o' :: Ls).map natInts).getD 0 [] = natInts o' := rfl
    rw [e0, natInts_length] at hco hno
    exact ⟨bb, bo, _, c, rp, rc, rfl, by simp, hco, hno⟩

set_option maxRecDepth 100000 in
set_option maxHeartbeats 4000000 in
theorem specCanonical_any (v : Value) (g : List (List Int)) (w : World) (hg : Gr w v g) :
    Calls Tryd.prog 14 #[v] w fun e w' => ∃ (u lv : Value) (gg : List (List Int)) (l : List Int), e = .returned (.tuple #[u, lv]) ∧ CanS g gg l ∧ SG w' w.heap.size u gg ∧ Nums w' 2 .i64 lv l ∧ gg.length ≤ 16 ∧ (∀ j, (row gg j).length ≤ 16) ∧ l.length ≤ 16 ∧ Below w.heap.size w w' := by
  have hg0 := hg
  obtain ⟨u, rfl, hr⟩ := hg
  obtain ⟨p, c, rfl, _, _, _⟩ := hr.shape
  have hbA := Lib.hid (below_alloc2 w (.cells #[.slice p g.length c] 30) (.cells #[.slice none 0 0] 30))
  have BX := Lib.hid ((Box.new w (.slice p g.length c) 30).alloc (.cells #[.slice none 0 0] 30))
  have BN : Hid (Box ((w.alloc (.cells #[.slice p g.length c] 30)).alloc (.cells #[.slice none 0 0] 30)) (w.heap.size + 1) 30 (.slice none 0 0)) := by
    have := Box.new (w.alloc (.cells #[.slice p g.length c] 30)) (.slice none 0 0) 30
    rw [size_alloc] at this
    exact Lib.hid this
  have HG := Lib.hid (hg0.below hbA.out)
  have h0 := hbA.out.size
  clear hr hg0
  by_cases hok : GOk g ∧ g.length ≤ 8
  case neg =>
    have hd := Lib.hid (dec_false hok)
    have Hok := Lib.hid hok
    clear hok
    go_enter Tryd.func14, Tryd.ntmps14
    go_wp2_with (go_at_call 41; refine (l4Small_any _ g _ HG.out).mono ?_; rintro e w2 ⟨he, hb2⟩; rw [hd.out] at he; subst he; obtain ⟨nc, nf, nl, nB⟩ := (BN.out.keep hb2).alloc (.cells #[] 2))
    refine bodyPost_ret (v := .tuple #[.agg #[.slice none 0 0], .slice (some ⟨w2.heap.size, 0, none⟩) 0 0]) (by simp [results, Tryd.results14, go_sem, nc]) rfl ⟨_, _, [], [], rfl, .inr ⟨Hok.out, rfl, rfl⟩, sg_nilC _ _, Sl.nothing _ _ _ _ (by simp), by simp, fun j => by simp [row], by simp, ?_⟩
    exact ((hbA.out.trans (hb2.mono h0)).alloc (Nat.le_trans h0 hb2.size) _).setCell (by show w.heap.size ≤ w.heap.size + 1; omega) _
  have hd := Lib.hid (dec_true hok)
  have h8 := hok.2
  have hLn : levB g.length (edB g) g.length ≠ [] := (levB_is g.length (edB g) g.length (Nat.le_refl _)).elim fun m h => h.2.1
  have hord : ∀ o ∈ levB g.length (edB g) g.length, o.length = g.length ∧ (∀ u ∈ o, u < g.length) := fun o ho => by
    obtain ⟨h1, h2, _⟩ := levB_ord (Nat.le_refl _) ho
    exact ⟨h1, h2⟩
  have hll := levB_len h8 (edB g) g.length
  obtain ⟨Ls, hLs⟩ : ∃ Ls, Ls = levB g.length (edB g) g.length := ⟨_, rfl⟩
  rw [← hLs] at hLn hord hll
  obtain ⟨o, ho⟩ : ∃ o, Ls.head? = some o := by
    cases Ls with
    | nil => exact absurd rfl hLn
    | cons o _ => exact ⟨o, rfl⟩
  have hom : o ∈ Ls := List.mem_of_mem_head? ho
  obtain ⟨hol, hou⟩ := hord o hom
  have LL : Hid (Ls.length ≤ 16777216) := Lib.hid (by
    have h2 : 8 ^ g.length ≤ 8 ^ 8 := Nat.pow_le_pow_right (by decide) h8
    have h3 : (8 : Nat) ^ 8 = 16777216 := by decide
    omega)
  have HON : Hid (∀ x ∈ natInts o, 0 ≤ x ∧ x < g.length) := Lib.hid (fun x hx => by
    obtain ⟨y, hy, rfl⟩ := mem_natInts.1 hx
    have := hou y hy
    omega)
  have HO := Lib.hid ho
  have HLS := Lib.hid hLs
  have HOL := Lib.hid hol
  have HE := Lib.hid (indE_sym hok.1 HON.out)
  have Hok := Lib.hid hok
  clear hok hLn hord hll hLs ho hom hol hou
  go_enter Tryd.func14, Tryd.ntmps14
  go_wp2_with (first
    | (go_at_call 41; refine (l4Small_any _ g _ HG.out).mono ?_; rintro e w2 ⟨he, hb2⟩; rw [hd.out] at he; subst he; have hbx2 := (BX.out.keep hb2).cell)
    | (go_at_call 42; refine (l4Best_any _ g h8 _ (HG.out.below hb2)).mono ?_; rintro e w3 ⟨u3, rfl, hsg, hb3⟩; rw [← HLS.out] at hsg; obtain ⟨bb, bo, n3, c3, rp, rc, e3, hn3, hco, hno⟩ := first_row hsg HO.out LL.out; subst e3; have hbx3 := ((BX.out.keep hb2).keep hb3).cell; have HNO := Lib.hid hno; have hn3i : (0 : Int) < (n3 : Int) := (by omega); clear hsg hno)
    | (go_at_call 43; refine (l2Of_any _ _ g (natInts o) HON.out (by rw [natInts_length, HOL.out]; omega) HE.out _ ((HG.out.below hb2).below hb3) HNO.out).mono ?_; rintro e w4 ⟨u4, rfl, hsg4, hb4⟩; obtain ⟨p4, c4, rfl⟩ := hsg4.shape; have HS4 := Lib.hid hsg4; have HN4 := Lib.hid (HNO.out.below hb4); obtain ⟨nc, nf, nl, nB⟩ := ((BN.out.keep hb2).keep hb3).keep hb4; clear hsg4))
  have hi2 : (indL g (natInts o)).length = g.length := by unfold indL; rw [matG_length, natInts_length]; exact HOL.out
  have s2 := hb2.size
  have s3 := hb3.size
  have s4 := hb4.size
  rw [size_alloc, size_alloc] at s2
  refine bodyPost_ret (v := .tuple #[.agg #[.slice p4 (indL g (natInts o)).length c4], .slice rp o.length rc]) (by simp [results, Tryd.results14, go_sem, nc]) rfl ⟨_, _, indL g (natInts o), natInts o, rfl, .inl ⟨Hok.out, o, by rw [← HLS.out]; exact HO.out, rfl, rfl⟩,
    (HS4.out.setBox ⟨nc, nf, nl, nB⟩ _).base (by omega), HN4.out.setBox ⟨nc, nf, nl, nB⟩ (by decide) _, by omega, fun j => Nat.le_trans (matG_row_le j) (by rw [natInts_length, HOL.out]; omega), by rw [natInts_length, HOL.out]; omega, ?_⟩
  exact (((hbA.out.trans (hb2.mono h0)).trans (hb3.mono (by omega))).trans (hb4.mono (by omega))).setCell (by show w.heap.size ≤ w.heap.size + 1; omega) _

end Go.Proofs.YtiklocamfgopbaaDoor
