/- Walks: CliquesOf of the reference. -/
import Derived.Test.YtdkmnmnncccgaaaDoorClT
import Derived.Test.YtdkmnmnncccgaaaDoorClC
namespace Go.Proofs.YtdkmnmnncccgaaaDoor
open Go.RowKit

theorem nums_nilC (w : World) (E : TypeId) (a : Addr) : Nums w E .i64 (.slice (some a) 0 0) (natInts []) := ⟨_, 0, rfl, (fun e => by cases e), by simp [natInts], by simp [natInts], .inl rfl⟩

set_option maxRecDepth 100000 in
set_option maxHeartbeats 4000000 in
theorem specCliquesOf_any (v : Value) (g : List (List Int)) (w : World) (hg : Gr w v g) :
    Calls Tryd.prog 20 #[v] w fun e w' => ∃ (u : Value) (gg : List (List Int)), e = .returned u ∧ ClsS g gg ∧ SG w' w.heap.size (.agg #[u]) gg ∧ gg.length ≤ 65536 ∧ (∀ j, (row gg j).length ≤ 32) ∧ Below w.heap.size w w' := by
  have hg0 := hg
  obtain ⟨u, rfl, hr⟩ := hg
  obtain ⟨p, c, rfl, _⟩ := hr.shape
  have hbA := Lib.hid (below_alloc w (.cells #[.slice p g.length c] 29))
  have HG := Lib.hid (hg0.below hbA.out)
  have BX := Lib.hid (Box.new w (.slice p g.length c) 29)
  clear hr hg0
  by_cases hok : GOk g
  case neg =>
    have hd := dec_false hok
    have Hok := Lib.hid hok
    clear hok
    go_enter Tryd.func20, Tryd.ntmps20
    go_wp2_with (go_at_call 23; refine (specGraphOk_any _ g _ HG.out).mono ?_; rintro e w2 ⟨he, hb2⟩; rw [hd] at he; subst he)
    go_ret
    have s0 := hbA.out.size
    have s2 := hb2.size
    exact ⟨_, [], rfl, .inr ⟨Hok.out, rfl⟩, ⟨_, [], rfl, rfl, ownsRow_base (ownsRow_empty w2 _ _) (by omega), fun j hj => by simp at hj⟩, by simp, fun j => by simp [row], (hbA.out.trans (hb2.mono hbA.out.size)).alloc (by omega) _⟩
  have hd := dec_true hok
  have HOK := Lib.hid hok
  have h16 := hok.le
  clear hok
  go_enter Tryd.func20, Tryd.ntmps20
  go_upto_region 3 with (go_at_call 23; refine (specGraphOk_any _ g _ HG.out).mono ?_; rintro e w2 ⟨he, hb2⟩; rw [hd] at he; subst he; have hbx := (BX.out.keep hb2).cell)
  have s0 := hbA.out.size
  have s2 := hb2.size
  rw [size_alloc] at s2
  have HG2 := Lib.hid (HG.out.below hb2)
  have HB2 := Lib.hid (hbA.out.trans (hb2.mono s0))
  have T1 : Hid (∀ j ∈ List.range g.length, j < g.length) := Lib.hid (fun j hj => List.mem_range.1 hj)
  have T2 : Hid ((List.range g.length).length < g.length + 1) := Lib.hid (by rw [List.length_range]; omega)
  have T3 : Hid ((List.range g.length).length ≤ 16) := Lib.hid (by rw [List.length_range]; omega)
  have T4 : Hid (([] : List Nat).length + (List.range g.length).length ≤ 100) := Lib.hid (by rw [List.length_range]; simp; omega)
  have T5 : Hid (g.length ≤ 1000) := Lib.hid (by omega)
  clear hb2
  go_region_held3 (fun w' => w'.cell? ⟨w.heap.size, 0, none⟩ = some (.slice p g.length c) ∧ Below w2.heap.size w2 w')
    (first
      | exact ⟨hbx, below_dN (Below.refl _ _) 1⟩
      | exact ⟨(below_dN (below_alloc w2 (.cells #[] 2)) 1).at' hbx, below_dN (below_alloc w2 (.cells #[] 2)) 1⟩
      | exact ⟨(below_dN (below_alloc2 w2 (.cells #[] 2) (.cells #[] 2)) 1).at' hbx, below_dN (below_alloc2 w2 (.cells #[] 2) (.cells #[] 2)) 1⟩
      | exact ⟨BWC.at' hbx, BWC⟩
      | exact ⟨BWB.at' hbx, BWB⟩
      | exact ⟨BWA.at' hbx, BWA⟩
      | exact ⟨Below.at' (Below.alloc (by first | assumption | exact And.right (by assumption)) (Below.size (by first | assumption | exact And.right (by assumption))) _) hbx, Below.alloc (by first | assumption | exact And.right (by assumption)) (Below.size (by first | assumption | exact And.right (by assumption))) _⟩)
    (first
      | (go_at_call 39; refine (l8Cliques_any g HOK.out (g.length + 1) [] (List.range g.length) [] _ _ _ _ T1.out T2.out T3.out T4.out T4.out _ (HG2.out.below (by first | assumption | exact And.right (by assumption))) (nums_nilC _ _ _) (HN.out.below (by first | exact Below.refl _ _ | exact below_alloc _ _ | exact below_alloc2 _ _ _)) (nums_nilC _ _ _)).mono ?_; rintro e w8 ⟨rv, rfl, hs8, hb8⟩; have BWC : Below w2.heap.size w2 w8 := Below.trans (by first | assumption | exact And.right (by assumption)) (hb8.mono (Below.size (by first | assumption | exact And.right (by assumption)))); have HS8 : Hid (SG w8 w2.heap.size (.agg #[rv]) ((clsP g.length (adG g)).map natInts)) := Lib.hid (sg_baseC hs8 (Below.size (by first | assumption | exact And.right (by assumption)))); clear hs8 hb8)
      | (go_at_call 40; refine (l1All_any _ g.length rfl T5.out _).mono ?_; rintro e wb ⟨av, rfl, hob, hbb⟩; obtain ⟨ap, ac, rfl⟩ := owns_shapeT hob; have BWB : Below w2.heap.size w2 wb := Below.trans (by first | assumption | exact And.right (by assumption)) (hbb.mono (Below.size (by first | assumption | exact And.right (by assumption)))); have HN := Lib.hid (Nums.of_owns (xs := natInts (List.range g.length)) hob (by rw [natInts_length, List.length_range]) (by have := T5.out; omega)); clear hob hbb)
      | (go_at_call 41; refine (l1Size_any _ g _ (HG2.out.below (by first | assumption | exact And.right (by assumption)))).mono ?_; rintro e wa ⟨rfl, hba⟩; have BWA : Below w2.heap.size w2 wa := Below.trans (by first | assumption | exact And.right (by assumption)) (hba.mono (Below.size (by first | assumption | exact And.right (by assumption)))); clear hba))
  all_goals go_wp2
  all_goals go_ret
  all_goals exact ⟨_, _, rfl, .inl ⟨HOK.out, rfl⟩, sg_baseC HS8.out (by omega), cls_len HOK.out, cls_row HOK.out, HB2.out.trans (BWC.mono (by omega))⟩

end Go.Proofs.YtdkmnmnncccgaaaDoor
