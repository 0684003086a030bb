/- Walks: cliquesOf and CliquesOf of the program. -/
import Derived.Test.YtdkmnmnncccgaaaDoorClA
import Derived.Test.YtdkmnmnncccgaaaDoorCmpB
import Derived.Test.YtdkmnmnncccgaaaDoorSortF
import Derived.Test.YtdkmnmnncccgaaaDoorResults
import Derived.Test.YtdkmnmnncccgaaaDoorGraphOkI
namespace Go.Proofs.YtdkmnmnncccgaaaDoor
open Go.RowKit Go.Sort

noncomputable def cmpF (x y : Fin 65536) : Int := cmpL (bitsOf x.val) (bitsOf y.val)
theorem ltF {x y : Fin 65536} : ltOf cmpF x y = true ↔ lexL (bitsOf x.val) (bitsOf y.val) := by
  unfold ltOf cmpF
  rw [decide_eq_true_iff, cmpL_lt]
theorem ltF_no {x y : Fin 65536} : ltOf cmpF x y = false ↔ ¬ lexL (bitsOf x.val) (bitsOf y.val) := by
  rw [← ltF]
  simp
theorem swoF : SWO (ltOf cmpF) where
  irrefl x := ltF_no.2 (lexL_irrefl _)
  trans x y z h1 h2 := ltF.2 (lexL_trans (ltF.1 h1) (ltF.1 h2))
  ntrans x y z h1 h2 := by
    rw [ltF_no] at *
    intro h
    by_cases hyx : lexL (bitsOf y.val) (bitsOf x.val)
    · exact h2 (lexL_trans hyx h)
    · rw [lexL_tri _ _ h1 hyx] at h
      exact h2 h
theorem totF (x y : Fin 65536) (h1 : ltOf cmpF x y = false) (h2 : ltOf cmpF y x = false) : x = y := by
  have e := lexL_tri _ _ (ltF_no.1 h1) (ltF_no.1 h2)
  have := congrArg (fun l => mask (natInts l)) e
  simp only [mask_bitsOf x.isLt, mask_bitsOf y.isLt] at this
  exact Fin.ext this
theorem cmpOkF : CmpOk 68 cmpF := fun x y W hT =>
  compareSets_any x.val y.val (by have := x.isLt; omega) (by have := y.isLt; omega) W hT
def toF (L : List (List Nat)) : List (Fin 65536) := L.map fun l => ⟨mask (natInts l) % 65536, Nat.mod_lt _ (by decide)⟩
theorem toF_enc {L : List (List Nat)} (h : ∀ l ∈ L, mask (natInts l) < 65536) : (toF L).map encF = mskV L := by
  unfold toF mskV mskC
  rw [List.map_map, List.map_map]
  refine List.map_congr_left fun l hl => ?_
  simp only [Function.comp, encF, u32v, Nat.mod_eq_of_lt (h l hl)]
theorem toF_sort {L : List (List Nat)} (h : ∀ l ∈ L, l.Pairwise (· < ·) ∧ ∀ y ∈ l, y < 16) (hs : L.Pairwise lexL) : (toF L).mergeSort (fun x y => !ltOf cmpF y x) = toF L := by
  refine List.mergeSort_of_pairwise ?_
  unfold toF
  rw [List.pairwise_map]
  refine List.Pairwise.imp_of_mem (fun {a b} ha hb hab => ?_) hs
  have ea : bitsOf (mask (natInts a) % 65536) = a := by rw [Nat.mod_eq_of_lt (mask_nat_lt16 (h a ha).2)]; exact bitsOf_maskN (h a ha).1 (h a ha).2
  have eb : bitsOf (mask (natInts b) % 65536) = b := by rw [Nat.mod_eq_of_lt (mask_nat_lt16 (h b hb).2)]; exact bitsOf_maskN (h b hb).1 (h b hb).2
  have hn : ltOf cmpF ⟨mask (natInts b) % 65536, Nat.mod_lt _ (by decide)⟩ ⟨mask (natInts a) % 65536, Nat.mod_lt _ (by decide)⟩ = false := by
    rw [ltF_no]
    show ¬ lexL (bitsOf (mask (natInts b) % 65536)) (bitsOf (mask (natInts a) % 65536))
    rw [ea, eb]
    exact fun k => lexL_irrefl _ (lexL_trans hab k)
  simp [hn]
theorem bits_allC {n : Nat} (hn : n ≤ 16) : 2 ^ n - 1 < 65536 ∧ List.range n = bitsOf (2 ^ n - 1) := by
  have h16 : 2 ^ n - 1 < 65536 := by
    have : 2 ^ n ≤ 2 ^ 16 := Nat.pow_le_pow_right (by decide) hn
    have h2 : (2 : Nat) ^ 16 = 65536 := by decide
    have : 0 < 2 ^ n := Nat.two_pow_pos n
    omega
  refine ⟨h16, rising_ext _ _ List.pairwise_lt_range (bitsOf_rising _) fun i => ?_⟩
  rw [mem_bitsOf' (by omega), testBit_firstOf]
  simp

set_option maxRecDepth 100000 in
set_option maxHeartbeats 2000000 in
theorem cliquesOf_any (g : List (List Int)) (xp : Option Addr) (xc : Nat) (w : World) (hB : ClBase w g xp xc) :
    Calls Tryd.prog 43 #[.slice xp g.length xc] w fun e w' => ∃ v, e = .returned v ∧ w'.ownsRow w.heap.size 50 1 v (clsP g.length (adG g)).length (mskV (clsP g.length (adG g))) ∧ Below w.heap.size w w' := by
  have HB := Lib.hid hB
  have h16 := hB.ok.le
  obtain ⟨hM16, hMl⟩ := bits_allC h16
  obtain ⟨M, hM⟩ : ∃ M, M = 2 ^ g.length - 1 := ⟨_, rfl⟩
  rw [← hM] at hM16 hMl
  have HM := Lib.hid hM
  have HMl := Lib.hid hMl
  have hin : Hid (∀ l ∈ clsP g.length (adG g), l.Pairwise (· < ·) ∧ ∀ y ∈ l, y < 16) := Lib.hid (fun l hl => ⟨(clsP_mem hl).1, fun y hy => by have := (clsP_mem hl).2 y hy; omega⟩)
  have hpl : Hid ((clsP g.length (adG g)).length ≤ 65536) := Lib.hid (Nat.le_trans (clsP_len _ _) (Nat.le_trans (Nat.pow_le_pow_right (by decide) h16) (by decide)))
  have G1 : Hid (Calls Tryd.prog 67 #[.slice xp g.length xc, .int .u32 0, .int .u32 (M : Int), .int .u32 0, .slice none 0 0] w fun e w' => ClR w (clsP g.length (adG g)) w (.slice none 0 0) e w') := Lib.hid (by
    have := growCliques_any g xp xc w HB.out (g.length + 1) [] (List.range g.length) [] 0 M 0 0 M 0 rfl rfl rfl (by decide) hM16 (by decide) (fun j => by simp) HMl.out (fun j hj => List.mem_range.1 hj) (fun j => by simp) (by rw [List.length_range]; omega) w (.slice none 0 0) [] (Below.refl _ _) (World.ownsRow_nil _ _ _ _) (by
      rw [List.length_range]
      have := Nat.pow_le_pow_right (show 0 < 2 by decide) h16
      simp
      omega)
    simpa [clsP] using this)
  have heg : Hid (∀ args w, (callFunc 68 args).run Tryd.prog w = .ok (.enter 68 args) w) := Lib.hid (enters_of Tryd.func68 (by kernel_rfl) rfl)
  have htp := Lib.hid HB.out.tab.pos
  clear hB hM16 hMl hM
  go_enter Tryd.func43, Tryd.ntmps43
  go_wp2_with (first
    | (go_at_call 61; refine (sortF_any 68 heg.out cmpF swoF totF cmpOkF _ (toF (clsP g.length (adG g))) w.heap.size _ HO3.out (HB.out.tab.keep HB3.out) htp.out (by rw [show (toF (clsP g.length (adG g))).length = (clsP g.length (adG g)).length by simp [toF]]; have := hpl.out; omega)).mono ?_; rintro e w4 ⟨rfl, ho4, hg4⟩; have HO4 := Lib.hid ho4; clear ho4)
    | (go_at_call 67; refine G1.out.mono ?_; rintro e w3 ⟨v3, rfl, ho3, hg3, _⟩; have HB3 : Hid (Below w.heap.size w w3) := Lib.hid (grown_below hg3); have HO3 : Hid (w3.ownsRow w.heap.size 50 1 v3 (toF (clsP g.length (adG g))).length ((toF (clsP g.length (adG g))).map encF)) := Lib.hid (by rw [toF_enc fun l hl => mask_nat_lt16 (hin.out l hl).2, show (toF (clsP g.length (adG g))).length = (clsP g.length (adG g)).length by simp [toF]]; exact ho3); clear ho3 hg3)
    | (go_at_call 59; refine (all_any _ _ _ (by omega) _).mono ?_; rintro e w2 ⟨he2, hw2⟩; rw [← HM.out] at he2; subst he2; subst hw2))
  go_ret
  refine ⟨_, rfl, ?_, HB3.out.grown hg4 HB3.out.size (fun k hk => (HO3.out.lt k hk).1)⟩
  have h4 := HO4.out
  rw [toF_sort hin.out (clsP_sorted _ _), toF_enc fun l hl => mask_nat_lt16 (hin.out l hl).2, show (toF (clsP g.length (adG g))).length = (clsP g.length (adG g)).length by simp [toF]] at h4
  exact h4

end Go.Proofs.YtdkmnmnncccgaaaDoor
