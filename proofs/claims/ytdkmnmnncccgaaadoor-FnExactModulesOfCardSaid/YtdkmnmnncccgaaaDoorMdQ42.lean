/- Walk: masks as rows of numbers. -/
import Derived.Test.YtdkmnmnncccgaaaDoorMdQ17
import Derived.Test.YtdkmnmnncccgaaaDoorMdQ33
import Derived.Test.YtdkmnmnncccgaaaDoorMdQ36
import Derived.Test.YtdkmnmnncccgaaaDoorMdQ37
import Derived.Test.YtdkmnmnncccgaaaDoorMdQ41
namespace Go.Proofs.YtdkmnmnncccgaaaDoor
open Go.RowKit

theorem ty_rows64 : SlTy Tryd.prog 22 26 (.slice none 0 0) 1 24 := ⟨Tryd.underlying22, by kernel_rfl, rfl, by decide, by decide⟩

set_option maxRecDepth 100000 in
set_option maxHeartbeats 4000000 in
theorem results_any (x : Value) (a : List Nat) (ha : ∀ s ∈ a, s < 4294967296) (hal : a.length ≤ 100000) (w : World) (hx : Sl w 50 x a.length (a.map u32v)) (hT : Tab w) :
    Calls Tryd.prog 37 #[x] w fun e w' => ∃ u, e = .returned u ∧ DG w' w.heap.size (.agg #[u]) (rowsOf a) ∧ Below w.heap.size w w' := by
  obtain ⟨p, c, rfl, _⟩ := id hx
  have HX := Lib.hid hx
  have HT := Lib.hid hT
  clear hx hT
  go_enter Tryd.func37, Tryd.ntmps37
  go_wp2
  go_loopw [3, 9] (fun ov i wr => ∃ (k : Nat) (vals : List Value), k ≤ a.length ∧ i = .int .i64 k ∧ Below w.heap.size w wr ∧ wr.ownsRow w.heap.size 26 1 ov k vals ∧ vals.length = k ∧ Dis wr w.heap.size k vals (rowsOf a))
    (fun _ i _ => a.length - (intOf i).toNat)
  case atStart => exact ⟨0, [], Nat.zero_le _, rfl, below_alloc _ _, ownsRow_empty _ _ _, rfl, ⟨fun j hj => by omega, fun i j hi => by omega⟩⟩
  case round =>
    obtain ⟨k, vals, hk, rfl, hbel, hown, hvl, hrows⟩ := hrel
    have Hvl := Lib.hid hvl
    have Hrows := Lib.hid hrows
    have Hown := Lib.hid hown
    clear hvl hrows
    have hsz := hbel.size
    by_cases hlt : k < a.length
    · obtain ⟨ab, ao, rfl, hca⟩ := nets_cell (HX.out.below hbel) hlt
      have hs16 := ha _ (List.getElem_mem hlt)
      have HTr := Lib.hid (HT.out.keep hbel)
      have Hrow := Lib.hid (row_rowsOf hlt)
      clear hown
      go_wp2_with (first
        | (go_at_call 34; refine (numbers_any _ a[k] rfl hs16 _ HTr.out).mono ?_; rintro e w5 ⟨rv, rfl, hown5, hb5⟩; obtain ⟨rvp, rvc, hrv⟩ : ∃ p c, rv = .slice p (bitsOf a[k]).length c := (by rcases hown5.2 with ⟨rfl, h0⟩ | ⟨b, c, _, rfl, _⟩; exact ⟨none, 0, by rw [h0]⟩; exact ⟨_, _, rfl⟩); subst hrv; have hownc := ownsRow_below Hown.out hb5; have hs5 := hb5.size)
        | (at_builtin; refine wpList_app1s ty_rows64 rfl rfl rfl hownc rfl rfl (by omega) (by omega) ?_; intro b7 c8 w7 hown7 hg7 _))
      have hd : Dis w5 w.heap.size k vals (rowsOf a) := ⟨fun j hj => ownsRow_below (Hrows.out.rows j hj) hb5, Hrows.out.dis⟩
      have Hd := Lib.hid hd
      clear hd
      go_roundw
      case rel =>
        refine ⟨k + 1, _, by omega, by go_num, below_grown (hbel.trans (hb5.mono hbel.size)) hownc hg7 (Nat.le_refl _) (by omega), hown7, by simp [Hvl.out], ?_⟩
        refine Hd.out.snoc Hvl.out (fun base size n v xs h => ownsRow_other h hownc hg7 (by decide)) (B := wr.heap.size) (by omega) (fun j hj b hb => ((Hrows.out.rows j hj).lt b hb).2) ?_
        rw [Hrow.out, natInts_length]
        exact hown5
      case measure => simp [intOf]; omega
    · obtain rfl : k = a.length := by omega
      have HO := Lib.hid hown
      clear hown
      go_wp2
      go_ret
      exact ⟨_, rfl, ⟨_, vals, rfl, by rw [rowsOf_length]; exact Hvl.out, by rw [rowsOf_length]; exact HO.out, by rw [rowsOf_length]; exact Hrows.out⟩, hbel⟩

end Go.Proofs.YtdkmnmnncccgaaaDoor

/- Walks: modulesOf, ModulesOf of the program. -/
namespace Go.Proofs.YtdkmnmnncccgaaaDoor
open Go.RowKit Go.Sort

theorem tyM_vsets : SlTy Tryd.prog 46 50 (.int .u32 0) 1 4 := ⟨Tryd.underlying46, by kernel_rfl, rfl, by decide, by decide⟩
noncomputable def cmpG (x y : Fin 256) : Int := cmpS (bitsOf x.val) (bitsOf y.val)
theorem ltG {x y : Fin 256} : ltOf cmpG x y = true ↔ lessP (bitsOf x.val) (bitsOf y.val) := by
  unfold ltOf cmpG
  rw [decide_eq_true_iff, cmpS_lt]
theorem ltG_no {x y : Fin 256} : ltOf cmpG x y = false ↔ ¬ lessP (bitsOf x.val) (bitsOf y.val) := by
  rw [← ltG]
  simp
theorem swoG : SWO (ltOf cmpG) where
  irrefl x := ltG_no.2 (lessP_irrefl _)
  trans x y z h1 h2 := ltG.2 (lessP_trans (ltG.1 h1) (ltG.1 h2))
  ntrans x y z h1 h2 := by
    rw [ltG_no] at *
    intro h
    by_cases hyx : lessP (bitsOf y.val) (bitsOf x.val)
    · exact h2 (lessP_trans hyx h)
    · rw [lessP_tri h1 hyx] at h
      exact h2 h
theorem totG (x y : Fin 256) (h1 : ltOf cmpG x y = false) (h2 : ltOf cmpG y x = false) : x = y := by
  have e := lessP_tri (ltG_no.1 h1) (ltG_no.1 h2)
  have := congrArg (fun l => mask (natInts l)) e
  simp only [mask_bitsOf (show x.val < 65536 by have := x.isLt; omega), mask_bitsOf (show y.val < 65536 by have := y.isLt; omega)] at this
  exact Fin.ext this
theorem cmpOkGS : CmpOkG 62 cmpG := fun x y W hT => bySize_any x.val y.val x.isLt y.isLt W hT

/-- The sets, sorted, as lists. -/
noncomputable def srtG (l : List (Fin 256)) : List (List Nat) := (l.mergeSort fun x y => !ltOf cmpG y x).map fun x => bitsOf x.val
theorem srtG_on {P : Nat → Prop} {k : Nat} (hk : k ≤ 256) {l : List (Fin 256)} (hnd : l.Nodup) (hm : ∀ x : Fin 256, x ∈ l ↔ 1 ≤ x.val ∧ x.val < k ∧ P x.val) : MdOn P k (srtG l) := by
  have hp : (l.mergeSort fun x y => !ltOf cmpG y x).Perm l := List.mergeSort_perm _ _
  have hinj : ∀ x y : Fin 256, bitsOf x.val = bitsOf y.val → x = y := fun x y e => by
    have := congrArg (fun l => mask (natInts l)) e
    simp only [mask_bitsOf (show x.val < 65536 by have := x.isLt; omega), mask_bitsOf (show y.val < 65536 by have := y.isLt; omega)] at this
    exact Fin.ext this
  have hsort : (l.mergeSort fun x y => !ltOf cmpG y x).Pairwise fun x y => (!ltOf cmpG y x) = true := List.pairwise_mergeSort (fun x y z h1 h2 => by
      simp only [Bool.not_eq_true'] at *
      exact swoG.ntrans z y x h2 h1) (fun x y => by
      by_cases h : ltOf cmpG x y = true
      · have : ltOf cmpG y x = false := ltG_no.2 fun k => lessP_irrefl _ (lessP_trans (ltG.1 h) k)
        simp [this]
      · simp [h]) l
  refine mdOn_sorted (by omega) ?_ ?_ fun x => ?_
  · unfold srtG
    have : (l.mergeSort fun x y => !ltOf cmpG y x).Nodup := hp.symm.nodup hnd
    unfold List.Nodup at *
    rw [List.pairwise_map]
    exact this.imp fun h e => h (hinj _ _ e)
  · unfold srtG
    rw [List.pairwise_map]
    exact hsort.imp fun h => ltG_no.1 (by simpa using h)
  · unfold srtG
    rw [List.mem_map]
    constructor
    · rintro ⟨y, hy, rfl⟩
      obtain ⟨a, b, c⟩ := (hm y).1 (hp.mem_iff.1 hy)
      exact ⟨y.val, a, b, c, rfl⟩
    · rintro ⟨s, a, b, c, rfl⟩
      exact ⟨⟨s, by omega⟩, hp.mem_iff.2 ((hm _).2 ⟨a, b, c⟩), rfl⟩

end Go.Proofs.YtdkmnmnncccgaaaDoor
