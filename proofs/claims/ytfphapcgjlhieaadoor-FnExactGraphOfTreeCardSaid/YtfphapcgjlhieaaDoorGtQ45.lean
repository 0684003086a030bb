/- Walk: the law FnExactGraphOfTree: a tree. -/
import Derived.Test.YtfphapcgjlhieaaDoorGtQ7
import Derived.Test.YtfphapcgjlhieaaDoorGtQ14
import Derived.Test.YtfphapcgjlhieaaDoorGtQ18
import Derived.Test.YtfphapcgjlhieaaDoorGtQ42
import Derived.Test.YtfphapcgjlhieaaDoorGtQ44
import Derived.Test.YtfphapcgjlhieaaDoorGtQ6
import Derived.Test.YtfphapcgjlhieaaDoorGtQ2
import Derived.Test.YtfphapcgjlhieaaDoorCards
import Derived.Test.YtfphapcgjlhieaaDoorTie
import Derived.ProofKit
import Derived.OpenShut
import Derived.Below
import Derived.ChangeSlices
import Derived.ChangeSame
import Derived.WideKeyArgs
import Derived.Deep.DeepHandedRow
import Derived.Deep.Matrix
import Derived.Lib.LaidTab
import Derived.Test.YtfphapcgjlhieaaDoorGtQ17
import Derived.Deep.Slices
namespace Go.Proofs.YtfphapcgjlhieaaDoor
open Go.RowKit

set_option maxRecDepth 100000 in
set_option maxHeartbeats 4000000 in
theorem lawGraphOfTree_any (v : Value) (l : List Pt) (w : World) (hg : ArgPs w v l) (hT : Tab w) :
    Calls Tryd.prog 3 #[v] w fun e w' => e = .returned (.bool true) ∧ Below w.heap.size w w' := by
  have hg0 := hg
  obtain ⟨lp, lc, lus, rfl, hl63, _⟩ := hg
  have HL := Lib.hid hg0
  have HT := Lib.hid hT
  clear hg0 hT
  go_enter Tryd.func3, Tryd.ntmps3
  go_upto_region 3 with (go_at_call 7; refine (szPartS_any _ l 1048576 (by decide) (by decide) _ HL.out).mono ?_; rintro e w2 ⟨⟨z, rfl, hz1, hz2, hz3⟩, hb2⟩)
  have HB2 := Lib.hid hb2
  clear hb2
  by_cases hz : z < 0
  · clear hz3
    go_wp2
    go_ret
    exact ⟨rfl, HB2.out⟩
  have HSP := Lib.hid (hz3 (by omega))
  have hlp := HSP.out.1
  clear hz3
  go_upto_region 8 with (first
    | (go_at_call 10; refine (implGraphOfTree_any _ l _ (ho5.trs HSP.out) (HT.out.keep HB5.out)).mono ?_; rintro e w6 ⟨x1, gx, okx, rfl, hS6, hd6, hgl6, hrl6, hb6⟩; have HS6 := Lib.hid hS6; have HD6 := Lib.hid (DGh.of hd6); obtain ⟨x1p, x1c, rfl⟩ := hd6.shape; have HR6 := Lib.hid hrl6; clear hS6 hd6 hrl6)
    | (go_at_call 9; refine (toPartS_any _ l HSP.out _ (HL.out.below HB4.out)).mono ?_; rintro e w5 ⟨x0, rfl, ho5, hb5⟩; obtain ⟨x0p, x0c, rfl⟩ := ho5.shape; have HX5 := Lib.hid (InPs.of_own ho5); have HB5 := Lib.hid (HB4.out.trans (hb5.mono HB4.out.size)))
    | (go_at_call 8; refine (specGraphOfTree_any _ l _ (ho3.trs HSP.out)).mono ?_; rintro e w4 ⟨y1, gy, oky, rfl, hS4, hy4, hgl4, hrl4, hb4⟩; have HS4 := Lib.hid hS4; obtain ⟨y1p, y1c, rfl⟩ := hy4.shape; have HY4 := Lib.hid (hy4.below (below_alloc w4 (.cells #[.slice y1p gy.length y1c] 26))); have B4 := Lib.hid (Box.new w4 (.slice y1p gy.length y1c) 26); have HB4 := Lib.hid (((HB2.out.trans (hb3.mono HB2.out.size)).trans (hb4.mono (Nat.le_trans HB2.out.size hb3.size))).alloc (Nat.le_trans (Nat.le_trans HB2.out.size hb3.size) hb4.size) (.cells #[.slice y1p gy.length y1c] 26)); clear hS4 hy4)
    | (go_at_call 9; refine (toPartS_any _ l HSP.out _ (HL.out.below HB2.out)).mono ?_; rintro e w3 ⟨y0, rfl, ho3, hb3⟩; obtain ⟨y0p, y0c, rfl⟩ := ho3.shape))
  obtain ⟨hxy1, hxy2⟩ := gtS_det HS6.out HS4.out
  subst hxy1
  subst hxy2
  obtain ⟨W4, hW4⟩ : ∃ W4, W4 = w4.alloc (.cells #[.slice y1p gx.length y1c] 26) := ⟨_, rfl⟩
  have z4 : W4.heap.size = w4.heap.size + 1 := by rw [hW4, size_alloc]
  rw [← hW4] at HY4 B4 HB4 hb5 HX5
  have s2 := HB2.out.size
  have s3 := hb3.size
  have s4 := hb4.size
  have s5 := hb5.size
  have s6 := hb6.size
  have hbb : (okx != okx) = false := by simp
  have YB6 := Lib.hid ((hb5.trans (hb6.mono s5)).alloc (by omega) (.cells #[.slice x1p gx.length x1c] 26))
  have B7 := Lib.hid (Box.new w6 (.slice x1p gx.length x1c) 26)
  have X6 := Lib.hid ((HX5.out.below hb6).below (below_alloc w6 (.cells #[.slice x1p gx.length x1c] 26)))
  have D6 := Lib.hid (HD6.out.below (below_alloc w6 (.cells #[.slice x1p gx.length x1c] 26)))
  have hr1000 : ∀ j, (row gx j).length ≤ 1000 := fun j => by have := HR6.out j; omega
  have HR := Lib.hid hr1000
  have q4 := (B4.out.below YB6.out (by omega)).cell
  clear hb3 hb4 hb5 hb6 ho3 ho5 hrl4 hr1000
  go_upto_region 10 with (go_at_call 11; refine (eqGraph_b _ _ gx _ (D6.out.dg.gr (by omega) (fun j hj => by have := HR.out j; omega)) ((HY4.out.below YB6.out).gr (by omega))).mono ?_; rintro e w8 ⟨rfl, hb8⟩)
  have YB8 := Lib.hid (YB6.out.trans (hb8.mono YB6.out.size))
  have B78 := Lib.hid (B7.out.keep hb8)
  have X8 := Lib.hid (X6.out.below hb8)
  have D8 := Lib.hid (D6.out.below hb8)
  have s8 := hb8.size
  rw [size_alloc] at s8
  clear hb8 q4
  go_upto_region 12 with (first
    | (go_at_call 12; refine (eqPartS_yes _ _ l _ ((InPs.below X8.out hbi).own.trs HSP.out) (hoi.trs HSP.out)).mono ?_; rintro e wj ⟨rfl, hbj⟩)
    | (go_at_call 9; refine (toPartS_any _ l HSP.out _ (HL.out.below (HB4.out.trans (YB8.out.mono HB4.out.size)))).mono ?_; rintro e wi ⟨zi, rfl, hoi, hbi⟩; obtain ⟨zip, zic, rfl⟩ := hoi.shape))
  have hbij := hbi.trans (hbj.mono hbi.size)
  have sj := hbij.size
  have YBc := Lib.hid (YB8.out.trans (hbij.mono YB8.out.size))
  have Xc := Lib.hid (X8.out.below hbij)
  have Dc := Lib.hid (D8.out.below hbij)
  have B7c := Lib.hid (B78.out.keep hbij)
  clear hbi hbj hbij hoi
  go_upto_region 14 with (go_at_call 13; refine (markPartS_k _ l W4.heap.size w5.heap.size 1 HSP.out (by decide) 1 (by decide) (by decide) _ Xc.out).mono ?_; rintro e w10 ⟨⟨z2, rfl, hz20, hz21⟩, hap⟩)
  have sp := hap.size
  have YBp := Lib.hid (YBc.out.trans (hap.below (by omega)))
  have Dp := Lib.hid (Dc.out.apart hap (by omega))
  have B7p := Lib.hid (B7c.out.apart hap (by omega))
  have q7 := B7p.out.cell
  have q4 := (B4.out.below YBp.out (by omega)).cell
  have z2n : ¬ z2 < 0 := by omega
  clear hap
  go_upto_region 17 with (go_at_call 11; refine (eqGraph_b _ _ gx _ (Dp.out.dg.gr (by omega) (fun j hj => by have := HR.out j; omega)) ((HY4.out.below YBp.out).gr (by omega))).mono ?_; rintro e w11 ⟨rfl, hb11⟩)
  have s11 := hb11.size
  have YB11 := Lib.hid (YBp.out.trans (hb11.mono YBp.out.size))
  have D11 := Lib.hid (Dp.out.below hb11)
  have B711 := Lib.hid (B7p.out.keep hb11)
  have q711 := B711.out.cell
  clear hb11 q7 q4
  go_upto_region 18 with (go_at_call 14; refine (markGraph_x _ gx _ _ 1 (by omega) HR.out (by decide) (by decide) _ D11.out).mono ?_; rintro e w12 ⟨rfl, hd12, hap12⟩)
  have s12 := hap12.size
  have YB12 := Lib.hid (YB11.out.trans ((hap12.below (by omega)).mono (by omega)))
  have B712 := Lib.hid (B711.out.apart hap12 (Nat.le_refl _))
  have q712 := B712.out.cell
  have G12 := Lib.hid (hd12.dg.gr (by rw [markG_length]; omega) (fun j hj => by rw [markG_length] at hj; rw [row_markG hj, marks_length]; have := HR.out j; omega))
  have HB12 := Lib.hid (HB4.out.trans (YB12.out.mono HB4.out.size))
  have q412 := (B4.out.below YB12.out (by omega)).cell
  have hn1 : ¬ (1 + (preL gx gx.length : Int)) < 0 := by omega
  clear hd12 hap12 q711
  go_wp2_with (first
    | (go_at_call 15; refine (heldGraph_x _ gx 1 (by omega) HR.out (by decide) (by decide) _ (G12.out.below (hb16 : Below _ w12 w16))).mono ?_; rintro e w17 ⟨rfl, hb17⟩; have hbz := hb16.trans (hb17.mono hb16.size))
    | (go_at_call 11; refine (eqGraph_b _ _ gx _ ((hd15.below (below_alloc w15 (.cells #[.slice x2p gx.length x2c] 26))).gr (by omega) (fun j hj => by have := HR.out j; omega)) ((HY4.out.below (YB12.out.trans (hb15a.mono YB12.out.size))).gr (by omega))).mono ?_; rintro e w16x ⟨rfl, hb16x⟩; obtain ⟨w16, hw16⟩ : ∃ w16, w16 = w16x := ⟨_, rfl⟩; subst hw16; have hb16 : Below w12.heap.size w12 w16 := hb15a.trans (hb16x.mono hb15a.size); have q716 := hb16.at' q712)
    | (go_at_call 10; refine (implGraphOfTree_any _ l _ (ho14.trs HSP.out) ((HT.out.keep HB13.out).keep hb14)).mono ?_; rintro e w15 ⟨x2, gx3, okx3, rfl, hS15, hd15, _, _, hb15⟩; obtain ⟨hd1, hd2⟩ := gtS_det hS15 HS6.out; rw [hd1] at hd15; obtain ⟨x2p, x2c, rfl⟩ := hd15.shape; rw [hd2]; have hb15b : Below w12.heap.size w12 w15 := (hb13.trans (hb14.mono hb13.size)).trans (hb15.mono (Nat.le_trans hb13.size hb14.size)); have hb15a : Below w12.heap.size w12 (w15.alloc (.cells #[.slice x2p gx.length x2c] 26)) := hb15b.alloc hb15b.size _; have q415 := fun o => (below_alloc w15 o).at' (hb15b.at' q412); clear hS15 hd1 hd2)
    | (go_at_call 9; refine (toPartS_any _ l HSP.out _ (HL.out.below HB13.out)).mono ?_; rintro e w14 ⟨y14, rfl, ho14, hb14⟩; obtain ⟨y14p, y14c, rfl⟩ := ho14.shape)
    | (go_at_call 15; refine (heldGraph_x _ gx 1 (by omega) HR.out (by decide) (by decide) _ G12.out).mono ?_; rintro e w13 ⟨rfl, hb13⟩; have HB13 := Lib.hid (HB12.out.trans (hb13.mono HB12.out.size))))
  go_ret
  exact ⟨rfl, HB12.out.trans (hbz.mono HB12.out.size)⟩

end Go.Proofs.YtfphapcgjlhieaaDoor

/- The argument of a law over one graph, opened; the table; the row's last step. -/
namespace Go.Proofs.YtfphapcgjlhieaaDoor
open Go.ChangeShapes Go.WideShapes Go.ChangeAt Go.RowKit Go.Deep

theorem own : ownKnob Tryd.prog.godebug = none := by kernel_rfl
theorem laidOut : laidOutB Tryd.prog = true := by kernel_rfl
theorem gTab : Tryd.prog.globalNamed "math/bits.deBruijn32tab" = some 0 := by kernel_rfl
theorem gTabType : (Tryd.prog.globals[0]?).map (·.type) = some 151 := by kernel_rfl
theorem cellsTab : Tryd.prog.cellsOf 151 = 32 := by kernel_rfl
theorem cellsByte : Tryd.prog.cellsOf 5 = 1 := by kernel_rfl
theorem cellsGraph : Tryd.prog.cellsOf 36 = 1 := by kernel_rfl
theorem cellsRows : Tryd.prog.cellsOf 24 = 1 := by kernel_rfl
theorem cellsRow : Tryd.prog.cellsOf 52 = 1 := by kernel_rfl
theorem cellsInt : Tryd.prog.cellsOf 2 = 1 := by kernel_rfl
theorem maxLen_eq : maxLen = 9223372036854775807 := rfl

set_option maxRecDepth 100000 in
theorem tab_of_laid {W : World} {rest : List (String × DataW Unit)} (h : laidMet Tryd.prog (("math/bits.deBruijn32tab", Rows.laid_math_bits_deBruijn32tab) :: rest) W) : Tab W := by
  have t : Lib.TabIs Tryd.prog W "math/bits.deBruijn32tab" .u8 (Lib.deBruijn32tab.map fun (n : Nat) => (n : Int)) :=
    Lib.tabIs_of_head (rest := rest) gTab gTabType Tryd.underlying151 Tryd.underlying5 cellsByte cellsTab h
  intro j hj
  rw [t.cell gTab j (by simpa using hj)]
  simp [List.getD, hj]

theorem spot_of {w : World} {a : Addr} {u : Value} (h : w.cell? a = some u) : a.spot = none := by
  unfold World.cell? at h
  split at h
  · cases e : a.spot with
    | none => rfl
    | some x => simp [e] at h
  · cases h
theorem cell_add {w : World} {a : Addr} {r : Nat} {u : Value} (h : w.cell? (a.add r) = some u) (hs : a.spot = none) : w.cell? ⟨a.block, a.off + r, none⟩ = some u := by
  obtain ⟨b, o, s⟩ := a
  simp only at hs
  subst hs
  unfold Addr.add at h
  split at h
  · rename_i e; subst e; exact h
  · exact h

variable {H : Type} {enc : TypeId × Value → H}

theorem open_row {w : World} {A : Option Addr} {L C : Nat} {zs : List Int} (hLC : L ≤ C) (hC : C ≤ maxLen) (hz : zs.length = C) (hn : A = none → C = 0)
    (hc : ∀ a', A = some a' → 0 ≤ a'.block ∧ ∀ c, c < C → w.cell? (a'.add c) = some (.int .i64 (zs.getD c 0))) : ArgN w (.slice A L C) (zs.take L) := by
  have hl : (zs.take L).length = L := by rw [List.length_take]; omega
  rw [maxLen_eq] at hC
  refine ⟨A, C, by rw [hl], by omega, ?_⟩
  by_cases h0 : L = 0
  · subst h0; exact .inl (by simp)
  · cases A with
    | none => have := hn rfl; omega
    | some a =>
      obtain ⟨_, hc⟩ := hc a rfl
      have hs := spot_of (show w.cell? a = some _ from hc 0 (by omega))
      refine .inr ⟨a.block, a.off, ?_, fun j u hu => ?_⟩
      · obtain ⟨b, o, s⟩ := a; simp only at hs; subst hs; rfl
      · have hj : j < L := by
          have := (List.getElem?_eq_some_iff.1 hu).1
          rw [List.length_map, hl] at this; exact this
        have h1 := cell_add (hc j (by omega)) hs
        rw [h1]
        rw [List.getElem?_map, List.getElem?_take, if_pos hj] at hu
        rw [← hu]
        simp [List.getD, List.getElem?_eq_getElem (show j < zs.length by omega)]

set_option maxRecDepth 100000 in
theorem open_graph {W : World} {sp : Nat → Bool} {held : Bool} {b0 : Nat} {v : Value} {d : DataW H} {p : List MemPlace} (hv : Value.okWide Tryd.prog W .any b0 36 v)
    (h : DataW.Trod enc Tryd.prog W 0 (fun _ => true) held 36 v d p) : ∃ g, ArgG W v g := by
  obtain ⟨cs, rfl, hsz⟩ := okWide_struct Tryd.underlying36 hv
  obtain ⟨fuel, hf⟩ := h
  obtain ⟨y0, n, _, _, h0⟩ := trod_struct1 Tryd.underlying36 hf
  rw [cellsGraph] at hsz
  obtain ⟨c0, rfl⟩ : ∃ c0, cs = #[c0] := by
    obtain ⟨l⟩ := cs
    match l, hsz with
    | [c0], _ => exact ⟨c0, rfl⟩
  have e : (((Value.agg #[c0]).cells.toList.drop 0).take (Tryd.prog.cellsOf 24)) = [c0] := by rw [cellsRows]; rfl
  rw [e] at h0
  rcases open_int_rows Tryd.underlying24 Tryd.underlying52 Tryd.underlying2 cellsRow cellsInt h0 with ⟨hc, _⟩ | ⟨a, len, cap, A, L, C, Z, hc, _, hl, hm, _, hr⟩
  · obtain rfl : c0 = .slice none 0 0 := by simpa using hc
    exact ⟨[], _, rfl, none, 0, [], rfl, by simp, rfl, .inl rfl, fun j hj => by simp at hj⟩
  · obtain rfl : c0 = .slice (some a) len cap := by simpa using hc
    rw [maxLen_eq] at hm
    refine ⟨(List.range len).map fun r => (Z r).take (L r), _, rfl, some a, cap, (List.range len).map fun r => .slice (A r) (L r) (C r), by simp, by simp; omega, by simp, ?_, fun j hj => ?_⟩
    · by_cases h0 : len = 0
      · subst h0; exact .inl rfl
      · have hs := spot_of (show W.cell? a = some _ from (hr 0 (by omega)).1)
        refine .inr ⟨a.block, a.off, ?_, fun j u hu => ?_⟩
        · obtain ⟨b, o, s⟩ := a; simp only at hs; subst hs; rfl
        · have hj : j < len := by
            have := (List.getElem?_eq_some_iff.1 hu).1
            simpa using this
          have h1 := cell_add (hr j (by omega)).1 hs
          rw [h1]
          rw [List.getElem?_map, List.getElem?_range hj] at hu
          exact hu
    · have hj : j < len := by simpa using hj
      obtain ⟨_, h1, h2, h3, _, h5, h6⟩ := hr j (by omega)
      have e1 : ((List.range len).map fun r => Value.slice (A r) (L r) (C r)).getD j undef = .slice (A j) (L j) (C j) := by simp [hj]
      have e2 : ((List.range len).map fun r => (Z r).take (L r)).getD j [] = (Z j).take (L j) := by simp [hj]
      rw [e1, e2]
      exact open_row h1 h2 h3 h5 h6

set_option maxRecDepth 100000 in
theorem open_nums {W : World} {sp : Nat → Bool} {held : Bool} {b0 : Nat} {v : Value} {d : DataW H} {p : List MemPlace} (hv : Value.okWide Tryd.prog W .any b0 52 v)
    (h : DataW.Trod enc Tryd.prog W 0 (fun _ => true) held 52 v d p) : ∃ xs, ArgN W v xs := by
  obtain ⟨a0, len, cap, rfl⟩ := okWide_slice Tryd.underlying52 hv
  obtain ⟨fuel, hf⟩ := h
  rcases open_ints Tryd.underlying52 Tryd.underlying2 cellsInt hf with ⟨hc, _⟩ | ⟨a, len', cap', zs, hc, _, hl, hm, hz, _, hcell, _⟩
  · obtain ⟨rfl, rfl, rfl⟩ : a0 = none ∧ len = 0 ∧ cap = 0 := by simpa [Value.cells] using hc
    exact ⟨[], none, 0, rfl, by simp, .inl rfl⟩
  · obtain ⟨rfl, rfl, rfl⟩ : a0 = some a ∧ len = len' ∧ cap = cap' := by simpa [Value.cells] using hc
    simp only [if_true] at hz
    exact ⟨_, open_row hl hm hz (fun e => by cases e) (fun a' e => by cases e; exact ⟨Nat.zero_le _, fun c hc => hcell c (by omega)⟩)⟩

theorem same_of_below {W W' : World} (hb : Below W.heap.size W W') {x : MemPlace} (hx : x.block < W.heap.size) : W.sameAt W' x := by
  cases x with
  | cell b off => exact hb.cell (p := ⟨b, off, none⟩) hx
  | map b => exact hb.block b hx

section
variable {P : Program}
theorem post_of_below {f : Func} {s : ChangeSpec} {apart fresh handsOn again : Bool} {W W' : World} {args : Array Value} {v : Value} {ds gs : List (DataW H)} {before pa pv : List MemPlace}
    (hW : DataW.Whole enc P f.params.toList s.vars apart W args.toList ds gs before)
    (hres : ∀ (b : Nat) (sp : Nat → Bool) (hd : Bool), DataW.TrodAll enc P W' b sp hd f.resultTypes.toList (v.resultList f.resultTypes.size) (s.fn H (ds ++ gs)).results [])
    (hargs : ∀ sp : Nat → Bool, (∀ p ∈ before, sp p.block = true) → DataW.TrodAll enc P W' 0 sp true f.params.toList args.toList (s.fn H (ds ++ gs)).args pa)
    (hvars : ∀ sp : Nat → Bool, (∀ p ∈ before, sp p.block = true) → DataW.TrodVars enc P W' sp s.vars (s.fn H (ds ++ gs)).vars pv)
    (hps : before = pa ++ pv) (hb : Below W.heap.size W W')
    (hok : ∀ (j : Nat) (t : TypeId) (r : Value), f.resultTypes[j]? = some t → (v.resultList f.resultTypes.size)[j]? = some r → Value.okWide P W' .any 0 t r) :
    s.post enc P f apart fresh handsOn again W args v W' := by
  have hlt : ∀ p ∈ before, p.block < W.heap.size := fun p hp => hW.lt p hp
  have hold : ∀ p ∈ before, (fun b => decide (b < W.heap.size)) p.block = true := fun p hp => by simpa using hlt p hp
  refine ⟨ds, gs, before, [], pa, pv, hW, hres _ _ _, hargs _ hold, hvars _ hold, World.keptBut_mono (fun p hp => ⟨hp, ?_⟩) (hb.frame (· ∈ before)), fun _ => ?_⟩
  · rw [hps, List.mem_append] at hp
    exact Or.inr hp
  · obtain ⟨_, _, _, _, _, hz, hn⟩ := hW
    refine ⟨hok, _, _, ([] ++ pa) ++ pv, ⟨[] ++ pa, pv, trodAll_append (hargs _ (fun _ _ => rfl)) (hres _ _ _), hvars _ (fun _ _ => rfl), rfl, ?_, ?_⟩, ?_⟩
    · intro b off hp
      have hin : MemPlace.cell b off ∈ before := by rw [hps]; simpa using hp
      rw [hb.frozen (hlt _ hin)]
      exact hz b off hin
    · intro ha
      have := hn ha
      rw [hps] at this
      simpa using this
    · intro p hp _
      rw [hps]
      simpa using hp
end

end Go.Proofs.YtfphapcgjlhieaaDoor

/- Frame: a tree (a slice of nodes) as an argument. -/
namespace Go.Proofs.YtfphapcgjlhieaaDoor
open Go.ChangeShapes Go.WideShapes Go.ChangeAt Go.RowKit Go.Deep
variable {H : Type} {enc : TypeId × Value → H}

theorem cellsPart : Tryd.prog.cellsOf 68 = 3 := by kernel_rfl
theorem cell_add2 {w : World} {a : Addr} {r : Nat} {u : Value} (h : w.cell? (a.add r) = some u) (hs : a.spot = none) : ∃ b o, a = ⟨b, o, none⟩ ∧ w.cell? ⟨b, o + r, none⟩ = some u := by
  obtain ⟨b, o, s⟩ := a
  simp only at hs
  subst hs
  exact ⟨b, o, rfl, cell_add h rfl⟩

set_option maxRecDepth 100000 in
theorem open_parts {W : World} {sp : Nat → Bool} {held : Bool} {b0 : Nat} {v : Value} {d : DataW H} {p : List MemPlace} (hv : Value.okWide Tryd.prog W .any b0 22 v)
    (h : DataW.Trod enc Tryd.prog W 0 (fun _ => true) held 22 v d p) : ∃ ts, ArgPs W v ts := by
  obtain ⟨a0, len0, cap0, rfl⟩ := okWide_slice Tryd.underlying22 hv
  obtain ⟨fuel, hf⟩ := h
  rcases open_slice Tryd.underlying22 hf with ⟨hc, _⟩ | ⟨a, len, cap, m, n, D, Pl, hc, _, hl, hm, hmm, _, hx⟩
  · obtain ⟨rfl, rfl, rfl⟩ : a0 = none ∧ len0 = 0 ∧ cap0 = 0 := by simpa [Value.cells] using hc
    exact ⟨[], none, 0, [], rfl, by simp, rfl, .inl rfl, fun j q hq => by simp at hq⟩
  · obtain ⟨e1, e2, e3⟩ : a0 = some a ∧ len0 = len ∧ cap0 = cap := by simpa [Value.cells] using hc
    subst e1
    have e2 := e2.symm
    have e3 := e3.symm
    subst e2
    subst e3
    rw [maxLen_eq] at hm
    simp only [if_true] at hmm
    subst hmm
    have each : ∀ i, i < len → ∃ q : Pt × Value, (∃ b o, a = ⟨b, o, none⟩ ∧ W.cell? ⟨b, o + i * 3, none⟩ = some (.int .i64 q.1.k) ∧ W.cell? ⟨b, o + i * 3 + 1, none⟩ = some (.int .i64 q.1.v) ∧ W.cell? ⟨b, o + i * 3 + 2, none⟩ = some q.2) ∧ ArgN W q.2 q.1.s := by
      intro i hi
      have hspot : a.spot = none := by
        obtain ⟨cs0, h1, _⟩ := hx 0 (by omega)
        rw [cellsPart] at h1
        obtain ⟨_, hlen, hcell⟩ := World.cells?_some h1
        have c0 := hcell 0 (by omega)
        rw [add_add] at c0
        rw [List.getElem?_eq_getElem (by omega)] at c0
        exact spot_of (show W.cell? a = some _ from c0)
      obtain ⟨cs', h1, h2⟩ := hx i (by omega)
      rw [cellsPart] at h1
      obtain ⟨_, hlen, hcell⟩ := World.cells?_some h1
      obtain ⟨xs, k, hk, hxy, _, hxl, hfld⟩ := DataW.trod_struct Tryd.underlying68 h2
      match xs, hxl, cs', hlen with
      | [y0, y1, y2], _, [v0, v1, v2], _ =>
        have g0 : DataW.trod enc Tryd.prog W 0 (fun _ => true) held k 2 (([v0, v1, v2].drop 0).take (Tryd.prog.cellsOf 2)) = some y0 := hfld 0 _ rfl
        have g1 : DataW.trod enc Tryd.prog W 0 (fun _ => true) held k 2 (([v0, v1, v2].drop 1).take (Tryd.prog.cellsOf 2)) = some y1 := hfld 1 _ rfl
        have g2 : DataW.trod enc Tryd.prog W 0 (fun _ => true) held k 52 (([v0, v1, v2].drop 2).take (Tryd.prog.cellsOf 52)) = some y2 := hfld 2 _ rfl
        rw [cellsInt] at g0 g1
        rw [cellsRow] at g2
        simp only [List.drop_zero, List.drop_succ_cons, List.take_succ_cons, List.take_zero, List.getElem?_cons_zero, List.getElem?_cons_succ] at g0 g1 g2
        obtain ⟨z0, hz0, _⟩ := DataW.trod_int Tryd.underlying2 g0
        obtain ⟨z1, hz1, _⟩ := DataW.trod_int Tryd.underlying2 g1
        obtain rfl : v0 = .int .i64 z0 := by simpa using hz0
        obtain rfl : v1 = .int .i64 z1 := by simpa using hz1
        have c0 := hcell 0 (by omega)
        have c1 := hcell 1 (by omega)
        have c2 := hcell 2 (by omega)
        rw [add_add] at c0 c1 c2
        simp only [List.getElem?_cons_zero, List.getElem?_cons_succ] at c0 c1 c2
        obtain ⟨b, o, rfl, d0⟩ := cell_add2 c0 hspot
        obtain ⟨b1, o1, e1, d1⟩ := cell_add2 c1 rfl
        obtain ⟨b2, o2, e2, d2⟩ := cell_add2 c2 rfl
        cases e1
        cases e2
        have harg : ∃ s, ArgN W v2 s := by
          rcases open_ints Tryd.underlying52 Tryd.underlying2 cellsInt g2 with ⟨hc, _⟩ | ⟨a', len', cap', zs, hc, _, hl', hm', hz, _, hcl, _⟩
          · obtain rfl : v2 = .slice none 0 0 := by simpa using hc
            exact ⟨[], none, 0, rfl, by simp, .inl rfl⟩
          · obtain rfl : v2 = .slice (some a') len' cap' := by simpa using hc
            simp only [if_true] at hz
            exact ⟨_, open_row hl' hm' hz (fun e => by cases e) (fun a' e => by cases e; exact ⟨Nat.zero_le _, fun c hc => hcl c (by omega)⟩)⟩
        obtain ⟨s, hs⟩ := harg
        exact ⟨(⟨z0, z1, s⟩, v2), ⟨b, o, rfl, by simpa using d0, by rw [Nat.add_assoc]; exact d1, by rw [Nat.add_assoc]; exact d2⟩, hs⟩
    haveI : Inhabited Pt := ⟨⟨0, 0, []⟩⟩
    obtain ⟨q, hq⟩ := choose_lt each
    refine ⟨(List.range len).map fun i => (q i).1, some a, m, (List.range len).map fun i => (q i).2, by simp, by simp; omega, by simp, ?_, fun j x hx => ?_⟩
    · by_cases h0 : len = 0
      · subst h0; exact .inl rfl
      · obtain ⟨b, o, rfl, _⟩ := (hq 0 (by omega)).1
        refine .inr ⟨b, o, rfl, fun j u hu => ?_⟩
        have hlen : (ptCells ((List.range len).map fun i => (q i).1) ((List.range len).map fun i => (q i).2)).length = len * 3 := by rw [ptCells_length (by simp)]; simp
        have hj : j < len * 3 := by rw [← hlen]; exact (List.getElem?_eq_some_iff.1 hu).1
        obtain ⟨i, r, hr, rfl⟩ : ∃ i r, r < 3 ∧ j = i * 3 + r := ⟨j / 3, j % 3, by omega, by omega⟩
        have hi : i < len := by omega
        obtain ⟨b', o', e, d0, d1, d2⟩ := (hq i hi).1
        cases e
        obtain ⟨g0, g1, g2⟩ := ptCells_get (ts := (List.range len).map fun i => (q i).1) (us := (List.range len).map fun i => (q i).2) (by simp) (k := i) (p := (q i).1) (by simp [hi])
        have g3 : ((List.range len).map fun i => (q i).2).getD i undef = (q i).2 := by simp [hi]
        rw [g3] at g2
        match r, hr with
        | 0, _ =>
          rw [Nat.add_zero] at hu
          rw [g0] at hu
          cases hu
          exact d0
        | 1, _ =>
          rw [g1] at hu
          cases hu
          rw [← Nat.add_assoc]
          exact d1
        | 2, _ =>
          rw [g2] at hu
          cases hu
          rw [← Nat.add_assoc]
          exact d2
    · have hj : j < len := by
        have := (List.getElem?_eq_some_iff.1 hx).1
        simpa using this
      have hxe : (q j).1 = x := by simpa [hj] using hx
      subst hxe
      have g3 : ((List.range len).map fun i => (q i).2).getD j undef = (q j).2 := by simp [hj]
      rw [g3]
      exact (hq j hj).2

end Go.Proofs.YtfphapcgjlhieaaDoor
