/- The argument of a law over one graph, opened; the table; the row's last step. -/
import Derived.Test.YtiooindlpinjhaaDoorBbQ4
import Derived.Test.YtiooindlpinjhaaDoorBbQ2
import Derived.Test.YtiooindlpinjhaaDoorCards
import Derived.Test.YtiooindlpinjhaaDoorTie
import Derived.ProofKit
import Derived.OpenShut
import Derived.Below
import Derived.ChangeSlices
import Derived.ChangeSame
import Derived.WideKeyArgs
import Derived.Deep.DeepHandedRow
import Derived.Deep.Matrix
import Derived.Lib.LaidTab
import Derived.Test.YtiooindlpinjhaaDoorBbQ8
import Derived.Test.YtiooindlpinjhaaDoorBbQ5
import Derived.Test.YtiooindlpinjhaaDoorBbQ11
import Derived.Test.YtiooindlpinjhaaDoorBbQ12
import Derived.Test.YtiooindlpinjhaaDoorBbQ32
namespace Go.Proofs.YtiooindlpinjhaaDoor
open Go.ChangeShapes Go.WideShapes Go.ChangeAt Go.RowKit Go.Deep

theorem own : ownKnob Tryd.prog.godebug = none := by kernel_rfl
theorem laidOut : laidOutB Tryd.prog = true := by kernel_rfl
theorem gTab : Tryd.prog.globalNamed "math/bits.deBruijn32tab" = some 0 := by kernel_rfl
theorem gTabType : (Tryd.prog.globals[0]?).map (·.type) = some 158 := by kernel_rfl
theorem cellsTab : Tryd.prog.cellsOf 158 = 32 := by kernel_rfl
theorem cellsByte : Tryd.prog.cellsOf 5 = 1 := by kernel_rfl
theorem cellsGraph : Tryd.prog.cellsOf 24 = 1 := by kernel_rfl
theorem cellsRows : Tryd.prog.cellsOf 22 = 1 := by kernel_rfl
theorem cellsRow : Tryd.prog.cellsOf 26 = 1 := by kernel_rfl
theorem cellsInt : Tryd.prog.cellsOf 2 = 1 := by kernel_rfl
theorem maxLen_eq : maxLen = 9223372036854775807 := rfl

set_option maxRecDepth 100000 in
theorem tab_of_laid {W : World} {rest : List (String × DataW Unit)} (h : laidMet Tryd.prog (("math/bits.deBruijn32tab", Rows.laid_math_bits_deBruijn32tab) :: rest) W) : Tab W := by
  have t : Lib.TabIs Tryd.prog W "math/bits.deBruijn32tab" .u8 (Lib.deBruijn32tab.map fun (n : Nat) => (n : Int)) :=
    Lib.tabIs_of_head (rest := rest) gTab gTabType Tryd.underlying158 Tryd.underlying5 cellsByte cellsTab h
  intro j hj
  rw [t.cell gTab j (by simpa using hj)]
  simp [List.getD, hj]

theorem spot_of {w : World} {a : Addr} {u : Value} (h : w.cell? a = some u) : a.spot = none := by
  unfold World.cell? at h
  split at h
  · cases e : a.spot with
    | none => rfl
    | some x => simp [e] at h
  · cases h
theorem cell_add {w : World} {a : Addr} {r : Nat} {u : Value} (h : w.cell? (a.add r) = some u) (hs : a.spot = none) : w.cell? ⟨a.block, a.off + r, none⟩ = some u := by
  obtain ⟨b, o, s⟩ := a
  simp only at hs
  subst hs
  unfold Addr.add at h
  split at h
  · rename_i e; subst e; exact h
  · exact h

variable {H : Type} {enc : TypeId × Value → H}

theorem open_row {w : World} {A : Option Addr} {L C : Nat} {zs : List Int} (hLC : L ≤ C) (hC : C ≤ maxLen) (hz : zs.length = C) (hn : A = none → C = 0)
    (hc : ∀ a', A = some a' → 0 ≤ a'.block ∧ ∀ c, c < C → w.cell? (a'.add c) = some (.int .i64 (zs.getD c 0))) : ArgN w (.slice A L C) (zs.take L) := by
  have hl : (zs.take L).length = L := by rw [List.length_take]; omega
  rw [maxLen_eq] at hC
  refine ⟨A, C, by rw [hl], by omega, ?_⟩
  by_cases h0 : L = 0
  · subst h0; exact .inl (by simp)
  · cases A with
    | none => have := hn rfl; omega
    | some a =>
      obtain ⟨_, hc⟩ := hc a rfl
      have hs := spot_of (show w.cell? a = some _ from hc 0 (by omega))
      refine .inr ⟨a.block, a.off, ?_, fun j u hu => ?_⟩
      · obtain ⟨b, o, s⟩ := a; simp only at hs; subst hs; rfl
      · have hj : j < L := by
          have := (List.getElem?_eq_some_iff.1 hu).1
          rw [List.length_map, hl] at this; exact this
        have h1 := cell_add (hc j (by omega)) hs
        rw [h1]
        rw [List.getElem?_map, List.getElem?_take, if_pos hj] at hu
        rw [← hu]
        simp [List.getD, List.getElem?_eq_getElem (show j < zs.length by omega)]

set_option maxRecDepth 100000 in
theorem open_graph {W : World} {sp : Nat → Bool} {held : Bool} {b0 : Nat} {v : Value} {d : DataW H} {p : List MemPlace} (hv : Value.okWide Tryd.prog W .any b0 24 v)
    (h : DataW.Trod enc Tryd.prog W 0 (fun _ => true) held 24 v d p) : ∃ g, ArgG W v g := by
  obtain ⟨cs, rfl, hsz⟩ := okWide_struct Tryd.underlying24 hv
  obtain ⟨fuel, hf⟩ := h
  obtain ⟨y0, n, _, _, h0⟩ := trod_struct1 Tryd.underlying24 hf
  rw [cellsGraph] at hsz
  obtain ⟨c0, rfl⟩ : ∃ c0, cs = #[c0] := by
    obtain ⟨l⟩ := cs
    match l, hsz with
    | [c0], _ => exact ⟨c0, rfl⟩
  have e : (((Value.agg #[c0]).cells.toList.drop 0).take (Tryd.prog.cellsOf 22)) = [c0] := by rw [cellsRows]; rfl
  rw [e] at h0
  rcases open_int_rows Tryd.underlying22 Tryd.underlying26 Tryd.underlying2 cellsRow cellsInt h0 with ⟨hc, _⟩ | ⟨a, len, cap, A, L, C, Z, hc, _, hl, hm, _, hr⟩
  · obtain rfl : c0 = .slice none 0 0 := by simpa using hc
    exact ⟨[], _, rfl, none, 0, [], rfl, by simp, rfl, .inl rfl, fun j hj => by simp at hj⟩
  · obtain rfl : c0 = .slice (some a) len cap := by simpa using hc
    rw [maxLen_eq] at hm
    refine ⟨(List.range len).map fun r => (Z r).take (L r), _, rfl, some a, cap, (List.range len).map fun r => .slice (A r) (L r) (C r), by simp, by simp; omega, by simp, ?_, fun j hj => ?_⟩
    · by_cases h0 : len = 0
      · subst h0; exact .inl rfl
      · have hs := spot_of (show W.cell? a = some _ from (hr 0 (by omega)).1)
        refine .inr ⟨a.block, a.off, ?_, fun j u hu => ?_⟩
        · obtain ⟨b, o, s⟩ := a; simp only at hs; subst hs; rfl
        · have hj : j < len := by
            have := (List.getElem?_eq_some_iff.1 hu).1
            simpa using this
          have h1 := cell_add (hr j (by omega)).1 hs
          rw [h1]
          rw [List.getElem?_map, List.getElem?_range hj] at hu
          exact hu
    · have hj : j < len := by simpa using hj
      obtain ⟨_, h1, h2, h3, _, h5, h6⟩ := hr j (by omega)
      have e1 : ((List.range len).map fun r => Value.slice (A r) (L r) (C r)).getD j undef = .slice (A j) (L j) (C j) := by simp [hj]
      have e2 : ((List.range len).map fun r => (Z r).take (L r)).getD j [] = (Z j).take (L j) := by simp [hj]
      rw [e1, e2]
      exact open_row h1 h2 h3 h5 h6

set_option maxRecDepth 100000 in
theorem open_nums {W : World} {sp : Nat → Bool} {held : Bool} {b0 : Nat} {v : Value} {d : DataW H} {p : List MemPlace} (hv : Value.okWide Tryd.prog W .any b0 26 v)
    (h : DataW.Trod enc Tryd.prog W 0 (fun _ => true) held 26 v d p) : ∃ xs, ArgN W v xs := by
  obtain ⟨a0, len, cap, rfl⟩ := okWide_slice Tryd.underlying26 hv
  obtain ⟨fuel, hf⟩ := h
  rcases open_ints Tryd.underlying26 Tryd.underlying2 cellsInt hf with ⟨hc, _⟩ | ⟨a, len', cap', zs, hc, _, hl, hm, hz, _, hcell, _⟩
  · obtain ⟨rfl, rfl, rfl⟩ : a0 = none ∧ len = 0 ∧ cap = 0 := by simpa [Value.cells] using hc
    exact ⟨[], none, 0, rfl, by simp, .inl rfl⟩
  · obtain ⟨rfl, rfl, rfl⟩ : a0 = some a ∧ len = len' ∧ cap = cap' := by simpa [Value.cells] using hc
    simp only [if_true] at hz
    exact ⟨_, open_row hl hm hz (fun e => by cases e) (fun a' e => by cases e; exact ⟨Nat.zero_le _, fun c hc => hcell c (by omega)⟩)⟩

theorem same_of_below {W W' : World} (hb : Below W.heap.size W W') {x : MemPlace} (hx : x.block < W.heap.size) : W.sameAt W' x := by
  cases x with
  | cell b off => exact hb.cell (p := ⟨b, off, none⟩) hx
  | map b => exact hb.block b hx

section
variable {P : Program}
theorem post_of_below {f : Func} {s : ChangeSpec} {apart fresh handsOn again : Bool} {W W' : World} {args : Array Value} {v : Value} {ds gs : List (DataW H)} {before pa pv : List MemPlace}
    (hW : DataW.Whole enc P f.params.toList s.vars apart W args.toList ds gs before)
    (hres : ∀ (b : Nat) (sp : Nat → Bool) (hd : Bool), DataW.TrodAll enc P W' b sp hd f.resultTypes.toList (v.resultList f.resultTypes.size) (s.fn H (ds ++ gs)).results [])
    (hargs : ∀ sp : Nat → Bool, (∀ p ∈ before, sp p.block = true) → DataW.TrodAll enc P W' 0 sp true f.params.toList args.toList (s.fn H (ds ++ gs)).args pa)
    (hvars : ∀ sp : Nat → Bool, (∀ p ∈ before, sp p.block = true) → DataW.TrodVars enc P W' sp s.vars (s.fn H (ds ++ gs)).vars pv)
    (hps : before = pa ++ pv) (hb : Below W.heap.size W W')
    (hok : ∀ (j : Nat) (t : TypeId) (r : Value), f.resultTypes[j]? = some t → (v.resultList f.resultTypes.size)[j]? = some r → Value.okWide P W' .any 0 t r) :
    s.post enc P f apart fresh handsOn again W args v W' := by
  have hlt : ∀ p ∈ before, p.block < W.heap.size := fun p hp => hW.lt p hp
  have hold : ∀ p ∈ before, (fun b => decide (b < W.heap.size)) p.block = true := fun p hp => by simpa using hlt p hp
  refine ⟨ds, gs, before, [], pa, pv, hW, hres _ _ _, hargs _ hold, hvars _ hold, World.keptBut_mono (fun p hp => ⟨hp, ?_⟩) (hb.frame (· ∈ before)), fun _ => ?_⟩
  · rw [hps, List.mem_append] at hp
    exact Or.inr hp
  · obtain ⟨_, _, _, _, _, hz, hn⟩ := hW
    refine ⟨hok, _, _, ([] ++ pa) ++ pv, ⟨[] ++ pa, pv, trodAll_append (hargs _ (fun _ _ => rfl)) (hres _ _ _), hvars _ (fun _ _ => rfl), rfl, ?_, ?_⟩, ?_⟩
    · intro b off hp
      have hin : MemPlace.cell b off ∈ before := by rw [hps]; simpa using hp
      rw [hb.frozen (hlt _ hin)]
      exact hz b off hin
    · intro ha
      have := hn ha
      rw [hps] at this
      simpa using this
    · intro p hp _
      rw [hps]
      simpa using hp
end

end Go.Proofs.YtiooindlpinjhaaDoor

/- Frame: models as arguments. -/
namespace Go.Proofs.YtiooindlpinjhaaDoor
open Go.ChangeShapes Go.WideShapes Go.ChangeAt Go.RowKit Go.Deep
variable {H : Type} {enc : TypeId × Value → H}

/-- Five arguments. -/
theorem trodAll_five {enc : TypeId × Value → H} {P : Program} {w : World} {base : Nat} {sp : Nat → Bool} {held : Bool} {t0 t1 t2 t3 t4 : TypeId} {args : Array Value} {ds : List (DataW H)} {ps : List MemPlace} (h : DataW.TrodAll enc P w base sp held [t0, t1, t2, t3, t4] args.toList ds ps) :
    ∃ v0 v1 v2 v3 v4 d0 d1 d2 d3 d4 p0 p1 p2 p3 p4, args = #[v0, v1, v2, v3, v4] ∧ ds = [d0, d1, d2, d3, d4] ∧ ps = p0 ++ p1 ++ p2 ++ p3 ++ p4 ∧ DataW.Trod enc P w base sp held t0 v0 d0 p0 ∧ DataW.Trod enc P w base sp held t1 v1 d1 p1 ∧ DataW.Trod enc P w base sp held t2 v2 d2 p2 ∧ DataW.Trod enc P w base sp held t3 v3 d3 p3 ∧ DataW.Trod enc P w base sp held t4 v4 d4 p4 := by
  obtain ⟨v0, _, d0, _, p0, _, ha, rfl, rfl, k0, h⟩ := trodAll_cons h
  obtain ⟨v1, _, d1, _, p1, _, rfl, rfl, rfl, k1, h⟩ := trodAll_cons h
  obtain ⟨v2, _, d2, _, p2, _, rfl, rfl, rfl, k2, h⟩ := trodAll_cons h
  obtain ⟨v3, _, d3, _, p3, _, rfl, rfl, rfl, k3, h⟩ := trodAll_cons h
  obtain ⟨v4, _, d4, _, p4, _, rfl, rfl, rfl, k4, h⟩ := trodAll_cons h
  obtain ⟨rfl, rfl, rfl⟩ := trodAll_nil h
  exact ⟨v0, v1, v2, v3, v4, d0, d1, d2, d3, d4, p0, p1, p2, p3, p4, by cases args; simp_all, rfl, by simp, k0, k1, k2, k3, k4⟩

end Go.Proofs.YtiooindlpinjhaaDoor

/- Walks: marks of several arguments in turn: what a mark returns is bounded by what it began with. -/
namespace Go.Proofs.YtiooindlpinjhaaDoor
open Go.RowKit

set_option maxRecDepth 100000 in
set_option maxHeartbeats 1000000 in
theorem markInt64SS_k (v : Value) (g : List (List Int)) (base hi : Nat) (k : Int) (h1 : g.length ≤ 1048576) (h2 : ∀ j, j < g.length → (row g j).length ≤ 1048576) (h0 : 0 ≤ k) (K : Int) (hk1 : k ≤ K) (hK : K ≤ 100000000000000) (w : World)
    (vals : List Value) (hvl : vals.length = g.length) (ho : w.ownsRow base 26 1 v g.length vals) (hr : ∀ j, j < g.length → w.ownsRow base 2 1 (vals.getD j undef) (row g j).length ((row g j).map (Value.int .i64)))
    (hhi : ∀ j, j < g.length → ∀ b, (vals.getD j undef).ownBlock = some b → b < hi) :
    Calls Tryd.prog 32 #[v, .int .i64 k] w fun e w' => (∃ z : Int, e = .returned (.int .i64 z) ∧ 0 ≤ z ∧ z ≤ K + 1100000000000) ∧ Apart base hi w w' := by
  rcases ho.2 with ⟨rfl, hn0⟩ | ⟨b, cap, cur, rfl, _⟩
  · have e0 : ((g.length : Nat) : Int) = 0 := by omega
    go_enter Tryd.func32, Tryd.ntmps32
    go_wp2
    refine wp_loop_rounds 1 ?_
    rw [rounds_succ]
    go_wp2
    go_ret
    exact ⟨⟨k, rfl, h0, by omega⟩, Apart.refl _ _ _⟩
  have Hhi := Lib.hid hhi
  have H2 := Lib.hid h2
  have Hvl := Lib.hid hvl
  have Hr := Lib.hid hr
  have Ho := Lib.hid ho
  clear hhi h2 hvl hr ho
  go_enter Tryd.func32, Tryd.ntmps32
  go_wp2
  go_loopw [1, 5] (fun z i wr => ∃ (j : Nat) (y : Int), j ≤ g.length ∧ i = .int .i64 j ∧ z = .int .i64 y ∧ 0 ≤ y ∧ y ≤ K + j * 1048576 ∧ Apart base hi w wr ∧
      wr.ownsRow base 26 1 (.slice (some ⟨b, 0, none⟩) g.length cap) g.length vals ∧ (∀ j, j < g.length → ∃ ys, wr.ownsRow base 2 1 (vals.getD j undef) (row g j).length ys))
    (fun _ i _ => g.length - (intOf i).toNat)
  case atStart => exact ⟨0, k, Nat.zero_le _, rfl, rfl, h0, by omega, Apart.refl _ _ _, Ho.out, fun j hj => ⟨_, Hr.out j hj⟩⟩
  case round =>
    obtain ⟨j, y, hj, rfl, rfl, hy0, hy1, hap, hown, hrows⟩ := hrel
    have Hrows := Lib.hid hrows
    clear hrows
    by_cases hlt : j < g.length
    · obtain ⟨ys, hys⟩ := Hrows.out j hlt
      have hl2 := H2.out j hlt
      have hc := hown.cellAt j (by omega)
      obtain ⟨u, hu⟩ : ∃ u, vals[j]? = some u := ⟨_, List.getElem?_eq_getElem (by have := Hvl.out; omega)⟩
      have hud : vals.getD j undef = u := by rw [List.getD_eq_getElem?_getD, hu]; rfl
      rw [hu] at hc
      rw [hud] at hys
      have hub : ∀ b, u.ownBlock = some b → b < hi := by rw [← hud]; exact Hhi.out j hlt
      have Hys := Lib.hid hys
      have Hub := Lib.hid hub
      have Hud := Lib.hid hud
      clear hys hub hud hu
      obtain ⟨m, hm⟩ : ∃ m, m = (row g j).length := ⟨_, rfl⟩
      rw [← hm] at hl2
      have Hm := Lib.hid hm
      clear hm
      go_wp2_with (go_at_call 14; refine (markInt64S_any u m base ys y (by omega) hy0 (by omega) _ (Hm.out ▸ Hys.out)).mono ?_; rintro e w2 ⟨rfl, ho2, hg2, _⟩)
      go_roundw
      case rel =>
        have hys : wr.ownsRow base 2 1 u m ys := Hm.out ▸ Hys.out
        refine ⟨j + 1, _, by omega, by go_num, rfl, by omega, by omega, hap.trans (Apart.of_grown hys hg2 (Nat.le_refl _) Hub.out), ownsRow_other hown hys hg2 (by decide), fun i hi => ?_⟩
        obtain ⟨zs, hzs⟩ := Hrows.out i hi
        exact ownsRow_some hzs hys ho2 hg2
      case measure => simp [intOf]; omega
    · obtain rfl : j = g.length := by omega
      go_wp2
      go_ret
      exact ⟨⟨y, rfl, hy0, by omega⟩, hap⟩

set_option maxRecDepth 100000 in
set_option maxHeartbeats 1000000 in
theorem markGraph_k (v : Value) (g : List (List Int)) (base hi : Nat) (k : Int) (h1 : g.length ≤ 1048576) (h2 : ∀ j, j < g.length → (row g j).length ≤ 1048576) (h0 : 0 ≤ k) (K : Int) (hk1 : k ≤ K) (hK : K ≤ 100000000000000) (w : World)
    (ho : InG w base hi v g) :
    Calls Tryd.prog 13 #[v, .int .i64 k] w fun e w' => (∃ z : Int, e = .returned (.int .i64 z) ∧ 0 ≤ z ∧ z ≤ K + 1100000000000) ∧ Apart base hi w w' := by
  have hb1 : ∀ u, Below w.heap.size w (w.alloc (.cells #[u] 28)) := fun u => below_alloc w _
  obtain ⟨u, vals, rfl, hvl, ho1, hub, hr⟩ := ho
  have ho1' := ownsRow_below ho1 (hb1 u)
  have hr' : ∀ j, j < g.length → (w.alloc (.cells #[u] 28)).ownsRow base 2 1 (vals.getD j undef) (row g j).length ((row g j).map (Value.int .i64)) := fun j hj => ownsRow_below (hr j hj).1 (hb1 u)
  have hk := markInt64SS_k u g base hi k h1 h2 h0 K hk1 hK _ vals hvl ho1' hr' (fun j hj => (hr j hj).2)
  have hk' := Lib.hid hk
  have hsh : u = .slice none 0 0 ∨ ∃ b c, u = .slice (some ⟨b, 0, none⟩) g.length c := by
    rcases ho1.2 with ⟨h, _⟩ | ⟨b, c, _, h, _⟩
    · exact .inl h
    · exact .inr ⟨b, c, h⟩
  clear hk hvl ho1 hub hr ho1' hr' h2
  rcases hsh with rfl | ⟨b, c, rfl⟩
  all_goals
    go_enter Tryd.func13, Tryd.ntmps13
    go_wp2_with (go_at_call 32; refine hk'.out.mono ?_; rintro e w2 ⟨⟨z, rfl, hz⟩, hap⟩)
    go_ret
    exact ⟨⟨z, rfl, hz⟩, (Apart.of_below (hb1 _)).trans hap⟩

/-- Rows in blocks from lo on and below hi. -/
def InR (w : World) (lo hi : Nat) (u : Value) (g : List (List Int)) : Prop :=
  ∃ vals, vals.length = g.length ∧ w.ownsRow lo 26 1 u g.length vals ∧ (∀ b, u.ownBlock = some b → b < hi) ∧
    ∀ j, j < g.length → w.ownsRow lo 2 1 (vals.getD j undef) (row g j).length ((row g j).map (Value.int .i64)) ∧ ∀ b, (vals.getD j undef).ownBlock = some b → b < hi
theorem InR.of_own {w : World} {lo : Nat} {u : Value} {g : List (List Int)} (h : OwnRws w lo u g) : InR w lo w.heap.size u g := by
  obtain ⟨vals, h1, h2, h3⟩ := h
  exact ⟨vals, h1, h2, fun b hb => (h2.lt b hb).2, fun j hj => ⟨h3 j hj, fun b hb => ((h3 j hj).lt b hb).2⟩⟩
theorem InR.below {w w' : World} {lo hi : Nat} {u : Value} {g : List (List Int)} (h : InR w lo hi u g) (hb : Below w.heap.size w w') : InR w' lo hi u g := by
  obtain ⟨vals, h1, h2, h3, h4⟩ := h
  exact ⟨vals, h1, ownsRow_below h2 hb, h3, fun j hj => ⟨ownsRow_below (h4 j hj).1 hb, (h4 j hj).2⟩⟩
theorem InR.own {w : World} {lo hi : Nat} {u : Value} {g : List (List Int)} (h : InR w lo hi u g) : OwnRws w lo u g := by
  obtain ⟨vals, h1, h2, h3, h4⟩ := h
  exact ⟨vals, h1, h2, fun j hj => (h4 j hj).1⟩
theorem InR.apart_hi {w w' : World} {lo hi lo' hi' : Nat} {u : Value} {g : List (List Int)} (h : InR w lo hi u g) (ha : Apart lo' hi' w w') (hl : hi' ≤ lo) : InR w' lo hi u g := by
  obtain ⟨vals, h1, h2, h3, h4⟩ := h
  exact ⟨vals, h1, ownsRow_apart_hi h2 ha hl, h3, fun j hj => ⟨ownsRow_apart_hi (h4 j hj).1 ha hl, (h4 j hj).2⟩⟩
theorem InG.apart_hi {w w' : World} {lo hi lo' hi' : Nat} {v : Value} {g : List (List Int)} (h : InG w lo hi v g) (ha : Apart lo' hi' w w') (hl : hi' ≤ lo) : InG w' lo hi v g := by
  obtain ⟨u, vals, h0, h1, h2, h3, h4⟩ := h
  exact ⟨u, vals, h0, h1, ownsRow_apart_hi h2 ha hl, h3, fun j hj => ⟨ownsRow_apart_hi (h4 j hj).1 ha hl, (h4 j hj).2⟩⟩
theorem markRows_k (v : Value) (g : List (List Int)) (base hi : Nat) (k : Int) (h1 : g.length ≤ 1048576) (h2 : ∀ j, j < g.length → (row g j).length ≤ 1048576) (h0 : 0 ≤ k) (K : Int) (hk1 : k ≤ K) (hK : K ≤ 100000000000000) (w : World) (ho : InR w base hi v g) :
    Calls Tryd.prog 32 #[v, .int .i64 k] w fun e w' => (∃ z : Int, e = .returned (.int .i64 z) ∧ 0 ≤ z ∧ z ≤ K + 1100000000000) ∧ Apart base hi w w' := by
  obtain ⟨vals, hvl, ho1, _, hr⟩ := ho
  exact markInt64SS_k v g base hi k h1 h2 h0 K hk1 hK w vals hvl ho1 (fun j hj => (hr j hj).1) (fun j hj => (hr j hj).2)

end Go.Proofs.YtiooindlpinjhaaDoor

/- Walks: the laws on models: like those on graphs. -/
namespace Go.Proofs.YtiooindlpinjhaaDoor
open Go.RowKit

end Go.Proofs.YtiooindlpinjhaaDoor

/- Walks: the laws on models as arguments: like those on graphs. -/
namespace Go.Proofs.YtiooindlpinjhaaDoor
open Go.RowKit

end Go.Proofs.YtiooindlpinjhaaDoor

/- Plain: models of a pattern in a graph; a model of a model. -/
namespace Go.Proofs.YtiooindlpinjhaaDoor

/-- The first sets are sets of vertices, no two of which meet. -/
def MdTo (g M : List (List Int)) (k : Nat) : Prop := ∀ a, a < k → SetIn g.length (row M a) ∧ ∀ b, b < a → ∀ x ∈ row M a, x ∉ row M b
def MdW (g M : List (List Int)) : Prop := (GOk g ∧ M.length ≤ 16) ∧ MdTo g M M.length
/-- An edge joins two sets. -/
def JoinP (g : List (List Int)) (A B : List Int) : Prop := ∃ x ∈ A, ∃ y ∈ B, y ∈ row g x.toNat
/-- The edges of the pattern up to one. -/
def JnTo (g p M : List (List Int)) (i : Nat) : Prop := ∀ e ∈ (edN p.length (ofG p) p.length).take i, JoinP g (row M e.1) (row M e.2)
def MdOk (g p M : List (List Int)) : Prop := ((MdW g M ∧ GOk p) ∧ M.length = p.length) ∧ (∀ a, a < M.length → ConnS g (row M a)) ∧ ∀ e ∈ edN p.length (ofG p) p.length, JoinP g (row M e.1) (row M e.2)

theorem MdTo.zero (g M : List (List Int)) : MdTo g M 0 := fun _ h => absurd h (Nat.not_lt_zero _)
theorem MdTo.snoc {g M : List (List Int)} {k : Nat} (h : MdTo g M k) (h1 : SetIn g.length (row M k)) (h2 : ∀ b, b < k → ∀ x ∈ row M k, x ∉ row M b) : MdTo g M (k + 1) := fun a ha => by
  by_cases e : a < k
  · exact h a e
  · obtain rfl : a = k := by omega
    exact ⟨h1, h2⟩

/-- The word of a model: of each vertex whether a set has it. -/
structure WrdI (n : Nat) (M : List (List Int)) (i k : Nat) (F : List Int) : Prop where
  len : F.length = n
  sgn : ∀ x, x < n → (0 < F.getD x 0 ↔ (∃ a, a < i ∧ (x : Int) ∈ row M a) ∨ (x : Int) ∈ (row M i).take k)
theorem WrdI.start (n : Nat) (M : List (List Int)) : WrdI n M 0 0 (List.replicate n 0) := by
  refine ⟨by simp, fun x hx => ?_⟩
  have h1 : (List.replicate n (0 : Int)).getD x 0 = 0 := by simp [List.getD_eq_getElem?_getD, hx]
  rw [h1]
  simp
theorem WrdI.put {n : Nat} {M : List (List Int)} {i k x : Nat} {F : List Int} (h : WrdI n M i k F) (hk : k < (row M i).length) (hx : (row M i)[k] = (x : Int)) (hn : x < n) (z : Int) (hz : 0 < z) : WrdI n M i (k + 1) (F.set x z) := by
  refine ⟨by rw [List.length_set]; exact h.len, fun y hy => ?_⟩
  rw [take_snoc' _ k hk, hx, List.mem_append, ← or_assoc, ← h.sgn y hy]
  rw [List.getD_eq_getElem?_getD, List.getElem?_set]
  by_cases e : x = y
  · subst e
    simp [h.len, hn, hz]
  · rw [if_neg e, ← List.getD_eq_getElem?_getD]
    have e' : ¬ ((y : Int) = (x : Int)) := by omega
    simp [e']
theorem WrdI.next {n : Nat} {M : List (List Int)} {i : Nat} {F : List Int} (h : WrdI n M i (row M i).length F) : WrdI n M (i + 1) 0 F := by
  refine ⟨h.len, fun y hy => ?_⟩
  rw [h.sgn y hy, List.take_length]
  simp only [List.take_zero, List.not_mem_nil, or_false]
  constructor
  · rintro (⟨a, ha, h1⟩ | h1)
    · exact ⟨a, by omega, h1⟩
    · exact ⟨i, by omega, h1⟩
  · rintro ⟨a, ha, h1⟩
    by_cases e : a < i
    · exact .inl ⟨a, e, h1⟩
    · obtain rfl : a = i := by omega
      exact .inr h1
/-- A vertex that two sets have. -/
theorem wrd_twice {g M : List (List Int)} {i k x : Nat} {F : List Int} (h : WrdI g.length M i k F) (hs : SetIn g.length (row M i)) (hk : k < (row M i).length) (hx : (row M i)[k] = (x : Int)) (hn : x < g.length) (hF : 0 < F.getD x 0) (hi : i < M.length) : ¬ MdTo g M M.length := by
  intro hm
  have hmem : (x : Int) ∈ row M i := by rw [← hx]; exact List.getElem_mem hk
  rcases (h.sgn x hn).1 hF with ⟨a, ha, h1⟩ | h1
  · exact (hm i hi).2 a ha _ hmem h1
  · obtain ⟨j, hj, e⟩ := List.getElem_of_mem h1
    rw [List.length_take] at hj
    rw [List.getElem_take] at e
    have := (List.pairwise_iff_getElem.1 hs.2) j k (by omega) hk (by omega)
    rw [hx, e] at this
    omega
theorem wrd_new {g M : List (List Int)} {i k x : Nat} {F : List Int} (h : WrdI g.length M i k F) (hn : x < g.length) (hF : ¬ 0 < F.getD x 0) : ∀ b, b < i → (x : Int) ∉ row M b := fun b hb k1 => hF ((h.sgn x hn).2 (.inl ⟨b, hb, k1⟩))

/-- The sets of a model of a model. -/
def CmpS (M W R : List (List Int)) : Prop := R.length = W.length ∧ ∀ i, i < W.length → (row R i).Pairwise (· < ·) ∧ ∀ x, x ∈ row R i ↔ ∃ k ∈ row W i, x ∈ row M k.toNat
theorem cmpS_det {M W R R' : List (List Int)} (h : CmpS M W R) (h' : CmpS M W R') : R = R' := by
  refine graph_ext (by rw [h.1, h'.1]) fun r hr => ?_
  rw [h.1] at hr
  refine rising_ext_int _ _ (h.2 r hr).1 (h'.2 r hr).1 fun x => ?_
  rw [(h.2 r hr).2, (h'.2 r hr).2]
/-- What ComposedModel returns. -/
def CmS (g p M q W R : List (List Int)) (ok : Bool) : Prop := (MdOk g p M ∧ MdOk p q W ∧ CmpS M W R ∧ ok = true) ∨ (¬ (MdOk g p M ∧ MdOk p q W) ∧ R = [] ∧ ok = false)
theorem cmS_det {g p M q W R R' : List (List Int)} {ok ok' : Bool} (h : CmS g p M q W R ok) (h' : CmS g p M q W R' ok') : R = R' ∧ ok = ok' := by
  rcases h with ⟨h1, h2, h3, h4⟩ | ⟨h1, h2, h3⟩ <;> rcases h' with ⟨k1, k2, k3, k4⟩ | ⟨k1, k2, k3⟩
  · exact ⟨cmpS_det h3 k3, by rw [h4, k4]⟩
  · exact absurd ⟨h1, h2⟩ k1
  · exact absurd ⟨k1, k2⟩ h1
  · exact ⟨by rw [h2, k2], by rw [h3, k3]⟩

/-- An edge of the graph between two sets, as the reference looks for it. -/
def BtwE (A B : List Int) (e : Nat × Nat) : Prop := ((e.1 : Int) ∈ A ∧ (e.2 : Int) ∈ B) ∨ ((e.2 : Int) ∈ A ∧ (e.1 : Int) ∈ B)
theorem mem_edN' {n : Nat} {E : Nat → Nat → Bool} {a b : Nat} (h1 : a < b) (h2 : b < n) (h3 : E a b = true) : (a, b) ∈ edN n E n := by
  simp only [edN, edRow, List.mem_flatMap, List.mem_range, List.mem_map, List.mem_filter, Bool.and_eq_true, decide_eq_true_eq]
  exact ⟨a, by omega, b, ⟨h2, h1, h3⟩, rfl⟩
theorem join_btw {g : List (List Int)} (hg : GOk g) {A B : List Int} (hA : SetIn g.length A) : JoinP g A B ↔ ∃ e ∈ edN g.length (ofG g) g.length, BtwE A B e := by
  constructor
  · rintro ⟨x, hx, y, hy, h⟩
    have hx1 := hA.1 x hx
    have hxr : x.toNat < g.length := by omega
    have hs := hg.sets x.toNat hxr
    have hy1 := hs.1.1 y h
    have hyr : y.toNat < g.length := by omega
    have hne : y ≠ x := fun e => hs.2 (by rw [Int.toNat_of_nonneg hx1.1]; exact e ▸ h)
    have hsym := hg.both x.toNat hxr y h
    have ex : ((x.toNat : Nat) : Int) = x := by omega
    have ey : ((y.toNat : Nat) : Int) = y := by omega
    by_cases e : x < y
    · exact ⟨(x.toNat, y.toNat), mem_edN' (by omega) hyr (by simp only [ofG, decide_eq_true_eq]; rw [ey]; exact h), .inl ⟨by show ((x.toNat : Nat) : Int) ∈ A; rw [ex]; exact hx, by show ((y.toNat : Nat) : Int) ∈ B; rw [ey]; exact hy⟩⟩
    · exact ⟨(y.toNat, x.toNat), mem_edN' (by omega) hxr (by simp only [ofG, decide_eq_true_eq]; exact hsym), .inr ⟨by show ((x.toNat : Nat) : Int) ∈ A; rw [ex]; exact hx, by show ((y.toNat : Nat) : Int) ∈ B; rw [ey]; exact hy⟩⟩
  · rintro ⟨e, he, h⟩
    obtain ⟨h1, h2, _, h4⟩ := mem_edN (Nat.le_refl _) he
    simp only [ofG, decide_eq_true_eq] at h4
    rcases h with ⟨k1, k2⟩ | ⟨k1, k2⟩
    · exact ⟨_, k1, _, k2, by simpa using h4⟩
    · refine ⟨_, k1, _, k2, ?_⟩
      have := hg.both e.1 h1 _ h4
      simpa using this

end Go.Proofs.YtiooindlpinjhaaDoor

/- Walk: the reference's word of a model. -/
namespace Go.Proofs.YtiooindlpinjhaaDoor
open Go.RowKit

end Go.Proofs.YtiooindlpinjhaaDoor
