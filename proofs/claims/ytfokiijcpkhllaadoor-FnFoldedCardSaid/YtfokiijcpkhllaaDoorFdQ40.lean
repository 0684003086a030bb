/- The argument of a law over one graph, opened; the table; the row's last step. -/
import Derived.Test.YtfokiijcpkhllaaDoorFdQ37
import Derived.Test.YtfokiijcpkhllaaDoorFdQ2
import Derived.Test.YtfokiijcpkhllaaDoorCards
import Derived.Test.YtfokiijcpkhllaaDoorTie
import Derived.ProofKit
import Derived.OpenShut
import Derived.Below
import Derived.ChangeSlices
import Derived.ChangeSame
import Derived.WideKeyArgs
import Derived.Deep.DeepHandedRow
import Derived.Deep.Matrix
import Derived.Lib.LaidTab
import Derived.Test.YtfokiijcpkhllaaDoorFdQ21
import Derived.Test.YtfokiijcpkhllaaDoorFdQ32
import Derived.Test.YtfokiijcpkhllaaDoorFdQ29
import Derived.Test.YtfokiijcpkhllaaDoorFdQ33
namespace Go.Proofs.YtfokiijcpkhllaaDoor
open Go.ChangeShapes Go.WideShapes Go.ChangeAt Go.RowKit Go.Deep

theorem own : ownKnob Tryd.prog.godebug = none := by kernel_rfl
theorem laidOut : laidOutB Tryd.prog = true := by kernel_rfl
theorem gTab : Tryd.prog.globalNamed "math/bits.deBruijn32tab" = some 0 := by kernel_rfl
theorem gTabType : (Tryd.prog.globals[0]?).map (·.type) = some 163 := by kernel_rfl
theorem cellsTab : Tryd.prog.cellsOf 163 = 32 := by kernel_rfl
theorem cellsByte : Tryd.prog.cellsOf 5 = 1 := by kernel_rfl
theorem cellsRows : Tryd.prog.cellsOf 27 = 1 := by kernel_rfl
theorem cellsRow : Tryd.prog.cellsOf 32 = 1 := by kernel_rfl
theorem cellsInt : Tryd.prog.cellsOf 2 = 1 := by kernel_rfl
theorem maxLen_eq : maxLen = 9223372036854775807 := rfl

set_option maxRecDepth 100000 in
theorem tab_of_laid {W : World} {rest : List (String × DataW Unit)} (h : laidMet Tryd.prog (("math/bits.deBruijn32tab", Rows.laid_math_bits_deBruijn32tab) :: rest) W) : Tab W := by
  have t : Lib.TabIs Tryd.prog W "math/bits.deBruijn32tab" .u8 (Lib.deBruijn32tab.map fun (n : Nat) => (n : Int)) :=
    Lib.tabIs_of_head (rest := rest) gTab gTabType Tryd.underlying163 Tryd.underlying5 cellsByte cellsTab h
  intro j hj
  rw [t.cell gTab j (by simpa using hj)]
  simp [List.getD, hj]

theorem spot_of {w : World} {a : Addr} {u : Value} (h : w.cell? a = some u) : a.spot = none := by
  unfold World.cell? at h
  split at h
  · cases e : a.spot with
    | none => rfl
    | some x => simp [e] at h
  · cases h
theorem cell_add {w : World} {a : Addr} {r : Nat} {u : Value} (h : w.cell? (a.add r) = some u) (hs : a.spot = none) : w.cell? ⟨a.block, a.off + r, none⟩ = some u := by
  obtain ⟨b, o, s⟩ := a
  simp only at hs
  subst hs
  unfold Addr.add at h
  split at h
  · rename_i e; subst e; exact h
  · exact h

variable {H : Type} {enc : TypeId × Value → H}

theorem open_row {w : World} {A : Option Addr} {L C : Nat} {zs : List Int} (hLC : L ≤ C) (hC : C ≤ maxLen) (hz : zs.length = C) (hn : A = none → C = 0)
    (hc : ∀ a', A = some a' → 0 ≤ a'.block ∧ ∀ c, c < C → w.cell? (a'.add c) = some (.int .i64 (zs.getD c 0))) : ArgN w (.slice A L C) (zs.take L) := by
  have hl : (zs.take L).length = L := by rw [List.length_take]; omega
  rw [maxLen_eq] at hC
  refine ⟨A, C, by rw [hl], by omega, ?_⟩
  by_cases h0 : L = 0
  · subst h0; exact .inl (by simp)
  · cases A with
    | none => have := hn rfl; omega
    | some a =>
      obtain ⟨_, hc⟩ := hc a rfl
      have hs := spot_of (show w.cell? a = some _ from hc 0 (by omega))
      refine .inr ⟨a.block, a.off, ?_, fun j u hu => ?_⟩
      · obtain ⟨b, o, s⟩ := a; simp only at hs; subst hs; rfl
      · have hj : j < L := by
          have := (List.getElem?_eq_some_iff.1 hu).1
          rw [List.length_map, hl] at this; exact this
        have h1 := cell_add (hc j (by omega)) hs
        rw [h1]
        rw [List.getElem?_map, List.getElem?_take, if_pos hj] at hu
        rw [← hu]
        simp [List.getD, List.getElem?_eq_getElem (show j < zs.length by omega)]

set_option maxRecDepth 100000 in
theorem open_nums {W : World} {sp : Nat → Bool} {held : Bool} {b0 : Nat} {v : Value} {d : DataW H} {p : List MemPlace} (hv : Value.okWide Tryd.prog W .any b0 32 v)
    (h : DataW.Trod enc Tryd.prog W 0 (fun _ => true) held 32 v d p) : ∃ xs, ArgN W v xs := by
  obtain ⟨a0, len, cap, rfl⟩ := okWide_slice Tryd.underlying32 hv
  obtain ⟨fuel, hf⟩ := h
  rcases open_ints Tryd.underlying32 Tryd.underlying2 cellsInt hf with ⟨hc, _⟩ | ⟨a, len', cap', zs, hc, _, hl, hm, hz, _, hcell, _⟩
  · obtain ⟨rfl, rfl, rfl⟩ : a0 = none ∧ len = 0 ∧ cap = 0 := by simpa [Value.cells] using hc
    exact ⟨[], none, 0, rfl, by simp, .inl rfl⟩
  · obtain ⟨rfl, rfl, rfl⟩ : a0 = some a ∧ len = len' ∧ cap = cap' := by simpa [Value.cells] using hc
    simp only [if_true] at hz
    exact ⟨_, open_row hl hm hz (fun e => by cases e) (fun a' e => by cases e; exact ⟨Nat.zero_le _, fun c hc => hcell c (by omega)⟩)⟩

theorem same_of_below {W W' : World} (hb : Below W.heap.size W W') {x : MemPlace} (hx : x.block < W.heap.size) : W.sameAt W' x := by
  cases x with
  | cell b off => exact hb.cell (p := ⟨b, off, none⟩) hx
  | map b => exact hb.block b hx

section
variable {P : Program}
theorem post_of_below {f : Func} {s : ChangeSpec} {apart fresh handsOn again : Bool} {W W' : World} {args : Array Value} {v : Value} {ds gs : List (DataW H)} {before pa pv : List MemPlace}
    (hW : DataW.Whole enc P f.params.toList s.vars apart W args.toList ds gs before)
    (hres : ∀ (b : Nat) (sp : Nat → Bool) (hd : Bool), DataW.TrodAll enc P W' b sp hd f.resultTypes.toList (v.resultList f.resultTypes.size) (s.fn H (ds ++ gs)).results [])
    (hargs : ∀ sp : Nat → Bool, (∀ p ∈ before, sp p.block = true) → DataW.TrodAll enc P W' 0 sp true f.params.toList args.toList (s.fn H (ds ++ gs)).args pa)
    (hvars : ∀ sp : Nat → Bool, (∀ p ∈ before, sp p.block = true) → DataW.TrodVars enc P W' sp s.vars (s.fn H (ds ++ gs)).vars pv)
    (hps : before = pa ++ pv) (hb : Below W.heap.size W W')
    (hok : ∀ (j : Nat) (t : TypeId) (r : Value), f.resultTypes[j]? = some t → (v.resultList f.resultTypes.size)[j]? = some r → Value.okWide P W' .any 0 t r) :
    s.post enc P f apart fresh handsOn again W args v W' := by
  have hlt : ∀ p ∈ before, p.block < W.heap.size := fun p hp => hW.lt p hp
  have hold : ∀ p ∈ before, (fun b => decide (b < W.heap.size)) p.block = true := fun p hp => by simpa using hlt p hp
  refine ⟨ds, gs, before, [], pa, pv, hW, hres _ _ _, hargs _ hold, hvars _ hold, World.keptBut_mono (fun p hp => ⟨hp, ?_⟩) (hb.frame (· ∈ before)), fun _ => ?_⟩
  · rw [hps, List.mem_append] at hp
    exact Or.inr hp
  · obtain ⟨_, _, _, _, _, hz, hn⟩ := hW
    refine ⟨hok, _, _, ([] ++ pa) ++ pv, ⟨[] ++ pa, pv, trodAll_append (hargs _ (fun _ _ => rfl)) (hres _ _ _), hvars _ (fun _ _ => rfl), rfl, ?_, ?_⟩, ?_⟩
    · intro b off hp
      have hin : MemPlace.cell b off ∈ before := by rw [hps]; simpa using hp
      rw [hb.frozen (hlt _ hin)]
      exact hz b off hin
    · intro ha
      have := hn ha
      rw [hps] at this
      simpa using this
    · intro p hp _
      rw [hps]
      simpa using hp
end

end Go.Proofs.YtfokiijcpkhllaaDoor

/- Frame: models as arguments. -/
namespace Go.Proofs.YtfokiijcpkhllaaDoor
open Go.ChangeShapes Go.WideShapes Go.ChangeAt Go.RowKit Go.Deep
variable {H : Type} {enc : TypeId × Value → H}

/-- Five arguments. -/
theorem trodAll_five {enc : TypeId × Value → H} {P : Program} {w : World} {base : Nat} {sp : Nat → Bool} {held : Bool} {t0 t1 t2 t3 t4 : TypeId} {args : Array Value} {ds : List (DataW H)} {ps : List MemPlace} (h : DataW.TrodAll enc P w base sp held [t0, t1, t2, t3, t4] args.toList ds ps) :
    ∃ v0 v1 v2 v3 v4 d0 d1 d2 d3 d4 p0 p1 p2 p3 p4, args = #[v0, v1, v2, v3, v4] ∧ ds = [d0, d1, d2, d3, d4] ∧ ps = p0 ++ p1 ++ p2 ++ p3 ++ p4 ∧ DataW.Trod enc P w base sp held t0 v0 d0 p0 ∧ DataW.Trod enc P w base sp held t1 v1 d1 p1 ∧ DataW.Trod enc P w base sp held t2 v2 d2 p2 ∧ DataW.Trod enc P w base sp held t3 v3 d3 p3 ∧ DataW.Trod enc P w base sp held t4 v4 d4 p4 := by
  obtain ⟨v0, _, d0, _, p0, _, ha, rfl, rfl, k0, h⟩ := trodAll_cons h
  obtain ⟨v1, _, d1, _, p1, _, rfl, rfl, rfl, k1, h⟩ := trodAll_cons h
  obtain ⟨v2, _, d2, _, p2, _, rfl, rfl, rfl, k2, h⟩ := trodAll_cons h
  obtain ⟨v3, _, d3, _, p3, _, rfl, rfl, rfl, k3, h⟩ := trodAll_cons h
  obtain ⟨v4, _, d4, _, p4, _, rfl, rfl, rfl, k4, h⟩ := trodAll_cons h
  obtain ⟨rfl, rfl, rfl⟩ := trodAll_nil h
  exact ⟨v0, v1, v2, v3, v4, d0, d1, d2, d3, d4, p0, p1, p2, p3, p4, by cases args; simp_all, rfl, by simp, k0, k1, k2, k3, k4⟩

end Go.Proofs.YtfokiijcpkhllaaDoor

/- Small laws on what a law's walk compares. -/
namespace Go.Proofs.YtfokiijcpkhllaaDoor
open Go.RowKit

theorem OwnG.shape {w : World} {base : Nat} {v : Value} {g : List (List Int)} (h : OwnG w base v g) : ∃ p c, v = .agg #[.slice p g.length c] := by
  obtain ⟨u, rfl, vals, _, h2, _⟩ := h
  rcases h2.2 with ⟨rfl, h0⟩ | ⟨b, c, _, rfl, _⟩
  · exact ⟨none, 0, by rw [h0]⟩
  · exact ⟨_, _, rfl⟩
theorem owns_shape {w : World} {base : Nat} {E : TypeId} {size n : Nat} {v : Value} {xs : List Value} (h : w.ownsRow base E size v n xs) : ∃ p c, v = .slice p n c := by
  rcases h.2 with ⟨rfl, rfl⟩ | ⟨b, c, _, rfl, _⟩
  · exact ⟨none, 0, rfl⟩
  · exact ⟨_, _, rfl⟩
end Go.Proofs.YtfokiijcpkhllaaDoor

/- Small laws on rows of numbers that a law's walk compares. -/
namespace Go.Proofs.YtfokiijcpkhllaaDoor
open Go.RowKit

theorem rws_gr {w : World} {u : Value} {g : List (List Int)} (h : Gr w (.agg #[u]) g) : Rws w 32 2 u g := by
  obtain ⟨u', he, hr⟩ := h
  cases he
  exact hr
theorem DG.shape1 {w : World} {base : Nat} {u : Value} {g : List (List Int)} (h : DG w base (.agg #[u]) g) : ∃ p c, u = .slice p g.length c := by
  obtain ⟨p, c, e⟩ := h.shape
  cases e
  exact ⟨p, c, rfl⟩
theorem SG.shape1 {w : World} {base : Nat} {u : Value} {g : List (List Int)} (h : SG w base (.agg #[u]) g) : ∃ p c, u = .slice p g.length c := by
  obtain ⟨p, c, e⟩ := h.shape
  cases e
  exact ⟨p, c, rfl⟩
end Go.Proofs.YtfokiijcpkhllaaDoor

/- Walks: marks of several arguments in turn: what a mark returns is bounded by what it began with. -/
namespace Go.Proofs.YtfokiijcpkhllaaDoor
open Go.RowKit

/-- Rows in blocks from lo on and below hi. -/
def InR (w : World) (lo hi : Nat) (u : Value) (g : List (List Int)) : Prop :=
  ∃ vals, vals.length = g.length ∧ w.ownsRow lo 32 1 u g.length vals ∧ (∀ b, u.ownBlock = some b → b < hi) ∧
    ∀ j, j < g.length → w.ownsRow lo 2 1 (vals.getD j undef) (row g j).length ((row g j).map (Value.int .i64)) ∧ ∀ b, (vals.getD j undef).ownBlock = some b → b < hi
theorem InR.of_own {w : World} {lo : Nat} {u : Value} {g : List (List Int)} (h : OwnRws w lo u g) : InR w lo w.heap.size u g := by
  obtain ⟨vals, h1, h2, h3⟩ := h
  exact ⟨vals, h1, h2, fun b hb => (h2.lt b hb).2, fun j hj => ⟨h3 j hj, fun b hb => ((h3 j hj).lt b hb).2⟩⟩
theorem InR.below {w w' : World} {lo hi : Nat} {u : Value} {g : List (List Int)} (h : InR w lo hi u g) (hb : Below w.heap.size w w') : InR w' lo hi u g := by
  obtain ⟨vals, h1, h2, h3, h4⟩ := h
  exact ⟨vals, h1, ownsRow_below h2 hb, h3, fun j hj => ⟨ownsRow_below (h4 j hj).1 hb, (h4 j hj).2⟩⟩
theorem InR.own {w : World} {lo hi : Nat} {u : Value} {g : List (List Int)} (h : InR w lo hi u g) : OwnRws w lo u g := by
  obtain ⟨vals, h1, h2, h3, h4⟩ := h
  exact ⟨vals, h1, h2, fun j hj => (h4 j hj).1⟩
theorem InR.apart_hi {w w' : World} {lo hi lo' hi' : Nat} {u : Value} {g : List (List Int)} (h : InR w lo hi u g) (ha : Apart lo' hi' w w') (hl : hi' ≤ lo) : InR w' lo hi u g := by
  obtain ⟨vals, h1, h2, h3, h4⟩ := h
  exact ⟨vals, h1, ownsRow_apart_hi h2 ha hl, h3, fun j hj => ⟨ownsRow_apart_hi (h4 j hj).1 ha hl, (h4 j hj).2⟩⟩
theorem InG.apart_hi {w w' : World} {lo hi lo' hi' : Nat} {v : Value} {g : List (List Int)} (h : InG w lo hi v g) (ha : Apart lo' hi' w w') (hl : hi' ≤ lo) : InG w' lo hi v g := by
  obtain ⟨u, vals, h0, h1, h2, h3, h4⟩ := h
  exact ⟨u, vals, h0, h1, ownsRow_apart_hi h2 ha hl, h3, fun j hj => ⟨ownsRow_apart_hi (h4 j hj).1 ha hl, (h4 j hj).2⟩⟩
end Go.Proofs.YtfokiijcpkhllaaDoor

/- Walks: the laws on models: like those on graphs. -/
namespace Go.Proofs.YtfokiijcpkhllaaDoor
open Go.RowKit

end Go.Proofs.YtfokiijcpkhllaaDoor

/- Walks: the laws on models as arguments: like those on graphs. -/
namespace Go.Proofs.YtfokiijcpkhllaaDoor
open Go.RowKit

end Go.Proofs.YtfokiijcpkhllaaDoor

/- Plain: models of a pattern in a graph; a model of a model. -/
namespace Go.Proofs.YtfokiijcpkhllaaDoor

/-- The first sets are sets of vertices, no two of which meet. -/
def MdTo (g M : List (List Int)) (k : Nat) : Prop := ∀ a, a < k → SetIn g.length (row M a) ∧ ∀ b, b < a → ∀ x ∈ row M a, x ∉ row M b
def MdW (g M : List (List Int)) : Prop := (GOk g ∧ M.length ≤ 16) ∧ MdTo g M M.length
/-- An edge joins two sets. -/
def JoinP (g : List (List Int)) (A B : List Int) : Prop := ∃ x ∈ A, ∃ y ∈ B, y ∈ row g x.toNat
/-- The edges of the pattern up to one. -/
def JnTo (g p M : List (List Int)) (i : Nat) : Prop := ∀ e ∈ (edN p.length (ofG p) p.length).take i, JoinP g (row M e.1) (row M e.2)
def MdOk (g p M : List (List Int)) : Prop := ((MdW g M ∧ GOk p) ∧ M.length = p.length) ∧ (∀ a, a < M.length → ConnS g (row M a)) ∧ ∀ e ∈ edN p.length (ofG p) p.length, JoinP g (row M e.1) (row M e.2)

theorem MdTo.zero (g M : List (List Int)) : MdTo g M 0 := fun _ h => absurd h (Nat.not_lt_zero _)
theorem MdTo.snoc {g M : List (List Int)} {k : Nat} (h : MdTo g M k) (h1 : SetIn g.length (row M k)) (h2 : ∀ b, b < k → ∀ x ∈ row M k, x ∉ row M b) : MdTo g M (k + 1) := fun a ha => by
  by_cases e : a < k
  · exact h a e
  · obtain rfl : a = k := by omega
    exact ⟨h1, h2⟩

/-- The word of a model: of each vertex whether a set has it. -/
structure WrdI (n : Nat) (M : List (List Int)) (i k : Nat) (F : List Int) : Prop where
  len : F.length = n
  sgn : ∀ x, x < n → (0 < F.getD x 0 ↔ (∃ a, a < i ∧ (x : Int) ∈ row M a) ∨ (x : Int) ∈ (row M i).take k)
theorem WrdI.start (n : Nat) (M : List (List Int)) : WrdI n M 0 0 (List.replicate n 0) := by
  refine ⟨by simp, fun x hx => ?_⟩
  have h1 : (List.replicate n (0 : Int)).getD x 0 = 0 := by simp [List.getD_eq_getElem?_getD, hx]
  rw [h1]
  simp
theorem WrdI.put {n : Nat} {M : List (List Int)} {i k x : Nat} {F : List Int} (h : WrdI n M i k F) (hk : k < (row M i).length) (hx : (row M i)[k] = (x : Int)) (hn : x < n) (z : Int) (hz : 0 < z) : WrdI n M i (k + 1) (F.set x z) := by
  refine ⟨by rw [List.length_set]; exact h.len, fun y hy => ?_⟩
  rw [take_snoc' _ k hk, hx, List.mem_append, ← or_assoc, ← h.sgn y hy]
  rw [List.getD_eq_getElem?_getD, List.getElem?_set]
  by_cases e : x = y
  · subst e
    simp [h.len, hn, hz]
  · rw [if_neg e, ← List.getD_eq_getElem?_getD]
    have e' : ¬ ((y : Int) = (x : Int)) := by omega
    simp [e']
theorem WrdI.next {n : Nat} {M : List (List Int)} {i : Nat} {F : List Int} (h : WrdI n M i (row M i).length F) : WrdI n M (i + 1) 0 F := by
  refine ⟨h.len, fun y hy => ?_⟩
  rw [h.sgn y hy, List.take_length]
  simp only [List.take_zero, List.not_mem_nil, or_false]
  constructor
  · rintro (⟨a, ha, h1⟩ | h1)
    · exact ⟨a, by omega, h1⟩
    · exact ⟨i, by omega, h1⟩
  · rintro ⟨a, ha, h1⟩
    by_cases e : a < i
    · exact .inl ⟨a, e, h1⟩
    · obtain rfl : a = i := by omega
      exact .inr h1
/-- A vertex that two sets have. -/
theorem wrd_twice {g M : List (List Int)} {i k x : Nat} {F : List Int} (h : WrdI g.length M i k F) (hs : SetIn g.length (row M i)) (hk : k < (row M i).length) (hx : (row M i)[k] = (x : Int)) (hn : x < g.length) (hF : 0 < F.getD x 0) (hi : i < M.length) : ¬ MdTo g M M.length := by
  intro hm
  have hmem : (x : Int) ∈ row M i := by rw [← hx]; exact List.getElem_mem hk
  rcases (h.sgn x hn).1 hF with ⟨a, ha, h1⟩ | h1
  · exact (hm i hi).2 a ha _ hmem h1
  · obtain ⟨j, hj, e⟩ := List.getElem_of_mem h1
    rw [List.length_take] at hj
    rw [List.getElem_take] at e
    have := (List.pairwise_iff_getElem.1 hs.2) j k (by omega) hk (by omega)
    rw [hx, e] at this
    omega
theorem wrd_new {g M : List (List Int)} {i k x : Nat} {F : List Int} (h : WrdI g.length M i k F) (hn : x < g.length) (hF : ¬ 0 < F.getD x 0) : ∀ b, b < i → (x : Int) ∉ row M b := fun b hb k1 => hF ((h.sgn x hn).2 (.inl ⟨b, hb, k1⟩))

/-- The sets of a model of a model. -/
def CmpS (M W R : List (List Int)) : Prop := R.length = W.length ∧ ∀ i, i < W.length → (row R i).Pairwise (· < ·) ∧ ∀ x, x ∈ row R i ↔ ∃ k ∈ row W i, x ∈ row M k.toNat
theorem cmpS_det {M W R R' : List (List Int)} (h : CmpS M W R) (h' : CmpS M W R') : R = R' := by
  refine graph_ext (by rw [h.1, h'.1]) fun r hr => ?_
  rw [h.1] at hr
  refine rising_ext_int _ _ (h.2 r hr).1 (h'.2 r hr).1 fun x => ?_
  rw [(h.2 r hr).2, (h'.2 r hr).2]
/-- What ComposedModel returns. -/
def CmS (g p M q W R : List (List Int)) (ok : Bool) : Prop := (MdOk g p M ∧ MdOk p q W ∧ CmpS M W R ∧ ok = true) ∨ (¬ (MdOk g p M ∧ MdOk p q W) ∧ R = [] ∧ ok = false)
theorem cmS_det {g p M q W R R' : List (List Int)} {ok ok' : Bool} (h : CmS g p M q W R ok) (h' : CmS g p M q W R' ok') : R = R' ∧ ok = ok' := by
  rcases h with ⟨h1, h2, h3, h4⟩ | ⟨h1, h2, h3⟩ <;> rcases h' with ⟨k1, k2, k3, k4⟩ | ⟨k1, k2, k3⟩
  · exact ⟨cmpS_det h3 k3, by rw [h4, k4]⟩
  · exact absurd ⟨h1, h2⟩ k1
  · exact absurd ⟨k1, k2⟩ h1
  · exact ⟨by rw [h2, k2], by rw [h3, k3]⟩

/-- An edge of the graph between two sets, as the reference looks for it. -/
def BtwE (A B : List Int) (e : Nat × Nat) : Prop := ((e.1 : Int) ∈ A ∧ (e.2 : Int) ∈ B) ∨ ((e.2 : Int) ∈ A ∧ (e.1 : Int) ∈ B)
theorem mem_edN' {n : Nat} {E : Nat → Nat → Bool} {a b : Nat} (h1 : a < b) (h2 : b < n) (h3 : E a b = true) : (a, b) ∈ edN n E n := by
  simp only [edN, edRow, List.mem_flatMap, List.mem_range, List.mem_map, List.mem_filter, Bool.and_eq_true, decide_eq_true_eq]
  exact ⟨a, by omega, b, ⟨h2, h1, h3⟩, rfl⟩
theorem join_btw {g : List (List Int)} (hg : GOk g) {A B : List Int} (hA : SetIn g.length A) : JoinP g A B ↔ ∃ e ∈ edN g.length (ofG g) g.length, BtwE A B e := by
  constructor
  · rintro ⟨x, hx, y, hy, h⟩
    have hx1 := hA.1 x hx
    have hxr : x.toNat < g.length := by omega
    have hs := hg.sets x.toNat hxr
    have hy1 := hs.1.1 y h
    have hyr : y.toNat < g.length := by omega
    have hne : y ≠ x := fun e => hs.2 (by rw [Int.toNat_of_nonneg hx1.1]; exact e ▸ h)
    have hsym := hg.both x.toNat hxr y h
    have ex : ((x.toNat : Nat) : Int) = x := by omega
    have ey : ((y.toNat : Nat) : Int) = y := by omega
    by_cases e : x < y
    · exact ⟨(x.toNat, y.toNat), mem_edN' (by omega) hyr (by simp only [ofG, decide_eq_true_eq]; rw [ey]; exact h), .inl ⟨by show ((x.toNat : Nat) : Int) ∈ A; rw [ex]; exact hx, by show ((y.toNat : Nat) : Int) ∈ B; rw [ey]; exact hy⟩⟩
    · exact ⟨(y.toNat, x.toNat), mem_edN' (by omega) hxr (by simp only [ofG, decide_eq_true_eq]; exact hsym), .inr ⟨by show ((x.toNat : Nat) : Int) ∈ A; rw [ex]; exact hx, by show ((y.toNat : Nat) : Int) ∈ B; rw [ey]; exact hy⟩⟩
  · rintro ⟨e, he, h⟩
    obtain ⟨h1, h2, _, h4⟩ := mem_edN (Nat.le_refl _) he
    simp only [ofG, decide_eq_true_eq] at h4
    rcases h with ⟨k1, k2⟩ | ⟨k1, k2⟩
    · exact ⟨_, k1, _, k2, by simpa using h4⟩
    · refine ⟨_, k1, _, k2, ?_⟩
      have := hg.both e.1 h1 _ h4
      simpa using this

end Go.Proofs.YtfokiijcpkhllaaDoor

/- Walk: the reference's word of a model. -/
namespace Go.Proofs.YtfokiijcpkhllaaDoor
open Go.RowKit

set_option maxRecDepth 100000 in
set_option maxHeartbeats 4000000 in
theorem specModelWord_any (v mv : Value) (g M : List (List Int)) (hgl : g.length ≤ 1000000000) (w : World) (hg : Gr w v g) (hm : Gr w mv M) :
    Calls Tryd.prog 88 #[v, mv] w fun e w' => ∃ ov, e = .returned (.tuple #[ov, .bool (dec (MdW g M))]) ∧ Below w.heap.size w w' := by
  have hg0 := hg
  obtain ⟨u, rfl, hr⟩ := hg
  obtain ⟨p, c, rfl, _⟩ := hr.shape
  obtain ⟨mu, rfl, hs⟩ := hm
  obtain ⟨sp, sc, rfl, _, hsc, hsl⟩ := hs.shape
  obtain ⟨W0, hW0⟩ : ∃ W0, W0 = (w.alloc (.cells #[.slice p g.length c] 29)).alloc (.cells #[.slice sp M.length sc] 49) := ⟨_, rfl⟩
  have hbA : Hid (Below w.heap.size w W0) := Lib.hid (by rw [hW0]; exact below_alloc2 _ _ _)
  have HG := Lib.hid (hg0.below hbA.out)
  have HS := Lib.hid (hs.below hbA.out)
  have BX : Hid (Box W0 w.heap.size 29 (.slice p g.length c)) := Lib.hid (by rw [hW0]; exact (Box.new _ _ _).alloc _)
  have BY : Hid (Box W0 (w.heap.size + 1) 49 (.slice sp M.length sc)) := Lib.hid (by
    rw [hW0]
    have := Box.new (w.alloc (.cells #[.slice p g.length c] 29)) (.slice sp M.length sc) 49
    rw [size_alloc] at this
    exact this)
  have SZ0 := Lib.hid (show W0.heap.size = w.heap.size + 2 by rw [hW0, size_alloc, size_alloc])
  clear hr hg0 hs
  by_cases hok : GOk g
  case neg =>
    have hd := Lib.hid (dec_false hok)
    have HD := Lib.hid (dec_false (show ¬ MdW g M from fun h => hok h.1.1))
    clear hok
    go_enter Tryd.func88, Tryd.ntmps88
    go_upto_region 1 with fail
    rw [← hW0]
    clear hW0
    have hcx := BX.out.cell
    go_wp2_with (go_at_call 50; refine (specGraphOk_any _ g _ HG.out).mono ?_; rintro e w2 ⟨he, hb2⟩; rw [hd.out] at he; subst he)
    go_ret2
    exact ⟨_, by rw [HD.out]; rfl, (hbA.out.trans (hb2.mono hbA.out.size)).alloc (Nat.le_trans hbA.out.size hb2.size) _⟩
  have hd := Lib.hid (dec_true hok)
  have h16 := hok.le
  have Hok := Lib.hid hok
  clear hok
  by_cases h80 : M.length ≤ 16
  case neg =>
    have h80' : ¬ (M.length : Int) ≤ 16 := by omega
    have HD := Lib.hid (dec_false (show ¬ MdW g M from fun h => h80 h.1.2))
    clear h80
    go_enter Tryd.func88, Tryd.ntmps88
    go_upto_region 1 with fail
    rw [← hW0]
    clear hW0
    have hcx := BX.out.cell
    go_wp2_with (go_at_call 50; refine (specGraphOk_any _ g _ HG.out).mono ?_; rintro e w2 ⟨he, hb2⟩; rw [hd.out] at he; subst he; have hcy := (BY.out.keep hb2).cell)
    go_ret2
    exact ⟨_, by rw [HD.out]; rfl, (hbA.out.trans (hb2.mono hbA.out.size)).alloc (Nat.le_trans hbA.out.size hb2.size) _⟩
  have h80' : (M.length : Int) ≤ 16 := by omega
  have HOK16 : Hid (GOk g ∧ M.length ≤ 16) := Lib.hid ⟨Hok.out, h80⟩
  go_enter Tryd.func88, Tryd.ntmps88
  go_upto_region 1 with fail
  rw [← hW0]
  clear hW0
  have hcx := BX.out.cell
  go_upto_region 4 with (first
    | (at_make; refine wpList_mk ty_i64 rfl rfl rfl g.length rfl rfl rfl rfl (by omega) ?_; intro w4 hown4 hg4)
    | (go_at_call 50; refine (specGraphOk_any _ g _ HG.out).mono ?_; rintro e w2 ⟨he, hb2⟩; rw [hd.out] at he; subst he; have hcy := (BY.out.keep hb2).cell; have hcx2 := (BX.out.keep hb2).cell))
  have hb4 := grown_below hg4
  have hb04 : Hid (Below W0.heap.size W0 w4) := Lib.hid (hb2.trans (hb4.mono hb2.size))
  have HO4 := Lib.hid hown4
  have h24 : W0.heap.size ≤ w2.heap.size := hb2.size
  obtain ⟨ob, hob⟩ : ∃ ob, ob = w2.heap.size := ⟨_, rfl⟩
  rw [← hob] at HO4 h24 ⊢
  clear hb2 hb4 hg4 hown4 hcx hcx2 hcy hob
  go_wp2_with fail
  go_loopw [7] (fun iv wr => ∃ (i : Nat) (F : List Int), i ≤ M.length ∧ iv = .int .i64 i ∧ Hid (MdTo g M i) ∧ Hid (WrdI g.length M i 0 F) ∧ wr.ownsRow ob 2 1 (.slice (some ⟨ob, 0, none⟩) g.length g.length) g.length (F.map (Value.int .i64)) ∧ Below W0.heap.size W0 wr) (fun iv _ => M.length - (intOf iv).toNat)
  case atStart => exact ⟨0, _, Nat.zero_le _, rfl, Lib.hid (MdTo.zero g M), Lib.hid (WrdI.start g.length M), by rw [List.map_replicate]; exact HO4.out, hb04.out⟩
  case round =>
    clear HO4 hb04
    obtain ⟨i, F, hi, rfl, HTO, HF, hown, hb⟩ := hrel
    have HB := Lib.hid hb
    have HO := Lib.hid hown
    have hcx := hb.at (by have := SZ0.out; omega) BX.out.cell
    have hcy := hb.at (by have := SZ0.out; omega) BY.out.cell
    by_cases hlt : i < M.length
    · obtain ⟨sb, so, rp, rc, rfl, hce, hne⟩ := (HS.out.below hb).get (k := i) hlt
      replace hce : wr.cell? ⟨sb, so + i, none⟩ = some (.slice rp (row M i).length rc) := hce
      replace hne : Nums wr 2 .i64 (.slice rp (row M i).length rc) (row M i) := hne
      have HNI := Lib.hid hne
      obtain ⟨rl, hrl⟩ : ∃ rl, rl = (row M i).length := ⟨_, rfl⟩
      rw [← hrl] at hce HNI
      clear hne hb hrl hown
      go_upto_region 7 with fail
      go_cut [37] (fun s37 wx => s37 = .bool (!dec (GOk g ∧ SetIn g.length (row M i))) ∧ Below wr.heap.size wr wx)
      case first =>
        go_region_held3 (fun w' => w'.cell? ⟨w.heap.size, 0, none⟩ = some (.slice p g.length c) ∧ w'.cell? ⟨w.heap.size + 1, 0, none⟩ = some (.slice (some ⟨sb, so, none⟩) M.length sc) ∧ w'.cell? ⟨sb, so + i, none⟩ = some (.slice rp rl rc))
          (first | exact ⟨hcx, hcy, hce⟩ | exact ⟨hb4'.at' hcx, hb4'.at' hcy, hb4'.at' hce⟩ | go_keep)
          (first | (go_at_call 56; refine (specSetOk_any _ _ g (row M i) hgl _ (HG.out.below (HB.out.trans (below_dN (Below.refl _ _) 1))) (HNI.out.below (below_dN (Below.refl _ _) 1))).mono ?_; rintro e w4 ⟨rfl, hb4⟩; have hb4' : Below wr.heap.size wr w4 := (below_dN (Below.refl _ _) 1).trans hb4))
        all_goals go_wp2
        all_goals go_meet
        all_goals exact ⟨rfl, hb4'⟩
      case rest =>
      obtain ⟨rfl, hbc⟩ := hcut
      have HBC := Lib.hid (HB.out.trans (hbc.mono HB.out.size))
      have HOC := Lib.hid (ownsRow_below HO.out hbc)
      clear hce hbc HNI HO hcx hcy
      by_cases hcn : GOk g ∧ SetIn g.length (row M i)
      case neg =>
        have HNB := Lib.hid (dec_false (show ¬ MdW g M from fun h => hcn ⟨h.1.1, (h.2 i hlt).1⟩))
        rw [dec_false hcn]
        clear hcn
        go_wp2_with fail
        go_ret2
        exact ⟨_, by rw [HNB.out]; rfl, (hbA.out.trans (HBC.out.mono hbA.out.size)).alloc (Nat.le_trans hbA.out.size HBC.out.size) _⟩
      have HCN := Lib.hid hcn.2
      rw [dec_true hcn]
      clear hcn
      go_wp2_with fail
      go_loopw [8] (fun kv wr => ∃ (k : Nat) (F : List Int), k ≤ (row M i).length ∧ kv = .int .i64 k ∧ Hid (∀ y ∈ (row M i).take k, ∀ b, b < i → y ∉ row M b) ∧ Hid (WrdI g.length M i k F) ∧ wr.ownsRow ob 2 1 (.slice (some ⟨ob, 0, none⟩) g.length g.length) g.length (F.map (Value.int .i64)) ∧ Below W0.heap.size W0 wr) (fun kv _ => (row M i).length - (intOf kv).toNat)
      case atStart => exact ⟨0, F, Nat.zero_le _, rfl, Lib.hid (fun y hy => by simp at hy), HF, HOC.out, HBC.out⟩
      case round =>
        clear HBC HB HOC HF
        obtain ⟨k, F, hk, rfl, HNW, HF, hown, hb⟩ := hrel
        have HB := Lib.hid hb
        have HO := Lib.hid hown
        have hcx := hb.at (by have := SZ0.out; omega) BX.out.cell
        have hcy := hb.at (by have := SZ0.out; omega) BY.out.cell
        obtain ⟨_, _, rp, rc, e, hce, hne⟩ := (HS.out.below hb).get (k := i) hlt
        simp only [Option.some.injEq, Addr.mk.injEq, and_true] at e
        obtain ⟨rfl, rfl⟩ := e
        replace hce : wr.cell? ⟨sb, so + i, none⟩ = some (.slice rp (row M i).length rc) := hce
        replace hne : Nums wr 2 .i64 (.slice rp (row M i).length rc) (row M i) := hne
        by_cases hltk : k < (row M i).length
        · obtain ⟨qb, qo, rfl, hq⟩ := hne.get (k := k) hltk
          obtain ⟨x, hx⟩ : ∃ x : Nat, (row M i)[k] = (x : Int) := ⟨(row M i)[k].toNat, by have := HCN.out.1 _ (List.getElem_mem hltk); omega⟩
          have hxn : x < g.length := by have := HCN.out.1 _ (List.getElem_mem hltk); omega
          rw [hx] at hq
          have HX := Lib.hid hx
          have HLK := Lib.hid hltk
          have hFl := HF.out.len
          have hxc : wr.cell? ⟨ob, x, none⟩ = some (.int .i64 (F.getD x 0)) := by rw [hown.cellAt x (by omega)]; simp [List.getD_eq_getElem?_getD, hFl, hxn]
          have hfu := hown.frozenAt x
          obtain ⟨rl, hrl⟩ : ∃ rl, rl = (row M i).length := ⟨_, rfl⟩
          have hr16 := setIn_length (by omega) HCN.out
          rw [← hrl] at hce hltk hk hr16
          obtain ⟨z, hz⟩ : ∃ z, z = F.getD x 0 := ⟨_, rfl⟩
          rw [← hz] at hxc
          have HRL := Lib.hid hrl
          have HZ := Lib.hid hz
          have hwr : IntKind.i64.wrap ((i : Int) + 1) = (i : Int) + 1 := by rw [IntKind.wrap_i64]; omega
          clear hne hx hown hFl hrl hz hb
          by_cases hF : 0 < z
          · have HNB := Lib.hid (dec_false (show ¬ MdW g M from fun h => wrd_twice HF.out HCN.out HLK.out HX.out hxn (by rw [← HZ.out]; exact hF) hlt h.2))
            go_wp2_with fail
            go_ret2
            exact ⟨_, by rw [HNB.out]; rfl, (hbA.out.trans (HB.out.mono hbA.out.size)).alloc (Nat.le_trans hbA.out.size HB.out.size) _⟩
          · have HNF := Lib.hid hF
            go_wp2_with fail
            go_roundw
            case rel =>
              refine ⟨k + 1, F.set x ((i : Int) + 1), by have := HRL.out; omega, by go_num, Lib.hid (fun y hy b hbi => ?_), Lib.hid (HF.out.put HLK.out HX.out hxn _ (by omega)), by rw [List.map_set]; exact (HO.out.stored x _).1, HB.out.setCell (p := ⟨ob, x, none⟩) h24 _⟩
              rw [take_snoc' _ k HLK.out, HX.out] at hy
              rcases List.mem_append.1 hy with h1 | h1
              · exact HNW.out y h1 b hbi
              · obtain rfl : y = (x : Int) := by simpa using h1
                exact wrd_new HF.out hxn (by rw [← HZ.out]; exact HNF.out) b hbi
            case measure => have := HRL.out; simp [intOf]; omega
        · obtain rfl : k = (row M i).length := by omega
          have HNW2 : Hid (∀ y ∈ row M i, ∀ b, b < i → y ∉ row M b) := Lib.hid (by have := HNW.out; rwa [List.take_length] at this)
          have HF2 := Lib.hid HF.out.next
          clear hne hown hb HNW HF
          go_wp2_with fail
          go_roundw
          case rel => exact ⟨i + 1, F, by omega, by go_num, Lib.hid (HTO.out.snoc HCN.out (fun b hbi x hx => HNW2.out x hx b hbi)), HF2, HO.out, HB.out⟩
          case measure => simp [intOf]; omega
    · obtain rfl : i = M.length := by omega
      have HY := Lib.hid (dec_true (show MdW g M from ⟨HOK16.out, HTO.out⟩))
      clear hown hb
      go_wp2_with fail
      go_ret2
      exact ⟨_, by rw [HY.out]; rfl, hbA.out.trans (HB.out.mono hbA.out.size)⟩

end Go.Proofs.YtfokiijcpkhllaaDoor
