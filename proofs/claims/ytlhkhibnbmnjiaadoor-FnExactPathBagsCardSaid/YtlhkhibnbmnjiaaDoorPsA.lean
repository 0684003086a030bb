/- Walk: the reference's parts. -/
import Derived.Test.YtlhkhibnbmnjiaaDoorReA
import Derived.Test.YtlhkhibnbmnjiaaDoorResults
import Derived.Test.YtlhkhibnbmnjiaaDoorLink
import Derived.Deep.RegionHeld3
import Derived.Deep.DeepCutAuto
namespace Go.Proofs.YtlhkhibnbmnjiaaDoor
open Go.RowKit

theorem rising_sub_len {L D : List Nat} (hL : L.Pairwise (· < ·)) (hD : D.Pairwise (· < ·)) (h : ∀ x ∈ D, x ∈ L) : D.length ≤ L.length := by
  have e : D = L.filter (fun x => decide (x ∈ D)) := rising_ext _ _ hD (List.Pairwise.filter _ hL) fun x => by
    rw [List.mem_filter]
    exact ⟨fun hx => ⟨h x hx, by simpa using hx⟩, fun hx => by simpa using hx.2⟩
  rw [e]
  exact List.length_filter_le _ _
theorem row_parts {ps : List (List Nat)} {j : Nat} (h : j < ps.length) : row (ps.map natInts) j = natInts ps[j] := by simp [row, h]
theorem SG.snocP {w w' : World} {base : Nat} {u u' rv : Value} {ps : List (List Nat)} {p : List Nat} {vals : List Value} (hl : vals.length = ps.length) (ho : w.ownsRow base 25 1 u ps.length vals) (hr : ∀ j, j < ps.length → Nums w 2 .i64 (vals.getD j undef) (row (ps.map natInts) j))
    (ho' : w'.ownsRow base 25 1 u' (ps.length + 1) (vals ++ [rv])) (hg : w.grownBy w' u.ownBlock) (hn : Nums w 2 .i64 rv (natInts p)) : SG w' base (.agg #[u']) ((ps ++ [p]).map natInts) := by
  refine ⟨u', vals ++ [rv], rfl, by simp [hl], by rw [List.length_map, List.length_append]; exact ho', fun j hj => ?_⟩
  rw [List.length_map, List.length_append] at hj
  by_cases h : j < ps.length
  · rw [getD_append_left _ _ _ _ (by omega)]
    have e2 : row ((ps ++ [p]).map natInts) j = row (ps.map natInts) j := by rw [row_parts (by rw [List.length_append]; omega), row_parts h]; simp [h]
    rw [e2]
    exact (hr j h).other ho hg (by decide)
  · have hj' : j = ps.length := by simp at hj; omega
    subst hj'
    rw [← hl, getD_append_last, hl]
    have e2 : row ((ps ++ [p]).map natInts) ps.length = natInts p := by rw [row_parts (by rw [List.length_append]; simp)]; simp
    rw [e2]
    exact hn.other ho hg (by decide)

theorem sg_shape {w : World} {base : Nat} {u : Value} {g : List (List Int)} (h : SG w base (.agg #[u]) g) : ∃ p c, u = .slice p g.length c := by
  obtain ⟨u', vals, e, _, h3, _⟩ := h
  cases e
  exact owns_shapeR h3
theorem sg_base {w : World} {base base' : Nat} {v : Value} {g : List (List Int)} (h : SG w base v g) (hb : base' ≤ base) : SG w base' v g := by
  obtain ⟨u', vals, e, h2, h3, h4⟩ := h
  exact ⟨u', vals, e, h2, ownsRow_base h3 hb, h4⟩
structure PaW (W0 wr : World) (B : Nat) (gv : Value) (E : Nat → Nat → Bool) (L : List Nat) (o d : Value) (ps : List (List Nat)) (D : List Nat) (k : Nat) : Prop where
  pa : PaI E L ps D k
  out : SG wr B (.agg #[o]) (ps.map natInts)
  dn : Nums wr 2 .i64 d (natInts D)
  bel : Below W0.heap.size W0 wr
  box : Box wr W0.heap.size 28 gv
  hB : W0.heap.size < B
  hB2 : B ≤ wr.heap.size
theorem PaW.start' (w : World) (gv : Value) (E : Nat → Nat → Bool) (L : List Nat) :
    PaW w (((w.alloc (.cells #[gv] 28)).alloc (.cells #[] 25)).alloc (.cells #[] 2)) (w.heap.size + 1) gv E L (.slice (some ⟨w.heap.size + 1, 0, none⟩) 0 0) (.slice (some ⟨w.heap.size + 1 + 1, 0, none⟩) 0 0) [] [] 0 := by
  have s1 : (w.alloc (.cells #[gv] 28)).heap.size = w.heap.size + 1 := by show (w.heap.push _).size = _; simp
  have s2 : ((w.alloc (.cells #[gv] 28)).alloc (.cells #[] 25)).heap.size = w.heap.size + 1 + 1 := by show (Array.push _ _).size = _; rw [Array.size_push, s1]
  refine ⟨.start' E L, ⟨_, [], rfl, rfl, ?_, fun j hj => by simp at hj⟩, ?_, ?_, ?_, by omega, ?_⟩
  · exact ownsRow_below (ownsRow_empty' w _ _ _ _ (Nat.le_refl _)) (below_alloc _ _)
  · have := ownsRow_empty ((w.alloc (.cells #[gv] 28)).alloc (.cells #[] 25)) 2 1
    rw [s2] at this
    exact Nums.of_owns (xs := []) this rfl (by decide)
  · exact ((below_alloc w _).alloc (below_alloc w _).size _).alloc (by omega) _
  · exact ((Box.new w gv 28).alloc _).alloc _
  · have := (below_alloc ((w.alloc (.cells #[gv] 28)).alloc (.cells #[] 25)) (.cells #[] 2)).size
    omega
theorem PaW.skip {W0 wr : World} {B : Nat} {E : Nat → Nat → Bool} {L : List Nat} {gv o d : Value} {ps : List (List Nat)} {D : List Nat} {k : Nat} (h : PaW W0 wr B gv E L o d ps D k) (hi : k < L.length) (hd : L[k] ∈ D) : PaW W0 wr B gv E L o d ps D (k + 1) :=
  ⟨h.pa.skip hi hd, h.out, h.dn, h.bel, h.box, h.hB, h.hB2⟩
/-- While a part's vertices are written down. -/
structure PaV (W0 wr : World) (B : Nat) (gv o d pv : Value) (ps : List (List Nat)) (D P : List Nat) (t : Nat) (D2 : List Nat) : Prop where
  ris : D2.Pairwise (· < ·)
  mem : ∀ x, x ∈ D2 ↔ x ∈ D ∨ x ∈ P.take t
  out : SG wr B (.agg #[o]) (ps.map natInts)
  dn : Nums wr 2 .i64 d (natInts D2)
  prt : Nums wr 2 .i64 pv (natInts P)
  bel : Below W0.heap.size W0 wr
  box : Box wr W0.heap.size 28 gv
  hB : W0.heap.size < B
  hB2 : B ≤ wr.heap.size
theorem PaV.start' {W0 wr w4 : World} {B : Nat} {E : Nat → Nat → Bool} {L : List Nat} {gv o d pv : Value} {ps : List (List Nat)} {D P : List Nat} {k : Nat} (h : PaW W0 wr B gv E L o d ps D k) (hb : Below wr.heap.size wr w4) (hp : Nums w4 2 .i64 pv (natInts P)) : PaV W0 w4 B gv o d pv ps D P 0 D :=
  ⟨h.pa.ris, fun x => by simp, h.out.below hb, h.dn.below hb, hp, h.bel.trans (hb.mono h.bel.size), h.box.keep hb, h.hB, Nat.le_trans h.hB2 hb.size⟩
theorem PaV.next {W0 wr w4 : World} {B : Nat} {gv o d d' pv : Value} {ps : List (List Nat)} {D P D2 D3 : List Nat} {t : Nat} (h : PaV W0 wr B gv o d pv ps D P t D2) (ht : t < P.length) (hb : Below wr.heap.size wr w4) (hd : Nums w4 2 .i64 d' (natInts D3)) (hr : D3.Pairwise (· < ·)) (hm : ∀ x, x ∈ D3 ↔ x ∈ D2 ∨ x = P[t]) : PaV W0 w4 B gv o d' pv ps D P (t + 1) D3 :=
  ⟨hr, fun x => by
    rw [hm, h.mem, take_snoc _ t ht, List.mem_append, List.mem_singleton, or_assoc], h.out.below hb, hd, h.prt.below hb, h.bel.trans (hb.mono h.bel.size), h.box.keep hb, h.hB, Nat.le_trans h.hB2 hb.size⟩
theorem PaV.sub {W0 wr : World} {B : Nat} {E : Nat → Nat → Bool} {L : List Nat} {gv o d pv : Value} {ps : List (List Nat)} {D D2 : List Nat} {t u k : Nat} (h : PaV W0 wr B gv o d pv ps D (partL E L u) t D2) (hp : PaI E L ps D k) (hL : L.Pairwise (· < ·)) : D2.length ≤ L.length :=
  rising_sub_len hL h.ris fun x hx => ((h.mem x).1 hx).elim (hp.sub x) fun q => (mem_partL.1 (List.mem_of_mem_take q)).1

theorem PaW.take {W0 wr wv w7 : World} {B b7 c7 : Nat} {E : Nat → Nat → Bool} (hE : ∀ r j, E r j = true → E j r = true) {L : List Nat} (hL : L.Pairwise (· < ·)) {gv o d dv pv : Value} {ps : List (List Nat)} {D D2 : List Nat} {k y : Nat} {vals : List Value} (h : PaW W0 wr B gv E L o d ps D k)
    (hk : k < L.length) (hy : L[k]'hk = y) (hd : y ∉ D) (hv : PaV W0 wv B gv o dv pv ps D (partL E L y) (partL E L y).length D2)
    (hv1 : vals.length = ps.length) (hv2 : wv.ownsRow B 25 1 o ps.length vals) (hv3 : ∀ j, j < ps.length → Nums wv 2 .i64 (vals.getD j undef) (row (ps.map natInts) j))
    (ho : w7.ownsRow B 25 1 (.slice (some ⟨b7, 0, none⟩) (ps.length + 1) c7) (ps.length + 1) (vals ++ [pv])) (hg : wv.grownBy w7 o.ownBlock) :
    PaW W0 w7 B gv E L (.slice (some ⟨b7, 0, none⟩) (ps.length + 1) c7) dv (ps ++ [partL E L y]) D2 (k + 1) := by
  subst hy
  have hsz := hg.size
  have h1 := hv.hB
  have h2 := hv.hB2
  refine ⟨h.pa.take hE hL hk hd hv.ris (fun x => by rw [hv.mem, List.take_length]), SG.snocP hv1 hv2 hv3 ho hg hv.prt, hv.dn.other hv2 hg (by decide), below_grown hv.bel hv2 hg (by omega) (by omega), hv.box.grown hg fun e => ?_, hv.hB, by omega⟩
  have := (hv2.lt _ e.symm).1
  omega


end Go.Proofs.YtlhkhibnbmnjiaaDoor
