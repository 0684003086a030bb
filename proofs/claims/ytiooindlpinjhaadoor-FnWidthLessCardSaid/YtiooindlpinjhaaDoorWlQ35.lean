/- Frame: models as arguments. -/
import Derived.Test.YtiooindlpinjhaaDoorWlQ34
import Derived.Test.YtiooindlpinjhaaDoorWlQ26
import Derived.Test.YtiooindlpinjhaaDoorWlQ27
import Derived.Test.YtiooindlpinjhaaDoorWlQ11
import Derived.Test.YtiooindlpinjhaaDoorWlQ32
import Derived.Test.YtiooindlpinjhaaDoorWlQ23
import Derived.Test.YtiooindlpinjhaaDoorWlQ30
import Derived.Test.YtiooindlpinjhaaDoorWlQ2
import Derived.Test.YtiooindlpinjhaaDoorWlQ8
import Derived.Test.YtiooindlpinjhaaDoorWlQ33
namespace Go.Proofs.YtiooindlpinjhaaDoor
open Go.ChangeShapes Go.WideShapes Go.ChangeAt Go.RowKit Go.Deep
variable {H : Type} {enc : TypeId × Value → H}

/-- Five arguments. -/
theorem trodAll_five {enc : TypeId × Value → H} {P : Program} {w : World} {base : Nat} {sp : Nat → Bool} {held : Bool} {t0 t1 t2 t3 t4 : TypeId} {args : Array Value} {ds : List (DataW H)} {ps : List MemPlace} (h : DataW.TrodAll enc P w base sp held [t0, t1, t2, t3, t4] args.toList ds ps) :
    ∃ v0 v1 v2 v3 v4 d0 d1 d2 d3 d4 p0 p1 p2 p3 p4, args = #[v0, v1, v2, v3, v4] ∧ ds = [d0, d1, d2, d3, d4] ∧ ps = p0 ++ p1 ++ p2 ++ p3 ++ p4 ∧ DataW.Trod enc P w base sp held t0 v0 d0 p0 ∧ DataW.Trod enc P w base sp held t1 v1 d1 p1 ∧ DataW.Trod enc P w base sp held t2 v2 d2 p2 ∧ DataW.Trod enc P w base sp held t3 v3 d3 p3 ∧ DataW.Trod enc P w base sp held t4 v4 d4 p4 := by
  obtain ⟨v0, _, d0, _, p0, _, ha, rfl, rfl, k0, h⟩ := trodAll_cons h
  obtain ⟨v1, _, d1, _, p1, _, rfl, rfl, rfl, k1, h⟩ := trodAll_cons h
  obtain ⟨v2, _, d2, _, p2, _, rfl, rfl, rfl, k2, h⟩ := trodAll_cons h
  obtain ⟨v3, _, d3, _, p3, _, rfl, rfl, rfl, k3, h⟩ := trodAll_cons h
  obtain ⟨v4, _, d4, _, p4, _, rfl, rfl, rfl, k4, h⟩ := trodAll_cons h
  obtain ⟨rfl, rfl, rfl⟩ := trodAll_nil h
  exact ⟨v0, v1, v2, v3, v4, d0, d1, d2, d3, d4, p0, p1, p2, p3, p4, by cases args; simp_all, rfl, by simp, k0, k1, k2, k3, k4⟩

end Go.Proofs.YtiooindlpinjhaaDoor

/- Small laws on what a law's walk compares. -/
namespace Go.Proofs.YtiooindlpinjhaaDoor
open Go.RowKit

theorem OwnG.shape {w : World} {base : Nat} {v : Value} {g : List (List Int)} (h : OwnG w base v g) : ∃ p c, v = .agg #[.slice p g.length c] := by
  obtain ⟨u, rfl, vals, _, h2, _⟩ := h
  rcases h2.2 with ⟨rfl, h0⟩ | ⟨b, c, _, rfl, _⟩
  · exact ⟨none, 0, by rw [h0]⟩
  · exact ⟨_, _, rfl⟩
theorem owns_shape {w : World} {base : Nat} {E : TypeId} {size n : Nat} {v : Value} {xs : List Value} (h : w.ownsRow base E size v n xs) : ∃ p c, v = .slice p n c := by
  rcases h.2 with ⟨rfl, rfl⟩ | ⟨b, c, _, rfl, _⟩
  · exact ⟨none, 0, rfl⟩
  · exact ⟨_, _, rfl⟩
theorem eqInt64S_b (u v : Value) (xs ys : List Int) (h : xs = ys) (w : World) (hx : Nums w 2 .i64 u xs) (hy : Nums w 2 .i64 v ys) :
    Calls Tryd.prog 11 #[u, v] w fun e w' => e = .returned (.bool true) ∧ Below w.heap.size w w' :=
  (eqInt64S_any u v xs ys w hx hy).mono fun e w' ⟨he, q, hq⟩ => by
    subst hq
    rw [dec_true h] at he
    exact ⟨he, below_dN (Below.refl _ _) q⟩
theorem eqGraph_b (u v : Value) (g : List (List Int)) (w : World) (hx : Gr w u g) (hy : Gr w v g) :
    Calls Tryd.prog 12 #[u, v] w fun e w' => e = .returned (.bool true) ∧ Below w.heap.size w w' :=
  (eqGraph_any u v g g w hx hy).mono fun e w' ⟨he, hb⟩ => by
    rw [dec_true rfl] at he
    exact ⟨he, hb⟩

end Go.Proofs.YtiooindlpinjhaaDoor

/- Small laws on rows of numbers that a law's walk compares. -/
namespace Go.Proofs.YtiooindlpinjhaaDoor
open Go.RowKit

theorem rws_gr {w : World} {u : Value} {g : List (List Int)} (h : Gr w (.agg #[u]) g) : Rws w 26 2 u g := by
  obtain ⟨u', he, hr⟩ := h
  cases he
  exact hr
theorem DG.shape1 {w : World} {base : Nat} {u : Value} {g : List (List Int)} (h : DG w base (.agg #[u]) g) : ∃ p c, u = .slice p g.length c := by
  obtain ⟨p, c, e⟩ := h.shape
  cases e
  exact ⟨p, c, rfl⟩
theorem SG.shape1 {w : World} {base : Nat} {u : Value} {g : List (List Int)} (h : SG w base (.agg #[u]) g) : ∃ p c, u = .slice p g.length c := by
  obtain ⟨p, c, e⟩ := h.shape
  cases e
  exact ⟨p, c, rfl⟩
theorem eqInt64SS_b (u v : Value) (g : List (List Int)) (w : World) (hx : Rws w 26 2 u g) (hy : Rws w 26 2 v g) :
    Calls Tryd.prog 31 #[u, v] w fun e w' => e = .returned (.bool true) ∧ Below w.heap.size w w' :=
  (eqInt64SS_any u v g g w hx hy).mono fun e w' ⟨he, hb⟩ => by
    rw [dec_true rfl] at he
    exact ⟨he, hb⟩
theorem markSS_x (v : Value) (g : List (List Int)) (base hi : Nat) (k : Int) (h1 : g.length ≤ 100000) (h2 : ∀ j, (row g j).length ≤ 1000) (h0 : 0 ≤ k) (hk1 : k ≤ 1048576) (w : World) (hd : DGh w base hi (.agg #[v]) g) :
    Calls Tryd.prog 32 #[v, .int .i64 k] w fun e w' => e = .returned (.int .i64 (k + preL g g.length)) ∧ DGh w' base hi (.agg #[v]) (markG k g) ∧ Apart base hi w w' := by
  obtain ⟨u, vals, he, hvl, ho, hr, hhi⟩ := hd
  cases he
  refine (markInt64SS_x _ g base k h1 h2 h0 hk1 _ vals hvl ho hr hi hhi).mono fun e w' ⟨h1, h2, h3, h4⟩ => ⟨h1, ⟨_, vals, rfl, ?_, ?_, ?_, ?_⟩, h4⟩
  · rw [markG_length]; exact hvl
  · rw [markG_length]; exact h2
  · rw [markG_length]; exact h3
  · rw [markG_length]; exact hhi

end Go.Proofs.YtiooindlpinjhaaDoor

/- Walks: marks of several arguments in turn: what a mark returns is bounded by what it began with. -/
namespace Go.Proofs.YtiooindlpinjhaaDoor
open Go.RowKit

set_option maxRecDepth 100000 in
set_option maxHeartbeats 1000000 in
theorem markInt64SS_k (v : Value) (g : List (List Int)) (base hi : Nat) (k : Int) (h1 : g.length ≤ 1048576) (h2 : ∀ j, j < g.length → (row g j).length ≤ 1048576) (h0 : 0 ≤ k) (K : Int) (hk1 : k ≤ K) (hK : K ≤ 100000000000000) (w : World)
    (vals : List Value) (hvl : vals.length = g.length) (ho : w.ownsRow base 26 1 v g.length vals) (hr : ∀ j, j < g.length → w.ownsRow base 2 1 (vals.getD j undef) (row g j).length ((row g j).map (Value.int .i64)))
    (hhi : ∀ j, j < g.length → ∀ b, (vals.getD j undef).ownBlock = some b → b < hi) :
    Calls Tryd.prog 32 #[v, .int .i64 k] w fun e w' => (∃ z : Int, e = .returned (.int .i64 z) ∧ 0 ≤ z ∧ z ≤ K + 1100000000000) ∧ Apart base hi w w' := by
  rcases ho.2 with ⟨rfl, hn0⟩ | ⟨b, cap, cur, rfl, _⟩
  · have e0 : ((g.length : Nat) : Int) = 0 := by omega
    go_enter Tryd.func32, Tryd.ntmps32
    go_wp2
    refine wp_loop_rounds 1 ?_
    rw [rounds_succ]
    go_wp2
    go_ret
    exact ⟨⟨k, rfl, h0, by omega⟩, Apart.refl _ _ _⟩
  have Hhi := Lib.hid hhi
  have H2 := Lib.hid h2
  have Hvl := Lib.hid hvl
  have Hr := Lib.hid hr
  have Ho := Lib.hid ho
  clear hhi h2 hvl hr ho
  go_enter Tryd.func32, Tryd.ntmps32
  go_wp2
  go_loopw [1, 5] (fun z i wr => ∃ (j : Nat) (y : Int), j ≤ g.length ∧ i = .int .i64 j ∧ z = .int .i64 y ∧ 0 ≤ y ∧ y ≤ K + j * 1048576 ∧ Apart base hi w wr ∧
      wr.ownsRow base 26 1 (.slice (some ⟨b, 0, none⟩) g.length cap) g.length vals ∧ (∀ j, j < g.length → ∃ ys, wr.ownsRow base 2 1 (vals.getD j undef) (row g j).length ys))
    (fun _ i _ => g.length - (intOf i).toNat)
  case atStart => exact ⟨0, k, Nat.zero_le _, rfl, rfl, h0, by omega, Apart.refl _ _ _, Ho.out, fun j hj => ⟨_, Hr.out j hj⟩⟩
  case round =>
    obtain ⟨j, y, hj, rfl, rfl, hy0, hy1, hap, hown, hrows⟩ := hrel
    have Hrows := Lib.hid hrows
    clear hrows
    by_cases hlt : j < g.length
    · obtain ⟨ys, hys⟩ := Hrows.out j hlt
      have hl2 := H2.out j hlt
      have hc := hown.cellAt j (by omega)
      obtain ⟨u, hu⟩ : ∃ u, vals[j]? = some u := ⟨_, List.getElem?_eq_getElem (by have := Hvl.out; omega)⟩
      have hud : vals.getD j undef = u := by rw [List.getD_eq_getElem?_getD, hu]; rfl
      rw [hu] at hc
      rw [hud] at hys
      have hub : ∀ b, u.ownBlock = some b → b < hi := by rw [← hud]; exact Hhi.out j hlt
      have Hys := Lib.hid hys
      have Hub := Lib.hid hub
      have Hud := Lib.hid hud
      clear hys hub hud hu
      obtain ⟨m, hm⟩ : ∃ m, m = (row g j).length := ⟨_, rfl⟩
      rw [← hm] at hl2
      have Hm := Lib.hid hm
      clear hm
      go_wp2_with (go_at_call 14; refine (markInt64S_any u m base ys y (by omega) hy0 (by omega) _ (Hm.out ▸ Hys.out)).mono ?_; rintro e w2 ⟨rfl, ho2, hg2, _⟩)
      go_roundw
      case rel =>
        have hys : wr.ownsRow base 2 1 u m ys := Hm.out ▸ Hys.out
        refine ⟨j + 1, _, by omega, by go_num, rfl, by omega, by omega, hap.trans (Apart.of_grown hys hg2 (Nat.le_refl _) Hub.out), ownsRow_other hown hys hg2 (by decide), fun i hi => ?_⟩
        obtain ⟨zs, hzs⟩ := Hrows.out i hi
        exact ownsRow_some hzs hys ho2 hg2
      case measure => simp [intOf]; omega
    · obtain rfl : j = g.length := by omega
      go_wp2
      go_ret
      exact ⟨⟨y, rfl, hy0, by omega⟩, hap⟩

set_option maxRecDepth 100000 in
set_option maxHeartbeats 1000000 in
theorem markGraph_k (v : Value) (g : List (List Int)) (base hi : Nat) (k : Int) (h1 : g.length ≤ 1048576) (h2 : ∀ j, j < g.length → (row g j).length ≤ 1048576) (h0 : 0 ≤ k) (K : Int) (hk1 : k ≤ K) (hK : K ≤ 100000000000000) (w : World)
    (ho : InG w base hi v g) :
    Calls Tryd.prog 13 #[v, .int .i64 k] w fun e w' => (∃ z : Int, e = .returned (.int .i64 z) ∧ 0 ≤ z ∧ z ≤ K + 1100000000000) ∧ Apart base hi w w' := by
  have hb1 : ∀ u, Below w.heap.size w (w.alloc (.cells #[u] 28)) := fun u => below_alloc w _
  obtain ⟨u, vals, rfl, hvl, ho1, hub, hr⟩ := ho
  have ho1' := ownsRow_below ho1 (hb1 u)
  have hr' : ∀ j, j < g.length → (w.alloc (.cells #[u] 28)).ownsRow base 2 1 (vals.getD j undef) (row g j).length ((row g j).map (Value.int .i64)) := fun j hj => ownsRow_below (hr j hj).1 (hb1 u)
  have hk := markInt64SS_k u g base hi k h1 h2 h0 K hk1 hK _ vals hvl ho1' hr' (fun j hj => (hr j hj).2)
  have hk' := Lib.hid hk
  have hsh : u = .slice none 0 0 ∨ ∃ b c, u = .slice (some ⟨b, 0, none⟩) g.length c := by
    rcases ho1.2 with ⟨h, _⟩ | ⟨b, c, _, h, _⟩
    · exact .inl h
    · exact .inr ⟨b, c, h⟩
  clear hk hvl ho1 hub hr ho1' hr' h2
  rcases hsh with rfl | ⟨b, c, rfl⟩
  all_goals
    go_enter Tryd.func13, Tryd.ntmps13
    go_wp2_with (go_at_call 32; refine hk'.out.mono ?_; rintro e w2 ⟨⟨z, rfl, hz⟩, hap⟩)
    go_ret
    exact ⟨⟨z, rfl, hz⟩, (Apart.of_below (hb1 _)).trans hap⟩

/-- Rows in blocks from lo on and below hi. -/
def InR (w : World) (lo hi : Nat) (u : Value) (g : List (List Int)) : Prop :=
  ∃ vals, vals.length = g.length ∧ w.ownsRow lo 26 1 u g.length vals ∧ (∀ b, u.ownBlock = some b → b < hi) ∧
    ∀ j, j < g.length → w.ownsRow lo 2 1 (vals.getD j undef) (row g j).length ((row g j).map (Value.int .i64)) ∧ ∀ b, (vals.getD j undef).ownBlock = some b → b < hi
theorem InR.of_own {w : World} {lo : Nat} {u : Value} {g : List (List Int)} (h : OwnRws w lo u g) : InR w lo w.heap.size u g := by
  obtain ⟨vals, h1, h2, h3⟩ := h
  exact ⟨vals, h1, h2, fun b hb => (h2.lt b hb).2, fun j hj => ⟨h3 j hj, fun b hb => ((h3 j hj).lt b hb).2⟩⟩
theorem InR.below {w w' : World} {lo hi : Nat} {u : Value} {g : List (List Int)} (h : InR w lo hi u g) (hb : Below w.heap.size w w') : InR w' lo hi u g := by
  obtain ⟨vals, h1, h2, h3, h4⟩ := h
  exact ⟨vals, h1, ownsRow_below h2 hb, h3, fun j hj => ⟨ownsRow_below (h4 j hj).1 hb, (h4 j hj).2⟩⟩
theorem InR.own {w : World} {lo hi : Nat} {u : Value} {g : List (List Int)} (h : InR w lo hi u g) : OwnRws w lo u g := by
  obtain ⟨vals, h1, h2, h3, h4⟩ := h
  exact ⟨vals, h1, h2, fun j hj => (h4 j hj).1⟩
theorem InR.apart_hi {w w' : World} {lo hi lo' hi' : Nat} {u : Value} {g : List (List Int)} (h : InR w lo hi u g) (ha : Apart lo' hi' w w') (hl : hi' ≤ lo) : InR w' lo hi u g := by
  obtain ⟨vals, h1, h2, h3, h4⟩ := h
  exact ⟨vals, h1, ownsRow_apart_hi h2 ha hl, h3, fun j hj => ⟨ownsRow_apart_hi (h4 j hj).1 ha hl, (h4 j hj).2⟩⟩
theorem InG.apart_hi {w w' : World} {lo hi lo' hi' : Nat} {v : Value} {g : List (List Int)} (h : InG w lo hi v g) (ha : Apart lo' hi' w w') (hl : hi' ≤ lo) : InG w' lo hi v g := by
  obtain ⟨u, vals, h0, h1, h2, h3, h4⟩ := h
  exact ⟨u, vals, h0, h1, ownsRow_apart_hi h2 ha hl, h3, fun j hj => ⟨ownsRow_apart_hi (h4 j hj).1 ha hl, (h4 j hj).2⟩⟩
theorem markRows_k (v : Value) (g : List (List Int)) (base hi : Nat) (k : Int) (h1 : g.length ≤ 1048576) (h2 : ∀ j, j < g.length → (row g j).length ≤ 1048576) (h0 : 0 ≤ k) (K : Int) (hk1 : k ≤ K) (hK : K ≤ 100000000000000) (w : World) (ho : InR w base hi v g) :
    Calls Tryd.prog 32 #[v, .int .i64 k] w fun e w' => (∃ z : Int, e = .returned (.int .i64 z) ∧ 0 ≤ z ∧ z ≤ K + 1100000000000) ∧ Apart base hi w w' := by
  obtain ⟨vals, hvl, ho1, _, hr⟩ := ho
  exact markInt64SS_k v g base hi k h1 h2 h0 K hk1 hK w vals hvl ho1 (fun j hj => (hr j hj).1) (fun j hj => (hr j hj).2)

end Go.Proofs.YtiooindlpinjhaaDoor

/- Walks: the laws on models: like those on graphs. -/
namespace Go.Proofs.YtiooindlpinjhaaDoor
open Go.RowKit

end Go.Proofs.YtiooindlpinjhaaDoor

/- Walks: the laws on models as arguments: like those on graphs. -/
namespace Go.Proofs.YtiooindlpinjhaaDoor
open Go.RowKit

end Go.Proofs.YtiooindlpinjhaaDoor

/- Walk: the reference's word of a model. -/
namespace Go.Proofs.YtiooindlpinjhaaDoor
open Go.RowKit

end Go.Proofs.YtiooindlpinjhaaDoor

/- Walk: the reference's least edge between two sets. -/
namespace Go.Proofs.YtiooindlpinjhaaDoor
open Go.RowKit

end Go.Proofs.YtiooindlpinjhaaDoor

/- Walk: how the reference tells a model. -/
namespace Go.Proofs.YtiooindlpinjhaaDoor
open Go.RowKit

theorem three_boxesM (w : World) (a b c : Value) (T1 T2 T3 : TypeId) : ∃ W, W = ((w.alloc (.cells #[a] T1)).alloc (.cells #[b] T2)).alloc (.cells #[c] T3) ∧ Below w.heap.size w W ∧ W.heap.size = w.heap.size + 3 ∧
    Box W w.heap.size T1 a ∧ Box W (w.heap.size + 1) T2 b ∧ Box W (w.heap.size + 2) T3 c := by
  refine ⟨_, rfl, (below_alloc2 _ _ _).alloc (by rw [size_alloc, size_alloc]; omega) _, by rw [size_alloc, size_alloc, size_alloc], ((Box.new w _ _).alloc _).alloc _, ?_, ?_⟩
  · have := Box.new (w.alloc (.cells #[a] T1)) b T2
    rw [size_alloc] at this
    exact this.alloc _
  · have := Box.new ((w.alloc (.cells #[a] T1)).alloc (.cells #[b] T2)) c T3
    rw [size_alloc, size_alloc] at this
    exact this

theorem mdOk_sets {g q M : List (List Int)} (h : MdOk g q M) {a : Nat} (ha : a < M.length) : SetIn g.length (row M a) := (h.1.1.1.2 a ha).1

end Go.Proofs.YtiooindlpinjhaaDoor

/- Two boxes. -/
namespace Go.Proofs.YtiooindlpinjhaaDoor
open Go.RowKit

theorem two_boxesM (w : World) (a b : Value) (T1 T2 : TypeId) : ∃ W, W = (w.alloc (.cells #[a] T1)).alloc (.cells #[b] T2) ∧ Below w.heap.size w W ∧ W.heap.size = w.heap.size + 2 ∧ Box W w.heap.size T1 a ∧ Box W (w.heap.size + 1) T2 b := by
  have h2 := Box.new (w.alloc (.cells #[a] T1)) b T2
  rw [size_alloc] at h2
  exact ⟨_, rfl, below_alloc2 _ _ _, by rw [size_alloc, size_alloc], (Box.new w a T1).alloc _, h2⟩

end Go.Proofs.YtiooindlpinjhaaDoor

/- What the laws of several arguments use: arguments of bounded size, what stands after some copies, boxes. -/
namespace Go.Proofs.YtiooindlpinjhaaDoor
open Go.RowKit

def SzG (g : List (List Int)) : Prop := g.length ≤ 1048576 ∧ ∀ j, j < g.length → (row g j).length ≤ 1048576
theorem OwnG.gr' {w : World} {base : Nat} {v : Value} {g : List (List Int)} (h : OwnG w base v g) (hs : SzG g) : Gr w v g :=
  h.gr (by have := hs.1; omega) fun j hj => by have := hs.2 j hj; omega
/-- What stands after some of the copies. -/
structure StM (W2 w' : World) (ys : List (Value × List (List Int))) : Prop where
  bel : Below W2.heap.size W2 w'
  own : ∀ y ∈ ys, OwnG w' W2.heap.size y.1 y.2
theorem StM.next {W2 w' w'' : World} {ys : List (Value × List (List Int))} (h : StM W2 w' ys) (hb : Below w'.heap.size w' w'') : StM W2 w'' ys :=
  ⟨h.bel.trans (hb.mono h.bel.size), fun y hy => (h.own y hy).below hb⟩
theorem StM.add {W2 w' w'' : World} {ys : List (Value × List (List Int))} {u : Value} {g : List (List Int)} (h : StM W2 w' ys) (hb : Below w'.heap.size w' w'') (ho : OwnG w'' w'.heap.size u g) : StM W2 w'' ((u, g) :: ys) :=
  ⟨(h.next hb).bel, fun y hy => by
    rcases List.mem_cons.1 hy with rfl | h1
    · exact ho.lower h.bel.size
    · exact (h.next hb).own y h1⟩
end Go.Proofs.YtiooindlpinjhaaDoor

/- Walk: the program's ModelWord of a model whose sets are a word's. -/
namespace Go.Proofs.YtiooindlpinjhaaDoor
open Go.RowKit

theorem sl_setOwn {w : World} {E E' : TypeId} {v : Value} {n m b i c base size : Nat} {vals ys : List Value} (h : Sl w E v n vals) (ho : w.ownsRow base E' size (.slice (some ⟨b, 0, none⟩) m c) m ys) (hE : E ≠ E') (u : Value) : Sl (w.setCell ⟨b, i, none⟩ u) E v n vals :=
  h.other ho (grown_setMs w b i u) hE


end Go.Proofs.YtiooindlpinjhaaDoor

/- Walk: the program's MinorIn (printed by wip/mkMiM.py). -/
namespace Go.Proofs.YtiooindlpinjhaaDoor
open Go.RowKit

theorem dg_nilMi (w : World) (base : Nat) : DG w base (.agg #[.slice none 0 0]) [] := ⟨_, [], rfl, rfl, World.ownsRow_nil _ _ _ _, ⟨fun j hj => by simp at hj, fun i j hi => by simp at hi⟩⟩
theorem ofG_comm {g : List (List Int)} (hg : GOk g) (i k : Nat) : ofG g i k = ofG g k i := by
  rw [Bool.eq_iff_iff]
  exact ⟨ofG_sym hg i k, ofG_sym hg k i⟩
theorem ofG_to {g : List (List Int)} (hg : GOk g) (x y : Nat) (h : ofG g x y = true) : y < g.length := by
  simp only [ofG, decide_eq_true_eq] at h
  by_cases hx : x < g.length
  · have := (hg.sets x hx).1.1 _ h
    omega
  · have : row g x = [] := by simp [row, List.getElem?_eq_none (show g.length ≤ x by omega)]
    rw [this] at h
    simp at h
theorem rowsOf_mskW {m : Nat} {w : List Nat} (h : w.length ≤ 16) : rowsOf (mskW m w) = setsW m w := by
  unfold rowsOf setsW
  rw [mskW, List.map_map]
  refine List.map_congr_left fun k hk => ?_
  have hk := List.mem_range.1 hk
  have := bits_mskW w h hk
  rw [mskW_at w hk] at this
  simp [this]
theorem row_setsW_leI {m j : Nat} {w : List Nat} (h : w.length ≤ 16) : (row (setsW m w) j).length ≤ 16 := by
  by_cases e : j < m
  · rw [row_setsW e, natInts_length]
    refine Nat.le_trans ?_ h
    have := List.length_filter_le (fun v => w.getD v 0 == j + 1) (List.range w.length)
    rw [List.length_range] at this
    exact this
  · have : row (setsW m w) j = [] := by simp [row, setsW, List.getElem?_eq_none (show ((List.range m).map fun k => natInts (setW w k)).length ≤ j by simp; omega)]
    rw [this]; exact Nat.zero_le _

theorem MnEnd.lower {w0 w1 w' : World} {m : Nat} {u : Value} {f : Option (List Nat)} (h : MnEnd w1 w' m u f) (hb : w0.heap.size ≤ w1.heap.size) : MnEnd w0 w' m u f := by
  rcases h with h | ⟨x, b, h1, h2, h3⟩
  · exact .inl h
  · exact .inr ⟨x, b, h1, h2, ownsRow_base h3 hb⟩

end Go.Proofs.YtiooindlpinjhaaDoor

/- Walk: the program's WordModel of a word of so many sets. -/
namespace Go.Proofs.YtiooindlpinjhaaDoor
open Go.RowKit


end Go.Proofs.YtiooindlpinjhaaDoor

/- Walks: the closures with which a least cover is sought. -/
namespace Go.Proofs.YtiooindlpinjhaaDoor
open Go.RowKit

/-- What stands below the call. -/
structure CvBase (w : World) (n : Nat) (S : List (List Int)) (sp : Option Addr) (sc ba : Nat) : Prop where
  h16 : n ≤ 16
  box : Box w ba 66 (.slice sp S.length sc)
  sl : Sl w 71 (.slice sp S.length sc) S.length ((S.map mask).map u32v)
  rng : ∀ j, j < S.length → ∀ x ∈ row S j, 0 ≤ x ∧ x < 16
  few : S.length ≤ 1000000
theorem CvBase.next {w w' : World} {n : Nat} {S : List (List Int)} {sp : Option Addr} {sc ba : Nat} (h : CvBase w n S sp sc ba) (hb : Below w.heap.size w w') : CvBase w' n S sp sc ba :=
  ⟨h.h16, h.box.keep hb, h.sl.below hb, h.rng, h.few⟩

theorem decide_dec_iff {p q : Prop} [Decidable p] (h : p ↔ q) : decide p = dec q := by
  by_cases k : p
  · rw [dec_true (h.1 k)]; simp [k]
  · rw [dec_false (fun c => k (h.2 c))]; simp [k]
def NoJ (S : List (List Int)) (s j : Nat) : Prop := s &&& mask (row S j) = 0
theorem covN_iff {S : List (List Int)} {s : Nat} (hr : ∀ j, j < S.length → ∀ x ∈ row S j, 0 ≤ x ∧ x < 16) : CovN S s ↔ ∀ j, j < S.length → ¬ NoJ S s j := by
  have key : ∀ j, j < S.length → ∀ i : Nat, (mask (row S j)).testBit i = true ↔ (i : Int) ∈ row S j := fun j hj i => by
    rw [testBit_mask, List.any_eq_true]
    constructor
    · rintro ⟨x, hx, e⟩
      have h1 := (hr j hj x hx).1
      have h2 : x.toNat = i := by simpa using e
      have : (i : Int) = x := by omega
      rw [this]; exact hx
    · intro h
      exact ⟨_, h, by simp⟩
  constructor
  · intro h j hj k
    obtain ⟨i, h1, h2⟩ := h j hj
    exact and_zero_iff.1 k i ⟨h1, (key j hj i).2 h2⟩
  · intro h j hj
    have := mt and_zero_iff.2 (h j hj)
    obtain ⟨i, hi⟩ := Classical.not_forall.1 this
    obtain ⟨h1, h2⟩ := Classical.not_not.1 hi
    exact ⟨i, h1, (key j hj i).1 h2⟩

end Go.Proofs.YtiooindlpinjhaaDoor

/- Walks: whether an edge joins two sets of the program's. -/
namespace Go.Proofs.YtiooindlpinjhaaDoor
open Go.RowKit

/-- An edge joins two masks. -/
def JnV (E : Nat → Nat → Bool) (t v : Nat) : Prop := ∃ u, t.testBit u = true ∧ E v u = true
def JnM (E : Nat → Nat → Bool) (s t : Nat) : Prop := ∃ v, s.testBit v = true ∧ JnV E t v

theorem natInts_atJ {l : List Nat} {k : Nat} (h : k < l.length) {h' : k < (natInts l).length} : (natInts l)[k] = ((l[k] : Nat) : Int) := by simp [natInts]
/-- What the closure reads. -/
structure JnB (w : World) (n : Nat) (E : Nat → Nat → Bool) (t : Nat) (ba bt : Nat) (xp : Option Addr) (xc : Nat) : Prop where
  boxA : Box w ba 67 (.slice xp n xc)
  ne : NE w (.slice xp n xc) n E
  boxT : Box w bt 71 (.int .u32 (t : Int))
  t16 : t < 65536
  tn : ∀ i, t.testBit i = true → i < n
theorem JnB.next {w w' : World} {n : Nat} {E : Nat → Nat → Bool} {t ba bt : Nat} {xp : Option Addr} {xc : Nat} (h : JnB w n E t ba bt xp xc) (hb : Below w.heap.size w w') : JnB w' n E t ba bt xp xc :=
  ⟨h.boxA.keep hb, h.ne.next hb, h.boxT.keep hb, h.t16, h.tn⟩

theorem joinM_iff {g : List (List Int)} (hg : GOk g) {A B : List Int} (hA : SetIn g.length A) (hB : SetIn g.length B) : JnM (ofG g) (mask A) (mask B) ↔ JoinP g A B := by
  have kA := bit_mask fun x hx => (hA.1 x hx).1
  have kB := bit_mask fun x hx => (hB.1 x hx).1
  constructor
  · rintro ⟨v, h1, u, h2, h3⟩
    simp only [ofG, decide_eq_true_eq] at h3
    exact ⟨_, (kA v).1 h1, _, (kB u).1 h2, by simpa using h3⟩
  · rintro ⟨x, hx, y, hy, h⟩
    have hx0 := (hA.1 x hx).1
    have hy0 := (hB.1 y hy).1
    have ex : ((x.toNat : Nat) : Int) = x := by omega
    have ey : ((y.toNat : Nat) : Int) = y := by omega
    exact ⟨x.toNat, (kA _).2 (by rw [ex]; exact hx), y.toNat, (kB _).2 (by rw [ey]; exact hy), by simp only [ofG, decide_eq_true_eq]; rw [ey]; exact h⟩

end Go.Proofs.YtiooindlpinjhaaDoor
