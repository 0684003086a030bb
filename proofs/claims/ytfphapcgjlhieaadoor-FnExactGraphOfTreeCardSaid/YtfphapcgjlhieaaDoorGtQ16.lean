/- Walks: what a slice of nodes reads as. -/
import Derived.Test.YtfphapcgjlhieaaDoorGtQ15
import Derived.Test.YtfphapcgjlhieaaDoorGtQ2
import Derived.Test.YtfphapcgjlhieaaDoorGtQ8
import Derived.Test.YtfphapcgjlhieaaDoorGtQ7
import Derived.Test.YtfphapcgjlhieaaDoorGtQ14
import Derived.Test.YtfphapcgjlhieaaDoorGtQ12
import Derived.Test.YtfphapcgjlhieaaDoorGtQ6
namespace Go.Proofs.YtfphapcgjlhieaaDoor
open Go.RowKit

theorem ty_parts : SlTy Tryd.prog 29 54 (.agg #[.int .i64 0, .int .i64 0, .slice none 0 0]) 3 40 := ⟨Tryd.underlying29, by kernel_rfl, rfl, by decide, by decide⟩

/-- The cells of some nodes, whose kids lie as told. -/
def ptCells : List Pt → List Value → List Value
  | p :: ts, u :: us => .int .i64 p.k :: .int .i64 p.v :: u :: ptCells ts us
  | _, _ => []
theorem ptCells_length : ∀ {ts : List Pt} {us : List Value}, us.length = ts.length → (ptCells ts us).length = ts.length * 3
  | [], us, _ => by cases us <;> rfl
  | p :: ts, [], h => by simp at h
  | p :: ts, u :: us, h => by
    show (ptCells ts us).length + 1 + 1 + 1 = (ts.length + 1) * 3
    rw [ptCells_length (by simpa using h)]
    omega
theorem ptCells_get : ∀ {ts : List Pt} {us : List Value}, us.length = ts.length → ∀ {k : Nat} {p : Pt}, ts[k]? = some p →
    (ptCells ts us)[k * 3]? = some (.int .i64 p.k) ∧ (ptCells ts us)[k * 3 + 1]? = some (.int .i64 p.v) ∧ (ptCells ts us)[k * 3 + 2]? = some (us.getD k undef)
  | [], us, _, k, p, hp => by simp at hp
  | q :: ts, [], h, _, _, _ => by simp at h
  | q :: ts, u :: us, h, k, p, hp => by
    have e : ptCells (q :: ts) (u :: us) = .int .i64 q.k :: .int .i64 q.v :: u :: ptCells ts us := rfl
    rw [e]
    cases k with
    | zero =>
      obtain rfl : q = p := by simpa using hp
      exact ⟨rfl, rfl, rfl⟩
    | succ k =>
      obtain ⟨h1, h2, h3⟩ := ptCells_get (ts := ts) (us := us) (by simpa using h) (k := k) (by simpa using hp)
      rw [show (k + 1) * 3 = k * 3 + 1 + 1 + 1 by omega, show k * 3 + 1 + 1 + 1 + 2 = k * 3 + 2 + 1 + 1 + 1 by omega]
      simp only [List.getElem?_cons_succ, List.getD_cons_succ]
      exact ⟨h1, h2, h3⟩
/-- v reads as the nodes ts. -/
def Trs (w : World) (v : Value) (ts : List Pt) : Prop :=
  ∃ us : List Value, us.length = ts.length ∧ Sl w 54 v ts.length (ptCells ts us) ∧ ∀ (j : Nat) (p : Pt), ts[j]? = some p → Nums w 2 .i64 (us.getD j undef) p.s
theorem Trs.below {w w' : World} {v : Value} {ts : List Pt} (h : Trs w v ts) (hb : Below w.heap.size w w') : Trs w' v ts := by
  obtain ⟨us, h1, h2, h3⟩ := h
  exact ⟨us, h1, h2.below hb, fun j p hp => (h3 j p hp).below hb⟩
theorem Trs.shape {w : World} {v : Value} {ts : List Pt} (h : Trs w v ts) : ∃ p c, v = .slice p ts.length c ∧ ts.length ≤ 1000000000 := by
  obtain ⟨us, _, ⟨p, c, h1, _, _, h2, _⟩, _⟩ := h
  exact ⟨p, c, h1, h2⟩
theorem Nums.shapeT {w : World} {E : TypeId} {K : IntKind} {v : Value} {xs : List Int} (h : Nums w E K v xs) : ∃ p c, v = .slice p xs.length c ∧ xs.length ≤ 1000000000 := by
  obtain ⟨p, c, h1, _, _, h2, _⟩ := h
  exact ⟨p, c, h1, h2⟩
/-- The cells of a node. -/
theorem Trs.at {w : World} {p : Option Addr} {n c : Nat} {ts : List Pt} (h : Trs w (.slice p n c) ts) {k : Nat} {x : Pt} (hx : ts[k]? = some x) :
    ∃ b o rp rc, p = some ⟨b, o, none⟩ ∧ w.cell? ⟨b, o + k * 3, none⟩ = some (.int .i64 x.k) ∧ w.cell? ⟨b, o + k * 3 + 1, none⟩ = some (.int .i64 x.v) ∧
      w.cell? ⟨b, o + k * 3 + 2, none⟩ = some (.slice rp x.s.length rc) ∧ Nums w 2 .i64 (.slice rp x.s.length rc) x.s ∧ x.s.length ≤ 1000000000 := by
  obtain ⟨us, h1, ⟨p', c', e, _, _, _, hat⟩, h3⟩ := h
  simp only [Value.slice.injEq] at e
  obtain ⟨rfl, rfl, rfl⟩ := e
  have hk := (List.getElem?_eq_some_iff.1 hx).1
  obtain ⟨b, o, hp, hc⟩ := hat.cells (k := k) (by rw [ptCells_length h1]; omega)
  obtain ⟨g1, g2, g3⟩ := ptCells_get h1 hx
  have hn := h3 k x hx
  obtain ⟨rp, rc, hv, hl⟩ := hn.shapeT
  rw [hv] at g3 hn
  exact ⟨b, o, rp, rc, hp, hc _ _ g1, by rw [Nat.add_assoc]; exact hc _ _ g2, by rw [Nat.add_assoc]; exact hc _ _ g3, hn, hl⟩

/-- Sets lie so. -/
def VS (w : World) (v : Value) (M : List Nat) : Prop := Sl w 76 v M.length (M.map u32v)
theorem VS.below {w w' : World} {v : Value} {M : List Nat} (h : VS w v M) (hb : Below w.heap.size w w') : VS w' v M := Sl.below h hb
theorem VS.shape {w : World} {v : Value} {M : List Nat} (h : VS w v M) : ∃ p c, v = .slice p M.length c ∧ M.length ≤ 1000000000 := by
  obtain ⟨p, c, h1, _, _, h2, _⟩ := h
  exact ⟨p, c, h1, h2⟩
theorem VS.at {w : World} {p : Option Addr} {n c : Nat} {M : List Nat} (h : VS w (.slice p n c) M) {k : Nat} (hk : k < M.length) :
    ∃ b o, p = some ⟨b, o, none⟩ ∧ w.cell? ⟨b, o + k, none⟩ = some (.int .u32 (M.getD k 0 : Nat)) := by
  obtain ⟨p', c', e, _, _, _, hat⟩ := h
  simp only [Value.slice.injEq] at e
  obtain ⟨rfl, rfl, rfl⟩ := e
  obtain ⟨b, o, hp, hc⟩ := hat.cells (k := k) (by simpa using hk)
  exact ⟨b, o, hp, hc k _ (by simp [hk, u32v])⟩

theorem cells3Te (w : World) (x y z : Value) (T : TypeId) : (w.alloc (.cells #[x, y, z] T)).cell? ⟨w.heap.size, 0, none⟩ = some x ∧ (w.alloc (.cells #[x, y, z] T)).cell? ⟨w.heap.size, 1, none⟩ = some y ∧ (w.alloc (.cells #[x, y, z] T)).cell? ⟨w.heap.size, 2, none⟩ = some z := by
  refine ⟨?_, ?_, ?_⟩ <;> (unfold World.cell?; rw [heap_alloc_new]; rfl)

end Go.Proofs.YtfphapcgjlhieaaDoor

/- Small laws on rows of numbers that a law's walk compares. -/
namespace Go.Proofs.YtfphapcgjlhieaaDoor
open Go.RowKit

theorem rws_gr {w : World} {u : Value} {g : List (List Int)} (h : Gr w (.agg #[u]) g) : Rws w 52 2 u g := by
  obtain ⟨u', he, hr⟩ := h
  cases he
  exact hr
theorem DG.shape1 {w : World} {base : Nat} {u : Value} {g : List (List Int)} (h : DG w base (.agg #[u]) g) : ∃ p c, u = .slice p g.length c := by
  obtain ⟨p, c, e⟩ := h.shape
  cases e
  exact ⟨p, c, rfl⟩
theorem SG.shape1 {w : World} {base : Nat} {u : Value} {g : List (List Int)} (h : SG w base (.agg #[u]) g) : ∃ p c, u = .slice p g.length c := by
  obtain ⟨p, c, e⟩ := h.shape
  cases e
  exact ⟨p, c, rfl⟩
theorem eqInt64SS_b (u v : Value) (g : List (List Int)) (w : World) (hx : Rws w 52 2 u g) (hy : Rws w 52 2 v g) :
    Calls Tryd.prog 53 #[u, v] w fun e w' => e = .returned (.bool true) ∧ Below w.heap.size w w' :=
  (eqInt64SS_any u v g g w hx hy).mono fun e w' ⟨he, hb⟩ => by
    rw [dec_true rfl] at he
    exact ⟨he, hb⟩
theorem markSS_x (v : Value) (g : List (List Int)) (base hi : Nat) (k : Int) (h1 : g.length ≤ 100000) (h2 : ∀ j, (row g j).length ≤ 1000) (h0 : 0 ≤ k) (hk1 : k ≤ 1048576) (w : World) (hd : DGh w base hi (.agg #[v]) g) :
    Calls Tryd.prog 56 #[v, .int .i64 k] w fun e w' => e = .returned (.int .i64 (k + preL g g.length)) ∧ DGh w' base hi (.agg #[v]) (markG k g) ∧ Apart base hi w w' := by
  obtain ⟨u, vals, he, hvl, ho, hr, hhi⟩ := hd
  cases he
  refine (markInt64SS_x _ g base k h1 h2 h0 hk1 _ vals hvl ho hr hi hhi).mono fun e w' ⟨h1, h2, h3, h4⟩ => ⟨h1, ⟨_, vals, rfl, ?_, ?_, ?_, ?_⟩, h4⟩
  · rw [markG_length]; exact hvl
  · rw [markG_length]; exact h2
  · rw [markG_length]; exact h3
  · rw [markG_length]; exact hhi

end Go.Proofs.YtfphapcgjlhieaaDoor

/- Walks: marks of several arguments in turn: what a mark returns is bounded by what it began with. -/
namespace Go.Proofs.YtfphapcgjlhieaaDoor
open Go.RowKit

set_option maxRecDepth 100000 in
set_option maxHeartbeats 1000000 in
theorem markInt64SS_k (v : Value) (g : List (List Int)) (base hi : Nat) (k : Int) (h1 : g.length ≤ 1048576) (h2 : ∀ j, j < g.length → (row g j).length ≤ 1048576) (h0 : 0 ≤ k) (K : Int) (hk1 : k ≤ K) (hK : K ≤ 100000000000000) (w : World)
    (vals : List Value) (hvl : vals.length = g.length) (ho : w.ownsRow base 52 1 v g.length vals) (hr : ∀ j, j < g.length → w.ownsRow base 2 1 (vals.getD j undef) (row g j).length ((row g j).map (Value.int .i64)))
    (hhi : ∀ j, j < g.length → ∀ b, (vals.getD j undef).ownBlock = some b → b < hi) :
    Calls Tryd.prog 56 #[v, .int .i64 k] w fun e w' => (∃ z : Int, e = .returned (.int .i64 z) ∧ 0 ≤ z ∧ z ≤ K + 1100000000000) ∧ Apart base hi w w' := by
  rcases ho.2 with ⟨rfl, hn0⟩ | ⟨b, cap, cur, rfl, _⟩
  · have e0 : ((g.length : Nat) : Int) = 0 := by omega
    go_enter Tryd.func56, Tryd.ntmps56
    go_wp2
    refine wp_loop_rounds 1 ?_
    rw [rounds_succ]
    go_wp2
    go_ret
    exact ⟨⟨k, rfl, h0, by omega⟩, Apart.refl _ _ _⟩
  have Hhi := Lib.hid hhi
  have H2 := Lib.hid h2
  have Hvl := Lib.hid hvl
  have Hr := Lib.hid hr
  have Ho := Lib.hid ho
  clear hhi h2 hvl hr ho
  go_enter Tryd.func56, Tryd.ntmps56
  go_wp2
  go_loopw [1, 5] (fun z i wr => ∃ (j : Nat) (y : Int), j ≤ g.length ∧ i = .int .i64 j ∧ z = .int .i64 y ∧ 0 ≤ y ∧ y ≤ K + j * 1048576 ∧ Apart base hi w wr ∧
      wr.ownsRow base 52 1 (.slice (some ⟨b, 0, none⟩) g.length cap) g.length vals ∧ (∀ j, j < g.length → ∃ ys, wr.ownsRow base 2 1 (vals.getD j undef) (row g j).length ys))
    (fun _ i _ => g.length - (intOf i).toNat)
  case atStart => exact ⟨0, k, Nat.zero_le _, rfl, rfl, h0, by omega, Apart.refl _ _ _, Ho.out, fun j hj => ⟨_, Hr.out j hj⟩⟩
  case round =>
    obtain ⟨j, y, hj, rfl, rfl, hy0, hy1, hap, hown, hrows⟩ := hrel
    have Hrows := Lib.hid hrows
    clear hrows
    by_cases hlt : j < g.length
    · obtain ⟨ys, hys⟩ := Hrows.out j hlt
      have hl2 := H2.out j hlt
      have hc := hown.cellAt j (by omega)
      obtain ⟨u, hu⟩ : ∃ u, vals[j]? = some u := ⟨_, List.getElem?_eq_getElem (by have := Hvl.out; omega)⟩
      have hud : vals.getD j undef = u := by rw [List.getD_eq_getElem?_getD, hu]; rfl
      rw [hu] at hc
      rw [hud] at hys
      have hub : ∀ b, u.ownBlock = some b → b < hi := by rw [← hud]; exact Hhi.out j hlt
      have Hys := Lib.hid hys
      have Hub := Lib.hid hub
      have Hud := Lib.hid hud
      clear hys hub hud hu
      obtain ⟨m, hm⟩ : ∃ m, m = (row g j).length := ⟨_, rfl⟩
      rw [← hm] at hl2
      have Hm := Lib.hid hm
      clear hm
      go_wp2_with (go_at_call 55; refine (markInt64S_any u m base ys y (by omega) hy0 (by omega) _ (Hm.out ▸ Hys.out)).mono ?_; rintro e w2 ⟨rfl, ho2, hg2, _⟩)
      go_roundw
      case rel =>
        have hys : wr.ownsRow base 2 1 u m ys := Hm.out ▸ Hys.out
        refine ⟨j + 1, _, by omega, by go_num, rfl, by omega, by omega, hap.trans (Apart.of_grown hys hg2 (Nat.le_refl _) Hub.out), ownsRow_other hown hys hg2 (by decide), fun i hi => ?_⟩
        obtain ⟨zs, hzs⟩ := Hrows.out i hi
        exact ownsRow_some hzs hys ho2 hg2
      case measure => simp [intOf]; omega
    · obtain rfl : j = g.length := by omega
      go_wp2
      go_ret
      exact ⟨⟨y, rfl, hy0, by omega⟩, hap⟩

set_option maxRecDepth 100000 in
set_option maxHeartbeats 1000000 in
theorem markGraph_k (v : Value) (g : List (List Int)) (base hi : Nat) (k : Int) (h1 : g.length ≤ 1048576) (h2 : ∀ j, j < g.length → (row g j).length ≤ 1048576) (h0 : 0 ≤ k) (K : Int) (hk1 : k ≤ K) (hK : K ≤ 100000000000000) (w : World)
    (ho : InG w base hi v g) :
    Calls Tryd.prog 14 #[v, .int .i64 k] w fun e w' => (∃ z : Int, e = .returned (.int .i64 z) ∧ 0 ≤ z ∧ z ≤ K + 1100000000000) ∧ Apart base hi w w' := by
  have hb1 : ∀ u, Below w.heap.size w (w.alloc (.cells #[u] 26)) := fun u => below_alloc w _
  obtain ⟨u, vals, rfl, hvl, ho1, hub, hr⟩ := ho
  have ho1' := ownsRow_below ho1 (hb1 u)
  have hr' : ∀ j, j < g.length → (w.alloc (.cells #[u] 26)).ownsRow base 2 1 (vals.getD j undef) (row g j).length ((row g j).map (Value.int .i64)) := fun j hj => ownsRow_below (hr j hj).1 (hb1 u)
  have hk := markInt64SS_k u g base hi k h1 h2 h0 K hk1 hK _ vals hvl ho1' hr' (fun j hj => (hr j hj).2)
  have hk' := Lib.hid hk
  have hsh : u = .slice none 0 0 ∨ ∃ b c, u = .slice (some ⟨b, 0, none⟩) g.length c := by
    rcases ho1.2 with ⟨h, _⟩ | ⟨b, c, _, h, _⟩
    · exact .inl h
    · exact .inr ⟨b, c, h⟩
  clear hk hvl ho1 hub hr ho1' hr' h2
  rcases hsh with rfl | ⟨b, c, rfl⟩
  all_goals
    go_enter Tryd.func14, Tryd.ntmps14
    go_wp2_with (go_at_call 56; refine hk'.out.mono ?_; rintro e w2 ⟨⟨z, rfl, hz⟩, hap⟩)
    go_ret
    exact ⟨⟨z, rfl, hz⟩, (Apart.of_below (hb1 _)).trans hap⟩

/-- Rows in blocks from lo on and below hi. -/
def InR (w : World) (lo hi : Nat) (u : Value) (g : List (List Int)) : Prop :=
  ∃ vals, vals.length = g.length ∧ w.ownsRow lo 52 1 u g.length vals ∧ (∀ b, u.ownBlock = some b → b < hi) ∧
    ∀ j, j < g.length → w.ownsRow lo 2 1 (vals.getD j undef) (row g j).length ((row g j).map (Value.int .i64)) ∧ ∀ b, (vals.getD j undef).ownBlock = some b → b < hi
theorem InR.of_own {w : World} {lo : Nat} {u : Value} {g : List (List Int)} (h : OwnRws w lo u g) : InR w lo w.heap.size u g := by
  obtain ⟨vals, h1, h2, h3⟩ := h
  exact ⟨vals, h1, h2, fun b hb => (h2.lt b hb).2, fun j hj => ⟨h3 j hj, fun b hb => ((h3 j hj).lt b hb).2⟩⟩
theorem InR.below {w w' : World} {lo hi : Nat} {u : Value} {g : List (List Int)} (h : InR w lo hi u g) (hb : Below w.heap.size w w') : InR w' lo hi u g := by
  obtain ⟨vals, h1, h2, h3, h4⟩ := h
  exact ⟨vals, h1, ownsRow_below h2 hb, h3, fun j hj => ⟨ownsRow_below (h4 j hj).1 hb, (h4 j hj).2⟩⟩
theorem InR.own {w : World} {lo hi : Nat} {u : Value} {g : List (List Int)} (h : InR w lo hi u g) : OwnRws w lo u g := by
  obtain ⟨vals, h1, h2, h3, h4⟩ := h
  exact ⟨vals, h1, h2, fun j hj => (h4 j hj).1⟩
theorem InR.apart_hi {w w' : World} {lo hi lo' hi' : Nat} {u : Value} {g : List (List Int)} (h : InR w lo hi u g) (ha : Apart lo' hi' w w') (hl : hi' ≤ lo) : InR w' lo hi u g := by
  obtain ⟨vals, h1, h2, h3, h4⟩ := h
  exact ⟨vals, h1, ownsRow_apart_hi h2 ha hl, h3, fun j hj => ⟨ownsRow_apart_hi (h4 j hj).1 ha hl, (h4 j hj).2⟩⟩
theorem InG.apart_hi {w w' : World} {lo hi lo' hi' : Nat} {v : Value} {g : List (List Int)} (h : InG w lo hi v g) (ha : Apart lo' hi' w w') (hl : hi' ≤ lo) : InG w' lo hi v g := by
  obtain ⟨u, vals, h0, h1, h2, h3, h4⟩ := h
  exact ⟨u, vals, h0, h1, ownsRow_apart_hi h2 ha hl, h3, fun j hj => ⟨ownsRow_apart_hi (h4 j hj).1 ha hl, (h4 j hj).2⟩⟩
theorem markRows_k (v : Value) (g : List (List Int)) (base hi : Nat) (k : Int) (h1 : g.length ≤ 1048576) (h2 : ∀ j, j < g.length → (row g j).length ≤ 1048576) (h0 : 0 ≤ k) (K : Int) (hk1 : k ≤ K) (hK : K ≤ 100000000000000) (w : World) (ho : InR w base hi v g) :
    Calls Tryd.prog 56 #[v, .int .i64 k] w fun e w' => (∃ z : Int, e = .returned (.int .i64 z) ∧ 0 ≤ z ∧ z ≤ K + 1100000000000) ∧ Apart base hi w w' := by
  obtain ⟨vals, hvl, ho1, _, hr⟩ := ho
  exact markInt64SS_k v g base hi k h1 h2 h0 K hk1 hK w vals hvl ho1 (fun j hj => (hr j hj).1) (fun j hj => (hr j hj).2)

end Go.Proofs.YtfphapcgjlhieaaDoor
