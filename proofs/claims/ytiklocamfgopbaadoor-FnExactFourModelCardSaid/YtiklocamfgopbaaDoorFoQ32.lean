/- Walks: the reference cuts a vertex, and contracts an edge. -/
import Derived.Test.YtiklocamfgopbaaDoorFoQ29
import Derived.Test.YtiklocamfgopbaaDoorFoQ31
namespace Go.Proofs.YtiklocamfgopbaaDoor
open Go.RowKit

theorem free_start (w : World) (u : Value) :
    ∃ W, W = ((w.alloc (.cells #[u] 30)).alloc (.cells #[.slice none 0 0] 30)).alloc (.cells #[.slice none 0 0] 30) ∧ Below w.heap.size w W ∧ W.heap.size = w.heap.size + 3 ∧
      W.cell? ⟨w.heap.size, 0, none⟩ = some u ∧ Box W (w.heap.size + 1) 30 (.slice none 0 0) ∧ Box W (w.heap.size + 1 + 1) 30 (.slice none 0 0) := by
  refine ⟨_, rfl, below_alloc3 _ _ _ _, by rw [size_alloc, size_alloc, size_alloc], ?_, ?_, ?_⟩
  · exact (((Box.new w u 30).alloc _).alloc _).cell
  · have := (Box.new (w.alloc (.cells #[u] 30)) (.slice none 0 0) 30).alloc (.cells #[.slice none 0 0] 30)
    rw [size_alloc] at this
    exact this
  · have := Box.new ((w.alloc (.cells #[u] 30)).alloc (.cells #[.slice none 0 0] 30)) (.slice none 0 0) 30
    rw [size_alloc, size_alloc] at this
    exact this

theorem free_step {w wr wc w7 : World} {k b7 c8 : Nat} {ov x rv : Value} {u : Value} {vals : List Value} {f : Nat → List Int}
    (hbel : Below w.heap.size w wr) (hsz : w.heap.size + 3 ≤ wr.heap.size) (hbc : Below wr.heap.size wr wc) (hc0 : wr.cell? ⟨w.heap.size, 0, none⟩ = some u)
    (hb2 : Box wr (w.heap.size + 1) 30 x) (hb3 : Box wr (w.heap.size + 1 + 1) 30 ov) (hown : wr.ownsRow (w.heap.size + 3) 37 1 ov k vals)
    (hvl : vals.length = k) (hrows : ∀ j, j < k → Nums wr 2 .i64 (vals.getD j undef) (f j)) (hn : Nums wc 2 .i64 rv (f k))
    (hown7 : w7.ownsRow (w.heap.size + 3) 37 1 (.slice (some ⟨b7, 0, none⟩) (k + 1) c8) (k + 1) (vals ++ [rv])) (hg7 : wc.grownBy w7 ov.ownBlock) :
    ∃ W, W = w7.setCell ⟨w.heap.size + 1 + 1, 0, none⟩ (.slice (some ⟨b7, 0, none⟩) (k + 1) c8) ∧
      Below w.heap.size w W ∧ w.heap.size + 3 ≤ W.heap.size ∧ W.cell? ⟨w.heap.size, 0, none⟩ = some u ∧ Box W (w.heap.size + 1) 30 x ∧ Box W (w.heap.size + 1 + 1) 30 (.slice (some ⟨b7, 0, none⟩) (k + 1) c8) ∧
      W.ownsRow (w.heap.size + 3) 37 1 (.slice (some ⟨b7, 0, none⟩) (k + 1) c8) (k + 1) (vals ++ [rv]) ∧ ∀ j, j < k + 1 → Nums W 2 .i64 ((vals ++ [rv]).getD j undef) (f j) := by
  have hownc := ownsRow_below hown hbc
  have hszc := hbc.size
  have hsz7 := hg7.size
  have hb7 : Below (w.heap.size + 3) wc w7 := below_grown (Below.refl _ _) hownc hg7 (Nat.le_refl _) (by omega)
  have hb37 : Box w7 (w.heap.size + 1 + 1) 30 ov := (hb3.keep hbc).below hb7 (by omega)
  have hb9 : Below (w.heap.size + 1 + 1) w7 (w7.setCell ⟨w.heap.size + 1 + 1, 0, none⟩ (.slice (some ⟨b7, 0, none⟩) (k + 1) c8)) := (Below.refl _ _).setCell (by show w.heap.size + 1 + 1 ≤ w.heap.size + 1 + 1; omega) _
  have hall : Below (w.heap.size + 1 + 1) wr (w7.setCell ⟨w.heap.size + 1 + 1, 0, none⟩ (.slice (some ⟨b7, 0, none⟩) (k + 1) c8)) := ((hbc.mono (by omega)).trans (hb7.mono (by omega))).trans hb9
  refine ⟨_, rfl, hbel.trans (hall.mono (by omega)), by have := hall.size; omega, hall.at (by omega) hc0, hb2.below hall (by omega), hb37.set _, ownsRow_setBox hown7 hb37 (by decide) _, fun j hj => ?_⟩
  by_cases e : j = k
  · subst e
    rw [← hvl, getD_append_last]
    rw [hvl]
    exact (hn.other hownc hg7 (by decide)).setBox hb37 (by decide) _
  · rw [getD_append_left _ _ _ _ (by omega)]
    exact (((hrows j (by omega)).below hbc).other hownc hg7 (by decide)).setBox hb37 (by decide) _

set_option maxRecDepth 100000 in
set_option maxHeartbeats 4000000 in
theorem l20Free_any (v : Value) (g : List (List Int)) (V : Int) (hl : g.length ≤ 1000) (hrl : ∀ j, j < g.length → (row g j).length ≤ 1000) (w : World) (hg : Gr w v g) :
    Calls Tryd.prog 55 #[v, .int .i64 V] w fun e w' => ∃ u, e = .returned u ∧ SG w' w.heap.size u (freeG g V) ∧ Below w.heap.size w w' := by
  obtain ⟨u, rfl, hr⟩ := hg
  obtain ⟨p, c, rfl, _, _, hn⟩ := hr.shape
  have H1000 := Lib.hid hrl
  clear hrl
  have START := Lib.hid (free_start w (.slice p g.length c))
  go_enter Tryd.func55, Tryd.ntmps55
  go_wp2
  go_loopw [6] (fun i wr => ∃ (k : Nat) (ov : Value) (vals : List Value), k ≤ g.length ∧ i = .int .i64 k ∧ Below w.heap.size w wr ∧ w.heap.size + 3 ≤ wr.heap.size ∧
      wr.cell? ⟨w.heap.size, 0, none⟩ = some (.slice p g.length c) ∧
      Box wr (w.heap.size + 1) 30 (.slice none 0 0) ∧ Box wr (w.heap.size + 1 + 1) 30 ov ∧ wr.ownsRow (w.heap.size + 3) 37 1 ov k vals ∧ vals.length = k ∧
      ∀ j, j < k → Nums wr 2 .i64 (vals.getD j undef) (freeRow g V j))
    (fun i _ => g.length - (intOf i).toNat)
  case atStart =>
    obtain ⟨W, rfl, hbel, hsz, hc0, hb2, hb3⟩ := START.out
    exact ⟨0, _, [], Nat.zero_le _, rfl, hbel, by omega, hc0, hb2, hb3, World.ownsRow_nil _ _ _ _, rfl, fun j hj => by omega⟩
  case round =>
    obtain ⟨k, ov, vals, hk, rfl, hbel, hsz, hc0, hb2, hb3, hown, hvl, hrows⟩ := hrel
    have Hvl := Lib.hid hvl
    have Hrows := Lib.hid hrows
    have Hb3 := Lib.hid hb3
    have Hb2 := Lib.hid hb2
    have Hown := Lib.hid hown
    clear hvl hrows hb3 hb2 hown
    by_cases hlt : k < g.length
    · obtain ⟨b, o, rp, rc, rfl, hcell, hnums⟩ := (hr.below hbel).get hlt
      change wr.cell? _ = some (.slice rp (row g k).length rc) at hcell
      change Nums wr _ _ (.slice rp (row g k).length rc) (row g k) at hnums
      have e0 : (0 : Int) ≤ (k : Int) := by omega
      have e1 : (k : Int) < (g.length : Int) := by omega
      have hsr : wr.heap.size = wr.heap.size := rfl
      by_cases hV : (k : Int) = V
      · have hV' : ((k : Int) == V) = true := by simpa using hV
        have H := Lib.hid (freeRow_yes (g := g) hV)
        clear hV hsr
        go_wp2_with (first
          | (go_at_call 27; refine (l19Less_any _ _ V _ hnums).mono ?_; rintro e w5 ⟨rv, rfl, hown5, hb5⟩; have hs5 := hb5.size; have HBC := Lib.hid (hb5.alloc hs5 (.cells #[] 2)); have hownc := ownsRow_below Hown.out HBC.out; have hszc := HBC.out.size; have HOB := Lib.hid (Hb3.out.keep HBC.out); have hob := HOB.out.cell; clear hown5)
          | (at_builtin; refine wpList_app1s ty_rows rfl rfl rfl hownc (by rw [size_alloc]; rfl) rfl (by omega) (by omega) ?_; intro b7 c8 w7 hown7 hg7 _; have hb7 := below_grown (Below.refl (w.heap.size + 3) (w5.alloc (.cells #[] 2))) hownc hg7 (Nat.le_refl _) (by omega); have hob7 := hb7.at (by omega) hob; have hof7 := (hb7.frozen (p := ⟨w.heap.size + 1 + 1, 0, none⟩) (by show w.heap.size + 1 + 1 < _; omega)).trans HOB.out.free))
        go_roundw
        case rel =>
          obtain ⟨W, rfl, r1, r2, r3, r4, r5, r6, r7⟩ := free_step (f := freeRow g V) hbel hsz HBC.out hc0 Hb2.out Hb3.out Hown.out Hvl.out Hrows.out (by rw [H.out]; exact Nums.of_owns (ownsRow_empty _ _ 1) rfl (by simp)) hown7 hg7
          exact ⟨k + 1, _, _, by omega, by go_num, r1, r2, r3, r4, r5, r6, by simp [Hvl.out], r7⟩
        case measure => simp [intOf]; omega
      · have hV' : ((k : Int) == V) = false := by simpa using hV
        have H := Lib.hid (freeRow_no (g := g) hV)
        have HLL := Lib.hid (show (lessL (row g k) V).length ≤ 1000 by have := lessL_length (row g k) V; have := H1000.out k hlt; omega)
        clear hV hsr
        go_wp2_with (first
          | (go_at_call 27; refine (l19Less_any _ _ V _ hnums).mono ?_; rintro e w5 ⟨rv, rfl, hown5, hb5⟩; have HNR := Lib.hid (Nums.of_owns hown5 rfl (by have := HLL.out; omega) : Nums w5 _ _ rv (lessL (row g k) V)); obtain ⟨p7, c7, rfl, _⟩ := id HNR.out; have hs5 := hb5.size; have HBC := Lib.hid hb5; have hownc := ownsRow_below Hown.out HBC.out; have HOB := Lib.hid (Hb3.out.keep HBC.out); have hob := HOB.out.cell; clear hown5)
          | (at_builtin; refine wpList_app1s ty_rows rfl rfl rfl hownc rfl rfl (by omega) (by omega) ?_; intro b7 c8 w7 hown7 hg7 _; have hb7 := below_grown (Below.refl (w.heap.size + 3) w5) hownc hg7 (Nat.le_refl _) (by omega); have hob7 := hb7.at (by omega) hob; have hof7 := (hb7.frozen (p := ⟨w.heap.size + 1 + 1, 0, none⟩) (by show w.heap.size + 1 + 1 < _; omega)).trans HOB.out.free))
        go_roundw
        case rel =>
          obtain ⟨W, rfl, r1, r2, r3, r4, r5, r6, r7⟩ := free_step (f := freeRow g V) hbel hsz HBC.out hc0 Hb2.out Hb3.out Hown.out Hvl.out Hrows.out (by rw [H.out]; exact HNR.out) hown7 hg7
          exact ⟨k + 1, _, _, by omega, by go_num, r1, r2, r3, r4, r5, r6, by simp [Hvl.out], r7⟩
        case measure => simp [intOf]; omega
    · obtain rfl : k = g.length := by omega
      obtain ⟨k2c, k2f, _⟩ := Hb2.out
      obtain ⟨k3c, k3f, _⟩ := Hb3.out
      have hsh : ∃ p c, ov = .slice p g.length c := by
        rcases Hown.out.2 with ⟨h1, h2⟩ | ⟨g1, cap, cur, h1, _⟩
        · exact ⟨none, 0, by rw [h1, h2]⟩
        · exact ⟨_, _, h1⟩
      obtain ⟨p9, c9, rfl⟩ := hsh
      go_wp2
      refine bodyPost_ret (v := .agg #[.slice p9 g.length c9]) (by simp [results, Tryd.results55, go_sem, k2c]) rfl ⟨_, rfl, ?_, ?_⟩
      · have ho := ownsRow_setBox Hown.out Hb2.out (by decide) (.slice p9 g.length c9)
        have hlen := freeG_length g V
        refine ⟨_, vals, rfl, by rw [hlen]; exact Hvl.out, by rw [hlen]; exact ownsRow_base ho (by omega), fun j hj => ?_⟩
        rw [hlen] at hj
        rw [row_freeG g _ hj]
        exact (Hrows.out j hj).setBox Hb2.out (by decide) _
      · exact hbel.setCell (by show w.heap.size ≤ w.heap.size + 1; omega) _

/-- What the contraction's loop carries. -/
structure JK (W0 wr : World) (b5 ob c m : Nat) (gg : List (List Int)) (vals : List Value) : Prop where
  len : vals.length = m
  gl : gg.length = m
  own : wr.ownsRow W0.heap.size 37 1 (.slice (some ⟨ob, 0, none⟩) m c) m vals
  rows : ∀ j, j < m → Nums wr 2 .i64 (vals.getD j undef) (row gg j)
  box : Box wr b5 30 (.slice (some ⟨ob, 0, none⟩) m c)
  bel : Below W0.heap.size W0 wr
  le : W0.heap.size ≤ ob
  lt : ob < b5

theorem JK.next {W0 wr wx : World} {b5 ob c m : Nat} {gg : List (List Int)} {vals : List Value} (h : JK W0 wr b5 ob c m gg vals) (hb : Below wr.heap.size wr wx) : JK W0 wx b5 ob c m gg vals :=
  ⟨h.len, h.gl, ownsRow_below h.own hb, fun j hj => (h.rows j hj).below hb, h.box.keep hb, h.bel.trans (hb.mono h.bel.size), h.le, h.lt⟩
theorem JK.step {W0 wr w2 : World} {b5 ob c m : Nat} {gg : List (List Int)} {vals : List Value} (h : JK W0 wr b5 ob c m gg vals) (hb : Below wr.heap.size wr w2) {rv : Value} {s : List Int} (hn : Nums w2 2 .i64 rv s) {u : Nat} (hu : u < m) :
    JK W0 (w2.setCell ⟨ob, u, none⟩ rv) b5 ob c m (gg.set u s) (vals.set u rv) := by
  have hx := h.next hb
  obtain ⟨ho2, hg2⟩ := hx.own.stored u rv
  have hl := h.lt
  refine ⟨by simp [h.len], by simp [h.gl], ho2, fun j hj => ?_, hx.box.setOther (by show b5 ≠ ob; omega) _, hx.bel.setCell (by show W0.heap.size ≤ ob; exact h.le) _, h.le, hl⟩
  rw [row_put]
  by_cases e : j = u
  · subst e
    rw [if_pos ⟨rfl, by rw [h.gl]; exact hu⟩]
    have : (vals.set j rv).getD j undef = rv := by simp [h.len, hj]
    rw [this]
    exact hn.other hx.own hg2 (by decide)
  · rw [if_neg (fun q => e q.1)]
    have : (vals.set u rv).getD j undef = vals.getD j undef := by simp [show ¬ u = j from fun q => e q.symm]
    rw [this]
    exact (hx.rows j hj).other hx.own hg2 (by decide)
theorem JK.sg {W0 wr : World} {b5 ob c m : Nat} {gg : List (List Int)} {vals : List Value} (h : JK W0 wr b5 ob c m gg vals) : SG wr W0.heap.size (.agg #[.slice (some ⟨ob, 0, none⟩) m c]) gg :=
  ⟨_, vals, rfl, by rw [h.len, h.gl], by rw [h.gl]; exact h.own, fun j hj => h.rows j (by rw [← h.gl]; exact hj)⟩

theorem take_fold {α : Type} (f : α → Int → α) (a : α) (l : List Int) {k : Nat} (h : k < l.length) : (l.take (k + 1)).foldl f a = f ((l.take k).foldl f a) l[k] := by
  rw [take_snoc' l k h, List.foldl_append]; rfl

set_option maxRecDepth 100000 in
set_option maxHeartbeats 4000000 in
theorem l20Join_any (v : Value) (g : List (List Int)) (y z : Int) (u k : Nat) (hy : y = u) (hz : z = k) (hu : u < g.length) (hk : k < g.length) (hl : g.length ≤ 16) (hr : RG g) (w : World) (hg : Gr w v g) :
    Calls Tryd.prog 26 #[v, .int .i64 y, .int .i64 z] w fun e w' => ∃ r, e = .returned r ∧ SG w' w.heap.size r (joinG g u k) ∧ RG (joinG g u k) ∧ Below w.heap.size w w' := by
  subst hy; subst hz
  have hg0 := hg
  obtain ⟨u0, rfl, hrw⟩ := hg
  obtain ⟨gp, gc, rfl, _⟩ := hrw.shape
  obtain ⟨W0, hW0⟩ : ∃ W0, W0 = (w.alloc (.cells #[.slice gp g.length gc] 30)).alloc (.cells #[.slice none 0 0] 30) := ⟨_, rfl⟩
  have hb0 : Below w.heap.size w W0 := by rw [hW0]; exact below_alloc2 _ _ _
  have hbg : Box W0 w.heap.size 30 (.slice gp g.length gc) := by rw [hW0]; exact (Box.new _ _ _).alloc _
  have hbn : Box W0 (w.heap.size + 1) 30 (.slice none 0 0) := by
    have := Box.new (w.alloc (.cells #[.slice gp g.length gc] 30)) (.slice none 0 0) 30
    rw [size_alloc] at this
    rw [hW0]; exact this
  have HB0 := Lib.hid hb0
  have HBG := Lib.hid hbg
  have HBN := Lib.hid hbn
  have HG := Lib.hid (hg0.below hb0)
  have HRW := Lib.hid (hrw.below hb0)
  have HR := Lib.hid hr
  have HJ := Lib.hid (joinG_mem (v := (k : Int)) hr (by omega : (0 : Int) ≤ (u : Int)) (by omega : (u : Int) < g.length)).1
  have sz0 : W0.heap.size = w.heap.size + 2 := by rw [hW0, size_alloc, size_alloc]
  have hrl : Hid (∀ j, j < g.length → (row g j).length ≤ 1000) := Lib.hid (fun j hj => by have := hr.row_le j; omega)
  clear hrw hg0 hb0 hbg hbn hr
  go_enter Tryd.func26, Tryd.ntmps26
  go_upto_region 1 with fail
  rw [← hW0]
  clear hW0
  have hcg0 := HBG.out.cell
  go_upto_region 2 with (go_at_call 55; refine (l20Free_any _ g k (by omega) hrl.out _ HG.out).mono ?_; rintro e w3 ⟨u3, rfl, hs3, hb3⟩; obtain ⟨p, c, rfl⟩ := hs3.shape; rw [freeG_length] at hs3 ⊢)
  obtain ⟨ob, START⟩ : ∃ ob, Hid (∃ vals, p = some ⟨ob, 0, none⟩ ∧ JK W0 (w3.alloc (.cells #[.slice p g.length c] 30)) w3.heap.size ob c g.length (freeG g k) vals) := by
    obtain ⟨_, vals, h1, h2, h3, h4⟩ := hs3
    cases h1
    rw [freeG_length] at h2 h3 h4
    have hlt := h3.lt
    rcases h3.2 with ⟨_, h0⟩ | ⟨b, cc, _, h1, _⟩
    · omega
    · simp only [Value.slice.injEq] at h1
      obtain ⟨rfl, _, _⟩ := h1
      obtain ⟨q1, q2⟩ := hlt b rfl
      exact ⟨b, Lib.hid ⟨vals, rfl, h2, freeG_length _ _, ownsRow_below h3 (below_alloc _ _), fun j hj => (h4 j hj).below (below_alloc _ _), Box.new _ _ _, hb3.alloc hb3.size _, q1, q2⟩⟩
  have HB3 := Lib.hid hb3
  clear hs3 hb3 hcg0
  obtain rfl : p = some ⟨ob, 0, none⟩ := by obtain ⟨_, e, _⟩ := START.out; exact e
  obtain ⟨l, hl0⟩ : ∃ l, l = row g k := ⟨_, rfl⟩
  have HL := Lib.hid hl0
  have hlin : Hid (∀ x ∈ l, 0 ≤ x ∧ x < g.length) := Lib.hid (by rw [hl0]; exact (HR.out k).1)
  have hln : l.length ≤ 16 := by rw [hl0]; have := HR.out.row_le k; omega
  have HF := Lib.hid (HR.out.free (k : Int))
  obtain ⟨b, o, rp, rc, rfl, hcell, hnums⟩ := HRW.out.get hk
  change W0.cell? _ = some (.slice rp (row g k).length rc) at hcell
  change Nums W0 _ _ (.slice rp (row g k).length rc) (row g k) at hnums
  rw [← hl0] at hcell hnums
  have HC := Lib.hid hcell
  have HN := Lib.hid hnums
  clear hl0 hcell hnums
  go_wp2_with fail
  go_loopw [8] (fun i wr => ∃ (j : Nat) (gg : List (List Int)) (vals : List Value), j ≤ l.length ∧ i = .int .i64 j ∧ JK W0 wr w3.heap.size ob c g.length gg vals ∧ RG gg ∧ Hid (gg = (l.take j).foldl (tieStep u) (freeG g k))) (fun i _ => l.length - (intOf i).toNat)
  case atStart =>
    obtain ⟨vals, _, hst⟩ := START.out
    exact ⟨0, _, vals, Nat.zero_le _, rfl, hst, HF.out, Lib.hid rfl⟩
  case round =>
    obtain ⟨j, gg, vals, hj, rfl, hI, hrg, HE⟩ := hrel
    have HI := Lib.hid hI
    have HRG := Lib.hid hrg
    have hcg := hI.bel.at (by omega) HBG.out.cell
    have hco := hI.bel.at' HC.out
    have hnn := HN.out.below hI.bel
    clear hI hrg
    by_cases hlt : j < l.length
    · have hin := hlin.out _ (List.getElem_mem hlt)
      obtain ⟨x, hx, hxn⟩ : ∃ x : Nat, l[j] = (x : Int) ∧ x < g.length := ⟨(l[j]).toNat, by omega, by omega⟩
      obtain ⟨rb, ro, rfl, hci⟩ := hnn.get hlt
      rw [hx] at hci
      have HX := Lib.hid hx
      clear hx hin hnn
      by_cases hxu : x = u
      · subst hxu
        go_wp2
        go_roundw
        case rel => exact ⟨j + 1, gg, vals, by omega, by go_num, HI.out, HRG.out, Lib.hid (by rw [take_fold _ _ _ hlt, ← HE.out, HX.out]; simp [tieStep])⟩
        case measure => simp [intOf]; omega
      · have hxu' : ((x : Int) == (u : Int)) = false := by simp; omega
        obtain ⟨bc, bf, _, _⟩ := HI.out.box
        obtain ⟨rp1, rc1, hrs, _⟩ := (HI.out.rows x hxn).shape
        have hcu := HI.out.own.cellAt x (by omega)
        have hv0 := get_getD vals x undef (by rw [HI.out.len]; exact hxn)
        rw [hv0, hrs] at hcu
        have hnu := Lib.hid (HI.out.rows x hxn)
        rw [hrs] at hnu
        have hru : (row gg x).length ≤ 1000 := by have := HRG.out.row_le x; have := HI.out.gl; omega
        clear hv0 hrs
        go_upto_region 7 with fail
        go_cut [] (fun wx => ∃ rv, JK W0 wx w3.heap.size ob c g.length (gg.set x (intoL (row gg x) u)) (vals.set x rv))
        case first =>
          go_region_law (first | (go_simp; go_at_call 28; refine (l1Into_any _ (row gg x) u (by omega) _ (hnu.out.below (below_dN (Below.refl _ _) 1))).mono ?_; rintro e w2 ⟨rv, rfl, hn2, hb2⟩; obtain ⟨rvp, rvc, rfl, _⟩ := hn2.shape; have hb2' : Below wr.heap.size wr w2 := (below_dN (Below.refl _ _) 1).trans hb2; have hf2 := (ownsRow_below HI.out.own hb2').frozenAt x; have hc2 := hb2'.at' hcu; have hbc2 := hb2'.at' bc))
          all_goals go_wp2
          all_goals go_meet
          all_goals exact ⟨_, HI.out.step hb2' hn2 hxn⟩
        case rest =>
          obtain ⟨rv0, hlk⟩ := hcut
          have HLK := Lib.hid hlk
          clear hcg hco hci hcu bc bf
          obtain ⟨bc, bf, _, _⟩ := hlk.box
          obtain ⟨rp2, rc2, hrs, _⟩ := (hlk.rows u hu).shape
          have hcu := hlk.own.cellAt u (by omega)
          have hv0 := get_getD (vals.set x rv0) u undef (by rw [hlk.len]; exact hu)
          rw [hv0, hrs] at hcu
          have hnu2 := Lib.hid (hlk.rows u hu)
          rw [hrs] at hnu2
          have hr1 : Hid (row (gg.set x (intoL (row gg x) u)) u = row gg u) := Lib.hid (by rw [row_put, if_neg (fun q => hxu q.1.symm)])
          have hru2 : (row gg u).length ≤ 1000 := by have := HRG.out.row_le u; have := HI.out.gl; omega
          rw [hr1.out] at hcu
          rw [hr1.out] at hnu2
          clear hv0 hrs hlk hnu hru
          go_upto_region 8 with fail
          go_region_law (first | (go_simp; go_at_call 28; refine (l1Into_any _ (row gg u) x (by omega) _ (hnu2.out.below (below_dN (Below.refl _ _) 1))).mono ?_; rintro e w2 ⟨rv, rfl, hn2, hb2⟩; obtain ⟨rvp, rvc, rfl, _⟩ := hn2.shape; have hb2' : Below wc.heap.size wc w2 := (below_dN (Below.refl _ _) 1).trans hb2; have hf2 := (ownsRow_below HLK.out.own hb2').frozenAt u; have hc2 := hb2'.at' hcu; have hbc2 := hb2'.at' bc))
          all_goals
            have HLK2 := Lib.hid (HLK.out.step hb2' hn2 hu)
            clear hcu hnu2 hru2
            go_wp2
            go_roundw
            case rel => exact ⟨j + 1, tieStep u gg x, _, by omega, by go_num, by rw [show tieStep (u : Int) gg (x : Int) = (gg.set x (intoL (row gg x) u)).set u (intoL (row gg u) x) from by unfold tieStep tieG; rw [if_neg (by omega), Int.toNat_natCast, Int.toNat_natCast, hr1.out]]; exact HLK2.out, HRG.out.tie (by omega) (by have := HI.out.gl; omega) (by omega) (by have := HI.out.gl; omega), Lib.hid (by rw [take_fold _ _ _ hlt, ← HE.out, HX.out])⟩
            case measure => simp [intOf]; omega
    · obtain rfl : j = l.length := by omega
      have hfin : Hid (gg = joinG g u k) := Lib.hid (by rw [HE.out, List.take_length, HL.out]; rfl)
      have hb5 := HI.out.box.cell
      have hbx1 := HBN.out.below HI.out.bel (by omega)
      have hbn1 := hbx1.cell
      have hbf1 := hbx1.free
      have HBX1 := Lib.hid hbx1
      clear hbx1 hnn
      go_wp2
      refine bodyPost_ret (v := .agg #[.slice (some ⟨ob, 0, none⟩) g.length c]) (by simp [results, Tryd.results26, go_sem, hbn1]) rfl ⟨_, rfl, ?_, HJ.out, ?_⟩
      · rw [← hfin.out]
        exact SG.base (SG.setBox HI.out.sg HBX1.out _) (by omega)
      · exact (HB0.out.trans (HI.out.bel.mono (by omega))).setCell (by show w.heap.size ≤ w.heap.size + 1; omega) _

end Go.Proofs.YtiklocamfgopbaaDoor
