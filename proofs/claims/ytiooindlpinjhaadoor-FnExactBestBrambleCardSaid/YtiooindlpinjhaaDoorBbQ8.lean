/- Walks: graphs that the reference makes. -/
import Derived.Test.YtiooindlpinjhaaDoorBbQ7
import Derived.Test.YtiooindlpinjhaaDoorBbQ3
import Derived.Deep.RegionLaw
import Derived.Test.YtiooindlpinjhaaDoorBbQ4
import Derived.Test.YtiooindlpinjhaaDoorBbQ5
namespace Go.Proofs.YtiooindlpinjhaaDoor
open Go.RowKit

/-- v is a graph whose outer row is the callee's own; its rows are read alone. -/
def SG (w : World) (base : Nat) (v : Value) (g : List (List Int)) : Prop :=
  ∃ u vals, v = .agg #[u] ∧ vals.length = g.length ∧ w.ownsRow base 26 1 u g.length vals ∧ ∀ j, j < g.length → Nums w 2 .i64 (vals.getD j undef) (row g j)
theorem SG.below {w w' : World} {base : Nat} {v : Value} {g : List (List Int)} (h : SG w base v g) (hb : Below w.heap.size w w') : SG w' base v g := by
  obtain ⟨u, vals, h1, h2, h3, h4⟩ := h
  exact ⟨u, vals, h1, h2, ownsRow_below h3 hb, fun j hj => (h4 j hj).below hb⟩
theorem SG.gr {w : World} {base : Nat} {v : Value} {g : List (List Int)} (h : SG w base v g) (hn : g.length ≤ 1000000000) : Gr w v g := by
  obtain ⟨u, vals, rfl, h2, h3, h4⟩ := h
  exact ⟨u, rfl, Rws.of_owned vals h2 h3 hn h4⟩
theorem SG.shape {w : World} {base : Nat} {v : Value} {g : List (List Int)} (h : SG w base v g) : ∃ p c, v = .agg #[.slice p g.length c] := by
  obtain ⟨u, vals, rfl, h2, h3, h4⟩ := h
  rcases h3.2 with ⟨rfl, h0⟩ | ⟨b, c, _, rfl, _⟩
  · exact ⟨none, 0, by rw [h0]⟩
  · exact ⟨_, _, rfl⟩

/-- Two boxes of a graph: the result's, and the one that grows. -/
theorem two_boxes (w : World) : ∃ W, W = (w.alloc (.cells #[.slice none 0 0] 28)).alloc (.cells #[.slice none 0 0] 28) ∧ Below w.heap.size w W ∧ W.heap.size = w.heap.size + 2 ∧
    Box W w.heap.size 28 (.slice none 0 0) ∧ Box W (w.heap.size + 1) 28 (.slice none 0 0) := by
  refine ⟨_, rfl, below_alloc2 _ _ _, by rw [size_alloc, size_alloc], (Box.new w _ _).alloc _, ?_⟩
  have := Box.new (w.alloc (.cells #[.slice none 0 0] 28)) (.slice none 0 0) 28
  rw [size_alloc] at this
  exact this

/-- What a round leaves that puts a row behind the others. -/
theorem box_step {w wr wc w7 : World} {k b7 c8 : Nat} {ov x rv : Value} {vals : List Value}
    (hbel : Below w.heap.size w wr) (hsz : w.heap.size + 2 ≤ wr.heap.size) (hbc : Below wr.heap.size wr wc)
    (hb2 : Box wr w.heap.size 28 x) (hb3 : Box wr (w.heap.size + 1) 28 ov) (hown : wr.ownsRow (w.heap.size + 2) 26 1 ov k vals)
    (hown7 : w7.ownsRow (w.heap.size + 2) 26 1 (.slice (some ⟨b7, 0, none⟩) (k + 1) c8) (k + 1) (vals ++ [rv])) (hg7 : wc.grownBy w7 ov.ownBlock) :
    ∃ W, W = w7.setCell ⟨w.heap.size + 1, 0, none⟩ (.slice (some ⟨b7, 0, none⟩) (k + 1) c8) ∧
      Below w.heap.size w W ∧ w.heap.size + 2 ≤ W.heap.size ∧ Box W w.heap.size 28 x ∧ Box W (w.heap.size + 1) 28 (.slice (some ⟨b7, 0, none⟩) (k + 1) c8) ∧ W.ownsRow (w.heap.size + 2) 26 1 (.slice (some ⟨b7, 0, none⟩) (k + 1) c8) (k + 1) (vals ++ [rv]) ∧
      (∀ base size n v (xs : List Value), wc.ownsRow base 2 size v n xs → W.ownsRow base 2 size v n xs) := by
  have hownc := ownsRow_below hown hbc
  have hszc := hbc.size
  have hsz7 := hg7.size
  have hb7 : Below (w.heap.size + 2) wc w7 := below_grown (Below.refl _ _) hownc hg7 (Nat.le_refl _) (by omega)
  have hb37 : Box w7 (w.heap.size + 1) 28 ov := (hb3.keep hbc).below hb7 (by omega)
  have hb9 : Below (w.heap.size + 1) w7 (w7.setCell ⟨w.heap.size + 1, 0, none⟩ (.slice (some ⟨b7, 0, none⟩) (k + 1) c8)) := (Below.refl _ _).setCell (by show w.heap.size + 1 ≤ w.heap.size + 1; omega) _
  have hall : Below (w.heap.size + 1) wr (w7.setCell ⟨w.heap.size + 1, 0, none⟩ (.slice (some ⟨b7, 0, none⟩) (k + 1) c8)) := ((hbc.mono (by omega)).trans (hb7.mono (by omega))).trans hb9
  refine ⟨_, rfl, hbel.trans (hall.mono (by omega)), by have := hall.size; omega, hb2.below hall (by omega), hb37.set _, ownsRow_setBox hown7 hb37 (by decide) _, fun base size n v xs h => ?_⟩
  exact ownsRow_setBox (ownsRow_other h hownc hg7 (by decide)) hb37 (by decide) _

set_option maxRecDepth 100000 in
set_option maxHeartbeats 2000000 in
theorem l1Empty_any (z : Int) (n : Nat) (hz : z = n) (hn : n ≤ 1000) (w : World) :
    Calls Tryd.prog 128 #[.int .i64 z] w fun e w' => ∃ u, e = .returned u ∧ SG w' w.heap.size u (List.replicate n []) ∧ Below w.heap.size w w' := by
  subst hz
  have START := Lib.hid (two_boxes w)
  go_enter Tryd.func128, Tryd.ntmps128
  go_wp2
  go_loopw [4] (fun i wr => ∃ (k : Nat) (ov : Value) (vals : List Value), k ≤ n ∧ i = .int .i64 k ∧ Below w.heap.size w wr ∧ w.heap.size + 2 ≤ wr.heap.size ∧
      Box wr w.heap.size 28 (.slice none 0 0) ∧ Box wr (w.heap.size + 1) 28 ov ∧ wr.ownsRow (w.heap.size + 2) 26 1 ov k vals ∧ vals.length = k ∧ ∀ j, j < k → ∃ a, vals.getD j undef = .slice (some a) 0 0)
    (fun i _ => n - (intOf i).toNat)
  case atStart =>
    obtain ⟨W, rfl, h1, h2, h3, h4⟩ := START.out
    exact ⟨0, _, [], Nat.zero_le _, rfl, h1, by omega, h3, h4, World.ownsRow_nil _ _ _ _, rfl, fun j hj => by omega⟩
  case round =>
    obtain ⟨k, ov, vals, hk, rfl, hbel, hsz, hb2, hb3, hown, hvl, hrows⟩ := hrel
    have Hvl := Lib.hid hvl
    have Hrows := Lib.hid hrows
    have Hb2 := Lib.hid hb2
    have Hb3 := Lib.hid hb3
    have Hown := Lib.hid hown
    clear hvl hrows hb3 hb2 hown
    by_cases hlt : k < n
    · have hba := Lib.hid (below_alloc wr (.cells #[] 2))
      have hownc := ownsRow_below Hown.out hba.out
      obtain ⟨c3, f3, _, _⟩ := Hb3.out
      have hob := fun o => (below_alloc2 wr (.cells #[] 2) o).at' c3
      go_wp2_with (at_builtin; refine wpList_app1s ty_rows rfl rfl rfl hownc (by rw [size_alloc]; rfl) rfl (by omega) (by rw [size_alloc]; omega) ?_; intro b7 c8 w7 hown7 hg7 _; have hb7 := below_grown (Below.refl (w.heap.size + 2) (wr.alloc (.cells #[] 2))) hownc hg7 (Nat.le_refl _) (by rw [size_alloc]; omega); have hob7 := hb7.at (by omega) ((below_alloc wr (.cells #[] 2)).at' c3); have hof7 := (hb7.frozen (p := ⟨w.heap.size + 1, 0, none⟩) (by show w.heap.size + 1 < _; omega)).trans (((below_alloc wr (.cells #[] 2)).frozen (p := ⟨w.heap.size + 1, 0, none⟩) (by show w.heap.size + 1 < _; omega)).trans f3))
      go_roundw
      case rel =>
        obtain ⟨W, rfl, r1, r2, r3, r4, r5, _⟩ := box_step hbel hsz hba.out Hb2.out Hb3.out Hown.out hown7 hg7
        refine ⟨k + 1, _, _, by omega, by go_num, r1, r2, r3, r4, r5, by simp [Hvl.out], fun j hj => ?_⟩
        by_cases e : j = k
        · subst e
          exact ⟨_, by rw [← Hvl.out]; exact getD_append_last _ _ _⟩
        · rw [getD_append_left _ _ _ _ (by have := Hvl.out; omega)]
          exact Hrows.out j (by omega)
      case measure => simp [intOf]; omega
    · obtain rfl : k = n := by omega
      obtain ⟨k2c, k2f, _⟩ := Hb2.out
      obtain ⟨k3c, k3f, _⟩ := Hb3.out
      obtain ⟨p9, c9, rfl⟩ : ∃ p c, ov = .slice p k c := by
        rcases Hown.out.2 with ⟨h1, h2⟩ | ⟨g1, cap, cur, h1, _⟩
        · exact ⟨none, 0, by rw [h1, h2]⟩
        · exact ⟨_, _, h1⟩
      go_wp2
      refine bodyPost_ret (v := .agg #[.slice p9 k c9]) (by simp [results, Tryd.results128, go_sem, k2c]) rfl ⟨_, rfl, ⟨_, vals, rfl, by simpa using Hvl.out, ?_, fun j hj => ?_⟩, ?_⟩
      · rw [List.length_replicate]; exact ownsRow_base (ownsRow_setBox Hown.out Hb2.out (by decide) (.slice p9 k c9)) (by omega)
      · rw [List.length_replicate] at hj
        obtain ⟨a, ha⟩ := Hrows.out j hj
        rw [ha, show row (List.replicate k ([] : List Int)) j = [] by simp [row, hj]]
        exact Sl.nothing _ _ _ _ (by simp)
      · exact hbel.setCell (by show w.heap.size ≤ w.heap.size; omega) _

set_option maxRecDepth 100000 in
theorem l1Edge_any (v : Value) (g : List (List Int)) (y z : Int) (u k : Nat) (hy : y = u) (hz : z = k) (hu : u < g.length) (w : World) (hg : Gr w v g) :
    Calls Tryd.prog 99 #[v, .int .i64 y, .int .i64 z] w fun e w' => e = .returned (.bool (dec ((k : Int) ∈ row g u))) ∧ Below w.heap.size w w' := by
  subst hy; subst hz
  obtain ⟨u0, rfl, hr⟩ := hg
  obtain ⟨p, c, rfl, _, _, hn⟩ := hr.shape
  have hb := below_alloc w (.cells #[.slice p g.length c] 28)
  obtain ⟨b, o, rp, rc, rfl, hcell, hnums⟩ := (hr.below hb).get hu
  change World.cell? _ _ = some (.slice rp (row g u).length rc) at hcell
  change Nums _ _ _ (.slice rp (row g u).length rc) (row g u) at hnums
  have Hb := Lib.hid hb
  clear hb hr
  go_enter Tryd.func99, Tryd.ntmps99
  go_wp2_with (go_at_call 72; refine (l1Has_any _ _ k _ hnums).mono ?_; rintro e w2 ⟨rfl, rfl⟩)
  go_ret
  exact ⟨rfl, Hb.out⟩

end Go.Proofs.YtiooindlpinjhaaDoor

/- Walks: the program's graph of some vertices; a graph made of masks. -/
namespace Go.Proofs.YtiooindlpinjhaaDoor
open Go.RowKit

theorem step_app1s {P : Program} {T E : TypeId} {z : Value} {bytes : Nat} (S : SlTy P T E z 1 bytes) {w : World} {ops : Array Oper} {o : Oper} {a : Act} {K : Act → World → Prop} {Q : Exit → Act → World → Prop} {F : Prop}
    (hgd : o.guard = none) {s x : Operand} (ho : o.op = .call { callee := .builtin .append, args := #[s, x], argTypes := #[T, T] })
    {base : Nat} {v : Value} {n : Nat} {xs : List Value} {el : Value} (hs : a.eval s = v) (hown : w.ownsRow base E 1 v n xs)
    (hx : a.eval x = .slice (some ⟨w.heap.size, 0, none⟩) 1 1) (h1 : el.oneCell' = true)
    (hnm : n < 1000000000) (hbase : base ≤ w.heap.size)
    (h : ∀ b c w', w'.ownsRow base E 1 (.slice (some ⟨b, 0, none⟩) (n + 1) c) (n + 1) (xs ++ [el]) → w.grownBy w' v.ownBlock → K (a.put o.dst (.slice (some ⟨b, 0, none⟩) (n + 1) c)) w') :
    if Region.wanted o (yielded ops a.tmps) = true then Oper.wp P o a (w.alloc (.cells #[el] E)) K Q else F := by
  have hw : Region.wanted o (yielded ops a.tmps) = true := by simp [Region.wanted, hgd]
  rw [if_pos hw]
  have hal : (w.alloc (.cells #[el] E)).heap.size = w.heap.size + 1 := by show (w.heap.push _).size = _; simp
  have hu : Sl (w.alloc (.cells #[el] E)) E (.slice (some ⟨w.heap.size, 0, none⟩) 1 1) 1 [el] := by
    refine ⟨_, 1, rfl, (fun e => by cases e), Nat.le_refl _, by omega, Or.inr ⟨w.heap.size, 0, #[el], (0, 0), rfl, heap_alloc_new w _, ?_⟩⟩
    intro j u hu
    match j, hu with
    | 0, hu => simpa using hu
    | j + 1, hu => simp at hu
  obtain ⟨v', w', hr, h2, h3, h4⟩ := run_app S (w.alloc (.cells #[el] E)) o.type base v n xs (hown.alloc _) _ 1 [el] hu (by simp) (by simpa using h1) (by omega) (by omega)
  unfold Oper.wp execOp
  simp only [ho, resolve, invoke, builtin, Sem.run_bind, Sem.run_pure, Result.andThen_ok, List.map_toArray, List.map_cons, List.map_nil, hs, hx, hr]
  rcases id h2.2 with ⟨_, h0⟩ | ⟨g, cap, cur, rfl, _⟩
  · omega
  · exact h g cap w' h2 ⟨h3.os, h3.tape, h3.output, by have := h3.size; omega, fun k hk hne => (h3.block k (by omega) hne).trans (Below.heap_alloc w _ k hk)⟩

end Go.Proofs.YtiooindlpinjhaaDoor

/- Walk: a graph made of masks. -/
namespace Go.Proofs.YtiooindlpinjhaaDoor
open Go.RowKit

/-- The first k rows are the callee's own, each in a block of its own. -/
structure Dis (w : World) (base k : Nat) (vals : List Value) (g : List (List Int)) : Prop where
  rows : ∀ j, j < k → w.ownsRow base 2 1 (vals.getD j undef) (row g j).length ((row g j).map (Value.int .i64))
  dis : ∀ i j, i < k → j < k → i ≠ j → ∀ b, (vals.getD i undef).ownBlock = some b → (vals.getD j undef).ownBlock ≠ some b
def DG (w : World) (base : Nat) (v : Value) (g : List (List Int)) : Prop :=
  ∃ u vals, v = .agg #[u] ∧ vals.length = g.length ∧ w.ownsRow base 26 1 u g.length vals ∧ Dis w base g.length vals g

theorem DG.below {w w' : World} {base : Nat} {v : Value} {g : List (List Int)} (h : DG w base v g) (hb : Below w.heap.size w w') : DG w' base v g := by
  obtain ⟨u, vals, h1, h2, h3, h4⟩ := h
  exact ⟨u, vals, h1, h2, ownsRow_below h3 hb, ⟨fun j hj => ownsRow_below (h4.rows j hj) hb, h4.dis⟩⟩
theorem DG.gr {w : World} {base : Nat} {v : Value} {g : List (List Int)} (h : DG w base v g) (hn : g.length ≤ 1000000000) (hr : ∀ j, j < g.length → (row g j).length ≤ 1000000000) : Gr w v g := by
  obtain ⟨u, vals, rfl, h2, h3, h4⟩ := h
  exact ⟨u, rfl, Rws.of_owned vals h2 h3 hn fun j hj => Nums.of_owns (h4.rows j hj) rfl (hr j hj)⟩
theorem DG.shape {w : World} {base : Nat} {v : Value} {g : List (List Int)} (h : DG w base v g) : ∃ p c, v = .agg #[.slice p g.length c] := by
  obtain ⟨u, vals, rfl, h2, h3, h4⟩ := h
  rcases h3.2 with ⟨rfl, h0⟩ | ⟨b, c, _, rfl, _⟩
  · exact ⟨none, 0, by rw [h0]⟩
  · exact ⟨_, _, rfl⟩
theorem DG.base {w : World} {base base' : Nat} {v : Value} {g : List (List Int)} (h : DG w base v g) (hb : base' ≤ base) : DG w base' v g := by
  obtain ⟨u, vals, h1, h2, h3, h4⟩ := h
  exact ⟨u, vals, h1, h2, ownsRow_base h3 hb, ⟨fun j hj => ownsRow_base (h4.rows j hj) hb, h4.dis⟩⟩
theorem DG.setBox {w : World} {base b : Nat} {v x : Value} {g : List (List Int)} (h : DG w base v g) (hb : Box w b 28 x) (u : Value) : DG (w.setCell ⟨b, 0, none⟩ u) base v g := by
  obtain ⟨u0, vals, h1, h2, h3, h4⟩ := h
  exact ⟨u0, vals, h1, h2, ownsRow_setBox h3 hb (by decide) _, ⟨fun j hj => ownsRow_setBox (h4.rows j hj) hb (by decide) _, h4.dis⟩⟩

/-- The masks' rows. -/
def rowsOf (a : List Nat) : List (List Int) := a.map fun s => natInts (bitsOf s)
theorem rowsOf_length (a : List Nat) : (rowsOf a).length = a.length := by simp [rowsOf]
theorem row_rowsOf {a : List Nat} {j : Nat} (h : j < a.length) : row (rowsOf a) j = natInts (bitsOf a[j]) := by simp [row, rowsOf, h]
theorem rowsOf_indN {m : Nat} (hm : m ≤ 16) (E : Nat → Nat → Bool) : rowsOf (indN m E) = matG m E := by
  refine graph_ext (by rw [rowsOf_length, indN_length, matG_length]) fun j hj => ?_
  rw [rowsOf_length, indN_length] at hj
  rw [row_rowsOf (by rw [indN_length]; exact hj), ← indN_rows hm hj]
  have : (indN m E).getD j 0 = (indN m E)[j]'(by rw [indN_length]; exact hj) := by simp [indN_length, hj]
  rw [this]

theorem Dis.snoc {w W : World} {base k : Nat} {vals : List Value} {g : List (List Int)} {rv : Value} (h : Dis w base k vals g) (hl : vals.length = k)
    (hk : ∀ base size n v (xs : List Value), w.ownsRow base 2 size v n xs → W.ownsRow base 2 size v n xs)
    {B : Nat} (hB : base ≤ B) (hold : ∀ j, j < k → ∀ b, (vals.getD j undef).ownBlock = some b → b < B)
    (hn : w.ownsRow B 2 1 rv (row g k).length ((row g k).map (Value.int .i64))) : Dis W base (k + 1) (vals ++ [rv]) g := by
  have e1 : ∀ j, j < k → (vals ++ [rv]).getD j undef = vals.getD j undef := fun j hj => getD_append_left _ _ _ _ (by omega)
  have e2 : (vals ++ [rv]).getD k undef = rv := by rw [← hl]; exact getD_append_last _ _ _
  refine ⟨fun j hj => ?_, fun i j hi hj hne b hb => ?_⟩
  · by_cases e : j = k
    · subst e; rw [e2]; exact hk _ _ _ _ _ (ownsRow_base hn hB)
    · rw [e1 j (by omega)]; exact hk _ _ _ _ _ (h.rows j (by omega))
  · by_cases ei : i = k
    · subst ei
      rw [e2] at hb
      rw [e1 j (by omega)]
      intro hc
      have := hold j (by omega) b hc
      have := (hn.lt b hb).1
      omega
    · rw [e1 i (by omega)] at hb
      by_cases ej : j = k
      · subst ej
        rw [e2]
        intro hc
        have := hold i (by omega) b hb
        have := (hn.lt b hc).1
        omega
      · rw [e1 j (by omega)]
        exact h.dis i j (by omega) (by omega) hne b hb

end Go.Proofs.YtiooindlpinjhaaDoor

/- Walks: marking a graph whose rows lie apart, and looking at the marks. -/
namespace Go.Proofs.YtiooindlpinjhaaDoor
open Go.RowKit

def preL (g : List (List Int)) : Nat → Nat
  | 0 => 0
  | j + 1 => preL g j + (row g j).length
theorem preL_le {g : List (List Int)} {m : Nat} (h : ∀ j, (row g j).length ≤ m) : ∀ j, preL g j ≤ j * m
  | 0 => by simp [preL]
  | j + 1 => by
    have h1 := preL_le h j
    have h2 := h j
    have : (j + 1) * m = j * m + m := Nat.succ_mul j m
    simp only [preL]; omega
/-- The graph of the marks k, k + 1, .. that a graph bears. -/
def markG (k : Int) (g : List (List Int)) : List (List Int) := (List.range g.length).map fun j => marks (k + preL g j) (row g j).length
theorem markG_length (k : Int) (g : List (List Int)) : (markG k g).length = g.length := by simp [markG]
theorem row_markG {k : Int} {g : List (List Int)} {j : Nat} (h : j < g.length) : row (markG k g) j = marks (k + preL g j) (row g j).length := by simp [row, markG, h]

set_option maxRecDepth 100000 in
set_option maxHeartbeats 1000000 in
theorem markInt64SS_x (v : Value) (g : List (List Int)) (base : Nat) (k : Int) (h1 : g.length ≤ 100000) (h2 : ∀ j, (row g j).length ≤ 1000) (h0 : 0 ≤ k) (hk1 : k ≤ 1048576) (w : World)
    (vals : List Value) (hvl : vals.length = g.length) (ho : w.ownsRow base 26 1 v g.length vals) (hr : Dis w base g.length vals g) (hi : Nat) (hhi : ∀ j, j < g.length → ∀ b, (vals.getD j undef).ownBlock = some b → b < hi) :
    Calls Tryd.prog 32 #[v, .int .i64 k] w fun e w' => e = .returned (.int .i64 (k + preL g g.length)) ∧ w'.ownsRow base 26 1 v g.length vals ∧ Dis w' base g.length vals (markG k g) ∧ Apart base hi w w' := by
  rcases ho.2 with ⟨rfl, hn0⟩ | ⟨b, cap, cur, rfl, _⟩
  · have e0 : ((g.length : Nat) : Int) = 0 := by omega
    have Ho := Lib.hid ho
    clear ho hr hhi
    go_enter Tryd.func32, Tryd.ntmps32
    go_wp2
    refine wp_loop_rounds 1 ?_
    rw [rounds_succ]
    go_wp2
    go_ret
    exact ⟨ret_int (by rw [hn0]; simp [preL]), Ho.out, ⟨fun j hj => by omega, fun i j hi => by omega⟩, Apart.refl _ _ _⟩
  have Hhi := Lib.hid hhi
  have H2 := Lib.hid h2
  have Hvl := Lib.hid hvl
  have Hr := Lib.hid hr
  have Ho := Lib.hid ho
  have hbs := (ho.lt b rfl).1
  have hbz := (ho.lt b rfl).2
  have HP := Lib.hid (preL_le h2)
  clear h2 hvl hr ho hhi
  go_enter Tryd.func32, Tryd.ntmps32
  go_wp2
  go_loopw [1, 5] (fun z i wr => ∃ (j : Nat) (y : Int), j ≤ g.length ∧ i = .int .i64 j ∧ z = .int .i64 y ∧ y = k + preL g j ∧ Apart base hi w wr ∧
      wr.ownsRow base 26 1 (.slice (some ⟨b, 0, none⟩) g.length cap) g.length vals ∧
      (∀ i, i < g.length → wr.ownsRow base 2 1 (vals.getD i undef) (row g i).length ((if i < j then marks (k + preL g i) (row g i).length else row g i).map (Value.int .i64))))
    (fun _ i _ => g.length - (intOf i).toNat)
  case atStart => exact ⟨0, k, Nat.zero_le _, rfl, rfl, by simp [preL], Apart.refl _ _ _, Ho.out, fun i hi => by simpa using Hr.out.rows i hi⟩
  case round =>
    obtain ⟨j, y, hj, rfl, rfl, hy, hbel, hown, hrows⟩ := hrel
    have Hrows := Lib.hid hrows
    have hp := HP.out j
    have hy0 : 0 ≤ y := by omega
    have hy1 : y ≤ 1048576 + 100000 * 1000 := by
      have : j * 1000 ≤ 100000 * 1000 := Nat.mul_le_mul_right _ (by omega)
      omega
    have Hy := Lib.hid hy
    clear hrows hy hp
    by_cases hlt : j < g.length
    · have hys := Hrows.out j hlt
      rw [if_neg (Nat.lt_irrefl j)] at hys
      have hl2 := H2.out j
      have hc := hown.cellAt j (by omega)
      obtain ⟨u, hu⟩ : ∃ u, vals[j]? = some u := ⟨_, List.getElem?_eq_getElem (by have := Hvl.out; omega)⟩
      have hud : vals.getD j undef = u := by rw [List.getD_eq_getElem?_getD, hu]; rfl
      rw [hu] at hc
      rw [hud] at hys
      have Hys := Lib.hid hys
      have Hud := Lib.hid hud
      clear hys hud hu
      obtain ⟨m, hm⟩ : ∃ m, m = (row g j).length := ⟨_, rfl⟩
      rw [← hm] at hl2
      have Hm := Lib.hid hm
      clear hm
      have hsz := hbel.size
      go_wp2_with (go_at_call 14; refine (markInt64S_any u m base ((row g j).map (Value.int .i64)) y (by omega) hy0 (by omega) _ (Hm.out ▸ Hys.out)).mono ?_; rintro e w2 ⟨rfl, ho2, hg2, _⟩)
      go_roundw
      case rel =>
        have hys : wr.ownsRow base 2 1 u m ((row g j).map (Value.int .i64)) := Hm.out ▸ Hys.out
        have hbs2 : base ≤ w.heap.size := by omega
        refine ⟨j + 1, _, by omega, by go_num, rfl, by have := Hy.out; have := Hm.out; simp only [preL]; omega, hbel.trans (Apart.of_grown hys hg2 (Nat.le_refl _) (by rw [← Hud.out]; exact Hhi.out j hlt)), ownsRow_other hown hys hg2 (by decide), fun i hi => ?_⟩
        by_cases e : i = j
        · subst e
          rw [if_pos (by omega), Hud.out, ← Hm.out]
          rw [Hy.out] at ho2
          exact ho2
        · have hh := Hrows.out i hi
          have hcond : (i < j) ↔ (i < j + 1) := by omega
          have : (if i < j + 1 then marks (k + preL g i) (row g i).length else row g i) = (if i < j then marks (k + preL g i) (row g i).length else row g i) := by
            by_cases h : i < j
            · rw [if_pos h, if_pos (by omega)]
            · rw [if_neg h, if_neg (by omega)]
          rw [this]
          refine hh.kept hg2 ?_
          cases hob : (vals.getD i undef).ownBlock with
          | none => exact .inl rfl
          | some bb =>
            refine .inr fun hc => ?_
            have := Hr.out.dis i j hi hlt e bb hob
            rw [Hud.out] at this
            exact this hc.symm
      case measure => simp [intOf]; omega
    · obtain rfl : j = g.length := by omega
      go_wp2
      go_ret
      refine ⟨ret_int Hy.out, hown, ⟨fun i hi => ?_, Hr.out.dis⟩, hbel⟩
      have := Hrows.out i hi
      rw [if_pos hi] at this
      rw [row_markG hi, marks_length]
      exact this

/-- A graph of blocks of its own from base on and below hi. -/
def DGh (w : World) (base hi : Nat) (v : Value) (g : List (List Int)) : Prop :=
  ∃ u vals, v = .agg #[u] ∧ vals.length = g.length ∧ w.ownsRow base 26 1 u g.length vals ∧ Dis w base g.length vals g ∧ ∀ j, j < g.length → ∀ b, (vals.getD j undef).ownBlock = some b → b < hi
theorem DGh.of {w : World} {base : Nat} {v : Value} {g : List (List Int)} (h : DG w base v g) : DGh w base w.heap.size v g := by
  obtain ⟨u, vals, h1, h2, h3, h4⟩ := h
  exact ⟨u, vals, h1, h2, h3, h4, fun j hj b hb => ((h4.rows j hj).lt b hb).2⟩
theorem DGh.dg {w : World} {base hi : Nat} {v : Value} {g : List (List Int)} (h : DGh w base hi v g) : DG w base v g := by
  obtain ⟨u, vals, h1, h2, h3, h4, _⟩ := h
  exact ⟨u, vals, h1, h2, h3, h4⟩
theorem DGh.below {w w' : World} {base hi : Nat} {v : Value} {g : List (List Int)} (h : DGh w base hi v g) (hb : Below w.heap.size w w') : DGh w' base hi v g := by
  obtain ⟨u, vals, h1, h2, h3, h4, h5⟩ := h
  exact ⟨u, vals, h1, h2, ownsRow_below h3 hb, ⟨fun j hj => ownsRow_below (h4.rows j hj) hb, h4.dis⟩, h5⟩
theorem DGh.apart {w w' : World} {base hi lo' hi' : Nat} {v : Value} {g : List (List Int)} (h : DGh w base hi v g) (ha : Apart lo' hi' w w') (hl : hi' ≤ base) : DGh w' base hi v g := by
  obtain ⟨u, vals, h1, h2, h3, h4, h5⟩ := h
  exact ⟨u, vals, h1, h2, ownsRow_apart_hi h3 ha hl, ⟨fun j hj => ownsRow_apart_hi (h4.rows j hj) ha hl, h4.dis⟩, h5⟩
theorem Box.apart {w w' : World} {b lo hi : Nat} {T : TypeId} {v : Value} (h : Box w b T v) (ha : Apart lo hi w w') (hb : hi ≤ b) : Box w' b T v := .of ((ha.block b h.lt (.inr hb)).trans h.blk)

set_option maxRecDepth 100000 in
theorem markGraph_x (v : Value) (g : List (List Int)) (base hi : Nat) (k : Int) (h1 : g.length ≤ 100000) (h2 : ∀ j, (row g j).length ≤ 1000) (h0 : 0 ≤ k) (hk1 : k ≤ 1048576) (w : World) (hd : DGh w base hi v g) :
    Calls Tryd.prog 13 #[v, .int .i64 k] w fun e w' => e = .returned (.int .i64 (k + preL g g.length)) ∧ DGh w' base hi v (markG k g) ∧ Apart base hi w w' := by
  obtain ⟨u, vals, rfl, hvl, ho, hr, hhi⟩ := hd
  have hb1 := below_alloc w (.cells #[u] 28)
  have hk' := Lib.hid (markInt64SS_x u g base k h1 h2 h0 hk1 _ vals hvl (ownsRow_below ho hb1) ⟨fun j hj => ownsRow_below (hr.rows j hj) hb1, hr.dis⟩ hi hhi)
  have Hb1 := Lib.hid (Apart.of_below (lo := base) (hi := hi) hb1)
  have Hvl := Lib.hid hvl
  have Hhi := Lib.hid hhi
  have hsh : u = .slice none 0 0 ∨ ∃ b c, u = .slice (some ⟨b, 0, none⟩) g.length c := by
    rcases ho.2 with ⟨h, _⟩ | ⟨b, c, _, h, _⟩
    · exact .inl h
    · exact .inr ⟨b, c, h⟩
  clear hvl ho hr hb1 h2 hhi
  rcases hsh with rfl | ⟨b, c, rfl⟩
  all_goals
    go_enter Tryd.func13, Tryd.ntmps13
    go_wp2_with (go_at_call 32; refine hk'.out.mono ?_; rintro e w2 ⟨rfl, ho2, hd2, hb2⟩)
    go_ret
    exact ⟨rfl, ⟨_, vals, rfl, by rw [markG_length]; exact Hvl.out, by rw [markG_length]; exact ho2, by rw [markG_length]; exact hd2, by rw [markG_length]; exact Hhi.out⟩, Hb1.out.trans hb2⟩

set_option maxRecDepth 100000 in
set_option maxHeartbeats 1000000 in
theorem heldInt64SS_x (v : Value) (g : List (List Int)) (k : Int) (h1 : g.length ≤ 100000) (h2 : ∀ j, (row g j).length ≤ 1000) (h0 : 0 ≤ k) (hk1 : k ≤ 1048576) (w : World) (hx : Rws w 26 2 v (markG k g)) :
    Calls Tryd.prog 33 #[v, .int .i64 k] w fun e w' => e = .returned (.int .i64 (k + preL g g.length)) ∧ w = w' := by
  obtain ⟨p, c, rfl, _⟩ := hx.shape
  rw [markG_length] at hx ⊢
  have HX := Lib.hid hx
  have HP := Lib.hid (preL_le h2)
  have H2 := Lib.hid h2
  clear hx h2
  go_enter Tryd.func33, Tryd.ntmps33
  go_wp2
  go_loop [1, 5] (fun z i => ∃ (j : Nat) (y : Int), j ≤ g.length ∧ i = .int .i64 j ∧ z = .int .i64 y ∧ y = k + preL g j) (fun _ i => g.length - (intOf i).toNat)
  case atStart => exact ⟨0, _, Nat.zero_le _, rfl, rfl, by simp [preL]⟩
  case round =>
    obtain ⟨j, y, hj, rfl, rfl, hy⟩ := hrel
    have hp := HP.out j
    have hy0 : 0 ≤ y := by omega
    have hy1 : y ≤ 1048576 + 100000 * 1000 := by
      have : j * 1000 ≤ 100000 * 1000 := Nat.mul_le_mul_right _ (by omega)
      omega
    have Hy := Lib.hid hy
    clear hy hp
    by_cases hlt : j < g.length
    · obtain ⟨b, o, rp, rc, rfl, hcell, hnums⟩ := HX.out.get (k := j) (by rw [markG_length]; exact hlt)
      have er : (markG k g).getD j [] = marks y (row g j).length := by rw [Hy.out]; exact row_markG hlt
      rw [er] at hcell hnums
      rw [marks_length] at hcell hnums
      have hl2 := H2.out j
      obtain ⟨m, hm⟩ : ∃ m, m = (row g j).length := ⟨_, rfl⟩
      rw [← hm] at hl2 hcell hnums
      have Hm := Lib.hid hm
      have hyn : ¬ y + (m : Int) < 0 := by omega
      clear hm er
      go_wp2_with (go_at_call 15; refine (heldInt64S_any _ m y hy0 (by omega) _ hnums).mono ?_; rintro e w2 ⟨rfl, rfl⟩)
      go_round
      case rel => exact ⟨j + 1, _, by omega, by go_num, rfl, by have := Hy.out; have := Hm.out; simp only [preL]; omega⟩
      case measure => simp [intOf]; omega
    · obtain rfl : j = g.length := by omega
      go_wp2
      go_ret
      exact ⟨ret_int Hy.out, rfl⟩


end Go.Proofs.YtiooindlpinjhaaDoor

/- Small laws on rows of numbers that a law's walk compares. -/
namespace Go.Proofs.YtiooindlpinjhaaDoor
open Go.RowKit

theorem rws_gr {w : World} {u : Value} {g : List (List Int)} (h : Gr w (.agg #[u]) g) : Rws w 26 2 u g := by
  obtain ⟨u', he, hr⟩ := h
  cases he
  exact hr
theorem DG.shape1 {w : World} {base : Nat} {u : Value} {g : List (List Int)} (h : DG w base (.agg #[u]) g) : ∃ p c, u = .slice p g.length c := by
  obtain ⟨p, c, e⟩ := h.shape
  cases e
  exact ⟨p, c, rfl⟩
theorem SG.shape1 {w : World} {base : Nat} {u : Value} {g : List (List Int)} (h : SG w base (.agg #[u]) g) : ∃ p c, u = .slice p g.length c := by
  obtain ⟨p, c, e⟩ := h.shape
  cases e
  exact ⟨p, c, rfl⟩
theorem eqInt64SS_b (u v : Value) (g : List (List Int)) (w : World) (hx : Rws w 26 2 u g) (hy : Rws w 26 2 v g) :
    Calls Tryd.prog 31 #[u, v] w fun e w' => e = .returned (.bool true) ∧ Below w.heap.size w w' :=
  (eqInt64SS_any u v g g w hx hy).mono fun e w' ⟨he, hb⟩ => by
    rw [dec_true rfl] at he
    exact ⟨he, hb⟩
theorem markSS_x (v : Value) (g : List (List Int)) (base hi : Nat) (k : Int) (h1 : g.length ≤ 100000) (h2 : ∀ j, (row g j).length ≤ 1000) (h0 : 0 ≤ k) (hk1 : k ≤ 1048576) (w : World) (hd : DGh w base hi (.agg #[v]) g) :
    Calls Tryd.prog 32 #[v, .int .i64 k] w fun e w' => e = .returned (.int .i64 (k + preL g g.length)) ∧ DGh w' base hi (.agg #[v]) (markG k g) ∧ Apart base hi w w' := by
  obtain ⟨u, vals, he, hvl, ho, hr, hhi⟩ := hd
  cases he
  refine (markInt64SS_x _ g base k h1 h2 h0 hk1 _ vals hvl ho hr hi hhi).mono fun e w' ⟨h1, h2, h3, h4⟩ => ⟨h1, ⟨_, vals, rfl, ?_, ?_, ?_, ?_⟩, h4⟩
  · rw [markG_length]; exact hvl
  · rw [markG_length]; exact h2
  · rw [markG_length]; exact h3
  · rw [markG_length]; exact hhi

end Go.Proofs.YtiooindlpinjhaaDoor
