/- Walk: a graph made of masks. -/
import Derived.Test.YtfokiijcpkhllaaDoorDsQ15
import Derived.Test.YtfokiijcpkhllaaDoorDsQ14
import Derived.Test.YtfokiijcpkhllaaDoorDsQ9
import Derived.Test.YtfokiijcpkhllaaDoorDsQ13
namespace Go.Proofs.YtfokiijcpkhllaaDoor
open Go.RowKit

/-- The first k rows are the callee's own, each in a block of its own. -/
structure Dis (w : World) (base k : Nat) (vals : List Value) (g : List (List Int)) : Prop where
  rows : ∀ j, j < k → w.ownsRow base 2 1 (vals.getD j undef) (row g j).length ((row g j).map (Value.int .i64))
  dis : ∀ i j, i < k → j < k → i ≠ j → ∀ b, (vals.getD i undef).ownBlock = some b → (vals.getD j undef).ownBlock ≠ some b
def DG (w : World) (base : Nat) (v : Value) (g : List (List Int)) : Prop :=
  ∃ u vals, v = .agg #[u] ∧ vals.length = g.length ∧ w.ownsRow base 32 1 u g.length vals ∧ Dis w base g.length vals g

theorem DG.below {w w' : World} {base : Nat} {v : Value} {g : List (List Int)} (h : DG w base v g) (hb : Below w.heap.size w w') : DG w' base v g := by
  obtain ⟨u, vals, h1, h2, h3, h4⟩ := h
  exact ⟨u, vals, h1, h2, ownsRow_below h3 hb, ⟨fun j hj => ownsRow_below (h4.rows j hj) hb, h4.dis⟩⟩
theorem DG.gr {w : World} {base : Nat} {v : Value} {g : List (List Int)} (h : DG w base v g) (hn : g.length ≤ 1000000000) (hr : ∀ j, j < g.length → (row g j).length ≤ 1000000000) : Gr w v g := by
  obtain ⟨u, vals, rfl, h2, h3, h4⟩ := h
  exact ⟨u, rfl, Rws.of_owned vals h2 h3 hn fun j hj => Nums.of_owns (h4.rows j hj) rfl (hr j hj)⟩
theorem DG.shape {w : World} {base : Nat} {v : Value} {g : List (List Int)} (h : DG w base v g) : ∃ p c, v = .agg #[.slice p g.length c] := by
  obtain ⟨u, vals, rfl, h2, h3, h4⟩ := h
  rcases h3.2 with ⟨rfl, h0⟩ | ⟨b, c, _, rfl, _⟩
  · exact ⟨none, 0, by rw [h0]⟩
  · exact ⟨_, _, rfl⟩
theorem DG.base {w : World} {base base' : Nat} {v : Value} {g : List (List Int)} (h : DG w base v g) (hb : base' ≤ base) : DG w base' v g := by
  obtain ⟨u, vals, h1, h2, h3, h4⟩ := h
  exact ⟨u, vals, h1, h2, ownsRow_base h3 hb, ⟨fun j hj => ownsRow_base (h4.rows j hj) hb, h4.dis⟩⟩
theorem DG.setBox {w : World} {base b : Nat} {v x : Value} {g : List (List Int)} (h : DG w base v g) (hb : Box w b 29 x) (u : Value) : DG (w.setCell ⟨b, 0, none⟩ u) base v g := by
  obtain ⟨u0, vals, h1, h2, h3, h4⟩ := h
  exact ⟨u0, vals, h1, h2, ownsRow_setBox h3 hb (by decide) _, ⟨fun j hj => ownsRow_setBox (h4.rows j hj) hb (by decide) _, h4.dis⟩⟩

/-- The masks' rows. -/
def rowsOf (a : List Nat) : List (List Int) := a.map fun s => natInts (bitsOf s)
theorem rowsOf_length (a : List Nat) : (rowsOf a).length = a.length := by simp [rowsOf]
theorem row_rowsOf {a : List Nat} {j : Nat} (h : j < a.length) : row (rowsOf a) j = natInts (bitsOf a[j]) := by simp [row, rowsOf, h]
theorem rowsOf_indN {m : Nat} (hm : m ≤ 16) (E : Nat → Nat → Bool) : rowsOf (indN m E) = matG m E := by
  refine graph_ext (by rw [rowsOf_length, indN_length, matG_length]) fun j hj => ?_
  rw [rowsOf_length, indN_length] at hj
  rw [row_rowsOf (by rw [indN_length]; exact hj), ← indN_rows hm hj]
  have : (indN m E).getD j 0 = (indN m E)[j]'(by rw [indN_length]; exact hj) := by simp [indN_length, hj]
  rw [this]

theorem Dis.snoc {w W : World} {base k : Nat} {vals : List Value} {g : List (List Int)} {rv : Value} (h : Dis w base k vals g) (hl : vals.length = k)
    (hk : ∀ base size n v (xs : List Value), w.ownsRow base 2 size v n xs → W.ownsRow base 2 size v n xs)
    {B : Nat} (hB : base ≤ B) (hold : ∀ j, j < k → ∀ b, (vals.getD j undef).ownBlock = some b → b < B)
    (hn : w.ownsRow B 2 1 rv (row g k).length ((row g k).map (Value.int .i64))) : Dis W base (k + 1) (vals ++ [rv]) g := by
  have e1 : ∀ j, j < k → (vals ++ [rv]).getD j undef = vals.getD j undef := fun j hj => getD_append_left _ _ _ _ (by omega)
  have e2 : (vals ++ [rv]).getD k undef = rv := by rw [← hl]; exact getD_append_last _ _ _
  refine ⟨fun j hj => ?_, fun i j hi hj hne b hb => ?_⟩
  · by_cases e : j = k
    · subst e; rw [e2]; exact hk _ _ _ _ _ (ownsRow_base hn hB)
    · rw [e1 j (by omega)]; exact hk _ _ _ _ _ (h.rows j (by omega))
  · by_cases ei : i = k
    · subst ei
      rw [e2] at hb
      rw [e1 j (by omega)]
      intro hc
      have := hold j (by omega) b hc
      have := (hn.lt b hb).1
      omega
    · rw [e1 i (by omega)] at hb
      by_cases ej : j = k
      · subst ej
        rw [e2]
        intro hc
        have := hold i (by omega) b hb
        have := (hn.lt b hc).1
        omega
      · rw [e1 j (by omega)]
        exact h.dis i j (by omega) (by omega) hne b hb

set_option maxRecDepth 100000 in
set_option maxHeartbeats 4000000 in
theorem graph_any (x : Value) (a : List Nat) (ha : ∀ s ∈ a, s < 65536) (hal : a.length ≤ 1000) (w : World) (hx : Sl w 64 x a.length (a.map u32v)) (hT : Tab w) :
    Calls Tryd.prog 76 #[x] w fun e w' => ∃ u, e = .returned u ∧ DG w' w.heap.size u (rowsOf a) ∧ Below w.heap.size w w' := by
  obtain ⟨p, c, rfl, _⟩ := id hx
  have START := Lib.hid (two_boxes w)
  have HX := Lib.hid hx
  have HT := Lib.hid hT
  clear hx hT
  go_enter Tryd.func76, Tryd.ntmps76
  go_wp2
  go_loopw [9] (fun i wr => ∃ (k : Nat) (ov : Value) (vals : List Value), k ≤ a.length ∧ i = .int .i64 k ∧ Below w.heap.size w wr ∧ w.heap.size + 2 ≤ wr.heap.size ∧
      Box wr w.heap.size 29 (.slice none 0 0) ∧ Box wr (w.heap.size + 1) 29 ov ∧ wr.ownsRow (w.heap.size + 2) 32 1 ov k vals ∧ vals.length = k ∧ Dis wr (w.heap.size + 2) k vals (rowsOf a))
    (fun i _ => a.length - (intOf i).toNat)
  case atStart =>
    obtain ⟨W, rfl, h1, h2, h3, h4⟩ := START.out
    exact ⟨0, _, [], Nat.zero_le _, rfl, h1, by omega, h3, h4, World.ownsRow_nil _ _ _ _, rfl, ⟨fun j hj => by omega, fun i j hi => by omega⟩⟩
  case round =>
    obtain ⟨k, ov, vals, hk, rfl, hbel, hsz, hb2, hb3, hown, hvl, hrows⟩ := hrel
    have Hvl := Lib.hid hvl
    have Hrows := Lib.hid hrows
    have Hb2 := Lib.hid hb2
    have Hb3 := Lib.hid hb3
    have Hown := Lib.hid hown
    clear hvl hrows hb3 hb2 hown
    by_cases hlt : k < a.length
    · obtain ⟨ab, ao, rfl, hca⟩ := nets_cell (HX.out.below hbel) hlt
      have hs16 := ha _ (List.getElem_mem hlt)
      have HTr := Lib.hid (HT.out.keep hbel)
      have hrow := row_rowsOf hlt
      obtain ⟨c3, f3, _, _⟩ := Hb3.out
      obtain ⟨p9, c9, rfl⟩ : ∃ p c, ov = .slice p k c := by
        rcases Hown.out.2 with ⟨h1, h2⟩ | ⟨g1, cap, cur, h1, _⟩
        · exact ⟨none, 0, by rw [h1, h2]⟩
        · exact ⟨_, _, h1⟩
      have Hrow := Lib.hid hrow
      clear hrow
      go_upto_region 5 with fail
      go_region_law (first
        | (go_simp; go_at_call 45; refine (numbers_any _ a[k] rfl (by omega) _ (HTr.out.keep (below_dN (Below.refl _ _) 1))).mono ?_; rintro e w5 ⟨rv, rfl, hown5, hb5⟩; obtain ⟨rvp, rvc, hrv⟩ : ∃ p c, rv = .slice p (bitsOf a[k]).length c := (by rcases hown5.2 with ⟨rfl, h0⟩ | ⟨b, c, _, rfl, _⟩; exact ⟨none, 0, by rw [h0]⟩; exact ⟨_, _, rfl⟩); subst hrv; have hb5' : Below wr.heap.size wr w5 := ⟨hb5.os, hb5.tape, hb5.output, hb5.size, hb5.block⟩; have hown5' : w5.ownsRow wr.heap.size 2 1 (.slice rvp (bitsOf a[k]).length rvc) (bitsOf a[k]).length ((natInts (bitsOf a[k])).map (Value.int .i64)) := hown5; have hownc := ownsRow_below Hown.out hb5'; have hs5 := hb5'.size; have hbx5 := hb5'.at' c3; have hbx5a := fun o => (below_alloc w5 o).at' hbx5; clear hb5 hown5)
        | (refine step_app1s ty_rows rfl rfl rfl hownc rfl rfl (by omega) (by omega) ?_; intro b7 c8 w7 hown7 hg7; have hb7 := below_grown (Below.refl (w.heap.size + 2) w5) hownc hg7 (Nat.le_refl _) (by omega); have hob7 := hb7.at (by omega) hbx5; have hof7 := (hb7.frozen (p := ⟨w.heap.size + 1, 0, none⟩) (by show w.heap.size + 1 < _; omega)).trans ((hb5'.frozen (p := ⟨w.heap.size + 1, 0, none⟩) (by show w.heap.size + 1 < _; omega)).trans f3)))
      all_goals go_wp2
      all_goals go_roundw
      all_goals first
        | (simp [intOf]; omega)
        | skip
      all_goals
        obtain ⟨W, rfl, r1, r2, r3, r4, r5, r6⟩ := box_step hbel hsz hb5' Hb2.out Hb3.out Hown.out hown7 hg7
        refine ⟨k + 1, _, _, by omega, by go_num, r1, r2, r3, r4, r5, by simp [Hvl.out], ?_⟩
        have hd : Dis w5 (w.heap.size + 2) k vals (rowsOf a) := ⟨fun j hj => ownsRow_below (Hrows.out.rows j hj) hb5', Hrows.out.dis⟩
        refine hd.snoc Hvl.out r6 (B := wr.heap.size) (by omega) (fun j hj b hb => ((Hrows.out.rows j hj).lt b hb).2) ?_
        rw [Hrow.out, natInts_length]
        exact hown5'
    · obtain rfl : k = a.length := by omega
      obtain ⟨k2c, k2f, _⟩ := Hb2.out
      obtain ⟨k3c, k3f, _⟩ := Hb3.out
      obtain ⟨p9, c9, rfl⟩ : ∃ p c, ov = .slice p a.length c := by
        rcases Hown.out.2 with ⟨h1, h2⟩ | ⟨g1, cap, cur, h1, _⟩
        · exact ⟨none, 0, by rw [h1, h2]⟩
        · exact ⟨_, _, h1⟩
      go_wp2
      refine bodyPost_ret (v := .agg #[.slice p9 a.length c9]) (by simp [results, Tryd.results76, go_sem, k2c]) rfl ⟨_, rfl, ?_, ?_⟩
      · have : DG wr (w.heap.size + 2) (.agg #[.slice p9 a.length c9]) (rowsOf a) := ⟨_, vals, rfl, by rw [rowsOf_length]; exact Hvl.out, by rw [rowsOf_length]; exact Hown.out, by rw [rowsOf_length]; exact Hrows.out⟩
        exact (this.setBox Hb2.out _).base (by omega)
      · exact hbel.setCell (by show w.heap.size ≤ w.heap.size; omega) _

end Go.Proofs.YtfokiijcpkhllaaDoor

/- Walks: marking a graph whose rows lie apart, and looking at the marks. -/
namespace Go.Proofs.YtfokiijcpkhllaaDoor
open Go.RowKit

def preL (g : List (List Int)) : Nat → Nat
  | 0 => 0
  | j + 1 => preL g j + (row g j).length
theorem preL_le {g : List (List Int)} {m : Nat} (h : ∀ j, (row g j).length ≤ m) : ∀ j, preL g j ≤ j * m
  | 0 => by simp [preL]
  | j + 1 => by
    have h1 := preL_le h j
    have h2 := h j
    have : (j + 1) * m = j * m + m := Nat.succ_mul j m
    simp only [preL]; omega
/-- The graph of the marks k, k + 1, .. that a graph bears. -/
def markG (k : Int) (g : List (List Int)) : List (List Int) := (List.range g.length).map fun j => marks (k + preL g j) (row g j).length
theorem markG_length (k : Int) (g : List (List Int)) : (markG k g).length = g.length := by simp [markG]
theorem row_markG {k : Int} {g : List (List Int)} {j : Nat} (h : j < g.length) : row (markG k g) j = marks (k + preL g j) (row g j).length := by simp [row, markG, h]

/-- A graph of blocks of its own from base on and below hi. -/
def DGh (w : World) (base hi : Nat) (v : Value) (g : List (List Int)) : Prop :=
  ∃ u vals, v = .agg #[u] ∧ vals.length = g.length ∧ w.ownsRow base 32 1 u g.length vals ∧ Dis w base g.length vals g ∧ ∀ j, j < g.length → ∀ b, (vals.getD j undef).ownBlock = some b → b < hi
theorem DGh.of {w : World} {base : Nat} {v : Value} {g : List (List Int)} (h : DG w base v g) : DGh w base w.heap.size v g := by
  obtain ⟨u, vals, h1, h2, h3, h4⟩ := h
  exact ⟨u, vals, h1, h2, h3, h4, fun j hj b hb => ((h4.rows j hj).lt b hb).2⟩
theorem DGh.dg {w : World} {base hi : Nat} {v : Value} {g : List (List Int)} (h : DGh w base hi v g) : DG w base v g := by
  obtain ⟨u, vals, h1, h2, h3, h4, _⟩ := h
  exact ⟨u, vals, h1, h2, h3, h4⟩
theorem DGh.below {w w' : World} {base hi : Nat} {v : Value} {g : List (List Int)} (h : DGh w base hi v g) (hb : Below w.heap.size w w') : DGh w' base hi v g := by
  obtain ⟨u, vals, h1, h2, h3, h4, h5⟩ := h
  exact ⟨u, vals, h1, h2, ownsRow_below h3 hb, ⟨fun j hj => ownsRow_below (h4.rows j hj) hb, h4.dis⟩, h5⟩
theorem DGh.apart {w w' : World} {base hi lo' hi' : Nat} {v : Value} {g : List (List Int)} (h : DGh w base hi v g) (ha : Apart lo' hi' w w') (hl : hi' ≤ base) : DGh w' base hi v g := by
  obtain ⟨u, vals, h1, h2, h3, h4, h5⟩ := h
  exact ⟨u, vals, h1, h2, ownsRow_apart_hi h3 ha hl, ⟨fun j hj => ownsRow_apart_hi (h4.rows j hj) ha hl, h4.dis⟩, h5⟩
theorem Box.apart {w w' : World} {b lo hi : Nat} {T : TypeId} {v : Value} (h : Box w b T v) (ha : Apart lo hi w w') (hb : hi ≤ b) : Box w' b T v := .of ((ha.block b h.lt (.inr hb)).trans h.blk)

end Go.Proofs.YtfokiijcpkhllaaDoor

/- Walk: the program's distances, layer by layer. -/
namespace Go.Proofs.YtfokiijcpkhllaaDoor
open Go.RowKit

/-- The neighbours of some vertices. -/
def NgL (E : Nat → Nat → Bool) (L : List Nat) (x : Nat) : Prop := x < 65536 ∧ ∀ j, x.testBit j = true ↔ ∃ v ∈ L, E v j = true
theorem NgL.zero (E : Nat → Nat → Bool) : NgL E [] 0 := ⟨by decide, fun j => by simp⟩
theorem NgL.snoc {E : Nat → Nat → Bool} {L : List Nat} {x a v n : Nat} (h : NgL E L x) (ha : a < 65536) (hab : ∀ j, a.testBit j = (decide (j < n) && E v j)) (hE : ∀ j, E v j = true → j < n) : NgL E (L ++ [v]) (x ||| a) := by
  refine ⟨Nat.or_lt_two_pow (n := 16) h.1 ha, fun j => ?_⟩
  rw [Nat.testBit_or, Bool.or_eq_true, h.2, hab, Bool.and_eq_true, decide_eq_true_eq]
  constructor
  · rintro (⟨y, hy, e⟩ | ⟨_, e⟩)
    · exact ⟨y, List.mem_append_left _ hy, e⟩
    · exact ⟨v, by simp, e⟩
  · rintro ⟨y, hy, e⟩
    rcases List.mem_append.1 hy with h1 | h1
    · exact .inl ⟨y, h1, e⟩
    · obtain rfl : y = v := by simpa using h1
      exact .inr ⟨hE j e, e⟩
/-- A list with some places set. -/
def setL (D : List Int) (f : Int) (L : List Nat) : List Int := L.foldl (fun D u => D.set u f) D
theorem setL_snoc (D : List Int) (f : Int) (L : List Nat) (u : Nat) : setL D f (L ++ [u]) = (setL D f L).set u f := by simp [setL]
theorem setL_length (f : Int) : ∀ (L : List Nat) (D : List Int), (setL D f L).length = D.length
  | [], D => rfl
  | u :: L, D => by show (setL (D.set u f) f L).length = _; rw [setL_length f L, List.length_set]
theorem setL_at (f : Int) : ∀ (L : List Nat) (D : List Int) (u : Nat), u < D.length → (setL D f L).getD u 0 = if u ∈ L then f else D.getD u 0
  | [], D, u, h => by simp [setL]
  | v :: L, D, u, h => by
    show (setL (D.set v f) f L).getD u 0 = _
    rw [setL_at f L _ u (by rw [List.length_set]; exact h)]
    by_cases h1 : u ∈ L
    · simp [h1]
    · by_cases e : u = v
      · subst e; simp [h1, h]
      · simp [h1, e, List.getElem?_set, Ne.symm e]
def inW (W : Nat) : Nat → Prop := fun x => W.testBit x = true
/-- The layers so far. -/
structure LyI (E : Nat → Nat → Bool) (W n v g lay seen : Nat) (D : List Int) : Prop where
  s16 : seen < 65536
  l16 : lay < 65536
  snn : ∀ u, seen.testBit u = true ↔ LW E (inW W) v g u
  lyy : ∀ u, lay.testBit u = true ↔ LW E (inW W) v g u ∧ ∀ k, k < g → ¬ LW E (inW W) v k u
  len : D.length = n
  no : ∀ u, u < n → seen.testBit u = false → D.getD u 0 = -1
  yes : ∀ u, u < n → seen.testBit u = true → ∃ m : Nat, D.getD u 0 = m ∧ m ≤ 40 ∧ LW E (inW W) v m u ∧ ∀ k, k < m → ¬ LW E (inW W) v k u
  cnt : g ≤ (bitsOf seen).length
  cnt2 : lay ≠ 0 → g + 1 ≤ (bitsOf seen).length
theorem LyI.start {E : Nat → Nat → Bool} {W n v : Nat} (hv : W.testBit v = true) (hvn : v < n) (hn : n ≤ 16) : LyI E W n v 0 (2 ^ v) (2 ^ v) ((List.replicate n (-1)).set v 0) := by
  have hp : 2 ^ v < 65536 := pow_lt16 v (by omega)
  have hb : ∀ u, (2 ^ v).testBit u = true ↔ u = v := fun u => by
    rw [Nat.testBit_two_pow, decide_eq_true_eq]
    exact ⟨Eq.symm, Eq.symm⟩
  have hl : ∀ u, LW E (inW W) v 0 u ↔ u = v := fun u => ⟨fun h => by cases h; rfl, fun e => by subst e; exact .base hv⟩
  have hone : 1 ≤ (bitsOf (2 ^ v)).length := List.length_pos_iff.2 (List.ne_nil_of_mem ((mem_left hp).2 ((hb v).2 rfl)))
  refine ⟨hp, hp, fun u => (hb u).trans (hl u).symm, fun u => ?_, by simp, fun u hu h => ?_, fun u hu h => ?_, by omega, fun _ => by omega⟩
  · rw [hb, hl]; exact ⟨fun h => ⟨h, fun k hk => by omega⟩, fun h => h.1⟩
  · have : u ≠ v := fun e => by rw [(hb u).2 e] at h; cases h
    simp [List.getElem?_set, Ne.symm this, hu]
  · have e := (hb u).1 h
    subst e
    refine ⟨0, ?_, by omega, .base hv, fun k hk => by omega⟩
    simp [hu]
theorem or_bits {a b : Nat} (u : Nat) : (a ||| b).testBit u = true ↔ a.testBit u = true ∨ b.testBit u = true := by rw [Nat.testBit_or, Bool.or_eq_true]
theorem LyI.step {E : Nat → Nat → Bool} {W n v g lay seen nx : Nat} {D : List Int} (h : LyI E W n v g lay seen D) (h0 : lay ≠ 0) (hn : n ≤ 16) (hE : ∀ x y, E x y = true → y < n) (hv : inW W v) (hWn : ∀ u, W.testBit u = true → u < n) (hnx : NgL E (bitsOf lay) nx) {l2 : Nat} (hl2 : l2 = sub (nx &&& W) seen) :
    LyI E W n v (g + 1) l2 (seen ||| l2) (setL D ((g : Int) + 1) (bitsOf l2)) ∧ (l2 ≠ 0 → (bitsOf seen).length < (bitsOf (seen ||| l2)).length) ∧ (bitsOf seen).length ≤ (bitsOf (seen ||| l2)).length := by
  have hand : nx &&& W < 65536 := Nat.lt_of_le_of_lt Nat.and_le_left hnx.1
  have h216 : l2 < 65536 := by rw [hl2]; exact sub_lt16 _ _ hand
  have hs16 := h.s16
  have hb2 : ∀ u, l2.testBit u = true ↔ nx.testBit u = true ∧ W.testBit u = true ∧ seen.testBit u = false := fun u => by
    rw [hl2, testBit_sub _ _ (by omega) (by omega), Nat.testBit_and]
    cases nx.testBit u <;> cases W.testBit u <;> cases seen.testBit u <;> simp
  have h16 : seen ||| l2 < 65536 := Nat.or_lt_two_pow (n := 16) h.s16 h216
  have key : ∀ u, LW E (inW W) v (g + 1) u → ¬ LW E (inW W) v g u → l2.testBit u = true := fun u hu hno => by
    cases hu with
    | @step _ x _ h1 h2 h3 =>
      rcases h2 with rfl | h2
      · exact absurd h1 hno
      · rw [hb2]
        refine ⟨(hnx.2 u).2 ⟨x, (mem_left h.l16).2 ((h.lyy x).2 ⟨h1, fun k hk hk2 => hno ?_⟩), h2⟩, h3, ?_⟩
        · exact (LW.step hk2 (.inr h2) h3).le (by omega)
        · cases e : seen.testBit u with
          | false => rfl
          | true => exact absurd ((h.snn u).1 e) hno
  have back : ∀ u, l2.testBit u = true → LW E (inW W) v (g + 1) u ∧ ¬ LW E (inW W) v g u := fun u hu => by
    obtain ⟨a, b, c⟩ := (hb2 u).1 hu
    obtain ⟨x, hx, he⟩ := (hnx.2 u).1 a
    have hx := ((h.lyy x).1 ((mem_left h.l16).1 hx)).1
    exact ⟨.step hx (.inr he) b, fun hc => by rw [(h.snn u).2 hc] at c; cases c⟩
  have hlt : l2 ≠ 0 → (bitsOf seen).length < (bitsOf (seen ||| l2)).length := fun h0 => by
    obtain ⟨j, hj⟩ := Nat.exists_testBit_of_ne_zero h0
    have hjs := ((hb2 j).1 hj).2.2
    have hnd : (j :: bitsOf seen).Nodup := List.nodup_cons.2 ⟨fun hm => (by rw [(mem_left h.s16).1 hm] at hjs; cases hjs), (bitsOf_rising _).imp fun h => by omega⟩
    exact sub_len _ (bitsOf (seen ||| l2)) hnd fun y hy => by
      rw [mem_left h16, or_bits]
      rcases List.mem_cons.1 hy with rfl | hy
      · exact .inr hj
      · exact .inl ((mem_left h.s16).1 hy)
  have hle : (bitsOf seen).length ≤ (bitsOf (seen ||| l2)).length := sub_len _ _ ((bitsOf_rising _).imp fun h => by omega) fun y hy => (mem_left h16).2 ((or_bits y).2 (.inl ((mem_left h.s16).1 hy)))
  have hc := h.cnt
  have hnb : ∀ u, l2.testBit u = true → u < n := fun u hu => hWn u ((hb2 u).1 hu).2.1
  refine ⟨⟨h16, h216, fun u => ?_, fun u => ?_, by rw [setL_length]; exact h.len, fun u hu hs => ?_, fun u hu hs => ?_, ?_, fun h02 => ?_⟩, hlt, hle⟩
  · rw [or_bits, h.snn]
    constructor
    · rintro (h1 | h1)
      · exact h1.more
      · exact (back u h1).1
    · intro h1
      by_cases c : LW E (inW W) v g u
      · exact .inl c
      · exact .inr (key u h1 c)
  · constructor
    · intro h1
      exact ⟨(back u h1).1, fun k hk hk2 => (back u h1).2 (hk2.le (by omega))⟩
    · rintro ⟨h1, h2⟩
      exact key u h1 (h2 g (by omega))
  · rw [setL_at _ _ _ _ (by rw [h.len]; exact hu)]
    have h1 : ¬ (seen ||| l2).testBit u = true := by rw [hs]; simp
    rw [or_bits, not_or] at h1
    rw [if_neg fun hm => h1.2 ((mem_left h216).1 hm)]
    exact h.no u hu (by simpa using h1.1)
  · rw [setL_at _ _ _ _ (by rw [h.len]; exact hu)]
    by_cases c : l2.testBit u = true
    · rw [if_pos ((mem_left h216).2 c)]
      have hb32 := bitsOf_length seen
      exact ⟨g + 1, by omega, by omega, (back u c).1, fun k hk hk2 => (back u c).2 (hk2.le (by omega))⟩
    · rw [if_neg fun hm => c ((mem_left h216).1 hm)]
      exact h.yes u hu (((or_bits u).1 hs).resolve_right c)
  · have := h.cnt2 h0
    omega
  · have h9 := hlt ‹l2 ≠ 0›
    have := h.cnt2 ‹lay ≠ 0›
    omega
theorem LyI.stop {E : Nat → Nat → Bool} {W n v g seen : Nat} {D : List Int} (h : LyI E W n v g 0 seen D) (hv : inW W v) {u : Nat} (hu : u < n) : IsD E (inW W) v u (D.getD u 0) ∧ -1 ≤ D.getD u 0 ∧ D.getD u 0 ≤ 40 := by
  have hclo : ∀ k u, LW E (inW W) v k u → seen.testBit u = true := fun k u hk => by
    have key : ∀ j u, LW E (inW W) v j u → LW E (inW W) v g u := fun j u hj => by
      induction hj with
      | base h => exact .stay h g
      | @step m x y h1 h2 h3 ih =>
        -- a first walk of x is shorter than g
        have : ∃ i, i < g ∧ LW E (inW W) v i x := Classical.byContradiction fun hn => by
          have := (h.lyy x).2 ⟨ih, fun k hk hk2 => hn ⟨k, hk, hk2⟩⟩
          rw [Nat.zero_testBit] at this; cases this
        obtain ⟨i, hi, h4⟩ := this
        exact (LW.step h4 h2 h3).le (by omega)
    exact (h.snn u).2 (key k u hk)
  cases e : seen.testBit u with
  | false =>
    rw [h.no u hu e]
    exact ⟨.inl ⟨rfl, fun k hk => by rw [hclo k u hk] at e; cases e⟩, by omega, by omega⟩
  | true =>
    obtain ⟨m, h1, h2, h3, h4⟩ := h.yes u hu e
    rw [h1]
    exact ⟨.inr ⟨m, rfl, h3, h4⟩, by omega, by omega⟩

end Go.Proofs.YtfokiijcpkhllaaDoor
