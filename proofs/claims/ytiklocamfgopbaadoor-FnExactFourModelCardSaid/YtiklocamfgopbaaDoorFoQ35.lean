/- Walks: what the reference's FourModel carries. -/
import Derived.Test.YtiklocamfgopbaaDoorFoQ34
import Derived.Test.YtiklocamfgopbaaDoorFoQ22
namespace Go.Proofs.YtiklocamfgopbaaDoor
open Go.RowKit

theorem row_snoc (g : List (List Int)) (s : List Int) (j : Nat) : row (g ++ [s]) j = if j = g.length then s else row g j := by
  unfold row
  by_cases e : j = g.length
  · subst e; simp
  · rw [if_neg e]
    by_cases h : j < g.length
    · simp [List.getElem?_append_left h]
    · rw [List.getD_eq_getElem?_getD, List.getElem?_eq_none (by simp; omega), List.getD_eq_getElem?_getD, List.getElem?_eq_none (by omega)]
theorem SG.snoc {w w' : World} {base : Nat} {u u' rv : Value} {g : List (List Int)} {s : List Int} {vals : List Value} (hl : vals.length = g.length) (ho : w.ownsRow base 37 1 u g.length vals) (hr : ∀ j, j < g.length → Nums w 2 .i64 (vals.getD j undef) (row g j))
    (ho' : w'.ownsRow base 37 1 u' (g.length + 1) (vals ++ [rv])) (hg : w.grownBy w' u.ownBlock) (hn : Nums w 2 .i64 rv s) : SG w' base (.agg #[u']) (g ++ [s]) := by
  refine ⟨u', vals ++ [rv], rfl, by simp [hl], by rw [List.length_append]; exact ho', fun j hj => ?_⟩
  rw [List.length_append] at hj
  simp only [List.length_cons, List.length_nil] at hj
  rw [row_snoc]
  by_cases h : j = g.length
  · subst h
    rw [if_pos rfl, ← hl, getD_append_last]
    exact hn.other ho hg (by decide)
  · rw [if_neg h, getD_append_left _ _ _ _ (by omega)]
    exact (hr j (by omega)).other ho hg (by decide)

theorem aloneL_length (n : Nat) : (aloneL n).length = n := by simp [aloneL]
theorem aloneL_succ (n : Nat) : aloneL (n + 1) = aloneL n ++ [[(n : Int)]] := by simp [aloneL, List.range_succ]
theorem aloneL_rg (n : Nat) : RG (aloneL n) := by
  intro j
  rw [aloneL_length]
  by_cases h : j < n
  · have : row (aloneL n) j = [(j : Int)] := by simp [row, aloneL, h]
    rw [this]
    exact ⟨fun x hx => by simp at hx; omega, by simp⟩
  · rw [row_over (by rw [aloneL_length]; omega)]; exact setIn_nil _
theorem RG.put {S : List (List Int)} (h : RG S) (u : Nat) {s : List Int} (hs : SetIn S.length s) : RG (S.set u s) := by
  intro j
  rw [List.length_set, row_put]
  split
  · exact hs
  · exact h j
theorem intoAll_set {n : Int} (t : List Int) : ∀ {s : List Int}, SetIn n s → (∀ x ∈ t, 0 ≤ x ∧ x < n) → SetIn n (intoAll s t) := by
  induction t with
  | nil => intro s hs _; exact hs
  | cons x t ih => intro s hs ht; exact ih (setIn_intoL hs (ht x (by simp)).1 (ht x (by simp)).2) fun y hy => ht y (by simp [hy])

/-- What has another outer row stays while one row is written. -/
theorem Rws.away {w w' : World} {gb go n c sb base m : Nat} {u : Value} {ys : List Value} {gg : List (List Int)} (h : Rws w 37 2 (.slice (some ⟨gb, go, none⟩) n c) gg) (ho : w.ownsRow base 37 1 u m ys) (hu : u.ownBlock = some sb)
    (hg : w.grownBy w' (some sb)) (hne : gb ≠ sb) : Rws w' 37 2 (.slice (some ⟨gb, go, none⟩) n c) gg := by
  obtain ⟨vals, h1, ⟨p, c', e, h2, h3, h4, hat⟩, h5⟩ := h
  cases e
  refine ⟨vals, h1, ⟨_, _, rfl, h2, h3, h4, hat.keep fun b o cur fz hp hb => hg.block b (Array.getElem?_eq_some_iff.1 hb).1 fun q => ?_⟩, fun j hj => (h5 j hj).other ho (by rw [hu]; exact hg) (by decide)⟩
  simp only [Option.some.injEq, Addr.mk.injEq, and_true] at hp q
  omega

/-- What the loop carries. -/
structure FrI (w wr : World) (n sb sc : Nat) (gg : List (List Int)) (L : List Int) (S : List (List Int)) (gb go gc : Nat) (lv : Value) : Prop where
  bel : Below w.heap.size w wr
  sz : w.heap.size + 2 ≤ wr.heap.size
  box : Box wr w.heap.size 30 (.slice (some ⟨gb, go, none⟩) n gc)
  gr : Rws wr 37 2 (.slice (some ⟨gb, go, none⟩) n gc) gg
  ne : gb ≠ sb
  res : Box wr (w.heap.size + 1) 27 (.slice none 0 0)
  left : Nums wr 2 .i64 lv L
  sets : SG wr (w.heap.size + 2) (.agg #[.slice (some ⟨sb, 0, none⟩) n sc]) S
  gl : gg.length = n
  sl : S.length = n
  rs : RG S
  gw : GL gg L

theorem FrI.next {w wr wx : World} {n sb sc gb go gc : Nat} {gg S : List (List Int)} {L : List Int} {lv : Value} (h : FrI w wr n sb sc gg L S gb go gc lv) (hb : Below wr.heap.size wr wx) : FrI w wx n sb sc gg L S gb go gc lv :=
  { bel := h.bel.trans (hb.mono h.bel.size), sz := Nat.le_trans h.sz hb.size, box := h.box.keep hb, gr := h.gr.below hb, ne := h.ne, res := h.res.keep hb, left := h.left.below hb, sets := h.sets.below hb, gl := h.gl, sl := h.sl, rs := h.rs, gw := h.gw }
theorem FrI.slt {w wr : World} {n sb sc gb go gc : Nat} {gg S : List (List Int)} {L : List Int} {lv : Value} (h : FrI w wr n sb sc gg L S gb go gc lv) : w.heap.size + 2 ≤ sb ∧ sb < wr.heap.size := h.sets.lt sb rfl
/-- The graph and the vertices that are left change. -/
theorem FrI.go {w wr wx : World} {n sb sc gb go gc gb' go' gc' : Nat} {gg S : List (List Int)} {L : List Int} {lv : Value} (h : FrI w wr n sb sc gg L S gb go gc lv) (hb : Below wr.heap.size wr wx) {g1 : List (List Int)} {L1 : List Int} {lv1 : Value}
    (hR : Rws wx 37 2 (.slice (some ⟨gb', go', none⟩) n gc') g1) (hne : gb' ≠ sb) (hN : Nums wx 2 .i64 lv1 L1) (hl : g1.length = n) (hw : GL g1 L1) :
    FrI w (wx.setCell ⟨w.heap.size, 0, none⟩ (.slice (some ⟨gb', go', none⟩) n gc')) n sb sc g1 L1 S gb' go' gc' lv1 := by
  have hx := h.next hb
  exact { bel := hx.bel.setCell (Nat.le_refl _) _, sz := by have := hx.sz; simpa [World.setCell] using this, box := hx.box.set _, gr := hR.setBox hx.box (by decide) (by decide) _, ne := hne, res := hx.res.setOther (by show w.heap.size + 1 ≠ w.heap.size; omega) _
          left := Sl.setBox hN hx.box (by decide) _, sets := hx.sets.setBox hx.box _, gl := hl, sl := h.sl, rs := h.rs, gw := hw }
/-- A vertex's set changes. -/
theorem FrI.put {w wr w2 : World} {n sb sc gb go gc : Nat} {gg S : List (List Int)} {L : List Int} {lv rv : Value} (h : FrI w wr n sb sc gg L S gb go gc lv) (hb : Below wr.heap.size wr w2) {s : List Int} (hn : Nums w2 2 .i64 rv s) {u : Nat} (hu : u < n) (hs : SetIn n s) :
    FrI w (w2.setCell ⟨sb, u, none⟩ rv) n sb sc gg L (S.set u s) gb go gc lv := by
  have hx := h.next hb
  obtain ⟨_, vals, e, h1, h2, h3⟩ := hx.sets
  cases e
  rw [h.sl] at h1 h2 h3
  obtain ⟨ho2, hg2⟩ := h2.stored u rv
  obtain ⟨s1, s2⟩ := hx.slt
  refine { bel := hx.bel.setCell (by show w.heap.size ≤ sb; omega) _, sz := by have := hx.sz; simpa [World.setCell] using this, box := hx.box.setOther (by show w.heap.size ≠ sb; omega) _, gr := hx.gr.away h2 rfl hg2 h.ne, ne := h.ne
           res := hx.res.setOther (by show w.heap.size + 1 ≠ sb; omega) _, left := hx.left.other h2 hg2 (by decide), sets := ⟨_, vals.set u rv, rfl, by simp [h1, h.sl], by rw [List.length_set, h.sl]; exact ho2, fun j hj => ?_⟩, gl := h.gl, sl := by simp [h.sl], rs := h.rs.put u (by rw [h.sl]; exact hs), gw := h.gw }
  rw [List.length_set, h.sl] at hj
  rw [row_put]
  by_cases e : j = u
  · subst e
    rw [if_pos ⟨rfl, by rw [h.sl]; exact hj⟩]
    have : (vals.set j rv).getD j undef = rv := by simp [h1, hj]
    rw [this]
    exact hn.other h2 hg2 (by decide)
  · rw [if_neg (fun q => e q.1)]
    have : (vals.set u rv).getD j undef = vals.getD j undef := by simp [show ¬ u = j from fun q => e q.symm]
    rw [this]
    exact (h3 j hj).other h2 hg2 (by decide)

theorem FrI.setLeft {w wr : World} {n sb sc gb go gc : Nat} {gg S : List (List Int)} {L L1 : List Int} {lv lv1 : Value} (h : FrI w wr n sb sc gg L S gb go gc lv) (hN : Nums wr 2 .i64 lv1 L1) (hw : GL gg L1) : FrI w wr n sb sc gg L1 S gb go gc lv1 :=
  { h with left := hN, gw := hw }
/-- A set's cells. -/
theorem FrI.get {w wr : World} {n sb sc gb go gc : Nat} {gg S : List (List Int)} {L : List Int} {lv : Value} (h : FrI w wr n sb sc gg L S gb go gc lv) {u : Nat} (hu : u < n) :
    ∃ p c, wr.cell? ⟨sb, u, none⟩ = some (.slice p (row S u).length c) ∧ wr.frozen? ⟨sb, u, none⟩ = false ∧ Nums wr 2 .i64 (.slice p (row S u).length c) (row S u) := by
  obtain ⟨_, vals, e, h1, h2, h3⟩ := h.sets
  cases e
  rw [h.sl] at h1 h2 h3
  have hc := h2.cellAt u (by omega)
  have hf := h2.frozenAt u
  have hn := h3 u hu
  obtain ⟨p, c, hv, _⟩ := hn.shape
  rw [get_getD vals u undef (by rw [h1]; exact hu), hv] at hc
  rw [hv] at hn
  exact ⟨p, c, hc, hf, hn⟩

/-- Neighbours of who is left are left, and none is its own. -/
structure CL (g : List (List Int)) (L : List Int) : Prop where
  cl : ∀ u ∈ L, ∀ y ∈ row g u.toNat, y ∈ L
  irr : ∀ u ∈ L, u ∉ row g u.toNat
theorem CL.start {g : List (List Int)} (h : GOk g) : CL g (allL g.length) := by
  refine ⟨fun u hu y hy => ?_, fun u hu => ?_⟩
  · have hu := mem_allL.1 hu
    have := (h.sets u.toNat (by omega)).1.1 y hy
    exact mem_allL.2 this
  · have hu := mem_allL.1 hu
    have := (h.sets u.toNat (by omega)).2
    rwa [Int.toNat_of_nonneg hu.1] at this
theorem freeG_mem {g : List (List Int)} {L : List Int} (h : GL g L) {v u : Int} (hu : u ∈ L) (hne : u ≠ v) (y : Int) : y ∈ row (freeG g v) u.toNat ↔ y ∈ row g u.toNat ∧ y ≠ v := by
  have := h.inn u hu
  rw [row_freeG g v (by omega), freeRow_no (by omega), mem_lessL]
theorem CL.free {g : List (List Int)} {L : List Int} (h : CL g L) (hg : GL g L) (v : Int) : CL (freeG g v) (lessL L v) := by
  refine ⟨fun u hu y hy => ?_, fun u hu hy => ?_⟩
  · obtain ⟨h1, h2⟩ := mem_lessL.1 hu
    have hy := (freeG_mem hg h1 h2 y).1 hy
    exact mem_lessL.2 ⟨h.cl u h1 y hy.1, hy.2⟩
  · obtain ⟨h1, h2⟩ := mem_lessL.1 hu
    exact h.irr u h1 ((freeG_mem hg h1 h2 u).1 hy).1
theorem CL.join {g : List (List Int)} {L : List Int} (h : CL g L) (hg : GL g L) {a b : Int} (ha : a ∈ L) (hb : b ∈ L) (hab : a ≠ b) : CL (joinG g a b) (lessL L b) := by
  obtain ⟨_, hm⟩ := joinG_mem (v := b) hg.rg (hg.inn a ha).1 (hg.inn a ha).2
  have hT : ∀ u ∈ L, ((u.toNat : Nat) : Int) = u := fun u hu => Int.toNat_of_nonneg (hg.inn u hu).1
  refine ⟨fun u hu y hy => ?_, fun u hu hy => ?_⟩
  · obtain ⟨h1, h2⟩ := mem_lessL.1 hu
    rcases (hm _ _).1 hy with hy | ⟨x, hx, hxa, ⟨_, rfl⟩ | ⟨_, rfl⟩⟩
    · have hy := (freeG_mem hg h1 h2 y).1 hy
      exact mem_lessL.2 ⟨h.cl u h1 y hy.1, hy.2⟩
    · exact mem_lessL.2 ⟨ha, hab⟩
    · exact mem_lessL.2 ⟨h.cl b hb _ hx, fun e => h.irr b hb (by rw [e] at hx; exact hx)⟩
  · obtain ⟨h1, h2⟩ := mem_lessL.1 hu
    rcases (hm _ _).1 hy with hy | ⟨x, hx, hxa, ⟨e1, e2⟩ | ⟨e1, e2⟩⟩
    · exact h.irr u h1 ((freeG_mem hg h1 h2 u).1 hy).1
    · rw [hT u h1] at e1; exact hxa (by rw [← e1, e2])
    · rw [hT u h1] at e1; exact hxa (by rw [← e2, e1])

theorem SG.setM {w : World} {base b : Nat} {v x : Value} {g : List (List Int)} (h : SG w base v g) (hb : Box w b 27 x) (u : Value) : SG (w.setCell ⟨b, 0, none⟩ u) base v g := by
  obtain ⟨u0, vals, h1, h2, h3, h4⟩ := h
  exact ⟨u0, vals, h1, h2, ownsRow_setBox h3 hb (by decide) _, fun j hj => (h4 j hj).setBox hb (by decide) _⟩

end Go.Proofs.YtiklocamfgopbaaDoor
