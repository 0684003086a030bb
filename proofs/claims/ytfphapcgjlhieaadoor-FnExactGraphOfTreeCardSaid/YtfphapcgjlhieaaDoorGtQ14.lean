/- Walks: marking a graph whose rows lie apart, and looking at the marks. -/
import Derived.Test.YtfphapcgjlhieaaDoorGtQ6
import Derived.Test.YtfphapcgjlhieaaDoorGtQ13
import Derived.Test.YtfphapcgjlhieaaDoorGtQ9
namespace Go.Proofs.YtfphapcgjlhieaaDoor
open Go.RowKit

def preL (g : List (List Int)) : Nat → Nat
  | 0 => 0
  | j + 1 => preL g j + (row g j).length
theorem preL_le {g : List (List Int)} {m : Nat} (h : ∀ j, (row g j).length ≤ m) : ∀ j, preL g j ≤ j * m
  | 0 => by simp [preL]
  | j + 1 => by
    have h1 := preL_le h j
    have h2 := h j
    have : (j + 1) * m = j * m + m := Nat.succ_mul j m
    simp only [preL]; omega
/-- The graph of the marks k, k + 1, .. that a graph bears. -/
def markG (k : Int) (g : List (List Int)) : List (List Int) := (List.range g.length).map fun j => marks (k + preL g j) (row g j).length
theorem markG_length (k : Int) (g : List (List Int)) : (markG k g).length = g.length := by simp [markG]
theorem row_markG {k : Int} {g : List (List Int)} {j : Nat} (h : j < g.length) : row (markG k g) j = marks (k + preL g j) (row g j).length := by simp [row, markG, h]

set_option maxRecDepth 100000 in
set_option maxHeartbeats 1000000 in
theorem markInt64SS_x (v : Value) (g : List (List Int)) (base : Nat) (k : Int) (h1 : g.length ≤ 100000) (h2 : ∀ j, (row g j).length ≤ 1000) (h0 : 0 ≤ k) (hk1 : k ≤ 1048576) (w : World)
    (vals : List Value) (hvl : vals.length = g.length) (ho : w.ownsRow base 52 1 v g.length vals) (hr : Dis w base g.length vals g) (hi : Nat) (hhi : ∀ j, j < g.length → ∀ b, (vals.getD j undef).ownBlock = some b → b < hi) :
    Calls Tryd.prog 56 #[v, .int .i64 k] w fun e w' => e = .returned (.int .i64 (k + preL g g.length)) ∧ w'.ownsRow base 52 1 v g.length vals ∧ Dis w' base g.length vals (markG k g) ∧ Apart base hi w w' := by
  rcases ho.2 with ⟨rfl, hn0⟩ | ⟨b, cap, cur, rfl, _⟩
  · have e0 : ((g.length : Nat) : Int) = 0 := by omega
    have Ho := Lib.hid ho
    clear ho hr hhi
    go_enter Tryd.func56, Tryd.ntmps56
    go_wp2
    refine wp_loop_rounds 1 ?_
    rw [rounds_succ]
    go_wp2
    go_ret
    exact ⟨ret_int (by rw [hn0]; simp [preL]), Ho.out, ⟨fun j hj => by omega, fun i j hi => by omega⟩, Apart.refl _ _ _⟩
  have Hhi := Lib.hid hhi
  have H2 := Lib.hid h2
  have Hvl := Lib.hid hvl
  have Hr := Lib.hid hr
  have Ho := Lib.hid ho
  have hbs := (ho.lt b rfl).1
  have hbz := (ho.lt b rfl).2
  have HP := Lib.hid (preL_le h2)
  clear h2 hvl hr ho hhi
  go_enter Tryd.func56, Tryd.ntmps56
  go_wp2
  go_loopw [1, 5] (fun z i wr => ∃ (j : Nat) (y : Int), j ≤ g.length ∧ i = .int .i64 j ∧ z = .int .i64 y ∧ y = k + preL g j ∧ Apart base hi w wr ∧
      wr.ownsRow base 52 1 (.slice (some ⟨b, 0, none⟩) g.length cap) g.length vals ∧
      (∀ i, i < g.length → wr.ownsRow base 2 1 (vals.getD i undef) (row g i).length ((if i < j then marks (k + preL g i) (row g i).length else row g i).map (Value.int .i64))))
    (fun _ i _ => g.length - (intOf i).toNat)
  case atStart => exact ⟨0, k, Nat.zero_le _, rfl, rfl, by simp [preL], Apart.refl _ _ _, Ho.out, fun i hi => by simpa using Hr.out.rows i hi⟩
  case round =>
    obtain ⟨j, y, hj, rfl, rfl, hy, hbel, hown, hrows⟩ := hrel
    have Hrows := Lib.hid hrows
    have hp := HP.out j
    have hy0 : 0 ≤ y := by omega
    have hy1 : y ≤ 1048576 + 100000 * 1000 := by
      have : j * 1000 ≤ 100000 * 1000 := Nat.mul_le_mul_right _ (by omega)
      omega
    have Hy := Lib.hid hy
    clear hrows hy hp
    by_cases hlt : j < g.length
    · have hys := Hrows.out j hlt
      rw [if_neg (Nat.lt_irrefl j)] at hys
      have hl2 := H2.out j
      have hc := hown.cellAt j (by omega)
      obtain ⟨u, hu⟩ : ∃ u, vals[j]? = some u := ⟨_, List.getElem?_eq_getElem (by have := Hvl.out; omega)⟩
      have hud : vals.getD j undef = u := by rw [List.getD_eq_getElem?_getD, hu]; rfl
      rw [hu] at hc
      rw [hud] at hys
      have Hys := Lib.hid hys
      have Hud := Lib.hid hud
      clear hys hud hu
      obtain ⟨m, hm⟩ : ∃ m, m = (row g j).length := ⟨_, rfl⟩
      rw [← hm] at hl2
      have Hm := Lib.hid hm
      clear hm
      have hsz := hbel.size
      go_wp2_with (go_at_call 55; refine (markInt64S_any u m base ((row g j).map (Value.int .i64)) y (by omega) hy0 (by omega) _ (Hm.out ▸ Hys.out)).mono ?_; rintro e w2 ⟨rfl, ho2, hg2, _⟩)
      go_roundw
      case rel =>
        have hys : wr.ownsRow base 2 1 u m ((row g j).map (Value.int .i64)) := Hm.out ▸ Hys.out
        have hbs2 : base ≤ w.heap.size := by omega
        refine ⟨j + 1, _, by omega, by go_num, rfl, by have := Hy.out; have := Hm.out; simp only [preL]; omega, hbel.trans (Apart.of_grown hys hg2 (Nat.le_refl _) (by rw [← Hud.out]; exact Hhi.out j hlt)), ownsRow_other hown hys hg2 (by decide), fun i hi => ?_⟩
        by_cases e : i = j
        · subst e
          rw [if_pos (by omega), Hud.out, ← Hm.out]
          rw [Hy.out] at ho2
          exact ho2
        · have hh := Hrows.out i hi
          have hcond : (i < j) ↔ (i < j + 1) := by omega
          have : (if i < j + 1 then marks (k + preL g i) (row g i).length else row g i) = (if i < j then marks (k + preL g i) (row g i).length else row g i) := by
            by_cases h : i < j
            · rw [if_pos h, if_pos (by omega)]
            · rw [if_neg h, if_neg (by omega)]
          rw [this]
          refine hh.kept hg2 ?_
          cases hob : (vals.getD i undef).ownBlock with
          | none => exact .inl rfl
          | some bb =>
            refine .inr fun hc => ?_
            have := Hr.out.dis i j hi hlt e bb hob
            rw [Hud.out] at this
            exact this hc.symm
      case measure => simp [intOf]; omega
    · obtain rfl : j = g.length := by omega
      go_wp2
      go_ret
      refine ⟨ret_int Hy.out, hown, ⟨fun i hi => ?_, Hr.out.dis⟩, hbel⟩
      have := Hrows.out i hi
      rw [if_pos hi] at this
      rw [row_markG hi, marks_length]
      exact this

/-- A graph of blocks of its own from base on and below hi. -/
def DGh (w : World) (base hi : Nat) (v : Value) (g : List (List Int)) : Prop :=
  ∃ u vals, v = .agg #[u] ∧ vals.length = g.length ∧ w.ownsRow base 52 1 u g.length vals ∧ Dis w base g.length vals g ∧ ∀ j, j < g.length → ∀ b, (vals.getD j undef).ownBlock = some b → b < hi
theorem DGh.of {w : World} {base : Nat} {v : Value} {g : List (List Int)} (h : DG w base v g) : DGh w base w.heap.size v g := by
  obtain ⟨u, vals, h1, h2, h3, h4⟩ := h
  exact ⟨u, vals, h1, h2, h3, h4, fun j hj b hb => ((h4.rows j hj).lt b hb).2⟩
theorem DGh.dg {w : World} {base hi : Nat} {v : Value} {g : List (List Int)} (h : DGh w base hi v g) : DG w base v g := by
  obtain ⟨u, vals, h1, h2, h3, h4, _⟩ := h
  exact ⟨u, vals, h1, h2, h3, h4⟩
theorem DGh.below {w w' : World} {base hi : Nat} {v : Value} {g : List (List Int)} (h : DGh w base hi v g) (hb : Below w.heap.size w w') : DGh w' base hi v g := by
  obtain ⟨u, vals, h1, h2, h3, h4, h5⟩ := h
  exact ⟨u, vals, h1, h2, ownsRow_below h3 hb, ⟨fun j hj => ownsRow_below (h4.rows j hj) hb, h4.dis⟩, h5⟩
theorem DGh.apart {w w' : World} {base hi lo' hi' : Nat} {v : Value} {g : List (List Int)} (h : DGh w base hi v g) (ha : Apart lo' hi' w w') (hl : hi' ≤ base) : DGh w' base hi v g := by
  obtain ⟨u, vals, h1, h2, h3, h4, h5⟩ := h
  exact ⟨u, vals, h1, h2, ownsRow_apart_hi h3 ha hl, ⟨fun j hj => ownsRow_apart_hi (h4.rows j hj) ha hl, h4.dis⟩, h5⟩
theorem Box.apart {w w' : World} {b lo hi : Nat} {T : TypeId} {v : Value} (h : Box w b T v) (ha : Apart lo hi w w') (hb : hi ≤ b) : Box w' b T v := .of ((ha.block b h.lt (.inr hb)).trans h.blk)

set_option maxRecDepth 100000 in
theorem markGraph_x (v : Value) (g : List (List Int)) (base hi : Nat) (k : Int) (h1 : g.length ≤ 100000) (h2 : ∀ j, (row g j).length ≤ 1000) (h0 : 0 ≤ k) (hk1 : k ≤ 1048576) (w : World) (hd : DGh w base hi v g) :
    Calls Tryd.prog 14 #[v, .int .i64 k] w fun e w' => e = .returned (.int .i64 (k + preL g g.length)) ∧ DGh w' base hi v (markG k g) ∧ Apart base hi w w' := by
  obtain ⟨u, vals, rfl, hvl, ho, hr, hhi⟩ := hd
  have hb1 := below_alloc w (.cells #[u] 26)
  have hk' := Lib.hid (markInt64SS_x u g base k h1 h2 h0 hk1 _ vals hvl (ownsRow_below ho hb1) ⟨fun j hj => ownsRow_below (hr.rows j hj) hb1, hr.dis⟩ hi hhi)
  have Hb1 := Lib.hid (Apart.of_below (lo := base) (hi := hi) hb1)
  have Hvl := Lib.hid hvl
  have Hhi := Lib.hid hhi
  have hsh : u = .slice none 0 0 ∨ ∃ b c, u = .slice (some ⟨b, 0, none⟩) g.length c := by
    rcases ho.2 with ⟨h, _⟩ | ⟨b, c, _, h, _⟩
    · exact .inl h
    · exact .inr ⟨b, c, h⟩
  clear hvl ho hr hb1 h2 hhi
  rcases hsh with rfl | ⟨b, c, rfl⟩
  all_goals
    go_enter Tryd.func14, Tryd.ntmps14
    go_wp2_with (go_at_call 56; refine hk'.out.mono ?_; rintro e w2 ⟨rfl, ho2, hd2, hb2⟩)
    go_ret
    exact ⟨rfl, ⟨_, vals, rfl, by rw [markG_length]; exact Hvl.out, by rw [markG_length]; exact ho2, by rw [markG_length]; exact hd2, by rw [markG_length]; exact Hhi.out⟩, Hb1.out.trans hb2⟩

set_option maxRecDepth 100000 in
set_option maxHeartbeats 1000000 in
theorem heldInt64SS_x (v : Value) (g : List (List Int)) (k : Int) (h1 : g.length ≤ 100000) (h2 : ∀ j, (row g j).length ≤ 1000) (h0 : 0 ≤ k) (hk1 : k ≤ 1048576) (w : World) (hx : Rws w 52 2 v (markG k g)) :
    Calls Tryd.prog 57 #[v, .int .i64 k] w fun e w' => e = .returned (.int .i64 (k + preL g g.length)) ∧ w = w' := by
  obtain ⟨p, c, rfl, _⟩ := hx.shape
  rw [markG_length] at hx ⊢
  have HX := Lib.hid hx
  have HP := Lib.hid (preL_le h2)
  have H2 := Lib.hid h2
  clear hx h2
  go_enter Tryd.func57, Tryd.ntmps57
  go_wp2
  go_loop [1, 5] (fun z i => ∃ (j : Nat) (y : Int), j ≤ g.length ∧ i = .int .i64 j ∧ z = .int .i64 y ∧ y = k + preL g j) (fun _ i => g.length - (intOf i).toNat)
  case atStart => exact ⟨0, _, Nat.zero_le _, rfl, rfl, by simp [preL]⟩
  case round =>
    obtain ⟨j, y, hj, rfl, rfl, hy⟩ := hrel
    have hp := HP.out j
    have hy0 : 0 ≤ y := by omega
    have hy1 : y ≤ 1048576 + 100000 * 1000 := by
      have : j * 1000 ≤ 100000 * 1000 := Nat.mul_le_mul_right _ (by omega)
      omega
    have Hy := Lib.hid hy
    clear hy hp
    by_cases hlt : j < g.length
    · obtain ⟨b, o, rp, rc, rfl, hcell, hnums⟩ := HX.out.get (k := j) (by rw [markG_length]; exact hlt)
      have er : (markG k g).getD j [] = marks y (row g j).length := by rw [Hy.out]; exact row_markG hlt
      rw [er] at hcell hnums
      rw [marks_length] at hcell hnums
      have hl2 := H2.out j
      obtain ⟨m, hm⟩ : ∃ m, m = (row g j).length := ⟨_, rfl⟩
      rw [← hm] at hl2 hcell hnums
      have Hm := Lib.hid hm
      have hyn : ¬ y + (m : Int) < 0 := by omega
      clear hm er
      go_wp2_with (go_at_call 118; refine (heldInt64S_any _ m y hy0 (by omega) _ hnums).mono ?_; rintro e w2 ⟨rfl, rfl⟩)
      go_round
      case rel => exact ⟨j + 1, _, by omega, by go_num, rfl, by have := Hy.out; have := Hm.out; simp only [preL]; omega⟩
      case measure => simp [intOf]; omega
    · obtain rfl : j = g.length := by omega
      go_wp2
      go_ret
      exact ⟨ret_int Hy.out, rfl⟩

set_option maxRecDepth 100000 in
theorem heldGraph_x (v : Value) (g : List (List Int)) (k : Int) (h1 : g.length ≤ 100000) (h2 : ∀ j, (row g j).length ≤ 1000) (h0 : 0 ≤ k) (hk1 : k ≤ 1048576) (w : World) (hx : Gr w v (markG k g)) :
    Calls Tryd.prog 15 #[v, .int .i64 k] w fun e w' => e = .returned (.int .i64 (k + preL g g.length)) ∧ Below w.heap.size w w' := by
  obtain ⟨u, rfl, hr⟩ := hx
  obtain ⟨p, c, rfl, _⟩ := hr.shape
  have hb1 := below_alloc w (.cells #[.slice p (markG k g).length c] 26)
  have hk' := Lib.hid (heldInt64SS_x _ g k h1 h2 h0 hk1 _ (hr.below hb1))
  have Hb1 := Lib.hid hb1
  have hp : ¬ (k + (preL g g.length : Int)) < 0 := by omega
  clear hr hb1 h2
  go_enter Tryd.func15, Tryd.ntmps15
  go_wp2_with (go_at_call 57; refine hk'.out.mono ?_; rintro e w2 ⟨rfl, rfl⟩)
  go_ret
  exact ⟨rfl, Hb1.out⟩

end Go.Proofs.YtfphapcgjlhieaaDoor

/- Plain: trees whose nodes are laid one behind the other: read from the front, the open nodes on a stack, and from the root. -/
namespace Go.Proofs.YtfphapcgjlhieaaDoor

/-- A node: its kind, its vertex, its kids. -/
structure Pt where
  k : Int
  v : Int
  s : List Int

def LeafP (p : Pt) : Prop := p.k = 1 ∧ 0 ≤ p.v ∧ p.v < 16 ∧ p.s = []
def InnP (p : Pt) : Prop := (p.k = 2 ∨ p.k = 3 ∨ p.k = 4) ∧ p.v = 0 ∧ 2 ≤ p.s.length
theorem leaf_not_inn {p : Pt} (h : LeafP p) : ¬ InnP p := fun h2 => by
  have := h.1
  rcases h2.1 with h | h | h <;> omega
/-- The kids are the last of the open nodes (the last one is the stack's first). -/
def LastP (R : List Nat) (p : Pt) : Prop := p.s.length ≤ R.length ∧ p.s.reverse = natInts (R.take p.s.length)

/-- One node is read. -/
noncomputable def stT (ts : List Pt) (j : Nat) (R : List Nat) : Option (List Nat) :=
  match ts[j]? with
  | none => none
  | some p => if dec (LeafP p) = true then some (j :: R) else if dec (InnP p ∧ LastP R p) = true then some (j :: R.drop p.s.length) else none
theorem stT_leaf {ts : List Pt} {j : Nat} {R : List Nat} {p : Pt} (hp : ts[j]? = some p) (h : LeafP p) : stT ts j R = some (j :: R) := by
  unfold stT; rw [hp]; simp only [dec_true h, if_true]
theorem stT_inn {ts : List Pt} {j : Nat} {R : List Nat} {p : Pt} (hp : ts[j]? = some p) (h : InnP p) (h2 : LastP R p) : stT ts j R = some (j :: R.drop p.s.length) := by
  have hl : ¬ LeafP p := fun h3 => leaf_not_inn h3 h
  unfold stT; rw [hp]; simp only [dec_false hl, dec_true (And.intro h h2), if_true]; rfl
theorem stT_some {ts : List Pt} {j : Nat} {R R' : List Nat} (h : stT ts j R = some R') : ∃ p, ts[j]? = some p ∧ ((LeafP p ∧ R' = j :: R) ∨ (InnP p ∧ LastP R p ∧ R' = j :: R.drop p.s.length)) := by
  unfold stT at h
  cases hp : ts[j]? with
  | none => rw [hp] at h; cases h
  | some p =>
    rw [hp] at h
    refine ⟨p, rfl, ?_⟩
    by_cases h1 : LeafP p
    · simp only [dec_true h1, if_true, Option.some.injEq] at h
      exact .inl ⟨h1, h.symm⟩
    · by_cases h2 : InnP p ∧ LastP R p
      · simp only [dec_false h1, dec_true h2, if_true] at h
        exact .inr ⟨h2.1, h2.2, (Option.some.inj h).symm⟩
      · simp only [dec_false h1, dec_false h2] at h
        cases h

/-- So many nodes are read, from one on. -/
noncomputable def scT (ts : List Pt) : Nat → Nat → List Nat → Option (List Nat)
  | 0, _, R => some R
  | c + 1, j, R => (stT ts j R).bind (scT ts c (j + 1))
theorem scT_add (ts : List Pt) (b : Nat) : ∀ (a j : Nat) (R : List Nat), scT ts (a + b) j R = (scT ts a j R).bind (scT ts b (j + a))
  | 0, j, R => by rw [Nat.zero_add]; rfl
  | a + 1, j, R => by
    rw [show a + 1 + b = (a + b) + 1 by omega]
    show (stT ts j R).bind (scT ts (a + b) (j + 1)) = ((stT ts j R).bind (scT ts a (j + 1))).bind (scT ts b (j + (a + 1)))
    cases stT ts j R with
    | none => rfl
    | some R' =>
      show scT ts (a + b) (j + 1) R' = (scT ts a (j + 1) R').bind _
      rw [scT_add ts b a (j + 1) R', show j + 1 + a = j + (a + 1) by omega]
theorem scT_one (ts : List Pt) (j : Nat) (R : List Nat) : scT ts 1 j R = stT ts j R := by
  show (stT ts j R).bind (scT ts 0 (j + 1)) = _
  cases stT ts j R <;> rfl
theorem scT_snoc (ts : List Pt) (i : Nat) : scT ts (i + 1) 0 [] = (scT ts i 0 []).bind (stT ts i) := by
  rw [scT_add, Nat.zero_add]
  congr 1
  funext R
  exact scT_one ts i R

/-- The kids of a node, the last one first: how many nodes they have. -/
def wkK (rec : Nat → Option Nat) : List Int → Int → Option Nat
  | [], _ => some 0
  | k :: ks, next => if 0 ≤ next ∧ k = next then (rec next.toNat).bind fun n => (wkK rec ks (next - n)).map (n + ·) else none
/-- How many nodes the tree of a node has; none: it does not stand right. -/
noncomputable def wkT (ts : List Pt) : Nat → Nat → Option Nat
  | 0, _ => none
  | f + 1, x => match ts[x]? with
    | none => none
    | some p => if dec (LeafP p) = true then some 1 else if dec (InnP p) = true then (wkK (wkT ts f) p.s.reverse ((x : Int) - 1)).map (1 + ·) else none
theorem wkT_leaf {ts : List Pt} {f x : Nat} {p : Pt} (hp : ts[x]? = some p) (h : LeafP p) : wkT ts (f + 1) x = some 1 := by
  simp only [wkT, hp, dec_true h, if_true]
theorem wkT_inn {ts : List Pt} {f x : Nat} {p : Pt} (hp : ts[x]? = some p) (h : InnP p) : wkT ts (f + 1) x = (wkK (wkT ts f) p.s.reverse ((x : Int) - 1)).map (1 + ·) := by
  have hl : ¬ LeafP p := fun h3 => leaf_not_inn h3 h
  simp only [wkT, hp, dec_false hl, dec_true h, if_true]
  rfl
theorem wkT_some {ts : List Pt} {f x n : Nat} (h : wkT ts (f + 1) x = some n) : ∃ p, ts[x]? = some p ∧ ((LeafP p ∧ n = 1) ∨ (InnP p ∧ ∃ m, wkK (wkT ts f) p.s.reverse ((x : Int) - 1) = some m ∧ n = 1 + m)) := by
  cases hp : ts[x]? with
  | none => simp only [wkT, hp] at h; cases h
  | some p =>
    refine ⟨p, rfl, ?_⟩
    by_cases h1 : LeafP p
    · rw [wkT_leaf hp h1] at h
      exact .inl ⟨h1, (Option.some.inj h).symm⟩
    · by_cases h2 : InnP p
      · rw [wkT_inn hp h2] at h
        cases hk : wkK (wkT ts f) p.s.reverse ((x : Int) - 1) with
        | none => rw [hk] at h; cases h
        | some m => rw [hk] at h; exact .inr ⟨h2, m, rfl, (Option.some.inj h).symm⟩
      · simp only [wkT, hp, dec_false h1, dec_false h2] at h
        cases h

/-- What is right from the root is read from the front. -/
def ScW (ts : List Pt) (rec : Nat → Option Nat) : Prop := ∀ x n, rec x = some n → 1 ≤ n ∧ n ≤ x + 1 ∧ ∀ R, scT ts n (x + 1 - n) R = some (x :: R)
theorem wkK_sc {ts : List Pt} {rec : Nat → Option Nat} (h : ScW ts rec) : ∀ (ks : List Int) (nx m : Nat), wkK rec ks ((nx : Int) - 1) = some m →
    m ≤ nx ∧ ∃ C : List Nat, C.length = ks.length ∧ ks = natInts C ∧ ∀ R, scT ts m (nx - m) R = some (C ++ R)
  | [], nx, m, hw => by
    obtain rfl : 0 = m := Option.some.inj hw
    exact ⟨Nat.zero_le _, [], rfl, rfl, fun R => rfl⟩
  | k :: ks, nx, m, hw => by
    unfold wkK at hw
    by_cases hc : 0 ≤ (nx : Int) - 1 ∧ k = (nx : Int) - 1
    · rw [if_pos hc] at hw
      obtain ⟨x, rfl⟩ : ∃ x, nx = x + 1 := ⟨nx - 1, by omega⟩
      have e : ((x + 1 : Nat) : Int) - 1 = x := by omega
      rw [e, Int.toNat_natCast] at hw
      cases hr : rec x with
      | none => rw [hr] at hw; cases hw
      | some n =>
        rw [hr] at hw
        obtain ⟨h1, h2, h3⟩ := h x n hr
        have hw : (wkK rec ks ((x : Int) - n)).map (n + ·) = some m := hw
        have e2 : (x : Int) - n = ((x + 1 - n : Nat) : Int) - 1 := by omega
        rw [e2] at hw
        cases hk : wkK rec ks (((x + 1 - n : Nat) : Int) - 1) with
        | none => rw [hk] at hw; cases hw
        | some m' =>
          rw [hk] at hw
          obtain rfl : n + m' = m := Option.some.inj hw
          obtain ⟨g1, C, g2, g3, g4⟩ := wkK_sc h ks _ m' hk
          refine ⟨by omega, x :: C, by simp [g2], ?_, fun R => ?_⟩
          · rw [g3, hc.2, e]; rfl
          · rw [Nat.add_comm n m', scT_add, show x + 1 - (m' + n) = x + 1 - n - m' by omega, g4 R]
            show scT ts n (x + 1 - n - m' + m') (C ++ R) = _
            rw [show x + 1 - n - m' + m' = x + 1 - n by omega, h3]
            rfl
    · rw [if_neg hc] at hw; cases hw
theorem wkT_sc (ts : List Pt) : ∀ f, ScW ts (wkT ts f)
  | 0 => fun x n h => by cases h
  | f + 1 => fun x n h => by
    obtain ⟨p, hp, ⟨h1, rfl⟩ | ⟨h1, m, hm, rfl⟩⟩ := wkT_some h
    · refine ⟨Nat.le_refl _, by omega, fun R => ?_⟩
      rw [scT_one, show x + 1 - 1 = x by omega, stT_leaf hp h1]
    · obtain ⟨h2, C, h3, h4, h5⟩ := wkK_sc (wkT_sc ts f) _ x m hm
      refine ⟨by omega, by omega, fun R => ?_⟩
      rw [List.length_reverse] at h3
      rw [Nat.add_comm 1 m, scT_add, show x + 1 - (m + 1) = x - m by omega, h5 R]
      show scT ts 1 (x - m + m) (C ++ R) = _
      rw [show x - m + m = x by omega, scT_one, stT_inn hp h1 ⟨by rw [List.length_append]; omega, by rw [← h3, List.take_left, h4]⟩, ← h3, List.drop_left]

/-- The open nodes are the roots of trees that stand one behind the other. -/
def ChTe (ts : List Pt) : List Nat → Nat → Prop
  | [], i => i = 0
  | r :: rs, i => i = r + 1 ∧ ∃ n, (∀ f, r < f → wkT ts f r = some n) ∧ 1 ≤ n ∧ n ≤ i ∧ ChTe ts rs (i - n)
theorem chTe_kids {ts : List Pt} : ∀ (ks : List Int) (R : List Nat) (i : Nat), ChTe ts R i → ks.length ≤ R.length → ks = natInts (R.take ks.length) →
    ∃ m, (∀ f, i ≤ f → wkK (wkT ts f) ks ((i : Int) - 1) = some m) ∧ m ≤ i ∧ ChTe ts (R.drop ks.length) (i - m)
  | [], R, i, h, _, _ => ⟨0, fun f _ => rfl, Nat.zero_le _, h⟩
  | k :: ks, [], i, _, hl, _ => by simp at hl
  | k :: ks, r :: R, i, h, hl, he => by
    obtain ⟨rfl, n, h1, h2, h3, h4⟩ := h
    have he1 : k :: ks = (r : Int) :: natInts (R.take ks.length) := he
    injection he1 with e1 e2
    obtain ⟨m, g1, g2, g3⟩ := chTe_kids ks R _ h4 (by simpa using hl) e2
    refine ⟨n + m, fun f hf => ?_, by omega, ?_⟩
    · unfold wkK
      rw [if_pos ⟨by omega, by omega⟩, show (((r + 1 : Nat) : Int) - 1).toNat = r by omega, h1 f (by omega)]
      show (wkK (wkT ts f) ks (((r + 1 : Nat) : Int) - 1 - n)).map (n + ·) = _
      rw [show ((r + 1 : Nat) : Int) - 1 - n = ((r + 1 - n : Nat) : Int) - 1 by omega, g1 f (by omega)]
      rfl
    · rw [show r + 1 - (n + m) = r + 1 - n - m by omega]
      exact g3
theorem scT_ch {ts : List Pt} : ∀ (i : Nat) (R : List Nat), scT ts i 0 [] = some R → ChTe ts R i
  | 0, R, h => by obtain rfl : [] = R := Option.some.inj h; rfl
  | i + 1, R, h => by
    rw [scT_snoc] at h
    cases hs : scT ts i 0 [] with
    | none => rw [hs] at h; cases h
    | some R0 =>
      rw [hs] at h
      have hc := scT_ch i R0 hs
      obtain ⟨p, hp, ⟨h1, rfl⟩ | ⟨h1, h2, rfl⟩⟩ := stT_some h
      · refine ⟨rfl, 1, fun f hf => ?_, Nat.le_refl _, by omega, by rw [show i + 1 - 1 = i by omega]; exact hc⟩
        obtain ⟨f, rfl⟩ : ∃ f', f = f' + 1 := ⟨f - 1, by omega⟩
        exact wkT_leaf hp h1
      · obtain ⟨m, g1, g2, g3⟩ := chTe_kids p.s.reverse R0 i hc (by rw [List.length_reverse]; exact h2.1) (by rw [List.length_reverse]; exact h2.2)
        rw [List.length_reverse] at g3
        refine ⟨rfl, 1 + m, fun f hf => ?_, by omega, by omega, by rw [show i + 1 - (1 + m) = i - m by omega]; exact g3⟩
        obtain ⟨f, rfl⟩ : ∃ f', f = f' + 1 := ⟨f - 1, by omega⟩
        rw [wkT_inn hp h1, g1 f (by omega)]
        rfl

theorem str_iff {ts : List Pt} (hn : 1 ≤ ts.length) {f : Nat} (hf : ts.length ≤ f) : wkT ts f (ts.length - 1) = some ts.length ↔ scT ts ts.length 0 [] = some [ts.length - 1] := by
  constructor
  · intro h
    have := (wkT_sc ts f _ _ h).2.2 []
    rwa [show ts.length - 1 + 1 - ts.length = 0 by omega] at this
  · intro h
    obtain ⟨h1, n, h2, h3, h4, h5⟩ := scT_ch _ _ h
    have h5 : ts.length - n = 0 := h5
    obtain rfl : n = ts.length := by omega
    exact h2 f (by omega)
theorem sc_root {ts : List Pt} {R : List Nat} (h : scT ts ts.length 0 [] = some R) (h1 : R.length = 1) : R = [ts.length - 1] ∧ 1 ≤ ts.length := by
  have hc := scT_ch _ _ h
  match R, h1 with
  | [r], _ =>
    have := hc.1
    exact ⟨by rw [show ts.length - 1 = r by omega], by omega⟩

/-- A node with its kids ahead of it. -/
def GoodN (ts : List Pt) (j : Nat) : Prop := ∃ p, ts[j]? = some p ∧ (LeafP p ∨ (InnP p ∧ ∀ k ∈ p.s, 0 ≤ k ∧ k < j))
theorem sc_good {ts : List Pt} : ∀ (i : Nat) (R : List Nat), scT ts i 0 [] = some R → (∀ r ∈ R, r < i) ∧ ∀ j, j < i → GoodN ts j
  | 0, R, h => by
    obtain rfl : [] = R := Option.some.inj h
    exact ⟨by simp, fun j hj => by omega⟩
  | i + 1, R, h => by
    rw [scT_snoc] at h
    cases hs : scT ts i 0 [] with
    | none => rw [hs] at h; cases h
    | some R0 =>
      rw [hs] at h
      obtain ⟨g1, g2⟩ := sc_good i R0 hs
      obtain ⟨p, hp, hh⟩ := stT_some h
      have hg : GoodN ts i := by
        refine ⟨p, hp, ?_⟩
        rcases hh with ⟨h1, _⟩ | ⟨h1, h2, _⟩
        · exact .inl h1
        · refine .inr ⟨h1, fun k hk => ?_⟩
          have hk2 : k ∈ p.s.reverse := List.mem_reverse.2 hk
          rw [h2.2, mem_natInts] at hk2
          obtain ⟨x, hx, rfl⟩ := hk2
          have := g1 x (List.mem_of_mem_take hx)
          omega
      refine ⟨fun r hr => ?_, fun j hj => ?_⟩
      · rcases hh with ⟨_, rfl⟩ | ⟨_, _, rfl⟩
        · rcases List.mem_cons.1 hr with rfl | hr
          · omega
          · have := g1 r hr; omega
        · rcases List.mem_cons.1 hr with rfl | hr
          · omega
          · have := g1 r (List.mem_of_mem_drop hr); omega
      · by_cases e : j = i
        · rw [e]; exact hg
        · exact g2 j (by omega)

end Go.Proofs.YtfphapcgjlhieaaDoor
