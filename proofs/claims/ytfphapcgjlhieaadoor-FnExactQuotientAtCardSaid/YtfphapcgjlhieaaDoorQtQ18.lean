/- Walks: marking a graph whose rows lie apart, and looking at the marks. -/
import Derived.Test.YtfphapcgjlhieaaDoorQtQ7
import Derived.Test.YtfphapcgjlhieaaDoorQtQ17
namespace Go.Proofs.YtfphapcgjlhieaaDoor
open Go.RowKit

def preL (g : List (List Int)) : Nat → Nat
  | 0 => 0
  | j + 1 => preL g j + (row g j).length
theorem preL_le {g : List (List Int)} {m : Nat} (h : ∀ j, (row g j).length ≤ m) : ∀ j, preL g j ≤ j * m
  | 0 => by simp [preL]
  | j + 1 => by
    have h1 := preL_le h j
    have h2 := h j
    have : (j + 1) * m = j * m + m := Nat.succ_mul j m
    simp only [preL]; omega
/-- The graph of the marks k, k + 1, .. that a graph bears. -/
def markG (k : Int) (g : List (List Int)) : List (List Int) := (List.range g.length).map fun j => marks (k + preL g j) (row g j).length
theorem markG_length (k : Int) (g : List (List Int)) : (markG k g).length = g.length := by simp [markG]
theorem row_markG {k : Int} {g : List (List Int)} {j : Nat} (h : j < g.length) : row (markG k g) j = marks (k + preL g j) (row g j).length := by simp [row, markG, h]

set_option maxRecDepth 100000 in
set_option maxHeartbeats 1000000 in
theorem markInt64SS_x (v : Value) (g : List (List Int)) (base : Nat) (k : Int) (h1 : g.length ≤ 100000) (h2 : ∀ j, (row g j).length ≤ 1000) (h0 : 0 ≤ k) (hk1 : k ≤ 1048576) (w : World)
    (vals : List Value) (hvl : vals.length = g.length) (ho : w.ownsRow base 52 1 v g.length vals) (hr : Dis w base g.length vals g) (hi : Nat) (hhi : ∀ j, j < g.length → ∀ b, (vals.getD j undef).ownBlock = some b → b < hi) :
    Calls Tryd.prog 56 #[v, .int .i64 k] w fun e w' => e = .returned (.int .i64 (k + preL g g.length)) ∧ w'.ownsRow base 52 1 v g.length vals ∧ Dis w' base g.length vals (markG k g) ∧ Apart base hi w w' := by
  rcases ho.2 with ⟨rfl, hn0⟩ | ⟨b, cap, cur, rfl, _⟩
  · have e0 : ((g.length : Nat) : Int) = 0 := by omega
    have Ho := Lib.hid ho
    clear ho hr hhi
    go_enter Tryd.func56, Tryd.ntmps56
    go_wp2
    refine wp_loop_rounds 1 ?_
    rw [rounds_succ]
    go_wp2
    go_ret
    exact ⟨ret_int (by rw [hn0]; simp [preL]), Ho.out, ⟨fun j hj => by omega, fun i j hi => by omega⟩, Apart.refl _ _ _⟩
  have Hhi := Lib.hid hhi
  have H2 := Lib.hid h2
  have Hvl := Lib.hid hvl
  have Hr := Lib.hid hr
  have Ho := Lib.hid ho
  have hbs := (ho.lt b rfl).1
  have hbz := (ho.lt b rfl).2
  have HP := Lib.hid (preL_le h2)
  clear h2 hvl hr ho hhi
  go_enter Tryd.func56, Tryd.ntmps56
  go_wp2
  go_loopw [1, 5] (fun z i wr => ∃ (j : Nat) (y : Int), j ≤ g.length ∧ i = .int .i64 j ∧ z = .int .i64 y ∧ y = k + preL g j ∧ Apart base hi w wr ∧
      wr.ownsRow base 52 1 (.slice (some ⟨b, 0, none⟩) g.length cap) g.length vals ∧
      (∀ i, i < g.length → wr.ownsRow base 2 1 (vals.getD i undef) (row g i).length ((if i < j then marks (k + preL g i) (row g i).length else row g i).map (Value.int .i64))))
    (fun _ i _ => g.length - (intOf i).toNat)
  case atStart => exact ⟨0, k, Nat.zero_le _, rfl, rfl, by simp [preL], Apart.refl _ _ _, Ho.out, fun i hi => by simpa using Hr.out.rows i hi⟩
  case round =>
    obtain ⟨j, y, hj, rfl, rfl, hy, hbel, hown, hrows⟩ := hrel
    have Hrows := Lib.hid hrows
    have hp := HP.out j
    have hy0 : 0 ≤ y := by omega
    have hy1 : y ≤ 1048576 + 100000 * 1000 := by
      have : j * 1000 ≤ 100000 * 1000 := Nat.mul_le_mul_right _ (by omega)
      omega
    have Hy := Lib.hid hy
    clear hrows hy hp
    by_cases hlt : j < g.length
    · have hys := Hrows.out j hlt
      rw [if_neg (Nat.lt_irrefl j)] at hys
      have hl2 := H2.out j
      have hc := hown.cellAt j (by omega)
      obtain ⟨u, hu⟩ : ∃ u, vals[j]? = some u := ⟨_, List.getElem?_eq_getElem (by have := Hvl.out; omega)⟩
      have hud : vals.getD j undef = u := by rw [List.getD_eq_getElem?_getD, hu]; rfl
      rw [hu] at hc
      rw [hud] at hys
      have Hys := Lib.hid hys
      have Hud := Lib.hid hud
      clear hys hud hu
      obtain ⟨m, hm⟩ : ∃ m, m = (row g j).length := ⟨_, rfl⟩
      rw [← hm] at hl2
      have Hm := Lib.hid hm
      clear hm
      have hsz := hbel.size
      go_wp2_with (go_at_call 55; refine (markInt64S_any u m base ((row g j).map (Value.int .i64)) y (by omega) hy0 (by omega) _ (Hm.out ▸ Hys.out)).mono ?_; rintro e w2 ⟨rfl, ho2, hg2, _⟩)
      go_roundw
      case rel =>
        have hys : wr.ownsRow base 2 1 u m ((row g j).map (Value.int .i64)) := Hm.out ▸ Hys.out
        have hbs2 : base ≤ w.heap.size := by omega
        refine ⟨j + 1, _, by omega, by go_num, rfl, by have := Hy.out; have := Hm.out; simp only [preL]; omega, hbel.trans (Apart.of_grown hys hg2 (Nat.le_refl _) (by rw [← Hud.out]; exact Hhi.out j hlt)), ownsRow_other hown hys hg2 (by decide), fun i hi => ?_⟩
        by_cases e : i = j
        · subst e
          rw [if_pos (by omega), Hud.out, ← Hm.out]
          rw [Hy.out] at ho2
          exact ho2
        · have hh := Hrows.out i hi
          have hcond : (i < j) ↔ (i < j + 1) := by omega
          have : (if i < j + 1 then marks (k + preL g i) (row g i).length else row g i) = (if i < j then marks (k + preL g i) (row g i).length else row g i) := by
            by_cases h : i < j
            · rw [if_pos h, if_pos (by omega)]
            · rw [if_neg h, if_neg (by omega)]
          rw [this]
          refine hh.kept hg2 ?_
          cases hob : (vals.getD i undef).ownBlock with
          | none => exact .inl rfl
          | some bb =>
            refine .inr fun hc => ?_
            have := Hr.out.dis i j hi hlt e bb hob
            rw [Hud.out] at this
            exact this hc.symm
      case measure => simp [intOf]; omega
    · obtain rfl : j = g.length := by omega
      go_wp2
      go_ret
      refine ⟨ret_int Hy.out, hown, ⟨fun i hi => ?_, Hr.out.dis⟩, hbel⟩
      have := Hrows.out i hi
      rw [if_pos hi] at this
      rw [row_markG hi, marks_length]
      exact this

/-- A graph of blocks of its own from base on and below hi. -/
def DGh (w : World) (base hi : Nat) (v : Value) (g : List (List Int)) : Prop :=
  ∃ u vals, v = .agg #[u] ∧ vals.length = g.length ∧ w.ownsRow base 52 1 u g.length vals ∧ Dis w base g.length vals g ∧ ∀ j, j < g.length → ∀ b, (vals.getD j undef).ownBlock = some b → b < hi
theorem DGh.of {w : World} {base : Nat} {v : Value} {g : List (List Int)} (h : DG w base v g) : DGh w base w.heap.size v g := by
  obtain ⟨u, vals, h1, h2, h3, h4⟩ := h
  exact ⟨u, vals, h1, h2, h3, h4, fun j hj b hb => ((h4.rows j hj).lt b hb).2⟩
theorem DGh.dg {w : World} {base hi : Nat} {v : Value} {g : List (List Int)} (h : DGh w base hi v g) : DG w base v g := by
  obtain ⟨u, vals, h1, h2, h3, h4, _⟩ := h
  exact ⟨u, vals, h1, h2, h3, h4⟩
theorem DGh.below {w w' : World} {base hi : Nat} {v : Value} {g : List (List Int)} (h : DGh w base hi v g) (hb : Below w.heap.size w w') : DGh w' base hi v g := by
  obtain ⟨u, vals, h1, h2, h3, h4, h5⟩ := h
  exact ⟨u, vals, h1, h2, ownsRow_below h3 hb, ⟨fun j hj => ownsRow_below (h4.rows j hj) hb, h4.dis⟩, h5⟩
theorem DGh.apart {w w' : World} {base hi lo' hi' : Nat} {v : Value} {g : List (List Int)} (h : DGh w base hi v g) (ha : Apart lo' hi' w w') (hl : hi' ≤ base) : DGh w' base hi v g := by
  obtain ⟨u, vals, h1, h2, h3, h4, h5⟩ := h
  exact ⟨u, vals, h1, h2, ownsRow_apart_hi h3 ha hl, ⟨fun j hj => ownsRow_apart_hi (h4.rows j hj) ha hl, h4.dis⟩, h5⟩
theorem Box.apart {w w' : World} {b lo hi : Nat} {T : TypeId} {v : Value} (h : Box w b T v) (ha : Apart lo hi w w') (hb : hi ≤ b) : Box w' b T v := .of ((ha.block b h.lt (.inr hb)).trans h.blk)

set_option maxRecDepth 100000 in
theorem markGraph_x (v : Value) (g : List (List Int)) (base hi : Nat) (k : Int) (h1 : g.length ≤ 100000) (h2 : ∀ j, (row g j).length ≤ 1000) (h0 : 0 ≤ k) (hk1 : k ≤ 1048576) (w : World) (hd : DGh w base hi v g) :
    Calls Tryd.prog 14 #[v, .int .i64 k] w fun e w' => e = .returned (.int .i64 (k + preL g g.length)) ∧ DGh w' base hi v (markG k g) ∧ Apart base hi w w' := by
  obtain ⟨u, vals, rfl, hvl, ho, hr, hhi⟩ := hd
  have hb1 := below_alloc w (.cells #[u] 26)
  have hk' := Lib.hid (markInt64SS_x u g base k h1 h2 h0 hk1 _ vals hvl (ownsRow_below ho hb1) ⟨fun j hj => ownsRow_below (hr.rows j hj) hb1, hr.dis⟩ hi hhi)
  have Hb1 := Lib.hid (Apart.of_below (lo := base) (hi := hi) hb1)
  have Hvl := Lib.hid hvl
  have Hhi := Lib.hid hhi
  have hsh : u = .slice none 0 0 ∨ ∃ b c, u = .slice (some ⟨b, 0, none⟩) g.length c := by
    rcases ho.2 with ⟨h, _⟩ | ⟨b, c, _, h, _⟩
    · exact .inl h
    · exact .inr ⟨b, c, h⟩
  clear hvl ho hr hb1 h2 hhi
  rcases hsh with rfl | ⟨b, c, rfl⟩
  all_goals
    go_enter Tryd.func14, Tryd.ntmps14
    go_wp2_with (go_at_call 56; refine hk'.out.mono ?_; rintro e w2 ⟨rfl, ho2, hd2, hb2⟩)
    go_ret
    exact ⟨rfl, ⟨_, vals, rfl, by rw [markG_length]; exact Hvl.out, by rw [markG_length]; exact ho2, by rw [markG_length]; exact hd2, by rw [markG_length]; exact Hhi.out⟩, Hb1.out.trans hb2⟩

set_option maxRecDepth 100000 in
set_option maxHeartbeats 1000000 in
theorem heldInt64SS_x (v : Value) (g : List (List Int)) (k : Int) (h1 : g.length ≤ 100000) (h2 : ∀ j, (row g j).length ≤ 1000) (h0 : 0 ≤ k) (hk1 : k ≤ 1048576) (w : World) (hx : Rws w 52 2 v (markG k g)) :
    Calls Tryd.prog 57 #[v, .int .i64 k] w fun e w' => e = .returned (.int .i64 (k + preL g g.length)) ∧ w = w' := by
  obtain ⟨p, c, rfl, _⟩ := hx.shape
  rw [markG_length] at hx ⊢
  have HX := Lib.hid hx
  have HP := Lib.hid (preL_le h2)
  have H2 := Lib.hid h2
  clear hx h2
  go_enter Tryd.func57, Tryd.ntmps57
  go_wp2
  go_loop [1, 5] (fun z i => ∃ (j : Nat) (y : Int), j ≤ g.length ∧ i = .int .i64 j ∧ z = .int .i64 y ∧ y = k + preL g j) (fun _ i => g.length - (intOf i).toNat)
  case atStart => exact ⟨0, _, Nat.zero_le _, rfl, rfl, by simp [preL]⟩
  case round =>
    obtain ⟨j, y, hj, rfl, rfl, hy⟩ := hrel
    have hp := HP.out j
    have hy0 : 0 ≤ y := by omega
    have hy1 : y ≤ 1048576 + 100000 * 1000 := by
      have : j * 1000 ≤ 100000 * 1000 := Nat.mul_le_mul_right _ (by omega)
      omega
    have Hy := Lib.hid hy
    clear hy hp
    by_cases hlt : j < g.length
    · obtain ⟨b, o, rp, rc, rfl, hcell, hnums⟩ := HX.out.get (k := j) (by rw [markG_length]; exact hlt)
      have er : (markG k g).getD j [] = marks y (row g j).length := by rw [Hy.out]; exact row_markG hlt
      rw [er] at hcell hnums
      rw [marks_length] at hcell hnums
      have hl2 := H2.out j
      obtain ⟨m, hm⟩ : ∃ m, m = (row g j).length := ⟨_, rfl⟩
      rw [← hm] at hl2 hcell hnums
      have Hm := Lib.hid hm
      have hyn : ¬ y + (m : Int) < 0 := by omega
      clear hm er
      go_wp2_with (go_at_call 118; refine (heldInt64S_any _ m y hy0 (by omega) _ hnums).mono ?_; rintro e w2 ⟨rfl, rfl⟩)
      go_round
      case rel => exact ⟨j + 1, _, by omega, by go_num, rfl, by have := Hy.out; have := Hm.out; simp only [preL]; omega⟩
      case measure => simp [intOf]; omega
    · obtain rfl : j = g.length := by omega
      go_wp2
      go_ret
      exact ⟨ret_int Hy.out, rfl⟩

set_option maxRecDepth 100000 in
theorem heldGraph_x (v : Value) (g : List (List Int)) (k : Int) (h1 : g.length ≤ 100000) (h2 : ∀ j, (row g j).length ≤ 1000) (h0 : 0 ≤ k) (hk1 : k ≤ 1048576) (w : World) (hx : Gr w v (markG k g)) :
    Calls Tryd.prog 15 #[v, .int .i64 k] w fun e w' => e = .returned (.int .i64 (k + preL g g.length)) ∧ Below w.heap.size w w' := by
  obtain ⟨u, rfl, hr⟩ := hx
  obtain ⟨p, c, rfl, _⟩ := hr.shape
  have hb1 := below_alloc w (.cells #[.slice p (markG k g).length c] 26)
  have hk' := Lib.hid (heldInt64SS_x _ g k h1 h2 h0 hk1 _ (hr.below hb1))
  have Hb1 := Lib.hid hb1
  have hp : ¬ (k + (preL g g.length : Int)) < 0 := by omega
  clear hr hb1 h2
  go_enter Tryd.func15, Tryd.ntmps15
  go_wp2_with (go_at_call 57; refine hk'.out.mono ?_; rintro e w2 ⟨rfl, rfl⟩)
  go_ret
  exact ⟨rfl, Hb1.out⟩

end Go.Proofs.YtfphapcgjlhieaaDoor
