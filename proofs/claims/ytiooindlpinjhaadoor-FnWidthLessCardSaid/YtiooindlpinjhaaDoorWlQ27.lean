/- Walks: marking a graph whose rows lie apart, and looking at the marks. -/
import Derived.Test.YtiooindlpinjhaaDoorWlQ26
import Derived.Test.YtiooindlpinjhaaDoorWlQ12
import Derived.Test.YtiooindlpinjhaaDoorWlQ6
import Derived.Test.YtiooindlpinjhaaDoorWlQ13
import Derived.Test.YtiooindlpinjhaaDoorWlQ14
namespace Go.Proofs.YtiooindlpinjhaaDoor
open Go.RowKit

def preL (g : List (List Int)) : Nat → Nat
  | 0 => 0
  | j + 1 => preL g j + (row g j).length
theorem preL_le {g : List (List Int)} {m : Nat} (h : ∀ j, (row g j).length ≤ m) : ∀ j, preL g j ≤ j * m
  | 0 => by simp [preL]
  | j + 1 => by
    have h1 := preL_le h j
    have h2 := h j
    have : (j + 1) * m = j * m + m := Nat.succ_mul j m
    simp only [preL]; omega
/-- The graph of the marks k, k + 1, .. that a graph bears. -/
def markG (k : Int) (g : List (List Int)) : List (List Int) := (List.range g.length).map fun j => marks (k + preL g j) (row g j).length
theorem markG_length (k : Int) (g : List (List Int)) : (markG k g).length = g.length := by simp [markG]
theorem row_markG {k : Int} {g : List (List Int)} {j : Nat} (h : j < g.length) : row (markG k g) j = marks (k + preL g j) (row g j).length := by simp [row, markG, h]

set_option maxRecDepth 100000 in
set_option maxHeartbeats 1000000 in
theorem markInt64SS_x (v : Value) (g : List (List Int)) (base : Nat) (k : Int) (h1 : g.length ≤ 100000) (h2 : ∀ j, (row g j).length ≤ 1000) (h0 : 0 ≤ k) (hk1 : k ≤ 1048576) (w : World)
    (vals : List Value) (hvl : vals.length = g.length) (ho : w.ownsRow base 26 1 v g.length vals) (hr : Dis w base g.length vals g) (hi : Nat) (hhi : ∀ j, j < g.length → ∀ b, (vals.getD j undef).ownBlock = some b → b < hi) :
    Calls Tryd.prog 32 #[v, .int .i64 k] w fun e w' => e = .returned (.int .i64 (k + preL g g.length)) ∧ w'.ownsRow base 26 1 v g.length vals ∧ Dis w' base g.length vals (markG k g) ∧ Apart base hi w w' := by
  rcases ho.2 with ⟨rfl, hn0⟩ | ⟨b, cap, cur, rfl, _⟩
  · have e0 : ((g.length : Nat) : Int) = 0 := by omega
    have Ho := Lib.hid ho
    clear ho hr hhi
    go_enter Tryd.func32, Tryd.ntmps32
    go_wp2
    refine wp_loop_rounds 1 ?_
    rw [rounds_succ]
    go_wp2
    go_ret
    exact ⟨ret_int (by rw [hn0]; simp [preL]), Ho.out, ⟨fun j hj => by omega, fun i j hi => by omega⟩, Apart.refl _ _ _⟩
  have Hhi := Lib.hid hhi
  have H2 := Lib.hid h2
  have Hvl := Lib.hid hvl
  have Hr := Lib.hid hr
  have Ho := Lib.hid ho
  have hbs := (ho.lt b rfl).1
  have hbz := (ho.lt b rfl).2
  have HP := Lib.hid (preL_le h2)
  clear h2 hvl hr ho hhi
  go_enter Tryd.func32, Tryd.ntmps32
  go_wp2
  go_loopw [1, 5] (fun z i wr => ∃ (j : Nat) (y : Int), j ≤ g.length ∧ i = .int .i64 j ∧ z = .int .i64 y ∧ y = k + preL g j ∧ Apart base hi w wr ∧
      wr.ownsRow base 26 1 (.slice (some ⟨b, 0, none⟩) g.length cap) g.length vals ∧
      (∀ i, i < g.length → wr.ownsRow base 2 1 (vals.getD i undef) (row g i).length ((if i < j then marks (k + preL g i) (row g i).length else row g i).map (Value.int .i64))))
    (fun _ i _ => g.length - (intOf i).toNat)
  case atStart => exact ⟨0, k, Nat.zero_le _, rfl, rfl, by simp [preL], Apart.refl _ _ _, Ho.out, fun i hi => by simpa using Hr.out.rows i hi⟩
  case round =>
    obtain ⟨j, y, hj, rfl, rfl, hy, hbel, hown, hrows⟩ := hrel
    have Hrows := Lib.hid hrows
    have hp := HP.out j
    have hy0 : 0 ≤ y := by omega
    have hy1 : y ≤ 1048576 + 100000 * 1000 := by
      have : j * 1000 ≤ 100000 * 1000 := Nat.mul_le_mul_right _ (by omega)
      omega
    have Hy := Lib.hid hy
    clear hrows hy hp
    by_cases hlt : j < g.length
    · have hys := Hrows.out j hlt
      rw [if_neg (Nat.lt_irrefl j)] at hys
      have hl2 := H2.out j
      have hc := hown.cellAt j (by omega)
      obtain ⟨u, hu⟩ : ∃ u, vals[j]? = some u := ⟨_, List.getElem?_eq_getElem (by have := Hvl.out; omega)⟩
      have hud : vals.getD j undef = u := by rw [List.getD_eq_getElem?_getD, hu]; rfl
      rw [hu] at hc
      rw [hud] at hys
      have Hys := Lib.hid hys
      have Hud := Lib.hid hud
      clear hys hud hu
      obtain ⟨m, hm⟩ : ∃ m, m = (row g j).length := ⟨_, rfl⟩
      rw [← hm] at hl2
      have Hm := Lib.hid hm
      clear hm
      have hsz := hbel.size
      go_wp2_with (go_at_call 14; refine (markInt64S_any u m base ((row g j).map (Value.int .i64)) y (by omega) hy0 (by omega) _ (Hm.out ▸ Hys.out)).mono ?_; rintro e w2 ⟨rfl, ho2, hg2, _⟩)
      go_roundw
      case rel =>
        have hys : wr.ownsRow base 2 1 u m ((row g j).map (Value.int .i64)) := Hm.out ▸ Hys.out
        have hbs2 : base ≤ w.heap.size := by omega
        refine ⟨j + 1, _, by omega, by go_num, rfl, by have := Hy.out; have := Hm.out; simp only [preL]; omega, hbel.trans (Apart.of_grown hys hg2 (Nat.le_refl _) (by rw [← Hud.out]; exact Hhi.out j hlt)), ownsRow_other hown hys hg2 (by decide), fun i hi => ?_⟩
        by_cases e : i = j
        · subst e
          rw [if_pos (by omega), Hud.out, ← Hm.out]
          rw [Hy.out] at ho2
          exact ho2
        · have hh := Hrows.out i hi
          have hcond : (i < j) ↔ (i < j + 1) := by omega
          have : (if i < j + 1 then marks (k + preL g i) (row g i).length else row g i) = (if i < j then marks (k + preL g i) (row g i).length else row g i) := by
            by_cases h : i < j
            · rw [if_pos h, if_pos (by omega)]
            · rw [if_neg h, if_neg (by omega)]
          rw [this]
          refine hh.kept hg2 ?_
          cases hob : (vals.getD i undef).ownBlock with
          | none => exact .inl rfl
          | some bb =>
            refine .inr fun hc => ?_
            have := Hr.out.dis i j hi hlt e bb hob
            rw [Hud.out] at this
            exact this hc.symm
      case measure => simp [intOf]; omega
    · obtain rfl : j = g.length := by omega
      go_wp2
      go_ret
      refine ⟨ret_int Hy.out, hown, ⟨fun i hi => ?_, Hr.out.dis⟩, hbel⟩
      have := Hrows.out i hi
      rw [if_pos hi] at this
      rw [row_markG hi, marks_length]
      exact this

/-- A graph of blocks of its own from base on and below hi. -/
def DGh (w : World) (base hi : Nat) (v : Value) (g : List (List Int)) : Prop :=
  ∃ u vals, v = .agg #[u] ∧ vals.length = g.length ∧ w.ownsRow base 26 1 u g.length vals ∧ Dis w base g.length vals g ∧ ∀ j, j < g.length → ∀ b, (vals.getD j undef).ownBlock = some b → b < hi
theorem DGh.of {w : World} {base : Nat} {v : Value} {g : List (List Int)} (h : DG w base v g) : DGh w base w.heap.size v g := by
  obtain ⟨u, vals, h1, h2, h3, h4⟩ := h
  exact ⟨u, vals, h1, h2, h3, h4, fun j hj b hb => ((h4.rows j hj).lt b hb).2⟩
theorem DGh.dg {w : World} {base hi : Nat} {v : Value} {g : List (List Int)} (h : DGh w base hi v g) : DG w base v g := by
  obtain ⟨u, vals, h1, h2, h3, h4, _⟩ := h
  exact ⟨u, vals, h1, h2, h3, h4⟩
theorem DGh.below {w w' : World} {base hi : Nat} {v : Value} {g : List (List Int)} (h : DGh w base hi v g) (hb : Below w.heap.size w w') : DGh w' base hi v g := by
  obtain ⟨u, vals, h1, h2, h3, h4, h5⟩ := h
  exact ⟨u, vals, h1, h2, ownsRow_below h3 hb, ⟨fun j hj => ownsRow_below (h4.rows j hj) hb, h4.dis⟩, h5⟩
theorem DGh.apart {w w' : World} {base hi lo' hi' : Nat} {v : Value} {g : List (List Int)} (h : DGh w base hi v g) (ha : Apart lo' hi' w w') (hl : hi' ≤ base) : DGh w' base hi v g := by
  obtain ⟨u, vals, h1, h2, h3, h4, h5⟩ := h
  exact ⟨u, vals, h1, h2, ownsRow_apart_hi h3 ha hl, ⟨fun j hj => ownsRow_apart_hi (h4.rows j hj) ha hl, h4.dis⟩, h5⟩
theorem Box.apart {w w' : World} {b lo hi : Nat} {T : TypeId} {v : Value} (h : Box w b T v) (ha : Apart lo hi w w') (hb : hi ≤ b) : Box w' b T v := .of ((ha.block b h.lt (.inr hb)).trans h.blk)

set_option maxRecDepth 100000 in
theorem markGraph_x (v : Value) (g : List (List Int)) (base hi : Nat) (k : Int) (h1 : g.length ≤ 100000) (h2 : ∀ j, (row g j).length ≤ 1000) (h0 : 0 ≤ k) (hk1 : k ≤ 1048576) (w : World) (hd : DGh w base hi v g) :
    Calls Tryd.prog 13 #[v, .int .i64 k] w fun e w' => e = .returned (.int .i64 (k + preL g g.length)) ∧ DGh w' base hi v (markG k g) ∧ Apart base hi w w' := by
  obtain ⟨u, vals, rfl, hvl, ho, hr, hhi⟩ := hd
  have hb1 := below_alloc w (.cells #[u] 28)
  have hk' := Lib.hid (markInt64SS_x u g base k h1 h2 h0 hk1 _ vals hvl (ownsRow_below ho hb1) ⟨fun j hj => ownsRow_below (hr.rows j hj) hb1, hr.dis⟩ hi hhi)
  have Hb1 := Lib.hid (Apart.of_below (lo := base) (hi := hi) hb1)
  have Hvl := Lib.hid hvl
  have Hhi := Lib.hid hhi
  have hsh : u = .slice none 0 0 ∨ ∃ b c, u = .slice (some ⟨b, 0, none⟩) g.length c := by
    rcases ho.2 with ⟨h, _⟩ | ⟨b, c, _, h, _⟩
    · exact .inl h
    · exact .inr ⟨b, c, h⟩
  clear hvl ho hr hb1 h2 hhi
  rcases hsh with rfl | ⟨b, c, rfl⟩
  all_goals
    go_enter Tryd.func13, Tryd.ntmps13
    go_wp2_with (go_at_call 32; refine hk'.out.mono ?_; rintro e w2 ⟨rfl, ho2, hd2, hb2⟩)
    go_ret
    exact ⟨rfl, ⟨_, vals, rfl, by rw [markG_length]; exact Hvl.out, by rw [markG_length]; exact ho2, by rw [markG_length]; exact hd2, by rw [markG_length]; exact Hhi.out⟩, Hb1.out.trans hb2⟩

set_option maxRecDepth 100000 in
set_option maxHeartbeats 1000000 in
theorem heldInt64SS_x (v : Value) (g : List (List Int)) (k : Int) (h1 : g.length ≤ 100000) (h2 : ∀ j, (row g j).length ≤ 1000) (h0 : 0 ≤ k) (hk1 : k ≤ 1048576) (w : World) (hx : Rws w 26 2 v (markG k g)) :
    Calls Tryd.prog 33 #[v, .int .i64 k] w fun e w' => e = .returned (.int .i64 (k + preL g g.length)) ∧ w = w' := by
  obtain ⟨p, c, rfl, _⟩ := hx.shape
  rw [markG_length] at hx ⊢
  have HX := Lib.hid hx
  have HP := Lib.hid (preL_le h2)
  have H2 := Lib.hid h2
  clear hx h2
  go_enter Tryd.func33, Tryd.ntmps33
  go_wp2
  go_loop [1, 5] (fun z i => ∃ (j : Nat) (y : Int), j ≤ g.length ∧ i = .int .i64 j ∧ z = .int .i64 y ∧ y = k + preL g j) (fun _ i => g.length - (intOf i).toNat)
  case atStart => exact ⟨0, _, Nat.zero_le _, rfl, rfl, by simp [preL]⟩
  case round =>
    obtain ⟨j, y, hj, rfl, rfl, hy⟩ := hrel
    have hp := HP.out j
    have hy0 : 0 ≤ y := by omega
    have hy1 : y ≤ 1048576 + 100000 * 1000 := by
      have : j * 1000 ≤ 100000 * 1000 := Nat.mul_le_mul_right _ (by omega)
      omega
    have Hy := Lib.hid hy
    clear hy hp
    by_cases hlt : j < g.length
    · obtain ⟨b, o, rp, rc, rfl, hcell, hnums⟩ := HX.out.get (k := j) (by rw [markG_length]; exact hlt)
      have er : (markG k g).getD j [] = marks y (row g j).length := by rw [Hy.out]; exact row_markG hlt
      rw [er] at hcell hnums
      rw [marks_length] at hcell hnums
      have hl2 := H2.out j
      obtain ⟨m, hm⟩ : ∃ m, m = (row g j).length := ⟨_, rfl⟩
      rw [← hm] at hl2 hcell hnums
      have Hm := Lib.hid hm
      have hyn : ¬ y + (m : Int) < 0 := by omega
      clear hm er
      go_wp2_with (go_at_call 15; refine (heldInt64S_any _ m y hy0 (by omega) _ hnums).mono ?_; rintro e w2 ⟨rfl, rfl⟩)
      go_round
      case rel => exact ⟨j + 1, _, by omega, by go_num, rfl, by have := Hy.out; have := Hm.out; simp only [preL]; omega⟩
      case measure => simp [intOf]; omega
    · obtain rfl : j = g.length := by omega
      go_wp2
      go_ret
      exact ⟨ret_int Hy.out, rfl⟩


end Go.Proofs.YtiooindlpinjhaaDoor

/- Plain: the greatest cliques, in the order in which both find them. -/
namespace Go.Proofs.YtiooindlpinjhaaDoor

/-- What is found with a set, those that are left, and those that may not come. -/
def clF (E : Nat → Nat → Bool) : Nat → List Nat → List Nat → List Nat → List (List Nat)
  | 0, _, _, _ => []
  | k + 1, set, left, out => if left = [] ∧ out = [] then [set] else
    (List.range left.length).flatMap fun i => clF E k (set ++ [left.getD i 0]) ((left.drop (i + 1)).filter (E (left.getD i 0))) ((out ++ left.take i).filter (E (left.getD i 0)))
def clTo (E : Nat → Nat → Bool) (k : Nat) (set left out : List Nat) (m : Nat) : List (List Nat) :=
  (List.range m).flatMap fun i => clF E k (set ++ [left.getD i 0]) ((left.drop (i + 1)).filter (E (left.getD i 0))) ((out ++ left.take i).filter (E (left.getD i 0)))
theorem clTo_zero (E : Nat → Nat → Bool) (k : Nat) (set left out : List Nat) : clTo E k set left out 0 = [] := rfl
theorem clTo_succ (E : Nat → Nat → Bool) (k : Nat) (set left out : List Nat) (m : Nat) :
    clTo E k set left out (m + 1) = clTo E k set left out m ++ clF E k (set ++ [left.getD m 0]) ((left.drop (m + 1)).filter (E (left.getD m 0))) ((out ++ left.take m).filter (E (left.getD m 0))) := by
  simp [clTo, List.range_succ, List.flatMap_append]
theorem clF_one (E : Nat → Nat → Bool) (k : Nat) (set : List Nat) : clF E (k + 1) set [] [] = [set] := by simp [clF]
theorem clF_none (E : Nat → Nat → Bool) (k : Nat) (set out : List Nat) (h : out ≠ []) : clF E (k + 1) set [] out = [] := by simp [clF, h]
theorem clF_more (E : Nat → Nat → Bool) (k : Nat) (set left out : List Nat) (h : ¬ (left = [] ∧ out = [])) : clF E (k + 1) set left out = clTo E k set left out left.length := by
  rw [clF, if_neg h]
  rfl

theorem clF_len (E : Nat → Nat → Bool) : ∀ (k : Nat) (set left out : List Nat), (clF E k set left out).length ≤ 2 ^ left.length
  | 0, _, _, _ => Nat.zero_le _
  | k + 1, set, left, out => by
    by_cases h : left = [] ∧ out = []
    · obtain ⟨rfl, rfl⟩ := h
      rw [clF_one]
      exact Nat.le_refl _
    · rw [clF_more E k set left out h]
      have main : ∀ i, i ≤ left.length → (clTo E k set left out i).length + 2 ^ (left.length - i) ≤ 2 ^ left.length := by
        intro i
        induction i with
        | zero => intro _; rw [clTo_zero]; simp
        | succ i ih =>
          intro hi
          have h1 := ih (by omega)
          have h2 := clF_len E k (set ++ [left.getD i 0]) ((left.drop (i + 1)).filter (E (left.getD i 0))) ((out ++ left.take i).filter (E (left.getD i 0)))
          have h3 : ((left.drop (i + 1)).filter (E (left.getD i 0))).length ≤ left.length - (i + 1) := Nat.le_trans (List.length_filter_le _ _) (by rw [List.length_drop]; omega)
          have h4 := Nat.pow_le_pow_right (show 0 < 2 by decide) h3
          have h5 : 2 ^ (left.length - i) = 2 ^ (left.length - (i + 1)) * 2 := by
            rw [show left.length - i = left.length - (i + 1) + 1 by omega, Nat.pow_succ]
          rw [clTo_succ, List.length_append]
          omega
      exact Nat.le_trans (Nat.le_add_right _ _) (main left.length (Nat.le_refl _))
theorem clTo_len {E : Nat → Nat → Bool} {k : Nat} {set left out : List Nat} : ∀ {i : Nat}, i ≤ left.length → (clTo E k set left out i).length + 2 ^ (left.length - i) ≤ 2 ^ left.length
  | 0, _ => by rw [clTo_zero]; simp
  | i + 1, hi => by
    have h1 := clTo_len (E := E) (k := k) (set := set) (left := left) (out := out) (i := i) (by omega)
    have h2 := clF_len E k (set ++ [left.getD i 0]) ((left.drop (i + 1)).filter (E (left.getD i 0))) ((out ++ left.take i).filter (E (left.getD i 0)))
    have h3 : ((left.drop (i + 1)).filter (E (left.getD i 0))).length ≤ left.length - (i + 1) := Nat.le_trans (List.length_filter_le _ _) (by rw [List.length_drop]; omega)
    have h4 := Nat.pow_le_pow_right (show 0 < 2 by decide) h3
    have h5 : 2 ^ (left.length - i) = 2 ^ (left.length - (i + 1)) * 2 := by
      rw [show left.length - i = left.length - (i + 1) + 1 by omega, Nat.pow_succ]
    rw [clTo_succ, List.length_append]
    omega

theorem lexL_app : ∀ (s a b : List Nat), lexL (s ++ a) (s ++ b) ↔ lexL a b
  | [], _, _ => Iff.rfl
  | x :: s, a, b => by
    simp only [List.cons_append, lexL]
    rw [lexL_app s a b]
    exact ⟨fun h => h.elim (fun h => absurd h (Nat.lt_irrefl _)) fun h => h.2, fun h => .inr ⟨trivial, h⟩⟩

/-- Each goes on from the set by some that are left, in their order. -/
theorem clF_mem (E : Nat → Nat → Bool) : ∀ (k : Nat) (set left out : List Nat), left.Pairwise (· < ·) → ∀ x ∈ clF E k set left out, ∃ T, x = set ++ T ∧ T.Pairwise (· < ·) ∧ ∀ y ∈ T, y ∈ left
  | 0, _, _, _, _, _, h => by simp [clF] at h
  | k + 1, set, left, out, hr, x, h => by
    by_cases hh : left = [] ∧ out = []
    · obtain ⟨rfl, rfl⟩ := hh
      rw [clF_one] at h
      obtain rfl : x = set := by simpa using h
      exact ⟨[], by simp, by simp, by simp⟩
    · rw [clF_more E k set left out hh, clTo, List.mem_flatMap] at h
      obtain ⟨i, hi, h⟩ := h
      rw [List.mem_range] at hi
      have hg : left.getD i 0 = left[i] := by simp [hi]
      rw [hg] at h
      obtain ⟨T, rfl, h1, h2⟩ := clF_mem E k _ _ _ ((hr.sublist (List.drop_sublist _ _)).filter _) x h
      refine ⟨left[i] :: T, by simp, List.pairwise_cons.2 ⟨fun y hy => ?_, h1⟩, fun y hy => ?_⟩
      · have hm := (List.mem_filter.1 (h2 y hy)).1
        obtain ⟨j, hj, rfl⟩ := List.getElem_of_mem hm
        rw [List.length_drop] at hj
        rw [List.getElem_drop]
        exact List.pairwise_iff_getElem.1 hr i (i + 1 + j) hi (by omega) (by omega)
      · rcases List.mem_cons.1 hy with rfl | hy
        · exact List.getElem_mem hi
        · exact List.mem_of_mem_drop (List.mem_filter.1 (h2 y hy)).1
theorem clF_sorted (E : Nat → Nat → Bool) : ∀ (k : Nat) (set left out : List Nat), left.Pairwise (· < ·) → (clF E k set left out).Pairwise lexL
  | 0, _, _, _, _ => by simp [clF]
  | k + 1, set, left, out, hr => by
    by_cases hh : left = [] ∧ out = []
    · obtain ⟨rfl, rfl⟩ := hh
      rw [clF_one]
      simp
    · rw [clF_more E k set left out hh, clTo, List.pairwise_flatMap]
      refine ⟨fun i hi => clF_sorted E k _ _ _ ((hr.sublist (List.drop_sublist _ _)).filter _), ?_⟩
      refine List.Pairwise.imp_of_mem (fun {i j} hi hj hij x hx y hy => ?_) List.pairwise_lt_range
      rw [List.mem_range] at hi hj
      obtain ⟨T, rfl, _⟩ := clF_mem E k _ _ _ ((hr.sublist (List.drop_sublist _ _)).filter _) x hx
      obtain ⟨U, rfl, _⟩ := clF_mem E k _ _ _ ((hr.sublist (List.drop_sublist _ _)).filter _) y hy
      have h1 : left.getD i 0 = left[i] := by simp [hi]
      have h2 : left.getD j 0 = left[j] := by simp [hj]
      rw [List.append_assoc, List.append_assoc, lexL_app, h1, h2]
      exact .inl (List.pairwise_iff_getElem.1 hr i j hi hj hij)

/-- What CliquesOf finds. -/
def clsP (n : Nat) (E : Nat → Nat → Bool) : List (List Nat) := clF E (n + 1) [] (List.range n) []
theorem clsP_len (n : Nat) (E : Nat → Nat → Bool) : (clsP n E).length ≤ 2 ^ n := by
  have := clF_len E (n + 1) [] (List.range n) []
  rwa [List.length_range] at this
theorem clsP_mem {n : Nat} {E : Nat → Nat → Bool} {x : List Nat} (h : x ∈ clsP n E) : x.Pairwise (· < ·) ∧ ∀ y ∈ x, y < n := by
  obtain ⟨T, rfl, h1, h2⟩ := clF_mem E _ _ _ _ List.pairwise_lt_range x h
  exact ⟨by simpa using h1, fun y hy => List.mem_range.1 (h2 y (by simpa using hy))⟩
theorem clsP_sorted (n : Nat) (E : Nat → Nat → Bool) : (clsP n E).Pairwise lexL := clF_sorted E _ _ _ _ List.pairwise_lt_range

/-- -1, 0, 1: how two lists stand to each other. -/
noncomputable def cmpL (a b : List Nat) : Int := open Classical in if lexL a b then -1 else if lexL b a then 1 else 0
theorem cmpL_lt {a b : List Nat} : cmpL a b < 0 ↔ lexL a b := by
  unfold cmpL
  by_cases h : lexL a b
  · rw [if_pos h]; exact ⟨fun _ => h, fun _ => by decide⟩
  · rw [if_neg h]
    refine ⟨fun k => ?_, fun k => absurd k h⟩
    split at k <;> exact absurd k (by decide)

/-- A sorted arrangement of what was sorted strictly is the same. -/
theorem sorted_same {α : Type} (lt : α → α → Prop) (hirr : ∀ x, ¬ lt x x) (htr : ∀ {x y z}, lt x y → lt y z → lt x z) : ∀ (l m : List α), l.Perm m → l.Pairwise lt → m.Pairwise (fun x y => ¬ lt y x) → l = m
  | [], m, hp, _, _ => (List.Perm.nil_eq hp)
  | a :: l, [], hp, _, _ => absurd hp.length_eq (by simp)
  | a :: l, b :: m, hp, hl, hm => by
    have hab : a = b := by
      have h1 : b ∈ a :: l := hp.mem_iff.2 (by simp)
      have h2 : a ∈ b :: m := hp.mem_iff.1 (by simp)
      rcases List.mem_cons.1 h1 with h | h1
      · exact h.symm
      · rcases List.mem_cons.1 h2 with h | h2
        · exact h
        · exact absurd ((List.pairwise_cons.1 hl).1 b h1) ((List.pairwise_cons.1 hm).1 a h2)
    subst hab
    rw [sorted_same lt hirr htr l m hp.cons_inv hl.of_cons hm.of_cons]

end Go.Proofs.YtiooindlpinjhaaDoor

/- Plain: the least code of all orders, searched from place to place, and searched one order at a time. -/
namespace Go.Proofs.YtiooindlpinjhaaDoor

theorem lexL_long : ∀ {a b : List Nat} (s t : List Nat), a.length = b.length → lexL a b → lexL (a ++ s) (b ++ t)
  | [], [], _, _, _, h => h.elim
  | a :: l, b :: m, s, t, e, h => by
    simp only [List.cons_append, lexL] at h ⊢
    rcases h with h | ⟨h1, h2⟩
    · exact .inl h
    · exact .inr ⟨h1, lexL_long s t (by simpa using e) h2⟩
theorem lexL_asymm {a b : List Nat} (h : lexL a b) : ¬ lexL b a := fun k => lexL_irrefl _ (lexL_trans h k)
theorem lexL_take {q p : List Nat} (t : List Nat) (hl : p.length ≤ q.length) (h : lexL (q.take p.length) p) : lexL q (p ++ t) := by
  have := lexL_long (q.drop p.length) t (by simp; omega) h
  rwa [List.take_append_drop] at this

/-- Orders with their codes. -/
abbrev PrC := List Nat × List Nat
def rowC (E : Nat → Nat → Bool) (o : List Nat) (v : Nat) : List Nat := o.map fun u => if E u v then 1 else 0
theorem rowC_length (E : Nat → Nat → Bool) (o : List Nat) (v : Nat) : (rowC E o v).length = o.length := by simp [rowC]
def freeV (n : Nat) (o : List Nat) : List Nat := (List.range n).filter fun v => decide (v ∉ o)
def stepP (E : Nat → Nat → Bool) (p : PrC) (v : Nat) : PrC := (p.1 ++ [v], p.2 ++ rowC E p.1 v)
def extP (n : Nat) (E : Nat → Nat → Bool) (p : PrC) : List PrC := (freeV n p.1).map (stepP E p)
def levP (n : Nat) (E : Nat → Nat → Bool) : Nat → List PrC
  | 0 => [([], [])]
  | k + 1 => (levP n E k).flatMap (extP n E)
def compP (n : Nat) (E : Nat → Nat → Bool) : Nat → PrC → List PrC
  | 0, p => [p]
  | k + 1, p => (extP n E p).flatMap (compP n E k)
theorem lev_comp (n : Nat) (E : Nat → Nat → Bool) : ∀ (m k : Nat), (levP n E k).flatMap (compP n E m) = levP n E (k + m)
  | 0, k => by
    show (levP n E k).flatMap (fun p => [p]) = _
    simp
  | m + 1, k => by
    have := lev_comp n E m (k + 1)
    rw [show k + (m + 1) = k + 1 + m by omega, ← this]
    show (levP n E k).flatMap (fun p => (extP n E p).flatMap (compP n E m)) = ((levP n E k).flatMap (extP n E)).flatMap (compP n E m)
    rw [List.flatMap_assoc]
theorem comp_all (n : Nat) (E : Nat → Nat → Bool) : compP n E n ([], []) = levP n E n := by
  have := lev_comp n E n 0
  rw [Nat.zero_add] at this
  rw [← this]
  simp [levP]

/-- What an order of so many places is. -/
structure OrdK (n : Nat) (k : Nat) (p : PrC) : Prop where
  len : p.1.length = k
  nod : p.1.Nodup
  lt : ∀ v ∈ p.1, v < n
def codeL : Nat → Nat
  | 0 => 0
  | k + 1 => codeL k + k
theorem mem_freeV {n : Nat} {o : List Nat} {v : Nat} : v ∈ freeV n o ↔ v < n ∧ v ∉ o := by simp [freeV]
theorem OrdK.step {n k : Nat} {p : PrC} (h : OrdK n k p) (E : Nat → Nat → Bool) {v : Nat} (hv : v < n) (hn : v ∉ p.1) : OrdK n (k + 1) (stepP E p v) := by
  refine ⟨by simp [stepP, h.len], ?_, fun u hu => ?_⟩
  · simp only [stepP]
    rw [List.nodup_append]
    exact ⟨h.nod, by simp, fun a ha b hb => by
      have : b = v := by simpa using hb
      subst this
      exact fun e => hn (e ▸ ha)⟩
  · rcases List.mem_append.1 hu with e | e
    · exact h.lt u e
    · have : u = v := by simpa using e
      omega
theorem step_code (E : Nat → Nat → Bool) {p : PrC} {k v : Nat} (h1 : p.1.length = k) (h2 : p.2.length = codeL k) : (stepP E p v).2.length = codeL (k + 1) := by
  simp [stepP, rowC_length, h1, h2, codeL]
theorem lev_ord (n : Nat) (E : Nat → Nat → Bool) : ∀ k, ∀ p ∈ levP n E k, OrdK n k p ∧ p.2.length = codeL k
  | 0, p, hp => by
    have : p = ([], []) := by simpa [levP] using hp
    subst this
    exact ⟨⟨rfl, by simp, by simp⟩, rfl⟩
  | k + 1, p, hp => by
    obtain ⟨q, hq, hp⟩ := List.mem_flatMap.1 hp
    obtain ⟨v, hv, rfl⟩ := List.mem_map.1 hp
    obtain ⟨h1, h2⟩ := lev_ord n E k q hq
    obtain ⟨h3, h4⟩ := mem_freeV.1 hv
    exact ⟨h1.step E h3 h4, step_code E h1.len h2⟩
theorem comp_pre (n : Nat) (E : Nat → Nat → Bool) : ∀ (m : Nat) (p q : PrC), q ∈ compP n E m p → ∃ t, q.2 = p.2 ++ t
  | 0, p, q, h => ⟨[], by have : q = p := by simpa [compP] using h
                          simp [this]⟩
  | m + 1, p, q, h => by
    obtain ⟨r, hr, h⟩ := List.mem_flatMap.1 h
    obtain ⟨v, _, rfl⟩ := List.mem_map.1 hr
    obtain ⟨t, ht⟩ := comp_pre n E m _ q h
    exact ⟨rowC E p.1 v ++ t, by rw [ht]; simp [stepP]⟩

open Classical in
/-- The better one: the later one if its code is less. -/
noncomputable def better (b : Option PrC) (p : PrC) : Option PrC :=
  match b with
  | none => some p
  | some q => if lexL p.2 q.2 then some p else some q
theorem better_keep {q : PrC} : ∀ {V : List PrC}, (∀ p ∈ V, ¬ lexL p.2 q.2) → V.foldl better (some q) = some q
  | [], _ => rfl
  | p :: V, h => by
    rw [List.foldl_cons, show better (some q) p = some q from if_neg (h p (by simp))]
    exact better_keep fun r hr => h r (by simp [hr])
/-- A start that is more than the best one's leads nowhere. -/
theorem comp_cut {n : Nat} {E : Nat → Nat → Bool} {m : Nat} {p q : PrC} (hl : p.2.length ≤ q.2.length) (h : lexL (q.2.take p.2.length) p.2) : (compP n E m p).foldl better (some q) = some q := by
  refine better_keep fun r hr k => ?_
  obtain ⟨t, ht⟩ := comp_pre n E m p r hr
  rw [ht] at k
  exact lexL_asymm (lexL_take t hl h) k

/-- The best of a list: the first one of least code. -/
theorem best_from : ∀ (V : List PrC) (q : PrC), ∃ m r, ¬ lexL q.2 m ∧ (∀ p ∈ V, ¬ lexL p.2 m) ∧ V.foldl better (some q) = some r ∧ (q :: V).find? (fun p => decide (p.2 = m)) = some r
  | [], q => ⟨q.2, q, lexL_irrefl _, by simp, rfl, by simp⟩
  | p :: V, q => by
    by_cases h : lexL p.2 q.2
    · obtain ⟨m, r, h1, h2, h3, h4⟩ := best_from V p
      have hq : ¬ lexL q.2 m := fun k => h1 (lexL_trans h k)
      have hne : q.2 ≠ m := fun e => h1 (e ▸ h)
      refine ⟨m, r, hq, fun x hx => ?_, by rw [List.foldl_cons, show better (some q) p = some p from if_pos h]; exact h3, ?_⟩
      · rcases List.mem_cons.1 hx with e | e
        · rw [e]; exact h1
        · exact h2 x e
      · rw [List.find?_cons_of_neg (by simp [hne])]; exact h4
    · obtain ⟨m, r, h1, h2, h3, h4⟩ := best_from V q
      have hp : ¬ lexL p.2 m := fun k => by
        by_cases e : q.2 = m
        · exact h (e ▸ k)
        · by_cases k2 : lexL m q.2
          · exact h (lexL_trans k k2)
          · exact e (lexL_tri _ _ h1 k2)
      refine ⟨m, r, h1, fun x hx => ?_, by rw [List.foldl_cons, show better (some q) p = some q from if_neg h]; exact h3, ?_⟩
      · rcases List.mem_cons.1 hx with e | e
        · rw [e]; exact hp
        · exact h2 x e
      · by_cases e : q.2 = m
        · rw [List.find?_cons_of_pos (by simp [e])] at h4 ⊢; exact h4
        · have e2 : p.2 ≠ m := fun e2 => by
            by_cases k2 : lexL m q.2
            · exact h (e2 ▸ k2)
            · exact e (lexL_tri _ _ h1 k2)
          rw [List.find?_cons_of_neg (by simp [e])] at h4 ⊢
          rw [List.find?_cons_of_neg (by simp [e2])]; exact h4
theorem best_find : ∀ (V : List PrC), V ≠ [] → ∃ m r, (∀ p ∈ V, ¬ lexL p.2 m) ∧ V.foldl better none = some r ∧ V.find? (fun p => decide (p.2 = m)) = some r
  | [], h => absurd rfl h
  | q :: V, _ => by
    obtain ⟨m, r, h1, h2, h3, h4⟩ := best_from V q
    refine ⟨m, r, fun x hx => ?_, h3, h4⟩
    rcases List.mem_cons.1 hx with e | e
    · rw [e]; exact h1
    · exact h2 x e

open Classical in
/-- The reference's step from k places to k + 1: the candidates in turn. -/
noncomputable def addC (E : Nat → Nat → Bool) (s : List (List Nat) × List Nat) (c : List Nat × Nat) : List (List Nat) × List Nat :=
  let s1 := if s.1 = [] ∨ lexL (rowC E c.1 c.2) s.2 then ([], rowC E c.1 c.2) else s
  if rowC E c.1 c.2 = s1.2 then (s1.1 ++ [c.1 ++ [c.2]], s1.2) else s1
def candC (n : Nat) (B : List (List Nat)) : List (List Nat × Nat) := B.flatMap fun o => (freeV n o).map fun v => (o, v)
noncomputable def nextB (n : Nat) (E : Nat → Nat → Bool) (B : List (List Nat)) : List (List Nat) := ((candC n B).foldl (addC E) ([], [])).1
noncomputable def levB (n : Nat) (E : Nat → Nat → Bool) : Nat → List (List Nat)
  | 0 => [[]]
  | k + 1 => nextB n E (levB n E k)

theorem addC_new {E : Nat → Nat → Bool} {s : List (List Nat) × List Nat} {c : List Nat × Nat} (h : s.1 = [] ∨ lexL (rowC E c.1 c.2) s.2) : addC E s c = ([c.1 ++ [c.2]], rowC E c.1 c.2) := by
  simp [addC, h]
theorem addC_same {E : Nat → Nat → Bool} {s : List (List Nat) × List Nat} {c : List Nat × Nat} (h : ¬ (s.1 = [] ∨ lexL (rowC E c.1 c.2) s.2)) (h2 : rowC E c.1 c.2 = s.2) : addC E s c = (s.1 ++ [c.1 ++ [c.2]], s.2) := by
  unfold addC
  simp only [if_neg h, if_pos h2]
theorem addC_more {E : Nat → Nat → Bool} {s : List (List Nat) × List Nat} {c : List Nat × Nat} (h : ¬ (s.1 = [] ∨ lexL (rowC E c.1 c.2) s.2)) (h2 : ¬ rowC E c.1 c.2 = s.2) : addC E s c = s := by
  unfold addC
  simp only [if_neg h, if_neg h2]

/-- Of the candidates those of least row stay. -/
def AddI (E : Nat → Nat → Bool) (C : List (List Nat × Nat)) (s : List (List Nat) × List Nat) : Prop :=
  (C = [] ∧ s = ([], [])) ∨ (C ≠ [] ∧ s.1 ≠ [] ∧ s.1 = (C.filter fun c => decide (rowC E c.1 c.2 = s.2)).map (fun c => c.1 ++ [c.2]) ∧ ∀ c ∈ C, ¬ lexL (rowC E c.1 c.2) s.2)
theorem AddI.snoc {E : Nat → Nat → Bool} {C : List (List Nat × Nat)} {s : List (List Nat) × List Nat} (h : AddI E C s) (c : List Nat × Nat) : AddI E (C ++ [c]) (addC E s c) := by
  right
  refine ⟨by simp, ?_⟩
  rcases h with ⟨rfl, rfl⟩ | ⟨h1, h2, h3, h4⟩
  · rw [addC_new (.inl rfl)]
    refine ⟨by simp, by simp, fun x hx => ?_⟩
    have : x = c := by simpa using hx
    rw [this]; exact lexL_irrefl _
  · by_cases hl : lexL (rowC E c.1 c.2) s.2
    · rw [addC_new (.inr hl)]
      have hf : C.filter (fun x => decide (rowC E x.1 x.2 = rowC E c.1 c.2)) = [] := by
        rw [List.filter_eq_nil_iff]
        intro x hx e
        exact h4 x hx (by rw [of_decide_eq_true e]; exact hl)
      refine ⟨by simp, ?_, fun x hx => ?_⟩
      · show [c.1 ++ [c.2]] = ((C ++ [c]).filter (fun x => decide (rowC E x.1 x.2 = rowC E c.1 c.2))).map _
        rw [List.filter_append, hf]; simp
      · rcases List.mem_append.1 hx with e | e
        · exact fun k => h4 x e (lexL_trans k hl)
        · have : x = c := by simpa using e
          rw [this]; exact lexL_irrefl _
    · have hno : ¬ (s.1 = [] ∨ lexL (rowC E c.1 c.2) s.2) := fun k => k.elim h2 hl
      by_cases he : rowC E c.1 c.2 = s.2
      · rw [addC_same hno he]
        refine ⟨by simp, ?_, fun x hx => ?_⟩
        · show s.1 ++ [c.1 ++ [c.2]] = ((C ++ [c]).filter (fun x => decide (rowC E x.1 x.2 = s.2))).map _
          rw [List.filter_append, List.map_append, ← h3]; simp [he]
        · rcases List.mem_append.1 hx with e | e
          · exact h4 x e
          · have : x = c := by simpa using e
            rw [this]; exact hl
      · rw [addC_more hno he]
        refine ⟨h2, ?_, fun x hx => ?_⟩
        · rw [List.filter_append, List.map_append, ← h3]; simp [he]
        · rcases List.mem_append.1 hx with e | e
          · exact h4 x e
          · have : x = c := by simpa using e
            rw [this]; exact hl
theorem addI_fold {E : Nat → Nat → Bool} : ∀ (D C : List (List Nat × Nat)) (s : List (List Nat) × List Nat), AddI E C s → AddI E (C ++ D) (D.foldl (addC E) s)
  | [], C, s, h => by simpa using h
  | d :: D, C, s, h => by
    have := addI_fold D (C ++ [d]) _ (h.snoc d)
    rw [List.append_assoc] at this
    exact this

theorem exists_free : ∀ (n : Nat) (o : List Nat), o.length < n → ∃ v, v < n ∧ v ∉ o
  | 0, o, h => by omega
  | n + 1, o, h => by
    by_cases hn : n ∈ o
    · have h2 : (o.filter fun x => decide (x ≠ n)).length < o.length := by
        refine List.length_filter_lt_length_iff_exists.2 ⟨n, hn, by simp⟩
      obtain ⟨v, hv, hv2⟩ := exists_free n (o.filter fun x => decide (x ≠ n)) (by omega)
      exact ⟨v, by omega, fun k => hv2 (List.mem_filter.2 ⟨k, by simp; omega⟩)⟩
    · exact ⟨n, by omega, hn⟩

theorem flatMap_filter {α β : Type} (p : α → Bool) (f : α → List β) : ∀ l : List α, (l.flatMap fun a => if p a = true then f a else []) = (l.filter p).flatMap f
  | [] => rfl
  | a :: l => by
    rw [List.flatMap_cons, flatMap_filter p f l]
    by_cases h : p a = true
    · rw [if_pos h, List.filter_cons_of_pos h, List.flatMap_cons]
    · rw [if_neg h, List.filter_cons_of_neg h]; rfl

theorem flatMap_congr' {α β : Type} {f g : α → List β} : ∀ {l : List α}, (∀ a ∈ l, f a = g a) → l.flatMap f = l.flatMap g
  | [], _ => rfl
  | a :: l, h => by rw [List.flatMap_cons, List.flatMap_cons, h a (by simp), flatMap_congr' fun b hb => h b (by simp [hb])]

/-- What the reference keeps at k places: the orders of least code, in turn. -/
theorem levB_is (n : Nat) (E : Nat → Nat → Bool) : ∀ k, k ≤ n → ∃ m, levB n E k = ((levP n E k).filter fun p => decide (p.2 = m)).map (·.1) ∧ levB n E k ≠ [] ∧ (∀ p ∈ levP n E k, ¬ lexL p.2 m) ∧ m.length = codeL k
  | 0, _ => ⟨[], by simp [levB, levP], by simp [levB], fun p hp => by
      have : p = ([], []) := by simpa [levP] using hp
      rw [this]; exact lexL_irrefl _, rfl⟩
  | k + 1, hk => by
    obtain ⟨m, h1, h2, h3, h5⟩ := levB_is n E k (by omega)
    have hI := addI_fold (E := E) (candC n (levB n E k)) [] ([], []) (.inl ⟨rfl, rfl⟩)
    rw [List.nil_append] at hI
    have hB : levB n E (k + 1) = ((candC n (levB n E k)).foldl (addC E) ([], [])).1 := rfl
    rw [hB]
    generalize hs : (candC n (levB n E k)).foldl (addC E) ([], []) = s at hI ⊢
    have hmem : ∀ o ∈ levB n E k, ∃ p ∈ levP n E k, p.1 = o ∧ p.2 = m := by
      intro o ho
      rw [h1] at ho
      obtain ⟨p, hp, rfl⟩ := List.mem_map.1 ho
      obtain ⟨hp1, hp2⟩ := List.mem_filter.1 hp
      exact ⟨p, hp1, rfl, of_decide_eq_true hp2⟩
    have hC : candC n (levB n E k) ≠ [] := by
      obtain ⟨o, ho⟩ := List.exists_mem_of_ne_nil _ h2
      obtain ⟨p, hp, rfl, _⟩ := hmem o ho
      have hlen := (lev_ord n E k p hp).1.len
      obtain ⟨v, hv1, hv2⟩ := exists_free n p.1 (by omega)
      exact List.ne_nil_of_mem (List.mem_flatMap.2 ⟨p.1, ho, List.mem_map.2 ⟨v, mem_freeV.2 ⟨hv1, hv2⟩, rfl⟩⟩)
    rcases hI with ⟨e, _⟩ | ⟨_, k1, k2, k3⟩
    · exact absurd e hC
    have hlen2 : s.2.length = k := by
      obtain ⟨x, hx⟩ := List.exists_mem_of_ne_nil _ k1
      rw [k2] at hx
      obtain ⟨c, hc, _⟩ := List.mem_map.1 hx
      obtain ⟨hc1, hc2⟩ := List.mem_filter.1 hc
      obtain ⟨o, ho, hc1⟩ := List.mem_flatMap.1 hc1
      obtain ⟨v, _, rfl⟩ := List.mem_map.1 hc1
      rw [← of_decide_eq_true hc2, rowC_length]
      obtain ⟨p, hp, rfl, _⟩ := hmem o ho
      exact (lev_ord n E k p hp).1.len
    refine ⟨m ++ s.2, ?_, k1, ?_, by rw [List.length_append, h5, hlen2]; rfl⟩
    · rw [k2]
      show _ = (((levP n E k).flatMap (extP n E)).filter _).map _
      rw [List.filter_flatMap, List.map_flatMap]
      have e1 : ∀ p ∈ levP n E k, ((extP n E p).filter fun q => decide (q.2 = m ++ s.2)).map (·.1) = if decide (p.2 = m) = true then (((freeV n p.1).map fun v => (p.1, v)).filter fun c => decide (rowC E c.1 c.2 = s.2)).map (fun c => c.1 ++ [c.2]) else [] := by
        intro p hp
        have hl := (lev_ord n E k p hp).2
        by_cases h : p.2 = m
        · rw [if_pos (decide_eq_true h)]
          unfold extP
          rw [List.filter_map, List.map_map, List.filter_map, List.map_map]
          congr 1
          refine List.filter_congr fun v _ => ?_
          simp only [Function.comp, stepP, h]
          congr 1
          rw [List.append_cancel_left_eq]
        · rw [if_neg (by simpa using h)]
          have : (extP n E p).filter (fun q => decide (q.2 = m ++ s.2)) = [] := by
            rw [List.filter_eq_nil_iff]
            intro q hq e
            obtain ⟨v, _, rfl⟩ := List.mem_map.1 hq
            have e := of_decide_eq_true e
            exact h (List.append_inj_left e (by rw [hl, h5]))
          rw [this]; rfl
      rw [flatMap_congr' e1, flatMap_filter, candC, h1, List.flatMap_map, List.filter_flatMap, List.map_flatMap]
    · intro q hq
      obtain ⟨p, hp, hq⟩ := List.mem_flatMap.1 hq
      obtain ⟨v, hv, rfl⟩ := List.mem_map.1 hq
      have hl := (lev_ord n E k p hp).2
      intro hlt
      by_cases h : p.2 = m
      · simp only [stepP, h] at hlt
        rw [lexL_app] at hlt
        refine k3 (p.1, v) (List.mem_flatMap.2 ⟨p.1, ?_, List.mem_map.2 ⟨v, hv, rfl⟩⟩) hlt
        rw [h1]
        exact List.mem_map.2 ⟨p, List.mem_filter.2 ⟨hp, decide_eq_true h⟩, rfl⟩
      · have h6 : lexL m p.2 := Classical.byContradiction fun c => h (lexL_tri _ _ (h3 p hp) c)
        exact lexL_asymm (lexL_long s.2 (rowC E p.1 v) (by rw [h5, hl]) h6) hlt

/-- Both searches find the same order. -/
theorem search_same {n : Nat} {E : Nat → Nat → Bool} {r : PrC} (h : (compP n E n ([], [])).foldl better none = some r) : (levB n E n).head? = some r.1 ∧ OrdK n n r := by
  rw [comp_all] at h
  obtain ⟨m, h1, h2, h3, _⟩ := levB_is n E n (Nat.le_refl _)
  have hne : levP n E n ≠ [] := by
    intro e
    rw [e] at h1
    exact h2 (by rw [h1]; rfl)
  obtain ⟨m', r', k1, k2, k3⟩ := best_find (levP n E n) hne
  rw [h] at k2
  cases k2
  have hr := List.mem_of_find?_eq_some k3
  have hr2 : r.2 = m' := by simpa using List.find?_some k3
  have hm : m' = m := by
    obtain ⟨o, ho⟩ := List.exists_mem_of_ne_nil _ h2
    rw [h1] at ho
    obtain ⟨p, hp, _⟩ := List.mem_map.1 ho
    obtain ⟨hp1, hp2⟩ := List.mem_filter.1 hp
    have hp2 := of_decide_eq_true hp2
    exact lexL_tri _ _ (by rw [← hr2]; exact h3 r hr) (by rw [← hp2]; exact k1 p hp1)
  subst hm
  refine ⟨?_, (lev_ord n E n r hr).1⟩
  rw [h1, List.head?_map, List.head?_filter, k3]
  rfl
theorem search_some (n : Nat) (E : Nat → Nat → Bool) : ∃ r, (compP n E n ([], [])).foldl better none = some r := by
  obtain ⟨m, h1, h2, _⟩ := levB_is n E n (Nat.le_refl _)
  have hne : levP n E n ≠ [] := by
    intro e
    rw [e] at h1
    exact h2 (by rw [h1]; rfl)
  obtain ⟨_, r, _, k2, _⟩ := best_find (levP n E n) hne
  exact ⟨r, by rw [comp_all]; exact k2⟩

end Go.Proofs.YtiooindlpinjhaaDoor

/- Walks: the reference's rows of a code, and its test of a small graph. -/
namespace Go.Proofs.YtiooindlpinjhaaDoor
open Go.RowKit

/-- Edges of a graph, as a search of orders looks at them. -/
def edB (g : List (List Int)) : Nat → Nat → Bool := fun u v => decide ((v : Int) ∈ row g u)

set_option maxHeartbeats 400000 in
theorem l1Flag_any (b : Bool) (w : World) : Calls Tryd.prog 164 #[.bool b] w fun e w' => e = .returned (.int .i64 ((if b then 1 else 0 : Nat) : Int)) ∧ w = w' := by
  cases b
  · go_enter Tryd.func164, Tryd.ntmps164
    go_wp2
    go_ret
    exact ⟨rfl, rfl⟩
  · go_enter Tryd.func164, Tryd.ntmps164
    go_wp2
    go_ret
    exact ⟨rfl, rfl⟩

set_option maxRecDepth 100000 in
set_option maxHeartbeats 1000000 in
theorem l4Small_any (v : Value) (g : List (List Int)) (w : World) (hg : Gr w v g) :
    Calls Tryd.prog 82 #[v] w fun e w' => e = .returned (.bool (dec (GOk g ∧ g.length ≤ 8))) ∧ Below w.heap.size w w' := by
  have hg0 := hg
  obtain ⟨u, rfl, hr⟩ := hg
  obtain ⟨p, c, rfl, _, _, _⟩ := hr.shape
  have hbA := Lib.hid (below_alloc w (.cells #[.slice p g.length c] 28))
  have HG := Lib.hid (hg0.below hbA.out)
  have BX := Lib.hid (Box.new w (.slice p g.length c) 28)
  clear hr hg0
  by_cases hok : GOk g
  · have hd := dec_true hok
    have h16 := hok.le
    have Hok := Lib.hid hok
    clear hok
    by_cases h8 : g.length ≤ 8
    · have h8' : (g.length : Int) ≤ 8 := by omega
      have H8 := Lib.hid h8
      clear h8
      go_enter Tryd.func82, Tryd.ntmps82
      go_wp2_with (first
        | (go_at_call 45; refine (specGraphOk_any _ g _ HG.out).mono ?_; rintro e w2 ⟨rfl, hb2⟩; have hb := Lib.hid (hbA.out.trans (hb2.mono hbA.out.size)); have HG2 := Lib.hid (HG.out.below hb2); have hbx := (BX.out.keep hb2).cell; clear hb2)
        | (go_at_call 75; refine (l1Size_any _ g _ HG2.out).mono ?_; rintro e w3 ⟨rfl, hb3⟩))
      go_ret
      exact ⟨ret_bool (true_dec ⟨Hok.out, H8.out⟩), hb.out.trans (hb3.mono hb.out.size)⟩
    · have h8' : ¬ (g.length : Int) ≤ 8 := by omega
      have H8 := Lib.hid h8
      clear h8
      go_enter Tryd.func82, Tryd.ntmps82
      go_wp2_with (first
        | (go_at_call 45; refine (specGraphOk_any _ g _ HG.out).mono ?_; rintro e w2 ⟨rfl, hb2⟩; have hb := Lib.hid (hbA.out.trans (hb2.mono hbA.out.size)); have HG2 := Lib.hid (HG.out.below hb2); have hbx := (BX.out.keep hb2).cell; clear hb2)
        | (go_at_call 75; refine (l1Size_any _ g _ HG2.out).mono ?_; rintro e w3 ⟨rfl, hb3⟩))
      go_ret
      exact ⟨ret_bool ((decide_eq_false (by omega : ¬ (g.length : Int) ≤ 8)).trans (false_dec fun h => H8.out h.2)), hb.out.trans (hb3.mono hb.out.size)⟩
  · have hd := dec_false hok
    have Hok := Lib.hid hok
    clear hok
    go_enter Tryd.func82, Tryd.ntmps82
    go_wp2_with (go_at_call 45; refine (specGraphOk_any _ g _ HG.out).mono ?_; rintro e w2 ⟨rfl, hb2⟩; have hb := Lib.hid (hbA.out.trans (hb2.mono hbA.out.size)); clear hb2)
    go_ret
    exact ⟨ret_bool (false_dec fun h => Hok.out h.1), hb.out⟩

theorem rowC_take {E : Nat → Nat → Bool} {o : List Nat} {v k : Nat} (h : k < o.length) : rowC E (o.take (k + 1)) v = rowC E (o.take k) v ++ [if E o[k] v then 1 else 0] := by
  unfold rowC; rw [take_snoc' o k h, List.map_append]; rfl
theorem natInts_snoc (l : List Nat) (x : Nat) : natInts (l ++ [x]) = natInts l ++ [(x : Int)] := by simp [natInts]

end Go.Proofs.YtiooindlpinjhaaDoor
