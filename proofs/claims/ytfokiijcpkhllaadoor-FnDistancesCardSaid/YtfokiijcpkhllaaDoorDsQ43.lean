/- Plain: the greatest cliques, in the order in which both find them. -/
import Derived.Test.YtfokiijcpkhllaaDoorDsQ9
import Derived.Test.YtfokiijcpkhllaaDoorDsQ37
import Derived.Test.YtfokiijcpkhllaaDoorDsQ10
import Derived.Test.YtfokiijcpkhllaaDoorDsQ15
import Derived.Deep.RegionHeld3
import Derived.Deep.DeepCutAuto
import Derived.Test.YtfokiijcpkhllaaDoorDsQ7
import Derived.Test.YtfokiijcpkhllaaDoorDsQ26
import Derived.Test.YtfokiijcpkhllaaDoorDsQ2
import Derived.Test.YtfokiijcpkhllaaDoorDsQ28
namespace Go.Proofs.YtfokiijcpkhllaaDoor

/-- What is found with a set, those that are left, and those that may not come. -/
def clF (E : Nat → Nat → Bool) : Nat → List Nat → List Nat → List Nat → List (List Nat)
  | 0, _, _, _ => []
  | k + 1, set, left, out => if left = [] ∧ out = [] then [set] else
    (List.range left.length).flatMap fun i => clF E k (set ++ [left.getD i 0]) ((left.drop (i + 1)).filter (E (left.getD i 0))) ((out ++ left.take i).filter (E (left.getD i 0)))
def clTo (E : Nat → Nat → Bool) (k : Nat) (set left out : List Nat) (m : Nat) : List (List Nat) :=
  (List.range m).flatMap fun i => clF E k (set ++ [left.getD i 0]) ((left.drop (i + 1)).filter (E (left.getD i 0))) ((out ++ left.take i).filter (E (left.getD i 0)))
theorem clTo_zero (E : Nat → Nat → Bool) (k : Nat) (set left out : List Nat) : clTo E k set left out 0 = [] := rfl
theorem clTo_succ (E : Nat → Nat → Bool) (k : Nat) (set left out : List Nat) (m : Nat) :
    clTo E k set left out (m + 1) = clTo E k set left out m ++ clF E k (set ++ [left.getD m 0]) ((left.drop (m + 1)).filter (E (left.getD m 0))) ((out ++ left.take m).filter (E (left.getD m 0))) := by
  simp [clTo, List.range_succ, List.flatMap_append]
theorem clF_one (E : Nat → Nat → Bool) (k : Nat) (set : List Nat) : clF E (k + 1) set [] [] = [set] := by simp [clF]
theorem clF_none (E : Nat → Nat → Bool) (k : Nat) (set out : List Nat) (h : out ≠ []) : clF E (k + 1) set [] out = [] := by simp [clF, h]
theorem clF_more (E : Nat → Nat → Bool) (k : Nat) (set left out : List Nat) (h : ¬ (left = [] ∧ out = [])) : clF E (k + 1) set left out = clTo E k set left out left.length := by
  rw [clF, if_neg h]
  rfl

theorem clF_len (E : Nat → Nat → Bool) : ∀ (k : Nat) (set left out : List Nat), (clF E k set left out).length ≤ 2 ^ left.length
  | 0, _, _, _ => Nat.zero_le _
  | k + 1, set, left, out => by
    by_cases h : left = [] ∧ out = []
    · obtain ⟨rfl, rfl⟩ := h
      rw [clF_one]
      exact Nat.le_refl _
    · rw [clF_more E k set left out h]
      have main : ∀ i, i ≤ left.length → (clTo E k set left out i).length + 2 ^ (left.length - i) ≤ 2 ^ left.length := by
        intro i
        induction i with
        | zero => intro _; rw [clTo_zero]; simp
        | succ i ih =>
          intro hi
          have h1 := ih (by omega)
          have h2 := clF_len E k (set ++ [left.getD i 0]) ((left.drop (i + 1)).filter (E (left.getD i 0))) ((out ++ left.take i).filter (E (left.getD i 0)))
          have h3 : ((left.drop (i + 1)).filter (E (left.getD i 0))).length ≤ left.length - (i + 1) := Nat.le_trans (List.length_filter_le _ _) (by rw [List.length_drop]; omega)
          have h4 := Nat.pow_le_pow_right (show 0 < 2 by decide) h3
          have h5 : 2 ^ (left.length - i) = 2 ^ (left.length - (i + 1)) * 2 := by
            rw [show left.length - i = left.length - (i + 1) + 1 by omega, Nat.pow_succ]
          rw [clTo_succ, List.length_append]
          omega
      exact Nat.le_trans (Nat.le_add_right _ _) (main left.length (Nat.le_refl _))
theorem clTo_len {E : Nat → Nat → Bool} {k : Nat} {set left out : List Nat} : ∀ {i : Nat}, i ≤ left.length → (clTo E k set left out i).length + 2 ^ (left.length - i) ≤ 2 ^ left.length
  | 0, _ => by rw [clTo_zero]; simp
  | i + 1, hi => by
    have h1 := clTo_len (E := E) (k := k) (set := set) (left := left) (out := out) (i := i) (by omega)
    have h2 := clF_len E k (set ++ [left.getD i 0]) ((left.drop (i + 1)).filter (E (left.getD i 0))) ((out ++ left.take i).filter (E (left.getD i 0)))
    have h3 : ((left.drop (i + 1)).filter (E (left.getD i 0))).length ≤ left.length - (i + 1) := Nat.le_trans (List.length_filter_le _ _) (by rw [List.length_drop]; omega)
    have h4 := Nat.pow_le_pow_right (show 0 < 2 by decide) h3
    have h5 : 2 ^ (left.length - i) = 2 ^ (left.length - (i + 1)) * 2 := by
      rw [show left.length - i = left.length - (i + 1) + 1 by omega, Nat.pow_succ]
    rw [clTo_succ, List.length_append]
    omega

theorem lexL_app : ∀ (s a b : List Nat), lexL (s ++ a) (s ++ b) ↔ lexL a b
  | [], _, _ => Iff.rfl
  | x :: s, a, b => by
    simp only [List.cons_append, lexL]
    rw [lexL_app s a b]
    exact ⟨fun h => h.elim (fun h => absurd h (Nat.lt_irrefl _)) fun h => h.2, fun h => .inr ⟨trivial, h⟩⟩

/-- Each goes on from the set by some that are left, in their order. -/
theorem clF_mem (E : Nat → Nat → Bool) : ∀ (k : Nat) (set left out : List Nat), left.Pairwise (· < ·) → ∀ x ∈ clF E k set left out, ∃ T, x = set ++ T ∧ T.Pairwise (· < ·) ∧ ∀ y ∈ T, y ∈ left
  | 0, _, _, _, _, _, h => by simp [clF] at h
  | k + 1, set, left, out, hr, x, h => by
    by_cases hh : left = [] ∧ out = []
    · obtain ⟨rfl, rfl⟩ := hh
      rw [clF_one] at h
      obtain rfl : x = set := by simpa using h
      exact ⟨[], by simp, by simp, by simp⟩
    · rw [clF_more E k set left out hh, clTo, List.mem_flatMap] at h
      obtain ⟨i, hi, h⟩ := h
      rw [List.mem_range] at hi
      have hg : left.getD i 0 = left[i] := by simp [hi]
      rw [hg] at h
      obtain ⟨T, rfl, h1, h2⟩ := clF_mem E k _ _ _ ((hr.sublist (List.drop_sublist _ _)).filter _) x h
      refine ⟨left[i] :: T, by simp, List.pairwise_cons.2 ⟨fun y hy => ?_, h1⟩, fun y hy => ?_⟩
      · have hm := (List.mem_filter.1 (h2 y hy)).1
        obtain ⟨j, hj, rfl⟩ := List.getElem_of_mem hm
        rw [List.length_drop] at hj
        rw [List.getElem_drop]
        exact List.pairwise_iff_getElem.1 hr i (i + 1 + j) hi (by omega) (by omega)
      · rcases List.mem_cons.1 hy with rfl | hy
        · exact List.getElem_mem hi
        · exact List.mem_of_mem_drop (List.mem_filter.1 (h2 y hy)).1
theorem clF_sorted (E : Nat → Nat → Bool) : ∀ (k : Nat) (set left out : List Nat), left.Pairwise (· < ·) → (clF E k set left out).Pairwise lexL
  | 0, _, _, _, _ => by simp [clF]
  | k + 1, set, left, out, hr => by
    by_cases hh : left = [] ∧ out = []
    · obtain ⟨rfl, rfl⟩ := hh
      rw [clF_one]
      simp
    · rw [clF_more E k set left out hh, clTo, List.pairwise_flatMap]
      refine ⟨fun i hi => clF_sorted E k _ _ _ ((hr.sublist (List.drop_sublist _ _)).filter _), ?_⟩
      refine List.Pairwise.imp_of_mem (fun {i j} hi hj hij x hx y hy => ?_) List.pairwise_lt_range
      rw [List.mem_range] at hi hj
      obtain ⟨T, rfl, _⟩ := clF_mem E k _ _ _ ((hr.sublist (List.drop_sublist _ _)).filter _) x hx
      obtain ⟨U, rfl, _⟩ := clF_mem E k _ _ _ ((hr.sublist (List.drop_sublist _ _)).filter _) y hy
      have h1 : left.getD i 0 = left[i] := by simp [hi]
      have h2 : left.getD j 0 = left[j] := by simp [hj]
      rw [List.append_assoc, List.append_assoc, lexL_app, h1, h2]
      exact .inl (List.pairwise_iff_getElem.1 hr i j hi hj hij)

/-- What CliquesOf finds. -/
def clsP (n : Nat) (E : Nat → Nat → Bool) : List (List Nat) := clF E (n + 1) [] (List.range n) []
theorem clsP_len (n : Nat) (E : Nat → Nat → Bool) : (clsP n E).length ≤ 2 ^ n := by
  have := clF_len E (n + 1) [] (List.range n) []
  rwa [List.length_range] at this
theorem clsP_mem {n : Nat} {E : Nat → Nat → Bool} {x : List Nat} (h : x ∈ clsP n E) : x.Pairwise (· < ·) ∧ ∀ y ∈ x, y < n := by
  obtain ⟨T, rfl, h1, h2⟩ := clF_mem E _ _ _ _ List.pairwise_lt_range x h
  exact ⟨by simpa using h1, fun y hy => List.mem_range.1 (h2 y (by simpa using hy))⟩
theorem clsP_sorted (n : Nat) (E : Nat → Nat → Bool) : (clsP n E).Pairwise lexL := clF_sorted E _ _ _ _ List.pairwise_lt_range

/-- -1, 0, 1: how two lists stand to each other. -/
noncomputable def cmpL (a b : List Nat) : Int := open Classical in if lexL a b then -1 else if lexL b a then 1 else 0
theorem cmpL_lt {a b : List Nat} : cmpL a b < 0 ↔ lexL a b := by
  unfold cmpL
  by_cases h : lexL a b
  · rw [if_pos h]; exact ⟨fun _ => h, fun _ => by decide⟩
  · rw [if_neg h]
    refine ⟨fun k => ?_, fun k => absurd k h⟩
    split at k <;> exact absurd k (by decide)

/-- A sorted arrangement of what was sorted strictly is the same. -/
theorem sorted_same {α : Type} (lt : α → α → Prop) (hirr : ∀ x, ¬ lt x x) (htr : ∀ {x y z}, lt x y → lt y z → lt x z) : ∀ (l m : List α), l.Perm m → l.Pairwise lt → m.Pairwise (fun x y => ¬ lt y x) → l = m
  | [], m, hp, _, _ => (List.Perm.nil_eq hp)
  | a :: l, [], hp, _, _ => absurd hp.length_eq (by simp)
  | a :: l, b :: m, hp, hl, hm => by
    have hab : a = b := by
      have h1 : b ∈ a :: l := hp.mem_iff.2 (by simp)
      have h2 : a ∈ b :: m := hp.mem_iff.1 (by simp)
      rcases List.mem_cons.1 h1 with h | h1
      · exact h.symm
      · rcases List.mem_cons.1 h2 with h | h2
        · exact h
        · exact absurd ((List.pairwise_cons.1 hl).1 b h1) ((List.pairwise_cons.1 hm).1 a h2)
    subst hab
    rw [sorted_same lt hirr htr l m hp.cons_inv hl.of_cons hm.of_cons]

end Go.Proofs.YtfokiijcpkhllaaDoor

/- Walks: l8Meet, l1All (the reference's cliques). -/
namespace Go.Proofs.YtfokiijcpkhllaaDoor
open Go.RowKit

set_option maxRecDepth 100000 in
set_option maxHeartbeats 1000000 in
theorem l1All_any (z : Int) (n : Nat) (hz : z = n) (hn : n ≤ 1000) (w : World) :
    Calls Tryd.prog 62 #[.int .i64 z] w fun e w' => ∃ ov, e = .returned ov ∧ w'.ownsRow w.heap.size 2 1 ov n ((natInts (List.range n)).map (Value.int .i64)) ∧ Below w.heap.size w w' := by
  subst hz
  have HO := Lib.hid (ownsRow_empty w 2 1)
  have HB := Lib.hid (below_alloc w (.cells #[] 2))
  go_enter Tryd.func62, Tryd.ntmps62
  go_wp2
  go_loopw [3, 4] (fun o i wr => ∃ k : Nat, k ≤ n ∧ i = .int .i64 k ∧ wr.ownsRow w.heap.size 2 1 o k ((natInts (List.range k)).map (Value.int .i64)) ∧ Below w.heap.size w wr) (fun _ i _ => n - (intOf i).toNat)
  case atStart => exact ⟨0, Nat.zero_le _, rfl, HO.out, HB.out⟩
  case round =>
    obtain ⟨k, hk, rfl, hown, hbel⟩ := hrel
    have hsz := hbel.size
    by_cases hlt : k < n
    · go_wp2_with (at_builtin; refine wpList_app1 ty_i64 rfl rfl rfl hown rfl rfl (by omega) (by omega) ?_; intro v' w1 hown' hg _)
      go_roundw
      case rel => exact ⟨k + 1, by omega, by go_num, by rw [List.range_succ, show natInts (List.range k ++ [k]) = natInts (List.range k) ++ [(k : Int)] by simp [natInts], List.map_append]; exact hown', below_grown hbel hown hg (Nat.le_refl _) hsz⟩
      case measure => simp [intOf]; omega
    · obtain rfl : k = n := by omega
      go_wp2
      go_ret
      exact ⟨_, rfl, hown, hbel⟩

theorem nums_at {w : World} {E : TypeId} {p : Option Addr} {m c : Nat} {xs : List Int} (h : Nums w E .i64 (.slice p m c) xs) : At w E p (xs.map (Value.int .i64)) := by
  obtain ⟨p', c', e, _, _, _, hat⟩ := h
  simp only [Value.slice.injEq] at e
  obtain ⟨rfl, _, _⟩ := e
  exact hat
/-- Those of xs that are in ys, up to the k-th. -/
def meetL (xs : List Nat) (ys : List Int) (k : Nat) : List Nat := (xs.take k).filter fun j => decide ((j : Int) ∈ ys)
theorem meetL_succ {xs : List Nat} {ys : List Int} {k : Nat} (h : k < xs.length) : meetL xs ys (k + 1) = if ((xs[k] : Nat) : Int) ∈ ys then meetL xs ys k ++ [xs[k]] else meetL xs ys k := by
  unfold meetL
  rw [take_snoc _ k h, List.filter_append]
  by_cases hm : ((xs[k] : Nat) : Int) ∈ ys
  · rw [if_pos hm]; simp [hm]
  · rw [if_neg hm]; simp [hm]
theorem meetL_len (xs : List Nat) (ys : List Int) (k : Nat) : (meetL xs ys k).length ≤ xs.length := Nat.le_trans (List.length_filter_le _ _) (by rw [List.length_take]; omega)

set_option maxRecDepth 100000 in
set_option maxHeartbeats 1000000 in
theorem l8Meet_any (u v : Value) (xs : List Nat) (ys : List Int) (hl : xs.length ≤ 1000) (w : World) (hx : Nums w 2 .i64 u (natInts xs)) (hy : Nums w 2 .i64 v ys) :
    Calls Tryd.prog 150 #[u, v] w fun e w' => ∃ ov, e = .returned ov ∧ w'.ownsRow w.heap.size 2 1 ov (meetL xs ys xs.length).length ((natInts (meetL xs ys xs.length)).map (Value.int .i64)) ∧ Below w.heap.size w w' := by
  have HX := Lib.hid hx
  have HY := Lib.hid hy
  obtain ⟨p, c, rfl, hp, _, hn, _⟩ := hx
  rw [natInts_length] at hn
  have HO := Lib.hid (ownsRow_empty w 2 1)
  have HB := Lib.hid (below_alloc w (.cells #[] 2))
  clear hy
  simp only [natInts_length] at *
  go_enter Tryd.func150, Tryd.ntmps150
  go_wp2
  go_loopw [5, 6] (fun o i wr => ∃ k : Nat, k ≤ xs.length ∧ i = .int .i64 k ∧ wr.ownsRow w.heap.size 2 1 o (meetL xs ys k).length ((natInts (meetL xs ys k)).map (Value.int .i64)) ∧ Below w.heap.size w wr) (fun _ i _ => xs.length - (intOf i).toNat)
  case atStart => exact ⟨0, Nat.zero_le _, rfl, HO.out, HB.out⟩
  case round =>
    obtain ⟨k, hk, rfl, hown, hbel⟩ := hrel
    have hsz := hbel.size
    have hml := meetL_len xs ys k
    by_cases hlt : k < xs.length
    · have hms := Lib.hid (meetL_succ (ys := ys) hlt)
      obtain ⟨b, o1, rfl, hcell⟩ := (nums_at (HX.out.below hbel)).num (k := k) (by rw [natInts_length]; exact hlt)
      rw [natInts_atL hlt] at hcell
      have e0 : (0 : Int) ≤ (k : Int) := by omega
      have e1 : (k : Int) < (xs.length : Int) := by omega
      generalize hV : xs[k]'hlt = v at hcell hms
      clear hV
      have HC := Lib.hid hown
      by_cases hin : (v : Int) ∈ ys
      · have hd := dec_true hin
        have hms2 := Lib.hid (hms.out.trans (if_pos hin))
        clear hin
        go_wp2_with (first
          | (go_at_call 66; refine (l1Has_any _ ys _ _ (HY.out.below hbel)).mono ?_; rintro e w4 ⟨he4, hw4⟩; rw [hd] at he4; subst he4; subst hw4)
          | (at_builtin; refine wpList_app1 ty_i64 rfl rfl rfl HC.out rfl rfl (by omega) (by omega) ?_; intro v' w1 hown' hg _))
        go_roundw
        case rel => exact ⟨k + 1, by omega, by go_num, by rw [hms2.out, show natInts (meetL xs ys k ++ [v]) = natInts (meetL xs ys k) ++ [(v : Int)] by simp [natInts], List.map_append, List.length_append]; exact hown', below_grown hbel HC.out hg (Nat.le_refl _) hsz⟩
        case measure => simp [intOf]; omega
      · have hd := dec_false hin
        have hms2 := Lib.hid (hms.out.trans (if_neg hin))
        clear hin
        go_wp2_with (go_at_call 66; refine (l1Has_any _ ys _ _ (HY.out.below hbel)).mono ?_; rintro e w4 ⟨he4, hw4⟩; rw [hd] at he4; subst he4; subst hw4)
        go_roundw
        case rel => exact ⟨k + 1, by omega, by go_num, by rw [hms2.out]; exact HC.out, hbel⟩
        case measure => simp [intOf]; omega
    · obtain rfl : k = xs.length := by omega
      go_wp2
      go_ret
      exact ⟨_, rfl, hown, hbel⟩

end Go.Proofs.YtfokiijcpkhllaaDoor

/- Walks: a copy of a graph; the neighbours that are left. -/
namespace Go.Proofs.YtfokiijcpkhllaaDoor
open Go.RowKit

theorem box_stepB {w wr wc w7 : World} {B k b7 c8 : Nat} {ov x rv : Value} {vals : List Value}
    (hbel : Below B w wr) (hsz : B + 2 ≤ wr.heap.size) (hbc : Below wr.heap.size wr wc)
    (hb2 : Box wr B 29 x) (hb3 : Box wr (B + 1) 29 ov) (hown : wr.ownsRow (B + 2) 32 1 ov k vals)
    (hown7 : w7.ownsRow (B + 2) 32 1 (.slice (some ⟨b7, 0, none⟩) (k + 1) c8) (k + 1) (vals ++ [rv])) (hg7 : wc.grownBy w7 ov.ownBlock) :
    ∃ W, W = w7.setCell ⟨B + 1, 0, none⟩ (.slice (some ⟨b7, 0, none⟩) (k + 1) c8) ∧
      Below B w W ∧ B + 2 ≤ W.heap.size ∧ Box W B 29 x ∧ Box W (B + 1) 29 (.slice (some ⟨b7, 0, none⟩) (k + 1) c8) ∧ W.ownsRow (B + 2) 32 1 (.slice (some ⟨b7, 0, none⟩) (k + 1) c8) (k + 1) (vals ++ [rv]) ∧
      (∀ base size n v (xs : List Value), wc.ownsRow base 2 size v n xs → W.ownsRow base 2 size v n xs) := by
  have hownc := ownsRow_below hown hbc
  have hszc := hbc.size
  have hsz7 := hg7.size
  have hb7 : Below (B + 2) wc w7 := below_grown (Below.refl _ _) hownc hg7 (Nat.le_refl _) (by omega)
  have hb37 : Box w7 (B + 1) 29 ov := (hb3.keep hbc).below hb7 (by omega)
  have hb9 : Below (B + 1) w7 (w7.setCell ⟨B + 1, 0, none⟩ (.slice (some ⟨b7, 0, none⟩) (k + 1) c8)) := (Below.refl _ _).setCell (by show B + 1 ≤ B + 1; omega) _
  have hall : Below (B + 1) wr (w7.setCell ⟨B + 1, 0, none⟩ (.slice (some ⟨b7, 0, none⟩) (k + 1) c8)) := ((hbc.mono (by omega)).trans (hb7.mono (by omega))).trans hb9
  refine ⟨_, rfl, hbel.trans (hall.mono (by omega)), by have := hall.size; omega, hb2.below hall (by omega), hb37.set _, ownsRow_setBox hown7 hb37 (by decide) _, fun base size n v xs h => ?_⟩
  exact ownsRow_setBox (ownsRow_other h hownc hg7 (by decide)) hb37 (by decide) _

theorem three_boxes (w : World) (u : Value) : ∃ W, W = ((w.alloc (.cells #[u] 29)).alloc (.cells #[.slice none 0 0] 29)).alloc (.cells #[.slice none 0 0] 29) ∧ Below w.heap.size w W ∧ W.heap.size = w.heap.size + 3 ∧
    Box W w.heap.size 29 u ∧ Box W (w.heap.size + 1) 29 (.slice none 0 0) ∧ Box W (w.heap.size + 1 + 1) 29 (.slice none 0 0) := by
  refine ⟨_, rfl, below_alloc3 _ _ _ _, by rw [size_alloc, size_alloc, size_alloc], ((Box.new w _ _).alloc _).alloc _, ?_, ?_⟩
  · have := (Box.new (w.alloc (.cells #[u] 29)) (.slice none 0 0) 29).alloc (.cells #[.slice none 0 0] 29)
    rw [size_alloc] at this
    exact this
  · have := Box.new ((w.alloc (.cells #[u] 29)).alloc (.cells #[.slice none 0 0] 29)) (.slice none 0 0) 29
    rw [size_alloc, size_alloc] at this
    exact this

set_option maxRecDepth 100000 in
set_option maxHeartbeats 4000000 in
theorem l1CopyGraph_any (v : Value) (g : List (List Int)) (hl : g.length ≤ 1000) (hrl : ∀ j, (row g j).length ≤ 1000) (w : World) (hg : Gr w v g) :
    Calls Tryd.prog 143 #[v] w fun e w' => ∃ u, e = .returned u ∧ SG w' w.heap.size u g ∧ Below w.heap.size w w' := by
  obtain ⟨u, rfl, hr⟩ := hg
  obtain ⟨p, c, rfl, _⟩ := hr.shape
  have START := Lib.hid (three_boxes w (.slice p g.length c))
  have HR := Lib.hid hr
  have HRL := Lib.hid hrl
  clear hr hrl
  go_enter Tryd.func143, Tryd.ntmps143
  go_upto_region 3 with fail
  go_loopw [4] (fun i wr => ∃ (k : Nat) (ov : Value) (vals : List Value), k ≤ g.length ∧ i = .int .i64 k ∧ Below w.heap.size w wr ∧ Below (w.heap.size + 1) wr wr ∧ w.heap.size + 1 + 2 ≤ wr.heap.size ∧ Box wr w.heap.size 29 (.slice p g.length c) ∧
      Box wr (w.heap.size + 1) 29 (.slice none 0 0) ∧ Box wr (w.heap.size + 1 + 1) 29 ov ∧ wr.ownsRow (w.heap.size + 1 + 2) 32 1 ov k vals ∧ vals.length = k ∧
      ∀ j, j < k → wr.ownsRow (w.heap.size + 1 + 2) 2 1 (vals.getD j undef) (row g j).length ((row g j).map (Value.int .i64)))
    (fun i _ => g.length - (intOf i).toNat)
  case atStart =>
    obtain ⟨W, rfl, h1, h2, h3, h4, h5⟩ := START.out
    exact ⟨0, _, [], Nat.zero_le _, rfl, h1, Below.refl _ _, by omega, h3, h4, h5, World.ownsRow_nil _ _ _ _, rfl, fun j hj => by omega⟩
  case round =>
    obtain ⟨k, ov, vals, hk, rfl, hbel, _, hsz, hbx, hb2, hb3, hown, hvl, hrows⟩ := hrel
    have Hvl := Lib.hid hvl
    have Hrows := Lib.hid hrows
    have Hb2 := Lib.hid hb2
    have Hb3 := Lib.hid hb3
    have Hbx := Lib.hid hbx
    have Hown := Lib.hid hown
    have cbx := hbx.cell
    obtain ⟨p9, c9, rfl⟩ : ∃ p c, ov = .slice p k c := by
      rcases hown.2 with ⟨h1, h2⟩ | ⟨g1, cap, cur, h1, _⟩
      · exact ⟨none, 0, by rw [h1, h2]⟩
      · exact ⟨_, _, h1⟩
    clear hvl hrows hb3 hb2 hown hbx
    by_cases hlt : k < g.length
    · obtain ⟨b, o, rp, rc, rfl, hcell, hnums⟩ := (HR.out.below hbel).get hlt
      change wr.cell? _ = some (.slice rp (row g k).length rc) at hcell
      change Nums wr _ _ (.slice rp (row g k).length rc) (row g k) at hnums
      have Hnums := Lib.hid hnums
      obtain ⟨c3, f3, _, _⟩ := Hb3.out
      obtain ⟨m, hm⟩ : ∃ m, m = (row g k).length := ⟨_, rfl⟩
      have Hm := Lib.hid hm
      have hrk := HRL.out k
      rw [← hm] at hcell Hnums hrk
      clear hnums hm
      go_upto_region 5 with fail
      go_region_law (first
        | (go_simp; go_at_call 127; refine (l1Copy_any _ m ((row g k).map (Value.int .i64)) (fun x hx => by obtain ⟨y, _, rfl⟩ := List.mem_map.1 hx; rfl) (by rw [List.length_map]; exact Hm.out.symm) _ (Sl.below (show Sl wr 2 (.slice rp m rc) m _ from (by have h := Hnums.out; unfold Nums at h; rw [← Hm.out] at h; exact h)) (below_dN (Below.refl _ _) 1))).mono ?_; rintro e w5 ⟨rv, rfl, hown5, hb5⟩; obtain ⟨rvp, rvc, hrv⟩ : ∃ p c, rv = .slice p m c := (by rcases hown5.2 with ⟨rfl, h0⟩ | ⟨b, c, _, rfl, _⟩; exact ⟨none, 0, by rw [h0]⟩; exact ⟨_, _, rfl⟩); subst hrv; have hb5' : Below wr.heap.size wr w5 := ⟨hb5.os, hb5.tape, hb5.output, hb5.size, hb5.block⟩; have hown5' : w5.ownsRow wr.heap.size 2 1 (.slice rvp m rvc) m ((row g k).map (Value.int .i64)) := hown5; have hownc := ownsRow_below Hown.out hb5'; have hs5 := hb5'.size; have hbx5 := hb5'.at' c3; have hbx5a := fun o => (below_alloc w5 o).at' hbx5; have hcx5 := hb5'.at' cbx; have hcx5a := fun o => (below_alloc w5 o).at' hcx5; have hcl5 := hb5'.at' hcell; clear hb5 hown5)
        | (refine step_app1s ty_rows rfl rfl rfl hownc rfl rfl (by omega) (by omega) ?_; intro b7 c8 w7 hown7 hg7; have hb7 := below_grown (Below.refl (w.heap.size + 1 + 2) w5) hownc hg7 (Nat.le_refl _) (by omega); have hob7 := hb7.at (by omega) hbx5; have hof7 := (hb7.frozen (p := ⟨w.heap.size + 1 + 1, 0, none⟩) (by show w.heap.size + 1 + 1 < _; omega)).trans ((hb5'.frozen (p := ⟨w.heap.size + 1 + 1, 0, none⟩) (by show w.heap.size + 1 + 1 < _; omega)).trans f3)))
      all_goals go_wp2
      all_goals go_roundw
      all_goals first
        | (simp [intOf]; omega)
        | skip
      all_goals
        have hb0 : Below (w.heap.size + 1) wr wr := Below.refl _ _
        obtain ⟨W, hW, r1, r2, r3, r4, r5, r6⟩ := box_stepB hb0 hsz hb5' Hb2.out Hb3.out Hown.out hown7 hg7
        subst hW
        have hbW : Below w.heap.size w _ := hbel.trans (r1.mono (by omega))
        refine ⟨k + 1, _, _, by omega, by go_num, hbW, Below.refl _ _, r2, Hbx.out.below r1 (by omega), r3, r4, r5, by simp [Hvl.out], fun j hj => ?_⟩
        by_cases e : j = k
        · subst e
          rw [show (vals ++ [Value.slice rvp m rvc]).getD j undef = .slice rvp m rvc from by rw [← Hvl.out]; exact getD_append_last _ _ _]
          rw [← Hm.out]
          exact ownsRow_base (r6 _ _ _ _ _ hown5') (by omega)
        · rw [getD_append_left _ _ _ _ (by have := Hvl.out; omega)]
          exact r6 _ _ _ _ _ (ownsRow_below (Hrows.out j (by omega)) hb5')
    · obtain rfl : k = g.length := by omega
      obtain ⟨k2c, k2f, _⟩ := Hb2.out
      obtain ⟨k3c, k3f, _⟩ := Hb3.out
      go_wp2
      refine bodyPost_ret (v := .agg #[.slice p9 g.length c9]) (by simp [results, Tryd.results143, go_sem, k2c]) rfl ⟨_, rfl, ⟨_, vals, rfl, Hvl.out, ?_, fun j hj => ?_⟩, ?_⟩
      · exact ownsRow_base (ownsRow_setBox Hown.out Hb2.out (by decide) _) (by omega)
      · exact Nums.of_owns (ownsRow_setBox (Hrows.out j hj) Hb2.out (by decide) _) rfl (by have := HRL.out j; omega)
      · exact hbel.setCell (by show w.heap.size ≤ w.heap.size + 1; omega) _

end Go.Proofs.YtfokiijcpkhllaaDoor

/- Two boxes. -/
namespace Go.Proofs.YtfokiijcpkhllaaDoor
open Go.RowKit

theorem two_boxesM (w : World) (a b : Value) (T1 T2 : TypeId) : ∃ W, W = (w.alloc (.cells #[a] T1)).alloc (.cells #[b] T2) ∧ Below w.heap.size w W ∧ W.heap.size = w.heap.size + 2 ∧ Box W w.heap.size T1 a ∧ Box W (w.heap.size + 1) T2 b := by
  have h2 := Box.new (w.alloc (.cells #[a] T1)) b T2
  rw [size_alloc] at h2
  exact ⟨_, rfl, below_alloc2 _ _ _, by rw [size_alloc, size_alloc], (Box.new w a T1).alloc _, h2⟩

end Go.Proofs.YtfokiijcpkhllaaDoor

/- Walk: the reference's CutVertex, of a right graph of two vertices at least. -/
namespace Go.Proofs.YtfokiijcpkhllaaDoor
open Go.RowKit

set_option maxRecDepth 100000 in
theorem l1ThereM_any (v : Value) (g : List (List Int)) (x : Int) (w : World) (hg : Gr w v g) (hn : g.length ≤ 1000000000) :
    Calls Tryd.prog 59 #[v, .int .i64 x] w fun e w' => e = .returned (.bool (dec (0 ≤ x ∧ x < g.length))) ∧ Below w.heap.size w w' := by
  have hg0 := hg
  obtain ⟨u, rfl, hr⟩ := hg
  obtain ⟨p, c, rfl, _⟩ := hr.shape
  have hbA := Lib.hid (below_alloc w (.cells #[.slice p g.length c] 29))
  have HG := Lib.hid (hg0.below hbA.out)
  clear hr hg0
  go_enter Tryd.func59, Tryd.ntmps59
  go_wp2_with (first
    | (go_at_call 101; refine (l1In_any _ _ _ _).mono ?_; rintro e w3 ⟨rfl, rfl⟩)
    | (go_at_call 60; refine (l1Size_any _ g _ HG.out).mono ?_; rintro e w2 ⟨rfl, hb2⟩))
  go_ret
  exact ⟨ret_bool (dec_congr (by omega)), hbA.out.trans (hb2.mono hbA.out.size)⟩

theorem gok_rowsMn {g : List (List Int)} (hok : GOk g) (j : Nat) : (row g j).length ≤ 16 := by
  have h16 := hok.le
  by_cases hj : j < g.length
  · have := setIn_length (by omega) (hok.sets j hj).1
    omega
  · have : row g j = [] := by simp [row, List.getElem?_eq_none (show g.length ≤ j by omega)]
    rw [this]; exact Nat.zero_le _
set_option maxRecDepth 100000 in
set_option maxHeartbeats 1000000 in
theorem l2Without_any (v : Value) (L : List Nat) (z : Int) (y : Nat) (hz : z = y) (hl : L.length ≤ 1000) (w : World) (hn : Nums w 2 .i64 v (natInts L)) :
    Calls Tryd.prog 61 #[v, .int .i64 z] w fun e w' => ∃ u, e = .returned u ∧ w'.ownsRow w.heap.size 2 1 u (L.filter fun x => x != y).length ((natInts (L.filter fun x => x != y)).map (Value.int .i64)) ∧ Below w.heap.size w w' := by
  subst hz
  obtain ⟨lp, lc, rfl, _⟩ := id hn.shape
  rw [natInts_length]
  have HN := Lib.hid hn
  have START := Lib.hid (ownsRow_empty w 2 1)
  clear hn
  go_enter Tryd.func61, Tryd.ntmps61
  go_wp2_with fail
  go_loopw [5, 6] (fun ov iv wr => ∃ k : Nat, k ≤ L.length ∧ iv = .int .i64 k ∧ wr.ownsRow w.heap.size 2 1 ov ((L.take k).filter fun x => x != y).length ((natInts ((L.take k).filter fun x => x != y)).map (Value.int .i64)) ∧ Below w.heap.size w wr) (fun _ iv _ => L.length - (intOf iv).toNat)
  case atStart => exact ⟨0, Nat.zero_le _, rfl, START.out, below_alloc _ _⟩
  case round =>
    clear START
    obtain ⟨k, hk, rfl, hown, hb⟩ := hrel
    have HO := Lib.hid hown
    have HB := Lib.hid hb
    by_cases hlt : k < L.length
    · obtain ⟨qb, qo, rfl, hq⟩ := Nums.get (k := k) (by have := HN.out.below hb; rw [natInts_length] at this; exact this) (by rw [natInts_length]; exact hlt)
      have e1 : (natInts L)[k]'(by rw [natInts_length]; exact hlt) = ((L[k] : Nat) : Int) := by simp [natInts]
      rw [e1] at hq
      have hT : L.take (k + 1) = L.take k ++ [L[k]] := take_snoc' L k hlt
      generalize L[k] = x at hq hT
      obtain ⟨F, hF⟩ : ∃ F, F = (L.take k).filter fun x => x != y := ⟨_, rfl⟩
      have hFl : F.length ≤ 1000 := by
        rw [hF]
        have := List.length_filter_le (fun x => x != y) (L.take k)
        rw [List.length_take] at this
        omega
      rw [← hF] at HO
      have HFE := Lib.hid hF
      obtain ⟨fl, hfl⟩ : ∃ fl, fl = F.length := ⟨_, rfl⟩
      have HFL := Lib.hid hfl
      rw [← hfl] at HO hFl
      have HT := Lib.hid hT
      clear hown hb e1 hT hF hfl
      by_cases hxy : x = y
      · have hne : ((x : Int) != (y : Int)) = false := by rw [hxy]; simp
        have HK : Hid ((L.take (k + 1)).filter (fun x => x != y) = F) := Lib.hid (by rw [HT.out, List.filter_append, HFE.out]; simp [hxy])
        clear hxy
        go_wp2_with fail
        go_roundw
        case rel => exact ⟨k + 1, by omega, by go_num, by rw [HK.out, ← HFL.out]; exact HO.out, HB.out⟩
        case measure => simp [intOf]; omega
      · have hne : ((x : Int) != (y : Int)) = true := bne_iff_ne.2 (by omega)
        have HK : Hid ((L.take (k + 1)).filter (fun x => x != y) = F ++ [x]) := Lib.hid (by rw [HT.out, List.filter_append, HFE.out]; simp [hxy])
        clear hxy
        go_wp2_with (at_builtin; refine wpList_app1s ty_i64 rfl rfl rfl HO.out rfl rfl (by omega) HB.out.size ?_; intro b7 c7 w7 hown7 hg7 _)
        go_roundw
        case rel => exact ⟨k + 1, by omega, by go_num, by rw [HK.out, List.length_append, ← HFL.out]; simpa [natInts] using hown7, below_grown HB.out HO.out hg7 (Nat.le_refl _) HB.out.size⟩
        case measure => simp [intOf]; omega
    · obtain rfl : k = L.length := by omega
      rw [List.take_length] at HO
      clear hown hb
      go_wp2_with fail
      go_ret
      exact ⟨_, rfl, HO.out, HB.out⟩

set_option maxRecDepth 100000 in
set_option maxHeartbeats 4000000 in
theorem specCutVertex_yes (v : Value) (g : List (List Int)) (z : Int) (b : Nat) (hz : z = b) (hok : GOk g) (hb : b < g.length) (h2 : 2 ≤ g.length) (w : World) (hg : Gr w v g) :
    Calls Tryd.prog 16 #[v, .int .i64 z] w fun e w' => ∃ u, e = .returned (.tuple #[u, .bool true]) ∧ SG w' w.heap.size u (indL g (natInts (restN g.length b))) ∧ Below w.heap.size w w' := by
  subst hz
  have hg0 := hg
  obtain ⟨u, rfl, hr⟩ := hg
  obtain ⟨p, c, rfl, _⟩ := hr.shape
  obtain ⟨W0, hW0, hbA, SZ0, B0, B1⟩ := two_boxesM w (.slice p g.length c) (.slice none 0 0) 29 29
  have HBA := Lib.hid hbA
  have HG := Lib.hid (hg0.below hbA)
  have HX0 := Lib.hid B0
  have HX1 := Lib.hid B1
  have h16 := hok.le
  have HD := Lib.hid (dec_true hok)
  have HDB := Lib.hid (dec_true (show (0 : Int) ≤ (b : Int) ∧ (b : Int) < g.length from ⟨by omega, by omega⟩))
  have hn1 : ((g.length : Int) == 1) = false := beq_eq_false_iff_ne.2 (by omega)
  have hsym := indE_sym hok (l := natInts (restN g.length b)) fun x hx => by
    obtain ⟨i, hi, rfl⟩ := mem_natInts.1 hx
    have := (mem_restN.1 hi).1
    omega
  have HSY := Lib.hid hsym
  have HLT : Hid (∀ x ∈ natInts (restN g.length b), 0 ≤ x ∧ x < g.length) := Lib.hid (fun x hx => by
    obtain ⟨i, hi, rfl⟩ := mem_natInts.1 hx
    have := (mem_restN.1 hi).1
    omega)
  have HRE : Hid ((List.range g.length).filter (fun x => x != b) = restN g.length b) := Lib.hid rfl
  have HRL : Hid ((restN g.length b).length ≤ 16) := Lib.hid (Nat.le_trans (List.length_filter_le _ _) (by rw [List.length_range]; exact h16))
  clear hr hg0 hok hbA B0 B1 hsym SZ0
  go_enter Tryd.func16, Tryd.ntmps16
  go_upto_region 1 with fail
  rw [← hW0]
  clear hW0
  have c0 := HX0.out.cell
  go_upto_region 3 with (first
    | (go_at_call 50; refine (specGraphOk_any _ g _ HG.out).mono ?_; rintro e w2 ⟨he, hb2⟩; rw [HD.out] at he; subst he; have c2 := hb2.at' c0)
    | (go_at_call 59; refine (l1ThereM_any _ g (b : Int) _ (HG.out.below hb2) (by omega)).mono ?_; rintro e w3 ⟨he, hb3⟩; rw [HDB.out] at he; subst he; have c3 := hb3.at' c2)
    | (go_at_call 60; refine (l1Size_any _ g _ ((HG.out.below hb2).below hb3)).mono ?_; rintro e w4 ⟨rfl, hb4⟩; have c4 := hb4.at' c3))
  have HB4 : Hid (Below W0.heap.size W0 w4) := Lib.hid ((hb2.trans (hb3.mono hb2.size)).trans (hb4.mono (Nat.le_trans hb2.size hb3.size)))
  have HG4 := Lib.hid (HG.out.below HB4.out)
  obtain ⟨nc, nf, nl, nB⟩ := HX1.out.keep HB4.out
  have cr := c4
  have nlt := HX1.out.lt
  have s4 := HB4.out.size
  clear hb2 hb3 hb4 c0 c2 c3 hn1 c4
  go_region_held3 (fun W => W.cell? ⟨w.heap.size, 0, none⟩ = some (.slice p g.length c))
    (first | exact cr | go_keep | exact BWD.at' cr | exact BWC.at' cr | exact BWB.at' cr | exact BWA.at' cr | exact (World.cell?_setCell_far _ _ _ _ (by show w.heap.size + 1 ≠ w.heap.size; omega)).trans (BWD.at' cr))
    (first
      | (go_at_call 60; refine (l1Size_any _ g _ (HG4.out.below (below_dN (Below.refl _ _) 1))).mono ?_; rintro e wa ⟨rfl, hbq⟩; have BWA : Below w4.heap.size w4 wa := (below_dN (Below.refl _ _) 1).trans hbq; clear hbq)
      | (go_at_call 62; refine (l1All_any _ g.length rfl (by omega) _).mono ?_; rintro e wb ⟨av, rfl, ho, hbq⟩; have HNA : Hid (Nums wb 2 .i64 av (natInts (List.range g.length))) := Lib.hid (Nums.of_owns ho (by rw [natInts_length, List.length_range]) (by omega)); have BWB : Below w4.heap.size w4 wb := BWA.trans (hbq.mono BWA.size); clear hbq ho)
      | (go_at_call 61; refine (l2Without_any _ (List.range g.length) _ b rfl (by rw [List.length_range]; omega) _ HNA.out).mono ?_; rintro e wc ⟨lv, rfl, ho, hbq⟩; rw [HRE.out] at ho; have HNL : Hid (Nums wc 2 .i64 lv (natInts (restN g.length b))) := Lib.hid (Nums.of_owns ho (by rw [natInts_length]) (by have := HRL.out; omega)); have BWC : Below w4.heap.size w4 wc := BWB.trans (hbq.mono BWB.size); clear hbq ho)
      | (go_at_call 57; refine (l2Of_any _ _ g (natInts (restN g.length b)) HLT.out (by rw [natInts_length]; have := HRL.out; omega) HSY.out _ (HG4.out.below BWC) HNL.out).mono ?_; rintro e wd ⟨u, rfl, hs, hbq⟩; obtain ⟨up, uc, rfl⟩ := hs.shape; have HSD := Lib.hid hs; have BWD : Below w4.heap.size w4 wd := BWC.trans (hbq.mono BWC.size); have nc4 := BWD.at' nc; have nB4 := (Box.keep ⟨nc, nf, nl, nB⟩ BWD); have nf4 := nB4.free; clear hbq hs))
  all_goals go_wp2
  have e0 := HBA.out.size
  refine bodyPost_ret (v := .tuple #[.agg #[.slice up (indL g (natInts (restN g.length b))).length uc], .bool true]) (by simp [results, Tryd.results16, go_sem, nc4]) rfl ⟨_, rfl, (HSD.out.setBox nB4 _).base (by have := BWC.size; omega), ?_⟩
  exact ((HBA.out.trans (HB4.out.mono e0)).trans (BWD.mono (by omega))).setCell (by show w.heap.size ≤ w.heap.size + 1; omega) _

end Go.Proofs.YtfokiijcpkhllaaDoor
