/- Walks: l8Meet, l1All (the reference's cliques). -/
import Derived.Test.YtmakhapdlkbbnaaDoorQmQ18
import Derived.Test.YtmakhapdlkbbnaaDoorQmQ15
import Derived.Test.YtmakhapdlkbbnaaDoorQmQ10
import Derived.Deep.RegionHeld3
import Derived.Deep.DeepCutAuto
import Derived.Test.YtmakhapdlkbbnaaDoorQmQ27
import Derived.Test.YtmakhapdlkbbnaaDoorQmQ20
import Derived.Test.YtmakhapdlkbbnaaDoorQmQ29
import Derived.Test.YtmakhapdlkbbnaaDoorQmQ39
namespace Go.Proofs.YtmakhapdlkbbnaaDoor
open Go.RowKit

set_option maxRecDepth 100000 in
set_option maxHeartbeats 1000000 in
theorem l1All_any (z : Int) (n : Nat) (hz : z = n) (hn : n ≤ 1000) (w : World) :
    Calls Tryd.prog 100 #[.int .i64 z] w fun e w' => ∃ ov, e = .returned ov ∧ w'.ownsRow w.heap.size 2 1 ov n ((natInts (List.range n)).map (Value.int .i64)) ∧ Below w.heap.size w w' := by
  subst hz
  have HO := Lib.hid (ownsRow_empty w 2 1)
  have HB := Lib.hid (below_alloc w (.cells #[] 2))
  go_enter Tryd.func100, Tryd.ntmps100
  go_wp2
  go_loopw [3, 4] (fun o i wr => ∃ k : Nat, k ≤ n ∧ i = .int .i64 k ∧ wr.ownsRow w.heap.size 2 1 o k ((natInts (List.range k)).map (Value.int .i64)) ∧ Below w.heap.size w wr) (fun _ i _ => n - (intOf i).toNat)
  case atStart => exact ⟨0, Nat.zero_le _, rfl, HO.out, HB.out⟩
  case round =>
    obtain ⟨k, hk, rfl, hown, hbel⟩ := hrel
    have hsz := hbel.size
    by_cases hlt : k < n
    · go_wp2_with (at_builtin; refine wpList_app1 ty_i64 rfl rfl rfl hown rfl rfl (by omega) (by omega) ?_; intro v' w1 hown' hg _)
      go_roundw
      case rel => exact ⟨k + 1, by omega, by go_num, by rw [List.range_succ, show natInts (List.range k ++ [k]) = natInts (List.range k) ++ [(k : Int)] by simp [natInts], List.map_append]; exact hown', below_grown hbel hown hg (Nat.le_refl _) hsz⟩
      case measure => simp [intOf]; omega
    · obtain rfl : k = n := by omega
      go_wp2
      go_ret
      exact ⟨_, rfl, hown, hbel⟩

theorem nums_at {w : World} {E : TypeId} {p : Option Addr} {m c : Nat} {xs : List Int} (h : Nums w E .i64 (.slice p m c) xs) : At w E p (xs.map (Value.int .i64)) := by
  obtain ⟨p', c', e, _, _, _, hat⟩ := h
  simp only [Value.slice.injEq] at e
  obtain ⟨rfl, _, _⟩ := e
  exact hat
/-- Those of xs that are in ys, up to the k-th. -/
def meetL (xs : List Nat) (ys : List Int) (k : Nat) : List Nat := (xs.take k).filter fun j => decide ((j : Int) ∈ ys)
theorem meetL_succ {xs : List Nat} {ys : List Int} {k : Nat} (h : k < xs.length) : meetL xs ys (k + 1) = if ((xs[k] : Nat) : Int) ∈ ys then meetL xs ys k ++ [xs[k]] else meetL xs ys k := by
  unfold meetL
  rw [take_snoc _ k h, List.filter_append]
  by_cases hm : ((xs[k] : Nat) : Int) ∈ ys
  · rw [if_pos hm]; simp [hm]
  · rw [if_neg hm]; simp [hm]
theorem meetL_len (xs : List Nat) (ys : List Int) (k : Nat) : (meetL xs ys k).length ≤ xs.length := Nat.le_trans (List.length_filter_le _ _) (by rw [List.length_take]; omega)

end Go.Proofs.YtmakhapdlkbbnaaDoor

/- Walks: the reference's CoverOf (printed in part by wip/mkCvS.py). -/
namespace Go.Proofs.YtmakhapdlkbbnaaDoor
open Go.RowKit

theorem natInts_snocS (l : List Nat) (x : Nat) : natInts (l ++ [x]) = natInts l ++ [(x : Int)] := by simp [natInts]
theorem touch_nat {g : List (List Int)} {a b : List Nat} : TouchP g (natInts a) (natInts b) ↔ ∃ x ∈ a, x ∈ b ∨ ∃ t ∈ b, (x : Int) ∈ row g t := by
  unfold TouchP
  constructor
  · rintro ⟨x, hx, h⟩
    obtain ⟨i, hi, rfl⟩ := mem_natInts.1 hx
    refine ⟨i, hi, ?_⟩
    rcases h with h | ⟨y, hy, h⟩
    · obtain ⟨j, hj, e⟩ := mem_natInts.1 h
      obtain rfl : j = i := by omega
      exact .inl hj
    · obtain ⟨j, hj, rfl⟩ := mem_natInts.1 hy
      exact .inr ⟨j, hj, by simpa using h⟩
  · rintro ⟨i, hi, h⟩
    refine ⟨(i : Int), mem_natInts.2 ⟨i, hi, rfl⟩, ?_⟩
    rcases h with h | ⟨j, hj, h⟩
    · exact .inl (mem_natInts.2 ⟨i, h, rfl⟩)
    · exact .inr ⟨(j : Int), mem_natInts.2 ⟨j, hj, rfl⟩, by simpa using h⟩

theorem setIn_len16 {g : List (List Int)} (hg : GOk g) {s : List Int} (h : SetIn g.length s) : s.length ≤ 16 := by
  have h1 := setIn_length (by omega) h
  have := hg.le
  omega

end Go.Proofs.YtmakhapdlkbbnaaDoor

/- Walks: the reference's sets of so many numbers, and its CoverOf. -/
namespace Go.Proofs.YtmakhapdlkbbnaaDoor
open Go.RowKit

/-- One set of rows more. -/
theorem SG.snocS {w w' : World} {base : Nat} {u u' rv : Value} {g : List (List Int)} {s : List Int} {vals : List Value} (hl : vals.length = g.length) (ho : w.ownsRow base 36 1 u g.length vals) (hr : ∀ j, j < g.length → Nums w 2 .i64 (vals.getD j undef) (row g j))
    (ho' : w'.ownsRow base 36 1 u' (g.length + 1) (vals ++ [rv])) (hg : w.grownBy w' u.ownBlock) (hn : Nums w 2 .i64 rv s) : SG w' base (.agg #[u']) (g ++ [s]) := by
  refine ⟨u', vals ++ [rv], rfl, by simp [hl], by rw [List.length_append]; exact ho', fun j hj => ?_⟩
  rw [List.length_append] at hj
  simp only [List.length_cons, List.length_nil] at hj
  by_cases h : j < g.length
  · rw [getD_append_left _ _ _ _ (by omega)]
    have e : row (g ++ [s]) j = row g j := by simp [row, List.getElem?_append_left h]
    rw [e]
    exact (hr j h).other ho hg (by decide)
  · have hj' : j = g.length := by omega
    subst hj'
    have e : row (g ++ [s]) g.length = s := by simp [row]
    rw [e, ← hl, getD_append_last]
    exact hn.other ho hg (by decide)

def partE (o : List Nat) (v : Nat) : List (List Nat) := ((List.range v).filter fun u => decide (lastp o ≤ u)).map fun u => o ++ [u]
theorem partE_start (o : List Nat) : partE o (lastp o) = [] := by
  unfold partE
  rw [List.map_eq_nil_iff, List.filter_eq_nil_iff]
  intro u hu e
  have h1 := List.mem_range.1 hu
  have h2 := of_decide_eq_true e
  omega
theorem partE_succ {o : List Nat} {v : Nat} (h : lastp o ≤ v) : partE o (v + 1) = partE o v ++ [o ++ [v]] := by simp [partE, List.range_succ, h]
theorem partE_end (n : Nat) (o : List Nat) : partE o n = extS n o := rfl
theorem partE_len (o : List Nat) (v : Nat) : (partE o v).length ≤ v := by
  unfold partE
  rw [List.length_map]
  exact Nat.le_trans (List.length_filter_le _ _) (by simp)
theorem flat_len {n : Nat} : ∀ B : List (List Nat), (B.flatMap (extS n)).length ≤ B.length * n
  | [] => by simp
  | o :: B => by
    have h1 := flat_len (n := n) B
    have h2 := partE_len o n
    rw [partE_end] at h2
    rw [List.flatMap_cons, List.length_append, List.length_cons, Nat.add_mul]
    omega
theorem lastp_at {o : List Nat} (h : 0 < o.length) : lastp o = o[o.length - 1]'(by omega) + 1 := by
  rcases snoc_or o with rfl | ⟨o', x, rfl⟩
  · simp at h
  · rw [lastp_snoc]; simp

end Go.Proofs.YtmakhapdlkbbnaaDoor

/- Walk: the reference's model of a model. -/
namespace Go.Proofs.YtmakhapdlkbbnaaDoor
open Go.RowKit

/-- A union that grows: of the sets of some indices, and of a part of one more. -/
structure UnI (n : Nat) (M : List (List Int)) (L P S : List Int) : Prop where
  set : SetIn n S
  mem : ∀ x, x ∈ S ↔ (∃ j ∈ L, x ∈ row M j.toNat) ∨ x ∈ P
theorem UnI.start (n : Nat) (M : List (List Int)) : UnI n M [] [] [] := ⟨setIn_nil _, fun x => by simp⟩
theorem setIn_into {n : Int} {s : List Int} (h : SetIn n s) {v : Int} (h0 : 0 ≤ v) (hn : v < n) : SetIn n (intoL s v) :=
  ⟨fun x hx => by
    rcases mem_intoL.1 hx with h1 | rfl
    · exact h.1 x h1
    · exact ⟨h0, hn⟩, intoL_rising h.2⟩
theorem UnI.put {n : Nat} {M : List (List Int)} {L P S : List Int} {y : Int} (h : UnI n M L P S) (h0 : 0 ≤ y) (hn : y < n) : UnI n M L (P ++ [y]) (intoL S y) := by
  refine ⟨setIn_into h.set h0 hn, fun x => ?_⟩
  rw [mem_intoL, h.mem, List.mem_append, List.mem_singleton, or_assoc]
theorem UnI.next {n : Nat} {M : List (List Int)} {L S : List Int} {j : Int} (h : UnI n M L (row M j.toNat) S) : UnI n M (L ++ [j]) [] S := by
  refine ⟨h.set, fun x => ?_⟩
  rw [h.mem]
  constructor
  · rintro (⟨k, h1, h2⟩ | h1)
    · exact .inl ⟨k, List.mem_append_left _ h1, h2⟩
    · exact .inl ⟨j, by simp, h1⟩
  · rintro (⟨k, h1, h2⟩ | h1)
    · rcases List.mem_append.1 h1 with h3 | h3
      · exact .inl ⟨k, h3, h2⟩
      · obtain rfl : k = j := by simpa using h3
        exact .inr h2
    · simp at h1
theorem UnI.len {n : Nat} {M : List (List Int)} {L P S : List Int} (h : UnI n M L P S) (hn : n ≤ 16) : S.length ≤ 16 := by
  have := setIn_length (by omega) h.set
  omega

/-- The sets so far. -/
def CmpTo (n : Nat) (M W R : List (List Int)) (k : Nat) : Prop := R.length = k ∧ ∀ i, i < k → UnI n M (row W i) [] (row R i)
theorem CmpTo.snoc {n : Nat} {M W R : List (List Int)} {k : Nat} {S : List Int} (h : CmpTo n M W R k) (hS : UnI n M (row W k) [] S) : CmpTo n M W (R ++ [S]) (k + 1) := by
  refine ⟨by simp [h.1], fun i hi => ?_⟩
  by_cases e : i < k
  · have e2 : row (R ++ [S]) i = row R i := by simp [row, List.getElem?_append_left (show i < R.length by rw [h.1]; exact e)]
    rw [e2]; exact h.2 i e
  · obtain rfl : i = k := by omega
    have e2 : row (R ++ [S]) i = S := by rw [← h.1]; simp [row]
    rw [e2]; exact hS
theorem CmpTo.all {n : Nat} {M W R : List (List Int)} (h : CmpTo n M W R W.length) : CmpS M W R := ⟨h.1, fun i hi => ⟨(h.2 i hi).set.2, fun x => by rw [(h.2 i hi).mem]; simp⟩⟩
theorem CmpTo.row_le {n : Nat} {M W R : List (List Int)} (h : CmpTo n M W R W.length) (hn : n ≤ 16) (j : Nat) : (row R j).length ≤ 16 := by
  by_cases e : j < W.length
  · exact (h.2 j e).len hn
  · have : row R j = [] := by simp [row, List.getElem?_eq_none (show R.length ≤ j by rw [h.1]; omega)]
    rw [this]; exact Nat.zero_le _

theorem SG.setM {w : World} {base b : Nat} {v x : Value} {g : List (List Int)} (h : SG w base v g) (hb : Box w b 54 x) (u : Value) : SG (w.setCell ⟨b, 0, none⟩ u) base v g := by
  obtain ⟨u', vals, h1, h2, h3, h4⟩ := h
  exact ⟨u', vals, h1, h2, ownsRow_setBox h3 hb (by decide) u, fun j hj => (h4 j hj).setBox hb (by decide) u⟩
theorem SG.baseM {w : World} {base base' : Nat} {v : Value} {g : List (List Int)} (h : SG w base v g) (hb : base' ≤ base) : SG w base' v g := by
  obtain ⟨u', vals, e, h2, h3, h4⟩ := h
  exact ⟨u', vals, e, h2, ownsRow_base h3 hb, h4⟩

/-- The model that grows in its box. -/
structure CmI (W0 wr : World) (B : Nat) (ov : Value) (R : List (List Int)) : Prop where
  bel : Below W0.heap.size W0 wr
  box : Box wr B 54 ov
  sg : SG wr (B + 1) (.agg #[ov]) R
  lo : W0.heap.size ≤ B
theorem CmI.next {W0 wr w' : World} {B : Nat} {ov : Value} {R : List (List Int)} (h : CmI W0 wr B ov R) (hb : Below wr.heap.size wr w') : CmI W0 w' B ov R :=
  ⟨h.bel.trans (hb.mono h.bel.size), h.box.keep hb, h.sg.below hb, h.lo⟩
theorem CmI.start {W0 w : World} (hb : Below W0.heap.size W0 w) : CmI W0 (w.alloc (.cells #[.slice none 0 0] 54)) w.heap.size (.slice none 0 0) [] :=
  ⟨hb.alloc hb.size _, Box.new _ _ _, ⟨_, [], rfl, rfl, World.ownsRow_nil _ _ _ _, fun j hj => by simp at hj⟩, hb.size⟩
theorem CmI.shape {W0 wr : World} {B : Nat} {ov : Value} {R : List (List Int)} (h : CmI W0 wr B ov R) : ∃ p c, ov = .slice p R.length c := by
  obtain ⟨p, c, e⟩ := h.sg.shape
  cases e
  exact ⟨p, c, rfl⟩
theorem CmI.vals {W0 wr : World} {B : Nat} {ov : Value} {R : List (List Int)} (h : CmI W0 wr B ov R) : ∃ vals : List Value, vals.length = R.length ∧ wr.ownsRow (B + 1) 36 1 ov R.length vals ∧ ∀ j, j < R.length → Nums wr 2 .i64 (vals.getD j undef) (row R j) := by
  obtain ⟨u, vals, e, h1, h2, h3⟩ := h.sg
  cases e
  exact ⟨vals, h1, h2, h3⟩
theorem CmI.grown {W0 wr w7 : World} {B : Nat} {ov : Value} {R : List (List Int)} {vals : List Value} (h : CmI W0 wr B ov R) (ho : wr.ownsRow (B + 1) 36 1 ov R.length vals) (hg : wr.grownBy w7 ov.ownBlock) : Below (B + 1) wr w7 ∧ Box w7 B 54 ov := by
  have hlt := h.box.lt
  have hb7 : Below (B + 1) wr w7 := below_grown (Below.refl _ _) ho hg (Nat.le_refl _) hlt
  exact ⟨hb7, h.box.below hb7 (Nat.lt_succ_self _)⟩
theorem CmI.put {W0 wr w7 : World} {B : Nat} {ov ov' rv : Value} {R : List (List Int)} {S : List Int} {vals : List Value} (h : CmI W0 wr B ov R) (hl : vals.length = R.length) (ho : wr.ownsRow (B + 1) 36 1 ov R.length vals) (hr : ∀ j, j < R.length → Nums wr 2 .i64 (vals.getD j undef) (row R j))
    (ho' : w7.ownsRow (B + 1) 36 1 ov' (R.length + 1) (vals ++ [rv])) (hg : wr.grownBy w7 ov.ownBlock) (hn : Nums wr 2 .i64 rv S) : CmI W0 (w7.setCell ⟨B, 0, none⟩ ov') B ov' (R ++ [S]) := by
  obtain ⟨hb7, hbx⟩ := h.grown ho hg
  have hlo := h.lo
  refine ⟨(h.bel.trans (hb7.mono (by omega))).setCell (by show W0.heap.size ≤ B; exact hlo) _, hbx.set _, ?_, hlo⟩
  exact (SG.snocS hl ho hr ho' hg hn).setM hbx _

theorem six_boxesM (w : World) (a b c d e f : Value) (T1 T2 T3 T4 T5 T6 : TypeId) : ∃ W, W = (((((w.alloc (.cells #[a] T1)).alloc (.cells #[b] T2)).alloc (.cells #[c] T3)).alloc (.cells #[d] T4)).alloc (.cells #[e] T5)).alloc (.cells #[f] T6) ∧ Below w.heap.size w W ∧ W.heap.size = w.heap.size + 6 ∧
    Box W w.heap.size T1 a ∧ Box W (w.heap.size + 1) T2 b ∧ Box W (w.heap.size + 2) T3 c ∧ Box W (w.heap.size + 3) T4 d ∧ Box W (w.heap.size + 4) T5 e ∧ Box W (w.heap.size + 5) T6 f := by
  obtain ⟨W1, h1, k1, k2, k3, k4, k5⟩ := three_boxesM w a b c T1 T2 T3
  obtain ⟨W2, h2, l1, l2, l3, l4, l5⟩ := three_boxesM W1 d e f T4 T5 T6
  rw [k2] at l1 l2 l3 l4 l5
  have l1' : Below W1.heap.size W1 W2 := by rw [k2]; exact l1
  exact ⟨W2, by rw [h2, h1], k1.trans (l1.mono (by omega)), by omega, k3.keep l1', k4.keep l1', k5.keep l1', l3, l4, l5⟩

end Go.Proofs.YtmakhapdlkbbnaaDoor

/- Walk: the reference's ComposedModel. -/
namespace Go.Proofs.YtmakhapdlkbbnaaDoor
open Go.RowKit

theorem sg_nilM (w : World) (base : Nat) : SG w base (.agg #[.slice none 0 0]) [] := ⟨_, [], rfl, rfl, World.ownsRow_nil _ _ _ _, fun j hj => by simp at hj⟩

end Go.Proofs.YtmakhapdlkbbnaaDoor

/- Walk: the program's ComposedModel. -/
namespace Go.Proofs.YtmakhapdlkbbnaaDoor
open Go.RowKit

theorem DG.setMm {w : World} {base b : Nat} {v x : Value} {g : List (List Int)} (h : DG w base v g) (hb : Box w b 54 x) (u : Value) : DG (w.setCell ⟨b, 0, none⟩ u) base v g := by
  obtain ⟨u0, vals, h1, h2, h3, h4⟩ := h
  exact ⟨u0, vals, h1, h2, ownsRow_setBox h3 hb (by decide) _, ⟨fun j hj => ownsRow_setBox (h4.rows j hj) hb (by decide) _, h4.dis⟩⟩
theorem dg_nilM (w : World) (base : Nat) : DG w base (.agg #[.slice none 0 0]) [] := ⟨_, [], rfl, rfl, World.ownsRow_nil _ _ _ _, ⟨fun j hj => by simp at hj, fun i j hi => by simp at hi⟩⟩

/-- A union of sets, as a mask. -/
def UbI (M : List (List Int)) (L : List Int) (s : Nat) : Prop := s < 65536 ∧ ∀ y, s.testBit y = true ↔ ∃ k ∈ L, (y : Int) ∈ row M k.toNat
theorem UbI.start (M : List (List Int)) : UbI M [] 0 := ⟨by decide, fun y => by simp⟩
theorem UbI.put {M : List (List Int)} {L : List Int} {s m : Nat} {j : Int} (h : UbI M L s) (h0 : ∀ x ∈ row M j.toNat, 0 ≤ x ∧ x < 16) (hm : m = mask (row M j.toNat)) : UbI M (L ++ [j]) (s ||| m) := by
  have hm16 : m < 65536 := by rw [hm]; exact mask_lt16 _ fun x hx => (h0 x hx).2
  refine ⟨Nat.or_lt_two_pow (n := 16) h.1 hm16, fun i => ?_⟩
  rw [Nat.testBit_or, Bool.or_eq_true, h.2, hm, bit_mask fun x hx => (h0 x hx).1]
  constructor
  · rintro (⟨a, ha, h1⟩ | h1)
    · exact ⟨a, List.mem_append_left _ ha, h1⟩
    · exact ⟨j, by simp, h1⟩
  · rintro ⟨a, ha, h1⟩
    rcases List.mem_append.1 ha with e | e
    · exact .inl ⟨a, e, h1⟩
    · obtain rfl : a = j := by simpa using e
      exact .inr h1
def CmuTo (M W : List (List Int)) (a : List Nat) (k : Nat) : Prop := a.length = k ∧ ∀ j, j < k → UbI M (row W j) (a.getD j 0)
theorem CmuTo.snoc {M W : List (List Int)} {a : List Nat} {k s : Nat} (h : CmuTo M W a k) (hs : UbI M (row W k) s) : CmuTo M W (a ++ [s]) (k + 1) := by
  refine ⟨by simp [h.1], fun j hj => ?_⟩
  by_cases e : j < k
  · have e2 : (a ++ [s]).getD j 0 = a.getD j 0 := by simp [List.getD_eq_getElem?_getD, List.getElem?_append_left (show j < a.length by rw [h.1]; exact e)]
    rw [e2]; exact h.2 j e
  · obtain rfl : j = k := by omega
    have e2 : (a ++ [s]).getD j 0 = s := by rw [← h.1]; simp [List.getD_eq_getElem?_getD]
    rw [e2]; exact hs
theorem CmuTo.lt {M W : List (List Int)} {a : List Nat} {k : Nat} (h : CmuTo M W a k) : ∀ s ∈ a, s < 65536 := fun s hs => by
  obtain ⟨j, hj, rfl⟩ := List.getElem_of_mem hs
  have := (h.2 j (by rw [← h.1]; exact hj)).1
  simpa [List.getD_eq_getElem?_getD, hj] using this
theorem CmuTo.all {M W : List (List Int)} {a : List Nat} (h : CmuTo M W a W.length) (hM : ∀ j, ∀ x ∈ row M j, 0 ≤ x) : CmpS M W (rowsOf a) := by
  refine ⟨by rw [rowsOf_length]; exact h.1, fun i hi => ?_⟩
  have hia : i < a.length := by rw [h.1]; exact hi
  have hu := h.2 i hi
  have e : a.getD i 0 = a[i] := by simp [List.getD_eq_getElem?_getD, hia]
  rw [e] at hu
  rw [row_rowsOf hia]
  refine ⟨natInts_rising (bitsOf_rising _), fun x => ?_⟩
  rw [mem_natInts]
  constructor
  · rintro ⟨y, hy, rfl⟩
    exact (hu.2 y).1 ((mem_left hu.1).1 hy)
  · rintro ⟨k, hk, hx⟩
    have hx0 := hM _ x hx
    have ex : ((x.toNat : Nat) : Int) = x := by omega
    exact ⟨x.toNat, (mem_left hu.1).2 ((hu.2 _).2 ⟨k, hk, by rw [ex]; exact hx⟩), ex⟩
theorem row_rows_le {a : List Nat} (h : ∀ s ∈ a, s < 65536) (j : Nat) : (row (rowsOf a) j).length ≤ 16 := by
  by_cases e : j < a.length
  · rw [row_rowsOf e, natInts_length]
    exact nodup_le 16 _ ((bitsOf_rising _).imp fun h => Nat.ne_of_lt h) fun x hx => by
      have h1 := h _ (List.getElem_mem e)
      have h2 := (mem_left h1).1 hx
      exact Classical.byContradiction fun k => by
        have := Nat.testBit_lt_two_pow (Nat.lt_of_lt_of_le h1 (Nat.le_trans (by decide : 65536 ≤ 2 ^ 16) (Nat.pow_le_pow_right (n := 2) (Nat.succ_pos 1) (show 16 ≤ x by omega))))
        rw [h2] at this; cases this
  · have : row (rowsOf a) j = [] := by simp [row, rowsOf, List.getElem?_eq_none (show a.length ≤ j by omega)]
    rw [this]; exact Nat.zero_le _

set_option maxRecDepth 100000 in
set_option maxHeartbeats 4000000 in
theorem implComposedModel_any (v pv mv qv wv : Value) (g p M q W : List (List Int)) (hgl : g.length ≤ 1000000000) (hpl : p.length ≤ 1000000000) (w : World) (hg : Gr w v g) (hp : Gr w pv p) (hm : Gr w mv M) (hq : Gr w qv q) (hw : Gr w wv W) (hT : Tab w) :
    Calls Tryd.prog 54 #[v, pv, mv, qv, wv] w fun e w' => ∃ (u : Value) (R : List (List Int)) (ok : Bool), e = .returned (.tuple #[u, .bool ok]) ∧ CmS g p M q W R ok ∧ DG w' w.heap.size u R ∧ R.length ≤ 16 ∧ (∀ j, (row R j).length ≤ 16) ∧ Below w.heap.size w w' := by
  have hg0 := Lib.hid hg
  have hp0 := Lib.hid hp
  have hm0 := Lib.hid hm
  have hq0 := Lib.hid hq
  have hw0 := Lib.hid hw
  obtain ⟨_, rfl, hr⟩ := hg
  obtain ⟨ga, gc, rfl, _⟩ := hr.shape
  obtain ⟨_, rfl, hr⟩ := hp
  obtain ⟨pa, pc, rfl, _⟩ := hr.shape
  obtain ⟨_, rfl, hmr⟩ := hm
  obtain ⟨ma, mc, rfl, _, hmc, hml⟩ := hmr.shape
  obtain ⟨_, rfl, hr⟩ := hq
  obtain ⟨qa, qc, rfl, _⟩ := hr.shape
  obtain ⟨_, rfl, hwr⟩ := hw
  obtain ⟨wa, wc, rfl, _, hwc, hwl⟩ := hwr.shape
  obtain ⟨W0, hW0, hbA, SZ0, B0, B1, B2, B3, B4, B5⟩ := six_boxesM w (.slice ga g.length gc) (.slice pa p.length pc) (.slice ma M.length mc) (.slice qa q.length qc) (.slice wa W.length wc) (.slice none 0 0) 29 29 54 29 54 54
  have HBA := Lib.hid hbA
  have HT := Lib.hid (hT.keep hbA)
  have HG := Lib.hid (hg0.out.below hbA)
  have HP := Lib.hid (hp0.out.below hbA)
  have HM := Lib.hid (hm0.out.below hbA)
  have HQ := Lib.hid (hq0.out.below hbA)
  have HW := Lib.hid (hw0.out.below hbA)
  have HMR := Lib.hid (hmr.below hbA)
  have HWR := Lib.hid (hwr.below hbA)
  have HX0 := Lib.hid B0
  have HX1 := Lib.hid B1
  have HX2 := Lib.hid B2
  have HX3 := Lib.hid B3
  have HX4 := Lib.hid B4
  have HX5 := Lib.hid B5
  have HSZ := Lib.hid SZ0
  clear hT hr hmr hwr hg0 hp0 hm0 hq0 hw0 hbA SZ0 B0 B1 B2 B3 B4 B5
  by_cases hok : MdOk g p M
  case neg =>
    have hd := Lib.hid (dec_false hok)
    have HC := Lib.hid (show CmS g p M q W [] false from .inr ⟨fun h => hok h.1, rfl, rfl⟩)
    clear hok
    go_enter Tryd.func54, Tryd.ntmps54
    go_upto_region 1 with fail
    rw [← hW0]
    clear hW0
    have c0 := HX0.out.cell
    have c1 := HX1.out.cell
    have c2 := HX2.out.cell
    go_wp2_with (go_at_call 55; refine (implModelOk_any _ _ _ g p M hgl _ HG.out HP.out HM.out HT.out).mono ?_; rintro e w2 ⟨he, hb2⟩; rw [hd.out] at he; subst he; obtain ⟨nc, nf, nl, nB⟩ := HX5.out.keep hb2)
    refine bodyPost_ret (v := .tuple #[.agg #[.slice none 0 0], .bool false]) (by simp [results, Tryd.results54, go_sem, nc]) rfl ⟨_, [], false, rfl, HC.out, dg_nilM _ _, by simp, fun j => by simp [row], ?_⟩
    exact (HBA.out.trans (hb2.mono HBA.out.size)).setCell (by show w.heap.size ≤ w.heap.size + 5; omega) _
  have hd := Lib.hid (dec_true hok)
  have HOK := Lib.hid hok
  clear hok
  by_cases hok2 : MdOk p q W
  case neg =>
    have hd2 := Lib.hid (dec_false hok2)
    have HC := Lib.hid (show CmS g p M q W [] false from .inr ⟨fun h => hok2 h.2, rfl, rfl⟩)
    clear hok2
    go_enter Tryd.func54, Tryd.ntmps54
    go_upto_region 1 with fail
    rw [← hW0]
    clear hW0
    have c0 := HX0.out.cell
    have c1 := HX1.out.cell
    have c2 := HX2.out.cell
    go_wp2_with (first
      | (go_at_call 55; refine (implModelOk_any _ _ _ p q W hpl _ (HP.out.below hb2) (HQ.out.below hb2) (HW.out.below hb2) (HT.out.keep hb2)).mono ?_; rintro e w3 ⟨he, hb3⟩; rw [hd2.out] at he; subst he; obtain ⟨nc, nf, nl, nB⟩ := (HX5.out.keep hb2).keep hb3)
      | (go_at_call 55; refine (implModelOk_any _ _ _ g p M hgl _ HG.out HP.out HM.out HT.out).mono ?_; rintro e w2 ⟨he, hb2⟩; rw [hd.out] at he; subst he; have k1 := (HX1.out.keep hb2).cell; have k3 := (HX3.out.keep hb2).cell; have k4 := (HX4.out.keep hb2).cell))
    refine bodyPost_ret (v := .tuple #[.agg #[.slice none 0 0], .bool false]) (by simp [results, Tryd.results54, go_sem, nc]) rfl ⟨_, [], false, rfl, HC.out, dg_nilM _ _, by simp, fun j => by simp [row], ?_⟩
    exact ((HBA.out.trans (hb2.mono HBA.out.size)).trans (hb3.mono (Nat.le_trans HBA.out.size hb2.size))).setCell (by show w.heap.size ≤ w.heap.size + 5; omega) _
  have hd2 := Lib.hid (dec_true hok2)
  have HOK2 := Lib.hid hok2
  clear hok2
  have HG16 := Lib.hid (HOK.out.1.1.1.1.1.le)
  have HMIN : Hid (∀ a, a < M.length → ∀ y ∈ row M a, 0 ≤ y ∧ y < 16) := Lib.hid (fun a ha y hy => by
    have := (mdOk_sets HOK.out ha).1 y hy
    have := HG16.out
    omega)
  have HWIN : Hid (∀ a, a < W.length → ∀ y ∈ row W a, 0 ≤ y ∧ y < M.length) := Lib.hid (fun a ha y hy => by rw [HOK.out.1.2]; exact (mdOk_sets HOK2.out ha).1 y hy)
  have HMIN0 : Hid (∀ j, ∀ x ∈ row M j, 0 ≤ x) := Lib.hid (fun j x hx => by
    by_cases e : j < M.length
    · exact (HMIN.out j e x hx).1
    · have : row M j = [] := by simp [row, List.getElem?_eq_none (show M.length ≤ j by omega)]
      rw [this] at hx; simp at hx)
  have HML16 := Lib.hid (HOK.out.1.1.1.1.2)
  have HWL16 := Lib.hid (HOK2.out.1.1.1.1.2)
  have HP16 := Lib.hid (HOK2.out.1.1.1.1.1.le)
  have hM16 := HML16.out
  go_enter Tryd.func54, Tryd.ntmps54
  go_upto_region 1 with fail
  rw [← hW0]
  clear hW0
  have c0 := HX0.out.cell
  have c1 := HX1.out.cell
  have c2 := HX2.out.cell
  go_upto_region 3 with (first
    | (go_at_call 55; refine (implModelOk_any _ _ _ p q W hpl _ (HP.out.below hb2) (HQ.out.below hb2) (HW.out.below hb2) (HT.out.keep hb2)).mono ?_; rintro e w3 ⟨he, hb3⟩; rw [hd2.out] at he; subst he)
    | (go_at_call 55; refine (implModelOk_any _ _ _ g p M hgl _ HG.out HP.out HM.out HT.out).mono ?_; rintro e w2 ⟨he, hb2⟩; rw [hd.out] at he; subst he; have k1 := (HX1.out.keep hb2).cell; have k3 := (HX3.out.keep hb2).cell; have k4 := (HX4.out.keep hb2).cell))
  have HB3 : Hid (Below W0.heap.size W0 w3) := Lib.hid (hb2.trans (hb3.mono hb2.size))
  have hc2 := (HX2.out.keep HB3.out).cell
  clear hb2 hb3 c0 c1 c2 k1 k3 k4
  go_upto_region 4 with (go_at_call 141; refine (bagMasks_any _ M HMIN.out (by omega) _ (HMR.out.below HB3.out)).mono ?_; rintro e w4 ⟨u4, rfl, ho4, hb4⟩; obtain ⟨bp, bc, rfl⟩ := owns_shapeE ho4)
  have HB4 : Hid (Below W0.heap.size W0 w4) := Lib.hid (HB3.out.trans (hb4.mono HB3.out.size))
  have SLM := Lib.hid (Sl.of_owns ho4 (by omega))
  have START := Lib.hid (ownsRow_empty w4 79 1)
  have h04 := HB4.out.size
  have hc4 := (HX4.out.keep (HB4.out.alloc HB4.out.size (.cells #[] 79))).cell
  clear hc2 hb4 ho4
  go_wp2_with fail
  go_loopw [13, 39] (fun ov iv wr => ∃ (i : Nat) (a : List Nat), i ≤ W.length ∧ iv = .int .i64 i ∧ Hid (CmuTo M W a i) ∧ wr.ownsRow w4.heap.size 79 1 ov i (a.map u32v) ∧ Below w4.heap.size w4 wr) (fun _ iv _ => W.length - (intOf iv).toNat)
  case atStart => exact ⟨0, [], Nat.zero_le _, rfl, Lib.hid ⟨rfl, fun i hi => absurd hi (Nat.not_lt_zero _)⟩, START.out, below_alloc _ _⟩
  case round =>
    clear START hc4
    obtain ⟨i, a, hi, rfl, HA, hown, hb⟩ := hrel
    have HO := Lib.hid hown
    have HB := Lib.hid hb
    have hwl16 := HWL16.out
    obtain ⟨wo, rfl⟩ : ∃ wo, wo = wr := ⟨_, rfl⟩
    by_cases hlt : i < W.length
    · obtain ⟨wb, wo', rp, rc, rfl, hce, hne⟩ := HWR.out.get (k := i) hlt
      replace hce : W0.cell? ⟨wb, wo' + i, none⟩ = some (.slice rp (row W i).length rc) := hce
      replace hne : Nums W0 2 .i64 (.slice rp (row W i).length rc) (row W i) := hne
      have HNE : Hid (Nums wo 2 .i64 (.slice rp (row W i).length rc) (row W i)) := Lib.hid ((hne.below HB4.out).below hb)
      replace hce := (hb.at' (HB4.out.at' hce))
      have HWi := Lib.hid (HWIN.out i hlt)
      have HRL : Hid ((row W i).length ≤ 16) := Lib.hid (by
        have := setIn_length (by omega) (mdOk_sets HOK2.out hlt)
        have := HP16.out
        omega)
      have SLO := Lib.hid (SLM.out.below hb)
      have hib : i < 1000000000 := by omega
      clear hne hb hown
      go_wp2_with fail
      go_loopw [16, 45] (fun sv kv wr => ∃ (k s : Nat), k ≤ (row W i).length ∧ kv = .int .i64 k ∧ sv = .int .u32 (s : Int) ∧ Hid (UbI M ((row W i).take k) s) ∧ wo = wr) (fun _ kv _ => (row W i).length - (intOf kv).toNat)
      case atStart => exact ⟨0, 0, Nat.zero_le _, rfl, rfl, Lib.hid (UbI.start _), rfl⟩
      case round =>
        clear hce
        obtain ⟨k, s, hk, rfl, rfl, HU, rfl⟩ := hrel
        have hrl := HRL.out
        by_cases hltk : k < (row W i).length
        · obtain ⟨nb, no, rfl, hcn⟩ := HNE.out.get (k := k) hltk
          have hin := HWi.out _ (List.getElem_mem hltk)
          obtain ⟨m, hm⟩ : ∃ m : Nat, (row W i)[k] = (m : Int) := ⟨(row W i)[k].toNat, by omega⟩
          rw [hm] at hcn hin
          have hmM : m < M.length := by omega
          have htk : Hid ((row W i).take (k + 1) = (row W i).take k ++ [(m : Int)]) := Lib.hid (by rw [take_snoc' _ k hltk, hm])
          have hl2 : (M.map mask).length = M.length := List.length_map ..
          have hsl := SLO.out
          rw [← hl2] at hsl
          obtain ⟨qb, qo, rfl, hq⟩ := nets_cell hsl (v := m) (by rw [hl2]; exact hmM)
          have e1 : (M.map mask)[m]'(by rw [hl2]; exact hmM) = mask (row M m) := by simp [row, hmM]
          rw [e1] at hq
          obtain ⟨mm, hmm⟩ : ∃ mm, mm = mask (row M m) := ⟨_, rfl⟩
          rw [← hmm] at hq
          have hm16 : mm < 65536 := by rw [hmm]; exact mask_lt16 _ fun x hx => (HMIN.out m hmM x hx).2
          have hs16 := HU.out.1
          have HU2 : Hid (UbI M ((row W i).take (k + 1)) (s ||| mm)) := Lib.hid (by rw [htk.out]; exact HU.out.put (j := (m : Int)) (by simpa using HMIN.out m hmM) (by simpa using hmm))
          have hor := u32_or_nat s mm (by omega) (by omega)
          clear hsl hl2 e1 hmm hm
          obtain ⟨wl, hwl'⟩ : ∃ wl, wl = (row W i).length := ⟨_, rfl⟩
          have HWLE := Lib.hid hwl'
          rw [← hwl'] at hltk hk hrl ⊢
          clear hwl'
          go_wp2_with fail
          go_roundw
          case rel => exact ⟨k + 1, s ||| mm, by have := HWLE.out; omega, by go_num, rfl, HU2, by first | trivial | rfl⟩
          case measure => have := HWLE.out; simp [intOf]; omega
        · obtain rfl : k = (row W i).length := by omega
          have HU2 : Hid (UbI M (row W i) s) := Lib.hid (by have h1 := HU.out; rwa [List.take_length] at h1)
          have ho := HO.out
          have hs4 := HB.out.size
          go_wp2_with (at_builtin; refine wpList_app1s ty_vsets' rfl rfl rfl ho rfl rfl hib hs4 ?_; intro b7 c8 w7 hown7 hg7 _)
          go_roundw
          case rel => exact ⟨i + 1, a ++ [s], by omega, by go_num, Lib.hid (HA.out.snoc HU2.out), by rw [List.map_append]; exact hown7, below_grown HB.out ho hg7 (Nat.le_refl _) hs4⟩
          case measure => simp [intOf]; omega
    · obtain rfl : i = W.length := by omega
      have hal := HA.out.1
      have HAL := Lib.hid hal
      have HCS : Hid (CmS g p M q W (rowsOf a) true) := Lib.hid (.inl ⟨HOK.out, HOK2.out, HA.out.all HMIN0.out, rfl⟩)
      have HRR := Lib.hid (row_rows_le HA.out.lt)
      have HLT : Hid (∀ s ∈ a, s < 4294967296) := Lib.hid (fun s hs => by have := HA.out.lt s hs; omega)
      have HSL : Hid (Sl wo 79 _ a.length (a.map u32v)) := Lib.hid (by rw [HAL.out]; exact Sl.of_owns hown (by omega))
      have HBO := Lib.hid (HB4.out.trans (hb.mono h04))
      have hal5 : a.length ≤ 100000 := by omega
      have hrl : (rowsOf a).length ≤ 16 := by rw [rowsOf_length]; omega
      have HRL := Lib.hid hrl
      clear hown hb hal hrl
      go_wp2_with (go_at_call 96; refine (results_any _ a HLT.out hal5 _ HSL.out (HT.out.keep HBO.out)).mono ?_; rintro e w7 ⟨u7, rfl, hd7, hb7⟩; obtain ⟨rp7, rc7, e7⟩ := hd7.shape; cases e7; obtain ⟨nc, nf, nl, nB⟩ := (HX5.out.keep HBO.out).keep hb7)
      have h1 := HBA.out.size
      have h2 := HBO.out.size
      refine bodyPost_ret (v := .tuple #[.agg #[.slice rp7 (rowsOf a).length rc7], .bool true]) (by simp [results, Tryd.results54, go_sem, nc]) rfl ⟨_, rowsOf a, true, rfl, HCS.out, (hd7.setMm ⟨nc, nf, nl, nB⟩ _).base (by omega), HRL.out, HRR.out, ?_⟩
      exact (HBA.out.trans ((HBO.out.trans (hb7.mono h2)).mono h1)).setCell (by show w.heap.size ≤ w.heap.size + 5; omega) _

end Go.Proofs.YtmakhapdlkbbnaaDoor
