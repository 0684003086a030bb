/- Walks: l8Meet, l1All (the reference's cliques). -/
import Derived.Test.YtmakhapdlkbbnaaDoorMiQ28
import Derived.Test.YtmakhapdlkbbnaaDoorMiQ17
import Derived.Test.YtmakhapdlkbbnaaDoorMiQ11
import Derived.Deep.RegionHeld3
import Derived.Deep.DeepCutAuto
import Derived.Test.YtmakhapdlkbbnaaDoorMiQ33
import Derived.Test.YtmakhapdlkbbnaaDoorMiQ32
import Derived.Test.YtmakhapdlkbbnaaDoorMiQ36
import Derived.Test.YtmakhapdlkbbnaaDoorMiQ13
import Derived.Test.YtmakhapdlkbbnaaDoorMiQ34
namespace Go.Proofs.YtmakhapdlkbbnaaDoor
open Go.RowKit

set_option maxRecDepth 100000 in
set_option maxHeartbeats 1000000 in
theorem l1All_any (z : Int) (n : Nat) (hz : z = n) (hn : n ≤ 1000) (w : World) :
    Calls Tryd.prog 100 #[.int .i64 z] w fun e w' => ∃ ov, e = .returned ov ∧ w'.ownsRow w.heap.size 2 1 ov n ((natInts (List.range n)).map (Value.int .i64)) ∧ Below w.heap.size w w' := by
  subst hz
  have HO := Lib.hid (ownsRow_empty w 2 1)
  have HB := Lib.hid (below_alloc w (.cells #[] 2))
  go_enter Tryd.func100, Tryd.ntmps100
  go_wp2
  go_loopw [3, 4] (fun o i wr => ∃ k : Nat, k ≤ n ∧ i = .int .i64 k ∧ wr.ownsRow w.heap.size 2 1 o k ((natInts (List.range k)).map (Value.int .i64)) ∧ Below w.heap.size w wr) (fun _ i _ => n - (intOf i).toNat)
  case atStart => exact ⟨0, Nat.zero_le _, rfl, HO.out, HB.out⟩
  case round =>
    obtain ⟨k, hk, rfl, hown, hbel⟩ := hrel
    have hsz := hbel.size
    by_cases hlt : k < n
    · go_wp2_with (at_builtin; refine wpList_app1 ty_i64 rfl rfl rfl hown rfl rfl (by omega) (by omega) ?_; intro v' w1 hown' hg _)
      go_roundw
      case rel => exact ⟨k + 1, by omega, by go_num, by rw [List.range_succ, show natInts (List.range k ++ [k]) = natInts (List.range k) ++ [(k : Int)] by simp [natInts], List.map_append]; exact hown', below_grown hbel hown hg (Nat.le_refl _) hsz⟩
      case measure => simp [intOf]; omega
    · obtain rfl : k = n := by omega
      go_wp2
      go_ret
      exact ⟨_, rfl, hown, hbel⟩

theorem nums_at {w : World} {E : TypeId} {p : Option Addr} {m c : Nat} {xs : List Int} (h : Nums w E .i64 (.slice p m c) xs) : At w E p (xs.map (Value.int .i64)) := by
  obtain ⟨p', c', e, _, _, _, hat⟩ := h
  simp only [Value.slice.injEq] at e
  obtain ⟨rfl, _, _⟩ := e
  exact hat
/-- Those of xs that are in ys, up to the k-th. -/
def meetL (xs : List Nat) (ys : List Int) (k : Nat) : List Nat := (xs.take k).filter fun j => decide ((j : Int) ∈ ys)
theorem meetL_succ {xs : List Nat} {ys : List Int} {k : Nat} (h : k < xs.length) : meetL xs ys (k + 1) = if ((xs[k] : Nat) : Int) ∈ ys then meetL xs ys k ++ [xs[k]] else meetL xs ys k := by
  unfold meetL
  rw [take_snoc _ k h, List.filter_append]
  by_cases hm : ((xs[k] : Nat) : Int) ∈ ys
  · rw [if_pos hm]; simp [hm]
  · rw [if_neg hm]; simp [hm]
theorem meetL_len (xs : List Nat) (ys : List Int) (k : Nat) : (meetL xs ys k).length ≤ xs.length := Nat.le_trans (List.length_filter_le _ _) (by rw [List.length_take]; omega)

end Go.Proofs.YtmakhapdlkbbnaaDoor

/- Walks: the reference's CoverOf (printed in part by wip/mkCvS.py). -/
namespace Go.Proofs.YtmakhapdlkbbnaaDoor
open Go.RowKit

theorem natInts_snocS (l : List Nat) (x : Nat) : natInts (l ++ [x]) = natInts l ++ [(x : Int)] := by simp [natInts]
theorem touch_nat {g : List (List Int)} {a b : List Nat} : TouchP g (natInts a) (natInts b) ↔ ∃ x ∈ a, x ∈ b ∨ ∃ t ∈ b, (x : Int) ∈ row g t := by
  unfold TouchP
  constructor
  · rintro ⟨x, hx, h⟩
    obtain ⟨i, hi, rfl⟩ := mem_natInts.1 hx
    refine ⟨i, hi, ?_⟩
    rcases h with h | ⟨y, hy, h⟩
    · obtain ⟨j, hj, e⟩ := mem_natInts.1 h
      obtain rfl : j = i := by omega
      exact .inl hj
    · obtain ⟨j, hj, rfl⟩ := mem_natInts.1 hy
      exact .inr ⟨j, hj, by simpa using h⟩
  · rintro ⟨i, hi, h⟩
    refine ⟨(i : Int), mem_natInts.2 ⟨i, hi, rfl⟩, ?_⟩
    rcases h with h | ⟨j, hj, h⟩
    · exact .inl (mem_natInts.2 ⟨i, h, rfl⟩)
    · exact .inr ⟨(j : Int), mem_natInts.2 ⟨j, hj, rfl⟩, by simpa using h⟩

theorem setIn_len16 {g : List (List Int)} (hg : GOk g) {s : List Int} (h : SetIn g.length s) : s.length ≤ 16 := by
  have h1 := setIn_length (by omega) h
  have := hg.le
  omega

end Go.Proofs.YtmakhapdlkbbnaaDoor

/- Walks: the reference's sets of so many numbers, and its CoverOf. -/
namespace Go.Proofs.YtmakhapdlkbbnaaDoor
open Go.RowKit

/-- One set of rows more. -/
theorem SG.snocS {w w' : World} {base : Nat} {u u' rv : Value} {g : List (List Int)} {s : List Int} {vals : List Value} (hl : vals.length = g.length) (ho : w.ownsRow base 36 1 u g.length vals) (hr : ∀ j, j < g.length → Nums w 2 .i64 (vals.getD j undef) (row g j))
    (ho' : w'.ownsRow base 36 1 u' (g.length + 1) (vals ++ [rv])) (hg : w.grownBy w' u.ownBlock) (hn : Nums w 2 .i64 rv s) : SG w' base (.agg #[u']) (g ++ [s]) := by
  refine ⟨u', vals ++ [rv], rfl, by simp [hl], by rw [List.length_append]; exact ho', fun j hj => ?_⟩
  rw [List.length_append] at hj
  simp only [List.length_cons, List.length_nil] at hj
  by_cases h : j < g.length
  · rw [getD_append_left _ _ _ _ (by omega)]
    have e : row (g ++ [s]) j = row g j := by simp [row, List.getElem?_append_left h]
    rw [e]
    exact (hr j h).other ho hg (by decide)
  · have hj' : j = g.length := by omega
    subst hj'
    have e : row (g ++ [s]) g.length = s := by simp [row]
    rw [e, ← hl, getD_append_last]
    exact hn.other ho hg (by decide)

def partE (o : List Nat) (v : Nat) : List (List Nat) := ((List.range v).filter fun u => decide (lastp o ≤ u)).map fun u => o ++ [u]
theorem partE_start (o : List Nat) : partE o (lastp o) = [] := by
  unfold partE
  rw [List.map_eq_nil_iff, List.filter_eq_nil_iff]
  intro u hu e
  have h1 := List.mem_range.1 hu
  have h2 := of_decide_eq_true e
  omega
theorem partE_succ {o : List Nat} {v : Nat} (h : lastp o ≤ v) : partE o (v + 1) = partE o v ++ [o ++ [v]] := by simp [partE, List.range_succ, h]
theorem partE_end (n : Nat) (o : List Nat) : partE o n = extS n o := rfl
theorem partE_len (o : List Nat) (v : Nat) : (partE o v).length ≤ v := by
  unfold partE
  rw [List.length_map]
  exact Nat.le_trans (List.length_filter_le _ _) (by simp)
theorem flat_len {n : Nat} : ∀ B : List (List Nat), (B.flatMap (extS n)).length ≤ B.length * n
  | [] => by simp
  | o :: B => by
    have h1 := flat_len (n := n) B
    have h2 := partE_len o n
    rw [partE_end] at h2
    rw [List.flatMap_cons, List.length_append, List.length_cons, Nat.add_mul]
    omega
theorem lastp_at {o : List Nat} (h : 0 < o.length) : lastp o = o[o.length - 1]'(by omega) + 1 := by
  rcases snoc_or o with rfl | ⟨o', x, rfl⟩
  · simp at h
  · rw [lastp_snoc]; simp

end Go.Proofs.YtmakhapdlkbbnaaDoor

/- Walk: the reference's model of a model. -/
namespace Go.Proofs.YtmakhapdlkbbnaaDoor
open Go.RowKit

/-- A union that grows: of the sets of some indices, and of a part of one more. -/
structure UnI (n : Nat) (M : List (List Int)) (L P S : List Int) : Prop where
  set : SetIn n S
  mem : ∀ x, x ∈ S ↔ (∃ j ∈ L, x ∈ row M j.toNat) ∨ x ∈ P
theorem UnI.start (n : Nat) (M : List (List Int)) : UnI n M [] [] [] := ⟨setIn_nil _, fun x => by simp⟩
theorem setIn_into {n : Int} {s : List Int} (h : SetIn n s) {v : Int} (h0 : 0 ≤ v) (hn : v < n) : SetIn n (intoL s v) :=
  ⟨fun x hx => by
    rcases mem_intoL.1 hx with h1 | rfl
    · exact h.1 x h1
    · exact ⟨h0, hn⟩, intoL_rising h.2⟩
theorem UnI.put {n : Nat} {M : List (List Int)} {L P S : List Int} {y : Int} (h : UnI n M L P S) (h0 : 0 ≤ y) (hn : y < n) : UnI n M L (P ++ [y]) (intoL S y) := by
  refine ⟨setIn_into h.set h0 hn, fun x => ?_⟩
  rw [mem_intoL, h.mem, List.mem_append, List.mem_singleton, or_assoc]
theorem UnI.next {n : Nat} {M : List (List Int)} {L S : List Int} {j : Int} (h : UnI n M L (row M j.toNat) S) : UnI n M (L ++ [j]) [] S := by
  refine ⟨h.set, fun x => ?_⟩
  rw [h.mem]
  constructor
  · rintro (⟨k, h1, h2⟩ | h1)
    · exact .inl ⟨k, List.mem_append_left _ h1, h2⟩
    · exact .inl ⟨j, by simp, h1⟩
  · rintro (⟨k, h1, h2⟩ | h1)
    · rcases List.mem_append.1 h1 with h3 | h3
      · exact .inl ⟨k, h3, h2⟩
      · obtain rfl : k = j := by simpa using h3
        exact .inr h2
    · simp at h1
theorem UnI.len {n : Nat} {M : List (List Int)} {L P S : List Int} (h : UnI n M L P S) (hn : n ≤ 16) : S.length ≤ 16 := by
  have := setIn_length (by omega) h.set
  omega

/-- The sets so far. -/
def CmpTo (n : Nat) (M W R : List (List Int)) (k : Nat) : Prop := R.length = k ∧ ∀ i, i < k → UnI n M (row W i) [] (row R i)
theorem CmpTo.snoc {n : Nat} {M W R : List (List Int)} {k : Nat} {S : List Int} (h : CmpTo n M W R k) (hS : UnI n M (row W k) [] S) : CmpTo n M W (R ++ [S]) (k + 1) := by
  refine ⟨by simp [h.1], fun i hi => ?_⟩
  by_cases e : i < k
  · have e2 : row (R ++ [S]) i = row R i := by simp [row, List.getElem?_append_left (show i < R.length by rw [h.1]; exact e)]
    rw [e2]; exact h.2 i e
  · obtain rfl : i = k := by omega
    have e2 : row (R ++ [S]) i = S := by rw [← h.1]; simp [row]
    rw [e2]; exact hS
theorem CmpTo.all {n : Nat} {M W R : List (List Int)} (h : CmpTo n M W R W.length) : CmpS M W R := ⟨h.1, fun i hi => ⟨(h.2 i hi).set.2, fun x => by rw [(h.2 i hi).mem]; simp⟩⟩
theorem CmpTo.row_le {n : Nat} {M W R : List (List Int)} (h : CmpTo n M W R W.length) (hn : n ≤ 16) (j : Nat) : (row R j).length ≤ 16 := by
  by_cases e : j < W.length
  · exact (h.2 j e).len hn
  · have : row R j = [] := by simp [row, List.getElem?_eq_none (show R.length ≤ j by rw [h.1]; omega)]
    rw [this]; exact Nat.zero_le _

theorem SG.setM {w : World} {base b : Nat} {v x : Value} {g : List (List Int)} (h : SG w base v g) (hb : Box w b 54 x) (u : Value) : SG (w.setCell ⟨b, 0, none⟩ u) base v g := by
  obtain ⟨u', vals, h1, h2, h3, h4⟩ := h
  exact ⟨u', vals, h1, h2, ownsRow_setBox h3 hb (by decide) u, fun j hj => (h4 j hj).setBox hb (by decide) u⟩
theorem SG.baseM {w : World} {base base' : Nat} {v : Value} {g : List (List Int)} (h : SG w base v g) (hb : base' ≤ base) : SG w base' v g := by
  obtain ⟨u', vals, e, h2, h3, h4⟩ := h
  exact ⟨u', vals, e, h2, ownsRow_base h3 hb, h4⟩

/-- The model that grows in its box. -/
structure CmI (W0 wr : World) (B : Nat) (ov : Value) (R : List (List Int)) : Prop where
  bel : Below W0.heap.size W0 wr
  box : Box wr B 54 ov
  sg : SG wr (B + 1) (.agg #[ov]) R
  lo : W0.heap.size ≤ B
theorem CmI.next {W0 wr w' : World} {B : Nat} {ov : Value} {R : List (List Int)} (h : CmI W0 wr B ov R) (hb : Below wr.heap.size wr w') : CmI W0 w' B ov R :=
  ⟨h.bel.trans (hb.mono h.bel.size), h.box.keep hb, h.sg.below hb, h.lo⟩
theorem CmI.start {W0 w : World} (hb : Below W0.heap.size W0 w) : CmI W0 (w.alloc (.cells #[.slice none 0 0] 54)) w.heap.size (.slice none 0 0) [] :=
  ⟨hb.alloc hb.size _, Box.new _ _ _, ⟨_, [], rfl, rfl, World.ownsRow_nil _ _ _ _, fun j hj => by simp at hj⟩, hb.size⟩
theorem CmI.shape {W0 wr : World} {B : Nat} {ov : Value} {R : List (List Int)} (h : CmI W0 wr B ov R) : ∃ p c, ov = .slice p R.length c := by
  obtain ⟨p, c, e⟩ := h.sg.shape
  cases e
  exact ⟨p, c, rfl⟩
theorem CmI.vals {W0 wr : World} {B : Nat} {ov : Value} {R : List (List Int)} (h : CmI W0 wr B ov R) : ∃ vals : List Value, vals.length = R.length ∧ wr.ownsRow (B + 1) 36 1 ov R.length vals ∧ ∀ j, j < R.length → Nums wr 2 .i64 (vals.getD j undef) (row R j) := by
  obtain ⟨u, vals, e, h1, h2, h3⟩ := h.sg
  cases e
  exact ⟨vals, h1, h2, h3⟩
theorem CmI.grown {W0 wr w7 : World} {B : Nat} {ov : Value} {R : List (List Int)} {vals : List Value} (h : CmI W0 wr B ov R) (ho : wr.ownsRow (B + 1) 36 1 ov R.length vals) (hg : wr.grownBy w7 ov.ownBlock) : Below (B + 1) wr w7 ∧ Box w7 B 54 ov := by
  have hlt := h.box.lt
  have hb7 : Below (B + 1) wr w7 := below_grown (Below.refl _ _) ho hg (Nat.le_refl _) hlt
  exact ⟨hb7, h.box.below hb7 (Nat.lt_succ_self _)⟩
theorem CmI.put {W0 wr w7 : World} {B : Nat} {ov ov' rv : Value} {R : List (List Int)} {S : List Int} {vals : List Value} (h : CmI W0 wr B ov R) (hl : vals.length = R.length) (ho : wr.ownsRow (B + 1) 36 1 ov R.length vals) (hr : ∀ j, j < R.length → Nums wr 2 .i64 (vals.getD j undef) (row R j))
    (ho' : w7.ownsRow (B + 1) 36 1 ov' (R.length + 1) (vals ++ [rv])) (hg : wr.grownBy w7 ov.ownBlock) (hn : Nums wr 2 .i64 rv S) : CmI W0 (w7.setCell ⟨B, 0, none⟩ ov') B ov' (R ++ [S]) := by
  obtain ⟨hb7, hbx⟩ := h.grown ho hg
  have hlo := h.lo
  refine ⟨(h.bel.trans (hb7.mono (by omega))).setCell (by show W0.heap.size ≤ B; exact hlo) _, hbx.set _, ?_, hlo⟩
  exact (SG.snocS hl ho hr ho' hg hn).setM hbx _

theorem six_boxesM (w : World) (a b c d e f : Value) (T1 T2 T3 T4 T5 T6 : TypeId) : ∃ W, W = (((((w.alloc (.cells #[a] T1)).alloc (.cells #[b] T2)).alloc (.cells #[c] T3)).alloc (.cells #[d] T4)).alloc (.cells #[e] T5)).alloc (.cells #[f] T6) ∧ Below w.heap.size w W ∧ W.heap.size = w.heap.size + 6 ∧
    Box W w.heap.size T1 a ∧ Box W (w.heap.size + 1) T2 b ∧ Box W (w.heap.size + 2) T3 c ∧ Box W (w.heap.size + 3) T4 d ∧ Box W (w.heap.size + 4) T5 e ∧ Box W (w.heap.size + 5) T6 f := by
  obtain ⟨W1, h1, k1, k2, k3, k4, k5⟩ := three_boxesM w a b c T1 T2 T3
  obtain ⟨W2, h2, l1, l2, l3, l4, l5⟩ := three_boxesM W1 d e f T4 T5 T6
  rw [k2] at l1 l2 l3 l4 l5
  have l1' : Below W1.heap.size W1 W2 := by rw [k2]; exact l1
  exact ⟨W2, by rw [h2, h1], k1.trans (l1.mono (by omega)), by omega, k3.keep l1', k4.keep l1', k5.keep l1', l3, l4, l5⟩

end Go.Proofs.YtmakhapdlkbbnaaDoor

/- Walk: the reference's ComposedModel. -/
namespace Go.Proofs.YtmakhapdlkbbnaaDoor
open Go.RowKit

theorem sg_nilM (w : World) (base : Nat) : SG w base (.agg #[.slice none 0 0]) [] := ⟨_, [], rfl, rfl, World.ownsRow_nil _ _ _ _, fun j hj => by simp at hj⟩

end Go.Proofs.YtmakhapdlkbbnaaDoor

/- Walk: the masks of a model's sets. -/
namespace Go.Proofs.YtmakhapdlkbbnaaDoor
open Go.RowKit

/-- The vertices of the first sets. -/
def SeenI (M : List (List Int)) (k sn : Nat) : Prop := sn < 65536 ∧ ∀ i, sn.testBit i = true ↔ ∃ a, a < k ∧ (i : Int) ∈ row M a
theorem SeenI.start (M : List (List Int)) : SeenI M 0 0 := ⟨by decide, fun i => by simp⟩
theorem bit_mask {s : List Int} (h : ∀ x ∈ s, 0 ≤ x) (i : Nat) : (mask s).testBit i = true ↔ (i : Int) ∈ s := by
  rw [testBit_mask, List.any_eq_true]
  constructor
  · rintro ⟨x, hx, e⟩
    have h1 := h x hx
    have h2 : x.toNat = i := by simpa using e
    have : (i : Int) = x := by omega
    rw [this]; exact hx
  · intro k
    exact ⟨_, k, by simp⟩
theorem SeenI.put {M : List (List Int)} {k sn m : Nat} (h : SeenI M k sn) (h0 : ∀ x ∈ row M k, 0 ≤ x ∧ x < 16) (hm : m = mask (row M k)) : SeenI M (k + 1) (sn ||| m) := by
  have hm16 : m < 65536 := by rw [hm]; exact mask_lt16 _ fun x hx => (h0 x hx).2
  refine ⟨Nat.or_lt_two_pow (n := 16) h.1 hm16, fun i => ?_⟩
  rw [Nat.testBit_or, Bool.or_eq_true, h.2, hm, bit_mask fun x hx => (h0 x hx).1]
  constructor
  · rintro (⟨a, ha, h1⟩ | h1)
    · exact ⟨a, by omega, h1⟩
    · exact ⟨k, by omega, h1⟩
  · rintro ⟨a, ha, h1⟩
    by_cases e : a < k
    · exact .inl ⟨a, e, h1⟩
    · obtain rfl : a = k := by omega
      exact .inr h1
theorem SeenI.new {M : List (List Int)} {k sn m : Nat} (h : SeenI M k sn) (h0 : ∀ x ∈ row M k, 0 ≤ x ∧ x < 16) (hm : m = mask (row M k)) : m &&& sn = 0 ↔ ∀ b, b < k → ∀ x ∈ row M k, x ∉ row M b := by
  rw [and_zero_iff]
  constructor
  · intro h1 b hb x hx hxb
    have hx0 := h0 x hx
    have e : ((x.toNat : Nat) : Int) = x := by omega
    refine h1 x.toNat ⟨?_, ?_⟩
    · rw [hm, bit_mask fun x hx => (h0 x hx).1, e]; exact hx
    · rw [h.2, e]; exact ⟨b, hb, hxb⟩
  · intro h1 i ⟨h2, h3⟩
    rw [hm, bit_mask fun x hx => (h0 x hx).1] at h2
    obtain ⟨b, hb, h4⟩ := (h.2 i).1 h3
    exact h1 b hb _ h2 h4

set_option maxRecDepth 100000 in
set_option maxHeartbeats 4000000 in
theorem modelMasks_any (v mv : Value) (g M : List (List Int)) (hgl : g.length ≤ 1000000000) (w : World) (hg : Gr w v g) (hm : Gr w mv M) :
    Calls Tryd.prog 129 #[v, mv] w fun e w' => ∃ ov, e = .returned (.tuple #[ov, .bool (dec (MdW g M))]) ∧ (∃ p k c, ov = .slice p k c) ∧ (MdW g M → w'.ownsRow w.heap.size 79 1 ov M.length ((M.map mask).map u32v)) ∧ Below w.heap.size w w' := by
  have hg0 := hg
  obtain ⟨u, rfl, hr⟩ := hg
  obtain ⟨p, c, rfl, _⟩ := hr.shape
  obtain ⟨mu, rfl, hs⟩ := hm
  obtain ⟨sp, sc, rfl, _, hsc, hsl⟩ := hs.shape
  obtain ⟨W0, hW0⟩ : ∃ W0, W0 = (w.alloc (.cells #[.slice p g.length c] 29)).alloc (.cells #[.slice sp M.length sc] 54) := ⟨_, rfl⟩
  have hbA : Hid (Below w.heap.size w W0) := Lib.hid (by rw [hW0]; exact below_alloc2 _ _ _)
  have HG := Lib.hid (hg0.below hbA.out)
  have HS := Lib.hid (hs.below hbA.out)
  have BX : Hid (Box W0 w.heap.size 29 (.slice p g.length c)) := Lib.hid (by rw [hW0]; exact (Box.new _ _ _).alloc _)
  have BY : Hid (Box W0 (w.heap.size + 1) 54 (.slice sp M.length sc)) := Lib.hid (by
    rw [hW0]
    have := Box.new (w.alloc (.cells #[.slice p g.length c] 29)) (.slice sp M.length sc) 54
    rw [size_alloc] at this
    exact this)
  have SZ0 := Lib.hid (show W0.heap.size = w.heap.size + 2 by rw [hW0, size_alloc, size_alloc])
  clear hr hg0 hs
  by_cases hok : GOk g
  case neg =>
    have hd := Lib.hid (dec_false hok)
    have hno : ¬ MdW g M := fun h => hok h.1.1
    have HNO := Lib.hid hno
    have HD := Lib.hid (dec_false hno)
    clear hok hno
    go_enter Tryd.func129, Tryd.ntmps129
    go_upto_region 1 with fail
    rw [← hW0]
    clear hW0
    have hcx := BX.out.cell
    go_wp2_with (go_at_call 80; refine (implGraphOk_any _ g _ HG.out).mono ?_; rintro e w2 ⟨he, hb2⟩; rw [hd.out] at he; subst he)
    go_ret2
    exact ⟨_, by rw [HD.out]; rfl, ⟨_, _, _, rfl⟩, fun h => absurd h HNO.out, hbA.out.trans (hb2.mono hbA.out.size)⟩
  have hd := Lib.hid (dec_true hok)
  have h16 := hok.le
  have Hok := Lib.hid hok
  clear hok
  by_cases h80 : M.length ≤ 16
  case neg =>
    have h80' : ¬ (M.length : Int) ≤ 16 := by omega
    have hno : ¬ MdW g M := fun h => h80 h.1.2
    have HNO := Lib.hid hno
    have HD := Lib.hid (dec_false hno)
    clear h80 hno
    go_enter Tryd.func129, Tryd.ntmps129
    go_upto_region 1 with fail
    rw [← hW0]
    clear hW0
    have hcx := BX.out.cell
    go_wp2_with (go_at_call 80; refine (implGraphOk_any _ g _ HG.out).mono ?_; rintro e w2 ⟨he, hb2⟩; rw [hd.out] at he; subst he; have hcy := (BY.out.keep hb2).cell)
    go_ret2
    exact ⟨_, by rw [HD.out]; rfl, ⟨_, _, _, rfl⟩, fun h => absurd h HNO.out, hbA.out.trans (hb2.mono hbA.out.size)⟩
  have h80' : (M.length : Int) ≤ 16 := by omega
  have HOK16 : Hid (GOk g ∧ M.length ≤ 16) := Lib.hid ⟨Hok.out, h80⟩
  go_enter Tryd.func129, Tryd.ntmps129
  go_upto_region 1 with fail
  rw [← hW0]
  clear hW0
  have hcx := BX.out.cell
  go_upto_region 3 with (go_at_call 80; refine (implGraphOk_any _ g _ HG.out).mono ?_; rintro e w2 ⟨he, hb2⟩; rw [hd.out] at he; subst he; have hcy := (BY.out.keep hb2).cell)
  have HB2 := Lib.hid hb2
  have hcy2 := (BY.out.keep (hb2.alloc hb2.size (.cells #[] 79))).cell
  have START := Lib.hid (ownsRow_empty w2 79 1)
  have h02 := hb2.size
  clear hcx hb2 hcy
  go_wp2_with fail
  go_loopw [6, 7, 23] (fun ov sv iv wr => ∃ (i sn : Nat), i ≤ M.length ∧ iv = .int .i64 i ∧ sv = .int .u32 (sn : Int) ∧ Hid (SeenI M i sn) ∧ Hid (MdTo g M i) ∧ wr.ownsRow W0.heap.size 79 1 ov i (((M.take i).map mask).map u32v) ∧ Below W0.heap.size W0 wr) (fun _ _ iv _ => M.length - (intOf iv).toNat)
  case atStart => exact ⟨0, 0, Nat.zero_le _, rfl, rfl, Lib.hid (SeenI.start M), Lib.hid (MdTo.zero g M), ownsRow_base START.out h02, HB2.out.alloc h02 _⟩
  case round =>
    clear START hcy2
    obtain ⟨i, sn, hi, rfl, rfl, HSN, HTO, hown, hb⟩ := hrel
    have HB := Lib.hid hb
    have HO := Lib.hid hown
    by_cases hlt : i < M.length
    · obtain ⟨sb, so, rp, rc, rfl, hce, hne⟩ := (HS.out.below hb).get (k := i) hlt
      replace hce : wr.cell? ⟨sb, so + i, none⟩ = some (.slice rp (row M i).length rc) := hce
      replace hne : Nums wr 2 .i64 (.slice rp (row M i).length rc) (row M i) := hne
      have hcx := hb.at (by have := SZ0.out; omega) BX.out.cell
      have HNI := Lib.hid hne
      have hib : i < 1000000000 := by omega
      clear hne
      generalize (row M i).length = rl at hce HNI
      by_cases hset : GOk g ∧ SetIn g.length (row M i)
      · have hds := Lib.hid (dec_true hset)
        have HSET := Lib.hid hset.2
        have HRI : Hid (∀ x ∈ row M i, 0 ≤ x ∧ x < 16) := Lib.hid (fun x hx => by have := hset.2.1 x hx; omega)
        obtain ⟨m, hm⟩ : ∃ m, m = mask (row M i) := ⟨_, rfl⟩
        have HM := Lib.hid hm
        have hm16 : m < 65536 := by rw [hm]; exact mask_lt16 _ fun x hx => (HRI.out x hx).2
        have hsn16 := HSN.out.1
        have HSN2 := Lib.hid (HSN.out.put HRI.out hm)
        have HNEW := Lib.hid (HSN.out.new HRI.out hm)
        have HT : Hid ((M.take (i + 1)).map mask = (M.take i).map mask ++ [m]) := Lib.hid (by rw [take_snoc' M i hlt, List.map_append, hm]; simp [row, hlt])
        have hand := u32_and_nat m sn (by omega) (by omega)
        clear hset hm hown
        by_cases hz : m &&& sn = 0
        · have HNW := Lib.hid (HNEW.out.1 hz)
          have hor := u32_or_nat sn m (by omega) (by omega)
          rw [hz] at hand
          have HBI := Lib.hid hb
          clear hz hb
          go_wp2_with (first
            | (go_at_call 93; refine (implSetOk_any _ _ g (row M i) hgl _ (HG.out.below HB.out) HNI.out).mono ?_; rintro e w4 ⟨he4, hb4⟩; rw [hds.out] at he4; subst he4; have ho4 := ownsRow_below HO.out hb4; have HN4 := Lib.hid (HNI.out.below hb4); have HB4 := Lib.hid (HB.out.trans (hb4.mono HB.out.size)); clear hb4)
            | (go_at_call 102; refine (maskOf_any _ (row M i) HRI.out _ HN7.out).mono ?_; rintro e w8 ⟨he8, hw8⟩; rw [← HM.out] at he8; subst he8; subst hw8)
            | (go_at_call 102; refine (maskOf_any _ (row M i) HRI.out _ HN4.out).mono ?_; rintro e w5 ⟨he5, hw5⟩; rw [← HM.out] at he5; subst he5; subst hw5)
            | (at_builtin; refine wpList_app1s ty_vsets' rfl rfl rfl ho4 rfl rfl hib HB4.out.size ?_; intro b7 c8 w7 hown7 hg7 _; have HN7 := Lib.hid (HN4.out.other ho4 hg7 (by decide))))
          go_roundw
          case rel => exact ⟨i + 1, sn ||| m, by omega, by go_num, rfl, HSN2, Lib.hid (HTO.out.snoc HSET.out (fun b hb x hx => HNW.out b hb x hx)), by rw [HT.out, List.map_append]; exact hown7, below_grown HB4.out ho4 hg7 (Nat.le_refl _) HB4.out.size⟩
          case measure => simp [intOf]; omega
        · have hno : ¬ MdW g M := fun h => hz (HNEW.out.2 (fun b hb x hx => (h.2 i hlt).2 b hb x hx))
          have HNO := Lib.hid hno
          have HD := Lib.hid (dec_false hno)
          have h1' : (((m &&& sn : Nat) : Int) != 0) = true := by simp; omega
          clear hno hz hb
          generalize (m &&& sn : Nat) = ms at hand h1'
          go_wp2_with (first
            | (go_at_call 93; refine (implSetOk_any _ _ g (row M i) hgl _ (HG.out.below HB.out) HNI.out).mono ?_; rintro e w4 ⟨he4, hb4⟩; rw [hds.out] at he4; subst he4; have HN4 := Lib.hid (HNI.out.below hb4))
            | (go_at_call 102; refine (maskOf_any _ (row M i) HRI.out _ HN4.out).mono ?_; rintro e w5 ⟨he5, hw5⟩; rw [← HM.out] at he5; subst he5; subst hw5))
          go_ret2
          exact ⟨_, by rw [HD.out]; rfl, ⟨_, _, _, rfl⟩, fun h => absurd h HNO.out, hbA.out.trans ((HB.out.trans (hb4.mono HB.out.size)).mono hbA.out.size)⟩
      · have hds := Lib.hid (dec_false hset)
        have hno : ¬ MdW g M := fun h => hset ⟨h.1.1, (h.2 i hlt).1⟩
        have HNO := Lib.hid hno
        have HD := Lib.hid (dec_false hno)
        clear hset hown hb hno
        go_wp2_with (go_at_call 93; refine (implSetOk_any _ _ g (row M i) hgl _ (HG.out.below HB.out) HNI.out).mono ?_; rintro e w4 ⟨he4, hb4⟩; rw [hds.out] at he4; subst he4)
        go_ret2
        exact ⟨_, by rw [HD.out]; rfl, ⟨_, _, _, rfl⟩, fun h => absurd h HNO.out, hbA.out.trans ((HB.out.trans (hb4.mono HB.out.size)).mono hbA.out.size)⟩
    · obtain rfl : i = M.length := by omega
      have HD := Lib.hid (dec_true (show MdW g M from ⟨HOK16.out, HTO.out⟩))
      have hb0 := hbA.out.size
      rw [List.take_length] at HO
      obtain ⟨op, oc, rfl⟩ := owns_shapeE HO.out
      clear hown hb
      go_wp2_with fail
      go_ret2
      exact ⟨_, by rw [HD.out]; rfl, ⟨_, _, _, rfl⟩, fun _ => ownsRow_base HO.out (by omega), hbA.out.trans (HB.out.mono hbA.out.size)⟩

end Go.Proofs.YtmakhapdlkbbnaaDoor
