/- Plain: the greatest cliques, in the order in which both find them. -/
import Derived.Test.YtjdlmjmhlbpooaaDoorBwQ21
import Derived.Test.YtjdlmjmhlbpooaaDoorBwQ4
import Derived.Deep.RegionHeld3
import Derived.Deep.DeepCutAuto
import Derived.Test.YtjdlmjmhlbpooaaDoorBwQ13
import Derived.Test.YtjdlmjmhlbpooaaDoorBwQ14
namespace Go.Proofs.YtjdlmjmhlbpooaaDoor

/-- What is found with a set, those that are left, and those that may not come. -/
def clF (E : Nat → Nat → Bool) : Nat → List Nat → List Nat → List Nat → List (List Nat)
  | 0, _, _, _ => []
  | k + 1, set, left, out => if left = [] ∧ out = [] then [set] else
    (List.range left.length).flatMap fun i => clF E k (set ++ [left.getD i 0]) ((left.drop (i + 1)).filter (E (left.getD i 0))) ((out ++ left.take i).filter (E (left.getD i 0)))
def clTo (E : Nat → Nat → Bool) (k : Nat) (set left out : List Nat) (m : Nat) : List (List Nat) :=
  (List.range m).flatMap fun i => clF E k (set ++ [left.getD i 0]) ((left.drop (i + 1)).filter (E (left.getD i 0))) ((out ++ left.take i).filter (E (left.getD i 0)))
theorem clTo_zero (E : Nat → Nat → Bool) (k : Nat) (set left out : List Nat) : clTo E k set left out 0 = [] := rfl
theorem clTo_succ (E : Nat → Nat → Bool) (k : Nat) (set left out : List Nat) (m : Nat) :
    clTo E k set left out (m + 1) = clTo E k set left out m ++ clF E k (set ++ [left.getD m 0]) ((left.drop (m + 1)).filter (E (left.getD m 0))) ((out ++ left.take m).filter (E (left.getD m 0))) := by
  simp [clTo, List.range_succ, List.flatMap_append]
theorem clF_one (E : Nat → Nat → Bool) (k : Nat) (set : List Nat) : clF E (k + 1) set [] [] = [set] := by simp [clF]
theorem clF_none (E : Nat → Nat → Bool) (k : Nat) (set out : List Nat) (h : out ≠ []) : clF E (k + 1) set [] out = [] := by simp [clF, h]
theorem clF_more (E : Nat → Nat → Bool) (k : Nat) (set left out : List Nat) (h : ¬ (left = [] ∧ out = [])) : clF E (k + 1) set left out = clTo E k set left out left.length := by
  rw [clF, if_neg h]
  rfl

theorem clF_len (E : Nat → Nat → Bool) : ∀ (k : Nat) (set left out : List Nat), (clF E k set left out).length ≤ 2 ^ left.length
  | 0, _, _, _ => Nat.zero_le _
  | k + 1, set, left, out => by
    by_cases h : left = [] ∧ out = []
    · obtain ⟨rfl, rfl⟩ := h
      rw [clF_one]
      exact Nat.le_refl _
    · rw [clF_more E k set left out h]
      have main : ∀ i, i ≤ left.length → (clTo E k set left out i).length + 2 ^ (left.length - i) ≤ 2 ^ left.length := by
        intro i
        induction i with
        | zero => intro _; rw [clTo_zero]; simp
        | succ i ih =>
          intro hi
          have h1 := ih (by omega)
          have h2 := clF_len E k (set ++ [left.getD i 0]) ((left.drop (i + 1)).filter (E (left.getD i 0))) ((out ++ left.take i).filter (E (left.getD i 0)))
          have h3 : ((left.drop (i + 1)).filter (E (left.getD i 0))).length ≤ left.length - (i + 1) := Nat.le_trans (List.length_filter_le _ _) (by rw [List.length_drop]; omega)
          have h4 := Nat.pow_le_pow_right (show 0 < 2 by decide) h3
          have h5 : 2 ^ (left.length - i) = 2 ^ (left.length - (i + 1)) * 2 := by
            rw [show left.length - i = left.length - (i + 1) + 1 by omega, Nat.pow_succ]
          rw [clTo_succ, List.length_append]
          omega
      exact Nat.le_trans (Nat.le_add_right _ _) (main left.length (Nat.le_refl _))
theorem clTo_len {E : Nat → Nat → Bool} {k : Nat} {set left out : List Nat} : ∀ {i : Nat}, i ≤ left.length → (clTo E k set left out i).length + 2 ^ (left.length - i) ≤ 2 ^ left.length
  | 0, _ => by rw [clTo_zero]; simp
  | i + 1, hi => by
    have h1 := clTo_len (E := E) (k := k) (set := set) (left := left) (out := out) (i := i) (by omega)
    have h2 := clF_len E k (set ++ [left.getD i 0]) ((left.drop (i + 1)).filter (E (left.getD i 0))) ((out ++ left.take i).filter (E (left.getD i 0)))
    have h3 : ((left.drop (i + 1)).filter (E (left.getD i 0))).length ≤ left.length - (i + 1) := Nat.le_trans (List.length_filter_le _ _) (by rw [List.length_drop]; omega)
    have h4 := Nat.pow_le_pow_right (show 0 < 2 by decide) h3
    have h5 : 2 ^ (left.length - i) = 2 ^ (left.length - (i + 1)) * 2 := by
      rw [show left.length - i = left.length - (i + 1) + 1 by omega, Nat.pow_succ]
    rw [clTo_succ, List.length_append]
    omega

theorem lexL_app : ∀ (s a b : List Nat), lexL (s ++ a) (s ++ b) ↔ lexL a b
  | [], _, _ => Iff.rfl
  | x :: s, a, b => by
    simp only [List.cons_append, lexL]
    rw [lexL_app s a b]
    exact ⟨fun h => h.elim (fun h => absurd h (Nat.lt_irrefl _)) fun h => h.2, fun h => .inr ⟨trivial, h⟩⟩

/-- Each goes on from the set by some that are left, in their order. -/
theorem clF_mem (E : Nat → Nat → Bool) : ∀ (k : Nat) (set left out : List Nat), left.Pairwise (· < ·) → ∀ x ∈ clF E k set left out, ∃ T, x = set ++ T ∧ T.Pairwise (· < ·) ∧ ∀ y ∈ T, y ∈ left
  | 0, _, _, _, _, _, h => by simp [clF] at h
  | k + 1, set, left, out, hr, x, h => by
    by_cases hh : left = [] ∧ out = []
    · obtain ⟨rfl, rfl⟩ := hh
      rw [clF_one] at h
      obtain rfl : x = set := by simpa using h
      exact ⟨[], by simp, by simp, by simp⟩
    · rw [clF_more E k set left out hh, clTo, List.mem_flatMap] at h
      obtain ⟨i, hi, h⟩ := h
      rw [List.mem_range] at hi
      have hg : left.getD i 0 = left[i] := by simp [hi]
      rw [hg] at h
      obtain ⟨T, rfl, h1, h2⟩ := clF_mem E k _ _ _ ((hr.sublist (List.drop_sublist _ _)).filter _) x h
      refine ⟨left[i] :: T, by simp, List.pairwise_cons.2 ⟨fun y hy => ?_, h1⟩, fun y hy => ?_⟩
      · have hm := (List.mem_filter.1 (h2 y hy)).1
        obtain ⟨j, hj, rfl⟩ := List.getElem_of_mem hm
        rw [List.length_drop] at hj
        rw [List.getElem_drop]
        exact List.pairwise_iff_getElem.1 hr i (i + 1 + j) hi (by omega) (by omega)
      · rcases List.mem_cons.1 hy with rfl | hy
        · exact List.getElem_mem hi
        · exact List.mem_of_mem_drop (List.mem_filter.1 (h2 y hy)).1
theorem clF_sorted (E : Nat → Nat → Bool) : ∀ (k : Nat) (set left out : List Nat), left.Pairwise (· < ·) → (clF E k set left out).Pairwise lexL
  | 0, _, _, _, _ => by simp [clF]
  | k + 1, set, left, out, hr => by
    by_cases hh : left = [] ∧ out = []
    · obtain ⟨rfl, rfl⟩ := hh
      rw [clF_one]
      simp
    · rw [clF_more E k set left out hh, clTo, List.pairwise_flatMap]
      refine ⟨fun i hi => clF_sorted E k _ _ _ ((hr.sublist (List.drop_sublist _ _)).filter _), ?_⟩
      refine List.Pairwise.imp_of_mem (fun {i j} hi hj hij x hx y hy => ?_) List.pairwise_lt_range
      rw [List.mem_range] at hi hj
      obtain ⟨T, rfl, _⟩ := clF_mem E k _ _ _ ((hr.sublist (List.drop_sublist _ _)).filter _) x hx
      obtain ⟨U, rfl, _⟩ := clF_mem E k _ _ _ ((hr.sublist (List.drop_sublist _ _)).filter _) y hy
      have h1 : left.getD i 0 = left[i] := by simp [hi]
      have h2 : left.getD j 0 = left[j] := by simp [hj]
      rw [List.append_assoc, List.append_assoc, lexL_app, h1, h2]
      exact .inl (List.pairwise_iff_getElem.1 hr i j hi hj hij)

/-- What CliquesOf finds. -/
def clsP (n : Nat) (E : Nat → Nat → Bool) : List (List Nat) := clF E (n + 1) [] (List.range n) []
theorem clsP_len (n : Nat) (E : Nat → Nat → Bool) : (clsP n E).length ≤ 2 ^ n := by
  have := clF_len E (n + 1) [] (List.range n) []
  rwa [List.length_range] at this
theorem clsP_mem {n : Nat} {E : Nat → Nat → Bool} {x : List Nat} (h : x ∈ clsP n E) : x.Pairwise (· < ·) ∧ ∀ y ∈ x, y < n := by
  obtain ⟨T, rfl, h1, h2⟩ := clF_mem E _ _ _ _ List.pairwise_lt_range x h
  exact ⟨by simpa using h1, fun y hy => List.mem_range.1 (h2 y (by simpa using hy))⟩
theorem clsP_sorted (n : Nat) (E : Nat → Nat → Bool) : (clsP n E).Pairwise lexL := clF_sorted E _ _ _ _ List.pairwise_lt_range

/-- -1, 0, 1: how two lists stand to each other. -/
noncomputable def cmpL (a b : List Nat) : Int := open Classical in if lexL a b then -1 else if lexL b a then 1 else 0
theorem cmpL_lt {a b : List Nat} : cmpL a b < 0 ↔ lexL a b := by
  unfold cmpL
  by_cases h : lexL a b
  · rw [if_pos h]; exact ⟨fun _ => h, fun _ => by decide⟩
  · rw [if_neg h]
    refine ⟨fun k => ?_, fun k => absurd k h⟩
    split at k <;> exact absurd k (by decide)

/-- A sorted arrangement of what was sorted strictly is the same. -/
theorem sorted_same {α : Type} (lt : α → α → Prop) (hirr : ∀ x, ¬ lt x x) (htr : ∀ {x y z}, lt x y → lt y z → lt x z) : ∀ (l m : List α), l.Perm m → l.Pairwise lt → m.Pairwise (fun x y => ¬ lt y x) → l = m
  | [], m, hp, _, _ => (List.Perm.nil_eq hp)
  | a :: l, [], hp, _, _ => absurd hp.length_eq (by simp)
  | a :: l, b :: m, hp, hl, hm => by
    have hab : a = b := by
      have h1 : b ∈ a :: l := hp.mem_iff.2 (by simp)
      have h2 : a ∈ b :: m := hp.mem_iff.1 (by simp)
      rcases List.mem_cons.1 h1 with h | h1
      · exact h.symm
      · rcases List.mem_cons.1 h2 with h | h2
        · exact h
        · exact absurd ((List.pairwise_cons.1 hl).1 b h1) ((List.pairwise_cons.1 hm).1 a h2)
    subst hab
    rw [sorted_same lt hirr htr l m hp.cons_inv hl.of_cons hm.of_cons]

end Go.Proofs.YtjdlmjmhlbpooaaDoor

/- Walks: l1Less, l12Bit, l12Set. -/
namespace Go.Proofs.YtjdlmjmhlbpooaaDoor
open Go.RowKit

theorem natInts_atL {l : List Nat} {k : Nat} (h : k < l.length) {h' : k < (natInts l).length} : (natInts l)[k] = ((l[k] : Nat) : Int) := by simp [natInts]
theorem lexL_at : ∀ (i : Nat) (a b : List Nat) (ha : i < a.length) (hb : i < b.length), a.take i = b.take i → a[i] ≠ b[i] → (lexL a b ↔ a[i] < b[i])
  | _, [], _, ha, _, _, _ => by simp at ha
  | _, _ :: _, [], _, hb, _, _ => by simp at hb
  | 0, x :: a, y :: b, _, _, _, hne => by
    simp only [List.getElem_cons_zero] at hne ⊢
    simp only [lexL]
    exact ⟨fun h => h.elim id fun h => absurd h.1 hne, .inl⟩
  | i + 1, x :: a, y :: b, ha, hb, ht, hne => by
    simp only [List.take_succ_cons, List.cons.injEq] at ht
    obtain ⟨rfl, ht⟩ := ht
    simp only [List.getElem_cons_succ] at hne ⊢
    simp only [lexL]
    rw [← lexL_at i a b (by simpa using ha) (by simpa using hb) ht hne]
    exact ⟨fun h => h.elim (fun h => absurd h (Nat.lt_irrefl _)) fun h => h.2, fun h => .inr ⟨trivial, h⟩⟩


theorem i64_and_nat (a b : Nat) (ha : a < 4294967296) (hb : b < 4294967296) : bits BinOp.and IntKind.i64 (a : Int) (b : Int) = ((a &&& b : Nat) : Int) :=
  (bits_nat .i64 32 (by decide) (fun n h1 h2 => by rw [IntKind.wrap_i64]; omega) a b (by omega) (by omega)).1

theorem wrap_pow (v : Nat) (hv : v < 32) : wrap64 (2 ^ v) = ((2 ^ v : Nat) : Int) := by
  have h1 := pow_lt32 v hv
  have e : (2 ^ v : Int) = ((2 ^ v : Nat) : Int) := by simp
  rw [e]
  generalize (2 ^ v : Nat) = t at *
  unfold wrap64
  omega

theorem bit_ne (s k : Nat) (hs : s < 65536) (hk : k < 17) : (bits BinOp.and IntKind.i64 (s : Int) ((2 ^ k : Nat) : Int) != 0) = s.testBit k := by
  have h1 := pow_lt32 k (by omega)
  rw [i64_and_nat _ _ (by omega) h1, Bool.eq_iff_iff]
  constructor
  · intro h
    refine Decidable.byContradiction fun hn => ?_
    have h0 : s &&& 2 ^ k = 0 := Nat.eq_of_testBit_eq fun j => by
      rw [Nat.testBit_and, Nat.testBit_two_pow, Nat.zero_testBit]
      by_cases hj : k = j
      · subst hj
        simpa using hn
      · simp [hj]
    rw [h0] at h
    simp at h
  · intro h
    have h0 : s &&& 2 ^ k ≠ 0 := fun h0 => by
      have := congrArg (fun z => z.testBit k) h0
      simp [h] at this
    simp only [bne_iff_ne, ne_eq]
    omega



def lowB (s k : Nat) : List Nat := (List.range k).filter fun i => s.testBit i
theorem lowB_len (s k : Nat) : (lowB s k).length ≤ k := Nat.le_trans (List.length_filter_le _ _) (by simp)
theorem lowB_yes {s k : Nat} (h : s.testBit k = true) : lowB s (k + 1) = lowB s k ++ [k] := by simp [lowB, List.range_succ, h]
theorem lowB_no {s k : Nat} (h : s.testBit k = false) : lowB s (k + 1) = lowB s k := by simp [lowB, List.range_succ, h]
theorem lowB_end {s k : Nat} (hs : s < 2 ^ k) (hk : k ≤ 32) : lowB s k = bitsOf s :=
  rising_ext _ _ (List.Pairwise.filter _ List.pairwise_lt_range) (bitsOf_rising s) fun x => by
    rw [mem_bitsOf, lowB, List.mem_filter, List.mem_range]
    constructor
    · rintro ⟨a, b⟩
      exact ⟨by omega, b⟩
    · rintro ⟨a, b⟩
      refine ⟨Nat.lt_of_not_le fun hge => ?_, b⟩
      have := Nat.testBit_lt_two_pow (Nat.lt_of_lt_of_le hs (Nat.pow_le_pow_right (by decide) hge) : s < 2 ^ x)
      rw [this] at b
      exact nomatch b


end Go.Proofs.YtjdlmjmhlbpooaaDoor

/- Walks: l8Meet, l1All (the reference's cliques). -/
namespace Go.Proofs.YtjdlmjmhlbpooaaDoor
open Go.RowKit

set_option maxRecDepth 100000 in
set_option maxHeartbeats 1000000 in
theorem l1All_any (z : Int) (n : Nat) (hz : z = n) (hn : n ≤ 1000) (w : World) :
    Calls Tryd.prog 73 #[.int .i64 z] w fun e w' => ∃ ov, e = .returned ov ∧ w'.ownsRow w.heap.size 2 1 ov n ((natInts (List.range n)).map (Value.int .i64)) ∧ Below w.heap.size w w' := by
  subst hz
  have HO := Lib.hid (ownsRow_empty w 2 1)
  have HB := Lib.hid (below_alloc w (.cells #[] 2))
  go_enter Tryd.func73, Tryd.ntmps73
  go_wp2
  go_loopw [3, 4] (fun o i wr => ∃ k : Nat, k ≤ n ∧ i = .int .i64 k ∧ wr.ownsRow w.heap.size 2 1 o k ((natInts (List.range k)).map (Value.int .i64)) ∧ Below w.heap.size w wr) (fun _ i _ => n - (intOf i).toNat)
  case atStart => exact ⟨0, Nat.zero_le _, rfl, HO.out, HB.out⟩
  case round =>
    obtain ⟨k, hk, rfl, hown, hbel⟩ := hrel
    have hsz := hbel.size
    by_cases hlt : k < n
    · go_wp2_with (at_builtin; refine wpList_app1 ty_i64 rfl rfl rfl hown rfl rfl (by omega) (by omega) ?_; intro v' w1 hown' hg _)
      go_roundw
      case rel => exact ⟨k + 1, by omega, by go_num, by rw [List.range_succ, show natInts (List.range k ++ [k]) = natInts (List.range k) ++ [(k : Int)] by simp [natInts], List.map_append]; exact hown', below_grown hbel hown hg (Nat.le_refl _) hsz⟩
      case measure => simp [intOf]; omega
    · obtain rfl : k = n := by omega
      go_wp2
      go_ret
      exact ⟨_, rfl, hown, hbel⟩

theorem nums_at {w : World} {E : TypeId} {p : Option Addr} {m c : Nat} {xs : List Int} (h : Nums w E .i64 (.slice p m c) xs) : At w E p (xs.map (Value.int .i64)) := by
  obtain ⟨p', c', e, _, _, _, hat⟩ := h
  simp only [Value.slice.injEq] at e
  obtain ⟨rfl, _, _⟩ := e
  exact hat
/-- Those of xs that are in ys, up to the k-th. -/
def meetL (xs : List Nat) (ys : List Int) (k : Nat) : List Nat := (xs.take k).filter fun j => decide ((j : Int) ∈ ys)
theorem meetL_succ {xs : List Nat} {ys : List Int} {k : Nat} (h : k < xs.length) : meetL xs ys (k + 1) = if ((xs[k] : Nat) : Int) ∈ ys then meetL xs ys k ++ [xs[k]] else meetL xs ys k := by
  unfold meetL
  rw [take_snoc _ k h, List.filter_append]
  by_cases hm : ((xs[k] : Nat) : Int) ∈ ys
  · rw [if_pos hm]; simp [hm]
  · rw [if_neg hm]; simp [hm]
theorem meetL_len (xs : List Nat) (ys : List Int) (k : Nat) : (meetL xs ys k).length ≤ xs.length := Nat.le_trans (List.length_filter_le _ _) (by rw [List.length_take]; omega)

end Go.Proofs.YtjdlmjmhlbpooaaDoor
