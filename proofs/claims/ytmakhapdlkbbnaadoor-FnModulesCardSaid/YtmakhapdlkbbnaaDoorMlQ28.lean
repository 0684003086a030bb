/- Plain: the greatest cliques, in the order in which both find them. -/
import Derived.Test.YtmakhapdlkbbnaaDoorMlQ11
import Derived.Test.YtmakhapdlkbbnaaDoorMlQ14
import Derived.Test.YtmakhapdlkbbnaaDoorMlQ5
import Derived.Test.YtmakhapdlkbbnaaDoorMlQ23
import Derived.Deep.RegionHeld3
import Derived.Deep.DeepCutAuto
import Derived.Test.YtmakhapdlkbbnaaDoorMlQ24
namespace Go.Proofs.YtmakhapdlkbbnaaDoor

/-- What is found with a set, those that are left, and those that may not come. -/
def clF (E : Nat → Nat → Bool) : Nat → List Nat → List Nat → List Nat → List (List Nat)
  | 0, _, _, _ => []
  | k + 1, set, left, out => if left = [] ∧ out = [] then [set] else
    (List.range left.length).flatMap fun i => clF E k (set ++ [left.getD i 0]) ((left.drop (i + 1)).filter (E (left.getD i 0))) ((out ++ left.take i).filter (E (left.getD i 0)))
def clTo (E : Nat → Nat → Bool) (k : Nat) (set left out : List Nat) (m : Nat) : List (List Nat) :=
  (List.range m).flatMap fun i => clF E k (set ++ [left.getD i 0]) ((left.drop (i + 1)).filter (E (left.getD i 0))) ((out ++ left.take i).filter (E (left.getD i 0)))
theorem clTo_zero (E : Nat → Nat → Bool) (k : Nat) (set left out : List Nat) : clTo E k set left out 0 = [] := rfl
theorem clTo_succ (E : Nat → Nat → Bool) (k : Nat) (set left out : List Nat) (m : Nat) :
    clTo E k set left out (m + 1) = clTo E k set left out m ++ clF E k (set ++ [left.getD m 0]) ((left.drop (m + 1)).filter (E (left.getD m 0))) ((out ++ left.take m).filter (E (left.getD m 0))) := by
  simp [clTo, List.range_succ, List.flatMap_append]
theorem clF_one (E : Nat → Nat → Bool) (k : Nat) (set : List Nat) : clF E (k + 1) set [] [] = [set] := by simp [clF]
theorem clF_none (E : Nat → Nat → Bool) (k : Nat) (set out : List Nat) (h : out ≠ []) : clF E (k + 1) set [] out = [] := by simp [clF, h]
theorem clF_more (E : Nat → Nat → Bool) (k : Nat) (set left out : List Nat) (h : ¬ (left = [] ∧ out = [])) : clF E (k + 1) set left out = clTo E k set left out left.length := by
  rw [clF, if_neg h]
  rfl

theorem clF_len (E : Nat → Nat → Bool) : ∀ (k : Nat) (set left out : List Nat), (clF E k set left out).length ≤ 2 ^ left.length
  | 0, _, _, _ => Nat.zero_le _
  | k + 1, set, left, out => by
    by_cases h : left = [] ∧ out = []
    · obtain ⟨rfl, rfl⟩ := h
      rw [clF_one]
      exact Nat.le_refl _
    · rw [clF_more E k set left out h]
      have main : ∀ i, i ≤ left.length → (clTo E k set left out i).length + 2 ^ (left.length - i) ≤ 2 ^ left.length := by
        intro i
        induction i with
        | zero => intro _; rw [clTo_zero]; simp
        | succ i ih =>
          intro hi
          have h1 := ih (by omega)
          have h2 := clF_len E k (set ++ [left.getD i 0]) ((left.drop (i + 1)).filter (E (left.getD i 0))) ((out ++ left.take i).filter (E (left.getD i 0)))
          have h3 : ((left.drop (i + 1)).filter (E (left.getD i 0))).length ≤ left.length - (i + 1) := Nat.le_trans (List.length_filter_le _ _) (by rw [List.length_drop]; omega)
          have h4 := Nat.pow_le_pow_right (show 0 < 2 by decide) h3
          have h5 : 2 ^ (left.length - i) = 2 ^ (left.length - (i + 1)) * 2 := by
            rw [show left.length - i = left.length - (i + 1) + 1 by omega, Nat.pow_succ]
          rw [clTo_succ, List.length_append]
          omega
      exact Nat.le_trans (Nat.le_add_right _ _) (main left.length (Nat.le_refl _))
theorem clTo_len {E : Nat → Nat → Bool} {k : Nat} {set left out : List Nat} : ∀ {i : Nat}, i ≤ left.length → (clTo E k set left out i).length + 2 ^ (left.length - i) ≤ 2 ^ left.length
  | 0, _ => by rw [clTo_zero]; simp
  | i + 1, hi => by
    have h1 := clTo_len (E := E) (k := k) (set := set) (left := left) (out := out) (i := i) (by omega)
    have h2 := clF_len E k (set ++ [left.getD i 0]) ((left.drop (i + 1)).filter (E (left.getD i 0))) ((out ++ left.take i).filter (E (left.getD i 0)))
    have h3 : ((left.drop (i + 1)).filter (E (left.getD i 0))).length ≤ left.length - (i + 1) := Nat.le_trans (List.length_filter_le _ _) (by rw [List.length_drop]; omega)
    have h4 := Nat.pow_le_pow_right (show 0 < 2 by decide) h3
    have h5 : 2 ^ (left.length - i) = 2 ^ (left.length - (i + 1)) * 2 := by
      rw [show left.length - i = left.length - (i + 1) + 1 by omega, Nat.pow_succ]
    rw [clTo_succ, List.length_append]
    omega

theorem lexL_app : ∀ (s a b : List Nat), lexL (s ++ a) (s ++ b) ↔ lexL a b
  | [], _, _ => Iff.rfl
  | x :: s, a, b => by
    simp only [List.cons_append, lexL]
    rw [lexL_app s a b]
    exact ⟨fun h => h.elim (fun h => absurd h (Nat.lt_irrefl _)) fun h => h.2, fun h => .inr ⟨trivial, h⟩⟩

/-- Each goes on from the set by some that are left, in their order. -/
theorem clF_mem (E : Nat → Nat → Bool) : ∀ (k : Nat) (set left out : List Nat), left.Pairwise (· < ·) → ∀ x ∈ clF E k set left out, ∃ T, x = set ++ T ∧ T.Pairwise (· < ·) ∧ ∀ y ∈ T, y ∈ left
  | 0, _, _, _, _, _, h => by simp [clF] at h
  | k + 1, set, left, out, hr, x, h => by
    by_cases hh : left = [] ∧ out = []
    · obtain ⟨rfl, rfl⟩ := hh
      rw [clF_one] at h
      obtain rfl : x = set := by simpa using h
      exact ⟨[], by simp, by simp, by simp⟩
    · rw [clF_more E k set left out hh, clTo, List.mem_flatMap] at h
      obtain ⟨i, hi, h⟩ := h
      rw [List.mem_range] at hi
      have hg : left.getD i 0 = left[i] := by simp [hi]
      rw [hg] at h
      obtain ⟨T, rfl, h1, h2⟩ := clF_mem E k _ _ _ ((hr.sublist (List.drop_sublist _ _)).filter _) x h
      refine ⟨left[i] :: T, by simp, List.pairwise_cons.2 ⟨fun y hy => ?_, h1⟩, fun y hy => ?_⟩
      · have hm := (List.mem_filter.1 (h2 y hy)).1
        obtain ⟨j, hj, rfl⟩ := List.getElem_of_mem hm
        rw [List.length_drop] at hj
        rw [List.getElem_drop]
        exact List.pairwise_iff_getElem.1 hr i (i + 1 + j) hi (by omega) (by omega)
      · rcases List.mem_cons.1 hy with rfl | hy
        · exact List.getElem_mem hi
        · exact List.mem_of_mem_drop (List.mem_filter.1 (h2 y hy)).1
theorem clF_sorted (E : Nat → Nat → Bool) : ∀ (k : Nat) (set left out : List Nat), left.Pairwise (· < ·) → (clF E k set left out).Pairwise lexL
  | 0, _, _, _, _ => by simp [clF]
  | k + 1, set, left, out, hr => by
    by_cases hh : left = [] ∧ out = []
    · obtain ⟨rfl, rfl⟩ := hh
      rw [clF_one]
      simp
    · rw [clF_more E k set left out hh, clTo, List.pairwise_flatMap]
      refine ⟨fun i hi => clF_sorted E k _ _ _ ((hr.sublist (List.drop_sublist _ _)).filter _), ?_⟩
      refine List.Pairwise.imp_of_mem (fun {i j} hi hj hij x hx y hy => ?_) List.pairwise_lt_range
      rw [List.mem_range] at hi hj
      obtain ⟨T, rfl, _⟩ := clF_mem E k _ _ _ ((hr.sublist (List.drop_sublist _ _)).filter _) x hx
      obtain ⟨U, rfl, _⟩ := clF_mem E k _ _ _ ((hr.sublist (List.drop_sublist _ _)).filter _) y hy
      have h1 : left.getD i 0 = left[i] := by simp [hi]
      have h2 : left.getD j 0 = left[j] := by simp [hj]
      rw [List.append_assoc, List.append_assoc, lexL_app, h1, h2]
      exact .inl (List.pairwise_iff_getElem.1 hr i j hi hj hij)

/-- What CliquesOf finds. -/
def clsP (n : Nat) (E : Nat → Nat → Bool) : List (List Nat) := clF E (n + 1) [] (List.range n) []
theorem clsP_len (n : Nat) (E : Nat → Nat → Bool) : (clsP n E).length ≤ 2 ^ n := by
  have := clF_len E (n + 1) [] (List.range n) []
  rwa [List.length_range] at this
theorem clsP_mem {n : Nat} {E : Nat → Nat → Bool} {x : List Nat} (h : x ∈ clsP n E) : x.Pairwise (· < ·) ∧ ∀ y ∈ x, y < n := by
  obtain ⟨T, rfl, h1, h2⟩ := clF_mem E _ _ _ _ List.pairwise_lt_range x h
  exact ⟨by simpa using h1, fun y hy => List.mem_range.1 (h2 y (by simpa using hy))⟩
theorem clsP_sorted (n : Nat) (E : Nat → Nat → Bool) : (clsP n E).Pairwise lexL := clF_sorted E _ _ _ _ List.pairwise_lt_range

/-- -1, 0, 1: how two lists stand to each other. -/
noncomputable def cmpL (a b : List Nat) : Int := open Classical in if lexL a b then -1 else if lexL b a then 1 else 0
theorem cmpL_lt {a b : List Nat} : cmpL a b < 0 ↔ lexL a b := by
  unfold cmpL
  by_cases h : lexL a b
  · rw [if_pos h]; exact ⟨fun _ => h, fun _ => by decide⟩
  · rw [if_neg h]
    refine ⟨fun k => ?_, fun k => absurd k h⟩
    split at k <;> exact absurd k (by decide)

/-- A sorted arrangement of what was sorted strictly is the same. -/
theorem sorted_same {α : Type} (lt : α → α → Prop) (hirr : ∀ x, ¬ lt x x) (htr : ∀ {x y z}, lt x y → lt y z → lt x z) : ∀ (l m : List α), l.Perm m → l.Pairwise lt → m.Pairwise (fun x y => ¬ lt y x) → l = m
  | [], m, hp, _, _ => (List.Perm.nil_eq hp)
  | a :: l, [], hp, _, _ => absurd hp.length_eq (by simp)
  | a :: l, b :: m, hp, hl, hm => by
    have hab : a = b := by
      have h1 : b ∈ a :: l := hp.mem_iff.2 (by simp)
      have h2 : a ∈ b :: m := hp.mem_iff.1 (by simp)
      rcases List.mem_cons.1 h1 with h | h1
      · exact h.symm
      · rcases List.mem_cons.1 h2 with h | h2
        · exact h
        · exact absurd ((List.pairwise_cons.1 hl).1 b h1) ((List.pairwise_cons.1 hm).1 a h2)
    subst hab
    rw [sorted_same lt hirr htr l m hp.cons_inv hl.of_cons hm.of_cons]

end Go.Proofs.YtmakhapdlkbbnaaDoor

/- Walks: l8Meet, l1All (the reference's cliques). -/
namespace Go.Proofs.YtmakhapdlkbbnaaDoor
open Go.RowKit

set_option maxRecDepth 100000 in
set_option maxHeartbeats 1000000 in
theorem l1All_any (z : Int) (n : Nat) (hz : z = n) (hn : n ≤ 1000) (w : World) :
    Calls Tryd.prog 100 #[.int .i64 z] w fun e w' => ∃ ov, e = .returned ov ∧ w'.ownsRow w.heap.size 2 1 ov n ((natInts (List.range n)).map (Value.int .i64)) ∧ Below w.heap.size w w' := by
  subst hz
  have HO := Lib.hid (ownsRow_empty w 2 1)
  have HB := Lib.hid (below_alloc w (.cells #[] 2))
  go_enter Tryd.func100, Tryd.ntmps100
  go_wp2
  go_loopw [3, 4] (fun o i wr => ∃ k : Nat, k ≤ n ∧ i = .int .i64 k ∧ wr.ownsRow w.heap.size 2 1 o k ((natInts (List.range k)).map (Value.int .i64)) ∧ Below w.heap.size w wr) (fun _ i _ => n - (intOf i).toNat)
  case atStart => exact ⟨0, Nat.zero_le _, rfl, HO.out, HB.out⟩
  case round =>
    obtain ⟨k, hk, rfl, hown, hbel⟩ := hrel
    have hsz := hbel.size
    by_cases hlt : k < n
    · go_wp2_with (at_builtin; refine wpList_app1 ty_i64 rfl rfl rfl hown rfl rfl (by omega) (by omega) ?_; intro v' w1 hown' hg _)
      go_roundw
      case rel => exact ⟨k + 1, by omega, by go_num, by rw [List.range_succ, show natInts (List.range k ++ [k]) = natInts (List.range k) ++ [(k : Int)] by simp [natInts], List.map_append]; exact hown', below_grown hbel hown hg (Nat.le_refl _) hsz⟩
      case measure => simp [intOf]; omega
    · obtain rfl : k = n := by omega
      go_wp2
      go_ret
      exact ⟨_, rfl, hown, hbel⟩

theorem nums_at {w : World} {E : TypeId} {p : Option Addr} {m c : Nat} {xs : List Int} (h : Nums w E .i64 (.slice p m c) xs) : At w E p (xs.map (Value.int .i64)) := by
  obtain ⟨p', c', e, _, _, _, hat⟩ := h
  simp only [Value.slice.injEq] at e
  obtain ⟨rfl, _, _⟩ := e
  exact hat
/-- Those of xs that are in ys, up to the k-th. -/
def meetL (xs : List Nat) (ys : List Int) (k : Nat) : List Nat := (xs.take k).filter fun j => decide ((j : Int) ∈ ys)
theorem meetL_succ {xs : List Nat} {ys : List Int} {k : Nat} (h : k < xs.length) : meetL xs ys (k + 1) = if ((xs[k] : Nat) : Int) ∈ ys then meetL xs ys k ++ [xs[k]] else meetL xs ys k := by
  unfold meetL
  rw [take_snoc _ k h, List.filter_append]
  by_cases hm : ((xs[k] : Nat) : Int) ∈ ys
  · rw [if_pos hm]; simp [hm]
  · rw [if_neg hm]; simp [hm]
theorem meetL_len (xs : List Nat) (ys : List Int) (k : Nat) : (meetL xs ys k).length ≤ xs.length := Nat.le_trans (List.length_filter_le _ _) (by rw [List.length_take]; omega)

end Go.Proofs.YtmakhapdlkbbnaaDoor

/- Walks: l8Cliques. -/
namespace Go.Proofs.YtmakhapdlkbbnaaDoor
open Go.RowKit

theorem wanted_wp {o : Oper} {y : Nat → Option Bool} {X F : Prop} (h : o.guard = none) (k : X) : if Region.wanted o y = true then X else F := by
  have hw : Region.wanted o y = true := by simp [Region.wanted, h]
  rw [if_pos hw]
  exact k
theorem wp_apps {P : Program} {T E : TypeId} {z : Value} {size bytes : Nat} (S : SlTy P T E z size bytes) {w : World} {o : Oper} {a : Act} {K : Act → World → Prop} {Q : Exit → Act → World → Prop}
    {s x : Operand} (ho : o.op = .call { callee := .builtin .append, args := #[s, x], argTypes := #[T, T] })
    {base : Nat} {v : Value} {n : Nat} {xs : List Value} (hs : a.eval s = v) (hown : w.ownsRow base E size v n xs)
    {u : Value} {m : Nat} {news : List Value} (hx : a.eval x = u) (hu : Sl w E u m news) (hl : news.length = m * size) (h1 : ∀ x ∈ news, x.oneCell' = true)
    (hnm : n + m ≤ 1000000000) (hbase : base ≤ w.heap.size)
    (h : ∀ v' w', w'.ownsRow base E size v' (n + m) (xs ++ news) → w.grownBy w' v.ownBlock → K (a.put o.dst v') w') :
    Oper.wp P o a w K Q := by
  obtain ⟨v', w', hr, h2, h3, h4⟩ := run_app S w o.type base v n xs hown u m news hu hl h1 hnm hbase
  unfold Oper.wp execOp
  simp only [ho, resolve, invoke, builtin, Sem.run_bind, Sem.run_pure, Result.andThen_ok, List.map_toArray, List.map_cons, List.map_nil, hs, hx, hr]
  exact h v' w' h2 h3
theorem Nums.slC {w w' : World} {E : TypeId} {v : Value} {l : List Nat} (h : Nums w E .i64 v (natInts l)) (hb : Below w.heap.size w w') : Sl w' E v l.length ((natInts l).map (Value.int .i64)) := by
  have := h.below hb
  unfold Nums at this
  rwa [natInts_length] at this
theorem built_sl {w w' : World} {x : Int} (hb : Below (w.alloc (.cells #[.int .i64 x] 2)).heap.size ((w.alloc (.cells #[.int .i64 x] 2)).drewN 1) w') : Sl w' 2 (.slice (some ⟨w.heap.size, 0, none⟩) 1 1) 1 [Value.int .i64 x] := by
  have h : Sl ((w.alloc (.cells #[.int .i64 x] 2)).drewN 1) 2 (.slice (some ⟨w.heap.size, 0, none⟩) 1 1) 1 [Value.int .i64 x] := by
    refine ⟨_, 1, rfl, (fun e => by cases e), Nat.le_refl _, by omega, Or.inr ⟨w.heap.size, 0, #[.int .i64 x], (0, 0), rfl, heap_alloc_new w _, ?_⟩⟩
    intro j u hu
    match j, hu with
    | 0, hu => simpa using hu
    | j + 1, hu => simp at hu
  exact h.below hb
theorem owns_shapeT {w : World} {base : Nat} {E : TypeId} {size n : Nat} {v : Value} {xs : List Value} (h : w.ownsRow base E size v n xs) : ∃ p c, v = .slice p n c := by
  rcases h.2 with ⟨rfl, h0⟩ | ⟨b, c, _, rfl, _⟩
  · exact ⟨none, 0, by rw [h0]⟩
  · exact ⟨_, _, rfl⟩
theorem row_nat {ps : List (List Nat)} {j : Nat} (h : j < ps.length) : row (ps.map natInts) j = natInts ps[j] := by simp [row, h]
theorem SG.app {w w' : World} {base : Nat} {u u' : Value} {ps qs : List (List Nat)} {vals vals2 : List Value} (hl : vals.length = ps.length) (hl2 : vals2.length = qs.length) (ho : w.ownsRow base 36 1 u ps.length vals) (hr : ∀ j, j < ps.length → Nums w 2 .i64 (vals.getD j undef) (row (ps.map natInts) j))
    (hr2 : ∀ j, j < qs.length → Nums w 2 .i64 (vals2.getD j undef) (row (qs.map natInts) j)) (ho' : w'.ownsRow base 36 1 u' (ps.length + qs.length) (vals ++ vals2)) (hg : w.grownBy w' u.ownBlock) : SG w' base (.agg #[u']) ((ps ++ qs).map natInts) := by
  refine ⟨u', vals ++ vals2, rfl, by simp [hl, hl2], by rw [List.length_map, List.length_append]; exact ho', fun j hj => ?_⟩
  rw [List.length_map, List.length_append] at hj
  rw [row_nat (by rw [List.length_append]; exact hj)]
  by_cases h : j < ps.length
  · have e : (vals ++ vals2).getD j undef = vals.getD j undef := by
      rw [List.getD_eq_getElem?_getD, List.getD_eq_getElem?_getD, List.getElem?_append_left (by omega)]
    rw [e, List.getElem_append_left h, ← row_nat h]
    exact (hr j h).other ho hg (by decide)
  · have e : (vals ++ vals2).getD j undef = vals2.getD (j - ps.length) undef := by
      rw [List.getD_eq_getElem?_getD, List.getD_eq_getElem?_getD, List.getElem?_append_right (by omega), hl]
    rw [e, List.getElem_append_right (by omega), ← row_nat (by omega)]
    exact (hr2 _ (by omega)).other ho hg (by decide)
theorem sg_baseC {w : World} {b B : Nat} {v : Value} {g : List (List Int)} (h : SG w B v g) (hb : b ≤ B) : SG w b v g := by
  obtain ⟨u, vals, h1, h2, h3, h4⟩ := h
  exact ⟨u, vals, h1, h2, ownsRow_base h3 hb, h4⟩
theorem sg_one {w : World} {base : Nat} {v : Value} {l : List Nat} (hb : base ≤ w.heap.size) (h : Nums w 2 .i64 v (natInts l)) :
    SG (w.alloc (.cells #[v] 36)) base (.agg #[.slice (some ⟨w.heap.size, 0, none⟩) 1 1]) ([l].map natInts) := by
  refine ⟨_, [v], rfl, rfl, ⟨rfl, .inr ⟨w.heap.size, 1, #[v], rfl, hb, heap_alloc_new w _, Nat.le_refl _, by decide, rfl, rfl⟩⟩, fun j hj => ?_⟩
  obtain rfl : j = 0 := by simp at hj; omega
  exact h.below (below_alloc w _)
theorem sg_cells {w : World} {gg : List (List Int)} {vals : List Value} (hl : vals.length = gg.length) (h : ∀ j, j < gg.length → Nums w 2 .i64 (vals.getD j undef) (row gg j)) : ∀ x ∈ vals, x.oneCell' = true := by
  intro x hx
  obtain ⟨j, hj, rfl⟩ := List.getElem_of_mem hx
  have hn := h j (by omega)
  have e : vals.getD j undef = vals[j] := by rw [List.getD_eq_getElem?_getD, List.getElem?_eq_getElem hj]; rfl
  rw [e] at hn
  obtain ⟨p, c, e, _⟩ := hn.shape
  rw [e]
  rfl

def adS (g : List (List Int)) : Nat → Nat → Bool := fun r j => decide ((j : Int) ∈ row g r)

theorem nums_drop1 {w : World} {E : TypeId} {b o c k : Nat} {l : List Nat} (hk : k ≤ l.length) (h : Nums w E .i64 (.slice (some ⟨b, o, none⟩) l.length c) (natInts l)) : Nums w E .i64 (.slice (some ⟨b, o + k, none⟩) (l.length - k) (c - k)) (natInts (l.drop k)) := by
  obtain ⟨p, c', e, _, hnc, hn, hat⟩ := h.shape
  simp only [Value.slice.injEq] at e
  obtain ⟨rfl, -, rfl⟩ := e
  rw [natInts_length] at hnc hn
  refine ⟨_, _, by rw [natInts_length, List.length_drop], (fun e => by cases e), by rw [natInts_length, List.length_drop]; omega, by rw [natInts_length, List.length_drop]; omega, ?_⟩
  have e3 : (natInts (l.drop k)).map (Value.int .i64) = ((natInts l).map (Value.int .i64)).drop k := by simp [natInts, List.map_drop]
  rw [e3]
  exact hat.drop k
theorem nums_drop0 {w : World} {E : TypeId} {b o c k : Nat} {l : List Nat} (hk : l.length = k) (_h : Nums w E .i64 (.slice (some ⟨b, o, none⟩) l.length c) (natInts l)) : Nums w E .i64 (.slice (some ⟨b, o, none⟩) 0 0) (natInts (l.drop k)) := by
  have e : l.drop k = [] := List.drop_of_length_le (by omega)
  rw [e]
  exact ⟨_, 0, rfl, (fun e => by cases e), by simp [natInts], by simp [natInts], .inl rfl⟩
theorem take_sl {w : World} {E : TypeId} {a : Addr} {n c k : Nat} {l : List Nat} (hk : k ≤ l.length) (h : Nums w E .i64 (.slice (some a) n c) (natInts l)) : Sl w E (.slice (some a) k c) k ((natInts (l.take k)).map (Value.int .i64)) := by
  obtain ⟨p, c', e, _, hnc, hn, hat⟩ := h.shape
  simp only [Value.slice.injEq] at e
  obtain ⟨rfl, -, rfl⟩ := e
  rw [natInts_length] at hnc hn
  refine ⟨_, _, rfl, (fun e => by cases e), by omega, by omega, ?_⟩
  have e3 : (natInts (l.take k)).map (Value.int .i64) = ((natInts l).map (Value.int .i64)).take k := by simp [natInts, List.map_take]
  rw [e3]
  exact hat.take k
theorem natInts_app (l m : List Nat) : natInts (l ++ m) = natInts l ++ natInts m := by simp [natInts]
theorem meet_end {w : World} {base : Nat} {E : TypeId} {v : Value} {xs : List Nat} {g : List (List Int)} {y : Nat} (h : w.ownsRow base E 1 v (meetL xs (g.getD y []) xs.length).length ((natInts (meetL xs (g.getD y []) xs.length)).map (Value.int .i64))) :
    w.ownsRow base E 1 v (xs.filter (adS g y)).length ((natInts (xs.filter (adS g y))).map (Value.int .i64)) := by
  have e : meetL xs (g.getD y []) xs.length = xs.filter (adS g y) := by
    unfold meetL
    rw [List.take_length]
    rfl
  rwa [e] at h

end Go.Proofs.YtmakhapdlkbbnaaDoor
