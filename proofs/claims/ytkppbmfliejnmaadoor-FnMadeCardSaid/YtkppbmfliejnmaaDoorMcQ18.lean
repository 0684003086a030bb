/- Walks: the reference's rows of a code, and its test of a small graph. -/
import Derived.Test.YtkppbmfliejnmaaDoorMcQ16
import Derived.Test.YtkppbmfliejnmaaDoorMcQ13
import Derived.Test.YtkppbmfliejnmaaDoorMcQ12
import Derived.Test.YtkppbmfliejnmaaDoorMcQ17
import Derived.Test.YtkppbmfliejnmaaDoorMcQ15
import Derived.Test.YtkppbmfliejnmaaDoorMcQ3
import Derived.Test.YtkppbmfliejnmaaDoorMcQ4
import Derived.Deep.RegionHeld3
import Derived.Deep.DeepCutAuto
import Derived.Test.YtkppbmfliejnmaaDoorMcQ2
import Derived.Deep.RegionHeld
import Derived.Deep.RegionLaw
namespace Go.Proofs.YtkppbmfliejnmaaDoor
open Go.RowKit

/-- Edges of a graph, as a search of orders looks at them. -/
def edB (g : List (List Int)) : Nat → Nat → Bool := fun u v => decide ((v : Int) ∈ row g u)

set_option maxHeartbeats 400000 in
theorem l1Flag_any (b : Bool) (w : World) : Calls Tryd.prog 204 #[.bool b] w fun e w' => e = .returned (.int .i64 ((if b then 1 else 0 : Nat) : Int)) ∧ w = w' := by
  cases b
  · go_enter Tryd.func204, Tryd.ntmps204
    go_wp2
    go_ret
    exact ⟨rfl, rfl⟩
  · go_enter Tryd.func204, Tryd.ntmps204
    go_wp2
    go_ret
    exact ⟨rfl, rfl⟩

set_option maxRecDepth 100000 in
set_option maxHeartbeats 1000000 in
theorem l4Small_any (v : Value) (g : List (List Int)) (w : World) (hg : Gr w v g) :
    Calls Tryd.prog 131 #[v] w fun e w' => e = .returned (.bool (dec (GOk g ∧ g.length ≤ 8))) ∧ Below w.heap.size w w' := by
  have hg0 := hg
  obtain ⟨u, rfl, hr⟩ := hg
  obtain ⟨p, c, rfl, _, _, _⟩ := hr.shape
  have hbA := Lib.hid (below_alloc w (.cells #[.slice p g.length c] 29))
  have HG := Lib.hid (hg0.below hbA.out)
  have BX := Lib.hid (Box.new w (.slice p g.length c) 29)
  clear hr hg0
  by_cases hok : GOk g
  · have hd := dec_true hok
    have h16 := hok.le
    have Hok := Lib.hid hok
    clear hok
    by_cases h8 : g.length ≤ 8
    · have h8' : (g.length : Int) ≤ 8 := by omega
      have H8 := Lib.hid h8
      clear h8
      go_enter Tryd.func131, Tryd.ntmps131
      go_wp2_with (first
        | (go_at_call 73; refine (specGraphOk_any _ g _ HG.out).mono ?_; rintro e w2 ⟨rfl, hb2⟩; have hb := Lib.hid (hbA.out.trans (hb2.mono hbA.out.size)); have HG2 := Lib.hid (HG.out.below hb2); have hbx := (BX.out.keep hb2).cell; clear hb2)
        | (go_at_call 132; refine (l1Size_any _ g _ HG2.out).mono ?_; rintro e w3 ⟨rfl, hb3⟩))
      go_ret
      exact ⟨ret_bool (true_dec ⟨Hok.out, H8.out⟩), hb.out.trans (hb3.mono hb.out.size)⟩
    · have h8' : ¬ (g.length : Int) ≤ 8 := by omega
      have H8 := Lib.hid h8
      clear h8
      go_enter Tryd.func131, Tryd.ntmps131
      go_wp2_with (first
        | (go_at_call 73; refine (specGraphOk_any _ g _ HG.out).mono ?_; rintro e w2 ⟨rfl, hb2⟩; have hb := Lib.hid (hbA.out.trans (hb2.mono hbA.out.size)); have HG2 := Lib.hid (HG.out.below hb2); have hbx := (BX.out.keep hb2).cell; clear hb2)
        | (go_at_call 132; refine (l1Size_any _ g _ HG2.out).mono ?_; rintro e w3 ⟨rfl, hb3⟩))
      go_ret
      exact ⟨ret_bool ((decide_eq_false (by omega : ¬ (g.length : Int) ≤ 8)).trans (false_dec fun h => H8.out h.2)), hb.out.trans (hb3.mono hb.out.size)⟩
  · have hd := dec_false hok
    have Hok := Lib.hid hok
    clear hok
    go_enter Tryd.func131, Tryd.ntmps131
    go_wp2_with (go_at_call 73; refine (specGraphOk_any _ g _ HG.out).mono ?_; rintro e w2 ⟨rfl, hb2⟩; have hb := Lib.hid (hbA.out.trans (hb2.mono hbA.out.size)); clear hb2)
    go_ret
    exact ⟨ret_bool (false_dec fun h => Hok.out h.1), hb.out⟩

theorem rowC_take {E : Nat → Nat → Bool} {o : List Nat} {v k : Nat} (h : k < o.length) : rowC E (o.take (k + 1)) v = rowC E (o.take k) v ++ [if E o[k] v then 1 else 0] := by
  unfold rowC; rw [take_snoc' o k h, List.map_append]; rfl
theorem natInts_snoc (l : List Nat) (x : Nat) : natInts (l ++ [x]) = natInts l ++ [(x : Int)] := by simp [natInts]

end Go.Proofs.YtkppbmfliejnmaaDoor

/- Walk: the reference's search of the least code, place by place. -/
namespace Go.Proofs.YtkppbmfliejnmaaDoor
open Go.RowKit

theorem freeV_len (n : Nat) (o : List Nat) : (freeV n o).length ≤ n := Nat.le_trans (List.length_filter_le _ _) (by simp)
theorem candC_len (n : Nat) : ∀ B : List (List Nat), (candC n B).length ≤ B.length * n
  | [] => by simp [candC]
  | o :: B => by
    have h1 := candC_len n B
    have h2 := freeV_len n o
    have e : candC n (o :: B) = (freeV n o).map (fun v => (o, v)) ++ candC n B := by simp [candC]
    rw [e, List.length_append, List.length_map, List.length_cons, Nat.add_mul]
    omega
theorem addI_len {E : Nat → Nat → Bool} {C : List (List Nat × Nat)} {s : List (List Nat) × List Nat} (h : AddI E C s) : s.1.length ≤ C.length := by
  rcases h with ⟨_, rfl⟩ | ⟨_, _, h, _⟩
  · simp
  · rw [h, List.length_map]; exact List.length_filter_le _ _
theorem levB_len {n : Nat} (h8 : n ≤ 8) (E : Nat → Nat → Bool) : ∀ k, (levB n E k).length ≤ 8 ^ k
  | 0 => by simp [levB]
  | k + 1 => by
    have h1 := levB_len h8 E k
    have hI := addI_fold (E := E) (candC n (levB n E k)) [] ([], []) (.inl ⟨rfl, rfl⟩)
    rw [List.nil_append] at hI
    have h2 := addI_len hI
    have h3 := candC_len n (levB n E k)
    have h4 : (levB n E k).length * n ≤ 8 ^ k * 8 := Nat.mul_le_mul h1 h8
    have e : levB n E (k + 1) = ((candC n (levB n E k)).foldl (addC E) ([], [])).1 := rfl
    rw [e, Nat.pow_succ]
    omega
theorem levB_ord {n k : Nat} {E : Nat → Nat → Bool} (hk : k ≤ n) {o : List Nat} (ho : o ∈ levB n E k) : o.length = k ∧ (∀ u ∈ o, u < n) ∧ o.Nodup := by
  obtain ⟨m, h1, _⟩ := levB_is n E k hk
  rw [h1] at ho
  obtain ⟨p, hp, rfl⟩ := List.mem_map.1 ho
  obtain ⟨h, _⟩ := lev_ord n E k p (List.mem_filter.1 hp).1
  exact ⟨h.len, h.lt, h.nod⟩
theorem natInts_inj {a b : List Nat} : natInts a = natInts b ↔ a = b := by
  constructor
  · intro h
    have h2 := congrArg (List.map Int.toNat) h
    have e : ∀ l : List Nat, (natInts l).map Int.toNat = l := fun l => by
      unfold natInts
      rw [List.map_map]
      conv => rhs; rw [← List.map_id l]
      exact List.map_congr_left fun x _ => Int.toNat_natCast x
    rw [e, e] at h2
    exact h2
  · rintro rfl; rfl
theorem lessP_lex {a b : List Nat} (h : a.length = b.length) : lessP a b ↔ lexL a b := by
  unfold lessP
  constructor
  · rintro (k | ⟨_, k⟩)
    · omega
    · exact k
  · exact fun k => .inr ⟨h, k⟩

theorem addI_row {E : Nat → Nat → Bool} {C : List (List Nat × Nat)} {s : List (List Nat) × List Nat} {k : Nat} (h : AddI E C s) (hne : s.1 ≠ []) (hC : ∀ c ∈ C, c.1.length = k) : s.2.length = k := by
  rcases h with ⟨_, rfl⟩ | ⟨_, _, h, _⟩
  · exact absurd rfl hne
  · obtain ⟨y, hy⟩ := List.exists_mem_of_ne_nil _ hne
    rw [h] at hy
    obtain ⟨c, hc, _⟩ := List.mem_map.1 hy
    obtain ⟨h1, h2⟩ := List.mem_filter.1 hc
    rw [← of_decide_eq_true h2, rowC_length]
    exact hC c h1

/-- The candidates up to vertex v at one order. -/
def partV (o : List Nat) (v : Nat) : List (List Nat × Nat) := ((List.range v).filter fun u => decide (u ∉ o)).map fun u => (o, u)
theorem partV_zero (o : List Nat) : partV o 0 = [] := rfl
theorem partV_yes {o : List Nat} {v : Nat} (h : v ∉ o) : partV o (v + 1) = partV o v ++ [(o, v)] := by simp [partV, List.range_succ, h]
theorem partV_no {o : List Nat} {v : Nat} (h : v ∈ o) : partV o (v + 1) = partV o v := by simp [partV, List.range_succ, h]
theorem cand_take {n : Nat} {B : List (List Nat)} {i : Nat} (h : i < B.length) : candC n (B.take (i + 1)) = candC n (B.take i) ++ partV B[i] n := by
  unfold candC
  rw [take_snoc' B i h, List.flatMap_append, List.flatMap_cons, List.flatMap_nil, List.append_nil]
  rfl

/-- One set of rows more. -/
theorem SG.snocB {w w' : World} {base : Nat} {u u' rv : Value} {g : List (List Int)} {s : List Int} {vals : List Value} (hl : vals.length = g.length) (ho : w.ownsRow base 33 1 u g.length vals) (hr : ∀ j, j < g.length → Nums w 2 .i64 (vals.getD j undef) (row g j))
    (ho' : w'.ownsRow base 33 1 u' (g.length + 1) (vals ++ [rv])) (hg : w.grownBy w' u.ownBlock) (hn : Nums w 2 .i64 rv s) : SG w' base (.agg #[u']) (g ++ [s]) := by
  refine ⟨u', vals ++ [rv], rfl, by simp [hl], by rw [List.length_append]; exact ho', fun j hj => ?_⟩
  rw [List.length_append] at hj
  simp only [List.length_cons, List.length_nil] at hj
  by_cases h : j < g.length
  · rw [getD_append_left _ _ _ _ (by omega)]
    have e : row (g ++ [s]) j = row g j := by simp [row, List.getElem?_append_left h]
    rw [e]
    exact (hr j h).other ho hg (by decide)
  · have hj' : j = g.length := by omega
    subst hj'
    have e : row (g ++ [s]) g.length = s := by simp [row]
    rw [e, ← hl, getD_append_last]
    exact hn.other ho hg (by decide)

end Go.Proofs.YtkppbmfliejnmaaDoor

/- Walks: slices.Compare at numbers; compareSets. -/
namespace Go.Proofs.YtkppbmfliejnmaaDoor
open Go.RowKit

set_option maxHeartbeats 400000 in
theorem isNaN_int64 (x : Int) (w : World) : Calls Tryd.prog 256 #[.int .i64 x] w fun e w' => e = .returned (.bool false) ∧ w = w' := by
  go_enter Tryd.func256, Tryd.ntmps256
  go_wp2
  go_ret
  exact ⟨ret_bool (by simp), rfl⟩
set_option maxHeartbeats 400000 in
theorem cmp_less64 (x y : Int) (h : x < y) (w : World) : Calls Tryd.prog 237 #[.int .i64 x, .int .i64 y] w fun e w' => e = .returned (.int .i64 (-1)) ∧ w = w' := by
  go_enter Tryd.func237, Tryd.ntmps237
  go_wp2_with (go_at_call 256; refine (isNaN_int64 _ _).mono ?_; rintro e w' ⟨rfl, rfl⟩)
  go_ret
  exact ⟨rfl, rfl⟩
set_option maxHeartbeats 400000 in
theorem cmp_more64 (x y : Int) (h : y < x) (w : World) : Calls Tryd.prog 237 #[.int .i64 x, .int .i64 y] w fun e w' => e = .returned (.int .i64 1) ∧ w = w' := by
  have h2 : ¬ x < y := by omega
  go_enter Tryd.func237, Tryd.ntmps237
  go_wp2_with (go_at_call 256; refine (isNaN_int64 _ _).mono ?_; rintro e w' ⟨rfl, rfl⟩)
  go_ret
  exact ⟨rfl, rfl⟩
set_option maxHeartbeats 400000 in
theorem cmp_same64 (x y : Int) (h : x = y) (w : World) : Calls Tryd.prog 237 #[.int .i64 x, .int .i64 y] w fun e w' => e = .returned (.int .i64 0) ∧ w = w' := by
  subst h
  have h2 : ¬ x < x := by omega
  go_enter Tryd.func237, Tryd.ntmps237
  go_wp2_with (go_at_call 256; refine (isNaN_int64 _ _).mono ?_; rintro e w' ⟨rfl, rfl⟩)
  go_ret
  exact ⟨rfl, rfl⟩

theorem cmpL_neg64 {a b : List Nat} (h : lexL a b) : cmpL a b = -1 := if_pos h
theorem cmpL_pos64 {a b : List Nat} (h : lexL b a) : cmpL a b = 1 := by
  unfold cmpL
  rw [if_neg fun k => lexL_irrefl a (lexL_trans k h), if_pos h]
theorem cmpL_zero64 {a b : List Nat} (h : a = b) : cmpL a b = 0 := by
  subst h
  unfold cmpL
  rw [if_neg (lexL_irrefl a), if_neg (lexL_irrefl a)]
theorem lexL_pre64 : ∀ {a b : List Nat}, a.length < b.length → a = b.take a.length → lexL a b
  | [], [], h, _ => absurd h (by simp)
  | [], _ :: _, _, _ => trivial
  | _ :: _, [], h, _ => absurd h (by simp)
  | x :: a, y :: b, h, k => by
    simp only [List.length_cons, List.take_succ_cons, List.cons.injEq] at k
    simp only [List.length_cons] at h
    exact .inr ⟨k.1, lexL_pre64 (by omega) k.2⟩

set_option maxRecDepth 100000 in
set_option maxHeartbeats 2000000 in
theorem slCompare64_any (u v : Value) (xs ys : List Nat) (w : World) (hx : Nums w 2 .i64 u (natInts xs)) (hy : Nums w 2 .i64 v (natInts ys)) :
    Calls Tryd.prog 201 #[u, v] w fun e w' => e = .returned (.int .i64 (cmpL xs ys)) ∧ ∃ q, w' = w.drewN q := by
  obtain ⟨p, c, rfl, hp, _, hn, hat⟩ := hx
  obtain ⟨p', c', rfl, hp', _, hn', hat'⟩ := hy
  rw [natInts_length] at hn hn'
  have Hat := Lib.hid hat
  have Hat' := Lib.hid hat'
  clear hat hat'
  simp only [natInts_length] at *
  go_enter Tryd.func201, Tryd.ntmps201
  go_wp2
  go_loopw [11] (fun i wr => ∃ k : Nat, k ≤ xs.length ∧ i = .int .i64 k ∧ k ≤ ys.length ∧ xs.take k = ys.take k ∧ ∃ q, wr = w.drewN q) (fun i _ => xs.length - (intOf i).toNat)
  case atStart => exact ⟨0, Nat.zero_le _, rfl, Nat.zero_le _, by simp, 0, rfl⟩
  case round =>
    obtain ⟨k, hk, rfl, hky, heq, q, rfl⟩ := hrel
    have Heq := Lib.hid heq
    clear heq
    by_cases hlt : k < xs.length
    · obtain ⟨b, o, rfl, hcell⟩ := Hat.out.num (k := k) (by rw [natInts_length]; exact hlt)
      rw [natInts_atL hlt] at hcell
      have e0 : (0 : Int) ≤ (k : Int) := by omega
      have e1 : (k : Int) < (xs.length : Int) := by omega
      have HLT := Lib.hid hlt
      by_cases hlt' : k < ys.length
      · obtain ⟨b', o', rfl, hcell'⟩ := Hat'.out.num (k := k) (by rw [natInts_length]; exact hlt')
        rw [natInts_atL hlt'] at hcell'
        have e2 : (k : Int) < (ys.length : Int) := by omega
        have HLT' := Lib.hid hlt'
        have H1 := Lib.hid (lexL_at k xs ys hlt hlt' Heq.out)
        have H2 := Lib.hid (lexL_at k ys xs hlt' hlt Heq.out.symm)
        generalize hX : xs[k]'hlt = x at hcell
        generalize hY : ys[k]'hlt' = y at hcell'
        have HX := Lib.hid hX
        have HY := Lib.hid hY
        clear hX hY
        rcases Nat.lt_trichotomy x y with h | h | h
        · have hi : (x : Int) < (y : Int) := by omega
          have HL : Hid (lexL xs ys) := Lib.hid ((H1.out (by rw [HX.out, HY.out]; omega)).2 (by rw [HX.out, HY.out]; exact h))
          clear h
          go_wp2_with (go_at_call 237; refine (cmp_less64 _ _ hi _).mono ?_; rintro e w' ⟨rfl, rfl⟩)
          go_ret
          exact ⟨by rw [cmpL_neg64 HL.out]; rfl, _, rfl⟩
        · subst h
          go_wp2_with (go_at_call 237; refine (cmp_same64 _ _ rfl _).mono ?_; rintro e w' ⟨rfl, rfl⟩)
          go_roundw
          case rel => exact ⟨k + 1, by omega, by go_num, by omega, by rw [take_snoc xs k HLT.out, take_snoc ys k HLT'.out, Heq.out]; exact congrArg (fun z => _ ++ [z]) (HX.out.trans HY.out.symm), _, rfl⟩
          case measure => simp [intOf]; omega
        · have hi : (y : Int) < (x : Int) := by omega
          have HL : Hid (lexL ys xs) := Lib.hid ((H2.out (by rw [HX.out, HY.out]; omega)).2 (by rw [HX.out, HY.out]; exact h))
          clear h
          go_wp2_with (go_at_call 237; refine (cmp_more64 _ _ hi _).mono ?_; rintro e w' ⟨rfl, rfl⟩)
          go_ret
          exact ⟨by rw [cmpL_pos64 HL.out]; rfl, _, rfl⟩
      · have e2 : (ys.length : Int) ≤ (k : Int) := by omega
        have HL : Hid (lexL ys xs) := Lib.hid (lexL_pre64 (by omega) (by
          have h := Heq.out
          obtain rfl : k = ys.length := by omega
          rw [List.take_length] at h
          exact h.symm))
        go_wp2
        go_ret
        exact ⟨by rw [cmpL_pos64 HL.out]; rfl, _, rfl⟩
    · obtain rfl : k = xs.length := by omega
      by_cases hlt' : xs.length < ys.length
      · have e2 : (xs.length : Int) < (ys.length : Int) := by omega
        have HL : Hid (lexL xs ys) := Lib.hid (lexL_pre64 hlt' (by
          have h := Heq.out
          rwa [List.take_length] at h))
        go_wp2
        go_ret
        exact ⟨by rw [cmpL_neg64 HL.out]; rfl, _, rfl⟩
      · have e2 : ¬ (xs.length : Int) < (ys.length : Int) := by omega
        have HL : Hid (xs = ys) := Lib.hid (by
          have h := Heq.out
          rw [List.take_length, List.take_of_length_le (by omega)] at h
          exact h)
        go_wp2
        go_ret
        exact ⟨by rw [cmpL_zero64 HL.out]; rfl, _, rfl⟩


end Go.Proofs.YtkppbmfliejnmaaDoor

/- A region that draws its order, some of whose stores hit the cells that it loads: facts on the world, each of which holds until a named operation of the region has come up. -/
namespace Go.Proofs.YtkppbmfliejnmaaDoor
open Go.RowKit

section
variable {P : Program} {ops : Array Oper} {Q : Exit → Act → World → Prop} {md : Region.Mode}

/-- Facts, each till the operation beside it has come up. -/
def Stg : List (Nat × (World → Prop)) → Array Bool → World → Prop
  | [], _, _ => True
  | f :: fs, l, w => (l.getD f.1 true = false → f.2 w) ∧ Stg fs l w
theorem Stg.nil {l : Array Bool} {w : World} : Stg [] l w := trivial
theorem Stg.keep {f : Nat × (World → Prop)} {fs : List (Nat × (World → Prop))} {l : Array Bool} {w : World} (h : f.2 w) (r : Stg fs l w) : Stg (f :: fs) l w := ⟨fun _ => h, r⟩
theorem Stg.skip {f : Nat × (World → Prop)} {fs : List (Nat × (World → Prop))} {l : Array Bool} {w : World} (h : l.getD f.1 true = true) (r : Stg fs l w) : Stg (f :: fs) l w := ⟨fun k => absurd (h.symm.trans k) (by decide), r⟩
theorem Stg.get : ∀ {fs : List (Nat × (World → Prop))} {l : Array Bool} {w : World} {m s : Nat} {F : World → Prop}, fs[m]? = some (s, F) → Stg fs l w → l.getD s true = false → F w
  | [], _, _, m, _, _, e, _, _ => by simp at e
  | f :: fs, _, _, 0, _, _, e, h, k => by
    simp only [List.getElem?_cons_zero, Option.some.injEq] at e
    subst e
    exact h.1 k
  | f :: fs, _, _, m + 1, _, _, e, h, k => Stg.get (fs := fs) (m := m) (by simpa using e) h.2 k
theorem Stg.set : ∀ {fs : List (Nat × (World → Prop))} {i : Nat} {l : Array Bool} {w : World}, ((fs.map (·.1)).all fun s => s != i) = true → (Stg fs (l.setIfInBounds i true) w ↔ Stg fs l w)
  | [], _, _, _, _ => Iff.rfl
  | f :: fs, i, l, w, h => by
    simp only [List.map_cons, List.all_cons, Bool.and_eq_true, bne_iff_ne] at h
    unfold Stg
    rw [getD_set_ne true (Ne.symm h.1), Stg.set h.2]

/-- Whatever order is picked from here on; behind each operation the facts hold that are still asked. -/
def wpStg (P : Program) (md : Region.Mode) (ops : Array Oper) (Q : Exit → Act → World → Prop) (fs : List (Nat × (World → Prop))) : Nat → Array Bool → Act → World → Prop
  | 0, l, a, w => Region.ready md ops l = [] ∧ Q .normal a w
  | fuel + 1, l, a, w =>
    (Region.ready md ops l = [] → Q .normal a w) ∧
      ∀ i ∈ Region.ready md ops l, wpOp P ops Q i (fun a' w' => Stg fs (l.setIfInBounds i true) w' ∧ wpStg P md ops Q fs fuel (l.setIfInBounds i true) a' w') a w
variable {fs : List (Nat × (World → Prop))}

theorem wpStg_any : ∀ (fuel : Nat) (l : Array Bool) (a : Act) (w : World), wpStg P md ops Q fs fuel l a w → wpAny P md ops Q fuel l a w
  | 0, _, _, _, h => h
  | fuel + 1, _, _, _, h => ⟨h.1, fun i hi => wpOp_mono (fun a' w' k => wpStg_any fuel _ a' w' k.2) (h.2 i hi)⟩

theorem not_ready_after {i s : Nat} {l : Array Bool} (hb : ((ops[s]?).map fun o => o.after.any fun e => Region.binds md e && e.on == i).getD false = true) (hi : l.getD i true = false) : s ∉ Region.ready md ops l := by
  intro h
  obtain ⟨_, o, ho, hall⟩ := mem_ready.1 h
  rw [ho] at hb
  simp only [Option.map_some, Option.getD_some, Array.any_eq_true'] at hb
  obtain ⟨e, he, hb⟩ := hb
  simp only [Bool.and_eq_true, beq_iff_eq] at hb
  have h2 := hall e he hb.1
  rw [hb.2] at h2
  rcases Nat.lt_or_ge i l.size with k | k
  · simp [k] at h2 hi; rw [hi] at h2; cases h2
  · simp [Array.getElem?_eq_none k] at h2

/-- An operation that yields its value wherever what is still asked holds may be taken first. -/
theorem wpStg_first {i : Nat} {oi : Oper} {v : Value} {F : World → Prop} (G : Array Bool → Prop) (hi : ops[i]? = some oi) (hsel : ∀ (j : Nat) (o : Oper) cs b, ops[j]? = some o → o.op ≠ .select cs b)
    (hQ : ∀ c a w, Q (.panic c) (a.put oi.dst v) w → Q (.panic c) a w) (hne : ((fs.map (·.1)).all fun s => s != i) = true)
    (hGs : ∀ l j, G l → l.getD i true = false → j ∈ Region.ready md ops l → j ≠ i → G (l.setIfInBounds j true)) (hGF : ∀ l w, G l → Stg fs l w → F w) :
    ∀ (fuel : Nat) (l : Array Bool) (a : Act) (w : World),
      (∀ j oj, ops[j]? = some oj → j ≠ i → l.getD j true = false → (∀ e ∈ oj.after, Region.binds md e = true → e.on ≠ i) → oi.apart ops oj = true) →
      i ∈ Region.ready md ops l → G l → YieldsIf P ops F oi v a → Stg fs l w →
      wpStg P md ops Q fs fuel (l.setIfInBounds i true) (a.put oi.dst v) w → wpStg P md ops Q fs (fuel + 1) l a w := by
  intro fuel
  induction fuel with
  | zero =>
    intro l a w _ hr hG hy hS H
    refine ⟨fun h => absurd (h ▸ hr) (by simp), fun j hj => ?_⟩
    by_cases e : j = i
    · subst e
      exact hy.wpOp hi (hGF l w hG hS) ⟨(Stg.set hne).2 hS, H⟩
    · have := ready_mono hj e
      rw [H.1] at this
      simp at this
  | succ fuel ih =>
    intro l a w hap hr hG hy hS H
    refine ⟨fun h => absurd (h ▸ hr) (by simp), fun j hj => ?_⟩
    by_cases e : j = i
    · subst e
      exact hy.wpOp hi (hGF l w hG hS) ⟨(Stg.set hne).2 hS, H⟩
    have hil := (mem_ready.1 hr).1
    obtain ⟨hjl, oj, hoj, hall⟩ := mem_ready.1 hj
    have hno : ∀ x ∈ oj.after, Region.binds md x = true → x.on ≠ i := fun x hx hb k => by
      refine not_ready_after (md := md) (ops := ops) (i := i) (s := j) (l := l) ?_ hil hj
      rw [hoj]
      simp only [Option.map_some, Option.getD_some, Array.any_eq_true']
      exact ⟨x, hx, by simp [hb, k]⟩
    have h2 := wpOp_putIf hoj (hap j oj hoj e hjl hno) (fun cs b => hsel i oi cs b hi) (fun cs b => hsel j oj cs b hoj) hQ hy (H.2 j (ready_mono hj e))
    refine wpOp_mono (fun a' w' h3 => ?_) h2
    obtain ⟨h4, h5, h6⟩ := h3
    rw [Array.setIfInBounds_comm _ _ (Ne.symm e)] at h5 h6
    have h7 := (Stg.set hne).1 h5
    refine ⟨h7, ih _ a' w' (fun k ok hk hki hun hnk => hap k ok hk hki ?_ hnk) (ready_mono hr (Ne.symm e)) (hGs l j hG hil hj e) h4 h7 h6⟩
    by_cases k2 : j = k
    · subst k2; exact hjl
    · rwa [getD_set_ne true k2] at hun

/-- A load is taken first: the store that ends its fact waits for it. -/
theorem wpStg_take {m i s : Nat} {oi : Oper} {v : Value} {F : World → Prop} {fuel : Nat} {l : Array Bool} {a : Act} {w : World} (hm : fs[m]? = some (s, F)) (hi : ops[i]? = some oi)
    (hs : Region.noSelect ops = true) (hf : Region.free md ops l i = true) (hr : (Region.ready md ops l).contains i = true)
    (hb : ((ops[s]?).map fun o => o.after.any fun e => Region.binds md e && e.on == i).getD false = true) (hl : l.getD s true = false) (hne : ((fs.map (·.1)).all fun s => s != i) = true)
    (hQ : ∀ c a w, Q (.panic c) (a.put oi.dst v) w → Q (.panic c) a w) (hy : YieldsIf P ops F oi v a) (hS : Stg fs l w)
    (h : wpStg P md ops Q fs fuel (l.setIfInBounds i true) (a.put oi.dst v) w) : wpStg P md ops Q fs (fuel + 1) l a w :=
  wpStg_first (fun l => l.getD s true = false) hi (Region.noSelect_spec hs) hQ hne
    (fun l j h1 h2 h3 _ => by rw [getD_set_ne true (fun e => not_ready_after hb h2 (by rw [← e]; exact h3))]; exact h1) (fun l w h1 h2 => Stg.get hm h2 h1) fuel l a w (Region.free_spec hi hf) (by simpa using hr) hl hy hS h
/-- What yields in whatever world is taken first. -/
theorem wpStg_pure {i : Nat} {oi : Oper} {v : Value} {fuel : Nat} {l : Array Bool} {a : Act} {w : World} (hi : ops[i]? = some oi)
    (hs : Region.noSelect ops = true) (hf : Region.free md ops l i = true) (hr : (Region.ready md ops l).contains i = true) (hne : ((fs.map (·.1)).all fun s => s != i) = true)
    (hQ : ∀ c a w, Q (.panic c) (a.put oi.dst v) w → Q (.panic c) a w) (hy : YieldsIf P ops (fun _ => True) oi v a) (hS : Stg fs l w)
    (h : wpStg P md ops Q fs fuel (l.setIfInBounds i true) (a.put oi.dst v) w) : wpStg P md ops Q fs (fuel + 1) l a w :=
  wpStg_first (fun _ => True) hi (Region.noSelect_spec hs) hQ hne (fun _ _ _ _ _ _ => trivial) (fun _ _ _ _ => trivial) fuel l a w (Region.free_spec hi hf) (by simpa using hr) trivial hy hS h

/-- Just one operation may come up: it is carried out. -/
theorem wpStg_one {i : Nat} {oi : Oper} {fuel : Nat} {l : Array Bool} {a : Act} {w : World} (hr : Region.ready md ops l = [i]) (hi : ops[i]? = some oi)
    (h : ∀ K' : Act → World → Prop, Shut (∀ a w, Stg fs (l.setIfInBounds i true) w → (Stg fs (l.setIfInBounds i true) w → wpStg P md ops Q fs fuel (l.setIfInBounds i true) a w) → K' a w) →
      if Region.wanted oi (yielded ops a.tmps) = true then Oper.wp P oi a w K' Q else K' (a.put oi.dst undef) w) : wpStg P md ops Q fs (fuel + 1) l a w := by
  refine ⟨fun h0 => ?_, fun j hj => ?_⟩
  · rw [hr] at h0; cases h0
  · rw [hr] at hj
    obtain rfl : j = i := by simpa using hj
    exact wpOp_step hi (fun K' hK => h K' (fun a w hS hW => hK a w ⟨hS, hW hS⟩))
theorem wpStg_done {l : Array Bool} {a : Act} {w : World} (hr : Region.ready md ops l = []) (h : Q .normal a w) : ∀ fuel, wpStg P md ops Q fs fuel l a w
  | 0 => ⟨hr, h⟩
  | _ + 1 => ⟨fun _ => h, by rw [hr]; simp⟩
theorem wp_region_stg {id : Nat} {a : Act} {w : World} (fs : List (Nat × (World → Prop))) (hm : P.follows .mixedOrders = true) (hS : Stg fs (Array.replicate ops.size false) w.drew)
    (h : Stg fs (Array.replicate ops.size false) w.drew → wpStg P .any ops Q fs ops.size (Array.replicate ops.size false) a w.drew) : (Code.region id ops true).wp P Q a w :=
  wp_region_any hm (wpStg_any _ _ _ _ (h hS))
end

/-- append as one operation of such a region; where the new row lies. -/
theorem step_app1f {P : Program} {T E : TypeId} {z : Value} {bytes : Nat} (S : SlTy P T E z 1 bytes) {w : World} {ops : Array Oper} {o : Oper} {a : Act} {K : Act → World → Prop} {Q : Exit → Act → World → Prop} {F : Prop}
    (hgd : o.guard = none) {s x : Operand} (ho : o.op = .call { callee := .builtin .append, args := #[s, x], argTypes := #[T, T] })
    {base : Nat} {v : Value} {n : Nat} {xs : List Value} {el : Value} (hs : a.eval s = v) (hown : w.ownsRow base E 1 v n xs)
    (hx : a.eval x = .slice (some ⟨w.heap.size, 0, none⟩) 1 1) (h1 : el.oneCell' = true)
    (hnm : n < 1000000000) (hbase : base ≤ w.heap.size)
    (h : ∀ b c w', w'.ownsRow base E 1 (.slice (some ⟨b, 0, none⟩) (n + 1) c) (n + 1) (xs ++ [el]) → w.grownBy w' v.ownBlock → (v.ownBlock = some b ∨ w.heap.size < b) → K (a.put o.dst (.slice (some ⟨b, 0, none⟩) (n + 1) c)) w') :
    if Region.wanted o (yielded ops a.tmps) = true then Oper.wp P o a (w.alloc (.cells #[el] E)) K Q else F := by
  have hw : Region.wanted o (yielded ops a.tmps) = true := by simp [Region.wanted, hgd]
  rw [if_pos hw]
  have hal := size_alloc w (.cells #[el] E)
  have hu : Sl (w.alloc (.cells #[el] E)) E (.slice (some ⟨w.heap.size, 0, none⟩) 1 1) 1 [el] := by
    refine ⟨_, 1, rfl, (fun e => by cases e), Nat.le_refl _, by omega, Or.inr ⟨w.heap.size, 0, #[el], (0, 0), rfl, heap_alloc_new w _, fun j u hu => ?_⟩⟩
    cases j with
    | zero => simpa using hu
    | succ j => simp at hu
  obtain ⟨v', w', hr, h2, h3, h4⟩ := run_app S (w.alloc (.cells #[el] E)) o.type base v n xs (hown.alloc _) _ 1 [el] hu (by simp) (by simpa using h1) (by omega) (by omega)
  unfold Oper.wp execOp
  simp only [ho, resolve, invoke, builtin, Sem.run_bind, Sem.run_pure, Result.andThen_ok, List.map_toArray, List.map_cons, List.map_nil, hs, hx, hr]
  rcases id h2.2 with ⟨_, h0⟩ | ⟨g, cap, cur, rfl, _⟩
  · omega
  · refine h g cap w' h2 ⟨h3.os, h3.tape, h3.output, by have := h3.size; omega, fun k hk hne => (h3.block k (by omega) hne).trans (Below.heap_alloc w _ k hk)⟩ ?_
    rcases h4 g rfl with h5 | h5
    · exact .inl h5
    · exact .inr (by omega)

end Go.Proofs.YtkppbmfliejnmaaDoor
