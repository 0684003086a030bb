/- Walk: the reference's search for what is reached. -/
import Derived.Test.YtiooindlpinjhaaDoorWlQ24
import Derived.Test.YtiooindlpinjhaaDoorWlQ11
import Derived.Deep.RegionHeld3
import Derived.Deep.DeepCutAuto
import Derived.Test.YtiooindlpinjhaaDoorWlQ8
import Derived.Test.YtiooindlpinjhaaDoorWlQ13
import Derived.Test.YtiooindlpinjhaaDoorWlQ12
namespace Go.Proofs.YtiooindlpinjhaaDoor
open Go.RowKit

set_option maxRecDepth 100000 in
set_option maxHeartbeats 1000000 in
theorem l1IntoNew_any (v : Value) (xs : List Int) (n : Int) (hl : xs.length ≤ 100000000) (hnew : n ∉ xs) (w : World) (hx : Nums w 2 .i64 v xs) :
    Calls Tryd.prog 149 #[v, .int .i64 n] w fun e w' => ∃ u, e = .returned u ∧ w'.ownsRow w.heap.size 2 1 u (intoL xs n).length ((intoL xs n).map (Value.int .i64)) ∧ Below w.heap.size w w' := by
  have hx0 := Lib.hid hx
  obtain ⟨p, c, rfl, hp, hnc, hn, hat⟩ := hx
  go_enter Tryd.func149, Tryd.ntmps149
  go_wp2
  go_loop [5] (fun i => ∃ k : Nat, k ≤ xs.length ∧ i = .int .i64 k ∧ ∀ j (hj : j < xs.length), j < k → xs[j] < n) (fun i => xs.length - (intOf i).toNat)
  case atStart => exact ⟨0, Nat.zero_le _, rfl, fun j hj h => by omega⟩
  case round =>
    obtain ⟨k, hk, rfl, hlow⟩ := hrel
    have Hlow := Lib.hid hlow
    clear hlow
    by_cases hlt : k < xs.length
    · obtain ⟨b, o, rfl, hcell⟩ := hat.num hlt
      by_cases h1 : xs[k] < n
      · go_wp2
        go_round
        case rel =>
          refine ⟨k + 1, by omega, by go_num, fun j hj h => ?_⟩
          by_cases e : j = k
          · subst e; exact h1
          · exact Hlow.out j hj (by omega)
        case measure => simp [intOf]; omega
      · by_cases h2 : xs[k] = n
        · exact absurd (h2 ▸ List.getElem_mem hlt) hnew
        · have h2' : (xs[k] == n) = false := by simpa using h2
          have H := Lib.hid (intoL_new hk Hlow.out (fun _ => h1) (fun _ => h2))
          clear h2
          have hsl : Sl w 2 (.slice (some ⟨b, o, none⟩) k c) k ((xs.take k).map (Value.int .i64)) :=
            ⟨_, _, rfl, (fun e => by cases e), by omega, by omega, by rw [List.map_take]; exact hat.take k⟩
          have hkc : k < c := by omega
          have hd : Sl w 2 (.slice (some ⟨b, o + k, none⟩) (xs.length - k) (c - k)) (xs.length - k) ((xs.drop k).map (Value.int .i64)) :=
            ⟨_, _, rfl, (fun e => by cases e), by omega, by omega, by rw [List.map_drop]; exact hat.drop k⟩
          go_wp2_with (first
            | (go_at_call 87; refine (l1Copy_any _ k _ (oneCell_ints _ _) (by simp; omega) _ hsl).mono ?_; rintro e w1 ⟨u1, rfl, hown1, hb1⟩)
            | (at_builtin; refine wpList_app1 ty_i64 rfl rfl rfl hown1 rfl rfl (by omega) hb1.size ?_; intro v2 w2 hown2 hg2 _; have hb2 := below_grown hb1 hown1 hg2 (Nat.le_refl _) hb1.size; have hd2 : Sl w2 2 (.slice (some ⟨b, o + k, none⟩) (xs.length - k) (c - k)) (xs.length - k) ((xs.drop k).map (Value.int .i64)) := hd.below hb2)
            | (at_builtin; refine wpList_app ty_i64 rfl rfl rfl hown2 rfl hd2 (by simp) (oneCell_ints _ _) (by omega) hb2.size ?_; intro v3 w3 hown3 hg3 _))
          go_ret
          refine ⟨_, rfl, ?_, below_grown hb2 hown2 hg3 (Nat.le_refl _) hb2.size⟩
          have e : (xs.take k).map (Value.int .i64) ++ [Value.int .i64 n] ++ (xs.drop k).map (Value.int .i64) = (intoL xs n).map (Value.int .i64) := by rw [H.out]; simp
          rw [e] at hown3
          have hlen : k + 1 + (xs.length - k) = (intoL xs n).length := by rw [H.out]; simp; omega
          rw [← hlen]; exact hown3
    · obtain rfl : k = xs.length := by omega
      have H := Lib.hid (intoL_new hk Hlow.out (fun h => absurd h hlt) (fun h => absurd h hlt))
      have hsl : Sl w 2 (.slice p xs.length c) xs.length (xs.map (Value.int .i64)) := hx0.out
      have hfin : ∀ (w2 : World) (u : Value), w2.ownsRow w.heap.size 2 1 u (xs.length + 1 + 0) (xs.map (Value.int .i64) ++ [Value.int .i64 n] ++ []) → w2.ownsRow w.heap.size 2 1 u (intoL xs n).length ((intoL xs n).map (Value.int .i64)) := by
        intro w2 u ho
        have e : xs.map (Value.int .i64) ++ [Value.int .i64 n] ++ [] = (intoL xs n).map (Value.int .i64) := by rw [H.out]; simp
        rw [e] at ho
        rw [show (intoL xs n).length = xs.length + 1 + 0 by rw [H.out]; simp]; exact ho
      rcases p with _ | a
      · obtain ⟨h0, rfl⟩ := hp rfl
        have h0' : xs = [] := List.eq_nil_of_length_eq_zero h0
        subst h0'
        go_wp2_with (first
          | (go_at_call 87; refine (l1Copy_any _ 0 _ (oneCell_ints _ _) rfl _ hsl).mono ?_; rintro e w1 ⟨u1, rfl, hown1, hb1⟩)
          | (at_builtin; refine wpList_app1 ty_i64 rfl rfl rfl hown1 rfl rfl (by omega) hb1.size ?_; intro v2 w2 hown2 hg2 _; have hb2 := below_grown hb1 hown1 hg2 (Nat.le_refl _) hb1.size)
          | (at_builtin; refine wpList_app ty_i64 rfl rfl rfl hown2 rfl (Sl.nothing _ _ _ _ (fun _ => rfl)) rfl (fun x hx => by cases hx) (by omega) hb2.size ?_; intro v3 w3 hown3 hg3 _))
        go_ret
        exact ⟨_, rfl, hfin _ _ hown3, below_grown hb2 hown2 hg3 (Nat.le_refl _) hb2.size⟩
      · by_cases hcl : c = xs.length
        · subst hcl
          go_wp2_with (first
            | (go_at_call 87; refine (l1Copy_any _ xs.length _ (oneCell_ints _ _) (by simp) _ hsl).mono ?_; rintro e w1 ⟨u1, rfl, hown1, hb1⟩)
            | (at_builtin; refine wpList_app1 ty_i64 rfl rfl rfl hown1 rfl rfl (by omega) hb1.size ?_; intro v2 w2 hown2 hg2 _; have hb2 := below_grown hb1 hown1 hg2 (Nat.le_refl _) hb1.size)
            | (at_builtin; refine wpList_app ty_i64 rfl rfl rfl hown2 rfl (Sl.nothing _ _ _ _ (fun e => by cases e)) rfl (fun x hx => by cases hx) (by omega) hb2.size ?_; intro v3 w3 hown3 hg3 _))
          go_ret
          exact ⟨_, rfl, hfin _ _ hown3, below_grown hb2 hown2 hg3 (Nat.le_refl _) hb2.size⟩
        · have hcl' : xs.length < c := by omega
          go_wp2_with (first
            | (go_at_call 87; refine (l1Copy_any _ xs.length _ (oneCell_ints _ _) (by simp) _ hsl).mono ?_; rintro e w1 ⟨u1, rfl, hown1, hb1⟩)
            | (at_builtin; refine wpList_app1 ty_i64 rfl rfl rfl hown1 rfl rfl (by omega) hb1.size ?_; intro v2 w2 hown2 hg2 _; have hb2 := below_grown hb1 hown1 hg2 (Nat.le_refl _) hb1.size)
            | (at_builtin; refine wpList_app ty_i64 rfl rfl rfl hown2 rfl (Sl.nothing _ _ _ _ (fun e => by cases e)) rfl (fun x hx => by cases hx) (by omega) hb2.size ?_; intro v3 w3 hown3 hg3 _))
          go_ret
          exact ⟨_, rfl, hfin _ _ hown3, below_grown hb2 hown2 hg3 (Nat.le_refl _) hb2.size⟩

theorem own_num {w : World} {base : Nat} {E : TypeId} {L : List Nat} {v : Value} (h : w.ownsRow base E 1 v L.length ((natInts L).map (Value.int .i64))) (hL : L.length ≤ 1000000000) : Nums w E .i64 v (natInts L) := Nums.of_owns h (by rw [natInts_length]) hL

/-- The length of a slice's value. -/
def lenOf : Value → Nat
  | .slice _ n _ => n
  | _ => 0

structure ReW (W0 wr : World) (E : Nat → Nat → Bool) (L : List Nat) (u : Nat) (gv : Value) (o t : Value) (out todo : List Nat) (c : Option Nat) (i : Nat) : Prop where
  re : ReI E L u out todo c i
  own : wr.ownsRow (W0.heap.size + 1) 2 1 o out.length ((natInts out).map (Value.int .i64))
  que : QRow wr (W0.heap.size + 1) 2 t ((natInts todo).map (Value.int .i64))
  apart : ∀ b, o.ownBlock = some b → t.ownBlock ≠ some b
  bel : Below W0.heap.size W0 wr
  box : Box wr W0.heap.size 28 gv
  bnd : out.length ≤ 16
theorem ReW.tl {W0 wr : World} {E : Nat → Nat → Bool} {L : List Nat} {u : Nat} {gv o t : Value} {out todo : List Nat} {c : Option Nat} {i : Nat} (h : ReW W0 wr E L u gv o t out todo c i) : todo.length ≤ out.length := h.re.len

theorem ReW.pop {W0 wr : World} {E : Nat → Nat → Bool} {L : List Nat} {u c0 : Nat} {gv o t t' : Value} {out todo : List Nat} {i : Nat} (h : ReW W0 wr E L u gv o t out (c0 :: todo) none i)
    (hs : t'.ownBlock = t.ownBlock) (hq : QRow wr (W0.heap.size + 1) 2 t' ((natInts todo).map (Value.int .i64))) : ReW W0 wr E L u gv o t' out todo (some c0) 0 :=
  ⟨h.re.pop, h.own, hq, fun b e => by rw [hs]; exact h.apart b e, h.bel, h.box, h.bnd⟩
theorem ReW.fin {W0 wr : World} {E : Nat → Nat → Bool} {L : List Nat} {u c0 : Nat} {gv o t : Value} {out todo : List Nat} (h : ReW W0 wr E L u gv o t out todo (some c0) L.length) : ReW W0 wr E L u gv o t out todo none 0 :=
  ⟨h.re.fin, h.own, h.que, h.apart, h.bel, h.box, h.bnd⟩
theorem ReW.skip {W0 wr : World} {E : Nat → Nat → Bool} {L : List Nat} {u c0 i : Nat} {gv o t : Value} {out todo : List Nat} (h : ReW W0 wr E L u gv o t out todo (some c0) i) (hi : i < L.length) (hs : L[i] = c0 ∨ ¬ E c0 L[i] = true ∨ L[i] ∈ out) : ReW W0 wr E L u gv o t out todo (some c0) (i + 1) :=
  ⟨h.re.skip hi hs, h.own, h.que, h.apart, h.bel, h.box, h.bnd⟩
theorem ReW.c0 {W0 wr : World} {E : Nat → Nat → Bool} {L : List Nat} {u c0 i n : Nat} {gv o t : Value} {out todo : List Nat} (h : ReW W0 wr E L u gv o t out todo (some c0) i) (hL : ∀ x ∈ L, x < n) : c0 < n :=
  hL _ (h.re.sub _ (h.re.cur c0 rfl).1).1
theorem ReW.base {W0 wr w5 : World} {E : Nat → Nat → Bool} {L : List Nat} {u i : Nat} {c : Option Nat} {gv o t : Value} {out todo : List Nat} (h : ReW W0 wr E L u gv o t out todo c i) (hb : Below wr.heap.size wr w5) : W0.heap.size + 1 ≤ w5.heap.size := by
  have := h.box.lt
  have := hb.size
  omega
theorem natInts_atQ {l : List Nat} {k : Nat} (h : k < l.length) {h' : k < (natInts l).length} : (natInts l)[k] = ((l[k] : Nat) : Int) := by simp [natInts]
theorem new_nat {out : List Nat} {u : Nat} (h : u ∉ out) : (u : Int) ∉ natInts out := fun k => h (by
  obtain ⟨i, h1, h2⟩ := mem_natInts.1 k
  obtain rfl : i = u := by omega
  exact h1)
theorem ReW.add {W0 wr w5 w6 : World} {E : Nat → Nat → Bool} {L : List Nat} {u c0 i b off n6 c6 : Nat} {gv o o5 t : Value} {out todo : List Nat} (h : ReW W0 wr E L u gv o t out todo (some c0) i) (hi : i < L.length) (hE : E c0 L[i] = true) (hnew : L[i] ∉ out)
    (hL : L.Pairwise (· < ·)) (hL16 : L.length ≤ 16) (ho5 : w5.ownsRow wr.heap.size 2 1 o5 (intoL (natInts out) ((L[i] : Nat) : Int)).length ((intoL (natInts out) ((L[i] : Nat) : Int)).map (Value.int .i64))) (hb5 : Below wr.heap.size wr w5)
    (hq : QRow w6 (W0.heap.size + 1) 2 (.slice (some ⟨b, off, none⟩) n6 c6) ((natInts todo).map (Value.int .i64) ++ [.int .i64 ((L[i] : Nat) : Int)])) (hg : w5.grownBy w6 t.ownBlock) (h7 : t.ownBlock = some b ∨ w5.heap.size ≤ b) :
    ∃ out', out'.length = out.length + 1 ∧ ReW W0 w6 E L u gv o5 (.slice (some ⟨b, off, none⟩) n6 c6) out' (todo ++ [L[i]]) (some c0) (i + 1) := by
  obtain ⟨out', e, hr, hm, hl⟩ := into_nat h.re.ris hnew
  rw [e, natInts_length] at ho5
  have hre := h.re.add hi hE hr hm (by omega)
  have hbs := h.box.lt
  have h5s := hb5.size
  have hof : ∀ k, o5.ownBlock = some k → t.ownBlock ≠ some k := fun k hk e2 => by
    have h1 := (ho5.lt k hk).1
    have h2 := (h.que.lt k e2).2
    omega
  refine ⟨out', hl, hre, ownsRow_base (ho5.kept hg ?_) (by omega), ?_, fun k hk e2 => ?_, ?_, ?_, Nat.le_trans (hre.bound hL) hL16⟩
  · cases hob : o5.ownBlock with
    | none => exact .inl rfl
    | some k => exact .inr fun e2 => hof k hob e2.symm
  · have e3 : (natInts (todo ++ [L[i]])).map (Value.int .i64) = (natInts todo).map (Value.int .i64) ++ [.int .i64 ((L[i] : Nat) : Int)] := by simp [natInts]
    rw [e3]; exact hq
  · have hk2 : b = k := by simpa [Value.ownBlock] using e2
    subst hk2
    rcases h7 with h7 | h7
    · exact hof _ hk h7
    · have := (ho5.lt _ hk).2
      omega
  · exact (h.que.below hb5).grow (h.bel.trans (hb5.mono h.bel.size)) hg (by omega) (by omega)
  · refine (h.box.keep hb5).grown hg fun e2 => ?_
    have := (h.que.lt _ e2.symm).1
    omega
theorem ReW.start' (w : World) {E : Nat → Nat → Bool} {L : List Nat} {u : Nat} (gv : Value) (hu : u ∈ L) :
    ReW w (((w.alloc (.cells #[gv] 28)).alloc (.cells #[.int .i64 (u : Int)] 2)).alloc (.cells #[.int .i64 (u : Int)] 2)) E L u gv
      (.slice (some ⟨w.heap.size + 1, 0, none⟩) 1 1) (.slice (some ⟨w.heap.size + 1 + 1, 0, none⟩) 1 1) [u] [u] none 0 := by
  have s1 : (w.alloc (.cells #[gv] 28)).heap.size = w.heap.size + 1 := by show (w.heap.push _).size = _; simp
  have s2 : ((w.alloc (.cells #[gv] 28)).alloc (.cells #[.int .i64 (u : Int)] 2)).heap.size = w.heap.size + 1 + 1 := by show (Array.push _ _).size = _; rw [Array.size_push, s1]
  refine ⟨.start' hu, ?_, ?_, ?_, ?_, ?_, by simp⟩
  · have := World.ownsRow_lit (w.alloc (.cells #[gv] 28)) #[.int .i64 (u : Int)] 1 (base := w.heap.size + 1) (e := 2) (size := 1) (by omega) (by decide) (by simp)
    rw [s1] at this
    exact ownsRow_below this (below_alloc _ _)
  · have := QRow.one ((w.alloc (.cells #[gv] 28)).alloc (.cells #[.int .i64 (u : Int)] 2)) 2 (.int .i64 (u : Int))
    rw [s2] at this
    exact this.base (by omega)
  · intro b e k
    have e1 : w.heap.size + 1 = b := by simpa [Value.ownBlock] using e
    have e2 : w.heap.size + 1 + 1 = b := by simpa [Value.ownBlock] using k
    omega
  · exact ((below_alloc w _).alloc (below_alloc w _).size _).alloc (by omega) _
  · exact ((Box.new w gv 28).alloc _).alloc _


end Go.Proofs.YtiooindlpinjhaaDoor

/- Walks: a copy of a graph; the neighbours that are left. -/
namespace Go.Proofs.YtiooindlpinjhaaDoor
open Go.RowKit

theorem box_stepB {w wr wc w7 : World} {B k b7 c8 : Nat} {ov x rv : Value} {vals : List Value}
    (hbel : Below B w wr) (hsz : B + 2 ≤ wr.heap.size) (hbc : Below wr.heap.size wr wc)
    (hb2 : Box wr B 28 x) (hb3 : Box wr (B + 1) 28 ov) (hown : wr.ownsRow (B + 2) 26 1 ov k vals)
    (hown7 : w7.ownsRow (B + 2) 26 1 (.slice (some ⟨b7, 0, none⟩) (k + 1) c8) (k + 1) (vals ++ [rv])) (hg7 : wc.grownBy w7 ov.ownBlock) :
    ∃ W, W = w7.setCell ⟨B + 1, 0, none⟩ (.slice (some ⟨b7, 0, none⟩) (k + 1) c8) ∧
      Below B w W ∧ B + 2 ≤ W.heap.size ∧ Box W B 28 x ∧ Box W (B + 1) 28 (.slice (some ⟨b7, 0, none⟩) (k + 1) c8) ∧ W.ownsRow (B + 2) 26 1 (.slice (some ⟨b7, 0, none⟩) (k + 1) c8) (k + 1) (vals ++ [rv]) ∧
      (∀ base size n v (xs : List Value), wc.ownsRow base 2 size v n xs → W.ownsRow base 2 size v n xs) := by
  have hownc := ownsRow_below hown hbc
  have hszc := hbc.size
  have hsz7 := hg7.size
  have hb7 : Below (B + 2) wc w7 := below_grown (Below.refl _ _) hownc hg7 (Nat.le_refl _) (by omega)
  have hb37 : Box w7 (B + 1) 28 ov := (hb3.keep hbc).below hb7 (by omega)
  have hb9 : Below (B + 1) w7 (w7.setCell ⟨B + 1, 0, none⟩ (.slice (some ⟨b7, 0, none⟩) (k + 1) c8)) := (Below.refl _ _).setCell (by show B + 1 ≤ B + 1; omega) _
  have hall : Below (B + 1) wr (w7.setCell ⟨B + 1, 0, none⟩ (.slice (some ⟨b7, 0, none⟩) (k + 1) c8)) := ((hbc.mono (by omega)).trans (hb7.mono (by omega))).trans hb9
  refine ⟨_, rfl, hbel.trans (hall.mono (by omega)), by have := hall.size; omega, hb2.below hall (by omega), hb37.set _, ownsRow_setBox hown7 hb37 (by decide) _, fun base size n v xs h => ?_⟩
  exact ownsRow_setBox (ownsRow_other h hownc hg7 (by decide)) hb37 (by decide) _

theorem three_boxes (w : World) (u : Value) : ∃ W, W = ((w.alloc (.cells #[u] 28)).alloc (.cells #[.slice none 0 0] 28)).alloc (.cells #[.slice none 0 0] 28) ∧ Below w.heap.size w W ∧ W.heap.size = w.heap.size + 3 ∧
    Box W w.heap.size 28 u ∧ Box W (w.heap.size + 1) 28 (.slice none 0 0) ∧ Box W (w.heap.size + 1 + 1) 28 (.slice none 0 0) := by
  refine ⟨_, rfl, below_alloc3 _ _ _ _, by rw [size_alloc, size_alloc, size_alloc], ((Box.new w _ _).alloc _).alloc _, ?_, ?_⟩
  · have := (Box.new (w.alloc (.cells #[u] 28)) (.slice none 0 0) 28).alloc (.cells #[.slice none 0 0] 28)
    rw [size_alloc] at this
    exact this
  · have := Box.new ((w.alloc (.cells #[u] 28)).alloc (.cells #[.slice none 0 0] 28)) (.slice none 0 0) 28
    rw [size_alloc, size_alloc] at this
    exact this

set_option maxRecDepth 100000 in
set_option maxHeartbeats 4000000 in
theorem l1CopyGraph_any (v : Value) (g : List (List Int)) (hl : g.length ≤ 1000) (hrl : ∀ j, (row g j).length ≤ 1000) (w : World) (hg : Gr w v g) :
    Calls Tryd.prog 102 #[v] w fun e w' => ∃ u, e = .returned u ∧ SG w' w.heap.size u g ∧ Below w.heap.size w w' := by
  obtain ⟨u, rfl, hr⟩ := hg
  obtain ⟨p, c, rfl, _⟩ := hr.shape
  have START := Lib.hid (three_boxes w (.slice p g.length c))
  have HR := Lib.hid hr
  have HRL := Lib.hid hrl
  clear hr hrl
  go_enter Tryd.func102, Tryd.ntmps102
  go_upto_region 3 with fail
  go_loopw [4] (fun i wr => ∃ (k : Nat) (ov : Value) (vals : List Value), k ≤ g.length ∧ i = .int .i64 k ∧ Below w.heap.size w wr ∧ Below (w.heap.size + 1) wr wr ∧ w.heap.size + 1 + 2 ≤ wr.heap.size ∧ Box wr w.heap.size 28 (.slice p g.length c) ∧
      Box wr (w.heap.size + 1) 28 (.slice none 0 0) ∧ Box wr (w.heap.size + 1 + 1) 28 ov ∧ wr.ownsRow (w.heap.size + 1 + 2) 26 1 ov k vals ∧ vals.length = k ∧
      ∀ j, j < k → wr.ownsRow (w.heap.size + 1 + 2) 2 1 (vals.getD j undef) (row g j).length ((row g j).map (Value.int .i64)))
    (fun i _ => g.length - (intOf i).toNat)
  case atStart =>
    obtain ⟨W, rfl, h1, h2, h3, h4, h5⟩ := START.out
    exact ⟨0, _, [], Nat.zero_le _, rfl, h1, Below.refl _ _, by omega, h3, h4, h5, World.ownsRow_nil _ _ _ _, rfl, fun j hj => by omega⟩
  case round =>
    obtain ⟨k, ov, vals, hk, rfl, hbel, _, hsz, hbx, hb2, hb3, hown, hvl, hrows⟩ := hrel
    have Hvl := Lib.hid hvl
    have Hrows := Lib.hid hrows
    have Hb2 := Lib.hid hb2
    have Hb3 := Lib.hid hb3
    have Hbx := Lib.hid hbx
    have Hown := Lib.hid hown
    have cbx := hbx.cell
    obtain ⟨p9, c9, rfl⟩ : ∃ p c, ov = .slice p k c := by
      rcases hown.2 with ⟨h1, h2⟩ | ⟨g1, cap, cur, h1, _⟩
      · exact ⟨none, 0, by rw [h1, h2]⟩
      · exact ⟨_, _, h1⟩
    clear hvl hrows hb3 hb2 hown hbx
    by_cases hlt : k < g.length
    · obtain ⟨b, o, rp, rc, rfl, hcell, hnums⟩ := (HR.out.below hbel).get hlt
      change wr.cell? _ = some (.slice rp (row g k).length rc) at hcell
      change Nums wr _ _ (.slice rp (row g k).length rc) (row g k) at hnums
      have Hnums := Lib.hid hnums
      obtain ⟨c3, f3, _, _⟩ := Hb3.out
      obtain ⟨m, hm⟩ : ∃ m, m = (row g k).length := ⟨_, rfl⟩
      have Hm := Lib.hid hm
      have hrk := HRL.out k
      rw [← hm] at hcell Hnums hrk
      clear hnums hm
      go_upto_region 5 with fail
      go_region_law (first
        | (go_simp; go_at_call 87; refine (l1Copy_any _ m ((row g k).map (Value.int .i64)) (fun x hx => by obtain ⟨y, _, rfl⟩ := List.mem_map.1 hx; rfl) (by rw [List.length_map]; exact Hm.out.symm) _ (Sl.below (show Sl wr 2 (.slice rp m rc) m _ from (by have h := Hnums.out; unfold Nums at h; rw [← Hm.out] at h; exact h)) (below_dN (Below.refl _ _) 1))).mono ?_; rintro e w5 ⟨rv, rfl, hown5, hb5⟩; obtain ⟨rvp, rvc, hrv⟩ : ∃ p c, rv = .slice p m c := (by rcases hown5.2 with ⟨rfl, h0⟩ | ⟨b, c, _, rfl, _⟩; exact ⟨none, 0, by rw [h0]⟩; exact ⟨_, _, rfl⟩); subst hrv; have hb5' : Below wr.heap.size wr w5 := ⟨hb5.os, hb5.tape, hb5.output, hb5.size, hb5.block⟩; have hown5' : w5.ownsRow wr.heap.size 2 1 (.slice rvp m rvc) m ((row g k).map (Value.int .i64)) := hown5; have hownc := ownsRow_below Hown.out hb5'; have hs5 := hb5'.size; have hbx5 := hb5'.at' c3; have hbx5a := fun o => (below_alloc w5 o).at' hbx5; have hcx5 := hb5'.at' cbx; have hcx5a := fun o => (below_alloc w5 o).at' hcx5; have hcl5 := hb5'.at' hcell; clear hb5 hown5)
        | (refine step_app1s ty_rows rfl rfl rfl hownc rfl rfl (by omega) (by omega) ?_; intro b7 c8 w7 hown7 hg7; have hb7 := below_grown (Below.refl (w.heap.size + 1 + 2) w5) hownc hg7 (Nat.le_refl _) (by omega); have hob7 := hb7.at (by omega) hbx5; have hof7 := (hb7.frozen (p := ⟨w.heap.size + 1 + 1, 0, none⟩) (by show w.heap.size + 1 + 1 < _; omega)).trans ((hb5'.frozen (p := ⟨w.heap.size + 1 + 1, 0, none⟩) (by show w.heap.size + 1 + 1 < _; omega)).trans f3)))
      all_goals go_wp2
      all_goals go_roundw
      all_goals first
        | (simp [intOf]; omega)
        | skip
      all_goals
        have hb0 : Below (w.heap.size + 1) wr wr := Below.refl _ _
        obtain ⟨W, hW, r1, r2, r3, r4, r5, r6⟩ := box_stepB hb0 hsz hb5' Hb2.out Hb3.out Hown.out hown7 hg7
        subst hW
        have hbW : Below w.heap.size w _ := hbel.trans (r1.mono (by omega))
        refine ⟨k + 1, _, _, by omega, by go_num, hbW, Below.refl _ _, r2, Hbx.out.below r1 (by omega), r3, r4, r5, by simp [Hvl.out], fun j hj => ?_⟩
        by_cases e : j = k
        · subst e
          rw [show (vals ++ [Value.slice rvp m rvc]).getD j undef = .slice rvp m rvc from by rw [← Hvl.out]; exact getD_append_last _ _ _]
          rw [← Hm.out]
          exact ownsRow_base (r6 _ _ _ _ _ hown5') (by omega)
        · rw [getD_append_left _ _ _ _ (by have := Hvl.out; omega)]
          exact r6 _ _ _ _ _ (ownsRow_below (Hrows.out j (by omega)) hb5')
    · obtain rfl : k = g.length := by omega
      obtain ⟨k2c, k2f, _⟩ := Hb2.out
      obtain ⟨k3c, k3f, _⟩ := Hb3.out
      go_wp2
      refine bodyPost_ret (v := .agg #[.slice p9 g.length c9]) (by simp [results, Tryd.results102, go_sem, k2c]) rfl ⟨_, rfl, ⟨_, vals, rfl, Hvl.out, ?_, fun j hj => ?_⟩, ?_⟩
      · exact ownsRow_base (ownsRow_setBox Hown.out Hb2.out (by decide) _) (by omega)
      · exact Nums.of_owns (ownsRow_setBox (Hrows.out j hj) Hb2.out (by decide) _) rfl (by have := HRL.out j; omega)
      · exact hbel.setCell (by show w.heap.size ≤ w.heap.size + 1; omega) _

end Go.Proofs.YtiooindlpinjhaaDoor

/- Walks: the neighbours of a vertex that are left; all of a list linked. -/
namespace Go.Proofs.YtiooindlpinjhaaDoor
open Go.RowKit

structure CQ (w wr : World) (base : Nat) (p : Option Addr) (c m : Nat) (lv : Value) (L : List Nat) (gg : List (List Int)) : Prop where
  sg : SG wr base (.agg #[.slice p m c]) gg
  box : Box wr w.heap.size 28 (.slice p m c)
  res : Box wr (w.heap.size + 1) 28 (.slice none 0 0)
  grown : w.grownBy wr (Value.slice p m c).ownBlock
  list : Nums wr 2 .i64 lv (natInts L)
  own : ∀ k, (Value.slice p m c).ownBlock = some k → k < w.heap.size

theorem SG.other {w w' : World} {base : Nat} {u v : Value} {g : List (List Int)} {xs : List Int} (h : SG w base (.agg #[u]) g) (hn : Nums w 2 .i64 v xs) (hg : w.grownBy w' u.ownBlock) : Nums w' 2 .i64 v xs := by
  obtain ⟨u0, vals, h1, h2, h3, h4⟩ := h
  cases h1
  exact hn.other h3 hg (by decide)

theorem CQ.link {w wr w2 : World} {base : Nat} {p : Option Addr} {c m : Nat} {lv : Value} {L : List Nat} {gg gg' : List (List Int)} (h : CQ w wr base p c m lv L gg)
    (hs : SG w2 base (.agg #[.slice p m c]) gg') (hg : wr.grownBy w2 (Value.slice p m c).ownBlock) : CQ w (w2.setCell ⟨w.heap.size, 0, none⟩ (.slice p m c)) base p c m lv L gg' := by
  have hbox := h.box.grown hg (fun e => by have := h.own _ e.symm; omega)
  have hres := h.res.grown hg (fun e => by have := h.own _ e.symm; omega)
  have hgr := grown_trans h.grown hg
  refine ⟨hs.setBox hbox _, hbox.set _, hres.setOther (by show w.heap.size + 1 ≠ w.heap.size; omega) _, ⟨hgr.os, hgr.tape, hgr.output, by have := hgr.size; simpa [World.setCell] using this, fun b hb hne => ?_⟩, (h.sg.other h.list hg).setBox hbox (by decide) _, h.own⟩
  rw [Below.heap_setCell _ _ _ _ (by show b ≠ w.heap.size; omega)]
  exact hgr.block b hb hne

theorem natInts_get {L : List Nat} {i : Nat} (h : i < L.length) : (natInts L)[i]'(by rw [natInts_length]; exact h) = ((L[i] : Nat) : Int) := by simp [natInts]

end Go.Proofs.YtiooindlpinjhaaDoor

/- Walks: the neighbours of a vertex that are left; the reference's fill. -/
namespace Go.Proofs.YtiooindlpinjhaaDoor
open Go.RowKit

theorem ty_bool : SlTy Tryd.prog 116 4 (.bool false) 1 1 := ⟨Tryd.underlying116, by kernel_rfl, rfl, by decide, by decide⟩
def boolsOf (n : Nat) (gp : Nat → Bool) : List Value := (List.range n).map fun x => .bool (gp x)
theorem boolsOf_get {n : Nat} {gp : Nat → Bool} {x : Nat} (h : x < n) : (boolsOf n gp)[x]? = some (.bool (gp x)) := by simp [boolsOf, h]
theorem filter_snoc {rn : List Nat} {k : Nat} (h : k < rn.length) (q : Nat → Bool) : (rn.take (k + 1)).filter q = (rn.take k).filter q ++ (if q rn[k] then [rn[k]] else []) := by
  rw [List.take_succ_eq_append_getElem h, List.filter_append]
  congr 1
  by_cases e : q rn[k] <;> simp [e]

theorem boolsOf_set {n : Nat} {l : List Nat} {m : Nat} (hm : m < l.length) : (boolsOf n fun x => decide (x ∈ l.take m)).set l[m] (.bool true) = boolsOf n fun x => decide (x ∈ l.take (m + 1)) := by
  refine List.ext_getElem (by simp [boolsOf]) fun j h1 h2 => ?_
  rw [List.getElem_set]
  by_cases e : l[m] = j
  · rw [if_pos e]
    simp [boolsOf, ← e, take_snoc_mem hm]
  · rw [if_neg e]
    have : ¬ j = l[m] := fun h => e h.symm
    simp [boolsOf, take_snoc_mem hm, this]
theorem late_eq {n : Nat} {E : Nat → Nat → Bool} {l : List Nat} {m : Nat} (hm : m < l.length) : ((List.range n).filter (fillP E l m l[m])).filter (fun x => !decide (x ∈ l.take (m + 1))) = lateL n E l m := by
  unfold lateL
  rw [List.filter_filter, getD_nat hm]
  congr 1
  funext x
  unfold laterE
  rw [Bool.eq_iff_iff]
  simp only [Bool.and_eq_true, Bool.not_eq_true', decide_eq_false_iff_not, decide_eq_true_eq]
  exact and_comm

theorem natInts_toNatF {l : List Int} (h : ∀ x ∈ l, 0 ≤ x) : natInts (l.map Int.toNat) = l := by
  unfold natInts
  rw [List.map_map]
  conv => rhs; rw [← List.map_id l]
  exact List.map_congr_left fun x hx => Int.toNat_of_nonneg (h x hx)

structure FL (W0 wr : World) (b5 gb : Nat) (p : Option Addr) (c n : Nat) (E : Nat → Nat → Bool) (l : List Nat) (m q : Nat) : Prop where
  sg : SG wr W0.heap.size (.agg #[.slice p n c]) (matG n (fillP E l m))
  box : Box wr b5 28 (.slice p n c)
  gone : wr.ownsRow gb 4 1 (.slice (some ⟨gb, 0, none⟩) n n) n (boolsOf n fun x => decide (x ∈ l.take q))
  bel : Below W0.heap.size W0 wr
  own : ∀ k, (Value.slice p n c).ownBlock = some k → W0.heap.size ≤ k ∧ k < b5
  hb5 : W0.heap.size ≤ b5
  hgb : b5 < gb

theorem FL.mark {W0 wr : World} {b5 gb : Nat} {p : Option Addr} {c n : Nat} {E : Nat → Nat → Bool} {l : List Nat} {m : Nat} (h : FL W0 wr b5 gb p c n E l m m) (hm : m < l.length) :
    FL W0 (wr.setCell ⟨gb, l[m], none⟩ (.bool true)) b5 gb p c n E l m (m + 1) := by
  obtain ⟨ho2, hg2⟩ := h.gone.stored l[m] (.bool true)
  rw [boolsOf_set hm] at ho2
  have hlt := h.hgb
  have hb := h.hb5
  obtain ⟨u0, vals, h1, h2, h3, h4⟩ := h.sg
  cases h1
  exact ⟨⟨_, vals, rfl, h2, ownsRow_other h3 h.gone hg2 (by decide), fun j hj => (h4 j hj).other h.gone hg2 (by decide)⟩, h.box.setOther (by show b5 ≠ gb; omega) _, ho2, h.bel.setCell (by show W0.heap.size ≤ gb; omega) _, h.own, h.hb5, h.hgb⟩
theorem FL.next {W0 wr w7 : World} {b5 gb : Nat} {p : Option Addr} {c n : Nat} {E : Nat → Nat → Bool} {l : List Nat} {m q : Nat} (h : FL W0 wr b5 gb p c n E l m q) (hb : Below wr.heap.size wr w7) : FL W0 w7 b5 gb p c n E l m q :=
  ⟨h.sg.below hb, h.box.keep hb, ownsRow_below h.gone hb, h.bel.trans (hb.mono h.bel.size), h.own, h.hb5, h.hgb⟩
theorem FL.fill {W0 w7 w8 : World} {b5 gb : Nat} {p : Option Addr} {c n : Nat} {E : Nat → Nat → Bool} {l : List Nat} {m : Nat} (h : FL W0 w7 b5 gb p c n E l m (m + 1))
    (hs : SG w8 W0.heap.size (.agg #[.slice p n c]) (matG n (fillP E l (m + 1)))) (hg : w7.grownBy w8 (Value.slice p n c).ownBlock) : FL W0 (w8.setCell ⟨b5, 0, none⟩ (.slice p n c)) b5 gb p c n E l (m + 1) (m + 1) := by
  have hbox := h.box.grown hg (fun e => by have := (h.own b5 e.symm).2; omega)
  obtain ⟨u0, vals, h1, h2, h3, h4⟩ := h.sg
  cases h1
  exact ⟨hs.setBox hbox _, hbox.set _, ownsRow_setBox (ownsRow_other h.gone h3 hg (by decide)) hbox (by decide) _, (h.bel.grown hg h.bel.size (fun k hk => (h.own k hk).1)).setCell (by show W0.heap.size ≤ b5; exact h.hb5) _, h.own, h.hb5, h.hgb⟩

end Go.Proofs.YtiooindlpinjhaaDoor
