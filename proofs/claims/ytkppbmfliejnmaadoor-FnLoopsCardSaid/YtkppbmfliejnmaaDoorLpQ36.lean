/- Walk: the reference's search for what is reached. -/
import Derived.Test.YtkppbmfliejnmaaDoorLpQ35
import Derived.Test.YtkppbmfliejnmaaDoorLpQ8
import Derived.Deep.RegionHeld3
import Derived.Deep.DeepCutAuto
import Derived.Test.YtkppbmfliejnmaaDoorLpQ9
import Derived.Deep.RegionLaw
import Derived.Test.YtkppbmfliejnmaaDoorLpQ34
namespace Go.Proofs.YtkppbmfliejnmaaDoor
open Go.RowKit

set_option maxRecDepth 100000 in
set_option maxHeartbeats 1000000 in
theorem l1IntoNew_any (v : Value) (xs : List Int) (n : Int) (hl : xs.length ≤ 100000000) (hnew : n ∉ xs) (w : World) (hx : Nums w 2 .i64 v xs) :
    Calls Tryd.prog 210 #[v, .int .i64 n] w fun e w' => ∃ u, e = .returned u ∧ w'.ownsRow w.heap.size 2 1 u (intoL xs n).length ((intoL xs n).map (Value.int .i64)) ∧ Below w.heap.size w w' := by
  have hx0 := Lib.hid hx
  obtain ⟨p, c, rfl, hp, hnc, hn, hat⟩ := hx
  go_enter Tryd.func210, Tryd.ntmps210
  go_wp2
  go_loop [5] (fun i => ∃ k : Nat, k ≤ xs.length ∧ i = .int .i64 k ∧ ∀ j (hj : j < xs.length), j < k → xs[j] < n) (fun i => xs.length - (intOf i).toNat)
  case atStart => exact ⟨0, Nat.zero_le _, rfl, fun j hj h => by omega⟩
  case round =>
    obtain ⟨k, hk, rfl, hlow⟩ := hrel
    have Hlow := Lib.hid hlow
    clear hlow
    by_cases hlt : k < xs.length
    · obtain ⟨b, o, rfl, hcell⟩ := hat.num hlt
      by_cases h1 : xs[k] < n
      · go_wp2
        go_round
        case rel =>
          refine ⟨k + 1, by omega, by go_num, fun j hj h => ?_⟩
          by_cases e : j = k
          · subst e; exact h1
          · exact Hlow.out j hj (by omega)
        case measure => simp [intOf]; omega
      · by_cases h2 : xs[k] = n
        · exact absurd (h2 ▸ List.getElem_mem hlt) hnew
        · have h2' : (xs[k] == n) = false := by simpa using h2
          have H := Lib.hid (intoL_new hk Hlow.out (fun _ => h1) (fun _ => h2))
          clear h2
          have hsl : Sl w 2 (.slice (some ⟨b, o, none⟩) k c) k ((xs.take k).map (Value.int .i64)) :=
            ⟨_, _, rfl, (fun e => by cases e), by omega, by omega, by rw [List.map_take]; exact hat.take k⟩
          have hkc : k < c := by omega
          have hd : Sl w 2 (.slice (some ⟨b, o + k, none⟩) (xs.length - k) (c - k)) (xs.length - k) ((xs.drop k).map (Value.int .i64)) :=
            ⟨_, _, rfl, (fun e => by cases e), by omega, by omega, by rw [List.map_drop]; exact hat.drop k⟩
          go_wp2_with (first
            | (go_at_call 200; refine (l1Copy_any _ k _ (oneCell_ints _ _) (by simp; omega) _ hsl).mono ?_; rintro e w1 ⟨u1, rfl, hown1, hb1⟩)
            | (at_builtin; refine wpList_app1 ty_i64 rfl rfl rfl hown1 rfl rfl (by omega) hb1.size ?_; intro v2 w2 hown2 hg2 _; have hb2 := below_grown hb1 hown1 hg2 (Nat.le_refl _) hb1.size; have hd2 : Sl w2 2 (.slice (some ⟨b, o + k, none⟩) (xs.length - k) (c - k)) (xs.length - k) ((xs.drop k).map (Value.int .i64)) := hd.below hb2)
            | (at_builtin; refine wpList_app ty_i64 rfl rfl rfl hown2 rfl hd2 (by simp) (oneCell_ints _ _) (by omega) hb2.size ?_; intro v3 w3 hown3 hg3 _))
          go_ret
          refine ⟨_, rfl, ?_, below_grown hb2 hown2 hg3 (Nat.le_refl _) hb2.size⟩
          have e : (xs.take k).map (Value.int .i64) ++ [Value.int .i64 n] ++ (xs.drop k).map (Value.int .i64) = (intoL xs n).map (Value.int .i64) := by rw [H.out]; simp
          rw [e] at hown3
          have hlen : k + 1 + (xs.length - k) = (intoL xs n).length := by rw [H.out]; simp; omega
          rw [← hlen]; exact hown3
    · obtain rfl : k = xs.length := by omega
      have H := Lib.hid (intoL_new hk Hlow.out (fun h => absurd h hlt) (fun h => absurd h hlt))
      have hsl : Sl w 2 (.slice p xs.length c) xs.length (xs.map (Value.int .i64)) := hx0.out
      have hfin : ∀ (w2 : World) (u : Value), w2.ownsRow w.heap.size 2 1 u (xs.length + 1 + 0) (xs.map (Value.int .i64) ++ [Value.int .i64 n] ++ []) → w2.ownsRow w.heap.size 2 1 u (intoL xs n).length ((intoL xs n).map (Value.int .i64)) := by
        intro w2 u ho
        have e : xs.map (Value.int .i64) ++ [Value.int .i64 n] ++ [] = (intoL xs n).map (Value.int .i64) := by rw [H.out]; simp
        rw [e] at ho
        rw [show (intoL xs n).length = xs.length + 1 + 0 by rw [H.out]; simp]; exact ho
      rcases p with _ | a
      · obtain ⟨h0, rfl⟩ := hp rfl
        have h0' : xs = [] := List.eq_nil_of_length_eq_zero h0
        subst h0'
        go_wp2_with (first
          | (go_at_call 200; refine (l1Copy_any _ 0 _ (oneCell_ints _ _) rfl _ hsl).mono ?_; rintro e w1 ⟨u1, rfl, hown1, hb1⟩)
          | (at_builtin; refine wpList_app1 ty_i64 rfl rfl rfl hown1 rfl rfl (by omega) hb1.size ?_; intro v2 w2 hown2 hg2 _; have hb2 := below_grown hb1 hown1 hg2 (Nat.le_refl _) hb1.size)
          | (at_builtin; refine wpList_app ty_i64 rfl rfl rfl hown2 rfl (Sl.nothing _ _ _ _ (fun _ => rfl)) rfl (fun x hx => by cases hx) (by omega) hb2.size ?_; intro v3 w3 hown3 hg3 _))
        go_ret
        exact ⟨_, rfl, hfin _ _ hown3, below_grown hb2 hown2 hg3 (Nat.le_refl _) hb2.size⟩
      · by_cases hcl : c = xs.length
        · subst hcl
          go_wp2_with (first
            | (go_at_call 200; refine (l1Copy_any _ xs.length _ (oneCell_ints _ _) (by simp) _ hsl).mono ?_; rintro e w1 ⟨u1, rfl, hown1, hb1⟩)
            | (at_builtin; refine wpList_app1 ty_i64 rfl rfl rfl hown1 rfl rfl (by omega) hb1.size ?_; intro v2 w2 hown2 hg2 _; have hb2 := below_grown hb1 hown1 hg2 (Nat.le_refl _) hb1.size)
            | (at_builtin; refine wpList_app ty_i64 rfl rfl rfl hown2 rfl (Sl.nothing _ _ _ _ (fun e => by cases e)) rfl (fun x hx => by cases hx) (by omega) hb2.size ?_; intro v3 w3 hown3 hg3 _))
          go_ret
          exact ⟨_, rfl, hfin _ _ hown3, below_grown hb2 hown2 hg3 (Nat.le_refl _) hb2.size⟩
        · have hcl' : xs.length < c := by omega
          go_wp2_with (first
            | (go_at_call 200; refine (l1Copy_any _ xs.length _ (oneCell_ints _ _) (by simp) _ hsl).mono ?_; rintro e w1 ⟨u1, rfl, hown1, hb1⟩)
            | (at_builtin; refine wpList_app1 ty_i64 rfl rfl rfl hown1 rfl rfl (by omega) hb1.size ?_; intro v2 w2 hown2 hg2 _; have hb2 := below_grown hb1 hown1 hg2 (Nat.le_refl _) hb1.size)
            | (at_builtin; refine wpList_app ty_i64 rfl rfl rfl hown2 rfl (Sl.nothing _ _ _ _ (fun e => by cases e)) rfl (fun x hx => by cases hx) (by omega) hb2.size ?_; intro v3 w3 hown3 hg3 _))
          go_ret
          exact ⟨_, rfl, hfin _ _ hown3, below_grown hb2 hown2 hg3 (Nat.le_refl _) hb2.size⟩

theorem own_num {w : World} {base : Nat} {E : TypeId} {L : List Nat} {v : Value} (h : w.ownsRow base E 1 v L.length ((natInts L).map (Value.int .i64))) (hL : L.length ≤ 1000000000) : Nums w E .i64 v (natInts L) := Nums.of_owns h (by rw [natInts_length]) hL

/-- The length of a slice's value. -/
def lenOf : Value → Nat
  | .slice _ n _ => n
  | _ => 0

structure ReW (W0 wr : World) (E : Nat → Nat → Bool) (L : List Nat) (u : Nat) (gv : Value) (o t : Value) (out todo : List Nat) (c : Option Nat) (i : Nat) : Prop where
  re : ReI E L u out todo c i
  own : wr.ownsRow (W0.heap.size + 1) 2 1 o out.length ((natInts out).map (Value.int .i64))
  que : QRow wr (W0.heap.size + 1) 2 t ((natInts todo).map (Value.int .i64))
  apart : ∀ b, o.ownBlock = some b → t.ownBlock ≠ some b
  bel : Below W0.heap.size W0 wr
  box : Box wr W0.heap.size 29 gv
  bnd : out.length ≤ 16
theorem ReW.tl {W0 wr : World} {E : Nat → Nat → Bool} {L : List Nat} {u : Nat} {gv o t : Value} {out todo : List Nat} {c : Option Nat} {i : Nat} (h : ReW W0 wr E L u gv o t out todo c i) : todo.length ≤ out.length := h.re.len

theorem ReW.pop {W0 wr : World} {E : Nat → Nat → Bool} {L : List Nat} {u c0 : Nat} {gv o t t' : Value} {out todo : List Nat} {i : Nat} (h : ReW W0 wr E L u gv o t out (c0 :: todo) none i)
    (hs : t'.ownBlock = t.ownBlock) (hq : QRow wr (W0.heap.size + 1) 2 t' ((natInts todo).map (Value.int .i64))) : ReW W0 wr E L u gv o t' out todo (some c0) 0 :=
  ⟨h.re.pop, h.own, hq, fun b e => by rw [hs]; exact h.apart b e, h.bel, h.box, h.bnd⟩
theorem ReW.fin {W0 wr : World} {E : Nat → Nat → Bool} {L : List Nat} {u c0 : Nat} {gv o t : Value} {out todo : List Nat} (h : ReW W0 wr E L u gv o t out todo (some c0) L.length) : ReW W0 wr E L u gv o t out todo none 0 :=
  ⟨h.re.fin, h.own, h.que, h.apart, h.bel, h.box, h.bnd⟩
theorem ReW.skip {W0 wr : World} {E : Nat → Nat → Bool} {L : List Nat} {u c0 i : Nat} {gv o t : Value} {out todo : List Nat} (h : ReW W0 wr E L u gv o t out todo (some c0) i) (hi : i < L.length) (hs : L[i] = c0 ∨ ¬ E c0 L[i] = true ∨ L[i] ∈ out) : ReW W0 wr E L u gv o t out todo (some c0) (i + 1) :=
  ⟨h.re.skip hi hs, h.own, h.que, h.apart, h.bel, h.box, h.bnd⟩
theorem ReW.c0 {W0 wr : World} {E : Nat → Nat → Bool} {L : List Nat} {u c0 i n : Nat} {gv o t : Value} {out todo : List Nat} (h : ReW W0 wr E L u gv o t out todo (some c0) i) (hL : ∀ x ∈ L, x < n) : c0 < n :=
  hL _ (h.re.sub _ (h.re.cur c0 rfl).1).1
theorem ReW.base {W0 wr w5 : World} {E : Nat → Nat → Bool} {L : List Nat} {u i : Nat} {c : Option Nat} {gv o t : Value} {out todo : List Nat} (h : ReW W0 wr E L u gv o t out todo c i) (hb : Below wr.heap.size wr w5) : W0.heap.size + 1 ≤ w5.heap.size := by
  have := h.box.lt
  have := hb.size
  omega
theorem natInts_atQ {l : List Nat} {k : Nat} (h : k < l.length) {h' : k < (natInts l).length} : (natInts l)[k] = ((l[k] : Nat) : Int) := by simp [natInts]
theorem new_nat {out : List Nat} {u : Nat} (h : u ∉ out) : (u : Int) ∉ natInts out := fun k => h (by
  obtain ⟨i, h1, h2⟩ := mem_natInts.1 k
  obtain rfl : i = u := by omega
  exact h1)
theorem ReW.add {W0 wr w5 w6 : World} {E : Nat → Nat → Bool} {L : List Nat} {u c0 i b off n6 c6 : Nat} {gv o o5 t : Value} {out todo : List Nat} (h : ReW W0 wr E L u gv o t out todo (some c0) i) (hi : i < L.length) (hE : E c0 L[i] = true) (hnew : L[i] ∉ out)
    (hL : L.Pairwise (· < ·)) (hL16 : L.length ≤ 16) (ho5 : w5.ownsRow wr.heap.size 2 1 o5 (intoL (natInts out) ((L[i] : Nat) : Int)).length ((intoL (natInts out) ((L[i] : Nat) : Int)).map (Value.int .i64))) (hb5 : Below wr.heap.size wr w5)
    (hq : QRow w6 (W0.heap.size + 1) 2 (.slice (some ⟨b, off, none⟩) n6 c6) ((natInts todo).map (Value.int .i64) ++ [.int .i64 ((L[i] : Nat) : Int)])) (hg : w5.grownBy w6 t.ownBlock) (h7 : t.ownBlock = some b ∨ w5.heap.size ≤ b) :
    ∃ out', out'.length = out.length + 1 ∧ ReW W0 w6 E L u gv o5 (.slice (some ⟨b, off, none⟩) n6 c6) out' (todo ++ [L[i]]) (some c0) (i + 1) := by
  obtain ⟨out', e, hr, hm, hl⟩ := into_nat h.re.ris hnew
  rw [e, natInts_length] at ho5
  have hre := h.re.add hi hE hr hm (by omega)
  have hbs := h.box.lt
  have h5s := hb5.size
  have hof : ∀ k, o5.ownBlock = some k → t.ownBlock ≠ some k := fun k hk e2 => by
    have h1 := (ho5.lt k hk).1
    have h2 := (h.que.lt k e2).2
    omega
  refine ⟨out', hl, hre, ownsRow_base (ho5.kept hg ?_) (by omega), ?_, fun k hk e2 => ?_, ?_, ?_, Nat.le_trans (hre.bound hL) hL16⟩
  · cases hob : o5.ownBlock with
    | none => exact .inl rfl
    | some k => exact .inr fun e2 => hof k hob e2.symm
  · have e3 : (natInts (todo ++ [L[i]])).map (Value.int .i64) = (natInts todo).map (Value.int .i64) ++ [.int .i64 ((L[i] : Nat) : Int)] := by simp [natInts]
    rw [e3]; exact hq
  · have hk2 : b = k := by simpa [Value.ownBlock] using e2
    subst hk2
    rcases h7 with h7 | h7
    · exact hof _ hk h7
    · have := (ho5.lt _ hk).2
      omega
  · exact (h.que.below hb5).grow (h.bel.trans (hb5.mono h.bel.size)) hg (by omega) (by omega)
  · refine (h.box.keep hb5).grown hg fun e2 => ?_
    have := (h.que.lt _ e2.symm).1
    omega
theorem ReW.start' (w : World) {E : Nat → Nat → Bool} {L : List Nat} {u : Nat} (gv : Value) (hu : u ∈ L) :
    ReW w (((w.alloc (.cells #[gv] 29)).alloc (.cells #[.int .i64 (u : Int)] 2)).alloc (.cells #[.int .i64 (u : Int)] 2)) E L u gv
      (.slice (some ⟨w.heap.size + 1, 0, none⟩) 1 1) (.slice (some ⟨w.heap.size + 1 + 1, 0, none⟩) 1 1) [u] [u] none 0 := by
  have s1 : (w.alloc (.cells #[gv] 29)).heap.size = w.heap.size + 1 := by show (w.heap.push _).size = _; simp
  have s2 : ((w.alloc (.cells #[gv] 29)).alloc (.cells #[.int .i64 (u : Int)] 2)).heap.size = w.heap.size + 1 + 1 := by show (Array.push _ _).size = _; rw [Array.size_push, s1]
  refine ⟨.start' hu, ?_, ?_, ?_, ?_, ?_, by simp⟩
  · have := World.ownsRow_lit (w.alloc (.cells #[gv] 29)) #[.int .i64 (u : Int)] 1 (base := w.heap.size + 1) (e := 2) (size := 1) (by omega) (by decide) (by simp)
    rw [s1] at this
    exact ownsRow_below this (below_alloc _ _)
  · have := QRow.one ((w.alloc (.cells #[gv] 29)).alloc (.cells #[.int .i64 (u : Int)] 2)) 2 (.int .i64 (u : Int))
    rw [s2] at this
    exact this.base (by omega)
  · intro b e k
    have e1 : w.heap.size + 1 = b := by simpa [Value.ownBlock] using e
    have e2 : w.heap.size + 1 + 1 = b := by simpa [Value.ownBlock] using k
    omega
  · exact ((below_alloc w _).alloc (below_alloc w _).size _).alloc (by omega) _
  · exact ((Box.new w gv 29).alloc _).alloc _


end Go.Proofs.YtkppbmfliejnmaaDoor

/- Walk: linking two vertices in a graph whose rows are the callee's own, each in a block of its own. -/
namespace Go.Proofs.YtkppbmfliejnmaaDoor
open Go.RowKit

structure LKD (w wr : World) (base ob c : Nat) (g : List (List Int)) (vals : List Value) : Prop where
  len : vals.length = g.length
  own : wr.ownsRow base 33 1 (.slice (some ⟨ob, 0, none⟩) g.length c) g.length vals
  rows : Dis wr base g.length vals g
  small : ∀ j, j < g.length → (row g j).length ≤ 100000
  low : base ≤ w.heap.size
  box : Box wr w.heap.size 29 (.slice (some ⟨ob, 0, none⟩) g.length c)
  res : Box wr (w.heap.size + 1) 29 (.slice none 0 0)
  grown : w.grownBy wr (some ob)
  lt : ob < w.heap.size

theorem LKD.nums {w wr : World} {base ob c : Nat} {g : List (List Int)} {vals : List Value} (h : LKD w wr base ob c g vals) (j : Nat) (hj : j < g.length) : Nums wr 2 .i64 (vals.getD j undef) (row g j) :=
  Nums.of_owns (h.rows.rows j hj) rfl (by have := h.small j hj; omega)
/-- A row behind the others is put in the place of one. -/
theorem Dis.put {wr w2 W : World} {base u : Nat} {g : List (List Int)} {vals : List Value} {rv : Value} {s : List Int} (h : Dis wr base g.length vals g) (hl : vals.length = g.length) (hu : u < g.length) (hb : Below wr.heap.size wr w2) (hB : base ≤ wr.heap.size)
    (hn : w2.ownsRow wr.heap.size 2 1 rv s.length (s.map (Value.int .i64)))
    (hW : ∀ base size n v (xs : List Value), w2.ownsRow base 2 size v n xs → W.ownsRow base 2 size v n xs) : Dis W base g.length (vals.set u rv) (g.set u s) := by
  have e1 : ∀ j, j ≠ u → (vals.set u rv).getD j undef = vals.getD j undef := fun j hj => by simp [show ¬ u = j from fun q => hj q.symm]
  have e2 : (vals.set u rv).getD u undef = rv := by simp [hl, hu]
  refine ⟨fun j hj => ?_, fun i j hi hj hne b hbi => ?_⟩
  · rw [row_set _ _ _ _ hu]
    by_cases e : j = u
    · subst e
      rw [if_pos rfl, e2]
      exact hW _ _ _ _ _ (ownsRow_base hn hB)
    · rw [if_neg e, e1 j e]
      exact hW _ _ _ _ _ (ownsRow_below (h.rows j hj) hb)
  · by_cases ei : i = u
    · subst ei
      rw [e2] at hbi
      rw [e1 j (fun e => hne e.symm)]
      intro hc
      have := (hn.lt b hbi).1
      have := ((h.rows j hj).lt b hc).2
      omega
    · rw [e1 i ei] at hbi
      by_cases ej : j = u
      · subst ej
        rw [e2]
        intro hc
        have := (hn.lt b hc).1
        have := ((h.rows i hi).lt b hbi).2
        omega
      · rw [e1 j ej]
        exact h.dis i j hi hj hne b hbi
theorem LKD.step {w wr w2 : World} {base ob c : Nat} {g : List (List Int)} {vals : List Value} (h : LKD w wr base ob c g vals) (hb : Below wr.heap.size wr w2) {rv : Value} {s : List Int} (hn : w2.ownsRow wr.heap.size 2 1 rv s.length (s.map (Value.int .i64))) (hs : s.length ≤ 100000) {u : Nat} (hu : u < g.length) :
    LKD w (w2.setCell ⟨ob, u, none⟩ rv) base ob c (g.set u s) (vals.set u rv) := by
  have ho := ownsRow_below h.own hb
  obtain ⟨ho2, hg2⟩ := ho.stored u rv
  have hl := h.lt
  refine ⟨by simp [h.len], by rw [List.length_set]; exact ho2, ?_, fun j hj => ?_, h.low, ?_, ?_, grown_trans (grown_trans h.grown (grown_of_below hb _)) hg2, hl⟩
  · rw [List.length_set]
    exact h.rows.put h.len hu hb (Nat.le_trans h.low h.grown.size) hn fun base size n v xs hx => ownsRow_other hx ho hg2 (by decide)
  · rw [List.length_set] at hj
    rw [row_set _ _ _ _ hu]
    split
    · exact hs
    · exact h.small j hj
  · rw [List.length_set]
    exact (h.box.keep hb).setOther (by show w.heap.size ≠ ob; omega) _
  · exact (h.res.keep hb).setOther (by show w.heap.size + 1 ≠ ob; omega) _

set_option maxRecDepth 100000 in
set_option maxHeartbeats 4000000 in
theorem l1LinkD_any (p : Option Addr) (c : Nat) (g : List (List Int)) (y z : Int) (u k base : Nat) (hy : y = u) (hz : z = k) (hu : u < g.length) (hk : k < g.length) (huk : u ≠ k) (hn1 : (k : Int) ∉ row g u) (hn2 : (u : Int) ∉ row g k) (hr : ∀ j, j < g.length → (row g j).length ≤ 1000) (w : World)
    (hs : DG w base (.agg #[.slice p g.length c]) g) :
    Calls Tryd.prog 154 #[.agg #[.slice p g.length c], .int .i64 y, .int .i64 z] w fun e w' => e = .returned (.agg #[.slice p g.length c]) ∧ DG w' base (.agg #[.slice p g.length c]) (linkL g u k) ∧ w.grownBy w' (Value.slice p g.length c).ownBlock := by
  subst hy; subst hz
  obtain ⟨_, vals, h1, hl, ho, hrows⟩ := hs
  cases h1
  obtain ⟨ob, rfl⟩ : ∃ ob, p = some ⟨ob, 0, none⟩ := by
    rcases ho.2 with ⟨_, h0⟩ | ⟨b, cc, _, h1, _⟩
    · omega
    · simp only [Value.slice.injEq] at h1
      exact ⟨b, h1.1⟩
  have hlt := (ho.lt ob rfl).2
  have hbb := below_alloc2 w (.cells #[.slice (some ⟨ob, 0, none⟩) g.length c] 29) (.cells #[.slice none 0 0] 29)
  have START : Hid (LKD w ((w.alloc (.cells #[.slice (some ⟨ob, 0, none⟩) g.length c] 29)).alloc (.cells #[.slice none 0 0] 29)) base ob c g vals) := Lib.hid
    ⟨hl, ownsRow_below ho hbb, ⟨fun j hj => ownsRow_below (hrows.rows j hj) hbb, hrows.dis⟩, fun j hj => by have := hr j hj; omega, (by have := ho.lt ob rfl; omega), (Box.new _ _ _).alloc _, by have := Box.new (w.alloc (.cells #[.slice (some ⟨ob, 0, none⟩) g.length c] 29)) (.slice none 0 0) 29; rw [size_alloc] at this; exact this, grown_of_below hbb _, hlt⟩
  have HR := Lib.hid hr
  have HN1 := Lib.hid hn1
  have HN2 := Lib.hid hn2
  clear hl ho hrows hbb hr hn1 hn2
  go_enter Tryd.func154, Tryd.ntmps154
  go_upto_region 1 with fail
  generalize hW : (w.alloc (.cells #[.slice (some ⟨ob, 0, none⟩) g.length c] 29)).alloc (.cells #[.slice none 0 0] 29) = W at *
  clear hW
  obtain ⟨bc, bf, _, _⟩ := START.out.box
  obtain ⟨rp, rc, hrs, _⟩ := (START.out.nums u hu).shape
  have hcu := START.out.own.cellAt u (by omega)
  have hv0 := get_getD vals u undef (by rw [START.out.len]; exact hu)
  rw [hv0, hrs] at hcu
  have hnu := Lib.hid (START.out.nums u hu)
  rw [hrs] at hnu
  have hru := HR.out u hu
  clear hv0 hrs
  go_cut [] (fun wx => ∃ rv, LKD w wx base ob c (g.set u (intoL (row g u) k)) (vals.set u rv))
  case first =>
    go_region_law (first | (go_simp; go_at_call 210; refine (l1IntoNew_any _ (row g u) k (by omega) HN1.out _ (hnu.out.below (below_dN (Below.refl _ _) 1))).mono ?_; rintro e w2 ⟨rv, rfl, hn2, hb2⟩; obtain ⟨rvp, rvc, rfl⟩ := owns_shapeR hn2; have hb2' : Below W.heap.size W w2 := (below_dN (Below.refl _ _) 1).trans hb2; have hf2 := (ownsRow_below START.out.own hb2').frozenAt u; have hc2 := hb2'.at' hcu; have hbc2 := hb2'.at' bc))
    all_goals go_wp2
    all_goals go_meet
    all_goals exact ⟨_, START.out.step hb2' hn2 (by have := intoL_length (row g u) k; omega) hu⟩
  case rest =>
    obtain ⟨rv0, hlk⟩ := hcut
    have HL := Lib.hid hlk
    have hk' : k < (g.set u (intoL (row g u) k)).length := by simpa using hk
    obtain ⟨bc, bf, _, _⟩ := hlk.box
    obtain ⟨rp, rc, hrs, _⟩ := (hlk.nums k hk').shape
    have hcu := hlk.own.cellAt k (by omega)
    have hv0 := get_getD (vals.set u rv0) k undef (by rw [hlk.len]; exact hk')
    rw [hv0, hrs] at hcu
    have hnu := Lib.hid (hlk.nums k hk')
    rw [hrs] at hnu
    have hl1 : (g.set u (intoL (row g u) k)).length = g.length := by simp
    have hru : (row (g.set u (intoL (row g u) k)) k).length ≤ 2000 := by
      rw [row_set _ _ _ _ hu]
      split
      · have := intoL_length (row g u) k; have := HR.out u hu; omega
      · have := HR.out k hk; omega
    rw [hl1] at bc
    clear hv0 hrs hlk
    have HNR : Hid ((u : Int) ∉ row (g.set u (intoL (row g u) k)) k) := Lib.hid (by rw [row_set _ _ _ _ hu, if_neg (fun e => huk e.symm)]; exact HN2.out)
    generalize hr1 : row (g.set u (intoL (row g u) k)) k = r1 at hru hcu hnu HNR
    go_upto_region 2 with fail
    go_cut [] (fun wx => ∃ rv, LKD w wx base ob c (linkL g u k) ((vals.set u rv0).set k rv))
    case first =>
      go_region_law (first | (go_simp; go_at_call 210; refine (l1IntoNew_any _ r1 u (by omega) HNR.out _ (hnu.out.below (below_dN (Below.refl _ _) 1))).mono ?_; rintro e w2 ⟨rv, rfl, hn2, hb2⟩; obtain ⟨rvp, rvc, rfl⟩ := owns_shapeR hn2; have hb2' : Below wc.heap.size wc w2 := (below_dN (Below.refl _ _) 1).trans hb2; have hf2 := (ownsRow_below HL.out.own hb2').frozenAt k; have hc2 := hb2'.at' hcu; have hbc2 := hb2'.at' bc))
      all_goals go_wp2
      all_goals go_meet
      all_goals exact ⟨_, by rw [show linkL g u k = (g.set u (intoL (row g u) k)).set k (intoL r1 u) from by unfold linkL; rw [hr1]]; exact HL.out.step hb2' hn2 (by have := intoL_length r1 u; omega) hk'⟩
    case rest =>
      obtain ⟨rv1, hlk⟩ := hcut
      have HL2 := Lib.hid hlk
      obtain ⟨bc, bf, _, _⟩ := hlk.box
      obtain ⟨k2c, k2f, _⟩ := hlk.res
      rw [linkL_length] at bc
      clear hlk
      go_wp2
      refine bodyPost_ret (v := .agg #[.slice (some ⟨ob, 0, none⟩) g.length c]) (by simp [results, Tryd.results154, go_sem, k2c]) rfl ⟨rfl, ⟨_, _, rfl, HL2.out.len, ?_, ⟨fun j hj => ownsRow_setBox (HL2.out.rows.rows j (by rw [linkL_length] at hj ⊢; exact hj)) HL2.out.res (by decide) _, fun i j hi hj => HL2.out.rows.dis i j (by rw [linkL_length] at hi ⊢; exact hi) (by rw [linkL_length] at hj ⊢; exact hj)⟩⟩, ?_⟩
      · exact ownsRow_setBox (by have := HL2.out.own; rw [linkL_length] at this ⊢; exact this) HL2.out.res (by decide) _
      · have hlt' := HL2.out.lt
        refine ⟨HL2.out.grown.os, HL2.out.grown.tape, HL2.out.grown.output, by have := HL2.out.grown.size; simpa [World.setCell] using this, fun b hb hne => ?_⟩
        rw [Below.heap_setCell _ _ _ _ (by show b ≠ w.heap.size + 1; omega)]
        exact HL2.out.grown.block b hb hne

end Go.Proofs.YtkppbmfliejnmaaDoor

/- Walks: the reference's draws: a cursor made (l1New), numbers (l1Odd, l1Min, l1Num). -/
namespace Go.Proofs.YtkppbmfliejnmaaDoor
open Go.RowKit

theorem cur_far {w0 w : World} {cb : Nat} {bs : List Int} (h : Cur w0 w cb bs) {cur : Array Value} {E : TypeId} {fz : Nat × Nat} {b : Nat} (hE : E ≠ 153) (hb : w.heap[b]? = some (.cells cur E fz)) : b ≠ cb := by
  obtain ⟨bv, i, z, h1, _⟩ := h.ex
  intro e
  subst e
  rw [h1.blk] at hb
  simp only [Option.some.injEq, Obj.cells.injEq] at hb
  exact hE hb.2.1.symm
theorem Sl.cured {w0 w w' : World} {cb : Nat} {bs : List Int} (h : Cur w0 w cb bs) (hg : w.grownBy w' (some cb)) {E : TypeId} (hE : E ≠ 153) {v : Value} {n : Nat} {vals : List Value} (hs : Sl w E v n vals) : Sl w' E v n vals :=
  hs.keep fun b cur fz hb => hg.block b (Array.getElem?_eq_some_iff.1 hb).1 (fun e => cur_far h hE hb (by simpa using e))
theorem ownsRow_cured {w0 w w' : World} {cb : Nat} {bs : List Int} (h : Cur w0 w cb bs) (hg : w.grownBy w' (some cb)) {E : TypeId} (hE : E ≠ 153) {base size n : Nat} {v : Value} {xs : List Value} (ho : w.ownsRow base E size v n xs) : w'.ownsRow base E size v n xs :=
  ho.kept hg (by
    rcases ho.2 with ⟨rfl, _⟩ | ⟨g, cap, cur, rfl, _, hgg, _⟩
    · exact .inl rfl
    · exact .inr fun e => cur_far h hE hgg (by simpa [Value.ownBlock] using e))
theorem Box.cured {w0 w w' : World} {cb : Nat} {bs : List Int} (h : Cur w0 w cb bs) (hg : w.grownBy w' (some cb)) {T : TypeId} (hT : T ≠ 153) {b : Nat} {v : Value} (hb : Box w b T v) : Box w' b T v :=
  hb.grown hg (fun e => cur_far h hT hb.blk (by simpa using e))
theorem DG.cured {w0 w w' : World} {cb : Nat} {bs : List Int} (h : Cur w0 w cb bs) (hg : w.grownBy w' (some cb)) {base : Nat} {v : Value} {g : List (List Int)} (hs : DG w base v g) : DG w' base v g := by
  obtain ⟨u, vals, h1, h2, h3, h4⟩ := hs
  exact ⟨u, vals, h1, h2, ownsRow_cured h hg (by decide) h3, ⟨fun j hj => ownsRow_cured h hg (by decide) (h4.rows j hj), h4.dis⟩⟩

set_option maxRecDepth 100000 in
set_option maxHeartbeats 4000000 in
theorem l1New_any (v : Value) (bs : List Int) (hl : bs.length ≤ 4096) (w : World) (ha : ArgB w v bs) :
    Calls Tryd.prog 126 #[v] w fun e w' => ∃ cb : Nat, e = .returned (.pointer (some ⟨cb, 0, none⟩)) ∧ Cur w w' cb bs ∧ Below w.heap.size w w' := by
  obtain ⟨p, c, e, _⟩ := id ha
  subst e
  have HA := Lib.hid ha
  clear ha
  go_enter Tryd.func126, Tryd.ntmps126
  go_wp2
  go_loopw [3, 4] (fun h i wr => ∃ (k : Nat) (z : Int), i = .int .i64 k ∧ h = .int .i64 z ∧ k ≤ bs.length ∧ wr = w) (fun _ i _ => bs.length - (intOf i).toNat)
  case atStart => exact ⟨0, _, rfl, rfl, Nat.zero_le _, rfl⟩
  case round =>
    obtain ⟨k, z, rfl, rfl, hk, rfl⟩ := hrel
    by_cases hlt : k < bs.length
    · obtain ⟨xb, xo, rfl, hcx, hx0, hx1⟩ := HA.out.get hlt
      generalize bs[k] = x at hcx hx0 hx1
      go_wp2
      go_roundw
      case rel => exact ⟨k + 1, _, by go_num, rfl, by omega, trivial⟩
      case measure => simp [intOf]; omega
    · obtain rfl : k = bs.length := by omega
      go_wp2
      go_ret
      exact ⟨_, rfl, ⟨⟨_, 0, z, BoxC.new _ _ _ _, Nat.zero_le _, HA.out⟩, hl, Nat.le_refl _, below_alloc _ _⟩, below_alloc _ _⟩

theorem l1Min_any (x y : Int) (w : World) : Calls Tryd.prog 209 #[.int .i64 x, .int .i64 y] w fun e w' => e = .returned (.int .i64 (min x y)) ∧ w = w' := by
  by_cases h : x < y
  · have hm : Hid (min x y = x) := Lib.hid (by omega)
    go_enter Tryd.func209, Tryd.ntmps209
    go_wp2
    go_ret
    exact ⟨by rw [hm.out]; rfl, rfl⟩
  · have hm : Hid (min x y = y) := Lib.hid (by omega)
    go_enter Tryd.func209, Tryd.ntmps209
    go_wp2
    go_ret
    exact ⟨by rw [hm.out]; rfl, rfl⟩

theorem lit_nums (w : World) (xs : List Int) (hl : xs.length ≤ 1000) : Nums (w.alloc (.cells (xs.map (Value.int .i64)).toArray 2)) 2 .i64 (.slice (some ⟨w.heap.size, 0, none⟩) xs.length xs.length) xs := by
  have := World.ownsRow_lit w (xs.map (Value.int .i64)).toArray xs.length (base := w.heap.size) (e := 2) (size := 1) (Nat.le_refl _) (by unfold maxLen; omega) (by simp)
  exact Nums.of_owns (by simpa using this) rfl (by omega)

set_option maxRecDepth 100000 in
set_option maxHeartbeats 4000000 in
theorem l1Odd_any (w0 : World) (cb : Nat) (bs : List Int) (w : World) (hc : Cur w0 w cb bs) :
    Calls Tryd.prog 149 #[.pointer (some ⟨cb, 0, none⟩)] w fun e w' => ∃ z : Int, e = .returned (.int .i64 z) ∧ Cur w0 w' cb bs ∧ w.grownBy w' (some cb) := by
  have HB := Lib.hid (below_alloc w (.cells #[.int .i64 (-1), .int .i64 0, .int .i64 1, .int .i64 2147483648, .int .i64 (-2147483648), .int .i64 1099511627776, .int .i64 4611686018427387904, .int .i64 (-4611686018427387904), .int .i64 9223372036854775807, .int .i64 (-9223372036854775808)] 2))
  have HC := Lib.hid (hc.keep HB.out)
  have HL := Lib.hid (lit_nums w [-1, 0, 1, 2147483648, -2147483648, 1099511627776, 4611686018427387904, -4611686018427387904, 9223372036854775807, -9223372036854775808] (by simp))
  clear hc
  go_enter Tryd.func149, Tryd.ntmps149
  go_wp2_with go_loud (go_at_call 148; refine (l1Below_any w0 cb bs 10 (by decide) _ HC.out).mono ?_; rintro e w2 ⟨r, rfl, hr, _, hc2, hg2⟩; have HC2 := Lib.hid hc2; have HG2 := Lib.hid hg2; have hr10 := hr (by decide); (obtain ⟨_, _, e1, hcell⟩ := (show Nums w2 2 .i64 _ _ from Sl.cured HC.out hg2 (by decide) HL.out).get (k := r) (by simp; omega)); cases e1; rw [Nat.zero_add] at hcell; (obtain ⟨zz, hzz⟩ : ∃ z : Int, w2.cell? ⟨w.heap.size, r, none⟩ = some (.int .i64 z) := ⟨_, hcell⟩); (have hr0 : (r : Int) < 10 := hr10); clear hcell hr hc2 hg2 hr10)
  go_ret
  exact ⟨_, rfl, HC2.out, grown_trans (grown_of_below HB.out _) HG2.out⟩

set_option maxRecDepth 100000 in
set_option maxHeartbeats 4000000 in
theorem l1Num_any (w0 : World) (cb : Nat) (bs : List Int) (n : Int) (hn0 : 0 ≤ n) (hn : n ≤ 1000000) (w : World) (hc : Cur w0 w cb bs) :
    Calls Tryd.prog 151 #[.pointer (some ⟨cb, 0, none⟩), .int .i64 n] w fun e w' => ∃ z : Int, e = .returned (.int .i64 z) ∧ Cur w0 w' cb bs ∧ w.grownBy w' (some cb) := by
  have HC := Lib.hid hc
  have hwr : IntKind.i64.wrap (n + 1) = n + 1 := by rw [IntKind.wrap_i64]; omega
  clear hc
  go_enter Tryd.func151, Tryd.ntmps151
  go_upto_if 6 with (go_at_call 129; refine (l1Once_any w0 cb bs 10 (by decide) _ HC.out).mono ?_; rintro e w2 ⟨b, rfl, hc2, hg2⟩; have HC2 := Lib.hid hc2; have HG2 := Lib.hid hg2; clear hc2 hg2)
  cases b
  · go_upto_if 18 with (go_at_call 129; refine (l1Once_any w0 cb bs 2 (by decide) _ HC2.out).mono ?_; rintro e w3 ⟨b, rfl, hc2, hg2⟩; have HC3 := Lib.hid hc2; have HG3 := Lib.hid (grown_trans HG2.out hg2); clear hc2 hg2)
    cases b
    · go_wp2_with (go_at_call 148; refine (l1Below_any w0 cb bs (n + 1) (by omega) _ HC3.out).mono ?_; rintro e w4 ⟨r, rfl, _, _, hc2, hg2⟩; have HC4 := Lib.hid hc2; have HG4 := Lib.hid (grown_trans HG3.out hg2); clear hc2 hg2)
      go_ret
      exact ⟨_, rfl, HC4.out, HG4.out⟩
    · have hmn : 0 ≤ min n 4 ∧ min n 4 ≤ 4 := by omega
      have hwr2 : IntKind.i64.wrap (min n 4 + 1) = min n 4 + 1 := by rw [IntKind.wrap_i64]; omega
      have HMI := Lib.hid (l1Min_any n 4)
      obtain ⟨mn, hm⟩ : ∃ mn, mn = min n 4 := ⟨_, rfl⟩
      rw [← hm] at hmn hwr2 HMI
      clear hm
      go_wp2_with (first
        | (go_at_call 148; refine (l1Below_any w0 cb bs (mn + 1) (by omega) _ HC3.out).mono ?_; rintro e w4 ⟨r, rfl, _, _, hc2, hg2⟩; have HC4 := Lib.hid hc2; have HG4 := Lib.hid (grown_trans HG3.out hg2); clear hc2 hg2)
        | (go_at_call 209; refine (HMI.out _).mono ?_; rintro e wm ⟨rfl, rfl⟩))
      go_ret
      exact ⟨_, rfl, HC4.out, HG4.out⟩
  · go_wp2_with (first
      | (go_at_call 148; refine (l1Below_any w0 cb bs 4 (by decide) _ HC4.out).mono ?_; rintro e w5 ⟨r, rfl, hr, _, hc2, hg2⟩; have HC5 := Lib.hid hc2; have HG5 := Lib.hid (grown_trans HG4.out hg2); have hr4 := hr (by decide); (obtain ⟨_, _, e1, hcell⟩ := (show Nums w5 2 .i64 _ _ from Sl.cured HC4.out hg2 (by decide) HL.out).get (k := r) (by simp; omega)); cases e1; rw [Nat.zero_add] at hcell; (obtain ⟨zz, hzz⟩ : ∃ z : Int, w5.cell? ⟨w3.heap.size, r, none⟩ = some (.int .i64 z) := ⟨_, hcell⟩); (have hr0 : (r : Int) < 4 := hr4); clear hcell hr hc2 hg2 hr4)
      | (go_at_call 149; refine (l1Odd_any w0 cb bs _ HC2.out).mono ?_; rintro e w3 ⟨od, rfl, hc2, hg2⟩; have HC3 := Lib.hid hc2; have HG3 := Lib.hid (grown_trans HG2.out hg2); clear hc2 hg2; have HB3 := Lib.hid (below_alloc w3 (.cells #[.int .i64 (-1), .int .i64 n, .int .i64 (n + 1), .int .i64 od] 2)); have HC4 := Lib.hid (HC3.out.keep HB3.out); have HG4 := Lib.hid (grown_trans HG3.out (grown_of_below HB3.out _)); have HL := Lib.hid (lit_nums w3 [-1, n, n + 1, od] (by simp))))
    go_ret
    exact ⟨_, rfl, HC5.out, HG5.out⟩

end Go.Proofs.YtkppbmfliejnmaaDoor
