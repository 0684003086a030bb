/- Walk: the reference's search for what is reached. -/
import Derived.Test.YtiooindlpinjhaaDoorBbQ34
import Derived.Test.YtiooindlpinjhaaDoorBbQ7
import Derived.Deep.RegionHeld3
import Derived.Deep.DeepCutAuto
import Derived.Test.YtiooindlpinjhaaDoorBbQ11
import Derived.Test.YtiooindlpinjhaaDoorBbQ8
import Derived.Test.YtiooindlpinjhaaDoorBbQ33
namespace Go.Proofs.YtiooindlpinjhaaDoor
open Go.RowKit

set_option maxRecDepth 100000 in
set_option maxHeartbeats 1000000 in
theorem l1IntoNew_any (v : Value) (xs : List Int) (n : Int) (hl : xs.length ≤ 100000000) (hnew : n ∉ xs) (w : World) (hx : Nums w 2 .i64 v xs) :
    Calls Tryd.prog 149 #[v, .int .i64 n] w fun e w' => ∃ u, e = .returned u ∧ w'.ownsRow w.heap.size 2 1 u (intoL xs n).length ((intoL xs n).map (Value.int .i64)) ∧ Below w.heap.size w w' := by
  have hx0 := Lib.hid hx
  obtain ⟨p, c, rfl, hp, hnc, hn, hat⟩ := hx
  go_enter Tryd.func149, Tryd.ntmps149
  go_wp2
  go_loop [5] (fun i => ∃ k : Nat, k ≤ xs.length ∧ i = .int .i64 k ∧ ∀ j (hj : j < xs.length), j < k → xs[j] < n) (fun i => xs.length - (intOf i).toNat)
  case atStart => exact ⟨0, Nat.zero_le _, rfl, fun j hj h => by omega⟩
  case round =>
    obtain ⟨k, hk, rfl, hlow⟩ := hrel
    have Hlow := Lib.hid hlow
    clear hlow
    by_cases hlt : k < xs.length
    · obtain ⟨b, o, rfl, hcell⟩ := hat.num hlt
      by_cases h1 : xs[k] < n
      · go_wp2
        go_round
        case rel =>
          refine ⟨k + 1, by omega, by go_num, fun j hj h => ?_⟩
          by_cases e : j = k
          · subst e; exact h1
          · exact Hlow.out j hj (by omega)
        case measure => simp [intOf]; omega
      · by_cases h2 : xs[k] = n
        · exact absurd (h2 ▸ List.getElem_mem hlt) hnew
        · have h2' : (xs[k] == n) = false := by simpa using h2
          have H := Lib.hid (intoL_new hk Hlow.out (fun _ => h1) (fun _ => h2))
          clear h2
          have hsl : Sl w 2 (.slice (some ⟨b, o, none⟩) k c) k ((xs.take k).map (Value.int .i64)) :=
            ⟨_, _, rfl, (fun e => by cases e), by omega, by omega, by rw [List.map_take]; exact hat.take k⟩
          have hkc : k < c := by omega
          have hd : Sl w 2 (.slice (some ⟨b, o + k, none⟩) (xs.length - k) (c - k)) (xs.length - k) ((xs.drop k).map (Value.int .i64)) :=
            ⟨_, _, rfl, (fun e => by cases e), by omega, by omega, by rw [List.map_drop]; exact hat.drop k⟩
          go_wp2_with (first
            | (go_at_call 87; refine (l1Copy_any _ k _ (oneCell_ints _ _) (by simp; omega) _ hsl).mono ?_; rintro e w1 ⟨u1, rfl, hown1, hb1⟩)
            | (at_builtin; refine wpList_app1 ty_i64 rfl rfl rfl hown1 rfl rfl (by omega) hb1.size ?_; intro v2 w2 hown2 hg2 _; have hb2 := below_grown hb1 hown1 hg2 (Nat.le_refl _) hb1.size; have hd2 : Sl w2 2 (.slice (some ⟨b, o + k, none⟩) (xs.length - k) (c - k)) (xs.length - k) ((xs.drop k).map (Value.int .i64)) := hd.below hb2)
            | (at_builtin; refine wpList_app ty_i64 rfl rfl rfl hown2 rfl hd2 (by simp) (oneCell_ints _ _) (by omega) hb2.size ?_; intro v3 w3 hown3 hg3 _))
          go_ret
          refine ⟨_, rfl, ?_, below_grown hb2 hown2 hg3 (Nat.le_refl _) hb2.size⟩
          have e : (xs.take k).map (Value.int .i64) ++ [Value.int .i64 n] ++ (xs.drop k).map (Value.int .i64) = (intoL xs n).map (Value.int .i64) := by rw [H.out]; simp
          rw [e] at hown3
          have hlen : k + 1 + (xs.length - k) = (intoL xs n).length := by rw [H.out]; simp; omega
          rw [← hlen]; exact hown3
    · obtain rfl : k = xs.length := by omega
      have H := Lib.hid (intoL_new hk Hlow.out (fun h => absurd h hlt) (fun h => absurd h hlt))
      have hsl : Sl w 2 (.slice p xs.length c) xs.length (xs.map (Value.int .i64)) := hx0.out
      have hfin : ∀ (w2 : World) (u : Value), w2.ownsRow w.heap.size 2 1 u (xs.length + 1 + 0) (xs.map (Value.int .i64) ++ [Value.int .i64 n] ++ []) → w2.ownsRow w.heap.size 2 1 u (intoL xs n).length ((intoL xs n).map (Value.int .i64)) := by
        intro w2 u ho
        have e : xs.map (Value.int .i64) ++ [Value.int .i64 n] ++ [] = (intoL xs n).map (Value.int .i64) := by rw [H.out]; simp
        rw [e] at ho
        rw [show (intoL xs n).length = xs.length + 1 + 0 by rw [H.out]; simp]; exact ho
      rcases p with _ | a
      · obtain ⟨h0, rfl⟩ := hp rfl
        have h0' : xs = [] := List.eq_nil_of_length_eq_zero h0
        subst h0'
        go_wp2_with (first
          | (go_at_call 87; refine (l1Copy_any _ 0 _ (oneCell_ints _ _) rfl _ hsl).mono ?_; rintro e w1 ⟨u1, rfl, hown1, hb1⟩)
          | (at_builtin; refine wpList_app1 ty_i64 rfl rfl rfl hown1 rfl rfl (by omega) hb1.size ?_; intro v2 w2 hown2 hg2 _; have hb2 := below_grown hb1 hown1 hg2 (Nat.le_refl _) hb1.size)
          | (at_builtin; refine wpList_app ty_i64 rfl rfl rfl hown2 rfl (Sl.nothing _ _ _ _ (fun _ => rfl)) rfl (fun x hx => by cases hx) (by omega) hb2.size ?_; intro v3 w3 hown3 hg3 _))
        go_ret
        exact ⟨_, rfl, hfin _ _ hown3, below_grown hb2 hown2 hg3 (Nat.le_refl _) hb2.size⟩
      · by_cases hcl : c = xs.length
        · subst hcl
          go_wp2_with (first
            | (go_at_call 87; refine (l1Copy_any _ xs.length _ (oneCell_ints _ _) (by simp) _ hsl).mono ?_; rintro e w1 ⟨u1, rfl, hown1, hb1⟩)
            | (at_builtin; refine wpList_app1 ty_i64 rfl rfl rfl hown1 rfl rfl (by omega) hb1.size ?_; intro v2 w2 hown2 hg2 _; have hb2 := below_grown hb1 hown1 hg2 (Nat.le_refl _) hb1.size)
            | (at_builtin; refine wpList_app ty_i64 rfl rfl rfl hown2 rfl (Sl.nothing _ _ _ _ (fun e => by cases e)) rfl (fun x hx => by cases hx) (by omega) hb2.size ?_; intro v3 w3 hown3 hg3 _))
          go_ret
          exact ⟨_, rfl, hfin _ _ hown3, below_grown hb2 hown2 hg3 (Nat.le_refl _) hb2.size⟩
        · have hcl' : xs.length < c := by omega
          go_wp2_with (first
            | (go_at_call 87; refine (l1Copy_any _ xs.length _ (oneCell_ints _ _) (by simp) _ hsl).mono ?_; rintro e w1 ⟨u1, rfl, hown1, hb1⟩)
            | (at_builtin; refine wpList_app1 ty_i64 rfl rfl rfl hown1 rfl rfl (by omega) hb1.size ?_; intro v2 w2 hown2 hg2 _; have hb2 := below_grown hb1 hown1 hg2 (Nat.le_refl _) hb1.size)
            | (at_builtin; refine wpList_app ty_i64 rfl rfl rfl hown2 rfl (Sl.nothing _ _ _ _ (fun e => by cases e)) rfl (fun x hx => by cases hx) (by omega) hb2.size ?_; intro v3 w3 hown3 hg3 _))
          go_ret
          exact ⟨_, rfl, hfin _ _ hown3, below_grown hb2 hown2 hg3 (Nat.le_refl _) hb2.size⟩

theorem own_num {w : World} {base : Nat} {E : TypeId} {L : List Nat} {v : Value} (h : w.ownsRow base E 1 v L.length ((natInts L).map (Value.int .i64))) (hL : L.length ≤ 1000000000) : Nums w E .i64 v (natInts L) := Nums.of_owns h (by rw [natInts_length]) hL

/-- The length of a slice's value. -/
def lenOf : Value → Nat
  | .slice _ n _ => n
  | _ => 0

structure ReW (W0 wr : World) (E : Nat → Nat → Bool) (L : List Nat) (u : Nat) (gv : Value) (o t : Value) (out todo : List Nat) (c : Option Nat) (i : Nat) : Prop where
  re : ReI E L u out todo c i
  own : wr.ownsRow (W0.heap.size + 1) 2 1 o out.length ((natInts out).map (Value.int .i64))
  que : QRow wr (W0.heap.size + 1) 2 t ((natInts todo).map (Value.int .i64))
  apart : ∀ b, o.ownBlock = some b → t.ownBlock ≠ some b
  bel : Below W0.heap.size W0 wr
  box : Box wr W0.heap.size 28 gv
  bnd : out.length ≤ 16
theorem ReW.tl {W0 wr : World} {E : Nat → Nat → Bool} {L : List Nat} {u : Nat} {gv o t : Value} {out todo : List Nat} {c : Option Nat} {i : Nat} (h : ReW W0 wr E L u gv o t out todo c i) : todo.length ≤ out.length := h.re.len

theorem ReW.pop {W0 wr : World} {E : Nat → Nat → Bool} {L : List Nat} {u c0 : Nat} {gv o t t' : Value} {out todo : List Nat} {i : Nat} (h : ReW W0 wr E L u gv o t out (c0 :: todo) none i)
    (hs : t'.ownBlock = t.ownBlock) (hq : QRow wr (W0.heap.size + 1) 2 t' ((natInts todo).map (Value.int .i64))) : ReW W0 wr E L u gv o t' out todo (some c0) 0 :=
  ⟨h.re.pop, h.own, hq, fun b e => by rw [hs]; exact h.apart b e, h.bel, h.box, h.bnd⟩
theorem ReW.fin {W0 wr : World} {E : Nat → Nat → Bool} {L : List Nat} {u c0 : Nat} {gv o t : Value} {out todo : List Nat} (h : ReW W0 wr E L u gv o t out todo (some c0) L.length) : ReW W0 wr E L u gv o t out todo none 0 :=
  ⟨h.re.fin, h.own, h.que, h.apart, h.bel, h.box, h.bnd⟩
theorem ReW.skip {W0 wr : World} {E : Nat → Nat → Bool} {L : List Nat} {u c0 i : Nat} {gv o t : Value} {out todo : List Nat} (h : ReW W0 wr E L u gv o t out todo (some c0) i) (hi : i < L.length) (hs : L[i] = c0 ∨ ¬ E c0 L[i] = true ∨ L[i] ∈ out) : ReW W0 wr E L u gv o t out todo (some c0) (i + 1) :=
  ⟨h.re.skip hi hs, h.own, h.que, h.apart, h.bel, h.box, h.bnd⟩
theorem ReW.c0 {W0 wr : World} {E : Nat → Nat → Bool} {L : List Nat} {u c0 i n : Nat} {gv o t : Value} {out todo : List Nat} (h : ReW W0 wr E L u gv o t out todo (some c0) i) (hL : ∀ x ∈ L, x < n) : c0 < n :=
  hL _ (h.re.sub _ (h.re.cur c0 rfl).1).1
theorem ReW.base {W0 wr w5 : World} {E : Nat → Nat → Bool} {L : List Nat} {u i : Nat} {c : Option Nat} {gv o t : Value} {out todo : List Nat} (h : ReW W0 wr E L u gv o t out todo c i) (hb : Below wr.heap.size wr w5) : W0.heap.size + 1 ≤ w5.heap.size := by
  have := h.box.lt
  have := hb.size
  omega
theorem natInts_atQ {l : List Nat} {k : Nat} (h : k < l.length) {h' : k < (natInts l).length} : (natInts l)[k] = ((l[k] : Nat) : Int) := by simp [natInts]
theorem new_nat {out : List Nat} {u : Nat} (h : u ∉ out) : (u : Int) ∉ natInts out := fun k => h (by
  obtain ⟨i, h1, h2⟩ := mem_natInts.1 k
  obtain rfl : i = u := by omega
  exact h1)
theorem ReW.add {W0 wr w5 w6 : World} {E : Nat → Nat → Bool} {L : List Nat} {u c0 i b off n6 c6 : Nat} {gv o o5 t : Value} {out todo : List Nat} (h : ReW W0 wr E L u gv o t out todo (some c0) i) (hi : i < L.length) (hE : E c0 L[i] = true) (hnew : L[i] ∉ out)
    (hL : L.Pairwise (· < ·)) (hL16 : L.length ≤ 16) (ho5 : w5.ownsRow wr.heap.size 2 1 o5 (intoL (natInts out) ((L[i] : Nat) : Int)).length ((intoL (natInts out) ((L[i] : Nat) : Int)).map (Value.int .i64))) (hb5 : Below wr.heap.size wr w5)
    (hq : QRow w6 (W0.heap.size + 1) 2 (.slice (some ⟨b, off, none⟩) n6 c6) ((natInts todo).map (Value.int .i64) ++ [.int .i64 ((L[i] : Nat) : Int)])) (hg : w5.grownBy w6 t.ownBlock) (h7 : t.ownBlock = some b ∨ w5.heap.size ≤ b) :
    ∃ out', out'.length = out.length + 1 ∧ ReW W0 w6 E L u gv o5 (.slice (some ⟨b, off, none⟩) n6 c6) out' (todo ++ [L[i]]) (some c0) (i + 1) := by
  obtain ⟨out', e, hr, hm, hl⟩ := into_nat h.re.ris hnew
  rw [e, natInts_length] at ho5
  have hre := h.re.add hi hE hr hm (by omega)
  have hbs := h.box.lt
  have h5s := hb5.size
  have hof : ∀ k, o5.ownBlock = some k → t.ownBlock ≠ some k := fun k hk e2 => by
    have h1 := (ho5.lt k hk).1
    have h2 := (h.que.lt k e2).2
    omega
  refine ⟨out', hl, hre, ownsRow_base (ho5.kept hg ?_) (by omega), ?_, fun k hk e2 => ?_, ?_, ?_, Nat.le_trans (hre.bound hL) hL16⟩
  · cases hob : o5.ownBlock with
    | none => exact .inl rfl
    | some k => exact .inr fun e2 => hof k hob e2.symm
  · have e3 : (natInts (todo ++ [L[i]])).map (Value.int .i64) = (natInts todo).map (Value.int .i64) ++ [.int .i64 ((L[i] : Nat) : Int)] := by simp [natInts]
    rw [e3]; exact hq
  · have hk2 : b = k := by simpa [Value.ownBlock] using e2
    subst hk2
    rcases h7 with h7 | h7
    · exact hof _ hk h7
    · have := (ho5.lt _ hk).2
      omega
  · exact (h.que.below hb5).grow (h.bel.trans (hb5.mono h.bel.size)) hg (by omega) (by omega)
  · refine (h.box.keep hb5).grown hg fun e2 => ?_
    have := (h.que.lt _ e2.symm).1
    omega
theorem ReW.start' (w : World) {E : Nat → Nat → Bool} {L : List Nat} {u : Nat} (gv : Value) (hu : u ∈ L) :
    ReW w (((w.alloc (.cells #[gv] 28)).alloc (.cells #[.int .i64 (u : Int)] 2)).alloc (.cells #[.int .i64 (u : Int)] 2)) E L u gv
      (.slice (some ⟨w.heap.size + 1, 0, none⟩) 1 1) (.slice (some ⟨w.heap.size + 1 + 1, 0, none⟩) 1 1) [u] [u] none 0 := by
  have s1 : (w.alloc (.cells #[gv] 28)).heap.size = w.heap.size + 1 := by show (w.heap.push _).size = _; simp
  have s2 : ((w.alloc (.cells #[gv] 28)).alloc (.cells #[.int .i64 (u : Int)] 2)).heap.size = w.heap.size + 1 + 1 := by show (Array.push _ _).size = _; rw [Array.size_push, s1]
  refine ⟨.start' hu, ?_, ?_, ?_, ?_, ?_, by simp⟩
  · have := World.ownsRow_lit (w.alloc (.cells #[gv] 28)) #[.int .i64 (u : Int)] 1 (base := w.heap.size + 1) (e := 2) (size := 1) (by omega) (by decide) (by simp)
    rw [s1] at this
    exact ownsRow_below this (below_alloc _ _)
  · have := QRow.one ((w.alloc (.cells #[gv] 28)).alloc (.cells #[.int .i64 (u : Int)] 2)) 2 (.int .i64 (u : Int))
    rw [s2] at this
    exact this.base (by omega)
  · intro b e k
    have e1 : w.heap.size + 1 = b := by simpa [Value.ownBlock] using e
    have e2 : w.heap.size + 1 + 1 = b := by simpa [Value.ownBlock] using k
    omega
  · exact ((below_alloc w _).alloc (below_alloc w _).size _).alloc (by omega) _
  · exact ((Box.new w gv 28).alloc _).alloc _


end Go.Proofs.YtiooindlpinjhaaDoor

/- Walk: the reference's parts. -/
namespace Go.Proofs.YtiooindlpinjhaaDoor
open Go.RowKit

theorem rising_sub_len {L D : List Nat} (hL : L.Pairwise (· < ·)) (hD : D.Pairwise (· < ·)) (h : ∀ x ∈ D, x ∈ L) : D.length ≤ L.length := by
  have e : D = L.filter (fun x => decide (x ∈ D)) := rising_ext _ _ hD (List.Pairwise.filter _ hL) fun x => by
    rw [List.mem_filter]
    exact ⟨fun hx => ⟨h x hx, by simpa using hx⟩, fun hx => by simpa using hx.2⟩
  rw [e]
  exact List.length_filter_le _ _
theorem row_parts {ps : List (List Nat)} {j : Nat} (h : j < ps.length) : row (ps.map natInts) j = natInts ps[j] := by simp [row, h]
theorem SG.snocP {w w' : World} {base : Nat} {u u' rv : Value} {ps : List (List Nat)} {p : List Nat} {vals : List Value} (hl : vals.length = ps.length) (ho : w.ownsRow base 26 1 u ps.length vals) (hr : ∀ j, j < ps.length → Nums w 2 .i64 (vals.getD j undef) (row (ps.map natInts) j))
    (ho' : w'.ownsRow base 26 1 u' (ps.length + 1) (vals ++ [rv])) (hg : w.grownBy w' u.ownBlock) (hn : Nums w 2 .i64 rv (natInts p)) : SG w' base (.agg #[u']) ((ps ++ [p]).map natInts) := by
  refine ⟨u', vals ++ [rv], rfl, by simp [hl], by rw [List.length_map, List.length_append]; exact ho', fun j hj => ?_⟩
  rw [List.length_map, List.length_append] at hj
  by_cases h : j < ps.length
  · rw [getD_append_left _ _ _ _ (by omega)]
    have e2 : row ((ps ++ [p]).map natInts) j = row (ps.map natInts) j := by rw [row_parts (by rw [List.length_append]; omega), row_parts h]; simp [h]
    rw [e2]
    exact (hr j h).other ho hg (by decide)
  · have hj' : j = ps.length := by simp at hj; omega
    subst hj'
    rw [← hl, getD_append_last, hl]
    have e2 : row ((ps ++ [p]).map natInts) ps.length = natInts p := by rw [row_parts (by rw [List.length_append]; simp)]; simp
    rw [e2]
    exact hn.other ho hg (by decide)

theorem sg_shape {w : World} {base : Nat} {u : Value} {g : List (List Int)} (h : SG w base (.agg #[u]) g) : ∃ p c, u = .slice p g.length c := by
  obtain ⟨u', vals, e, _, h3, _⟩ := h
  cases e
  exact owns_shapeR h3
theorem sg_base {w : World} {base base' : Nat} {v : Value} {g : List (List Int)} (h : SG w base v g) (hb : base' ≤ base) : SG w base' v g := by
  obtain ⟨u', vals, e, h2, h3, h4⟩ := h
  exact ⟨u', vals, e, h2, ownsRow_base h3 hb, h4⟩
structure PaW (W0 wr : World) (B : Nat) (gv : Value) (E : Nat → Nat → Bool) (L : List Nat) (o d : Value) (ps : List (List Nat)) (D : List Nat) (k : Nat) : Prop where
  pa : PaI E L ps D k
  out : SG wr B (.agg #[o]) (ps.map natInts)
  dn : Nums wr 2 .i64 d (natInts D)
  bel : Below W0.heap.size W0 wr
  box : Box wr W0.heap.size 28 gv
  hB : W0.heap.size < B
  hB2 : B ≤ wr.heap.size
theorem PaW.start' (w : World) (gv : Value) (E : Nat → Nat → Bool) (L : List Nat) :
    PaW w (((w.alloc (.cells #[gv] 28)).alloc (.cells #[] 26)).alloc (.cells #[] 2)) (w.heap.size + 1) gv E L (.slice (some ⟨w.heap.size + 1, 0, none⟩) 0 0) (.slice (some ⟨w.heap.size + 1 + 1, 0, none⟩) 0 0) [] [] 0 := by
  have s1 : (w.alloc (.cells #[gv] 28)).heap.size = w.heap.size + 1 := by show (w.heap.push _).size = _; simp
  have s2 : ((w.alloc (.cells #[gv] 28)).alloc (.cells #[] 26)).heap.size = w.heap.size + 1 + 1 := by show (Array.push _ _).size = _; rw [Array.size_push, s1]
  refine ⟨.start' E L, ⟨_, [], rfl, rfl, ?_, fun j hj => by simp at hj⟩, ?_, ?_, ?_, by omega, ?_⟩
  · exact ownsRow_below (ownsRow_empty' w _ _ _ _ (Nat.le_refl _)) (below_alloc _ _)
  · have := ownsRow_empty ((w.alloc (.cells #[gv] 28)).alloc (.cells #[] 26)) 2 1
    rw [s2] at this
    exact Nums.of_owns (xs := []) this rfl (by decide)
  · exact ((below_alloc w _).alloc (below_alloc w _).size _).alloc (by omega) _
  · exact ((Box.new w gv 28).alloc _).alloc _
  · have := (below_alloc ((w.alloc (.cells #[gv] 28)).alloc (.cells #[] 26)) (.cells #[] 2)).size
    omega
theorem PaW.skip {W0 wr : World} {B : Nat} {E : Nat → Nat → Bool} {L : List Nat} {gv o d : Value} {ps : List (List Nat)} {D : List Nat} {k : Nat} (h : PaW W0 wr B gv E L o d ps D k) (hi : k < L.length) (hd : L[k] ∈ D) : PaW W0 wr B gv E L o d ps D (k + 1) :=
  ⟨h.pa.skip hi hd, h.out, h.dn, h.bel, h.box, h.hB, h.hB2⟩
/-- While a part's vertices are written down. -/
structure PaV (W0 wr : World) (B : Nat) (gv o d pv : Value) (ps : List (List Nat)) (D P : List Nat) (t : Nat) (D2 : List Nat) : Prop where
  ris : D2.Pairwise (· < ·)
  mem : ∀ x, x ∈ D2 ↔ x ∈ D ∨ x ∈ P.take t
  out : SG wr B (.agg #[o]) (ps.map natInts)
  dn : Nums wr 2 .i64 d (natInts D2)
  prt : Nums wr 2 .i64 pv (natInts P)
  bel : Below W0.heap.size W0 wr
  box : Box wr W0.heap.size 28 gv
  hB : W0.heap.size < B
  hB2 : B ≤ wr.heap.size
theorem PaV.start' {W0 wr w4 : World} {B : Nat} {E : Nat → Nat → Bool} {L : List Nat} {gv o d pv : Value} {ps : List (List Nat)} {D P : List Nat} {k : Nat} (h : PaW W0 wr B gv E L o d ps D k) (hb : Below wr.heap.size wr w4) (hp : Nums w4 2 .i64 pv (natInts P)) : PaV W0 w4 B gv o d pv ps D P 0 D :=
  ⟨h.pa.ris, fun x => by simp, h.out.below hb, h.dn.below hb, hp, h.bel.trans (hb.mono h.bel.size), h.box.keep hb, h.hB, Nat.le_trans h.hB2 hb.size⟩
theorem PaV.next {W0 wr w4 : World} {B : Nat} {gv o d d' pv : Value} {ps : List (List Nat)} {D P D2 D3 : List Nat} {t : Nat} (h : PaV W0 wr B gv o d pv ps D P t D2) (ht : t < P.length) (hb : Below wr.heap.size wr w4) (hd : Nums w4 2 .i64 d' (natInts D3)) (hr : D3.Pairwise (· < ·)) (hm : ∀ x, x ∈ D3 ↔ x ∈ D2 ∨ x = P[t]) : PaV W0 w4 B gv o d' pv ps D P (t + 1) D3 :=
  ⟨hr, fun x => by
    rw [hm, h.mem, take_snoc _ t ht, List.mem_append, List.mem_singleton, or_assoc], h.out.below hb, hd, h.prt.below hb, h.bel.trans (hb.mono h.bel.size), h.box.keep hb, h.hB, Nat.le_trans h.hB2 hb.size⟩
theorem PaV.sub {W0 wr : World} {B : Nat} {E : Nat → Nat → Bool} {L : List Nat} {gv o d pv : Value} {ps : List (List Nat)} {D D2 : List Nat} {t u k : Nat} (h : PaV W0 wr B gv o d pv ps D (partL E L u) t D2) (hp : PaI E L ps D k) (hL : L.Pairwise (· < ·)) : D2.length ≤ L.length :=
  rising_sub_len hL h.ris fun x hx => ((h.mem x).1 hx).elim (hp.sub x) fun q => (mem_partL.1 (List.mem_of_mem_take q)).1

theorem PaW.take {W0 wr wv w7 : World} {B b7 c7 : Nat} {E : Nat → Nat → Bool} (hE : ∀ r j, E r j = true → E j r = true) {L : List Nat} (hL : L.Pairwise (· < ·)) {gv o d dv pv : Value} {ps : List (List Nat)} {D D2 : List Nat} {k y : Nat} {vals : List Value} (h : PaW W0 wr B gv E L o d ps D k)
    (hk : k < L.length) (hy : L[k]'hk = y) (hd : y ∉ D) (hv : PaV W0 wv B gv o dv pv ps D (partL E L y) (partL E L y).length D2)
    (hv1 : vals.length = ps.length) (hv2 : wv.ownsRow B 26 1 o ps.length vals) (hv3 : ∀ j, j < ps.length → Nums wv 2 .i64 (vals.getD j undef) (row (ps.map natInts) j))
    (ho : w7.ownsRow B 26 1 (.slice (some ⟨b7, 0, none⟩) (ps.length + 1) c7) (ps.length + 1) (vals ++ [pv])) (hg : wv.grownBy w7 o.ownBlock) :
    PaW W0 w7 B gv E L (.slice (some ⟨b7, 0, none⟩) (ps.length + 1) c7) dv (ps ++ [partL E L y]) D2 (k + 1) := by
  subst hy
  have hsz := hg.size
  have h1 := hv.hB
  have h2 := hv.hB2
  refine ⟨h.pa.take hE hL hk hd hv.ris (fun x => by rw [hv.mem, List.take_length]), SG.snocP hv1 hv2 hv3 ho hg hv.prt, hv.dn.other hv2 hg (by decide), below_grown hv.bel hv2 hg (by omega) (by omega), hv.box.grown hg fun e => ?_, hv.hB, by omega⟩
  have := (hv2.lt _ e.symm).1
  omega


end Go.Proofs.YtiooindlpinjhaaDoor

/- Walks: l8Cliques. -/
namespace Go.Proofs.YtiooindlpinjhaaDoor
open Go.RowKit

theorem wanted_wp {o : Oper} {y : Nat → Option Bool} {X F : Prop} (h : o.guard = none) (k : X) : if Region.wanted o y = true then X else F := by
  have hw : Region.wanted o y = true := by simp [Region.wanted, h]
  rw [if_pos hw]
  exact k
theorem wp_apps {P : Program} {T E : TypeId} {z : Value} {size bytes : Nat} (S : SlTy P T E z size bytes) {w : World} {o : Oper} {a : Act} {K : Act → World → Prop} {Q : Exit → Act → World → Prop}
    {s x : Operand} (ho : o.op = .call { callee := .builtin .append, args := #[s, x], argTypes := #[T, T] })
    {base : Nat} {v : Value} {n : Nat} {xs : List Value} (hs : a.eval s = v) (hown : w.ownsRow base E size v n xs)
    {u : Value} {m : Nat} {news : List Value} (hx : a.eval x = u) (hu : Sl w E u m news) (hl : news.length = m * size) (h1 : ∀ x ∈ news, x.oneCell' = true)
    (hnm : n + m ≤ 1000000000) (hbase : base ≤ w.heap.size)
    (h : ∀ v' w', w'.ownsRow base E size v' (n + m) (xs ++ news) → w.grownBy w' v.ownBlock → K (a.put o.dst v') w') :
    Oper.wp P o a w K Q := by
  obtain ⟨v', w', hr, h2, h3, h4⟩ := run_app S w o.type base v n xs hown u m news hu hl h1 hnm hbase
  unfold Oper.wp execOp
  simp only [ho, resolve, invoke, builtin, Sem.run_bind, Sem.run_pure, Result.andThen_ok, List.map_toArray, List.map_cons, List.map_nil, hs, hx, hr]
  exact h v' w' h2 h3
theorem Nums.slC {w w' : World} {E : TypeId} {v : Value} {l : List Nat} (h : Nums w E .i64 v (natInts l)) (hb : Below w.heap.size w w') : Sl w' E v l.length ((natInts l).map (Value.int .i64)) := by
  have := h.below hb
  unfold Nums at this
  rwa [natInts_length] at this
theorem built_sl {w w' : World} {x : Int} (hb : Below (w.alloc (.cells #[.int .i64 x] 2)).heap.size ((w.alloc (.cells #[.int .i64 x] 2)).drewN 1) w') : Sl w' 2 (.slice (some ⟨w.heap.size, 0, none⟩) 1 1) 1 [Value.int .i64 x] := by
  have h : Sl ((w.alloc (.cells #[.int .i64 x] 2)).drewN 1) 2 (.slice (some ⟨w.heap.size, 0, none⟩) 1 1) 1 [Value.int .i64 x] := by
    refine ⟨_, 1, rfl, (fun e => by cases e), Nat.le_refl _, by omega, Or.inr ⟨w.heap.size, 0, #[.int .i64 x], (0, 0), rfl, heap_alloc_new w _, ?_⟩⟩
    intro j u hu
    match j, hu with
    | 0, hu => simpa using hu
    | j + 1, hu => simp at hu
  exact h.below hb
theorem owns_shapeT {w : World} {base : Nat} {E : TypeId} {size n : Nat} {v : Value} {xs : List Value} (h : w.ownsRow base E size v n xs) : ∃ p c, v = .slice p n c := by
  rcases h.2 with ⟨rfl, h0⟩ | ⟨b, c, _, rfl, _⟩
  · exact ⟨none, 0, by rw [h0]⟩
  · exact ⟨_, _, rfl⟩
theorem row_nat {ps : List (List Nat)} {j : Nat} (h : j < ps.length) : row (ps.map natInts) j = natInts ps[j] := by simp [row, h]
theorem SG.app {w w' : World} {base : Nat} {u u' : Value} {ps qs : List (List Nat)} {vals vals2 : List Value} (hl : vals.length = ps.length) (hl2 : vals2.length = qs.length) (ho : w.ownsRow base 26 1 u ps.length vals) (hr : ∀ j, j < ps.length → Nums w 2 .i64 (vals.getD j undef) (row (ps.map natInts) j))
    (hr2 : ∀ j, j < qs.length → Nums w 2 .i64 (vals2.getD j undef) (row (qs.map natInts) j)) (ho' : w'.ownsRow base 26 1 u' (ps.length + qs.length) (vals ++ vals2)) (hg : w.grownBy w' u.ownBlock) : SG w' base (.agg #[u']) ((ps ++ qs).map natInts) := by
  refine ⟨u', vals ++ vals2, rfl, by simp [hl, hl2], by rw [List.length_map, List.length_append]; exact ho', fun j hj => ?_⟩
  rw [List.length_map, List.length_append] at hj
  rw [row_nat (by rw [List.length_append]; exact hj)]
  by_cases h : j < ps.length
  · have e : (vals ++ vals2).getD j undef = vals.getD j undef := by
      rw [List.getD_eq_getElem?_getD, List.getD_eq_getElem?_getD, List.getElem?_append_left (by omega)]
    rw [e, List.getElem_append_left h, ← row_nat h]
    exact (hr j h).other ho hg (by decide)
  · have e : (vals ++ vals2).getD j undef = vals2.getD (j - ps.length) undef := by
      rw [List.getD_eq_getElem?_getD, List.getD_eq_getElem?_getD, List.getElem?_append_right (by omega), hl]
    rw [e, List.getElem_append_right (by omega), ← row_nat (by omega)]
    exact (hr2 _ (by omega)).other ho hg (by decide)
theorem sg_baseC {w : World} {b B : Nat} {v : Value} {g : List (List Int)} (h : SG w B v g) (hb : b ≤ B) : SG w b v g := by
  obtain ⟨u, vals, h1, h2, h3, h4⟩ := h
  exact ⟨u, vals, h1, h2, ownsRow_base h3 hb, h4⟩
theorem sg_one {w : World} {base : Nat} {v : Value} {l : List Nat} (hb : base ≤ w.heap.size) (h : Nums w 2 .i64 v (natInts l)) :
    SG (w.alloc (.cells #[v] 26)) base (.agg #[.slice (some ⟨w.heap.size, 0, none⟩) 1 1]) ([l].map natInts) := by
  refine ⟨_, [v], rfl, rfl, ⟨rfl, .inr ⟨w.heap.size, 1, #[v], rfl, hb, heap_alloc_new w _, Nat.le_refl _, by decide, rfl, rfl⟩⟩, fun j hj => ?_⟩
  obtain rfl : j = 0 := by simp at hj; omega
  exact h.below (below_alloc w _)
theorem sg_cells {w : World} {gg : List (List Int)} {vals : List Value} (hl : vals.length = gg.length) (h : ∀ j, j < gg.length → Nums w 2 .i64 (vals.getD j undef) (row gg j)) : ∀ x ∈ vals, x.oneCell' = true := by
  intro x hx
  obtain ⟨j, hj, rfl⟩ := List.getElem_of_mem hx
  have hn := h j (by omega)
  have e : vals.getD j undef = vals[j] := by rw [List.getD_eq_getElem?_getD, List.getElem?_eq_getElem hj]; rfl
  rw [e] at hn
  obtain ⟨p, c, e, _⟩ := hn.shape
  rw [e]
  rfl

def adS (g : List (List Int)) : Nat → Nat → Bool := fun r j => decide ((j : Int) ∈ row g r)

theorem nums_drop1 {w : World} {E : TypeId} {b o c k : Nat} {l : List Nat} (hk : k ≤ l.length) (h : Nums w E .i64 (.slice (some ⟨b, o, none⟩) l.length c) (natInts l)) : Nums w E .i64 (.slice (some ⟨b, o + k, none⟩) (l.length - k) (c - k)) (natInts (l.drop k)) := by
  obtain ⟨p, c', e, _, hnc, hn, hat⟩ := h.shape
  simp only [Value.slice.injEq] at e
  obtain ⟨rfl, -, rfl⟩ := e
  rw [natInts_length] at hnc hn
  refine ⟨_, _, by rw [natInts_length, List.length_drop], (fun e => by cases e), by rw [natInts_length, List.length_drop]; omega, by rw [natInts_length, List.length_drop]; omega, ?_⟩
  have e3 : (natInts (l.drop k)).map (Value.int .i64) = ((natInts l).map (Value.int .i64)).drop k := by simp [natInts, List.map_drop]
  rw [e3]
  exact hat.drop k
theorem nums_drop0 {w : World} {E : TypeId} {b o c k : Nat} {l : List Nat} (hk : l.length = k) (_h : Nums w E .i64 (.slice (some ⟨b, o, none⟩) l.length c) (natInts l)) : Nums w E .i64 (.slice (some ⟨b, o, none⟩) 0 0) (natInts (l.drop k)) := by
  have e : l.drop k = [] := List.drop_of_length_le (by omega)
  rw [e]
  exact ⟨_, 0, rfl, (fun e => by cases e), by simp [natInts], by simp [natInts], .inl rfl⟩
theorem take_sl {w : World} {E : TypeId} {a : Addr} {n c k : Nat} {l : List Nat} (hk : k ≤ l.length) (h : Nums w E .i64 (.slice (some a) n c) (natInts l)) : Sl w E (.slice (some a) k c) k ((natInts (l.take k)).map (Value.int .i64)) := by
  obtain ⟨p, c', e, _, hnc, hn, hat⟩ := h.shape
  simp only [Value.slice.injEq] at e
  obtain ⟨rfl, -, rfl⟩ := e
  rw [natInts_length] at hnc hn
  refine ⟨_, _, rfl, (fun e => by cases e), by omega, by omega, ?_⟩
  have e3 : (natInts (l.take k)).map (Value.int .i64) = ((natInts l).map (Value.int .i64)).take k := by simp [natInts, List.map_take]
  rw [e3]
  exact hat.take k
theorem natInts_app (l m : List Nat) : natInts (l ++ m) = natInts l ++ natInts m := by simp [natInts]
theorem meet_end {w : World} {base : Nat} {E : TypeId} {v : Value} {xs : List Nat} {g : List (List Int)} {y : Nat} (h : w.ownsRow base E 1 v (meetL xs (g.getD y []) xs.length).length ((natInts (meetL xs (g.getD y []) xs.length)).map (Value.int .i64))) :
    w.ownsRow base E 1 v (xs.filter (adS g y)).length ((natInts (xs.filter (adS g y))).map (Value.int .i64)) := by
  have e : meetL xs (g.getD y []) xs.length = xs.filter (adS g y) := by
    unfold meetL
    rw [List.take_length]
    rfl
  rwa [e] at h

end Go.Proofs.YtiooindlpinjhaaDoor
