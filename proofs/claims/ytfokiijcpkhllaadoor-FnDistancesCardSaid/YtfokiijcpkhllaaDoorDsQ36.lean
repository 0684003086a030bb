/- Walk: the reference's search for what is reached. -/
import Derived.Test.YtfokiijcpkhllaaDoorDsQ35
import Derived.Test.YtfokiijcpkhllaaDoorDsQ10
import Derived.Deep.RegionHeld3
import Derived.Deep.DeepCutAuto
namespace Go.Proofs.YtfokiijcpkhllaaDoor
open Go.RowKit

set_option maxRecDepth 100000 in
set_option maxHeartbeats 1000000 in
theorem l1IntoNew_any (v : Value) (xs : List Int) (n : Int) (hl : xs.length ≤ 100000000) (hnew : n ∉ xs) (w : World) (hx : Nums w 2 .i64 v xs) :
    Calls Tryd.prog 115 #[v, .int .i64 n] w fun e w' => ∃ u, e = .returned u ∧ w'.ownsRow w.heap.size 2 1 u (intoL xs n).length ((intoL xs n).map (Value.int .i64)) ∧ Below w.heap.size w w' := by
  have hx0 := Lib.hid hx
  obtain ⟨p, c, rfl, hp, hnc, hn, hat⟩ := hx
  go_enter Tryd.func115, Tryd.ntmps115
  go_wp2
  go_loop [5] (fun i => ∃ k : Nat, k ≤ xs.length ∧ i = .int .i64 k ∧ ∀ j (hj : j < xs.length), j < k → xs[j] < n) (fun i => xs.length - (intOf i).toNat)
  case atStart => exact ⟨0, Nat.zero_le _, rfl, fun j hj h => by omega⟩
  case round =>
    obtain ⟨k, hk, rfl, hlow⟩ := hrel
    have Hlow := Lib.hid hlow
    clear hlow
    by_cases hlt : k < xs.length
    · obtain ⟨b, o, rfl, hcell⟩ := hat.num hlt
      by_cases h1 : xs[k] < n
      · go_wp2
        go_round
        case rel =>
          refine ⟨k + 1, by omega, by go_num, fun j hj h => ?_⟩
          by_cases e : j = k
          · subst e; exact h1
          · exact Hlow.out j hj (by omega)
        case measure => simp [intOf]; omega
      · by_cases h2 : xs[k] = n
        · exact absurd (h2 ▸ List.getElem_mem hlt) hnew
        · have h2' : (xs[k] == n) = false := by simpa using h2
          have H := Lib.hid (intoL_new hk Hlow.out (fun _ => h1) (fun _ => h2))
          clear h2
          have hsl : Sl w 2 (.slice (some ⟨b, o, none⟩) k c) k ((xs.take k).map (Value.int .i64)) :=
            ⟨_, _, rfl, (fun e => by cases e), by omega, by omega, by rw [List.map_take]; exact hat.take k⟩
          have hkc : k < c := by omega
          have hd : Sl w 2 (.slice (some ⟨b, o + k, none⟩) (xs.length - k) (c - k)) (xs.length - k) ((xs.drop k).map (Value.int .i64)) :=
            ⟨_, _, rfl, (fun e => by cases e), by omega, by omega, by rw [List.map_drop]; exact hat.drop k⟩
          go_wp2_with (first
            | (go_at_call 127; refine (l1Copy_any _ k _ (oneCell_ints _ _) (by simp; omega) _ hsl).mono ?_; rintro e w1 ⟨u1, rfl, hown1, hb1⟩)
            | (at_builtin; refine wpList_app1 ty_i64 rfl rfl rfl hown1 rfl rfl (by omega) hb1.size ?_; intro v2 w2 hown2 hg2 _; have hb2 := below_grown hb1 hown1 hg2 (Nat.le_refl _) hb1.size; have hd2 : Sl w2 2 (.slice (some ⟨b, o + k, none⟩) (xs.length - k) (c - k)) (xs.length - k) ((xs.drop k).map (Value.int .i64)) := hd.below hb2)
            | (at_builtin; refine wpList_app ty_i64 rfl rfl rfl hown2 rfl hd2 (by simp) (oneCell_ints _ _) (by omega) hb2.size ?_; intro v3 w3 hown3 hg3 _))
          go_ret
          refine ⟨_, rfl, ?_, below_grown hb2 hown2 hg3 (Nat.le_refl _) hb2.size⟩
          have e : (xs.take k).map (Value.int .i64) ++ [Value.int .i64 n] ++ (xs.drop k).map (Value.int .i64) = (intoL xs n).map (Value.int .i64) := by rw [H.out]; simp
          rw [e] at hown3
          have hlen : k + 1 + (xs.length - k) = (intoL xs n).length := by rw [H.out]; simp; omega
          rw [← hlen]; exact hown3
    · obtain rfl : k = xs.length := by omega
      have H := Lib.hid (intoL_new hk Hlow.out (fun h => absurd h hlt) (fun h => absurd h hlt))
      have hsl : Sl w 2 (.slice p xs.length c) xs.length (xs.map (Value.int .i64)) := hx0.out
      have hfin : ∀ (w2 : World) (u : Value), w2.ownsRow w.heap.size 2 1 u (xs.length + 1 + 0) (xs.map (Value.int .i64) ++ [Value.int .i64 n] ++ []) → w2.ownsRow w.heap.size 2 1 u (intoL xs n).length ((intoL xs n).map (Value.int .i64)) := by
        intro w2 u ho
        have e : xs.map (Value.int .i64) ++ [Value.int .i64 n] ++ [] = (intoL xs n).map (Value.int .i64) := by rw [H.out]; simp
        rw [e] at ho
        rw [show (intoL xs n).length = xs.length + 1 + 0 by rw [H.out]; simp]; exact ho
      rcases p with _ | a
      · obtain ⟨h0, rfl⟩ := hp rfl
        have h0' : xs = [] := List.eq_nil_of_length_eq_zero h0
        subst h0'
        go_wp2_with (first
          | (go_at_call 127; refine (l1Copy_any _ 0 _ (oneCell_ints _ _) rfl _ hsl).mono ?_; rintro e w1 ⟨u1, rfl, hown1, hb1⟩)
          | (at_builtin; refine wpList_app1 ty_i64 rfl rfl rfl hown1 rfl rfl (by omega) hb1.size ?_; intro v2 w2 hown2 hg2 _; have hb2 := below_grown hb1 hown1 hg2 (Nat.le_refl _) hb1.size)
          | (at_builtin; refine wpList_app ty_i64 rfl rfl rfl hown2 rfl (Sl.nothing _ _ _ _ (fun _ => rfl)) rfl (fun x hx => by cases hx) (by omega) hb2.size ?_; intro v3 w3 hown3 hg3 _))
        go_ret
        exact ⟨_, rfl, hfin _ _ hown3, below_grown hb2 hown2 hg3 (Nat.le_refl _) hb2.size⟩
      · by_cases hcl : c = xs.length
        · subst hcl
          go_wp2_with (first
            | (go_at_call 127; refine (l1Copy_any _ xs.length _ (oneCell_ints _ _) (by simp) _ hsl).mono ?_; rintro e w1 ⟨u1, rfl, hown1, hb1⟩)
            | (at_builtin; refine wpList_app1 ty_i64 rfl rfl rfl hown1 rfl rfl (by omega) hb1.size ?_; intro v2 w2 hown2 hg2 _; have hb2 := below_grown hb1 hown1 hg2 (Nat.le_refl _) hb1.size)
            | (at_builtin; refine wpList_app ty_i64 rfl rfl rfl hown2 rfl (Sl.nothing _ _ _ _ (fun e => by cases e)) rfl (fun x hx => by cases hx) (by omega) hb2.size ?_; intro v3 w3 hown3 hg3 _))
          go_ret
          exact ⟨_, rfl, hfin _ _ hown3, below_grown hb2 hown2 hg3 (Nat.le_refl _) hb2.size⟩
        · have hcl' : xs.length < c := by omega
          go_wp2_with (first
            | (go_at_call 127; refine (l1Copy_any _ xs.length _ (oneCell_ints _ _) (by simp) _ hsl).mono ?_; rintro e w1 ⟨u1, rfl, hown1, hb1⟩)
            | (at_builtin; refine wpList_app1 ty_i64 rfl rfl rfl hown1 rfl rfl (by omega) hb1.size ?_; intro v2 w2 hown2 hg2 _; have hb2 := below_grown hb1 hown1 hg2 (Nat.le_refl _) hb1.size)
            | (at_builtin; refine wpList_app ty_i64 rfl rfl rfl hown2 rfl (Sl.nothing _ _ _ _ (fun e => by cases e)) rfl (fun x hx => by cases hx) (by omega) hb2.size ?_; intro v3 w3 hown3 hg3 _))
          go_ret
          exact ⟨_, rfl, hfin _ _ hown3, below_grown hb2 hown2 hg3 (Nat.le_refl _) hb2.size⟩

theorem own_num {w : World} {base : Nat} {E : TypeId} {L : List Nat} {v : Value} (h : w.ownsRow base E 1 v L.length ((natInts L).map (Value.int .i64))) (hL : L.length ≤ 1000000000) : Nums w E .i64 v (natInts L) := Nums.of_owns h (by rw [natInts_length]) hL

/-- The length of a slice's value. -/
def lenOf : Value → Nat
  | .slice _ n _ => n
  | _ => 0

structure ReW (W0 wr : World) (E : Nat → Nat → Bool) (L : List Nat) (u : Nat) (gv : Value) (o t : Value) (out todo : List Nat) (c : Option Nat) (i : Nat) : Prop where
  re : ReI E L u out todo c i
  own : wr.ownsRow (W0.heap.size + 1) 2 1 o out.length ((natInts out).map (Value.int .i64))
  que : QRow wr (W0.heap.size + 1) 2 t ((natInts todo).map (Value.int .i64))
  apart : ∀ b, o.ownBlock = some b → t.ownBlock ≠ some b
  bel : Below W0.heap.size W0 wr
  box : Box wr W0.heap.size 29 gv
  bnd : out.length ≤ 16
theorem ReW.tl {W0 wr : World} {E : Nat → Nat → Bool} {L : List Nat} {u : Nat} {gv o t : Value} {out todo : List Nat} {c : Option Nat} {i : Nat} (h : ReW W0 wr E L u gv o t out todo c i) : todo.length ≤ out.length := h.re.len

theorem ReW.pop {W0 wr : World} {E : Nat → Nat → Bool} {L : List Nat} {u c0 : Nat} {gv o t t' : Value} {out todo : List Nat} {i : Nat} (h : ReW W0 wr E L u gv o t out (c0 :: todo) none i)
    (hs : t'.ownBlock = t.ownBlock) (hq : QRow wr (W0.heap.size + 1) 2 t' ((natInts todo).map (Value.int .i64))) : ReW W0 wr E L u gv o t' out todo (some c0) 0 :=
  ⟨h.re.pop, h.own, hq, fun b e => by rw [hs]; exact h.apart b e, h.bel, h.box, h.bnd⟩
theorem ReW.fin {W0 wr : World} {E : Nat → Nat → Bool} {L : List Nat} {u c0 : Nat} {gv o t : Value} {out todo : List Nat} (h : ReW W0 wr E L u gv o t out todo (some c0) L.length) : ReW W0 wr E L u gv o t out todo none 0 :=
  ⟨h.re.fin, h.own, h.que, h.apart, h.bel, h.box, h.bnd⟩
theorem ReW.skip {W0 wr : World} {E : Nat → Nat → Bool} {L : List Nat} {u c0 i : Nat} {gv o t : Value} {out todo : List Nat} (h : ReW W0 wr E L u gv o t out todo (some c0) i) (hi : i < L.length) (hs : L[i] = c0 ∨ ¬ E c0 L[i] = true ∨ L[i] ∈ out) : ReW W0 wr E L u gv o t out todo (some c0) (i + 1) :=
  ⟨h.re.skip hi hs, h.own, h.que, h.apart, h.bel, h.box, h.bnd⟩
theorem ReW.c0 {W0 wr : World} {E : Nat → Nat → Bool} {L : List Nat} {u c0 i n : Nat} {gv o t : Value} {out todo : List Nat} (h : ReW W0 wr E L u gv o t out todo (some c0) i) (hL : ∀ x ∈ L, x < n) : c0 < n :=
  hL _ (h.re.sub _ (h.re.cur c0 rfl).1).1
theorem ReW.base {W0 wr w5 : World} {E : Nat → Nat → Bool} {L : List Nat} {u i : Nat} {c : Option Nat} {gv o t : Value} {out todo : List Nat} (h : ReW W0 wr E L u gv o t out todo c i) (hb : Below wr.heap.size wr w5) : W0.heap.size + 1 ≤ w5.heap.size := by
  have := h.box.lt
  have := hb.size
  omega
theorem natInts_atQ {l : List Nat} {k : Nat} (h : k < l.length) {h' : k < (natInts l).length} : (natInts l)[k] = ((l[k] : Nat) : Int) := by simp [natInts]
theorem new_nat {out : List Nat} {u : Nat} (h : u ∉ out) : (u : Int) ∉ natInts out := fun k => h (by
  obtain ⟨i, h1, h2⟩ := mem_natInts.1 k
  obtain rfl : i = u := by omega
  exact h1)
theorem ReW.add {W0 wr w5 w6 : World} {E : Nat → Nat → Bool} {L : List Nat} {u c0 i b off n6 c6 : Nat} {gv o o5 t : Value} {out todo : List Nat} (h : ReW W0 wr E L u gv o t out todo (some c0) i) (hi : i < L.length) (hE : E c0 L[i] = true) (hnew : L[i] ∉ out)
    (hL : L.Pairwise (· < ·)) (hL16 : L.length ≤ 16) (ho5 : w5.ownsRow wr.heap.size 2 1 o5 (intoL (natInts out) ((L[i] : Nat) : Int)).length ((intoL (natInts out) ((L[i] : Nat) : Int)).map (Value.int .i64))) (hb5 : Below wr.heap.size wr w5)
    (hq : QRow w6 (W0.heap.size + 1) 2 (.slice (some ⟨b, off, none⟩) n6 c6) ((natInts todo).map (Value.int .i64) ++ [.int .i64 ((L[i] : Nat) : Int)])) (hg : w5.grownBy w6 t.ownBlock) (h7 : t.ownBlock = some b ∨ w5.heap.size ≤ b) :
    ∃ out', out'.length = out.length + 1 ∧ ReW W0 w6 E L u gv o5 (.slice (some ⟨b, off, none⟩) n6 c6) out' (todo ++ [L[i]]) (some c0) (i + 1) := by
  obtain ⟨out', e, hr, hm, hl⟩ := into_nat h.re.ris hnew
  rw [e, natInts_length] at ho5
  have hre := h.re.add hi hE hr hm (by omega)
  have hbs := h.box.lt
  have h5s := hb5.size
  have hof : ∀ k, o5.ownBlock = some k → t.ownBlock ≠ some k := fun k hk e2 => by
    have h1 := (ho5.lt k hk).1
    have h2 := (h.que.lt k e2).2
    omega
  refine ⟨out', hl, hre, ownsRow_base (ho5.kept hg ?_) (by omega), ?_, fun k hk e2 => ?_, ?_, ?_, Nat.le_trans (hre.bound hL) hL16⟩
  · cases hob : o5.ownBlock with
    | none => exact .inl rfl
    | some k => exact .inr fun e2 => hof k hob e2.symm
  · have e3 : (natInts (todo ++ [L[i]])).map (Value.int .i64) = (natInts todo).map (Value.int .i64) ++ [.int .i64 ((L[i] : Nat) : Int)] := by simp [natInts]
    rw [e3]; exact hq
  · have hk2 : b = k := by simpa [Value.ownBlock] using e2
    subst hk2
    rcases h7 with h7 | h7
    · exact hof _ hk h7
    · have := (ho5.lt _ hk).2
      omega
  · exact (h.que.below hb5).grow (h.bel.trans (hb5.mono h.bel.size)) hg (by omega) (by omega)
  · refine (h.box.keep hb5).grown hg fun e2 => ?_
    have := (h.que.lt _ e2.symm).1
    omega
theorem ReW.start' (w : World) {E : Nat → Nat → Bool} {L : List Nat} {u : Nat} (gv : Value) (hu : u ∈ L) :
    ReW w (((w.alloc (.cells #[gv] 29)).alloc (.cells #[.int .i64 (u : Int)] 2)).alloc (.cells #[.int .i64 (u : Int)] 2)) E L u gv
      (.slice (some ⟨w.heap.size + 1, 0, none⟩) 1 1) (.slice (some ⟨w.heap.size + 1 + 1, 0, none⟩) 1 1) [u] [u] none 0 := by
  have s1 : (w.alloc (.cells #[gv] 29)).heap.size = w.heap.size + 1 := by show (w.heap.push _).size = _; simp
  have s2 : ((w.alloc (.cells #[gv] 29)).alloc (.cells #[.int .i64 (u : Int)] 2)).heap.size = w.heap.size + 1 + 1 := by show (Array.push _ _).size = _; rw [Array.size_push, s1]
  refine ⟨.start' hu, ?_, ?_, ?_, ?_, ?_, by simp⟩
  · have := World.ownsRow_lit (w.alloc (.cells #[gv] 29)) #[.int .i64 (u : Int)] 1 (base := w.heap.size + 1) (e := 2) (size := 1) (by omega) (by decide) (by simp)
    rw [s1] at this
    exact ownsRow_below this (below_alloc _ _)
  · have := QRow.one ((w.alloc (.cells #[gv] 29)).alloc (.cells #[.int .i64 (u : Int)] 2)) 2 (.int .i64 (u : Int))
    rw [s2] at this
    exact this.base (by omega)
  · intro b e k
    have e1 : w.heap.size + 1 = b := by simpa [Value.ownBlock] using e
    have e2 : w.heap.size + 1 + 1 = b := by simpa [Value.ownBlock] using k
    omega
  · exact ((below_alloc w _).alloc (below_alloc w _).size _).alloc (by omega) _
  · exact ((Box.new w gv 29).alloc _).alloc _

set_option maxRecDepth 100000 in
set_option maxHeartbeats 4000000 in
theorem l16Reach_any (v lv : Value) (n : Nat) (E : Nat → Nat → Bool) (L : List Nat) (u : Nat) (y : Int) (hy : y = u) (hL16 : L.length ≤ 16) (hL : L.Pairwise (· < ·)) (hLn : ∀ x ∈ L, x < n) (hu : u ∈ L) (w : World) (hg : Gr w v (matG n E)) (hl : Nums w 2 .i64 lv (natInts L)) :
    Calls Tryd.prog 53 #[v, lv, .int .i64 y, .bool false] w fun e w' => ∃ r, e = .returned r ∧ Nums w' 2 .i64 r (natInts (partL E L u)) ∧ Below w.heap.size w w' := by
  subst hy
  obtain ⟨g0, rfl, hr⟩ := hg
  obtain ⟨p, c, rfl, _⟩ := hr.shape
  obtain ⟨lp, lc, rfl, _⟩ := id hl.shape
  have HR := Lib.hid hr
  have HN := Lib.hid hl
  clear hr hl
  go_enter Tryd.func53, Tryd.ntmps53
  go_wp2
  go_loopw [9, 10] (fun o t wr => ∃ out todo, ReW w wr E L u (.slice p (matG n E).length c) o t out todo none 0) (fun o t _ => 2 * (16 - lenOf o) + lenOf t)
  case atStart => exact ⟨[u], [u], ReW.start' w _ hu⟩
  case round =>
    obtain ⟨out, todo, hI⟩ := hrel
    obtain ⟨tg, toff, tcap, rfl⟩ := hI.que.shape
    obtain ⟨op, oc, rfl⟩ := owns_shapeR hI.own
    have HI := Lib.hid hI
    have htl := hI.tl
    have hob := hI.bnd
    rcases todo with _ | ⟨c0, todo⟩
    · clear hI
      simp only [List.length_map, natInts_length, List.length_nil] at *
      go_wp2
      go_ret
      have e := HI.out.re.done hL
      subst e
      exact ⟨_, rfl, own_num HI.out.own (by omega), HI.out.bel⟩
    · have hc0 := hI.que.cell (j := 0) (u := .int .i64 (c0 : Int)) (by simp [natInts])
      have hcap := hI.que.cap.1
      clear hI
      simp only [List.length_map, natInts_length, List.length_cons, Nat.add_zero] at *
      go_upto_region 5 with fail
      go_cut [10] (fun s wx => wx = wr ∧ s.ownBlock = some tg ∧ QRow wr (w.heap.size + 1) 2 s ((natInts todo).map (Value.int .i64)))
      case first =>
        by_cases h1 : tcap = 1
        · subst h1
          go_wp2
          go_meet
          have := HI.out.que.tail0
          change QRow wr _ _ (.slice _ ((natInts todo).map (Value.int .i64)).length _) _ at this
          rw [List.length_map, natInts_length] at this
          try rw [show todo.length = 0 by omega] at this
          exact ⟨rfl, rfl, this⟩
        · go_wp2
          go_meet
          have := HI.out.que.tail
          change QRow wr _ _ (.slice _ ((natInts todo).map (Value.int .i64)).length _) _ at this
          rw [List.length_map, natInts_length] at this
          exact ⟨rfl, rfl, this⟩
      case rest =>
        obtain ⟨rfl, hs, hq⟩ := hcut
        have HI1 := Lib.hid (HI.out.pop hs hq)
        obtain ⟨tg1, toff1, tcap1, rfl⟩ := hq.shape
        have hq0 := Lib.hid hq
        clear hs hq hc0 hcap
        simp only [List.length_map, natInts_length] at *
        go_wp2
        go_loopw [9, 10, 12] (fun o t i wr => ∃ out2 todo2 k, k ≤ L.length ∧ i = .int .i64 k ∧ ReW w wr E L u (.slice p (matG n E).length c) o t out2 todo2 (some c0) k ∧ Hid (2 * (16 - out2.length) + todo2.length ≤ 2 * (16 - out.length) + todo.length)) (fun _ _ i _ => L.length - (intOf i).toNat)
        case atStart => exact ⟨out, todo, 0, Nat.zero_le _, rfl, HI1.out, Lib.hid (Nat.le_refl _)⟩
        case round =>
          clear HI1 hq0 htl hob HI
          obtain ⟨out2, todo2, k, hk, rfl, hI, HM⟩ := hrel
          obtain ⟨tg2, toff2, tcap2, rfl⟩ := hI.que.shape
          obtain ⟨op2, oc2, rfl⟩ := owns_shapeR hI.own
          have hbel := hI.bel
          have HN1 := HN.out.below hbel
          have hbx := hI.box
          have hxc := hbx.cell
          have htl := hI.tl
          have hob := hI.bnd
          have HI := Lib.hid hI
          clear hI hbx
          simp only [List.length_map, natInts_length] at *
          by_cases hlt : k < L.length
          · have hLk := hLn _ (List.getElem_mem hlt)
            obtain ⟨lb, lo, rfl, hlc⟩ := HN1.get (k := k) (by rw [natInts_length]; exact hlt)
            rw [natInts_atQ hlt] at hlc
            clear HN1
            have HLT := Lib.hid hlt
            generalize hy : L[k]'hlt = y at hlc hLk
            have HY := Lib.hid hy
            clear hy
            by_cases hx1 : y = c0
            · have hb1 : (((y : Nat) : Int) != (c0 : Int)) = false := by simp [hx1]
              have HX := Lib.hid hx1
              clear hx1
              go_wp2
              go_roundw
              case rel => exact ⟨out2, todo2, k + 1, by omega, by go_num, HI.out.skip hlt (.inl (HY.out.trans HX.out)), HM⟩
              case measure => simp [intOf]; omega
            · have hb1 : (((y : Nat) : Int) != (c0 : Int)) = true := by simp; omega
              have HX := Lib.hid hx1
              clear hx1
              have hc0n : c0 < n := HI.out.c0 hLn
              obtain ⟨rb, ro, rp, rc, hpe, hrc, hrow⟩ := (HR.out.below hbel).get (k := c0) (by rw [matG_length]; exact hc0n)
              cases hpe
              have hrm : (matG n E).getD c0 [] = natInts ((List.range n).filter (E c0)) := row_matG hc0n
              rw [hrm] at hrc
              change Nums _ _ _ _ (row (matG n E) c0) at hrow
              rw [row_matG hc0n] at hrow
              change Nums _ _ _ (.slice rp ((matG n E).getD c0 []).length rc) _ at hrow
              rw [hrm] at hrow
              have HROW := Lib.hid hrow
              have hcl : c0 < (matG n E).length := by rw [matG_length]; exact hc0n
              have HXC := Lib.hid hxc
              clear hrow
              by_cases hE : E c0 y = true
              · have hd1 : dec (((y : Nat) : Int) ∈ natInts ((List.range n).filter (E c0))) = true := dec_true (mem_natInts.2 ⟨y, by simp [hLk, hE], rfl⟩)
                by_cases hin : y ∈ out2
                · have hd2 : dec (((y : Nat) : Int) ∈ natInts out2) = true := dec_true (mem_natInts.2 ⟨y, hin, rfl⟩)
                  have HIN := Lib.hid hin
                  clear hin hE
                  go_wp2_with (first
                    | (go_at_call 66; have hmark := hfirst; refine (l1Has_any _ (natInts out2) _ _ (own_num HI.out.own (by omega))).mono ?_; rintro e w4 ⟨he4, rfl⟩; rw [hd2] at he4; subst he4)
                    | (go_at_call 66; refine (l1Has_any _ _ _ _ HROW.out).mono ?_; rintro e w4 ⟨he4, rfl⟩; rw [hd1] at he4; subst he4; have hfirst : True := trivial))
                  go_roundw
                  case rel => exact ⟨out2, todo2, k + 1, by omega, by go_num, HI.out.skip hlt (.inr (.inr (by rw [HY.out]; exact HIN.out))), HM⟩
                  case measure => simp [intOf]; omega
                · have hd2 : dec (((y : Nat) : Int) ∈ natInts out2) = false := dec_false (fun h => hin (by
                    obtain ⟨i, h1, h2⟩ := mem_natInts.1 h
                    obtain rfl : i = y := by omega
                    exact h1))
                  have HIN := Lib.hid hin
                  have HE := Lib.hid hE
                  clear hin hE
                  go_wp2_with (first
                    | (go_at_call 66; have hmark := hfirst; refine (l1Has_any _ (natInts out2) _ _ (own_num HI.out.own (by omega))).mono ?_; rintro e w4 ⟨he4, rfl⟩; rw [hd2] at he4; subst he4)
                    | (go_at_call 66; refine (l1Has_any _ _ _ _ HROW.out).mono ?_; rintro e w4 ⟨he4, rfl⟩; rw [hd1] at he4; subst he4; have hfirst : True := trivial)
                    | (go_at_call 115; refine (l1IntoNew_any _ (natInts out2) _ (by rw [natInts_length]; omega) (new_nat HIN.out) _ (own_num HI.out.own (by omega))).mono ?_; rintro e w5 ⟨u5, rfl, hown5, hb5⟩)
                    | (at_builtin; refine wpList_appQ ty_i64 rfl rfl rfl rfl (HI.out.que.below hb5) rfl rfl (by rw [List.length_map, natInts_length]; omega) (HI.out.base hb5) ?_; intro b7 o7 c8 w7 hq7 hg7 h7))
                  go_roundw
                  case rel =>
                    obtain ⟨out3, hl3, hW⟩ := HI.out.add HLT.out (by rw [HY.out]; exact HE.out) (by rw [HY.out]; exact HIN.out) hL hL16 (by rw [HY.out]; exact hown5) hb5 (by rw [HY.out]; exact hq7) hg7 h7
                    rw [List.length_map] at hW
                    refine ⟨out3, _, k + 1, by omega, by go_num, hW, Lib.hid ?_⟩
                    have := HM.out
                    have := hW.bnd
                    rw [List.length_append, List.length_cons, List.length_nil]
                    omega
                  case measure => simp [intOf]; omega
              · have hd1 : dec (((y : Nat) : Int) ∈ natInts ((List.range n).filter (E c0))) = false := dec_false (fun h => hE (by
                  obtain ⟨i, h1, h2⟩ := mem_natInts.1 h
                  obtain rfl : i = y := by omega
                  exact (List.mem_filter.1 h1).2))
                have HE := Lib.hid hE
                clear hE
                go_wp2_with (go_at_call 66; refine (l1Has_any _ _ _ _ HROW.out).mono ?_; rintro e w4 ⟨he4, rfl⟩; rw [hd1] at he4; subst he4)
                go_roundw
                case rel => exact ⟨out2, todo2, k + 1, by omega, by go_num, HI.out.skip hlt (.inr (.inl (by rw [HY.out]; exact HE.out))), HM⟩
                case measure => simp [intOf]; omega
          · obtain rfl : k = L.length := by omega
            go_wp2
            go_roundw
            case rel => exact ⟨out2, todo2, HI.out.fin⟩
            case measure => 
              have := HM.out
              simp only [lenOf]
              omega

end Go.Proofs.YtfokiijcpkhllaaDoor
