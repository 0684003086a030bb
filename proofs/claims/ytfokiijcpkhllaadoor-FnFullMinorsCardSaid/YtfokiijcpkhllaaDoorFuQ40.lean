/- Walks: l8Cliques. -/
import Derived.Test.YtfokiijcpkhllaaDoorFuQ39
import Derived.Test.YtfokiijcpkhllaaDoorFuQ12
namespace Go.Proofs.YtfokiijcpkhllaaDoor
open Go.RowKit

theorem wanted_wp {o : Oper} {y : Nat → Option Bool} {X F : Prop} (h : o.guard = none) (k : X) : if Region.wanted o y = true then X else F := by
  have hw : Region.wanted o y = true := by simp [Region.wanted, h]
  rw [if_pos hw]
  exact k
theorem wp_apps {P : Program} {T E : TypeId} {z : Value} {size bytes : Nat} (S : SlTy P T E z size bytes) {w : World} {o : Oper} {a : Act} {K : Act → World → Prop} {Q : Exit → Act → World → Prop}
    {s x : Operand} (ho : o.op = .call { callee := .builtin .append, args := #[s, x], argTypes := #[T, T] })
    {base : Nat} {v : Value} {n : Nat} {xs : List Value} (hs : a.eval s = v) (hown : w.ownsRow base E size v n xs)
    {u : Value} {m : Nat} {news : List Value} (hx : a.eval x = u) (hu : Sl w E u m news) (hl : news.length = m * size) (h1 : ∀ x ∈ news, x.oneCell' = true)
    (hnm : n + m ≤ 1000000000) (hbase : base ≤ w.heap.size)
    (h : ∀ v' w', w'.ownsRow base E size v' (n + m) (xs ++ news) → w.grownBy w' v.ownBlock → K (a.put o.dst v') w') :
    Oper.wp P o a w K Q := by
  obtain ⟨v', w', hr, h2, h3, h4⟩ := run_app S w o.type base v n xs hown u m news hu hl h1 hnm hbase
  unfold Oper.wp execOp
  simp only [ho, resolve, invoke, builtin, Sem.run_bind, Sem.run_pure, Result.andThen_ok, List.map_toArray, List.map_cons, List.map_nil, hs, hx, hr]
  exact h v' w' h2 h3
theorem Nums.slC {w w' : World} {E : TypeId} {v : Value} {l : List Nat} (h : Nums w E .i64 v (natInts l)) (hb : Below w.heap.size w w') : Sl w' E v l.length ((natInts l).map (Value.int .i64)) := by
  have := h.below hb
  unfold Nums at this
  rwa [natInts_length] at this
theorem built_sl {w w' : World} {x : Int} (hb : Below (w.alloc (.cells #[.int .i64 x] 2)).heap.size ((w.alloc (.cells #[.int .i64 x] 2)).drewN 1) w') : Sl w' 2 (.slice (some ⟨w.heap.size, 0, none⟩) 1 1) 1 [Value.int .i64 x] := by
  have h : Sl ((w.alloc (.cells #[.int .i64 x] 2)).drewN 1) 2 (.slice (some ⟨w.heap.size, 0, none⟩) 1 1) 1 [Value.int .i64 x] := by
    refine ⟨_, 1, rfl, (fun e => by cases e), Nat.le_refl _, by omega, Or.inr ⟨w.heap.size, 0, #[.int .i64 x], (0, 0), rfl, heap_alloc_new w _, ?_⟩⟩
    intro j u hu
    match j, hu with
    | 0, hu => simpa using hu
    | j + 1, hu => simp at hu
  exact h.below hb
theorem owns_shapeT {w : World} {base : Nat} {E : TypeId} {size n : Nat} {v : Value} {xs : List Value} (h : w.ownsRow base E size v n xs) : ∃ p c, v = .slice p n c := by
  rcases h.2 with ⟨rfl, h0⟩ | ⟨b, c, _, rfl, _⟩
  · exact ⟨none, 0, by rw [h0]⟩
  · exact ⟨_, _, rfl⟩
theorem row_nat {ps : List (List Nat)} {j : Nat} (h : j < ps.length) : row (ps.map natInts) j = natInts ps[j] := by simp [row, h]
theorem SG.app {w w' : World} {base : Nat} {u u' : Value} {ps qs : List (List Nat)} {vals vals2 : List Value} (hl : vals.length = ps.length) (hl2 : vals2.length = qs.length) (ho : w.ownsRow base 32 1 u ps.length vals) (hr : ∀ j, j < ps.length → Nums w 2 .i64 (vals.getD j undef) (row (ps.map natInts) j))
    (hr2 : ∀ j, j < qs.length → Nums w 2 .i64 (vals2.getD j undef) (row (qs.map natInts) j)) (ho' : w'.ownsRow base 32 1 u' (ps.length + qs.length) (vals ++ vals2)) (hg : w.grownBy w' u.ownBlock) : SG w' base (.agg #[u']) ((ps ++ qs).map natInts) := by
  refine ⟨u', vals ++ vals2, rfl, by simp [hl, hl2], by rw [List.length_map, List.length_append]; exact ho', fun j hj => ?_⟩
  rw [List.length_map, List.length_append] at hj
  rw [row_nat (by rw [List.length_append]; exact hj)]
  by_cases h : j < ps.length
  · have e : (vals ++ vals2).getD j undef = vals.getD j undef := by
      rw [List.getD_eq_getElem?_getD, List.getD_eq_getElem?_getD, List.getElem?_append_left (by omega)]
    rw [e, List.getElem_append_left h, ← row_nat h]
    exact (hr j h).other ho hg (by decide)
  · have e : (vals ++ vals2).getD j undef = vals2.getD (j - ps.length) undef := by
      rw [List.getD_eq_getElem?_getD, List.getD_eq_getElem?_getD, List.getElem?_append_right (by omega), hl]
    rw [e, List.getElem_append_right (by omega), ← row_nat (by omega)]
    exact (hr2 _ (by omega)).other ho hg (by decide)
theorem sg_baseC {w : World} {b B : Nat} {v : Value} {g : List (List Int)} (h : SG w B v g) (hb : b ≤ B) : SG w b v g := by
  obtain ⟨u, vals, h1, h2, h3, h4⟩ := h
  exact ⟨u, vals, h1, h2, ownsRow_base h3 hb, h4⟩
theorem sg_one {w : World} {base : Nat} {v : Value} {l : List Nat} (hb : base ≤ w.heap.size) (h : Nums w 2 .i64 v (natInts l)) :
    SG (w.alloc (.cells #[v] 32)) base (.agg #[.slice (some ⟨w.heap.size, 0, none⟩) 1 1]) ([l].map natInts) := by
  refine ⟨_, [v], rfl, rfl, ⟨rfl, .inr ⟨w.heap.size, 1, #[v], rfl, hb, heap_alloc_new w _, Nat.le_refl _, by decide, rfl, rfl⟩⟩, fun j hj => ?_⟩
  obtain rfl : j = 0 := by simp at hj; omega
  exact h.below (below_alloc w _)
theorem sg_cells {w : World} {gg : List (List Int)} {vals : List Value} (hl : vals.length = gg.length) (h : ∀ j, j < gg.length → Nums w 2 .i64 (vals.getD j undef) (row gg j)) : ∀ x ∈ vals, x.oneCell' = true := by
  intro x hx
  obtain ⟨j, hj, rfl⟩ := List.getElem_of_mem hx
  have hn := h j (by omega)
  have e : vals.getD j undef = vals[j] := by rw [List.getD_eq_getElem?_getD, List.getElem?_eq_getElem hj]; rfl
  rw [e] at hn
  obtain ⟨p, c, e, _⟩ := hn.shape
  rw [e]
  rfl

def adS (g : List (List Int)) : Nat → Nat → Bool := fun r j => decide ((j : Int) ∈ row g r)

theorem nums_drop1 {w : World} {E : TypeId} {b o c k : Nat} {l : List Nat} (hk : k ≤ l.length) (h : Nums w E .i64 (.slice (some ⟨b, o, none⟩) l.length c) (natInts l)) : Nums w E .i64 (.slice (some ⟨b, o + k, none⟩) (l.length - k) (c - k)) (natInts (l.drop k)) := by
  obtain ⟨p, c', e, _, hnc, hn, hat⟩ := h.shape
  simp only [Value.slice.injEq] at e
  obtain ⟨rfl, -, rfl⟩ := e
  rw [natInts_length] at hnc hn
  refine ⟨_, _, by rw [natInts_length, List.length_drop], (fun e => by cases e), by rw [natInts_length, List.length_drop]; omega, by rw [natInts_length, List.length_drop]; omega, ?_⟩
  have e3 : (natInts (l.drop k)).map (Value.int .i64) = ((natInts l).map (Value.int .i64)).drop k := by simp [natInts, List.map_drop]
  rw [e3]
  exact hat.drop k
theorem nums_drop0 {w : World} {E : TypeId} {b o c k : Nat} {l : List Nat} (hk : l.length = k) (_h : Nums w E .i64 (.slice (some ⟨b, o, none⟩) l.length c) (natInts l)) : Nums w E .i64 (.slice (some ⟨b, o, none⟩) 0 0) (natInts (l.drop k)) := by
  have e : l.drop k = [] := List.drop_of_length_le (by omega)
  rw [e]
  exact ⟨_, 0, rfl, (fun e => by cases e), by simp [natInts], by simp [natInts], .inl rfl⟩
theorem take_sl {w : World} {E : TypeId} {a : Addr} {n c k : Nat} {l : List Nat} (hk : k ≤ l.length) (h : Nums w E .i64 (.slice (some a) n c) (natInts l)) : Sl w E (.slice (some a) k c) k ((natInts (l.take k)).map (Value.int .i64)) := by
  obtain ⟨p, c', e, _, hnc, hn, hat⟩ := h.shape
  simp only [Value.slice.injEq] at e
  obtain ⟨rfl, -, rfl⟩ := e
  rw [natInts_length] at hnc hn
  refine ⟨_, _, rfl, (fun e => by cases e), by omega, by omega, ?_⟩
  have e3 : (natInts (l.take k)).map (Value.int .i64) = ((natInts l).map (Value.int .i64)).take k := by simp [natInts, List.map_take]
  rw [e3]
  exact hat.take k
theorem natInts_app (l m : List Nat) : natInts (l ++ m) = natInts l ++ natInts m := by simp [natInts]
theorem meet_end {w : World} {base : Nat} {E : TypeId} {v : Value} {xs : List Nat} {g : List (List Int)} {y : Nat} (h : w.ownsRow base E 1 v (meetL xs (g.getD y []) xs.length).length ((natInts (meetL xs (g.getD y []) xs.length)).map (Value.int .i64))) :
    w.ownsRow base E 1 v (xs.filter (adS g y)).length ((natInts (xs.filter (adS g y))).map (Value.int .i64)) := by
  have e : meetL xs (g.getD y []) xs.length = xs.filter (adS g y) := by
    unfold meetL
    rw [List.take_length]
    rfl
  rwa [e] at h

theorem l8Meet_nums (u v : Value) (xs : List Nat) (g : List (List Int)) (y : Nat) (hl : xs.length ≤ 1000) (w : World) (hx : Nums w 2 .i64 u (natInts xs)) (hy : Nums w 2 .i64 v (g.getD y [])) :
    Calls Tryd.prog 150 #[u, v] w fun e w' => ∃ (n : Nat) (p : Option Addr) (c : Nat), e = .returned (.slice p n c) ∧ Nums w' 2 .i64 (.slice p n c) (natInts (xs.filter (adS g y))) ∧ Below w.heap.size w w' :=
  (l8Meet_any u v xs (g.getD y []) hl w hx hy).mono fun e w' ⟨ov, h1, h2, h3⟩ => by
    have h4 := meet_end h2
    obtain ⟨p, c, rfl⟩ := owns_shapeT h4
    have h5 : (xs.filter (adS g y)).length ≤ xs.length := List.length_filter_le _ _
    exact ⟨_, p, c, h1, Nums.of_owns (xs := natInts (xs.filter (adS g y))) h4 (natInts_length _).symm (by omega), h3⟩

set_option maxRecDepth 100000 in
set_option maxHeartbeats 4000000 in
theorem l8Cliques_any (g : List (List Int)) (hok : GOk g) : ∀ (k : Nat) (set left out : List Nat) (v sv lv ov : Value), (∀ j ∈ left, j < g.length) → left.length < k → left.length ≤ 16 → set.length + left.length ≤ 100 → out.length + left.length ≤ 100 →
    ∀ (w : World), Gr w v g → Nums w 2 .i64 sv (natInts set) → Nums w 2 .i64 lv (natInts left) → Nums w 2 .i64 ov (natInts out) →
    Calls Tryd.prog 136 #[v, sv, lv, ov] w fun e w' => ∃ r, e = .returned r ∧ SG w' w.heap.size (.agg #[r]) ((clF (adS g) k set left out).map natInts) ∧ Below w.heap.size w w' := by
  intro k
  have h16 := hok.le
  have Hok := Lib.hid hok
  clear hok
  induction k with
  | zero => intro _ _ _ _ _ _ _ _ h; exact absurd h (Nat.not_lt_zero _)
  | succ k ih =>
    intro set left out v sv lv ov hlt hk hl16 hsl hol w hg hs hl ho
    have hg0 := hg
    obtain ⟨u, rfl, hr⟩ := hg
    obtain ⟨p, c, rfl, _, _, _⟩ := hr.shape
    obtain ⟨sp, sc, rfl, _⟩ := id hs.shape
    obtain ⟨lp, lc, rfl, _⟩ := id hl.shape
    obtain ⟨op, oc, rfl, _⟩ := id ho.shape
    have HCAP : Hid (left.length ≤ lc) := Lib.hid (by
      obtain ⟨p', c', e, _, h, _⟩ := hl.shape
      simp only [Value.slice.injEq] at e
      obtain ⟨-, -, rfl⟩ := e
      rwa [natInts_length] at h)
    have IH := Lib.hid ih
    have HG := Lib.hid hg0
    have HR := Lib.hid hr
    have HS := Lib.hid hs
    have HL := Lib.hid hl
    have HO := Lib.hid ho
    have HLT := Lib.hid hlt
    have hbA := Lib.hid (below_alloc w (.cells #[.slice p g.length c] 29))
    have BX := Lib.hid (Box.new w (.slice p g.length c) 29)
    have s0 := hbA.out.size
    have bx0 := BX.out.cell
    clear hg0 hr hs hl ho hlt ih
    simp only [natInts_length] at *
    by_cases hl0 : left = []
    · by_cases ho0 : out = []
      · subst hl0 ho0
        go_enter Tryd.func136, Tryd.ntmps136
        go_wp2
        go_ret
        refine ⟨_, rfl, ?_, hbA.out.alloc (by omega) _⟩
        rw [clF_one]
        have := sg_one (base := w.heap.size) (w := w.alloc (.cells #[.slice p g.length c] 29)) (by omega) (HS.out.below hbA.out)
        rw [size_alloc] at this
        exact this
      · have hop : 0 < out.length := List.length_pos_iff.2 ho0
        have HO0 := Lib.hid ho0
        subst hl0
        clear ho0
        go_enter Tryd.func136, Tryd.ntmps136
        go_wp2
        go_loopw [9, 10] (fun o i wr => o = .slice (some ⟨w.heap.size + 1, 0, none⟩) 0 0 ∧ i = .int .i64 0 ∧ wr = (w.alloc (.cells #[.slice p g.length c] 29)).alloc (.cells #[] 32)) (fun _ _ _ => 0)
        case atStart => exact ⟨rfl, rfl, rfl⟩
        case round =>
          obtain ⟨rfl, rfl, rfl⟩ := hrel
          go_wp2
          go_ret
          refine ⟨_, rfl, ?_, hbA.out.alloc (by omega) _⟩
          rw [clF_none _ _ _ _ HO0.out]
          exact ⟨_, [], rfl, rfl, ownsRow_empty' w _ _ _ _ (by omega), fun j hj => by simp at hj⟩
    · have hlp : 0 < left.length := List.length_pos_iff.2 hl0
      have HL0 := Lib.hid hl0
      have HB := Lib.hid (hbA.out.alloc (by omega) (.cells #[] 32))
      have HBX := Lib.hid (BX.out.alloc (.cells #[] 32))
      clear hl0 bx0
      go_enter Tryd.func136, Tryd.ntmps136
      go_wp2
      go_loopw [9, 10] (fun o i wr => ∃ m, m ≤ left.length ∧ i = .int .i64 m ∧ SG wr (w.heap.size + 1) (.agg #[o]) ((clTo (adS g) k set left out m).map natInts) ∧ Below w.heap.size w wr ∧ Box wr w.heap.size 29 (.slice p g.length c)) (fun _ i _ => left.length - (intOf i).toNat)
      case atStart =>
        refine ⟨0, Nat.zero_le _, rfl, ⟨_, [], rfl, rfl, ?_, fun j hj => by simp [clTo_zero] at hj⟩, HB.out, HBX.out⟩
        exact ownsRow_empty' w _ _ _ _ (Nat.le_refl _)
      case round =>
        obtain ⟨m, hm, rfl, hO, hbel, hbx⟩ := hrel
        have hc := hbx.cell
        have hsz := hbel.size
        have hs1 : w.heap.size + 1 ≤ wr.heap.size := hbx.lt
        have Hbel := Lib.hid hbel
        have Hbx := Lib.hid hbx
        have HOO := Lib.hid hO
        clear hO hbel hbx
        by_cases hlt : m < left.length
        · have hris : True := trivial
          obtain ⟨lb, lo, rfl, hlc⟩ := (HL.out.below Hbel.out).get (k := m) (by rw [natInts_length]; exact hlt)
          rw [natInts_atL hlt] at hlc
          have hvg := HLT.out _ (List.getElem_mem hlt)
          have hgd : Hid (left.getD m 0 = left[m]'hlt) := Lib.hid (by rw [List.getD_eq_getElem?_getD, List.getElem?_eq_getElem hlt]; rfl)
          generalize hV : left[m]'hlt = y at hlc hvg
          have HV := Lib.hid hV
          clear hV hris
          obtain ⟨rb, ro, rp, rc, rfl, hrc, hrow⟩ := (HR.out.below Hbel.out).get (k := y) hvg
          generalize hrl : (g.getD y []).length = rl at hrc hrow
          clear hrl
          have e0 : (0 : Int) ≤ (y : Int) := by omega
          have e1 : (y : Int) < (g.length : Int) := by omega
          have e2 : (0 : Int) ≤ (m : Int) := by omega
          have e3 : (m : Int) < (left.length : Int) := by omega
          --BLOCK
          have HSr := Lib.hid (HS.out.below Hbel.out)
          have HLr := Lib.hid (HL.out.below Hbel.out)
          have HOr := Lib.hid (HO.out.below Hbel.out)
          have HGr := Lib.hid (HG.out.below Hbel.out)
          have hgd2 : Hid (left.getD m 0 = y) := Lib.hid (hgd.out.trans HV.out)
          have hf1 : Hid (((left.drop (m + 1)).filter (adS g y)).length ≤ left.length - (m + 1)) := Lib.hid (Nat.le_trans (List.length_filter_le _ _) (by rw [List.length_drop]; omega))
          have hf2 : Hid (((out ++ left.take m).filter (adS g y)).length ≤ out.length + m) := Lib.hid (Nat.le_trans (List.length_filter_le _ _) (by rw [List.length_append, List.length_take]; omega))
          have HSUB : Hid (∀ j ∈ (left.drop (m + 1)).filter (adS g y), j < g.length) := Lib.hid (fun j hj => HLT.out j (List.mem_of_mem_drop (List.mem_filter.1 hj).1))
          have T2 : Hid (∀ W, Below wr.heap.size wr W → Nums W 2 .i64 (.slice rp rl rc) (g.getD y [])) := Lib.hid (fun W hW => hrow.below hW)
          have T3 : Hid ((left.drop (m + 1)).length ≤ 1000) := Lib.hid (by rw [List.length_drop]; omega)
          have T5 : Hid (∀ W, Below wr.heap.size wr W → Sl W 2 (.slice (some ⟨lb, lo, none⟩) m lc) m ((natInts (left.take m)).map (Value.int .i64))) := Lib.hid (fun W hW => take_sl (by omega) (HLr.out.below hW))
          have T6 : Hid (((natInts (left.take m)).map (Value.int .i64)).length = m * 1) := Lib.hid (by rw [List.length_map, natInts_length, List.length_take]; omega)
          have T7 : Hid (∀ x ∈ (natInts (left.take m)).map (Value.int .i64), x.oneCell' = true) := Lib.hid (by intro x hx; obtain ⟨z, _, rfl⟩ := List.mem_map.1 hx; rfl)
          have T8 : Hid (out.length + m ≤ 1000000000) := Lib.hid (by omega)
          have T9 : Hid (out.length + m = (natInts (out ++ left.take m)).length) := Lib.hid (by rw [natInts_length, List.length_append, List.length_take]; omega)
          have T11 : Hid ((out ++ left.take m).length ≤ 1000) := Lib.hid (by rw [List.length_append, List.length_take]; omega)
          have T12 : Hid (((out ++ left.take m).filter (adS g y)).length ≤ 1000000000) := Lib.hid (by have := hf2.out; omega)
          have T13 : Hid (((left.drop (m + 1)).filter (adS g y)).length ≤ 1000000000) := Lib.hid (by have := hf1.out; omega)
          have T14 : Hid (((left.drop (m + 1)).filter (adS g y)).length < k) := Lib.hid (by have := hf1.out; omega)
          have T15 : Hid ((set ++ [y]).length + ((left.drop (m + 1)).filter (adS g y)).length ≤ 100) := Lib.hid (by have := hf1.out; rw [List.length_append, List.length_singleton]; omega)
          have T16 : Hid (((out ++ left.take m).filter (adS g y)).length + ((left.drop (m + 1)).filter (adS g y)).length ≤ 100) := Lib.hid (by have := hf1.out; have := hf2.out; omega)
          have T17 : Hid ([Value.int .i64 (y : Int)].length = 1 * 1) := Lib.hid rfl
          have T18 : Hid (∀ x ∈ [Value.int .i64 (y : Int)], x.oneCell' = true) := Lib.hid (by intro x hx; rw [List.mem_singleton] at hx; rw [hx]; rfl)
          have T19 : Hid (∀ x ∈ (natInts set).map (Value.int .i64), x.oneCell' = true) := Lib.hid (by intro x hx; obtain ⟨z, _, rfl⟩ := List.mem_map.1 hx; rfl)
          have T20 : Hid (((natInts set).map (Value.int .i64)).length = set.length) := Lib.hid (by simp [natInts])
          have T21 : Hid (wr.heap.size ≤ (wr.alloc (.cells #[.int .i64 (y : Int)] 2)).heap.size) := Lib.hid (by rw [size_alloc]; omega)
          have T23 : Hid (((left.drop (m + 1)).filter (adS g y)).length ≤ 16) := Lib.hid (by have := hf1.out; omega)
          have hp16 : 2 ^ left.length ≤ 65536 := Nat.le_trans (Nat.pow_le_pow_right (by decide) hl16) (by decide)
          have T24 : Hid ((clF (adS g) k (set ++ [left.getD m 0]) ((left.drop (m + 1)).filter (adS g (left.getD m 0))) ((out ++ left.take m).filter (adS g (left.getD m 0)))).length ≤ 1000000000) := Lib.hid (by
            have h1 := clF_len (adS g) k (set ++ [left.getD m 0]) ((left.drop (m + 1)).filter (adS g (left.getD m 0))) ((out ++ left.take m).filter (adS g (left.getD m 0)))
            have h2 : ((left.drop (m + 1)).filter (adS g (left.getD m 0))).length ≤ left.length := Nat.le_trans (List.length_filter_le _ _) (by rw [List.length_drop]; omega)
            have h3 := Nat.pow_le_pow_right (show 0 < 2 by decide) h2
            exact Nat.le_trans (Nat.le_trans (Nat.le_trans h1 h3) hp16) (by decide))
          have T25 : Hid ((clTo (adS g) k set left out m).length + (clF (adS g) k (set ++ [left.getD m 0]) ((left.drop (m + 1)).filter (adS g (left.getD m 0))) ((out ++ left.take m).filter (adS g (left.getD m 0)))).length ≤ 1000000000) := Lib.hid (by
            have h1 := clTo_len (E := adS g) (k := k) (set := set) (left := left) (out := out) (i := m) (by omega)
            have h2 := clF_len (adS g) k (set ++ [left.getD m 0]) ((left.drop (m + 1)).filter (adS g (left.getD m 0))) ((out ++ left.take m).filter (adS g (left.getD m 0)))
            have h3 : ((left.drop (m + 1)).filter (adS g (left.getD m 0))).length ≤ left.length := Nat.le_trans (List.length_filter_le _ _) (by rw [List.length_drop]; omega)
            have h4 := Nat.pow_le_pow_right (show 0 < 2 by decide) h3
            have h5 : (clTo (adS g) k set left out m).length ≤ 2 ^ left.length := Nat.le_trans (Nat.le_add_right _ _) h1
            exact Nat.le_trans (Nat.add_le_add (Nat.le_trans h5 hp16) (Nat.le_trans (Nat.le_trans h2 h4) hp16)) (by decide))
          clear hp16
          have T22 : Hid (set.length + 1 ≤ 1000000000) := Lib.hid (by omega)
          clear hrow
          have hml : m < 101 := by omega
          have hcap : left.length ≤ lc := HCAP.out
          have hwr : IntKind.i64.wrap ((m : Int) + 1) = (m : Int) + 1 := by rw [IntKind.wrap_i64]; omega
          have f1 : (0 : Int) ≤ (m : Int) + 1 := by omega
          have f2 : (m : Int) + 1 ≤ (left.length : Int) := by omega
          have f3 : (m : Int) ≤ (left.length : Int) := by omega
          have f4 : (m : Int) ≤ (lc : Int) := by omega
          have f5 : (left.length : Int) ≤ (lc : Int) := by omega
          have f6 : (0 : Int) ≤ (m : Int) := by omega
          by_cases hcm : lc = m + 1
          · subst hcm
            have g1 : (m : Int) ≤ ((m + 1 : Nat) : Int) := by omega
            have g2 : (m : Int) ≤ (m : Int) + 1 := by omega
            have g3 : m ≤ m + 1 := by omega
            have T1 : Hid (∀ W, Below wr.heap.size wr W → Nums W 2 .i64 _ (natInts (left.drop (m + 1)))) := Lib.hid (fun W hW => nums_drop0 (k := m + 1) (by omega) (HLr.out.below hW))
            go_upto_region 8 with fail
            go_cut [12] (fun s12 wx => SG wx wr.heap.size (.agg #[s12]) ((clF (adS g) k (set ++ [left.getD m 0]) ((left.drop (m + 1)).filter (adS g (left.getD m 0))) ((out ++ left.take m).filter (adS g (left.getD m 0)))).map natInts) ∧ Below wr.heap.size wr wx)
            case first =>
              go_region_held3 (fun w' => w'.cell? ⟨w.heap.size, 0, none⟩ = some (.slice (some ⟨rb, ro, none⟩) g.length c) ∧ w'.cell? ⟨rb, ro + y, none⟩ = some (.slice rp rl rc))
                (first | exact ⟨hc, hrc⟩ | exact ⟨BWG.at' hc, BWG.at' hrc⟩ | exact ⟨BWF.at' hc, BWF.at' hrc⟩ | exact ⟨BWE.at' hc, BWE.at' hrc⟩ | exact ⟨BWD.at' hc, BWD.at' hrc⟩ | exact ⟨BWC.at' hc, BWC.at' hrc⟩ | exact ⟨BWB.at' hc, BWB.at' hrc⟩ | exact ⟨BWA.at' hc, BWA.at' hrc⟩ | exact ⟨(BWA.alloc hs2 _).at' hc, (BWA.alloc hs2 _).at' hrc⟩ | go_keep)
                (first
                  | (have hq5 := HO5.out; refine wanted_wp rfl ?_; refine wp_apps (s := .tmp 51) (x := .tmp 54) (u := .slice (some ⟨lb, lo, none⟩) m (m + 1)) ty_i64 ?_ ?_ hq5 ?_ (T5.out _ BWD) T6.out T7.out T8.out hs45 ?_; exact rfl; exact rfl; exact rfl; intro av w6 hown6 hg6; obtain ⟨ap, ac, rfl⟩ := owns_shapeT hown6; have B46 : Below w4.heap.size w4 w6 := below_grown B45 HO5.out hg6 (Nat.le_refl _) hs45; have B36 : Below w3.heap.size w3 w6 := B34.trans (B46.mono B34.size); have BWE : Below wr.heap.size wr w6 := BWC.trans (B46.mono BWC.size); have HN6 : Hid (Nums w6 2 .i64 _ (natInts (out ++ left.take m))) := Lib.hid (Nums.of_owns (xs := natInts (out ++ left.take m)) (by rw [natInts_app, List.map_append]; exact hown6) T9.out T8.out); clear hown6 hg6 hq5)
                  | (go_at_call 136; refine (IH.out (set ++ [y]) ((left.drop (m + 1)).filter (adS g y)) ((out ++ left.take m).filter (adS g y)) _ _ _ _ HSUB.out T14.out T23.out T15.out T16.out _ (HGr.out.below BWF) (HN3.out.below B37) (HN4.out.below B47) HN7.out).mono ?_; rintro e w8 ⟨rv, rfl, hs8, hb8⟩; have BWG : Below wr.heap.size wr w8 := BWF.trans (hb8.mono BWF.size); have HS8 : Hid (SG w8 wr.heap.size (.agg #[rv]) ((clF (adS g) k (set ++ [y]) ((left.drop (m + 1)).filter (adS g y)) ((out ++ left.take m).filter (adS g y))).map natInts)) := Lib.hid (sg_baseC hs8 BWF.size); clear hs8 hb8)
                  | (go_at_call 150; refine (l8Meet_nums _ _ (out ++ left.take m) g y T11.out _ HN6.out (T2.out _ BWE)).mono ?_; rintro e w7 ⟨n7, mp, mc, rfl, hn7, hb7⟩; have BWF : Below wr.heap.size wr w7 := BWE.trans (hb7.mono BWE.size); have B47 : Below w4.heap.size w4 w7 := B46.trans (hb7.mono B46.size); have B37 : Below w3.heap.size w3 w7 := B36.trans (hb7.mono B36.size); have HN7 := Lib.hid hn7; clear hn7 hb7)
                  | (go_at_call 127; refine (l1Copy_any _ out.length ((natInts out).map (Value.int .i64)) (by intro x hx; obtain ⟨z, _, rfl⟩ := List.mem_map.1 hx; rfl) (by simp [natInts]) _ (HOr.out.slC BWC)).mono ?_; rintro e w5 ⟨cv, rfl, ho5, hb5⟩; obtain ⟨dp, dc, rfl⟩ := owns_shapeT ho5; have B45 : Below w4.heap.size w4 w5 := hb5; have hs45 := hb5.size; have BWD : Below wr.heap.size wr w5 := BWC.trans (hb5.mono BWC.size); have HO5 := Lib.hid ho5; clear ho5 hb5)
                  | (go_at_call 150; refine (l8Meet_nums _ _ (left.drop (m + 1)) g y T3.out _ (T1.out _ BWB) (T2.out _ BWB)).mono ?_; rintro e w4 ⟨n4, np, nc, rfl, hn4, hb4⟩; have B34 : Below w3.heap.size w3 w4 := hb4; have BWC : Below wr.heap.size wr w4 := BWB.trans (hb4.mono BWB.size); have HN4 := Lib.hid hn4; clear hn4 hb4)
                  | (have hq1 := HB1.out; have hq2 := HO2.out; refine wanted_wp rfl ?_; refine wp_apps (s := .tmp 36) (x := .tmp 38) (u := .slice (some ⟨wr.heap.size, 0, none⟩) 1 1) ty_i64 ?_ ?_ hq2 ?_ hq1 T17.out T18.out T22.out hs2 ?_; exact rfl; exact rfl; exact rfl; intro bv w3 hown3 hg3; obtain ⟨bp3, bc3, rfl⟩ := owns_shapeT hown3; have BWB := below_grown BWA HO2.out hg3 (Nat.le_refl _) BWA.size; have HN3 : Hid (Nums w3 2 .i64 _ (natInts (set ++ [y]))) := Lib.hid (Nums.of_owns (xs := natInts (set ++ [y])) (by rw [natInts_app, List.map_append]; exact hown3) (by rw [natInts_length, List.length_append]; rfl) T22.out); clear hown3 hg3 hq1 hq2)
                  | (refine step_app1s ty_i64 rfl rfl rfl HO2.out rfl rfl (by omega) (by omega) ?_; intro b3 c3 w3 hown3 hg3; have BWB := below_grown BWA HO2.out hg3 (Nat.le_refl _) BWA.size; have HN3 : Hid (Nums w3 2 .i64 (.slice (some ⟨b3, 0, none⟩) (set.length + 1) c3) (natInts (set ++ [y]))) := Lib.hid (Nums.of_owns (xs := natInts (set ++ [y])) (by rw [natInts_app, List.map_append]; exact hown3) (by rw [natInts_length, List.length_append]; rfl) (by omega)); clear hown3 hg3)
                  | (go_at_call 127; refine (l1Copy_any _ set.length ((natInts set).map (Value.int .i64)) T19.out T20.out _ (HSr.out.slC (below_dN (below_alloc wr (.cells #[.int .i64 (y : Int)] 2)) 1))).mono ?_; rintro e w2 ⟨cv, rfl, ho2, hb2⟩; obtain ⟨cp, cc, rfl⟩ := owns_shapeT ho2; have BWA : Below wr.heap.size wr w2 := (below_dN (below_alloc wr (.cells #[.int .i64 (y : Int)] 2)) 1).trans (hb2.mono T21.out); have HO2 : Hid (w2.ownsRow wr.heap.size 2 1 (.slice cp set.length cc) set.length ((natInts set).map (Value.int .i64))) := Lib.hid (ownsRow_base ho2 T21.out); have HB1 := Lib.hid (built_sl (w' := w2) hb2); have hs2 := BWA.size; clear ho2 hb2)
                  | (go_at_call 127; refine (l1Copy_any _ set.length ((natInts set).map (Value.int .i64)) T19.out T20.out _ (HSr.out.slC (below_dN (Below.refl _ _) 1))).mono ?_; rintro e w2 ⟨cv, rfl, ho2, hb2⟩; obtain ⟨cp, cc, rfl⟩ := owns_shapeT ho2; have BWA : Below wr.heap.size wr w2 := (below_dN (Below.refl _ _) 1).trans hb2; have HO2 : Hid (w2.ownsRow wr.heap.size 2 1 (.slice cp set.length cc) set.length ((natInts set).map (Value.int .i64))) := Lib.hid ho2; have hs2 := BWA.size; clear ho2 hb2))
              all_goals go_wp2
              all_goals go_meet
              all_goals exact ⟨by rw [hgd2.out]; exact HS8.out, BWG⟩
            case rest =>
              obtain ⟨hs12, hb12⟩ := hcut
              obtain ⟨_, vals, e1, hl1, ho1, hr1⟩ := HOO.out
              cases e1
              obtain ⟨_, vals2, e2, hl2, ho2, hr2⟩ := hs12
              cases e2
              rw [List.length_map] at hl1 ho1 hr1 hl2 ho2 hr2
              have hsz12 := hb12.size
              have hA := Lib.hid (ownsRow_below ho1 hb12)
              have hU := Lib.hid (Sl.of_owns ho2 T24.out)
              have hC1 := Lib.hid (sg_cells (gg := (clF (adS g) k (set ++ [left.getD m 0]) ((left.drop (m + 1)).filter (adS g (left.getD m 0))) ((out ++ left.take m).filter (adS g (left.getD m 0)))).map natInts) (by rw [List.length_map]; exact hl2) (fun j hj => hr2 j (by rwa [List.length_map] at hj)))
              have hR1 := Lib.hid (fun j hj => (hr1 j hj).below hb12)
              have hR2 := Lib.hid hr2
              have hL1 := Lib.hid hl1
              have hL2 := Lib.hid hl2
              have hB12 := Lib.hid (Hbel.out.trans (hb12.mono hsz))
              have hX12 := Lib.hid (Hbx.out.keep hb12)
              have hbase : w.heap.size + 1 ≤ wc.heap.size := by omega
              obtain ⟨p1, c1, rfl⟩ := owns_shapeT ho1
              obtain ⟨p2, c2, rfl⟩ := owns_shapeT ho2
              clear hl1 ho1 hr1 hl2 ho2 hr2 hb12
              go_wp2_with (at_builtin; refine wpList_app ty_rows rfl rfl rfl hA.out rfl hU.out (by rw [hL2.out, Nat.mul_one]) hC1.out T25.out hbase ?_; intro v' w1 hown' hg _)
              have HFIN : Hid (SG w1 (w.heap.size + 1) (.agg #[v']) ((clTo (adS g) k set left out (m + 1)).map natInts)) := Lib.hid (by
                rw [clTo_succ]
                exact SG.app hL1.out hL2.out hA.out hR1.out hR2.out hown' hg)
              have HBL := Lib.hid (below_grown hB12.out hA.out hg (by omega) (by omega))
              have HBX2 := Lib.hid (hX12.out.grown hg (fun e => by have := (hA.out.lt _ e.symm).1; omega))
              clear hown' hg
              go_roundw
              case rel => exact ⟨m + 1, by omega, by go_num, HFIN.out, HBL.out, HBX2.out⟩
              case measure => simp [intOf]; omega
          · have hcm2 : m + 1 < lc := by omega
            have hcm3 : ¬ lc - (m + 1) = 0 := by omega
            have hcm4 : ¬ m + 1 = lc := by omega
            have T1 : Hid (∀ W, Below wr.heap.size wr W → Nums W 2 .i64 _ (natInts (left.drop (m + 1)))) := Lib.hid (fun W hW => nums_drop1 (k := m + 1) (by omega) (HLr.out.below hW))
            go_upto_region 8 with fail
            go_cut [12] (fun s12 wx => SG wx wr.heap.size (.agg #[s12]) ((clF (adS g) k (set ++ [left.getD m 0]) ((left.drop (m + 1)).filter (adS g (left.getD m 0))) ((out ++ left.take m).filter (adS g (left.getD m 0)))).map natInts) ∧ Below wr.heap.size wr wx)
            case first =>
              go_region_held3 (fun w' => w'.cell? ⟨w.heap.size, 0, none⟩ = some (.slice (some ⟨rb, ro, none⟩) g.length c) ∧ w'.cell? ⟨rb, ro + y, none⟩ = some (.slice rp rl rc))
                (first | exact ⟨hc, hrc⟩ | exact ⟨BWG.at' hc, BWG.at' hrc⟩ | exact ⟨BWF.at' hc, BWF.at' hrc⟩ | exact ⟨BWE.at' hc, BWE.at' hrc⟩ | exact ⟨BWD.at' hc, BWD.at' hrc⟩ | exact ⟨BWC.at' hc, BWC.at' hrc⟩ | exact ⟨BWB.at' hc, BWB.at' hrc⟩ | exact ⟨BWA.at' hc, BWA.at' hrc⟩ | exact ⟨(BWA.alloc hs2 _).at' hc, (BWA.alloc hs2 _).at' hrc⟩ | go_keep)
                (first
                  | (have hq5 := HO5.out; refine wanted_wp rfl ?_; refine wp_apps (s := .tmp 51) (x := .tmp 54) (u := .slice (some ⟨lb, lo, none⟩) m lc) ty_i64 ?_ ?_ hq5 ?_ (T5.out _ BWD) T6.out T7.out T8.out hs45 ?_; exact rfl; exact rfl; exact rfl; intro av w6 hown6 hg6; obtain ⟨ap, ac, rfl⟩ := owns_shapeT hown6; have B46 : Below w4.heap.size w4 w6 := below_grown B45 HO5.out hg6 (Nat.le_refl _) hs45; have B36 : Below w3.heap.size w3 w6 := B34.trans (B46.mono B34.size); have BWE : Below wr.heap.size wr w6 := BWC.trans (B46.mono BWC.size); have HN6 : Hid (Nums w6 2 .i64 _ (natInts (out ++ left.take m))) := Lib.hid (Nums.of_owns (xs := natInts (out ++ left.take m)) (by rw [natInts_app, List.map_append]; exact hown6) T9.out T8.out); clear hown6 hg6 hq5)
                  | (go_at_call 136; refine (IH.out (set ++ [y]) ((left.drop (m + 1)).filter (adS g y)) ((out ++ left.take m).filter (adS g y)) _ _ _ _ HSUB.out T14.out T23.out T15.out T16.out _ (HGr.out.below BWF) (HN3.out.below B37) (HN4.out.below B47) HN7.out).mono ?_; rintro e w8 ⟨rv, rfl, hs8, hb8⟩; have BWG : Below wr.heap.size wr w8 := BWF.trans (hb8.mono BWF.size); have HS8 : Hid (SG w8 wr.heap.size (.agg #[rv]) ((clF (adS g) k (set ++ [y]) ((left.drop (m + 1)).filter (adS g y)) ((out ++ left.take m).filter (adS g y))).map natInts)) := Lib.hid (sg_baseC hs8 BWF.size); clear hs8 hb8)
                  | (go_at_call 150; refine (l8Meet_nums _ _ (out ++ left.take m) g y T11.out _ HN6.out (T2.out _ BWE)).mono ?_; rintro e w7 ⟨n7, mp, mc, rfl, hn7, hb7⟩; have BWF : Below wr.heap.size wr w7 := BWE.trans (hb7.mono BWE.size); have B47 : Below w4.heap.size w4 w7 := B46.trans (hb7.mono B46.size); have B37 : Below w3.heap.size w3 w7 := B36.trans (hb7.mono B36.size); have HN7 := Lib.hid hn7; clear hn7 hb7)
                  | (go_at_call 127; refine (l1Copy_any _ out.length ((natInts out).map (Value.int .i64)) (by intro x hx; obtain ⟨z, _, rfl⟩ := List.mem_map.1 hx; rfl) (by simp [natInts]) _ (HOr.out.slC BWC)).mono ?_; rintro e w5 ⟨cv, rfl, ho5, hb5⟩; obtain ⟨dp, dc, rfl⟩ := owns_shapeT ho5; have B45 : Below w4.heap.size w4 w5 := hb5; have hs45 := hb5.size; have BWD : Below wr.heap.size wr w5 := BWC.trans (hb5.mono BWC.size); have HO5 := Lib.hid ho5; clear ho5 hb5)
                  | (go_at_call 150; refine (l8Meet_nums _ _ (left.drop (m + 1)) g y T3.out _ (T1.out _ BWB) (T2.out _ BWB)).mono ?_; rintro e w4 ⟨n4, np, nc, rfl, hn4, hb4⟩; have B34 : Below w3.heap.size w3 w4 := hb4; have BWC : Below wr.heap.size wr w4 := BWB.trans (hb4.mono BWB.size); have HN4 := Lib.hid hn4; clear hn4 hb4)
                  | (have hq1 := HB1.out; have hq2 := HO2.out; refine wanted_wp rfl ?_; refine wp_apps (s := .tmp 36) (x := .tmp 38) (u := .slice (some ⟨wr.heap.size, 0, none⟩) 1 1) ty_i64 ?_ ?_ hq2 ?_ hq1 T17.out T18.out T22.out hs2 ?_; exact rfl; exact rfl; exact rfl; intro bv w3 hown3 hg3; obtain ⟨bp3, bc3, rfl⟩ := owns_shapeT hown3; have BWB := below_grown BWA HO2.out hg3 (Nat.le_refl _) BWA.size; have HN3 : Hid (Nums w3 2 .i64 _ (natInts (set ++ [y]))) := Lib.hid (Nums.of_owns (xs := natInts (set ++ [y])) (by rw [natInts_app, List.map_append]; exact hown3) (by rw [natInts_length, List.length_append]; rfl) T22.out); clear hown3 hg3 hq1 hq2)
                  | (refine step_app1s ty_i64 rfl rfl rfl HO2.out rfl rfl (by omega) (by omega) ?_; intro b3 c3 w3 hown3 hg3; have BWB := below_grown BWA HO2.out hg3 (Nat.le_refl _) BWA.size; have HN3 : Hid (Nums w3 2 .i64 (.slice (some ⟨b3, 0, none⟩) (set.length + 1) c3) (natInts (set ++ [y]))) := Lib.hid (Nums.of_owns (xs := natInts (set ++ [y])) (by rw [natInts_app, List.map_append]; exact hown3) (by rw [natInts_length, List.length_append]; rfl) (by omega)); clear hown3 hg3)
                  | (go_at_call 127; refine (l1Copy_any _ set.length ((natInts set).map (Value.int .i64)) T19.out T20.out _ (HSr.out.slC (below_dN (below_alloc wr (.cells #[.int .i64 (y : Int)] 2)) 1))).mono ?_; rintro e w2 ⟨cv, rfl, ho2, hb2⟩; obtain ⟨cp, cc, rfl⟩ := owns_shapeT ho2; have BWA : Below wr.heap.size wr w2 := (below_dN (below_alloc wr (.cells #[.int .i64 (y : Int)] 2)) 1).trans (hb2.mono T21.out); have HO2 : Hid (w2.ownsRow wr.heap.size 2 1 (.slice cp set.length cc) set.length ((natInts set).map (Value.int .i64))) := Lib.hid (ownsRow_base ho2 T21.out); have HB1 := Lib.hid (built_sl (w' := w2) hb2); have hs2 := BWA.size; clear ho2 hb2)
                  | (go_at_call 127; refine (l1Copy_any _ set.length ((natInts set).map (Value.int .i64)) T19.out T20.out _ (HSr.out.slC (below_dN (Below.refl _ _) 1))).mono ?_; rintro e w2 ⟨cv, rfl, ho2, hb2⟩; obtain ⟨cp, cc, rfl⟩ := owns_shapeT ho2; have BWA : Below wr.heap.size wr w2 := (below_dN (Below.refl _ _) 1).trans hb2; have HO2 : Hid (w2.ownsRow wr.heap.size 2 1 (.slice cp set.length cc) set.length ((natInts set).map (Value.int .i64))) := Lib.hid ho2; have hs2 := BWA.size; clear ho2 hb2))
              all_goals go_wp2
              all_goals go_meet
              all_goals exact ⟨by rw [hgd2.out]; exact HS8.out, BWG⟩
            case rest =>
              obtain ⟨hs12, hb12⟩ := hcut
              obtain ⟨_, vals, e1, hl1, ho1, hr1⟩ := HOO.out
              cases e1
              obtain ⟨_, vals2, e2, hl2, ho2, hr2⟩ := hs12
              cases e2
              rw [List.length_map] at hl1 ho1 hr1 hl2 ho2 hr2
              have hsz12 := hb12.size
              have hA := Lib.hid (ownsRow_below ho1 hb12)
              have hU := Lib.hid (Sl.of_owns ho2 T24.out)
              have hC1 := Lib.hid (sg_cells (gg := (clF (adS g) k (set ++ [left.getD m 0]) ((left.drop (m + 1)).filter (adS g (left.getD m 0))) ((out ++ left.take m).filter (adS g (left.getD m 0)))).map natInts) (by rw [List.length_map]; exact hl2) (fun j hj => hr2 j (by rwa [List.length_map] at hj)))
              have hR1 := Lib.hid (fun j hj => (hr1 j hj).below hb12)
              have hR2 := Lib.hid hr2
              have hL1 := Lib.hid hl1
              have hL2 := Lib.hid hl2
              have hB12 := Lib.hid (Hbel.out.trans (hb12.mono hsz))
              have hX12 := Lib.hid (Hbx.out.keep hb12)
              have hbase : w.heap.size + 1 ≤ wc.heap.size := by omega
              obtain ⟨p1, c1, rfl⟩ := owns_shapeT ho1
              obtain ⟨p2, c2, rfl⟩ := owns_shapeT ho2
              clear hl1 ho1 hr1 hl2 ho2 hr2 hb12
              go_wp2_with (at_builtin; refine wpList_app ty_rows rfl rfl rfl hA.out rfl hU.out (by rw [hL2.out, Nat.mul_one]) hC1.out T25.out hbase ?_; intro v' w1 hown' hg _)
              have HFIN : Hid (SG w1 (w.heap.size + 1) (.agg #[v']) ((clTo (adS g) k set left out (m + 1)).map natInts)) := Lib.hid (by
                rw [clTo_succ]
                exact SG.app hL1.out hL2.out hA.out hR1.out hR2.out hown' hg)
              have HBL := Lib.hid (below_grown hB12.out hA.out hg (by omega) (by omega))
              have HBX2 := Lib.hid (hX12.out.grown hg (fun e => by have := (hA.out.lt _ e.symm).1; omega))
              clear hown' hg
              go_roundw
              case rel => exact ⟨m + 1, by omega, by go_num, HFIN.out, HBL.out, HBX2.out⟩
              case measure => simp [intOf]; omega
        · obtain rfl : m = left.length := by omega
          go_wp2
          go_ret
          refine ⟨_, rfl, ?_, Hbel.out⟩
          rw [clF_more _ _ _ _ _ (fun h => HL0.out h.1)]
          exact sg_baseC HOO.out (by omega)

end Go.Proofs.YtfokiijcpkhllaaDoor
