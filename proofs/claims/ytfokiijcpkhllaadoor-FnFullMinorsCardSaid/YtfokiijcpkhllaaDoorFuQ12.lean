/- Walks: the program's graph of some vertices; a graph made of masks. -/
import Derived.Test.YtfokiijcpkhllaaDoorFuQ7
import Derived.Test.YtfokiijcpkhllaaDoorFuQ11
import Derived.Test.YtfokiijcpkhllaaDoorFuQ6
import Derived.Deep.RegionLaw
import Derived.Test.YtfokiijcpkhllaaDoorFuQ9
namespace Go.Proofs.YtfokiijcpkhllaaDoor
open Go.RowKit

theorem step_app1s {P : Program} {T E : TypeId} {z : Value} {bytes : Nat} (S : SlTy P T E z 1 bytes) {w : World} {ops : Array Oper} {o : Oper} {a : Act} {K : Act → World → Prop} {Q : Exit → Act → World → Prop} {F : Prop}
    (hgd : o.guard = none) {s x : Operand} (ho : o.op = .call { callee := .builtin .append, args := #[s, x], argTypes := #[T, T] })
    {base : Nat} {v : Value} {n : Nat} {xs : List Value} {el : Value} (hs : a.eval s = v) (hown : w.ownsRow base E 1 v n xs)
    (hx : a.eval x = .slice (some ⟨w.heap.size, 0, none⟩) 1 1) (h1 : el.oneCell' = true)
    (hnm : n < 1000000000) (hbase : base ≤ w.heap.size)
    (h : ∀ b c w', w'.ownsRow base E 1 (.slice (some ⟨b, 0, none⟩) (n + 1) c) (n + 1) (xs ++ [el]) → w.grownBy w' v.ownBlock → K (a.put o.dst (.slice (some ⟨b, 0, none⟩) (n + 1) c)) w') :
    if Region.wanted o (yielded ops a.tmps) = true then Oper.wp P o a (w.alloc (.cells #[el] E)) K Q else F := by
  have hw : Region.wanted o (yielded ops a.tmps) = true := by simp [Region.wanted, hgd]
  rw [if_pos hw]
  have hal : (w.alloc (.cells #[el] E)).heap.size = w.heap.size + 1 := by show (w.heap.push _).size = _; simp
  have hu : Sl (w.alloc (.cells #[el] E)) E (.slice (some ⟨w.heap.size, 0, none⟩) 1 1) 1 [el] := by
    refine ⟨_, 1, rfl, (fun e => by cases e), Nat.le_refl _, by omega, Or.inr ⟨w.heap.size, 0, #[el], (0, 0), rfl, heap_alloc_new w _, ?_⟩⟩
    intro j u hu
    match j, hu with
    | 0, hu => simpa using hu
    | j + 1, hu => simp at hu
  obtain ⟨v', w', hr, h2, h3, h4⟩ := run_app S (w.alloc (.cells #[el] E)) o.type base v n xs (hown.alloc _) _ 1 [el] hu (by simp) (by simpa using h1) (by omega) (by omega)
  unfold Oper.wp execOp
  simp only [ho, resolve, invoke, builtin, Sem.run_bind, Sem.run_pure, Result.andThen_ok, List.map_toArray, List.map_cons, List.map_nil, hs, hx, hr]
  rcases id h2.2 with ⟨_, h0⟩ | ⟨g, cap, cur, rfl, _⟩
  · omega
  · exact h g cap w' h2 ⟨h3.os, h3.tape, h3.output, by have := h3.size; omega, fun k hk hne => (h3.block k (by omega) hne).trans (Below.heap_alloc w _ k hk)⟩

set_option maxRecDepth 100000 in
set_option maxHeartbeats 4000000 in
theorem induced_any (x lv : Value) (a l : List Nat) (h16 : a.length ≤ 16) (ha : ∀ s ∈ a, s < 65536) (hl : ∀ v ∈ l, v < a.length) (hm : l.length ≤ 16) (w : World)
    (hx : Sl w 64 x a.length (a.map u32v)) (hn : Nums w 3 .i64 lv (natInts l)) :
    Calls Tryd.prog 75 #[x, lv] w fun e w' => ∃ u, e = .returned u ∧
      w'.ownsRow w.heap.size 64 1 u l.length ((indN l.length (bitE a l)).map u32v) ∧ Below w.heap.size w w' := by
  obtain ⟨p, c, rfl, _⟩ := id hx
  obtain ⟨lp, lc, rfl, _⟩ := id hn.shape
  have hll := natInts_length l
  rw [hll] at hn ⊢
  have HX := Lib.hid hx
  have HN := Lib.hid hn
  clear hx hn
  go_enter Tryd.func75, Tryd.ntmps75
  go_wp2_with (at_make; refine wpList_mk ty_nets rfl rfl rfl l.length rfl rfl rfl rfl (by omega) ?_; intro w1 hown1 hg1)
  have hb1 := grown_below hg1
  have START : Hid (w1.ownsRow w.heap.size 64 1 (.slice (some ⟨w.heap.size, 0, none⟩) l.length l.length) l.length ((indN l.length (rowsE (bitE a l) 0 0)).map u32v) ∧ Below w.heap.size w w1) := Lib.hid
    ⟨by rw [rows_start, List.map_replicate]; exact hown1, hb1⟩
  clear hg1 hown1 hb1
  go_loopw [15] (fun i wr => ∃ k : Nat, k ≤ l.length ∧ i = .int .i64 k ∧ wr.ownsRow w.heap.size 64 1 (.slice (some ⟨w.heap.size, 0, none⟩) l.length l.length) l.length ((indN l.length (rowsE (bitE a l) k 0)).map u32v) ∧ Below w.heap.size w wr)
    (fun i _ => l.length - (intOf i).toNat)
  case atStart => exact ⟨0, Nat.zero_le _, rfl, START.out⟩
  case round =>
    obtain ⟨i, hi, rfl, hown, hbel⟩ := hrel
    have HI := Lib.hid hown
    clear hown
    by_cases hlt : i < l.length
    · have hin := hl _ (List.getElem_mem hlt)
      obtain ⟨b, o, rfl, hci⟩ := (HN.out.below hbel).get (k := i) (by rw [hll]; exact hlt)
      rw [show (natInts l)[i]'(by rw [hll]; exact hlt) = ((l[i] : Nat) : Int) by simp [natInts]] at hci
      go_wp2_with fail
      clear hci
      go_loopw [22] (fun i' wr => ∃ k : Nat, k ≤ l.length ∧ i' = .int .i64 k ∧ wr.ownsRow w.heap.size 64 1 (.slice (some ⟨w.heap.size, 0, none⟩) l.length l.length) l.length ((indN l.length (rowsE (bitE a l) i k)).map u32v) ∧ Below w.heap.size w wr)
        (fun i' _ => l.length - (intOf i').toNat)
      case atStart => exact ⟨0, Nat.zero_le _, rfl, HI.out, hbel⟩
      case round =>
        clear HI hbel
        obtain ⟨k, hk, rfl, hown, hbel⟩ := hrel
        by_cases hlt2 : k < l.length
        · have hkn := hl _ (List.getElem_mem hlt2)
          obtain ⟨_, _, hbo, hck⟩ := (HN.out.below hbel).get (k := k) (by rw [hll]; exact hlt2)
          cases hbo
          rw [show (natInts l)[k]'(by rw [hll]; exact hlt2) = ((l[k] : Nat) : Int) by simp [natInts]] at hck
          obtain ⟨ab, ao, rfl, hca⟩ := nets_cell (HX.out.below hbel) hin
          have hs16 := ha _ (List.getElem_mem hin)
          have hbit : Hid (a[l[i]].testBit l[k] = bitE a l i k) := Lib.hid (by unfold bitE; simp [hlt, hlt2, hin])
          have e0 : (0 : Int) ≤ (k : Int) := by omega
          have hrl := hown.cellAt i (by omega)
          have hfz := hown.frozenAt i
          have hil : i < (indN l.length (rowsE (bitE a l) i k)).length := by rw [indN_length]; exact hlt
          rw [List.getElem?_map, List.getElem?_eq_getElem hil] at hrl
          change wr.cell? _ = some (.int .u32 (((indN l.length (rowsE (bitE a l) i k))[i] : Nat) : Int)) at hrl
          have hr16 := indN_lt16 (E := rowsE (bitE a l) i k) hm _ (List.getElem_mem hil)
          obtain ⟨ho2, hg2⟩ := hown.stored i (.int .u32 (((indN l.length (rowsE (bitE a l) i k))[i] ||| 2 ^ k : Nat) : Int))
          have hb2 := below_grown hbel hown hg2 (Nat.le_refl _) hbel.size
          have hyes : Hid (bitE a l i k = true → ((indN l.length (rowsE (bitE a l) i k)).map u32v).set i (.int .u32 (((indN l.length (rowsE (bitE a l) i k))[i] ||| 2 ^ k : Nat) : Int)) = (indN l.length (rowsE (bitE a l) i (k + 1))).map u32v) := Lib.hid (fun he => by
            rw [← rows_yes hlt hlt2 he, List.map_set]
            have : (indN l.length (rowsE (bitE a l) i k)).getD i 0 = (indN l.length (rowsE (bitE a l) i k))[i] := by simp [hil]
            rw [this]; rfl)
          have Hown := Lib.hid hown
          have Ho2 := Lib.hid ho2
          have Hb2 := Lib.hid hb2
          have Hbel := Lib.hid hbel
          have hor := or_u32 (indN l.length (rowsE (bitE a l) i k))[i] (2 ^ k) hr16 (pow_lt16 k (by omega))
          generalize (indN l.length (rowsE (bitE a l) i k))[i] = m0 at hrl hr16 hyes Ho2 Hb2 hor
          have c1 := Lib.hid (fun w => one_any (k : Int) k rfl (by omega) w)
          clear hown ho2 hb2 hg2 hbel hil
          cases hE' : bitE a l i k
          · rw [hE'] at hbit
            have hb' := hbit.out
            go_wp2_with (go_at_call 71; refine (has_any _ _ a[l[i]] l[k] rfl rfl (by omega) (by omega) _).mono ?_; rintro e w2 ⟨rfl, rfl⟩)
            go_roundw
            case rel => exact ⟨k + 1, by omega, by go_num, by rw [← rows_no hE']; exact Hown.out, Hbel.out⟩
            case measure => simp [intOf]; omega
          · rw [hE'] at hbit
            have hb' := hbit.out
            generalize 2 ^ k = pk at *
            go_upto_region 9 with (go_at_call 71; refine (has_any _ _ a[l[i]] l[k] rfl rfl (by omega) (by omega) _).mono ?_; rintro e w2 ⟨rfl, rfl⟩)
            go_region_with (go_at_call 74; refine (c1.out _).mono ?_; rintro e w2 ⟨rfl, rfl⟩)
            all_goals go_wp2
            all_goals go_roundw
            all_goals first
              | exact ⟨k + 1, by omega, by go_num, by rw [← hyes.out hE']; exact Ho2.out, ⟨Hb2.out.os, Hb2.out.tape, Hb2.out.output, Hb2.out.size, Hb2.out.block⟩⟩
              | (simp [intOf]; omega)
        · obtain rfl : k = l.length := by omega
          go_wp2
          go_roundw
          case rel => exact ⟨i + 1, by omega, by go_num, by rw [← rows_row]; exact hown, hbel⟩
          case measure => simp [intOf]; omega
    · obtain rfl : i = l.length := by omega
      go_wp2
      go_ret
      exact ⟨_, rfl, by rw [← rows_end]; exact HI.out, hbel⟩

end Go.Proofs.YtfokiijcpkhllaaDoor

/- Walk: a graph made of masks. -/
namespace Go.Proofs.YtfokiijcpkhllaaDoor
open Go.RowKit

/-- The first k rows are the callee's own, each in a block of its own. -/
structure Dis (w : World) (base k : Nat) (vals : List Value) (g : List (List Int)) : Prop where
  rows : ∀ j, j < k → w.ownsRow base 2 1 (vals.getD j undef) (row g j).length ((row g j).map (Value.int .i64))
  dis : ∀ i j, i < k → j < k → i ≠ j → ∀ b, (vals.getD i undef).ownBlock = some b → (vals.getD j undef).ownBlock ≠ some b
def DG (w : World) (base : Nat) (v : Value) (g : List (List Int)) : Prop :=
  ∃ u vals, v = .agg #[u] ∧ vals.length = g.length ∧ w.ownsRow base 32 1 u g.length vals ∧ Dis w base g.length vals g

theorem DG.below {w w' : World} {base : Nat} {v : Value} {g : List (List Int)} (h : DG w base v g) (hb : Below w.heap.size w w') : DG w' base v g := by
  obtain ⟨u, vals, h1, h2, h3, h4⟩ := h
  exact ⟨u, vals, h1, h2, ownsRow_below h3 hb, ⟨fun j hj => ownsRow_below (h4.rows j hj) hb, h4.dis⟩⟩
theorem DG.gr {w : World} {base : Nat} {v : Value} {g : List (List Int)} (h : DG w base v g) (hn : g.length ≤ 1000000000) (hr : ∀ j, j < g.length → (row g j).length ≤ 1000000000) : Gr w v g := by
  obtain ⟨u, vals, rfl, h2, h3, h4⟩ := h
  exact ⟨u, rfl, Rws.of_owned vals h2 h3 hn fun j hj => Nums.of_owns (h4.rows j hj) rfl (hr j hj)⟩
theorem DG.shape {w : World} {base : Nat} {v : Value} {g : List (List Int)} (h : DG w base v g) : ∃ p c, v = .agg #[.slice p g.length c] := by
  obtain ⟨u, vals, rfl, h2, h3, h4⟩ := h
  rcases h3.2 with ⟨rfl, h0⟩ | ⟨b, c, _, rfl, _⟩
  · exact ⟨none, 0, by rw [h0]⟩
  · exact ⟨_, _, rfl⟩
theorem DG.base {w : World} {base base' : Nat} {v : Value} {g : List (List Int)} (h : DG w base v g) (hb : base' ≤ base) : DG w base' v g := by
  obtain ⟨u, vals, h1, h2, h3, h4⟩ := h
  exact ⟨u, vals, h1, h2, ownsRow_base h3 hb, ⟨fun j hj => ownsRow_base (h4.rows j hj) hb, h4.dis⟩⟩
theorem DG.setBox {w : World} {base b : Nat} {v x : Value} {g : List (List Int)} (h : DG w base v g) (hb : Box w b 29 x) (u : Value) : DG (w.setCell ⟨b, 0, none⟩ u) base v g := by
  obtain ⟨u0, vals, h1, h2, h3, h4⟩ := h
  exact ⟨u0, vals, h1, h2, ownsRow_setBox h3 hb (by decide) _, ⟨fun j hj => ownsRow_setBox (h4.rows j hj) hb (by decide) _, h4.dis⟩⟩

/-- The masks' rows. -/
def rowsOf (a : List Nat) : List (List Int) := a.map fun s => natInts (bitsOf s)
theorem rowsOf_length (a : List Nat) : (rowsOf a).length = a.length := by simp [rowsOf]
theorem row_rowsOf {a : List Nat} {j : Nat} (h : j < a.length) : row (rowsOf a) j = natInts (bitsOf a[j]) := by simp [row, rowsOf, h]
theorem rowsOf_indN {m : Nat} (hm : m ≤ 16) (E : Nat → Nat → Bool) : rowsOf (indN m E) = matG m E := by
  refine graph_ext (by rw [rowsOf_length, indN_length, matG_length]) fun j hj => ?_
  rw [rowsOf_length, indN_length] at hj
  rw [row_rowsOf (by rw [indN_length]; exact hj), ← indN_rows hm hj]
  have : (indN m E).getD j 0 = (indN m E)[j]'(by rw [indN_length]; exact hj) := by simp [indN_length, hj]
  rw [this]

theorem Dis.snoc {w W : World} {base k : Nat} {vals : List Value} {g : List (List Int)} {rv : Value} (h : Dis w base k vals g) (hl : vals.length = k)
    (hk : ∀ base size n v (xs : List Value), w.ownsRow base 2 size v n xs → W.ownsRow base 2 size v n xs)
    {B : Nat} (hB : base ≤ B) (hold : ∀ j, j < k → ∀ b, (vals.getD j undef).ownBlock = some b → b < B)
    (hn : w.ownsRow B 2 1 rv (row g k).length ((row g k).map (Value.int .i64))) : Dis W base (k + 1) (vals ++ [rv]) g := by
  have e1 : ∀ j, j < k → (vals ++ [rv]).getD j undef = vals.getD j undef := fun j hj => getD_append_left _ _ _ _ (by omega)
  have e2 : (vals ++ [rv]).getD k undef = rv := by rw [← hl]; exact getD_append_last _ _ _
  refine ⟨fun j hj => ?_, fun i j hi hj hne b hb => ?_⟩
  · by_cases e : j = k
    · subst e; rw [e2]; exact hk _ _ _ _ _ (ownsRow_base hn hB)
    · rw [e1 j (by omega)]; exact hk _ _ _ _ _ (h.rows j (by omega))
  · by_cases ei : i = k
    · subst ei
      rw [e2] at hb
      rw [e1 j (by omega)]
      intro hc
      have := hold j (by omega) b hc
      have := (hn.lt b hb).1
      omega
    · rw [e1 i (by omega)] at hb
      by_cases ej : j = k
      · subst ej
        rw [e2]
        intro hc
        have := hold i (by omega) b hb
        have := (hn.lt b hc).1
        omega
      · rw [e1 j (by omega)]
        exact h.dis i j (by omega) (by omega) hne b hb

set_option maxRecDepth 100000 in
set_option maxHeartbeats 4000000 in
theorem graph_any (x : Value) (a : List Nat) (ha : ∀ s ∈ a, s < 65536) (hal : a.length ≤ 1000) (w : World) (hx : Sl w 64 x a.length (a.map u32v)) (hT : Tab w) :
    Calls Tryd.prog 76 #[x] w fun e w' => ∃ u, e = .returned u ∧ DG w' w.heap.size u (rowsOf a) ∧ Below w.heap.size w w' := by
  obtain ⟨p, c, rfl, _⟩ := id hx
  have START := Lib.hid (two_boxes w)
  have HX := Lib.hid hx
  have HT := Lib.hid hT
  clear hx hT
  go_enter Tryd.func76, Tryd.ntmps76
  go_wp2
  go_loopw [9] (fun i wr => ∃ (k : Nat) (ov : Value) (vals : List Value), k ≤ a.length ∧ i = .int .i64 k ∧ Below w.heap.size w wr ∧ w.heap.size + 2 ≤ wr.heap.size ∧
      Box wr w.heap.size 29 (.slice none 0 0) ∧ Box wr (w.heap.size + 1) 29 ov ∧ wr.ownsRow (w.heap.size + 2) 32 1 ov k vals ∧ vals.length = k ∧ Dis wr (w.heap.size + 2) k vals (rowsOf a))
    (fun i _ => a.length - (intOf i).toNat)
  case atStart =>
    obtain ⟨W, rfl, h1, h2, h3, h4⟩ := START.out
    exact ⟨0, _, [], Nat.zero_le _, rfl, h1, by omega, h3, h4, World.ownsRow_nil _ _ _ _, rfl, ⟨fun j hj => by omega, fun i j hi => by omega⟩⟩
  case round =>
    obtain ⟨k, ov, vals, hk, rfl, hbel, hsz, hb2, hb3, hown, hvl, hrows⟩ := hrel
    have Hvl := Lib.hid hvl
    have Hrows := Lib.hid hrows
    have Hb2 := Lib.hid hb2
    have Hb3 := Lib.hid hb3
    have Hown := Lib.hid hown
    clear hvl hrows hb3 hb2 hown
    by_cases hlt : k < a.length
    · obtain ⟨ab, ao, rfl, hca⟩ := nets_cell (HX.out.below hbel) hlt
      have hs16 := ha _ (List.getElem_mem hlt)
      have HTr := Lib.hid (HT.out.keep hbel)
      have hrow := row_rowsOf hlt
      obtain ⟨c3, f3, _, _⟩ := Hb3.out
      obtain ⟨p9, c9, rfl⟩ : ∃ p c, ov = .slice p k c := by
        rcases Hown.out.2 with ⟨h1, h2⟩ | ⟨g1, cap, cur, h1, _⟩
        · exact ⟨none, 0, by rw [h1, h2]⟩
        · exact ⟨_, _, h1⟩
      have Hrow := Lib.hid hrow
      clear hrow
      go_upto_region 5 with fail
      go_region_law (first
        | (go_simp; go_at_call 45; refine (numbers_any _ a[k] rfl (by omega) _ (HTr.out.keep (below_dN (Below.refl _ _) 1))).mono ?_; rintro e w5 ⟨rv, rfl, hown5, hb5⟩; obtain ⟨rvp, rvc, hrv⟩ : ∃ p c, rv = .slice p (bitsOf a[k]).length c := (by rcases hown5.2 with ⟨rfl, h0⟩ | ⟨b, c, _, rfl, _⟩; exact ⟨none, 0, by rw [h0]⟩; exact ⟨_, _, rfl⟩); subst hrv; have hb5' : Below wr.heap.size wr w5 := ⟨hb5.os, hb5.tape, hb5.output, hb5.size, hb5.block⟩; have hown5' : w5.ownsRow wr.heap.size 2 1 (.slice rvp (bitsOf a[k]).length rvc) (bitsOf a[k]).length ((natInts (bitsOf a[k])).map (Value.int .i64)) := hown5; have hownc := ownsRow_below Hown.out hb5'; have hs5 := hb5'.size; have hbx5 := hb5'.at' c3; have hbx5a := fun o => (below_alloc w5 o).at' hbx5; clear hb5 hown5)
        | (refine step_app1s ty_rows rfl rfl rfl hownc rfl rfl (by omega) (by omega) ?_; intro b7 c8 w7 hown7 hg7; have hb7 := below_grown (Below.refl (w.heap.size + 2) w5) hownc hg7 (Nat.le_refl _) (by omega); have hob7 := hb7.at (by omega) hbx5; have hof7 := (hb7.frozen (p := ⟨w.heap.size + 1, 0, none⟩) (by show w.heap.size + 1 < _; omega)).trans ((hb5'.frozen (p := ⟨w.heap.size + 1, 0, none⟩) (by show w.heap.size + 1 < _; omega)).trans f3)))
      all_goals go_wp2
      all_goals go_roundw
      all_goals first
        | (simp [intOf]; omega)
        | skip
      all_goals
        obtain ⟨W, rfl, r1, r2, r3, r4, r5, r6⟩ := box_step hbel hsz hb5' Hb2.out Hb3.out Hown.out hown7 hg7
        refine ⟨k + 1, _, _, by omega, by go_num, r1, r2, r3, r4, r5, by simp [Hvl.out], ?_⟩
        have hd : Dis w5 (w.heap.size + 2) k vals (rowsOf a) := ⟨fun j hj => ownsRow_below (Hrows.out.rows j hj) hb5', Hrows.out.dis⟩
        refine hd.snoc Hvl.out r6 (B := wr.heap.size) (by omega) (fun j hj b hb => ((Hrows.out.rows j hj).lt b hb).2) ?_
        rw [Hrow.out, natInts_length]
        exact hown5'
    · obtain rfl : k = a.length := by omega
      obtain ⟨k2c, k2f, _⟩ := Hb2.out
      obtain ⟨k3c, k3f, _⟩ := Hb3.out
      obtain ⟨p9, c9, rfl⟩ : ∃ p c, ov = .slice p a.length c := by
        rcases Hown.out.2 with ⟨h1, h2⟩ | ⟨g1, cap, cur, h1, _⟩
        · exact ⟨none, 0, by rw [h1, h2]⟩
        · exact ⟨_, _, h1⟩
      go_wp2
      refine bodyPost_ret (v := .agg #[.slice p9 a.length c9]) (by simp [results, Tryd.results76, go_sem, k2c]) rfl ⟨_, rfl, ?_, ?_⟩
      · have : DG wr (w.heap.size + 2) (.agg #[.slice p9 a.length c9]) (rowsOf a) := ⟨_, vals, rfl, by rw [rowsOf_length]; exact Hvl.out, by rw [rowsOf_length]; exact Hown.out, by rw [rowsOf_length]; exact Hrows.out⟩
        exact (this.setBox Hb2.out _).base (by omega)
      · exact hbel.setCell (by show w.heap.size ≤ w.heap.size; omega) _

end Go.Proofs.YtfokiijcpkhllaaDoor

/- Walk: linking two vertices in a graph whose rows are the callee's own, each in a block of its own. -/
namespace Go.Proofs.YtfokiijcpkhllaaDoor
open Go.RowKit

structure LKD (w wr : World) (base ob c : Nat) (g : List (List Int)) (vals : List Value) : Prop where
  len : vals.length = g.length
  own : wr.ownsRow base 32 1 (.slice (some ⟨ob, 0, none⟩) g.length c) g.length vals
  rows : Dis wr base g.length vals g
  small : ∀ j, j < g.length → (row g j).length ≤ 100000
  low : base ≤ w.heap.size
  box : Box wr w.heap.size 29 (.slice (some ⟨ob, 0, none⟩) g.length c)
  res : Box wr (w.heap.size + 1) 29 (.slice none 0 0)
  grown : w.grownBy wr (some ob)
  lt : ob < w.heap.size

theorem LKD.nums {w wr : World} {base ob c : Nat} {g : List (List Int)} {vals : List Value} (h : LKD w wr base ob c g vals) (j : Nat) (hj : j < g.length) : Nums wr 2 .i64 (vals.getD j undef) (row g j) :=
  Nums.of_owns (h.rows.rows j hj) rfl (by have := h.small j hj; omega)
/-- A row behind the others is put in the place of one. -/
theorem Dis.put {wr w2 W : World} {base u : Nat} {g : List (List Int)} {vals : List Value} {rv : Value} {s : List Int} (h : Dis wr base g.length vals g) (hl : vals.length = g.length) (hu : u < g.length) (hb : Below wr.heap.size wr w2) (hB : base ≤ wr.heap.size)
    (hn : w2.ownsRow wr.heap.size 2 1 rv s.length (s.map (Value.int .i64)))
    (hW : ∀ base size n v (xs : List Value), w2.ownsRow base 2 size v n xs → W.ownsRow base 2 size v n xs) : Dis W base g.length (vals.set u rv) (g.set u s) := by
  have e1 : ∀ j, j ≠ u → (vals.set u rv).getD j undef = vals.getD j undef := fun j hj => by simp [show ¬ u = j from fun q => hj q.symm]
  have e2 : (vals.set u rv).getD u undef = rv := by simp [hl, hu]
  refine ⟨fun j hj => ?_, fun i j hi hj hne b hbi => ?_⟩
  · rw [row_set _ _ _ _ hu]
    by_cases e : j = u
    · subst e
      rw [if_pos rfl, e2]
      exact hW _ _ _ _ _ (ownsRow_base hn hB)
    · rw [if_neg e, e1 j e]
      exact hW _ _ _ _ _ (ownsRow_below (h.rows j hj) hb)
  · by_cases ei : i = u
    · subst ei
      rw [e2] at hbi
      rw [e1 j (fun e => hne e.symm)]
      intro hc
      have := (hn.lt b hbi).1
      have := ((h.rows j hj).lt b hc).2
      omega
    · rw [e1 i ei] at hbi
      by_cases ej : j = u
      · subst ej
        rw [e2]
        intro hc
        have := (hn.lt b hc).1
        have := ((h.rows i hi).lt b hbi).2
        omega
      · rw [e1 j ej]
        exact h.dis i j hi hj hne b hbi
theorem LKD.step {w wr w2 : World} {base ob c : Nat} {g : List (List Int)} {vals : List Value} (h : LKD w wr base ob c g vals) (hb : Below wr.heap.size wr w2) {rv : Value} {s : List Int} (hn : w2.ownsRow wr.heap.size 2 1 rv s.length (s.map (Value.int .i64))) (hs : s.length ≤ 100000) {u : Nat} (hu : u < g.length) :
    LKD w (w2.setCell ⟨ob, u, none⟩ rv) base ob c (g.set u s) (vals.set u rv) := by
  have ho := ownsRow_below h.own hb
  obtain ⟨ho2, hg2⟩ := ho.stored u rv
  have hl := h.lt
  refine ⟨by simp [h.len], by rw [List.length_set]; exact ho2, ?_, fun j hj => ?_, h.low, ?_, ?_, grown_trans (grown_trans h.grown (grown_of_below hb _)) hg2, hl⟩
  · rw [List.length_set]
    exact h.rows.put h.len hu hb (Nat.le_trans h.low h.grown.size) hn fun base size n v xs hx => ownsRow_other hx ho hg2 (by decide)
  · rw [List.length_set] at hj
    rw [row_set _ _ _ _ hu]
    split
    · exact hs
    · exact h.small j hj
  · rw [List.length_set]
    exact (h.box.keep hb).setOther (by show w.heap.size ≠ ob; omega) _
  · exact (h.res.keep hb).setOther (by show w.heap.size + 1 ≠ ob; omega) _

set_option maxRecDepth 100000 in
set_option maxHeartbeats 4000000 in
theorem l1LinkD_any (p : Option Addr) (c : Nat) (g : List (List Int)) (y z : Int) (u k base : Nat) (hy : y = u) (hz : z = k) (hu : u < g.length) (hk : k < g.length) (huk : u ≠ k) (hn1 : (k : Int) ∉ row g u) (hn2 : (u : Int) ∉ row g k) (hr : ∀ j, j < g.length → (row g j).length ≤ 1000) (w : World)
    (hs : DG w base (.agg #[.slice p g.length c]) g) :
    Calls Tryd.prog 104 #[.agg #[.slice p g.length c], .int .i64 y, .int .i64 z] w fun e w' => e = .returned (.agg #[.slice p g.length c]) ∧ DG w' base (.agg #[.slice p g.length c]) (linkL g u k) ∧ w.grownBy w' (Value.slice p g.length c).ownBlock := by
  subst hy; subst hz
  obtain ⟨_, vals, h1, hl, ho, hrows⟩ := hs
  cases h1
  obtain ⟨ob, rfl⟩ : ∃ ob, p = some ⟨ob, 0, none⟩ := by
    rcases ho.2 with ⟨_, h0⟩ | ⟨b, cc, _, h1, _⟩
    · omega
    · simp only [Value.slice.injEq] at h1
      exact ⟨b, h1.1⟩
  have hlt := (ho.lt ob rfl).2
  have hbb := below_alloc2 w (.cells #[.slice (some ⟨ob, 0, none⟩) g.length c] 29) (.cells #[.slice none 0 0] 29)
  have START : Hid (LKD w ((w.alloc (.cells #[.slice (some ⟨ob, 0, none⟩) g.length c] 29)).alloc (.cells #[.slice none 0 0] 29)) base ob c g vals) := Lib.hid
    ⟨hl, ownsRow_below ho hbb, ⟨fun j hj => ownsRow_below (hrows.rows j hj) hbb, hrows.dis⟩, fun j hj => by have := hr j hj; omega, (by have := ho.lt ob rfl; omega), (Box.new _ _ _).alloc _, by have := Box.new (w.alloc (.cells #[.slice (some ⟨ob, 0, none⟩) g.length c] 29)) (.slice none 0 0) 29; rw [size_alloc] at this; exact this, grown_of_below hbb _, hlt⟩
  have HR := Lib.hid hr
  have HN1 := Lib.hid hn1
  have HN2 := Lib.hid hn2
  clear hl ho hrows hbb hr hn1 hn2
  go_enter Tryd.func104, Tryd.ntmps104
  go_upto_region 1 with fail
  generalize hW : (w.alloc (.cells #[.slice (some ⟨ob, 0, none⟩) g.length c] 29)).alloc (.cells #[.slice none 0 0] 29) = W at *
  clear hW
  obtain ⟨bc, bf, _, _⟩ := START.out.box
  obtain ⟨rp, rc, hrs, _⟩ := (START.out.nums u hu).shape
  have hcu := START.out.own.cellAt u (by omega)
  have hv0 := get_getD vals u undef (by rw [START.out.len]; exact hu)
  rw [hv0, hrs] at hcu
  have hnu := Lib.hid (START.out.nums u hu)
  rw [hrs] at hnu
  have hru := HR.out u hu
  clear hv0 hrs
  go_cut [] (fun wx => ∃ rv, LKD w wx base ob c (g.set u (intoL (row g u) k)) (vals.set u rv))
  case first =>
    go_region_law (first | (go_simp; go_at_call 115; refine (l1IntoNew_any _ (row g u) k (by omega) HN1.out _ (hnu.out.below (below_dN (Below.refl _ _) 1))).mono ?_; rintro e w2 ⟨rv, rfl, hn2, hb2⟩; obtain ⟨rvp, rvc, rfl⟩ := owns_shapeR hn2; have hb2' : Below W.heap.size W w2 := (below_dN (Below.refl _ _) 1).trans hb2; have hf2 := (ownsRow_below START.out.own hb2').frozenAt u; have hc2 := hb2'.at' hcu; have hbc2 := hb2'.at' bc))
    all_goals go_wp2
    all_goals go_meet
    all_goals exact ⟨_, START.out.step hb2' hn2 (by have := intoL_length (row g u) k; omega) hu⟩
  case rest =>
    obtain ⟨rv0, hlk⟩ := hcut
    have HL := Lib.hid hlk
    have hk' : k < (g.set u (intoL (row g u) k)).length := by simpa using hk
    obtain ⟨bc, bf, _, _⟩ := hlk.box
    obtain ⟨rp, rc, hrs, _⟩ := (hlk.nums k hk').shape
    have hcu := hlk.own.cellAt k (by omega)
    have hv0 := get_getD (vals.set u rv0) k undef (by rw [hlk.len]; exact hk')
    rw [hv0, hrs] at hcu
    have hnu := Lib.hid (hlk.nums k hk')
    rw [hrs] at hnu
    have hl1 : (g.set u (intoL (row g u) k)).length = g.length := by simp
    have hru : (row (g.set u (intoL (row g u) k)) k).length ≤ 2000 := by
      rw [row_set _ _ _ _ hu]
      split
      · have := intoL_length (row g u) k; have := HR.out u hu; omega
      · have := HR.out k hk; omega
    rw [hl1] at bc
    clear hv0 hrs hlk
    have HNR : Hid ((u : Int) ∉ row (g.set u (intoL (row g u) k)) k) := Lib.hid (by rw [row_set _ _ _ _ hu, if_neg (fun e => huk e.symm)]; exact HN2.out)
    generalize hr1 : row (g.set u (intoL (row g u) k)) k = r1 at hru hcu hnu HNR
    go_upto_region 2 with fail
    go_cut [] (fun wx => ∃ rv, LKD w wx base ob c (linkL g u k) ((vals.set u rv0).set k rv))
    case first =>
      go_region_law (first | (go_simp; go_at_call 115; refine (l1IntoNew_any _ r1 u (by omega) HNR.out _ (hnu.out.below (below_dN (Below.refl _ _) 1))).mono ?_; rintro e w2 ⟨rv, rfl, hn2, hb2⟩; obtain ⟨rvp, rvc, rfl⟩ := owns_shapeR hn2; have hb2' : Below wc.heap.size wc w2 := (below_dN (Below.refl _ _) 1).trans hb2; have hf2 := (ownsRow_below HL.out.own hb2').frozenAt k; have hc2 := hb2'.at' hcu; have hbc2 := hb2'.at' bc))
      all_goals go_wp2
      all_goals go_meet
      all_goals exact ⟨_, by rw [show linkL g u k = (g.set u (intoL (row g u) k)).set k (intoL r1 u) from by unfold linkL; rw [hr1]]; exact HL.out.step hb2' hn2 (by have := intoL_length r1 u; omega) hk'⟩
    case rest =>
      obtain ⟨rv1, hlk⟩ := hcut
      have HL2 := Lib.hid hlk
      obtain ⟨bc, bf, _, _⟩ := hlk.box
      obtain ⟨k2c, k2f, _⟩ := hlk.res
      rw [linkL_length] at bc
      clear hlk
      go_wp2
      refine bodyPost_ret (v := .agg #[.slice (some ⟨ob, 0, none⟩) g.length c]) (by simp [results, Tryd.results104, go_sem, k2c]) rfl ⟨rfl, ⟨_, _, rfl, HL2.out.len, ?_, ⟨fun j hj => ownsRow_setBox (HL2.out.rows.rows j (by rw [linkL_length] at hj ⊢; exact hj)) HL2.out.res (by decide) _, fun i j hi hj => HL2.out.rows.dis i j (by rw [linkL_length] at hi ⊢; exact hi) (by rw [linkL_length] at hj ⊢; exact hj)⟩⟩, ?_⟩
      · exact ownsRow_setBox (by have := HL2.out.own; rw [linkL_length] at this ⊢; exact this) HL2.out.res (by decide) _
      · have hlt' := HL2.out.lt
        refine ⟨HL2.out.grown.os, HL2.out.grown.tape, HL2.out.grown.output, by have := HL2.out.grown.size; simpa [World.setCell] using this, fun b hb hne => ?_⟩
        rw [Below.heap_setCell _ _ _ _ (by show b ≠ w.heap.size + 1; omega)]
        exact HL2.out.grown.block b hb hne

end Go.Proofs.YtfokiijcpkhllaaDoor

/- Walks: the reference's draws: a cursor made (l1New), numbers (l1Odd, l1Min, l1Num). -/
namespace Go.Proofs.YtfokiijcpkhllaaDoor
open Go.RowKit

theorem lit_nums (w : World) (xs : List Int) (hl : xs.length ≤ 1000) : Nums (w.alloc (.cells (xs.map (Value.int .i64)).toArray 2)) 2 .i64 (.slice (some ⟨w.heap.size, 0, none⟩) xs.length xs.length) xs := by
  have := World.ownsRow_lit w (xs.map (Value.int .i64)).toArray xs.length (base := w.heap.size) (e := 2) (size := 1) (Nat.le_refl _) (by unfold maxLen; omega) (by simp)
  exact Nums.of_owns (by simpa using this) rfl (by omega)

end Go.Proofs.YtfokiijcpkhllaaDoor

/- Plain: edges cut; bridges; the parts without them. -/
namespace Go.Proofs.YtfokiijcpkhllaaDoor

def cutE (E : Nat → Nat → Bool) (p q : Nat) : Nat → Nat → Bool := fun r j => E r j && !((r == p && j == q) || (r == q && j == p))
theorem cutE_sym {E : Nat → Nat → Bool} (h : ∀ r j, E r j = true → E j r = true) (p q : Nat) (r j : Nat) (he : cutE E p q r j = true) : cutE E p q j r = true := by
  simp only [cutE, Bool.and_eq_true, Bool.not_eq_true', Bool.or_eq_false_iff, Bool.and_eq_false_iff, beq_eq_false_iff_ne] at he ⊢
  obtain ⟨h1, h2, h3⟩ := he
  refine ⟨h _ _ h1, ?_, ?_⟩
  · rcases h3 with h3 | h3
    · exact .inr h3
    · exact .inl h3
  · rcases h2 with h2 | h2
    · exact .inr h2
    · exact .inl h2
theorem cutE_irr {E : Nat → Nat → Bool} (h : ∀ r, E r r = false) (p q r : Nat) : cutE E p q r r = false := by simp [cutE, h r]

/-- Two vertices are made no neighbours. -/
def partN (a : List Nat) (u v : Nat) : List Nat := let b := a.set u (sub (a.getD u 0) (2 ^ v)); b.set v (sub (b.getD v 0) (2 ^ u))
theorem partN_length (a : List Nat) (u v : Nat) : (partN a u v).length = a.length := by simp [partN]
theorem partN_indN {n : Nat} (hn : n ≤ 16) {E : Nat → Nat → Bool} {u v : Nat} (hu : u < n) (hv : v < n) (huv : u ≠ v) : partN (indN n E) u v = indN n (cutE E u v) := by
  have hl := indN_length n E
  have h16 := indN_lt16 (E := E) hn
  refine natList_ext (by rw [partN_length, hl, indN_length]) fun r hr => ?_
  rw [partN_length, hl] at hr
  have e : (partN (indN n E) u v).getD r 0 = if r = v then sub ((indN n E).getD v 0) (2 ^ u) else if r = u then sub ((indN n E).getD u 0) (2 ^ v) else (indN n E).getD r 0 := by
    unfold partN
    rw [getD_set _ _ _ _ (by rw [List.length_set, hl]; exact hv)]
    by_cases e : r = v
    · subst e
      rw [if_pos rfl, if_pos rfl, getD_set _ _ _ _ (by rw [hl]; exact hu), if_neg (fun q => huv q.symm)]
    · rw [if_neg e, if_neg e, getD_set _ _ _ _ (by rw [hl]; exact hu)]
  rw [e]
  refine Nat.eq_of_testBit_eq fun j => ?_
  rw [Bool.eq_iff_iff, indN_bit hr]
  by_cases e1 : r = v
  · subst e1
    rw [if_pos rfl, testBit_sub1 (lt16_getD h16 _) (by omega), indN_bit hr]
    simp only [cutE, Bool.and_eq_true, decide_eq_true_eq, Bool.not_eq_true', Bool.or_eq_false_iff, Bool.and_eq_false_iff, beq_eq_false_iff_ne, ne_eq]
    constructor
    · rintro ⟨⟨h1, h2⟩, h3⟩; exact ⟨h1, h2, .inl (fun q => huv q.symm), .inr h3⟩
    · rintro ⟨h1, h2, _, h3⟩
      exact ⟨⟨h1, h2⟩, fun q => by rcases h3 with h3 | h3; exact h3 trivial; exact h3 q⟩
  · rw [if_neg e1]
    by_cases e2 : r = u
    · subst e2
      rw [if_pos rfl, testBit_sub1 (lt16_getD h16 _) (by omega), indN_bit hr]
      simp only [cutE, Bool.and_eq_true, decide_eq_true_eq, Bool.not_eq_true', Bool.or_eq_false_iff, Bool.and_eq_false_iff, beq_eq_false_iff_ne, ne_eq]
      constructor
      · rintro ⟨⟨h1, h2⟩, h3⟩; exact ⟨h1, h2, .inr h3, .inl e1⟩
      · rintro ⟨h1, h2, h3, _⟩
        exact ⟨⟨h1, h2⟩, fun q => by rcases h3 with h3 | h3; exact h3 trivial; exact h3 q⟩
    · rw [if_neg e2, indN_bit hr]
      have a1 : (r == u) = false := by simpa using e2
      have a2 : (r == v) = false := by simpa using e1
      simp [cutE, a1, a2]
theorem joinL_cut {n : Nat} {E : Nat → Nat → Bool} {u v : Nat} (hu : u < n) (hv : v < n) (huv : u ≠ v) (h1 : E u v = true) (h2 : E v u = true) : joinL (indN n (cutE E u v)) u v = indN n E := by
  refine natList_ext (by rw [joinL_length, indN_length, indN_length]) fun r hr => ?_
  rw [joinL_length, indN_length] at hr
  refine Nat.eq_of_testBit_eq fun j => ?_
  rw [Bool.eq_iff_iff, joinL_testBit (by rw [indN_length]; exact hu) (by rw [indN_length]; exact hv) huv, indN_bit hr, indN_bit hr]
  simp only [cutE, Bool.and_eq_true, decide_eq_true_eq, Bool.not_eq_true', Bool.or_eq_false_iff, Bool.and_eq_false_iff, beq_eq_false_iff_ne, ne_eq]
  constructor
  · rintro (⟨a, b, _⟩ | ⟨rfl, rfl⟩ | ⟨rfl, rfl⟩)
    · exact ⟨a, b⟩
    · exact ⟨hv, h1⟩
    · exact ⟨hu, h2⟩
  · rintro ⟨a, b⟩
    by_cases c1 : r = u ∧ j = v
    · exact .inr (.inl c1)
    · by_cases c2 : r = v ∧ j = u
      · exact .inr (.inr c2)
      · refine .inl ⟨a, b, ?_, ?_⟩
        · by_cases q : r = u
          · exact .inr fun q2 => c1 ⟨q, q2⟩
          · exact .inl q
        · by_cases q : r = v
          · exact .inr fun q2 => c2 ⟨q, q2⟩
          · exact .inl q

/-- The edges, in order. -/
def edRow (n : Nat) (E : Nat → Nat → Bool) (u : Nat) : List (Nat × Nat) := ((List.range n).filter fun v => decide (u < v) && E u v).map fun v => (u, v)
def edN (n : Nat) (E : Nat → Nat → Bool) (k : Nat) : List (Nat × Nat) := (List.range k).flatMap (edRow n E)
theorem edN_succ (n : Nat) (E : Nat → Nat → Bool) (k : Nat) : edN n E (k + 1) = edN n E k ++ edRow n E k := by simp [edN, List.range_succ, List.flatMap_append]
theorem mem_edN {n : Nat} {E : Nat → Nat → Bool} {k : Nat} (hk : k ≤ n) {e : Nat × Nat} (h : e ∈ edN n E k) : e.1 < n ∧ e.2 < n ∧ e.1 < e.2 ∧ E e.1 e.2 = true := by
  simp only [edN, edRow, List.mem_flatMap, List.mem_range, List.mem_map, List.mem_filter, Bool.and_eq_true, decide_eq_true_eq] at h
  obtain ⟨u, hu, v, ⟨hv, h1, h2⟩, rfl⟩ := h
  exact ⟨by show u < n; omega, hv, h1, h2⟩
theorem edRow_length (n : Nat) (E : Nat → Nat → Bool) (u : Nat) : (edRow n E u).length ≤ n := by
  simp only [edRow, List.length_map]
  exact Nat.le_trans (List.length_filter_le _ _) (by simp)
theorem edN_length (n : Nat) (E : Nat → Nat → Bool) : ∀ k, (edN n E k).length ≤ k * n
  | 0 => by simp [edN]
  | k + 1 => by
    rw [edN_succ, List.length_append]
    have h1 := edN_length n E k
    have h2 := edRow_length n E k
    have : (k + 1) * n = k * n + n := Nat.succ_mul k n
    omega

/-- No way between the ends of an edge without it. -/
def Brd (n : Nat) (E : Nat → Nat → Bool) (e : Nat × Nat) : Prop := ¬ Rch (cutE E e.1 e.2) (· ∈ List.range n) e.1 e.2
noncomputable def brdL (n : Nat) (E : Nat → Nat → Bool) (l : List (Nat × Nat)) : List (Nat × Nat) := l.filter fun e => dec (Brd n E e)
theorem brdL_snoc (n : Nat) (E : Nat → Nat → Bool) (l : List (Nat × Nat)) (e : Nat × Nat) : brdL n E (l ++ [e]) = if dec (Brd n E e) = true then brdL n E l ++ [e] else brdL n E l := by
  unfold brdL
  rw [List.filter_append]
  by_cases h : dec (Brd n E e) = true
  · rw [if_pos h]; simp [List.filter_cons, h]
  · rw [if_neg h]; simp [List.filter_cons, h]
theorem brdL_length (n : Nat) (E : Nat → Nat → Bool) (l : List (Nat × Nat)) : (brdL n E l).length ≤ l.length := List.length_filter_le _ _
theorem mem_brdL {n : Nat} {E : Nat → Nat → Bool} {l : List (Nat × Nat)} {e : Nat × Nat} (h : e ∈ brdL n E l) : e ∈ l := (List.mem_filter.1 h).1
def cutAll (E : Nat → Nat → Bool) (l : List (Nat × Nat)) : Nat → Nat → Bool := l.foldl (fun E e => cutE E e.1 e.2) E
theorem cutAll_snoc (E : Nat → Nat → Bool) (l : List (Nat × Nat)) (e : Nat × Nat) : cutAll E (l ++ [e]) = cutE (cutAll E l) e.1 e.2 := by simp [cutAll]
theorem cutAll_sym {E : Nat → Nat → Bool} (h : ∀ r j, E r j = true → E j r = true) (l : List (Nat × Nat)) : ∀ r j, cutAll E l r j = true → cutAll E l j r = true := by
  induction l generalizing E with
  | nil => exact h
  | cons e l ih => exact ih (cutE_sym h _ _)
theorem cutAll_irr {E : Nat → Nat → Bool} (h : ∀ r, E r r = false) (l : List (Nat × Nat)) : ∀ r, cutAll E l r r = false := by
  induction l generalizing E with
  | nil => exact h
  | cons e l ih => exact ih (cutE_irr h _ _)

/-- Pairs, as rows. -/
def prsL (l : List (Nat × Nat)) : List (List Int) := l.map fun e => [(e.1 : Int), (e.2 : Int)]
theorem prsL_length (l : List (Nat × Nat)) : (prsL l).length = l.length := by simp [prsL]
theorem prsL_snoc (l : List (Nat × Nat)) (e : Nat × Nat) : prsL (l ++ [e]) = prsL l ++ [[(e.1 : Int), (e.2 : Int)]] := by simp [prsL]

/-- What EdgeParts returns. -/
def EpS (g : List (List Int)) (gg : List (List Int)) : Prop :=
  (GOk g ∧ ∃ ps, Parts (cutAll (ofG g) (brdL g.length (ofG g) (edN g.length (ofG g) g.length))) (List.range g.length) ps ∧ gg = ps.map natInts) ∨ (¬ GOk g ∧ gg = [])
theorem epS_det {g gg hh : List (List Int)} (h : EpS g gg) (h2 : EpS g hh) : gg = hh := by
  rcases h with ⟨hg, ps, h, rfl⟩ | ⟨hg, rfl⟩ <;> rcases h2 with ⟨hg2, qs, h2, rfl⟩ | ⟨hg2, rfl⟩
  · rw [parts_det h h2]
  · exact absurd hg hg2
  · exact absurd hg2 hg
  · rfl

end Go.Proofs.YtfokiijcpkhllaaDoor
