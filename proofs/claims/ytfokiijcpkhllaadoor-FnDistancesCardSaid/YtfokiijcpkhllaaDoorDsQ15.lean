/- Walks: graphs that the reference makes. -/
import Derived.Test.YtfokiijcpkhllaaDoorDsQ10
import Derived.Test.YtfokiijcpkhllaaDoorDsQ11
import Derived.Test.YtfokiijcpkhllaaDoorDsQ4
import Derived.Test.YtfokiijcpkhllaaDoorDsQ6
import Derived.Test.YtfokiijcpkhllaaDoorDsQ7
import Derived.Test.YtfokiijcpkhllaaDoorDsQ13
import Derived.Deep.RegionLaw
namespace Go.Proofs.YtfokiijcpkhllaaDoor
open Go.RowKit

/-- v is a graph whose outer row is the callee's own; its rows are read alone. -/
def SG (w : World) (base : Nat) (v : Value) (g : List (List Int)) : Prop :=
  ∃ u vals, v = .agg #[u] ∧ vals.length = g.length ∧ w.ownsRow base 32 1 u g.length vals ∧ ∀ j, j < g.length → Nums w 2 .i64 (vals.getD j undef) (row g j)
theorem SG.below {w w' : World} {base : Nat} {v : Value} {g : List (List Int)} (h : SG w base v g) (hb : Below w.heap.size w w') : SG w' base v g := by
  obtain ⟨u, vals, h1, h2, h3, h4⟩ := h
  exact ⟨u, vals, h1, h2, ownsRow_below h3 hb, fun j hj => (h4 j hj).below hb⟩
theorem SG.gr {w : World} {base : Nat} {v : Value} {g : List (List Int)} (h : SG w base v g) (hn : g.length ≤ 1000000000) : Gr w v g := by
  obtain ⟨u, vals, rfl, h2, h3, h4⟩ := h
  exact ⟨u, rfl, Rws.of_owned vals h2 h3 hn h4⟩
theorem SG.shape {w : World} {base : Nat} {v : Value} {g : List (List Int)} (h : SG w base v g) : ∃ p c, v = .agg #[.slice p g.length c] := by
  obtain ⟨u, vals, rfl, h2, h3, h4⟩ := h
  rcases h3.2 with ⟨rfl, h0⟩ | ⟨b, c, _, rfl, _⟩
  · exact ⟨none, 0, by rw [h0]⟩
  · exact ⟨_, _, rfl⟩

/-- Two boxes of a graph: the result's, and the one that grows. -/
theorem two_boxes (w : World) : ∃ W, W = (w.alloc (.cells #[.slice none 0 0] 29)).alloc (.cells #[.slice none 0 0] 29) ∧ Below w.heap.size w W ∧ W.heap.size = w.heap.size + 2 ∧
    Box W w.heap.size 29 (.slice none 0 0) ∧ Box W (w.heap.size + 1) 29 (.slice none 0 0) := by
  refine ⟨_, rfl, below_alloc2 _ _ _, by rw [size_alloc, size_alloc], (Box.new w _ _).alloc _, ?_⟩
  have := Box.new (w.alloc (.cells #[.slice none 0 0] 29)) (.slice none 0 0) 29
  rw [size_alloc] at this
  exact this

/-- What a round leaves that puts a row behind the others. -/
theorem box_step {w wr wc w7 : World} {k b7 c8 : Nat} {ov x rv : Value} {vals : List Value}
    (hbel : Below w.heap.size w wr) (hsz : w.heap.size + 2 ≤ wr.heap.size) (hbc : Below wr.heap.size wr wc)
    (hb2 : Box wr w.heap.size 29 x) (hb3 : Box wr (w.heap.size + 1) 29 ov) (hown : wr.ownsRow (w.heap.size + 2) 32 1 ov k vals)
    (hown7 : w7.ownsRow (w.heap.size + 2) 32 1 (.slice (some ⟨b7, 0, none⟩) (k + 1) c8) (k + 1) (vals ++ [rv])) (hg7 : wc.grownBy w7 ov.ownBlock) :
    ∃ W, W = w7.setCell ⟨w.heap.size + 1, 0, none⟩ (.slice (some ⟨b7, 0, none⟩) (k + 1) c8) ∧
      Below w.heap.size w W ∧ w.heap.size + 2 ≤ W.heap.size ∧ Box W w.heap.size 29 x ∧ Box W (w.heap.size + 1) 29 (.slice (some ⟨b7, 0, none⟩) (k + 1) c8) ∧ W.ownsRow (w.heap.size + 2) 32 1 (.slice (some ⟨b7, 0, none⟩) (k + 1) c8) (k + 1) (vals ++ [rv]) ∧
      (∀ base size n v (xs : List Value), wc.ownsRow base 2 size v n xs → W.ownsRow base 2 size v n xs) := by
  have hownc := ownsRow_below hown hbc
  have hszc := hbc.size
  have hsz7 := hg7.size
  have hb7 : Below (w.heap.size + 2) wc w7 := below_grown (Below.refl _ _) hownc hg7 (Nat.le_refl _) (by omega)
  have hb37 : Box w7 (w.heap.size + 1) 29 ov := (hb3.keep hbc).below hb7 (by omega)
  have hb9 : Below (w.heap.size + 1) w7 (w7.setCell ⟨w.heap.size + 1, 0, none⟩ (.slice (some ⟨b7, 0, none⟩) (k + 1) c8)) := (Below.refl _ _).setCell (by show w.heap.size + 1 ≤ w.heap.size + 1; omega) _
  have hall : Below (w.heap.size + 1) wr (w7.setCell ⟨w.heap.size + 1, 0, none⟩ (.slice (some ⟨b7, 0, none⟩) (k + 1) c8)) := ((hbc.mono (by omega)).trans (hb7.mono (by omega))).trans hb9
  refine ⟨_, rfl, hbel.trans (hall.mono (by omega)), by have := hall.size; omega, hb2.below hall (by omega), hb37.set _, ownsRow_setBox hown7 hb37 (by decide) _, fun base size n v xs h => ?_⟩
  exact ownsRow_setBox (ownsRow_other h hownc hg7 (by decide)) hb37 (by decide) _

set_option maxRecDepth 100000 in
set_option maxHeartbeats 2000000 in
theorem l1Empty_any (z : Int) (n : Nat) (hz : z = n) (hn : n ≤ 1000) (w : World) :
    Calls Tryd.prog 102 #[.int .i64 z] w fun e w' => ∃ u, e = .returned u ∧ SG w' w.heap.size u (List.replicate n []) ∧ Below w.heap.size w w' := by
  subst hz
  have START := Lib.hid (two_boxes w)
  go_enter Tryd.func102, Tryd.ntmps102
  go_wp2
  go_loopw [4] (fun i wr => ∃ (k : Nat) (ov : Value) (vals : List Value), k ≤ n ∧ i = .int .i64 k ∧ Below w.heap.size w wr ∧ w.heap.size + 2 ≤ wr.heap.size ∧
      Box wr w.heap.size 29 (.slice none 0 0) ∧ Box wr (w.heap.size + 1) 29 ov ∧ wr.ownsRow (w.heap.size + 2) 32 1 ov k vals ∧ vals.length = k ∧ ∀ j, j < k → ∃ a, vals.getD j undef = .slice (some a) 0 0)
    (fun i _ => n - (intOf i).toNat)
  case atStart =>
    obtain ⟨W, rfl, h1, h2, h3, h4⟩ := START.out
    exact ⟨0, _, [], Nat.zero_le _, rfl, h1, by omega, h3, h4, World.ownsRow_nil _ _ _ _, rfl, fun j hj => by omega⟩
  case round =>
    obtain ⟨k, ov, vals, hk, rfl, hbel, hsz, hb2, hb3, hown, hvl, hrows⟩ := hrel
    have Hvl := Lib.hid hvl
    have Hrows := Lib.hid hrows
    have Hb2 := Lib.hid hb2
    have Hb3 := Lib.hid hb3
    have Hown := Lib.hid hown
    clear hvl hrows hb3 hb2 hown
    by_cases hlt : k < n
    · have hba := Lib.hid (below_alloc wr (.cells #[] 2))
      have hownc := ownsRow_below Hown.out hba.out
      obtain ⟨c3, f3, _, _⟩ := Hb3.out
      have hob := fun o => (below_alloc2 wr (.cells #[] 2) o).at' c3
      go_wp2_with (at_builtin; refine wpList_app1s ty_rows rfl rfl rfl hownc (by rw [size_alloc]; rfl) rfl (by omega) (by rw [size_alloc]; omega) ?_; intro b7 c8 w7 hown7 hg7 _; have hb7 := below_grown (Below.refl (w.heap.size + 2) (wr.alloc (.cells #[] 2))) hownc hg7 (Nat.le_refl _) (by rw [size_alloc]; omega); have hob7 := hb7.at (by omega) ((below_alloc wr (.cells #[] 2)).at' c3); have hof7 := (hb7.frozen (p := ⟨w.heap.size + 1, 0, none⟩) (by show w.heap.size + 1 < _; omega)).trans (((below_alloc wr (.cells #[] 2)).frozen (p := ⟨w.heap.size + 1, 0, none⟩) (by show w.heap.size + 1 < _; omega)).trans f3))
      go_roundw
      case rel =>
        obtain ⟨W, rfl, r1, r2, r3, r4, r5, _⟩ := box_step hbel hsz hba.out Hb2.out Hb3.out Hown.out hown7 hg7
        refine ⟨k + 1, _, _, by omega, by go_num, r1, r2, r3, r4, r5, by simp [Hvl.out], fun j hj => ?_⟩
        by_cases e : j = k
        · subst e
          exact ⟨_, by rw [← Hvl.out]; exact getD_append_last _ _ _⟩
        · rw [getD_append_left _ _ _ _ (by have := Hvl.out; omega)]
          exact Hrows.out j (by omega)
      case measure => simp [intOf]; omega
    · obtain rfl : k = n := by omega
      obtain ⟨k2c, k2f, _⟩ := Hb2.out
      obtain ⟨k3c, k3f, _⟩ := Hb3.out
      obtain ⟨p9, c9, rfl⟩ : ∃ p c, ov = .slice p k c := by
        rcases Hown.out.2 with ⟨h1, h2⟩ | ⟨g1, cap, cur, h1, _⟩
        · exact ⟨none, 0, by rw [h1, h2]⟩
        · exact ⟨_, _, h1⟩
      go_wp2
      refine bodyPost_ret (v := .agg #[.slice p9 k c9]) (by simp [results, Tryd.results102, go_sem, k2c]) rfl ⟨_, rfl, ⟨_, vals, rfl, by simpa using Hvl.out, ?_, fun j hj => ?_⟩, ?_⟩
      · rw [List.length_replicate]; exact ownsRow_base (ownsRow_setBox Hown.out Hb2.out (by decide) (.slice p9 k c9)) (by omega)
      · rw [List.length_replicate] at hj
        obtain ⟨a, ha⟩ := Hrows.out j hj
        rw [ha, show row (List.replicate k ([] : List Int)) j = [] by simp [row, hj]]
        exact Sl.nothing _ _ _ _ (by simp)
      · exact hbel.setCell (by show w.heap.size ≤ w.heap.size; omega) _

set_option maxRecDepth 100000 in
theorem l1Edge_any (v : Value) (g : List (List Int)) (y z : Int) (u k : Nat) (hy : y = u) (hz : z = k) (hu : u < g.length) (w : World) (hg : Gr w v g) :
    Calls Tryd.prog 116 #[v, .int .i64 y, .int .i64 z] w fun e w' => e = .returned (.bool (dec ((k : Int) ∈ row g u))) ∧ Below w.heap.size w w' := by
  subst hy; subst hz
  obtain ⟨u0, rfl, hr⟩ := hg
  obtain ⟨p, c, rfl, _, _, hn⟩ := hr.shape
  have hb := below_alloc w (.cells #[.slice p g.length c] 29)
  obtain ⟨b, o, rp, rc, rfl, hcell, hnums⟩ := (hr.below hb).get hu
  change World.cell? _ _ = some (.slice rp (row g u).length rc) at hcell
  change Nums _ _ _ (.slice rp (row g u).length rc) (row g u) at hnums
  have Hb := Lib.hid hb
  clear hb hr
  go_enter Tryd.func116, Tryd.ntmps116
  go_wp2_with (go_at_call 66; refine (l1Has_any _ _ k _ hnums).mono ?_; rintro e w2 ⟨rfl, rfl⟩)
  go_ret
  exact ⟨rfl, Hb.out⟩

end Go.Proofs.YtfokiijcpkhllaaDoor

/- Walks: the program's graph of some vertices; a graph made of masks. -/
namespace Go.Proofs.YtfokiijcpkhllaaDoor
open Go.RowKit

theorem step_app1s {P : Program} {T E : TypeId} {z : Value} {bytes : Nat} (S : SlTy P T E z 1 bytes) {w : World} {ops : Array Oper} {o : Oper} {a : Act} {K : Act → World → Prop} {Q : Exit → Act → World → Prop} {F : Prop}
    (hgd : o.guard = none) {s x : Operand} (ho : o.op = .call { callee := .builtin .append, args := #[s, x], argTypes := #[T, T] })
    {base : Nat} {v : Value} {n : Nat} {xs : List Value} {el : Value} (hs : a.eval s = v) (hown : w.ownsRow base E 1 v n xs)
    (hx : a.eval x = .slice (some ⟨w.heap.size, 0, none⟩) 1 1) (h1 : el.oneCell' = true)
    (hnm : n < 1000000000) (hbase : base ≤ w.heap.size)
    (h : ∀ b c w', w'.ownsRow base E 1 (.slice (some ⟨b, 0, none⟩) (n + 1) c) (n + 1) (xs ++ [el]) → w.grownBy w' v.ownBlock → K (a.put o.dst (.slice (some ⟨b, 0, none⟩) (n + 1) c)) w') :
    if Region.wanted o (yielded ops a.tmps) = true then Oper.wp P o a (w.alloc (.cells #[el] E)) K Q else F := by
  have hw : Region.wanted o (yielded ops a.tmps) = true := by simp [Region.wanted, hgd]
  rw [if_pos hw]
  have hal : (w.alloc (.cells #[el] E)).heap.size = w.heap.size + 1 := by show (w.heap.push _).size = _; simp
  have hu : Sl (w.alloc (.cells #[el] E)) E (.slice (some ⟨w.heap.size, 0, none⟩) 1 1) 1 [el] := by
    refine ⟨_, 1, rfl, (fun e => by cases e), Nat.le_refl _, by omega, Or.inr ⟨w.heap.size, 0, #[el], (0, 0), rfl, heap_alloc_new w _, ?_⟩⟩
    intro j u hu
    match j, hu with
    | 0, hu => simpa using hu
    | j + 1, hu => simp at hu
  obtain ⟨v', w', hr, h2, h3, h4⟩ := run_app S (w.alloc (.cells #[el] E)) o.type base v n xs (hown.alloc _) _ 1 [el] hu (by simp) (by simpa using h1) (by omega) (by omega)
  unfold Oper.wp execOp
  simp only [ho, resolve, invoke, builtin, Sem.run_bind, Sem.run_pure, Result.andThen_ok, List.map_toArray, List.map_cons, List.map_nil, hs, hx, hr]
  rcases id h2.2 with ⟨_, h0⟩ | ⟨g, cap, cur, rfl, _⟩
  · omega
  · exact h g cap w' h2 ⟨h3.os, h3.tape, h3.output, by have := h3.size; omega, fun k hk hne => (h3.block k (by omega) hne).trans (Below.heap_alloc w _ k hk)⟩

set_option maxRecDepth 100000 in
set_option maxHeartbeats 4000000 in
theorem induced_any (x lv : Value) (a l : List Nat) (h16 : a.length ≤ 16) (ha : ∀ s ∈ a, s < 65536) (hl : ∀ v ∈ l, v < a.length) (hm : l.length ≤ 16) (w : World)
    (hx : Sl w 64 x a.length (a.map u32v)) (hn : Nums w 3 .i64 lv (natInts l)) :
    Calls Tryd.prog 75 #[x, lv] w fun e w' => ∃ u, e = .returned u ∧
      w'.ownsRow w.heap.size 64 1 u l.length ((indN l.length (bitE a l)).map u32v) ∧ Below w.heap.size w w' := by
  obtain ⟨p, c, rfl, _⟩ := id hx
  obtain ⟨lp, lc, rfl, _⟩ := id hn.shape
  have hll := natInts_length l
  rw [hll] at hn ⊢
  have HX := Lib.hid hx
  have HN := Lib.hid hn
  clear hx hn
  go_enter Tryd.func75, Tryd.ntmps75
  go_wp2_with (at_make; refine wpList_mk ty_nets rfl rfl rfl l.length rfl rfl rfl rfl (by omega) ?_; intro w1 hown1 hg1)
  have hb1 := grown_below hg1
  have START : Hid (w1.ownsRow w.heap.size 64 1 (.slice (some ⟨w.heap.size, 0, none⟩) l.length l.length) l.length ((indN l.length (rowsE (bitE a l) 0 0)).map u32v) ∧ Below w.heap.size w w1) := Lib.hid
    ⟨by rw [rows_start, List.map_replicate]; exact hown1, hb1⟩
  clear hg1 hown1 hb1
  go_loopw [15] (fun i wr => ∃ k : Nat, k ≤ l.length ∧ i = .int .i64 k ∧ wr.ownsRow w.heap.size 64 1 (.slice (some ⟨w.heap.size, 0, none⟩) l.length l.length) l.length ((indN l.length (rowsE (bitE a l) k 0)).map u32v) ∧ Below w.heap.size w wr)
    (fun i _ => l.length - (intOf i).toNat)
  case atStart => exact ⟨0, Nat.zero_le _, rfl, START.out⟩
  case round =>
    obtain ⟨i, hi, rfl, hown, hbel⟩ := hrel
    have HI := Lib.hid hown
    clear hown
    by_cases hlt : i < l.length
    · have hin := hl _ (List.getElem_mem hlt)
      obtain ⟨b, o, rfl, hci⟩ := (HN.out.below hbel).get (k := i) (by rw [hll]; exact hlt)
      rw [show (natInts l)[i]'(by rw [hll]; exact hlt) = ((l[i] : Nat) : Int) by simp [natInts]] at hci
      go_wp2_with fail
      clear hci
      go_loopw [22] (fun i' wr => ∃ k : Nat, k ≤ l.length ∧ i' = .int .i64 k ∧ wr.ownsRow w.heap.size 64 1 (.slice (some ⟨w.heap.size, 0, none⟩) l.length l.length) l.length ((indN l.length (rowsE (bitE a l) i k)).map u32v) ∧ Below w.heap.size w wr)
        (fun i' _ => l.length - (intOf i').toNat)
      case atStart => exact ⟨0, Nat.zero_le _, rfl, HI.out, hbel⟩
      case round =>
        clear HI hbel
        obtain ⟨k, hk, rfl, hown, hbel⟩ := hrel
        by_cases hlt2 : k < l.length
        · have hkn := hl _ (List.getElem_mem hlt2)
          obtain ⟨_, _, hbo, hck⟩ := (HN.out.below hbel).get (k := k) (by rw [hll]; exact hlt2)
          cases hbo
          rw [show (natInts l)[k]'(by rw [hll]; exact hlt2) = ((l[k] : Nat) : Int) by simp [natInts]] at hck
          obtain ⟨ab, ao, rfl, hca⟩ := nets_cell (HX.out.below hbel) hin
          have hs16 := ha _ (List.getElem_mem hin)
          have hbit : Hid (a[l[i]].testBit l[k] = bitE a l i k) := Lib.hid (by unfold bitE; simp [hlt, hlt2, hin])
          have e0 : (0 : Int) ≤ (k : Int) := by omega
          have hrl := hown.cellAt i (by omega)
          have hfz := hown.frozenAt i
          have hil : i < (indN l.length (rowsE (bitE a l) i k)).length := by rw [indN_length]; exact hlt
          rw [List.getElem?_map, List.getElem?_eq_getElem hil] at hrl
          change wr.cell? _ = some (.int .u32 (((indN l.length (rowsE (bitE a l) i k))[i] : Nat) : Int)) at hrl
          have hr16 := indN_lt16 (E := rowsE (bitE a l) i k) hm _ (List.getElem_mem hil)
          obtain ⟨ho2, hg2⟩ := hown.stored i (.int .u32 (((indN l.length (rowsE (bitE a l) i k))[i] ||| 2 ^ k : Nat) : Int))
          have hb2 := below_grown hbel hown hg2 (Nat.le_refl _) hbel.size
          have hyes : Hid (bitE a l i k = true → ((indN l.length (rowsE (bitE a l) i k)).map u32v).set i (.int .u32 (((indN l.length (rowsE (bitE a l) i k))[i] ||| 2 ^ k : Nat) : Int)) = (indN l.length (rowsE (bitE a l) i (k + 1))).map u32v) := Lib.hid (fun he => by
            rw [← rows_yes hlt hlt2 he, List.map_set]
            have : (indN l.length (rowsE (bitE a l) i k)).getD i 0 = (indN l.length (rowsE (bitE a l) i k))[i] := by simp [hil]
            rw [this]; rfl)
          have Hown := Lib.hid hown
          have Ho2 := Lib.hid ho2
          have Hb2 := Lib.hid hb2
          have Hbel := Lib.hid hbel
          have hor := or_u32 (indN l.length (rowsE (bitE a l) i k))[i] (2 ^ k) hr16 (pow_lt16 k (by omega))
          generalize (indN l.length (rowsE (bitE a l) i k))[i] = m0 at hrl hr16 hyes Ho2 Hb2 hor
          have c1 := Lib.hid (fun w => one_any (k : Int) k rfl (by omega) w)
          clear hown ho2 hb2 hg2 hbel hil
          cases hE' : bitE a l i k
          · rw [hE'] at hbit
            have hb' := hbit.out
            go_wp2_with (go_at_call 71; refine (has_any _ _ a[l[i]] l[k] rfl rfl (by omega) (by omega) _).mono ?_; rintro e w2 ⟨rfl, rfl⟩)
            go_roundw
            case rel => exact ⟨k + 1, by omega, by go_num, by rw [← rows_no hE']; exact Hown.out, Hbel.out⟩
            case measure => simp [intOf]; omega
          · rw [hE'] at hbit
            have hb' := hbit.out
            generalize 2 ^ k = pk at *
            go_upto_region 9 with (go_at_call 71; refine (has_any _ _ a[l[i]] l[k] rfl rfl (by omega) (by omega) _).mono ?_; rintro e w2 ⟨rfl, rfl⟩)
            go_region_with (go_at_call 74; refine (c1.out _).mono ?_; rintro e w2 ⟨rfl, rfl⟩)
            all_goals go_wp2
            all_goals go_roundw
            all_goals first
              | exact ⟨k + 1, by omega, by go_num, by rw [← hyes.out hE']; exact Ho2.out, ⟨Hb2.out.os, Hb2.out.tape, Hb2.out.output, Hb2.out.size, Hb2.out.block⟩⟩
              | (simp [intOf]; omega)
        · obtain rfl : k = l.length := by omega
          go_wp2
          go_roundw
          case rel => exact ⟨i + 1, by omega, by go_num, by rw [← rows_row]; exact hown, hbel⟩
          case measure => simp [intOf]; omega
    · obtain rfl : i = l.length := by omega
      go_wp2
      go_ret
      exact ⟨_, rfl, by rw [← rows_end]; exact HI.out, hbel⟩

end Go.Proofs.YtfokiijcpkhllaaDoor
