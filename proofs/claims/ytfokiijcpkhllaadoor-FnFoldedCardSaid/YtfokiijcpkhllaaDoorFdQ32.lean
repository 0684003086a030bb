/- Walks: the laws' graphs by dice (printed by wip/mkW6.py). -/
import Derived.Test.YtfokiijcpkhllaaDoorFdQ28
import Derived.Test.YtfokiijcpkhllaaDoorFdQ31
import Derived.Deep.RegionLaw
import Derived.Deep.RegionWith
import Derived.Test.YtfokiijcpkhllaaDoorFdQ20
import Derived.Test.YtfokiijcpkhllaaDoorFdQ29
import Derived.Test.YtfokiijcpkhllaaDoorFdQ14
import Derived.Test.YtfokiijcpkhllaaDoorFdQ9
import Derived.Test.YtfokiijcpkhllaaDoorFdQ26
namespace Go.Proofs.YtfokiijcpkhllaaDoor
open Go.RowKit

theorem dice_far {w0 w : World} {db : Nat} {bs : List Int} (h : Dice w0 w db bs) {cur : Array Value} {E : TypeId} {fz : Nat × Nat} {b : Nat} (hE : E ≠ 55) (hb : w.heap[b]? = some (.cells cur E fz)) : b ≠ db := by
  obtain ⟨bv, i, z, h1, _⟩ := h.ex
  intro e
  subst e
  rw [h1.blk] at hb
  simp only [Option.some.injEq, Obj.cells.injEq] at hb
  exact hE hb.2.1.symm
theorem Sl.diced {w0 w w' : World} {db : Nat} {bs : List Int} (h : Dice w0 w db bs) (hg : w.grownBy w' (some db)) {E : TypeId} (hE : E ≠ 55) {v : Value} {n : Nat} {vals : List Value} (hs : Sl w E v n vals) : Sl w' E v n vals :=
  hs.keep fun b cur fz hb => hg.block b (Array.getElem?_eq_some_iff.1 hb).1 (fun e => dice_far h hE hb (by simpa using e))
theorem ownsRow_diced {w0 w w' : World} {db : Nat} {bs : List Int} (h : Dice w0 w db bs) (hg : w.grownBy w' (some db)) {E : TypeId} (hE : E ≠ 55) {base size n : Nat} {v : Value} {xs : List Value} (ho : w.ownsRow base E size v n xs) : w'.ownsRow base E size v n xs :=
  ho.kept hg (by
    rcases ho.2 with ⟨rfl, _⟩ | ⟨g, cap, cur, rfl, _, hgg, _⟩
    · exact .inl rfl
    · exact .inr fun e => dice_far h hE hgg (by simpa [Value.ownBlock] using e))
theorem Box.diced {w0 w w' : World} {db : Nat} {bs : List Int} (h : Dice w0 w db bs) (hg : w.grownBy w' (some db)) {T : TypeId} (hT : T ≠ 55) {b : Nat} {v : Value} (hb : Box w b T v) : Box w' b T v :=
  hb.grown hg (fun e => dice_far h hT hb.blk (by simpa using e))
theorem PrsO.diced {w0 w w' : World} {db : Nat} {bs : List Int} (h : Dice w0 w db bs) (hg : w.grownBy w' (some db)) {base : Nat} {ev : Value} {l : List (Nat × Nat)} (hp : PrsO w base ev l) : PrsO w' base ev l := by
  obtain ⟨vals, h1, h2, h3⟩ := hp
  exact ⟨vals, h1, ownsRow_diced h hg (by decide) h2, fun j hj => Sl.diced h hg (by decide) (h3 j hj)⟩
theorem grown_new {w w' : World} {r : Option Nat} (h : w.grownBy w' r) {b i : Nat} (hb : w.heap.size ≤ b) (u : Value) : w.grownBy (w'.setCell ⟨b, i, none⟩ u) r :=
  ⟨h.os, h.tape, h.output, by rw [World.size_setCell]; exact h.size, fun k hk hne => (Below.heap_setCell _ _ _ _ (by show k ≠ b; omega)).trans (h.block k hk hne)⟩

/-- The edges so far, beside the dice. -/
structure W6I (w0 w wr : World) (db : Nat) (bs : List Int) (ev : Value) (l : List (Nat × Nat)) (n m : Nat) : Prop where
  dice : Dice w0 wr db bs
  gr : w.grownBy wr (some db)
  prs : PrsO wr w.heap.size ev l
  res : Box wr w.heap.size 29 (.slice none 0 0)
  ok : ∀ e ∈ l, e.1 < e.2 ∧ e.2 < n
  len : l.length ≤ m
theorem W6I.more {w0 w wr : World} {db : Nat} {bs : List Int} {ev : Value} {l : List (Nat × Nat)} {n m m' : Nat} (h : W6I w0 w wr db bs ev l n m) (hm : m ≤ m') : W6I w0 w wr db bs ev l n m' :=
  ⟨h.dice, h.gr, h.prs, h.res, h.ok, Nat.le_trans h.len hm⟩
theorem W6I.throw {w0 w wr w2 : World} {db : Nat} {bs : List Int} {ev : Value} {l : List (Nat × Nat)} {n m : Nat} (h : W6I w0 w wr db bs ev l n m) (hd : Dice w0 w2 db bs) (hg : wr.grownBy w2 (some db)) : W6I w0 w w2 db bs ev l n m :=
  ⟨hd, grown_trans h.gr hg, h.prs.diced h.dice hg, h.res.diced h.dice hg (by decide), h.ok, h.len⟩
theorem W6I.put {w0 w wr w7 : World} {db : Nat} {bs : List Int} {ev ev' : Value} {l : List (Nat × Nat)} {n m a b : Nat} {vals : List Value} (h : W6I w0 w wr db bs ev l n m) (hdb : db < w.heap.size) (hab : a < b) (hbn : b < n) (hv1 : vals.length = l.length) (hv2 : wr.ownsRow w.heap.size 32 1 ev l.length vals) (hv3 : ∀ j, j < l.length → Nums wr 2 .i64 (vals.getD j undef) (row (prsL l) j))
    (ho : w7.ownsRow w.heap.size 32 1 ev' (l.length + 1) (vals ++ [.slice (some ⟨wr.heap.size, 0, none⟩) 2 2])) (hg : (wr.alloc (.cells #[.int .i64 a, .int .i64 b] 2)).grownBy w7 ev.ownBlock) : W6I w0 w w7 db bs ev' (l ++ [(a, b)]) n (m + 1) := by
  have ha := below_alloc wr (.cells #[.int .i64 a, .int .i64 b] 2)
  have hv2' := ownsRow_below hv2 ha
  have hrow : Nums (wr.alloc (.cells #[.int .i64 a, .int .i64 b] 2)) 2 .i64 (.slice (some ⟨wr.heap.size, 0, none⟩) 2 2) [(a : Int), (b : Int)] :=
    Nums.of_owns (World.ownsRow_lit (size := 1) wr #[.int .i64 a, .int .i64 b] 2 (Nat.le_refl wr.heap.size) (by decide) rfl) rfl (by decide)
  have hne : ∀ k, ev.ownBlock = some k → w.heap.size ≤ k := fun k hk => (hv2.lt k hk).1
  have hg' : w.grownBy w7 (some db) := ⟨hg.os.trans (ha.os.trans h.gr.os), hg.tape.trans (ha.tape.trans h.gr.tape), hg.output.trans (ha.output.trans h.gr.output), Nat.le_trans h.gr.size (Nat.le_trans ha.size hg.size), fun k hk hkd => (hg.block k (Nat.lt_of_lt_of_le (Nat.lt_of_lt_of_le hk h.gr.size) ha.size) (fun e => by have := hne k e.symm; omega)).trans ((ha.block k (Nat.lt_of_lt_of_le hk h.gr.size)).trans (h.gr.block k hk hkd))⟩
  refine ⟨?_, hg', PrsO.snoc (e := (a, b)) hv1 hv2' (fun j hj => (hv3 j hj).below ha) ho hg hrow, ?_, ?_, ?_⟩
  · have hd := h.dice.keep ha
    obtain ⟨bv, i, z, q1, q2, q3⟩ := hd.ex
    refine ⟨⟨bv, i, z, q1.to (hg.block db q1.lt (fun e => ?_)), q2, q3⟩, hd.few, hd.lo, ?_⟩
    · have := hne db e.symm
      omega
    · have hlo := h.dice.lo
      exact ⟨hg.os.trans hd.bel.os, hg.tape.trans hd.bel.tape, hg.output.trans hd.bel.output, Nat.le_trans hd.bel.size hg.size, fun k hk => (hg.block k (Nat.lt_of_lt_of_le hk hd.bel.size) (fun e => by have := hne k e.symm; omega)).trans (hd.bel.block k hk)⟩
  · refine (h.res.keep ha).grown hg (fun e => ?_)
    have h1 := (h.res.keep ha).blk
    rcases hv2'.2 with ⟨e2, _⟩ | ⟨g, cap, cur, e2, _, hgg, _⟩
    · rw [e2] at e; simp [Value.ownBlock] at e
    · rw [e2] at e
      have : w.heap.size = g := by simpa [Value.ownBlock] using e
      subst this
      rw [h1] at hgg
      simp only [Option.some.injEq, Obj.cells.injEq] at hgg
      exact absurd hgg.2.1 (by decide)
  · intro e he
    rcases List.mem_append.1 he with he | he
    · exact h.ok e he
    · obtain rfl : e = (a, b) := by simpa using he
      exact ⟨hab, hbn⟩
  · rw [List.length_append]; have := h.len; simp; omega

set_option maxRecDepth 100000 in
set_option maxHeartbeats 4000000 in
theorem w9Graph_any (w0 : World) (db : Nat) (bs : List Int) (most : Nat) (z : Int) (hz : z = most) (hm1 : 1 ≤ most) (hm : most ≤ 10) (w : World) (hd : Dice w0 w db bs) (hdb : db < w.heap.size) :
    Calls Tryd.prog 9 #[.pointer (some ⟨db, 0, none⟩), .int .i64 z] w fun e w' => ∃ (u : Value) (n : Nat) (E : Nat → Nat → Bool), e = .returned u ∧ 1 ≤ n ∧ n ≤ most ∧ SymI E ∧ SG w' w.heap.size u (matG n E) ∧ Dice w0 w' db bs ∧ w.grownBy w' (some db) := by
  subst hz
  have HD := Lib.hid hd
  have HDB := Lib.hid hdb
  have HR := Lib.hid (Box.new w (.slice none 0 0) 29)
  have HB1 := Lib.hid (below_alloc w (.cells #[.slice none 0 0] 29))
  clear hd hdb
  go_enter Tryd.func9, Tryd.ntmps9
  go_upto_region 2 with (go_at_call 17; refine (below_any w0 db bs most _ rfl (by omega) (by omega) _ (HD.out.keep HB1.out)).mono ?_; rintro e w2 ⟨r, rfl, hr, hd2, hg2⟩; have HD2 := Lib.hid hd2; have HG2 := Lib.hid hg2; obtain ⟨n, hn⟩ : ∃ n : Nat, n = r + 1 := ⟨_, rfl⟩; have hnr : (1 : Int) + (r : Int) = (n : Int) := (by omega); have hn1 : 1 ≤ n := (by omega); have hn10 : n ≤ most := (by omega); clear hd2 hg2 hn hr)
  go_upto_region 3 with (go_at_call 17; refine (below_any w0 db bs 3 _ rfl (by omega) (by omega) _ HD2.out).mono ?_; rintro e w3 ⟨r3, rfl, hr3, hd3, hg3⟩; have HD3 := Lib.hid hd3; have HG3 := Lib.hid hg3; obtain ⟨c, hc⟩ : ∃ c : Nat, c = 1 + r3 := ⟨_, rfl⟩; have hcr : (1 : Int) + (r3 : Int) = (c : Int) := (by omega); have hc4 : c < 4 := (by omega); clear hd3 hg3 hc hr3)
  have HST : Hid (W6I w0 w (w3.alloc (.cells #[] 32)) db bs (.slice (some ⟨w3.heap.size, 0, none⟩) 0 0) [] n (1 * n)) := Lib.hid
    { dice := HD3.out.keep (below_alloc _ _)
      gr := grown_trans (grown_trans (grown_trans (grown_of_below HB1.out _) HG2.out) HG3.out) (grown_of_below (below_alloc _ _) _)
      prs := PrsO.nil w3 w.heap.size (by have h1 := HB1.out.size; have h2 := HG2.out.size; have h3 := HG3.out.size; omega)
      res := ((HR.out.diced (HD.out.keep HB1.out) HG2.out (by decide)).diced HD2.out HG3.out (by decide)).alloc _
      ok := fun e he => by simp at he
      len := Nat.zero_le _ }
  clear HD2 HG2 HD3 HG3 HR HB1 HD hnr hcr
  go_wp2
  go_loopw [7, 8] (fun ev v wr => ∃ (l : List (Nat × Nat)) (k : Nat), v = .int .i64 k ∧ 1 ≤ k ∧ k ≤ n ∧ Hid (W6I w0 w wr db bs ev l n (k * n))) (fun _ v _ => n - (intOf v).toNat)
  case atStart => exact ⟨[], 1, rfl, Nat.le_refl _, hn1, HST⟩
  case round =>
    clear HST
    obtain ⟨l, k, rfl, hk1, hk, HI⟩ := hrel
    obtain ⟨ep, ec, rfl⟩ := HI.out.prs.shape
    by_cases hlt : k < n
    · obtain ⟨wo, rfl⟩ : ∃ wo, wo = wr := ⟨_, rfl⟩
      go_wp2
      go_loopw [7, 9] (fun ev u wx => ∃ (l : List (Nat × Nat)) (j : Nat), u = .int .i64 j ∧ j ≤ k ∧ Hid (W6I w0 w wx db bs ev l n (k * n + j))) (fun _ u _ => k - (intOf u).toNat)
      case atStart => exact ⟨l, 0, rfl, Nat.zero_le _, HI⟩
      case round =>
        clear HI
        obtain ⟨l, j, rfl, hj, HI⟩ := hrel
        obtain ⟨ep, ec, rfl⟩ := HI.out.prs.shape
        have hll : l.length < 1000000000 := by
          have h1 := HI.out.len
          have h2 : k * n ≤ 10 * 10 := Nat.mul_le_mul (by omega) (by omega)
          omega
        by_cases hjl : j < k
        · go_upto_region 10 with fail
          go_cut [33] (fun s wx => ∃ b : Bool, s = .bool b ∧ Hid (W6I w0 w wx db bs (.slice ep l.length ec) l n (k * n + j)))
          case first =>
            go_wp2_with (go_at_call 17; refine (below_any w0 db bs 4 _ rfl (by omega) (by omega) _ HI.out.dice).mono ?_; rintro e w4 ⟨r4, rfl, hr4, hd4, hg4⟩; have HI4 := Lib.hid (HI.out.throw hd4 hg4); clear hd4 hg4)
            go_meet
            exact ⟨_, rfl, HI4⟩
          case rest =>
            obtain ⟨b, rfl, HI4⟩ := hcut
            clear HI
            cases b
            · go_wp2
              go_roundw
              case rel => exact ⟨l, j + 1, by go_num, by omega, Lib.hid (HI4.out.more (by omega))⟩
              case measure => simp [intOf]; omega
            · obtain ⟨vals, hv1, hv2, hv3⟩ := HI4.out.prs
              have HV1 := Lib.hid hv1
              have HV3 := Lib.hid hv3
              have hsz := HI4.out.gr.size
              clear hv1 hv3
              go_wp2_with (at_builtin; refine wpList_app1s ty_rows64 rfl rfl rfl (hv2.alloc (.cells #[.int .i64 j, .int .i64 k] 2)) (by rw [size_alloc]; rfl) rfl hll (by rw [size_alloc]; omega) ?_; intro b7 c8 w7 hown7 hg7 _)
              go_roundw
              case rel => exact ⟨l ++ [(j, k)], j + 1, by go_num, by omega, Lib.hid (HI4.out.put HDB.out hjl hlt HV1.out hv2 HV3.out hown7 hg7)⟩
              case measure => simp [intOf]; omega
        · obtain rfl : j = k := by omega
          go_wp2
          go_roundw
          case rel => exact ⟨l, j + 1, by go_num, by omega, by omega, Lib.hid (HI.out.more (by rw [Nat.succ_mul]; omega))⟩
          case measure => simp [intOf]; omega
    · obtain rfl : k = n := by omega
      have h120 : l.length ≤ 120 := by
        have h1 := HI.out.len
        have h2 : k * k ≤ 10 * 10 := Nat.mul_le_mul (by omega) (by omega)
        omega
      go_upto_region 13 with (go_at_call 37; refine (specGraphOf_any _ _ k w.heap.size l rfl hn1 (by omega) HI.out.ok h120 _ HI.out.prs).mono ?_; rintro e w5 ⟨u, E, rfl, hse, hsg, hb5⟩; obtain ⟨gp, gc, rfl⟩ := hsg.shape; rw [matG_length] at hsg ⊢)
      obtain ⟨w6, hw6⟩ : ∃ w6, w6 = w5.alloc (.cells #[.slice gp k gc] 29) := ⟨_, rfl⟩
      rw [← hw6]
      have hb56 : Below w5.heap.size w5 w6 := by rw [hw6]; exact below_alloc _ _
      have hbx6 : Box w6 w5.heap.size 29 (.slice gp k gc) := by rw [hw6]; exact Box.new _ _ _
      have hb6 := hb5.trans (hb56.mono hb5.size)
      have hr6 := HI.out.res.keep hb6
      have hc1 := hbx6.cell
      have hc2 := hr6.cell
      have hf2 := hr6.free
      have HR6 := Lib.hid hr6
      have HB6 := Lib.hid hb6
      have HS6 := Lib.hid (hsg.below hb56)
      have HSE := Lib.hid hse
      have s1 := HI.out.gr.size
      clear hw6 hb56 hbx6 hb5 hb6 hr6 hsg hse
      go_wp2
      obtain ⟨nc, nf, _, _⟩ := HR6.out.set (.slice gp k gc)
      have hfin : w.grownBy (w6.setCell ⟨w.heap.size, 0, none⟩ (.slice gp k gc)) (some db) := grown_new (grown_trans HI.out.gr (grown_of_below HB6.out _)) (Nat.le_refl _) _
      have hdc := HI.out.dice.keep HB6.out
      obtain ⟨bv, i, z, q1, q2, q3⟩ := hdc.ex
      have hdb2 := HDB.out
      have hlo := hdc.lo
      refine bodyPost_ret (v := .agg #[.slice gp k gc]) (by simp [results, Tryd.results9, go_sem, nc]) rfl ⟨_, k, E, rfl, hn1, hn10, HSE.out, SG.base (HS6.out.setBox HR6.out _) s1, ⟨⟨bv, i, z, q1.to (Below.heap_setCell _ _ _ _ (by show db ≠ w.heap.size; omega)), q2, q3⟩, hdc.few, hlo, hdc.bel.setCell (p := ⟨w.heap.size, 0, none⟩) (by show w0.heap.size ≤ w.heap.size; omega) _⟩, hfin⟩

end Go.Proofs.YtfokiijcpkhllaaDoor

/- Walk: the laws' dice thrown (roll). -/
namespace Go.Proofs.YtfokiijcpkhllaaDoor
open Go.RowKit

set_option maxRecDepth 100000 in
set_option maxHeartbeats 4000000 in
theorem roll_any (v : Value) (bs : List Int) (s : Int) (hl : bs.length ≤ 4096) (w : World) (ha : ArgB w v bs) :
    Calls Tryd.prog 8 #[v, .int .u64 s] w fun e w' => ∃ db : Nat, e = .returned (.pointer (some ⟨db, 0, none⟩)) ∧ Dice w w' db bs ∧ Below w.heap.size w w' := by
  obtain ⟨p, c, e, _⟩ := id ha
  subst e
  have HA := Lib.hid ha
  clear ha
  go_enter Tryd.func8, Tryd.ntmps8
  go_upto_region 1 with fail
  go_cut [5] (fun s5 wx => ∃ h : Int, s5 = .pointer (some ⟨w.heap.size, 0, none⟩) ∧ wx = w.alloc (.cells #[.slice p bs.length c, .int .i64 0, .int .u64 h] 55))
  case first =>
    go_wp2
    go_meet
    exact ⟨_, rfl, rfl⟩
  case rest =>
  obtain ⟨h, rfl, rfl⟩ := hcut
  go_wp2
  go_loopw [6] (fun i wr => ∃ (k : Nat) (z : Int), i = .int .i64 k ∧ k ≤ bs.length ∧ BoxD wr w.heap.size (.slice p bs.length c) (.int .i64 0) (.int .u64 z) ∧ Below w.heap.size w wr) (fun i _ => bs.length - (intOf i).toNat)
  case atStart => exact ⟨0, h, rfl, Nat.zero_le _, BoxD.new _ _ _ _, below_alloc _ _⟩
  case round =>
    obtain ⟨k, z, rfl, hk, hb, hbel⟩ := hrel
    have HB := Lib.hid hb
    have HBEL := Lib.hid hbel
    have c2 := hb.c2
    have f2 := hb.free 2
    clear hb hbel
    by_cases hlt : k < bs.length
    · obtain ⟨xb, xo, rfl, hcx, hx0, hx1⟩ := (HA.out.below HBEL.out).get hlt
      generalize bs[k] = x at hcx hx0 hx1
      go_upto_region 5 with fail
      go_region_with (fail)
      all_goals go_wp2
      all_goals go_roundw
      all_goals first
        | exact ⟨k + 1, _, by go_num, by omega, (HB.out.keep (below_dN (Below.refl _ _) _)).s2 _, (HBEL.out.trans ((below_dN (Below.refl wr.heap.size wr) _).mono HBEL.out.size)).setCell (p := ⟨w.heap.size, 2, none⟩) (Nat.le_refl _) _⟩
        | (simp [intOf]; omega)
    · obtain rfl : k = bs.length := by omega
      go_wp2
      go_ret
      exact ⟨_, rfl, ⟨⟨_, 0, z, HB.out, Nat.zero_le _, HA.out⟩, hl, Nat.le_refl _, HBEL.out⟩, HBEL.out⟩

end Go.Proofs.YtfokiijcpkhllaaDoor

/- Walks: the program's tests of a set, and of a connected one; the masks of several sets. -/
namespace Go.Proofs.YtfokiijcpkhllaaDoor
open Go.RowKit

set_option maxRecDepth 100000 in
set_option maxHeartbeats 1000000 in
theorem implSetOk_any (v lv : Value) (g : List (List Int)) (s : List Int) (hgl : g.length ≤ 1000000000) (w : World) (hg : Gr w v g) (hn : Nums w 2 .i64 lv s) :
    Calls Tryd.prog 131 #[v, lv] w fun e w' => e = .returned (.bool (dec (GOk g ∧ SetIn g.length s))) ∧ Below w.heap.size w w' := by
  have hg0 := hg
  obtain ⟨u, rfl, hr⟩ := hg
  obtain ⟨p, c, rfl, _⟩ := hr.shape
  have hbA := Lib.hid (below_alloc w (.cells #[.slice p g.length c] 29))
  have HG := Lib.hid (hg0.below hbA.out)
  have HN := Lib.hid (hn.below hbA.out)
  have BX := Lib.hid (Box.new w (.slice p g.length c) 29)
  clear hr hg0 hn
  by_cases hok : GOk g
  · have hd := Lib.hid (dec_true hok)
    have HD : Hid (dec (SetIn g.length s) = dec (GOk g ∧ SetIn g.length s)) := Lib.hid (dec_congr ⟨fun h => ⟨hok, h⟩, fun h => h.2⟩)
    clear hok
    go_enter Tryd.func131, Tryd.ntmps131
    go_wp2_with (first
      | (go_at_call 38; refine (implGraphOk_any _ g _ HG.out).mono ?_; rintro e w2 ⟨he, hb2⟩; rw [hd.out] at he; subst he; have hbx := (BX.out.keep hb2).cell)
      | (go_at_call 105; refine (increasing_any _ s g.length (by omega) (by omega) _ (HN.out.below hb2)).mono ?_; rintro e w3 ⟨he3, hw3⟩; rw [HD.out] at he3; subst he3; subst hw3))
    go_ret
    exact ⟨rfl, hbA.out.trans (hb2.mono hbA.out.size)⟩
  · have hd := Lib.hid (dec_false hok)
    have HD := Lib.hid (dec_false (show ¬ (GOk g ∧ SetIn g.length s) from fun h => hok h.1))
    clear hok
    go_enter Tryd.func131, Tryd.ntmps131
    go_wp2_with (go_at_call 38; refine (implGraphOk_any _ g _ HG.out).mono ?_; rintro e w2 ⟨he, hb2⟩; rw [hd.out] at he; subst he)
    go_ret
    exact ⟨by rw [HD.out]; rfl, hbA.out.trans (hb2.mono hbA.out.size)⟩

set_option maxRecDepth 100000 in
set_option maxHeartbeats 1000000 in
theorem connected_any (x : Value) (z : Int) (n : Nat) (E : Nat → Nat → Bool) (W : Nat) (hz : z = W) (hW : W < 65536) (hWn : ∀ i, W.testBit i = true → i < n) (w : World) (hx : NE w x n E) (hT : Tab w) :
    Calls Tryd.prog 47 #[x, .int .u32 z] w fun e w' => e = .returned (.bool (dec (ConnL E (bitsOf W)))) ∧ Below w.heap.size w w' := by
  subst hz
  by_cases h0 : W = 0
  · subst h0
    have HD := Lib.hid (dec_false (show ¬ ConnL E (bitsOf 0) by rw [bitsOf_zero]; exact not_connL_nil E))
    go_enter Tryd.func47, Tryd.ntmps47
    go_wp2
    go_ret
    exact ⟨by rw [HD.out]; rfl, Below.refl _ _⟩
  · have h0' : ((W : Int) != 0) = true := by simp; omega
    have hst := bitsOf_step W h0 (by omega)
    obtain ⟨hub, _, _⟩ := testBit_ctz W h0 (by omega)
    obtain ⟨u, hu⟩ : ∃ u, u = Lib.ctz 32 W := ⟨_, rfl⟩
    rw [← hu] at hst hub
    have HU := Lib.hid hu
    have HUB := Lib.hid hub
    have H0 := Lib.hid h0
    have HX := Lib.hid hx
    have HT := Lib.hid hT
    have HWN := Lib.hid hWn
    have HEQ : Hid (∀ m : Nat, m < 65536 → (∀ i, m.testBit i = true ↔ i ∈ partL E (bitsOf W) u) → ((m : Int) == (W : Int)) = dec (ConnL E (bitsOf W))) := Lib.hid (fun m hm hmb => by
      have hi : ConnL E (bitsOf W) ↔ m = W := by
        rw [hst, connL_part, ← hst]
        constructor
        · intro e
          refine Nat.eq_of_testBit_eq fun i => ?_
          rw [Bool.eq_iff_iff, hmb i, e, mem_left hW]
        · rintro rfl
          refine rising_ext _ _ (partL_rising (bitsOf_rising _) u) (bitsOf_rising _) fun i => ?_
          rw [← hmb i, mem_left hW]
      by_cases e : m = W
      · rw [dec_true (hi.2 e), e]; simp
      · rw [dec_false (fun k => e (hi.1 k))]
        simp
        omega)
    clear hu hub h0 hst hx hT hWn
    go_enter Tryd.func47, Tryd.ntmps47
    go_wp2_with (first
      | (go_at_call 113; refine (reach_any _ _ _ n E u W rfl rfl hW HWN.out HUB.out _ HX.out HT.out).mono ?_; rintro e w4 ⟨m, rfl, hm16, hmb, hb4⟩; have hme := HEQ.out m hm16 hmb; clear hmb)
      | (go_at_call 114; refine (least_any _ W rfl H0.out (by omega) _ HT.out).mono ?_; rintro e w3 ⟨he3, rfl⟩; rw [← HU.out] at he3; subst he3))
    go_ret
    exact ⟨ret_bool (by first | exact hme | rfl | (rw [hme])), hb4⟩

/-- A connected set of a right graph. -/
def ConnS (g : List (List Int)) (s : List Int) : Prop := (GOk g ∧ SetIn g.length s) ∧ ConnL (ofG g) (s.map Int.toNat)
theorem setIn_nats {n : Nat} {s : List Int} (h : SetIn n s) : natInts (s.map Int.toNat) = s ∧ (s.map Int.toNat).Pairwise (· < ·) ∧ ∀ x ∈ s.map Int.toNat, x < n := by
  refine ⟨?_, ?_, ?_⟩
  · unfold natInts
    rw [List.map_map]
    conv => rhs; rw [← List.map_id s]
    exact List.map_congr_left fun x hx => Int.toNat_of_nonneg (h.1 x hx).1
  · refine List.pairwise_map.2 (h.2.imp_of_mem fun {a b} ha hb k => ?_)
    have := (h.1 a ha).1
    have := (h.1 b hb).1
    omega
  · intro x hx
    obtain ⟨y, hy, rfl⟩ := List.mem_map.1 hx
    have := h.1 y hy
    omega
theorem bits_maskS {n : Nat} {s : List Int} (hn : n ≤ 16) (h : SetIn n s) : bitsOf (mask s) = s.map Int.toNat := by
  obtain ⟨h1, h2, h3⟩ := setIn_nats h
  conv => lhs; rw [← h1]
  exact bitsOf_maskN h2 fun x hx => by have := h3 x hx; omega


theorem ty_vsets' : SlTy Tryd.prog 60 64 (.int .u32 0) 1 4 := ⟨Tryd.underlying60, by kernel_rfl, rfl, by decide, by decide⟩

end Go.Proofs.YtfokiijcpkhllaaDoor
