/- Walks: the reference's graph of some listed vertices. -/
import Derived.Test.YtfokiijcpkhllaaDoorFdQ23
import Derived.Test.YtfokiijcpkhllaaDoorFdQ18
import Derived.Test.YtfokiijcpkhllaaDoorFdQ21
namespace Go.Proofs.YtfokiijcpkhllaaDoor
open Go.RowKit

theorem SG.setBox {w : World} {base b : Nat} {v x : Value} {g : List (List Int)} (h : SG w base v g) (hb : Box w b 29 x) (u : Value) : SG (w.setCell ⟨b, 0, none⟩ u) base v g := by
  obtain ⟨u0, vals, h1, h2, h3, h4⟩ := h
  exact ⟨u0, vals, h1, h2, ownsRow_setBox h3 hb (by decide) _, fun j hj => (h4 j hj).setBox hb (by decide) _⟩
theorem SG.base {w : World} {base base' : Nat} {v : Value} {g : List (List Int)} (h : SG w base v g) (hb : base' ≤ base) : SG w base' v g := by
  obtain ⟨u0, vals, h1, h2, h3, h4⟩ := h
  exact ⟨u0, vals, h1, h2, ownsRow_base h3 hb, h4⟩
theorem SG.lt {w : World} {base : Nat} {u : Value} {g : List (List Int)} (h : SG w base (.agg #[u]) g) : ∀ k, u.ownBlock = some k → base ≤ k ∧ k < w.heap.size := by
  obtain ⟨u0, vals, h1, h2, h3, h4⟩ := h
  cases h1
  exact fun k hk => h3.lt k hk

structure L2I (W0 wr : World) (b5 : Nat) (p : Option Addr) (c m : Nat) (gg : List (List Int)) : Prop where
  sg : SG wr W0.heap.size (.agg #[.slice p m c]) gg
  bel : Below W0.heap.size W0 wr
  box : Box wr b5 29 (.slice p m c)
  own : ∀ k, (Value.slice p m c).ownBlock = some k → W0.heap.size ≤ k ∧ k < b5
  b5 : W0.heap.size ≤ b5

theorem L2I.next {W0 wr wx : World} {b5 : Nat} {p : Option Addr} {c m : Nat} {gg : List (List Int)} (h : L2I W0 wr b5 p c m gg) (hb : Below wr.heap.size wr wx) : L2I W0 wx b5 p c m gg :=
  ⟨h.sg.below hb, h.bel.trans (hb.mono h.bel.size), h.box.keep hb, h.own, h.b5⟩
theorem L2I.link {W0 wr w2 : World} {b5 : Nat} {p : Option Addr} {c m : Nat} {gg gg' : List (List Int)} (h : L2I W0 wr b5 p c m gg) (hs : SG w2 W0.heap.size (.agg #[.slice p m c]) gg') (hg : wr.grownBy w2 (Value.slice p m c).ownBlock) :
    L2I W0 (w2.setCell ⟨b5, 0, none⟩ (.slice p m c)) b5 p c m gg' := by
  have hbox := h.box.grown hg (fun e => by have := (h.own b5 e.symm).2; omega)
  exact ⟨hs.setBox hbox _, (h.bel.grown hg h.bel.size (fun k hk => (h.own k hk).1)).setCell h.b5 _, hbox.set _, h.own, h.b5⟩

set_option maxRecDepth 100000 in
set_option maxHeartbeats 4000000 in
theorem l2Of_any (v lv : Value) (g : List (List Int)) (l : List Int) (hl : ∀ x ∈ l, 0 ≤ x ∧ x < g.length) (hm : l.length ≤ 1000) (hE : SymE l.length (indE g l)) (w : World) (hg : Gr w v g) (hn : Nums w 2 .i64 lv l) :
    Calls Tryd.prog 57 #[v, lv] w fun e w' => ∃ u, e = .returned u ∧ SG w' w.heap.size u (indL g l) ∧ Below w.heap.size w w' := by
  have hg0 := hg
  obtain ⟨u, rfl, hr⟩ := hg
  obtain ⟨gp, gc, rfl, _⟩ := hr.shape
  obtain ⟨lp, lc, rfl, _⟩ := id hn.shape
  obtain ⟨W0, hW0⟩ : ∃ W0, W0 = (w.alloc (.cells #[.slice gp g.length gc] 29)).alloc (.cells #[.slice none 0 0] 29) := ⟨_, rfl⟩
  have hb0 : Below w.heap.size w W0 := by rw [hW0]; exact below_alloc2 _ _ _
  have hbg : Box W0 w.heap.size 29 (.slice gp g.length gc) := by rw [hW0]; exact (Box.new _ _ _).alloc _
  have hbn : Box W0 (w.heap.size + 1) 29 (.slice none 0 0) := by
    have := Box.new (w.alloc (.cells #[.slice gp g.length gc] 29)) (.slice none 0 0) 29
    rw [size_alloc] at this
    rw [hW0]; exact this
  have HW0 := Lib.hid hW0
  have HB0 := Lib.hid hb0
  have HBG := Lib.hid hbg
  have HBN := Lib.hid hbn
  have HG := Lib.hid (hg0.below hb0)
  have HN := Lib.hid (hn.below hb0)
  have sz0 : W0.heap.size = w.heap.size + 2 := by rw [hW0, size_alloc, size_alloc]
  clear hr hn hg0 hb0 hbg hbn
  go_enter Tryd.func57, Tryd.ntmps57
  go_upto_region 1 with fail
  rw [← hW0]
  clear hW0
  go_upto_region 2 with (go_at_call 102; refine (l1Empty_any _ l.length rfl hm _).mono ?_; rintro e w3 ⟨u3, rfl, hs3, hb3⟩; obtain ⟨p, c, rfl⟩ := hs3.shape; rw [List.length_replicate] at hs3 ⊢)
  have hlen : (List.replicate l.length ([] : List Int)).length = l.length := by simp
  have START : Hid (L2I W0 (w3.alloc (.cells #[.slice p l.length c] 29)) w3.heap.size p c l.length (matG l.length (uptoE (indE g l) 0 0))) := Lib.hid
    ⟨by rw [upto_start]; exact hs3.below (below_alloc _ _), hb3.alloc hb3.size _, Box.new _ _ _, hs3.lt, hb3.size⟩
  clear hs3 hb3 hlen
  go_wp2_with fail
  go_loopw [6] (fun i wr => ∃ k : Nat, k ≤ l.length ∧ i = .int .i64 k ∧ L2I W0 wr w3.heap.size p c l.length (matG l.length (uptoE (indE g l) k 0))) (fun i _ => l.length - (intOf i).toNat)
  case atStart => exact ⟨0, Nat.zero_le _, rfl, START.out⟩
  case round =>
    obtain ⟨i, hi, rfl, hI⟩ := hrel
    have HI := Lib.hid hI
    clear hI
    by_cases hlt : i < l.length
    · have hin := hl _ (List.getElem_mem hlt)
      go_wp2_with fail
      go_loopw [7] (fun i' wr => ∃ k : Nat, k ≤ i ∧ i' = .int .i64 k ∧ L2I W0 wr w3.heap.size p c l.length (matG l.length (uptoE (indE g l) i k))) (fun i' _ => i - (intOf i').toNat)
      case atStart => exact ⟨0, Nat.zero_le _, rfl, HI.out⟩
      case round =>
        clear HI
        obtain ⟨k, hk, rfl, hI⟩ := hrel
        have HI := Lib.hid hI
        clear hI
        by_cases hlt2 : k < i
        · have hkl : k < l.length := by omega
          have hkn := hl _ (List.getElem_mem hkl)
          obtain ⟨_, _, e1, _, _, _, hat⟩ := id (HN.out.below HI.out.bel).shape
          cases e1
          obtain ⟨b, o, rfl, hci⟩ := hat.num hlt
          obtain ⟨_, _, hbo, hck⟩ := hat.num hkl
          cases hbo
          have hcg := HI.out.bel.at (by omega) HBG.out.cell
          have hGr := Lib.hid (HG.out.below HI.out.bel)
          have hedge : Hid (∀ x, x = l[k] → dec (x ∈ row g l[i].toNat) = indE g l i k) := Lib.hid (by
            rintro x rfl
            unfold indE
            rw [getD_int hlt, getD_int hkl, decide_dec])
          have e0 : (0 : Int) ≤ (k : Int) := by omega
          have e1 : (k : Int) < (l.length : Int) := by omega
          have e2 : (i : Int) < (l.length : Int) := by omega
          have Hin := Lib.hid hin
          have Hkn := Lib.hid hkn
          clear hat hin hkn
          go_upto_region 8 with fail
          go_cut [31] (fun s wx => s = .bool (indE g l i k) ∧ Below wr.heap.size wr wx)
          case first =>
            go_region_held3 (fun w' => w'.cell? ⟨w.heap.size, 0, none⟩ = some (.slice gp g.length gc) ∧ w'.cell? ⟨b, o + i, none⟩ = some (.int .i64 l[i]) ∧ w'.cell? ⟨b, o + k, none⟩ = some (.int .i64 l[k]))
              (first | go_keep | exact ⟨hb4'.at' hcg, hb4'.at' hci, hb4'.at' hck⟩)
              (first | (go_at_call 116; refine (l1Edge_any _ g _ _ l[i].toNat l[k].toNat (Int.toNat_of_nonneg Hin.out.1).symm (Int.toNat_of_nonneg Hkn.out.1).symm (by have := Hin.out; omega) _ (hGr.out.below (below_dN (Below.refl _ _) 1))).mono ?_; rintro e w4 ⟨rfl, hb4⟩; have hb4' : Below wr.heap.size wr w4 := (below_dN (Below.refl _ _) 1).trans hb4))
            all_goals go_wp2
            all_goals go_meet
            all_goals exact ⟨by rw [hedge.out _ (by have := Hkn.out; omega)], hb4'⟩
          case rest =>
            obtain ⟨rfl, hbc⟩ := hcut
            have HIc := Lib.hid (HI.out.next hbc)
            clear hci hck hcg
            have hb5 := HIc.out.box.cell
            have hf5 := HIc.out.box.free
            have hml := matG_length l.length (uptoE (indE g l) i k)
            cases hE' : indE g l i k
            · go_wp2
              go_roundw
              case rel => exact ⟨k + 1, by omega, by go_num, by rw [← upto_no hE (by omega) hlt2 hE']; exact HIc.out⟩
              case measure => simp [intOf]; omega
            · have hlk : ∀ wz, wz = wc → Calls Tryd.prog 104 #[.agg #[.slice p l.length c], .int .i64 k, .int .i64 i] wz fun e w' => e = .returned (.agg #[.slice p l.length c]) ∧ SG w' W0.heap.size (.agg #[.slice p l.length c]) (matG l.length (uptoE (indE g l) i (k + 1))) ∧ wz.grownBy w' (Value.slice p l.length c).ownBlock := by
                rintro wz rfl
                have := l1Link_any p c (matG l.length (uptoE (indE g l) i k)) k i k i W0.heap.size rfl rfl (by omega) (by omega) (fun j _ => Nat.le_trans (matG_row_le j) hm) wz (by rw [hml]; exact HIc.out.sg)
                rw [hml, upto_yes hE (by omega) hlt2 hE'] at this
                exact this
              have Hlk := Lib.hid hlk
              clear hlk
              go_wp2_with (go_at_call 104; refine (Hlk.out _ rfl).mono ?_; rintro e w6 ⟨rfl, hs6, hg6⟩; have hbx := HIc.out.box.grown hg6 (fun e => by have := (HIc.out.own _ e.symm).2; omega); have hc6 := hbx.cell; have hf6 := hbx.free)
              go_roundw
              case rel => exact ⟨k + 1, by omega, by go_num, HIc.out.link hs6 hg6⟩
              case measure => simp [intOf]; omega
        · obtain rfl : k = i := by omega
          go_wp2
          go_roundw
          case rel => exact ⟨k + 1, by omega, by go_num, by rw [← upto_row hE]; exact HI.out⟩
          case measure => simp [intOf]; omega
    · obtain rfl : i = l.length := by omega
      have hb5 := HI.out.box.cell
      have hbn := HI.out.bel.at (by omega) HBN.out.cell
      have hbf := (HI.out.bel.frozen (p := ⟨w.heap.size + 1, 0, none⟩) (by show w.heap.size + 1 < _; omega)).trans HBN.out.free
      go_wp2
      have hbn2 := HBN.out.below HI.out.bel (by omega)
      refine bodyPost_ret (v := .agg #[.slice p l.length c]) (by simp [results, Tryd.results57, go_sem, hbn]) rfl ⟨_, rfl, ?_, ?_⟩
      · have hs := (HI.out.sg.setBox hbn2 (.slice p l.length c)).base (base' := w.heap.size) (by omega)
        rw [upto_end] at hs
        exact hs
      · exact (HB0.out.trans (HI.out.bel.mono HB0.out.size)).setCell (by show w.heap.size ≤ w.heap.size + 1; omega) _

set_option maxRecDepth 100000 in
theorem specSetOk_any (v lv : Value) (g : List (List Int)) (l : List Int) (hgl : g.length ≤ 1000000000) (w : World) (hg : Gr w v g) (hn : Nums w 2 .i64 lv l) :
    Calls Tryd.prog 56 #[v, lv] w fun e w' => e = .returned (.bool (dec (GOk g ∧ SetIn g.length l))) ∧ Below w.heap.size w w' := by
  have hg0 := hg
  obtain ⟨u, rfl, hr⟩ := hg
  obtain ⟨gp, gc, rfl, _⟩ := hr.shape
  have hbA := Lib.hid (below_alloc w (.cells #[.slice gp g.length gc] 29))
  have BX := Lib.hid (Box.new w (.slice gp g.length gc) 29)
  have HG := Lib.hid (hg0.below hbA.out)
  have HN := Lib.hid (hn.below hbA.out)
  clear hr hg0 hn
  by_cases hok : GOk g
  case neg =>
    have hd := dec_false hok
    have Hok := Lib.hid hok
    clear hok
    go_enter Tryd.func56, Tryd.ntmps56
    go_wp2_with (go_at_call 50; refine (specGraphOk_any _ g _ HG.out).mono ?_; rintro e w2 ⟨rfl, hb2⟩)
    go_ret
    exact ⟨ret_bool (false_dec fun h => Hok.out h.1), hbA.out.trans (hb2.mono hbA.out.size)⟩
  have hd := dec_true hok
  have Hok := Lib.hid hok
  clear hok
  go_enter Tryd.func56, Tryd.ntmps56
  go_wp2_with (first
    | (go_at_call 103; refine (l1Set_any _ l g.length (by omega) (by omega) _ ((HN.out.below hb2).below hb3)).mono ?_; rintro e w4 ⟨rfl, hb4⟩)
    | (go_at_call 60; refine (l1Size_any _ g _ (HG.out.below hb2)).mono ?_; rintro e w3 ⟨rfl, hb3⟩)
    | (go_at_call 50; refine (specGraphOk_any _ g _ HG.out).mono ?_; rintro e w2 ⟨rfl, hb2⟩; have hbx := (BX.out.keep hb2).cell))
  go_ret
  refine ⟨ret_bool (dec_congr ⟨fun h => ⟨Hok.out, h⟩, fun h => h.2⟩), ((hbA.out.trans (hb2.mono hbA.out.size)).trans (hb3.mono (Nat.le_trans hbA.out.size hb2.size))).trans (hb4.mono (Nat.le_trans (Nat.le_trans hbA.out.size hb2.size) hb3.size))⟩

/-- Induced, of a right graph and a set of its vertices that is not empty. -/
theorem specInduced_yes (v lv : Value) (g : List (List Int)) (l : List Int) (hok : GOk g) (hl : SetIn g.length l) (hne : l ≠ []) (w : World) (hg : Gr w v g) (hn : Nums w 2 .i64 lv l) :
    Calls Tryd.prog 14 #[v, lv] w fun e w' => ∃ u, e = .returned (.tuple #[u, .bool true]) ∧ SG w' w.heap.size u (indL g l) ∧ Below w.heap.size w w' := by
  have hg0 := hg
  obtain ⟨u, rfl, hr⟩ := hg
  obtain ⟨gp, gc, rfl, _⟩ := hr.shape
  obtain ⟨lp, lc, rfl, _⟩ := id hn.shape
  have hbA := Lib.hid (below_alloc2 w (.cells #[.slice gp g.length gc] 29) (.cells #[.slice none 0 0] 29))
  have BX := Lib.hid ((Box.new w (.slice gp g.length gc) 29).alloc (.cells #[.slice none 0 0] 29))
  have BN : Hid (Box ((w.alloc (.cells #[.slice gp g.length gc] 29)).alloc (.cells #[.slice none 0 0] 29)) (w.heap.size + 1) 29 (.slice none 0 0)) := by
    have := Box.new (w.alloc (.cells #[.slice gp g.length gc] 29)) (.slice none 0 0) 29
    rw [size_alloc] at this
    exact Lib.hid this
  have HG := Lib.hid (hg0.below hbA.out)
  have HN := Lib.hid (hn.below hbA.out)
  have h16 := hok.le
  have hE := Lib.hid (indE_sym hok hl.1)
  have hl2 := setIn_length (by omega) hl
  have HL1 := Lib.hid hl.1
  have hd := dec_true (show GOk g ∧ SetIn g.length l from ⟨hok, hl⟩)
  have hne' : ((l.length : Int) == 0) = false := by
    have : 0 < l.length := List.length_pos_iff.2 hne
    simp; omega
  clear hr hg0 hn hok hl hne
  go_enter Tryd.func14, Tryd.ntmps14
  go_wp2_with (first
    | (go_at_call 56; refine (specSetOk_any _ _ g l (by omega) _ HG.out HN.out).mono ?_; rintro e w2 ⟨rfl, hb2⟩; have hbx := (BX.out.keep hb2).cell)
    | (go_at_call 57; refine (l2Of_any _ _ g l HL1.out (by omega) hE.out _ (HG.out.below hb2) (HN.out.below hb2)).mono ?_; rintro e w3 ⟨u3, rfl, hs3, hb3⟩; obtain ⟨p3, c3, rfl⟩ := hs3.shape; have hbn := (BN.out.keep hb2).keep hb3; obtain ⟨hnc, hnf, hnl, hnB⟩ := hbn))
  have h0 := hbA.out.size
  have h2 := hb2.size
  rw [size_alloc, size_alloc] at h2
  refine bodyPost_ret (v := .tuple #[.agg #[.slice p3 (indL g l).length c3], .bool true]) (by simp [results, Tryd.results14, go_sem, hnc]) rfl ⟨_, rfl, ?_, ?_⟩
  · exact (hs3.setBox ⟨hnc, hnf, hnl, hnB⟩ _).base (by omega)
  · exact ((hbA.out.trans (hb2.mono hbA.out.size)).trans (hb3.mono (Nat.le_trans hbA.out.size hb2.size))).setCell (by show w.heap.size ≤ w.heap.size + 1; omega) _

end Go.Proofs.YtfokiijcpkhllaaDoor

/- Walks: a copy of a graph; the neighbours that are left. -/
namespace Go.Proofs.YtfokiijcpkhllaaDoor
open Go.RowKit

theorem box_stepB {w wr wc w7 : World} {B k b7 c8 : Nat} {ov x rv : Value} {vals : List Value}
    (hbel : Below B w wr) (hsz : B + 2 ≤ wr.heap.size) (hbc : Below wr.heap.size wr wc)
    (hb2 : Box wr B 29 x) (hb3 : Box wr (B + 1) 29 ov) (hown : wr.ownsRow (B + 2) 32 1 ov k vals)
    (hown7 : w7.ownsRow (B + 2) 32 1 (.slice (some ⟨b7, 0, none⟩) (k + 1) c8) (k + 1) (vals ++ [rv])) (hg7 : wc.grownBy w7 ov.ownBlock) :
    ∃ W, W = w7.setCell ⟨B + 1, 0, none⟩ (.slice (some ⟨b7, 0, none⟩) (k + 1) c8) ∧
      Below B w W ∧ B + 2 ≤ W.heap.size ∧ Box W B 29 x ∧ Box W (B + 1) 29 (.slice (some ⟨b7, 0, none⟩) (k + 1) c8) ∧ W.ownsRow (B + 2) 32 1 (.slice (some ⟨b7, 0, none⟩) (k + 1) c8) (k + 1) (vals ++ [rv]) ∧
      (∀ base size n v (xs : List Value), wc.ownsRow base 2 size v n xs → W.ownsRow base 2 size v n xs) := by
  have hownc := ownsRow_below hown hbc
  have hszc := hbc.size
  have hsz7 := hg7.size
  have hb7 : Below (B + 2) wc w7 := below_grown (Below.refl _ _) hownc hg7 (Nat.le_refl _) (by omega)
  have hb37 : Box w7 (B + 1) 29 ov := (hb3.keep hbc).below hb7 (by omega)
  have hb9 : Below (B + 1) w7 (w7.setCell ⟨B + 1, 0, none⟩ (.slice (some ⟨b7, 0, none⟩) (k + 1) c8)) := (Below.refl _ _).setCell (by show B + 1 ≤ B + 1; omega) _
  have hall : Below (B + 1) wr (w7.setCell ⟨B + 1, 0, none⟩ (.slice (some ⟨b7, 0, none⟩) (k + 1) c8)) := ((hbc.mono (by omega)).trans (hb7.mono (by omega))).trans hb9
  refine ⟨_, rfl, hbel.trans (hall.mono (by omega)), by have := hall.size; omega, hb2.below hall (by omega), hb37.set _, ownsRow_setBox hown7 hb37 (by decide) _, fun base size n v xs h => ?_⟩
  exact ownsRow_setBox (ownsRow_other h hownc hg7 (by decide)) hb37 (by decide) _

theorem three_boxes (w : World) (u : Value) : ∃ W, W = ((w.alloc (.cells #[u] 29)).alloc (.cells #[.slice none 0 0] 29)).alloc (.cells #[.slice none 0 0] 29) ∧ Below w.heap.size w W ∧ W.heap.size = w.heap.size + 3 ∧
    Box W w.heap.size 29 u ∧ Box W (w.heap.size + 1) 29 (.slice none 0 0) ∧ Box W (w.heap.size + 1 + 1) 29 (.slice none 0 0) := by
  refine ⟨_, rfl, below_alloc3 _ _ _ _, by rw [size_alloc, size_alloc, size_alloc], ((Box.new w _ _).alloc _).alloc _, ?_, ?_⟩
  · have := (Box.new (w.alloc (.cells #[u] 29)) (.slice none 0 0) 29).alloc (.cells #[.slice none 0 0] 29)
    rw [size_alloc] at this
    exact this
  · have := Box.new ((w.alloc (.cells #[u] 29)).alloc (.cells #[.slice none 0 0] 29)) (.slice none 0 0) 29
    rw [size_alloc, size_alloc] at this
    exact this

set_option maxRecDepth 100000 in
set_option maxHeartbeats 4000000 in
theorem l1CopyGraph_any (v : Value) (g : List (List Int)) (hl : g.length ≤ 1000) (hrl : ∀ j, (row g j).length ≤ 1000) (w : World) (hg : Gr w v g) :
    Calls Tryd.prog 143 #[v] w fun e w' => ∃ u, e = .returned u ∧ SG w' w.heap.size u g ∧ Below w.heap.size w w' := by
  obtain ⟨u, rfl, hr⟩ := hg
  obtain ⟨p, c, rfl, _⟩ := hr.shape
  have START := Lib.hid (three_boxes w (.slice p g.length c))
  have HR := Lib.hid hr
  have HRL := Lib.hid hrl
  clear hr hrl
  go_enter Tryd.func143, Tryd.ntmps143
  go_upto_region 3 with fail
  go_loopw [4] (fun i wr => ∃ (k : Nat) (ov : Value) (vals : List Value), k ≤ g.length ∧ i = .int .i64 k ∧ Below w.heap.size w wr ∧ Below (w.heap.size + 1) wr wr ∧ w.heap.size + 1 + 2 ≤ wr.heap.size ∧ Box wr w.heap.size 29 (.slice p g.length c) ∧
      Box wr (w.heap.size + 1) 29 (.slice none 0 0) ∧ Box wr (w.heap.size + 1 + 1) 29 ov ∧ wr.ownsRow (w.heap.size + 1 + 2) 32 1 ov k vals ∧ vals.length = k ∧
      ∀ j, j < k → wr.ownsRow (w.heap.size + 1 + 2) 2 1 (vals.getD j undef) (row g j).length ((row g j).map (Value.int .i64)))
    (fun i _ => g.length - (intOf i).toNat)
  case atStart =>
    obtain ⟨W, rfl, h1, h2, h3, h4, h5⟩ := START.out
    exact ⟨0, _, [], Nat.zero_le _, rfl, h1, Below.refl _ _, by omega, h3, h4, h5, World.ownsRow_nil _ _ _ _, rfl, fun j hj => by omega⟩
  case round =>
    obtain ⟨k, ov, vals, hk, rfl, hbel, _, hsz, hbx, hb2, hb3, hown, hvl, hrows⟩ := hrel
    have Hvl := Lib.hid hvl
    have Hrows := Lib.hid hrows
    have Hb2 := Lib.hid hb2
    have Hb3 := Lib.hid hb3
    have Hbx := Lib.hid hbx
    have Hown := Lib.hid hown
    have cbx := hbx.cell
    obtain ⟨p9, c9, rfl⟩ : ∃ p c, ov = .slice p k c := by
      rcases hown.2 with ⟨h1, h2⟩ | ⟨g1, cap, cur, h1, _⟩
      · exact ⟨none, 0, by rw [h1, h2]⟩
      · exact ⟨_, _, h1⟩
    clear hvl hrows hb3 hb2 hown hbx
    by_cases hlt : k < g.length
    · obtain ⟨b, o, rp, rc, rfl, hcell, hnums⟩ := (HR.out.below hbel).get hlt
      change wr.cell? _ = some (.slice rp (row g k).length rc) at hcell
      change Nums wr _ _ (.slice rp (row g k).length rc) (row g k) at hnums
      have Hnums := Lib.hid hnums
      obtain ⟨c3, f3, _, _⟩ := Hb3.out
      obtain ⟨m, hm⟩ : ∃ m, m = (row g k).length := ⟨_, rfl⟩
      have Hm := Lib.hid hm
      have hrk := HRL.out k
      rw [← hm] at hcell Hnums hrk
      clear hnums hm
      go_upto_region 5 with fail
      go_region_law (first
        | (go_simp; go_at_call 127; refine (l1Copy_any _ m ((row g k).map (Value.int .i64)) (fun x hx => by obtain ⟨y, _, rfl⟩ := List.mem_map.1 hx; rfl) (by rw [List.length_map]; exact Hm.out.symm) _ (Sl.below (show Sl wr 2 (.slice rp m rc) m _ from (by have h := Hnums.out; unfold Nums at h; rw [← Hm.out] at h; exact h)) (below_dN (Below.refl _ _) 1))).mono ?_; rintro e w5 ⟨rv, rfl, hown5, hb5⟩; obtain ⟨rvp, rvc, hrv⟩ : ∃ p c, rv = .slice p m c := (by rcases hown5.2 with ⟨rfl, h0⟩ | ⟨b, c, _, rfl, _⟩; exact ⟨none, 0, by rw [h0]⟩; exact ⟨_, _, rfl⟩); subst hrv; have hb5' : Below wr.heap.size wr w5 := ⟨hb5.os, hb5.tape, hb5.output, hb5.size, hb5.block⟩; have hown5' : w5.ownsRow wr.heap.size 2 1 (.slice rvp m rvc) m ((row g k).map (Value.int .i64)) := hown5; have hownc := ownsRow_below Hown.out hb5'; have hs5 := hb5'.size; have hbx5 := hb5'.at' c3; have hbx5a := fun o => (below_alloc w5 o).at' hbx5; have hcx5 := hb5'.at' cbx; have hcx5a := fun o => (below_alloc w5 o).at' hcx5; have hcl5 := hb5'.at' hcell; clear hb5 hown5)
        | (refine step_app1s ty_rows rfl rfl rfl hownc rfl rfl (by omega) (by omega) ?_; intro b7 c8 w7 hown7 hg7; have hb7 := below_grown (Below.refl (w.heap.size + 1 + 2) w5) hownc hg7 (Nat.le_refl _) (by omega); have hob7 := hb7.at (by omega) hbx5; have hof7 := (hb7.frozen (p := ⟨w.heap.size + 1 + 1, 0, none⟩) (by show w.heap.size + 1 + 1 < _; omega)).trans ((hb5'.frozen (p := ⟨w.heap.size + 1 + 1, 0, none⟩) (by show w.heap.size + 1 + 1 < _; omega)).trans f3)))
      all_goals go_wp2
      all_goals go_roundw
      all_goals first
        | (simp [intOf]; omega)
        | skip
      all_goals
        have hb0 : Below (w.heap.size + 1) wr wr := Below.refl _ _
        obtain ⟨W, hW, r1, r2, r3, r4, r5, r6⟩ := box_stepB hb0 hsz hb5' Hb2.out Hb3.out Hown.out hown7 hg7
        subst hW
        have hbW : Below w.heap.size w _ := hbel.trans (r1.mono (by omega))
        refine ⟨k + 1, _, _, by omega, by go_num, hbW, Below.refl _ _, r2, Hbx.out.below r1 (by omega), r3, r4, r5, by simp [Hvl.out], fun j hj => ?_⟩
        by_cases e : j = k
        · subst e
          rw [show (vals ++ [Value.slice rvp m rvc]).getD j undef = .slice rvp m rvc from by rw [← Hvl.out]; exact getD_append_last _ _ _]
          rw [← Hm.out]
          exact ownsRow_base (r6 _ _ _ _ _ hown5') (by omega)
        · rw [getD_append_left _ _ _ _ (by have := Hvl.out; omega)]
          exact r6 _ _ _ _ _ (ownsRow_below (Hrows.out j (by omega)) hb5')
    · obtain rfl : k = g.length := by omega
      obtain ⟨k2c, k2f, _⟩ := Hb2.out
      obtain ⟨k3c, k3f, _⟩ := Hb3.out
      go_wp2
      refine bodyPost_ret (v := .agg #[.slice p9 g.length c9]) (by simp [results, Tryd.results143, go_sem, k2c]) rfl ⟨_, rfl, ⟨_, vals, rfl, Hvl.out, ?_, fun j hj => ?_⟩, ?_⟩
      · exact ownsRow_base (ownsRow_setBox Hown.out Hb2.out (by decide) _) (by omega)
      · exact Nums.of_owns (ownsRow_setBox (Hrows.out j hj) Hb2.out (by decide) _) rfl (by have := HRL.out j; omega)
      · exact hbel.setCell (by show w.heap.size ≤ w.heap.size + 1; omega) _

end Go.Proofs.YtfokiijcpkhllaaDoor

/- Walks: the neighbours of a vertex that are left; all of a list linked. -/
namespace Go.Proofs.YtfokiijcpkhllaaDoor
open Go.RowKit

structure CQ (w wr : World) (base : Nat) (p : Option Addr) (c m : Nat) (lv : Value) (L : List Nat) (gg : List (List Int)) : Prop where
  sg : SG wr base (.agg #[.slice p m c]) gg
  box : Box wr w.heap.size 29 (.slice p m c)
  res : Box wr (w.heap.size + 1) 29 (.slice none 0 0)
  grown : w.grownBy wr (Value.slice p m c).ownBlock
  list : Nums wr 2 .i64 lv (natInts L)
  own : ∀ k, (Value.slice p m c).ownBlock = some k → k < w.heap.size

theorem SG.other {w w' : World} {base : Nat} {u v : Value} {g : List (List Int)} {xs : List Int} (h : SG w base (.agg #[u]) g) (hn : Nums w 2 .i64 v xs) (hg : w.grownBy w' u.ownBlock) : Nums w' 2 .i64 v xs := by
  obtain ⟨u0, vals, h1, h2, h3, h4⟩ := h
  cases h1
  exact hn.other h3 hg (by decide)

theorem CQ.link {w wr w2 : World} {base : Nat} {p : Option Addr} {c m : Nat} {lv : Value} {L : List Nat} {gg gg' : List (List Int)} (h : CQ w wr base p c m lv L gg)
    (hs : SG w2 base (.agg #[.slice p m c]) gg') (hg : wr.grownBy w2 (Value.slice p m c).ownBlock) : CQ w (w2.setCell ⟨w.heap.size, 0, none⟩ (.slice p m c)) base p c m lv L gg' := by
  have hbox := h.box.grown hg (fun e => by have := h.own _ e.symm; omega)
  have hres := h.res.grown hg (fun e => by have := h.own _ e.symm; omega)
  have hgr := grown_trans h.grown hg
  refine ⟨hs.setBox hbox _, hbox.set _, hres.setOther (by show w.heap.size + 1 ≠ w.heap.size; omega) _, ⟨hgr.os, hgr.tape, hgr.output, by have := hgr.size; simpa [World.setCell] using this, fun b hb hne => ?_⟩, (h.sg.other h.list hg).setBox hbox (by decide) _, h.own⟩
  rw [Below.heap_setCell _ _ _ _ (by show b ≠ w.heap.size; omega)]
  exact hgr.block b hb hne

theorem natInts_get {L : List Nat} {i : Nat} (h : i < L.length) : (natInts L)[i]'(by rw [natInts_length]; exact h) = ((L[i] : Nat) : Int) := by simp [natInts]

set_option maxRecDepth 100000 in
set_option maxHeartbeats 4000000 in
theorem l7Clique_any (p : Option Addr) (c m base : Nat) (lv : Value) (L : List Nat) (E : Nat → Nat → Bool) (hm : m ≤ 1000) (hs : L.Pairwise (· < ·)) (hL : ∀ x ∈ L, x < m) (w : World)
    (hsg : SG w base (.agg #[.slice p m c]) (matG m E)) (hn : Nums w 2 .i64 lv (natInts L)) :
    Calls Tryd.prog 144 #[.agg #[.slice p m c], lv] w fun e w' => e = .returned (.agg #[.slice p m c]) ∧ SG w' base (.agg #[.slice p m c]) (matG m (cliqE E L L.length 0)) ∧ w.grownBy w' (Value.slice p m c).ownBlock := by
  obtain ⟨lp, lc, rfl, _⟩ := id hn.shape
  have hll := natInts_length L
  have hL9 : L.length ≤ 1000000000 := by
    obtain ⟨_, _, _, _, _, h9, _⟩ := id hn.shape
    rw [hll] at h9; exact h9
  rw [hll]
  have hbb := below_alloc2 w (.cells #[.slice p m c] 29) (.cells #[.slice none 0 0] 29)
  have START : Hid (CQ w ((w.alloc (.cells #[.slice p m c] 29)).alloc (.cells #[.slice none 0 0] 29)) base p c m (.slice lp (natInts L).length lc) L (matG m (cliqE E L 0 0))) := Lib.hid
    ⟨by rw [cliq_start]; exact hsg.below hbb, (Box.new _ _ _).alloc _, by have := Box.new (w.alloc (.cells #[.slice p m c] 29)) (.slice none 0 0) 29; rw [size_alloc] at this; exact this, grown_of_below hbb _, hn.below hbb, fun k hk => (hsg.lt k hk).2⟩
  rw [hll] at START
  have HLL := Lib.hid hll
  clear hsg hn hbb hll
  go_enter Tryd.func144, Tryd.ntmps144
  go_upto_region 2 with fail
  go_loopw [5] (fun i wr => ∃ k : Nat, k ≤ L.length ∧ i = .int .i64 k ∧ CQ w wr base p c m (.slice lp L.length lc) L (matG m (cliqE E L k 0))) (fun i _ => L.length - (intOf i).toNat)
  case atStart => exact ⟨0, Nat.zero_le _, rfl, START.out⟩
  case round =>
    obtain ⟨i, hi, rfl, hC⟩ := hrel
    have HC := Lib.hid hC
    clear hC
    by_cases hlt : i < L.length
    · go_wp2_with fail
      go_loopw [6] (fun i' wr => ∃ k : Nat, k ≤ i ∧ i' = .int .i64 k ∧ CQ w wr base p c m (.slice lp L.length lc) L (matG m (cliqE E L i k))) (fun i' _ => i - (intOf i').toNat)
      case atStart => exact ⟨0, Nat.zero_le _, rfl, HC.out⟩
      case round =>
        clear HC
        obtain ⟨k, hk, rfl, hC⟩ := hrel
        have HC := Lib.hid hC
        clear hC
        by_cases hlt2 : k < i
        · have hkl : k < L.length := by omega
          have hn' := HC.out.list
          rw [← HLL.out] at hn'
          obtain ⟨b, o, rfl, hci⟩ := hn'.get (k := i) (by rw [HLL.out]; exact hlt)
          obtain ⟨_, _, hbo, hck⟩ := hn'.get (k := k) (by rw [HLL.out]; exact hkl)
          cases hbo
          rw [natInts_get hlt] at hci
          rw [natInts_get hkl] at hck
          have hlk : ∀ wz, wz = wr.drew → Calls Tryd.prog 104 #[.agg #[.slice p m c], .int .i64 (L[k] : Nat), .int .i64 (L[i] : Nat)] wz fun e w' => e = .returned (.agg #[.slice p m c]) ∧ SG w' base (.agg #[.slice p m c]) (matG m (cliqE E L i (k + 1))) ∧ wz.grownBy w' (Value.slice p m c).ownBlock := by
            rintro wz rfl
            have hml := matG_length m (cliqE E L i k)
            have := l1Link_any p c (matG m (cliqE E L i k)) L[k] L[i] L[k] L[i] base rfl rfl (by rw [hml]; exact hL _ (List.getElem_mem _)) (by rw [hml]; exact hL _ (List.getElem_mem _)) (fun j _ => Nat.le_trans (matG_row_le j) hm) wr.drew (by rw [hml]; exact HC.out.sg.below (below_dN (Below.refl _ _) 1))
            rw [hml, cliq_step hs hL hlt hlt2] at this
            exact this
          have Hlk := Lib.hid hlk
          have hb5 := HC.out.box.cell
          have hf5 := HC.out.box.free
          have e0 : (0 : Int) ≤ (k : Int) := by omega
          have e1 : (k : Int) < (L.length : Int) := by omega
          have e2 : (i : Int) < (L.length : Int) := by omega
          clear hn' hlk
          go_upto_region 7 with fail
          go_region_law (first | (go_simp; go_at_call 104; refine (Hlk.out _ rfl).mono ?_; rintro e w6 ⟨rfl, hs6, hg6⟩; have hg6' : wr.grownBy w6 (Value.slice p m c).ownBlock := ⟨hg6.os, (hg6.tape).trans rfl, hg6.output, hg6.size, hg6.block⟩; have hbx := HC.out.box.grown hg6' (fun e => by have := HC.out.own _ e.symm; omega); have hc6 := hbx.cell; have hf6 := hbx.free))
          all_goals go_wp2
          all_goals go_roundw
          all_goals first
            | exact ⟨k + 1, by omega, by go_num, HC.out.link hs6 hg6'⟩
            | (simp [intOf]; omega)
        · obtain rfl : k = i := by omega
          go_wp2
          go_roundw
          case rel => exact ⟨k + 1, by omega, by go_num, by rw [← cliq_row hs hlt]; exact HC.out⟩
          case measure => simp [intOf]; omega
    · obtain rfl : i = L.length := by omega
      have hb5 := HC.out.box.cell
      obtain ⟨nc, nf, _, _⟩ := HC.out.res
      go_wp2
      refine bodyPost_ret (v := .agg #[.slice p m c]) (by simp [results, Tryd.results144, go_sem, nc]) rfl ⟨rfl, HC.out.sg.setBox HC.out.res _, ?_⟩
      have hgr := HC.out.grown
      refine ⟨hgr.os, hgr.tape, hgr.output, by have := hgr.size; simpa [World.setCell] using this, fun b hb hne => ?_⟩
      rw [Below.heap_setCell _ _ _ _ (by show b ≠ w.heap.size + 1; omega)]
      exact hgr.block b hb hne

end Go.Proofs.YtfokiijcpkhllaaDoor
