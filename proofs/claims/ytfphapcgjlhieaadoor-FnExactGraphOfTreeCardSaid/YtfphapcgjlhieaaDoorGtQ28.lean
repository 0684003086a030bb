/- Walks: the reference's graph of some listed vertices. -/
import Derived.Test.YtfphapcgjlhieaaDoorGtQ27
namespace Go.Proofs.YtfphapcgjlhieaaDoor
open Go.RowKit

theorem SG.setBox {w : World} {base b : Nat} {v x : Value} {g : List (List Int)} (h : SG w base v g) (hb : Box w b 26 x) (u : Value) : SG (w.setCell ⟨b, 0, none⟩ u) base v g := by
  obtain ⟨u0, vals, h1, h2, h3, h4⟩ := h
  exact ⟨u0, vals, h1, h2, ownsRow_setBox h3 hb (by decide) _, fun j hj => (h4 j hj).setBox hb (by decide) _⟩
theorem SG.base {w : World} {base base' : Nat} {v : Value} {g : List (List Int)} (h : SG w base v g) (hb : base' ≤ base) : SG w base' v g := by
  obtain ⟨u0, vals, h1, h2, h3, h4⟩ := h
  exact ⟨u0, vals, h1, h2, ownsRow_base h3 hb, h4⟩
theorem SG.lt {w : World} {base : Nat} {u : Value} {g : List (List Int)} (h : SG w base (.agg #[u]) g) : ∀ k, u.ownBlock = some k → base ≤ k ∧ k < w.heap.size := by
  obtain ⟨u0, vals, h1, h2, h3, h4⟩ := h
  cases h1
  exact fun k hk => h3.lt k hk

structure L2I (W0 wr : World) (b5 : Nat) (p : Option Addr) (c m : Nat) (gg : List (List Int)) : Prop where
  sg : SG wr W0.heap.size (.agg #[.slice p m c]) gg
  bel : Below W0.heap.size W0 wr
  box : Box wr b5 26 (.slice p m c)
  own : ∀ k, (Value.slice p m c).ownBlock = some k → W0.heap.size ≤ k ∧ k < b5
  b5 : W0.heap.size ≤ b5

theorem L2I.next {W0 wr wx : World} {b5 : Nat} {p : Option Addr} {c m : Nat} {gg : List (List Int)} (h : L2I W0 wr b5 p c m gg) (hb : Below wr.heap.size wr wx) : L2I W0 wx b5 p c m gg :=
  ⟨h.sg.below hb, h.bel.trans (hb.mono h.bel.size), h.box.keep hb, h.own, h.b5⟩
theorem L2I.link {W0 wr w2 : World} {b5 : Nat} {p : Option Addr} {c m : Nat} {gg gg' : List (List Int)} (h : L2I W0 wr b5 p c m gg) (hs : SG w2 W0.heap.size (.agg #[.slice p m c]) gg') (hg : wr.grownBy w2 (Value.slice p m c).ownBlock) :
    L2I W0 (w2.setCell ⟨b5, 0, none⟩ (.slice p m c)) b5 p c m gg' := by
  have hbox := h.box.grown hg (fun e => by have := (h.own b5 e.symm).2; omega)
  exact ⟨hs.setBox hbox _, (h.bel.grown hg h.bel.size (fun k hk => (h.own k hk).1)).setCell h.b5 _, hbox.set _, h.own, h.b5⟩

set_option maxRecDepth 100000 in
set_option maxHeartbeats 4000000 in
theorem l2Of_any (v lv : Value) (g : List (List Int)) (l : List Int) (hl : ∀ x ∈ l, 0 ≤ x ∧ x < g.length) (hm : l.length ≤ 1000) (hE : SymE l.length (indE g l)) (w : World) (hg : Gr w v g) (hn : Nums w 2 .i64 lv l) :
    Calls Tryd.prog 152 #[v, lv] w fun e w' => ∃ u, e = .returned u ∧ SG w' w.heap.size u (indL g l) ∧ Below w.heap.size w w' := by
  have hg0 := hg
  obtain ⟨u, rfl, hr⟩ := hg
  obtain ⟨gp, gc, rfl, _⟩ := hr.shape
  obtain ⟨lp, lc, rfl, _⟩ := id hn.shape
  obtain ⟨W0, hW0⟩ : ∃ W0, W0 = (w.alloc (.cells #[.slice gp g.length gc] 26)).alloc (.cells #[.slice none 0 0] 26) := ⟨_, rfl⟩
  have hb0 : Below w.heap.size w W0 := by rw [hW0]; exact below_alloc2 _ _ _
  have hbg : Box W0 w.heap.size 26 (.slice gp g.length gc) := by rw [hW0]; exact (Box.new _ _ _).alloc _
  have hbn : Box W0 (w.heap.size + 1) 26 (.slice none 0 0) := by
    have := Box.new (w.alloc (.cells #[.slice gp g.length gc] 26)) (.slice none 0 0) 26
    rw [size_alloc] at this
    rw [hW0]; exact this
  have HW0 := Lib.hid hW0
  have HB0 := Lib.hid hb0
  have HBG := Lib.hid hbg
  have HBN := Lib.hid hbn
  have HG := Lib.hid (hg0.below hb0)
  have HN := Lib.hid (hn.below hb0)
  have sz0 : W0.heap.size = w.heap.size + 2 := by rw [hW0, size_alloc, size_alloc]
  clear hr hn hg0 hb0 hbg hbn
  go_enter Tryd.func152, Tryd.ntmps152
  go_upto_region 1 with fail
  rw [← hW0]
  clear hW0
  go_upto_region 2 with (go_at_call 124; refine (l1Empty_any _ l.length rfl hm _).mono ?_; rintro e w3 ⟨u3, rfl, hs3, hb3⟩; obtain ⟨p, c, rfl⟩ := hs3.shape; rw [List.length_replicate] at hs3 ⊢)
  have hlen : (List.replicate l.length ([] : List Int)).length = l.length := by simp
  have START : Hid (L2I W0 (w3.alloc (.cells #[.slice p l.length c] 26)) w3.heap.size p c l.length (matG l.length (uptoE (indE g l) 0 0))) := Lib.hid
    ⟨by rw [upto_start]; exact hs3.below (below_alloc _ _), hb3.alloc hb3.size _, Box.new _ _ _, hs3.lt, hb3.size⟩
  clear hs3 hb3 hlen
  go_wp2_with fail
  go_loopw [6] (fun i wr => ∃ k : Nat, k ≤ l.length ∧ i = .int .i64 k ∧ L2I W0 wr w3.heap.size p c l.length (matG l.length (uptoE (indE g l) k 0))) (fun i _ => l.length - (intOf i).toNat)
  case atStart => exact ⟨0, Nat.zero_le _, rfl, START.out⟩
  case round =>
    obtain ⟨i, hi, rfl, hI⟩ := hrel
    have HI := Lib.hid hI
    clear hI
    by_cases hlt : i < l.length
    · have hin := hl _ (List.getElem_mem hlt)
      go_wp2_with fail
      go_loopw [7] (fun i' wr => ∃ k : Nat, k ≤ i ∧ i' = .int .i64 k ∧ L2I W0 wr w3.heap.size p c l.length (matG l.length (uptoE (indE g l) i k))) (fun i' _ => i - (intOf i').toNat)
      case atStart => exact ⟨0, Nat.zero_le _, rfl, HI.out⟩
      case round =>
        clear HI
        obtain ⟨k, hk, rfl, hI⟩ := hrel
        have HI := Lib.hid hI
        clear hI
        by_cases hlt2 : k < i
        · have hkl : k < l.length := by omega
          have hkn := hl _ (List.getElem_mem hkl)
          obtain ⟨_, _, e1, _, _, _, hat⟩ := id (HN.out.below HI.out.bel).shape
          cases e1
          obtain ⟨b, o, rfl, hci⟩ := hat.num hlt
          obtain ⟨_, _, hbo, hck⟩ := hat.num hkl
          cases hbo
          have hcg := HI.out.bel.at (by omega) HBG.out.cell
          have hGr := Lib.hid (HG.out.below HI.out.bel)
          have hedge : Hid (∀ x, x = l[k] → dec (x ∈ row g l[i].toNat) = indE g l i k) := Lib.hid (by
            rintro x rfl
            unfold indE
            rw [getD_int hlt, getD_int hkl, decide_dec])
          have e0 : (0 : Int) ≤ (k : Int) := by omega
          have e1 : (k : Int) < (l.length : Int) := by omega
          have e2 : (i : Int) < (l.length : Int) := by omega
          have Hin := Lib.hid hin
          have Hkn := Lib.hid hkn
          clear hat hin hkn
          go_upto_region 8 with fail
          go_cut [31] (fun s wx => s = .bool (indE g l i k) ∧ Below wr.heap.size wr wx)
          case first =>
            go_region_held3 (fun w' => w'.cell? ⟨w.heap.size, 0, none⟩ = some (.slice gp g.length gc) ∧ w'.cell? ⟨b, o + i, none⟩ = some (.int .i64 l[i]) ∧ w'.cell? ⟨b, o + k, none⟩ = some (.int .i64 l[k]))
              (first | go_keep | exact ⟨hb4'.at' hcg, hb4'.at' hci, hb4'.at' hck⟩)
              (first | (go_at_call 132; refine (l1Edge_any _ g _ _ l[i].toNat l[k].toNat (Int.toNat_of_nonneg Hin.out.1).symm (Int.toNat_of_nonneg Hkn.out.1).symm (by have := Hin.out; omega) _ (hGr.out.below (below_dN (Below.refl _ _) 1))).mono ?_; rintro e w4 ⟨rfl, hb4⟩; have hb4' : Below wr.heap.size wr w4 := (below_dN (Below.refl _ _) 1).trans hb4))
            all_goals go_wp2
            all_goals go_meet
            all_goals exact ⟨by rw [hedge.out _ (by have := Hkn.out; omega)], hb4'⟩
          case rest =>
            obtain ⟨rfl, hbc⟩ := hcut
            have HIc := Lib.hid (HI.out.next hbc)
            clear hci hck hcg
            have hb5 := HIc.out.box.cell
            have hf5 := HIc.out.box.free
            have hml := matG_length l.length (uptoE (indE g l) i k)
            cases hE' : indE g l i k
            · go_wp2
              go_roundw
              case rel => exact ⟨k + 1, by omega, by go_num, by rw [← upto_no hE (by omega) hlt2 hE']; exact HIc.out⟩
              case measure => simp [intOf]; omega
            · have hlk : ∀ wz, wz = wc → Calls Tryd.prog 126 #[.agg #[.slice p l.length c], .int .i64 k, .int .i64 i] wz fun e w' => e = .returned (.agg #[.slice p l.length c]) ∧ SG w' W0.heap.size (.agg #[.slice p l.length c]) (matG l.length (uptoE (indE g l) i (k + 1))) ∧ wz.grownBy w' (Value.slice p l.length c).ownBlock := by
                rintro wz rfl
                have := l1Link_any p c (matG l.length (uptoE (indE g l) i k)) k i k i W0.heap.size rfl rfl (by omega) (by omega) (fun j _ => Nat.le_trans (matG_row_le j) hm) wz (by rw [hml]; exact HIc.out.sg)
                rw [hml, upto_yes hE (by omega) hlt2 hE'] at this
                exact this
              have Hlk := Lib.hid hlk
              clear hlk
              go_wp2_with (go_at_call 126; refine (Hlk.out _ rfl).mono ?_; rintro e w6 ⟨rfl, hs6, hg6⟩; have hbx := HIc.out.box.grown hg6 (fun e => by have := (HIc.out.own _ e.symm).2; omega); have hc6 := hbx.cell; have hf6 := hbx.free)
              go_roundw
              case rel => exact ⟨k + 1, by omega, by go_num, HIc.out.link hs6 hg6⟩
              case measure => simp [intOf]; omega
        · obtain rfl : k = i := by omega
          go_wp2
          go_roundw
          case rel => exact ⟨k + 1, by omega, by go_num, by rw [← upto_row hE]; exact HI.out⟩
          case measure => simp [intOf]; omega
    · obtain rfl : i = l.length := by omega
      have hb5 := HI.out.box.cell
      have hbn := HI.out.bel.at (by omega) HBN.out.cell
      have hbf := (HI.out.bel.frozen (p := ⟨w.heap.size + 1, 0, none⟩) (by show w.heap.size + 1 < _; omega)).trans HBN.out.free
      go_wp2
      have hbn2 := HBN.out.below HI.out.bel (by omega)
      refine bodyPost_ret (v := .agg #[.slice p l.length c]) (by simp [results, Tryd.results152, go_sem, hbn]) rfl ⟨_, rfl, ?_, ?_⟩
      · have hs := (HI.out.sg.setBox hbn2 (.slice p l.length c)).base (base' := w.heap.size) (by omega)
        rw [upto_end] at hs
        exact hs
      · exact (HB0.out.trans (HI.out.bel.mono HB0.out.size)).setCell (by show w.heap.size ≤ w.heap.size + 1; omega) _

set_option maxRecDepth 100000 in
theorem specSetOk_any (v lv : Value) (g : List (List Int)) (l : List Int) (hgl : g.length ≤ 1000000000) (w : World) (hg : Gr w v g) (hn : Nums w 2 .i64 lv l) :
    Calls Tryd.prog 102 #[v, lv] w fun e w' => e = .returned (.bool (dec (GOk g ∧ SetIn g.length l))) ∧ Below w.heap.size w w' := by
  have hg0 := hg
  obtain ⟨u, rfl, hr⟩ := hg
  obtain ⟨gp, gc, rfl, _⟩ := hr.shape
  have hbA := Lib.hid (below_alloc w (.cells #[.slice gp g.length gc] 26))
  have BX := Lib.hid (Box.new w (.slice gp g.length gc) 26)
  have HG := Lib.hid (hg0.below hbA.out)
  have HN := Lib.hid (hn.below hbA.out)
  clear hr hg0 hn
  by_cases hok : GOk g
  case neg =>
    have hd := dec_false hok
    have Hok := Lib.hid hok
    clear hok
    go_enter Tryd.func102, Tryd.ntmps102
    go_wp2_with (go_at_call 79; refine (specGraphOk_any _ g _ HG.out).mono ?_; rintro e w2 ⟨rfl, hb2⟩)
    go_ret
    exact ⟨ret_bool (false_dec fun h => Hok.out h.1), hbA.out.trans (hb2.mono hbA.out.size)⟩
  have hd := dec_true hok
  have Hok := Lib.hid hok
  clear hok
  go_enter Tryd.func102, Tryd.ntmps102
  go_wp2_with (first
    | (go_at_call 125; refine (l1Set_any _ l g.length (by omega) (by omega) _ ((HN.out.below hb2).below hb3)).mono ?_; rintro e w4 ⟨rfl, hb4⟩)
    | (go_at_call 104; refine (l1Size_any _ g _ (HG.out.below hb2)).mono ?_; rintro e w3 ⟨rfl, hb3⟩)
    | (go_at_call 79; refine (specGraphOk_any _ g _ HG.out).mono ?_; rintro e w2 ⟨rfl, hb2⟩; have hbx := (BX.out.keep hb2).cell))
  go_ret
  refine ⟨ret_bool (dec_congr ⟨fun h => ⟨Hok.out, h⟩, fun h => h.2⟩), ((hbA.out.trans (hb2.mono hbA.out.size)).trans (hb3.mono (Nat.le_trans hbA.out.size hb2.size))).trans (hb4.mono (Nat.le_trans (Nat.le_trans hbA.out.size hb2.size) hb3.size))⟩

/-- Induced, of a right graph and a set of its vertices that is not empty. -/
theorem specInduced_yes (v lv : Value) (g : List (List Int)) (l : List Int) (hok : GOk g) (hl : SetIn g.length l) (hne : l ≠ []) (w : World) (hg : Gr w v g) (hn : Nums w 2 .i64 lv l) :
    Calls Tryd.prog 119 #[v, lv] w fun e w' => ∃ u, e = .returned (.tuple #[u, .bool true]) ∧ SG w' w.heap.size u (indL g l) ∧ Below w.heap.size w w' := by
  have hg0 := hg
  obtain ⟨u, rfl, hr⟩ := hg
  obtain ⟨gp, gc, rfl, _⟩ := hr.shape
  obtain ⟨lp, lc, rfl, _⟩ := id hn.shape
  have hbA := Lib.hid (below_alloc2 w (.cells #[.slice gp g.length gc] 26) (.cells #[.slice none 0 0] 26))
  have BX := Lib.hid ((Box.new w (.slice gp g.length gc) 26).alloc (.cells #[.slice none 0 0] 26))
  have BN : Hid (Box ((w.alloc (.cells #[.slice gp g.length gc] 26)).alloc (.cells #[.slice none 0 0] 26)) (w.heap.size + 1) 26 (.slice none 0 0)) := by
    have := Box.new (w.alloc (.cells #[.slice gp g.length gc] 26)) (.slice none 0 0) 26
    rw [size_alloc] at this
    exact Lib.hid this
  have HG := Lib.hid (hg0.below hbA.out)
  have HN := Lib.hid (hn.below hbA.out)
  have h16 := hok.le
  have hE := Lib.hid (indE_sym hok hl.1)
  have hl2 := setIn_length (by omega) hl
  have HL1 := Lib.hid hl.1
  have hd := dec_true (show GOk g ∧ SetIn g.length l from ⟨hok, hl⟩)
  have hne' : ((l.length : Int) == 0) = false := by
    have : 0 < l.length := List.length_pos_iff.2 hne
    simp; omega
  clear hr hg0 hn hok hl hne
  go_enter Tryd.func119, Tryd.ntmps119
  go_wp2_with (first
    | (go_at_call 102; refine (specSetOk_any _ _ g l (by omega) _ HG.out HN.out).mono ?_; rintro e w2 ⟨rfl, hb2⟩; have hbx := (BX.out.keep hb2).cell)
    | (go_at_call 152; refine (l2Of_any _ _ g l HL1.out (by omega) hE.out _ (HG.out.below hb2) (HN.out.below hb2)).mono ?_; rintro e w3 ⟨u3, rfl, hs3, hb3⟩; obtain ⟨p3, c3, rfl⟩ := hs3.shape; have hbn := (BN.out.keep hb2).keep hb3; obtain ⟨hnc, hnf, hnl, hnB⟩ := hbn))
  have h0 := hbA.out.size
  have h2 := hb2.size
  rw [size_alloc, size_alloc] at h2
  refine bodyPost_ret (v := .tuple #[.agg #[.slice p3 (indL g l).length c3], .bool true]) (by simp [results, Tryd.results119, go_sem, hnc]) rfl ⟨_, rfl, ?_, ?_⟩
  · exact (hs3.setBox ⟨hnc, hnf, hnl, hnB⟩ _).base (by omega)
  · exact ((hbA.out.trans (hb2.mono hbA.out.size)).trans (hb3.mono (Nat.le_trans hbA.out.size hb2.size))).setCell (by show w.heap.size ≤ w.heap.size + 1; omega) _

end Go.Proofs.YtfphapcgjlhieaaDoor
