/- Walks: the graph drawn for the law on loops. -/
import Derived.Test.YtkppbmfliejnmaaDoorLpQ39
import Derived.Test.YtkppbmfliejnmaaDoorLpQ10
import Derived.Test.YtkppbmfliejnmaaDoorLpQ26
import Derived.Test.YtkppbmfliejnmaaDoorLpQ14
import Derived.Deep.RegionLaw
import Derived.Test.YtkppbmfliejnmaaDoorLpQ25
import Derived.Test.YtkppbmfliejnmaaDoorLpQ6
import Derived.Test.YtkppbmfliejnmaaDoorLpQ12
import Derived.Test.YtkppbmfliejnmaaDoorLpQ18
namespace Go.Proofs.YtkppbmfliejnmaaDoor
open Go.RowKit

theorem PrsO.link3 {w w2 : World} {base B b5 m c n : Nat} {p : Option Addr} {ev x : Value} {l : List (Nat × Nat)} {gg : List (List Int)} (h : PrsO w base ev l) (hs : SG w B (.agg #[.slice p m c]) gg) (hg : w.grownBy w2 (Value.slice p m c).ownBlock) (hk : ∀ k, (Value.slice p m c).ownBlock = some k → k < base) (hb : Box w2 b5 29 x) (u : Value) :
    PrsO (w2.setCell ⟨b5, 0, none⟩ u) base ev l := by
  obtain ⟨vals, h1, h2, h3⟩ := h
  obtain ⟨u0, vs, e1, e2, e3, e4⟩ := hs
  cases e1
  have ho : w2.ownsRow base 33 1 ev l.length vals := by
    refine ⟨h2.1, ?_⟩
    rcases h2.2 with h4 | ⟨q, cap, cur, rfl, k1, k2, k3⟩
    · exact .inl h4
    · refine .inr ⟨q, cap, cur, rfl, k1, (hg.block q ?_ ?_).trans k2, k3⟩
      · exact (h2.lt q rfl).2
      · intro e
        have := hk q e.symm
        omega
  exact ⟨vals, h1, ownsRow_setBox ho hb (by decide) _, fun j hj => ((h3 j hj).other e3 hg (by decide)).setBox hb (by decide) _⟩
theorem linkL_row (g : List (List Int)) (u v j : Nat) (hu : u < g.length) (hv : v < g.length) : (row (linkL g u v) j).length ≤ (row g j).length + 2 := by
  unfold linkL
  rw [row_set _ _ _ _ (by rw [List.length_set]; exact hv)]
  have h1 : ∀ j, (row (g.set u (intoL (row g u) v)) j).length ≤ (row g j).length + 1 := fun j => by
    rw [row_set _ _ _ _ hu]
    split
    · rename_i e; rw [e]; exact intoL_length _ _
    · omega
  split
  · rename_i e
    rw [e]
    have := intoL_length (row (g.set u (intoL (row g u) ↑v)) v) (u : Int)
    have := h1 v
    omega
  · have := h1 j
    omega
/-- The graph in the making and what is gone through. -/
structure L3I (W0 wr : World) (b5 : Nat) (p : Option Addr) (c n base : Nat) (ev : Value) (l : List (Nat × Nat)) (k : Nat) (gg : List (List Int)) : Prop where
  li : L2I W0 wr b5 p c n gg
  len : gg.length = n
  few : ∀ j, (row gg j).length ≤ 2 * k
  prs : PrsO wr base ev l
  lo : b5 ≤ base
theorem L3I.next {W0 wr wx : World} {b5 c n base k : Nat} {p : Option Addr} {ev : Value} {l : List (Nat × Nat)} {gg : List (List Int)} (h : L3I W0 wr b5 p c n base ev l k gg) (hb : Below wr.heap.size wr wx) : L3I W0 wx b5 p c n base ev l k gg :=
  ⟨h.li.next hb, h.len, h.few, h.prs.below hb, h.lo⟩
theorem L3I.more {W0 wr : World} {b5 c n base k : Nat} {p : Option Addr} {ev : Value} {l : List (Nat × Nat)} {gg : List (List Int)} (h : L3I W0 wr b5 p c n base ev l k gg) : L3I W0 wr b5 p c n base ev l (k + 1) gg :=
  ⟨h.li, h.len, fun j => by have := h.few j; omega, h.prs, h.lo⟩
theorem L3I.link {W0 wr w2 : World} {b5 c n base k u v : Nat} {p : Option Addr} {ev : Value} {l : List (Nat × Nat)} {gg : List (List Int)} (h : L3I W0 wr b5 p c n base ev l k gg) (hu : u < n) (hv : v < n) (hs : SG w2 W0.heap.size (.agg #[.slice p n c]) (linkL gg u v)) (hg : wr.grownBy w2 (Value.slice p n c).ownBlock) :
    L3I W0 (w2.setCell ⟨b5, 0, none⟩ (.slice p n c)) b5 p c n base ev l (k + 1) (linkL gg u v) where
  li := h.li.link hs hg
  len := by rw [linkL_length, h.len]
  few := fun j => by
    have := linkL_row gg u v j (by rw [h.len]; exact hu) (by rw [h.len]; exact hv)
    have := h.few j
    omega
  prs := h.prs.link3 (n := n) h.li.sg hg (fun k hk => by have := (h.li.own k hk).2; have := h.lo; omega) (h.li.box.grown hg (fun e => by have := (h.li.own b5 e.symm).2; omega)) _
  lo := h.lo

set_option maxRecDepth 100000 in
set_option maxHeartbeats 8000000 in
theorem l3Draw_any (w0 : World) (cb : Nat) (bs : List Int) (w : World) (hc : Cur w0 w cb bs) :
    Calls Tryd.prog 160 #[.pointer (some ⟨cb, 0, none⟩)] w fun e w' => ∃ (u : Value) (g : List (List Int)), e = .returned u ∧ Gr w' u g ∧ g.length ≤ 17 ∧ Cur w0 w' cb bs ∧ w.grownBy w' (some cb) := by
  have hcb := hc.cb_lt
  have HB := Lib.hid (below_alloc w (.cells #[.slice none 0 0] 29))
  have HC1 := Lib.hid (hc.keep HB.out)
  have HR1 := Lib.hid (Box.new w (.slice none 0 0) 29)
  clear hc
  go_enter Tryd.func160, Tryd.ntmps160
  go_upto_region 2 with (go_at_call 198; refine (l1DrawAny_any w0 cb bs _ HC1.out).mono ?_; rintro e w2 ⟨u, g, rfl, hg, hgl, hgr, hc2, hg2⟩; obtain ⟨gu, rfl, hgr2⟩ := hg; obtain ⟨gp, gc, rfl, _⟩ := hgr2.shape; have HC2 := Lib.hid hc2; have HR2 := Lib.hid (HR1.out.cured HC1.out hg2 (by decide)); have HW2 := Lib.hid (grown_trans (grown_of_below HB.out _) hg2); clear hc2 hg2)
  obtain ⟨w3, hw3⟩ : ∃ w3, w3 = w2.alloc (.cells #[.slice gp g.length gc] 29) := ⟨_, rfl⟩
  rw [← hw3]
  have hba : Below w2.heap.size w2 w3 := by rw [hw3]; exact below_alloc _ _
  have HX3 : Hid (Box w3 w2.heap.size 29 (.slice gp g.length gc)) := Lib.hid (by rw [hw3]; exact Box.new _ _ _)
  have HG3 : Hid (Gr w3 (.agg #[.slice gp g.length gc]) g) := Lib.hid ⟨_, rfl, hgr2.below hba⟩
  have HC3 := Lib.hid (HC2.out.keep hba)
  have HR3 := Lib.hid (HR2.out.keep hba)
  have HW3 := Lib.hid (grown_trans HW2.out (grown_of_below hba _))
  have c3 := HX3.out.cell
  generalize w2.heap.size = bx at *
  clear hw3 hba hgr2 hgr HC1 HR1 HC2 HR2 HW2
  go_cut [15] (fun s wx => ((s = .bool true) ∨ (s = .bool false ∧ GOk g)) ∧ Cur w0 wx cb bs ∧ Box wx bx 29 (.slice gp g.length gc) ∧ Gr wx (.agg #[.slice gp g.length gc]) g ∧ Box wx w.heap.size 29 (.slice none 0 0) ∧ w.grownBy wx (some cb))
  case first =>
    by_cases hok : GOk g
    · have HD := Lib.hid (dec_true hok)
      have HOK := Lib.hid hok
      clear hok
      go_wp2_with (first
        | (go_at_call 129; refine (l1Once_any w0 cb bs 2 (by decide) _ HC3.out).mono ?_; rintro e w4 ⟨b, rfl, hc4, hg4⟩; have HC4 := Lib.hid hc4; have HX4 := Lib.hid (HX3.out.cured HC3.out hg4 (by decide)); have HG4 := Lib.hid (HG3.out.curedC HC3.out hg4); have HR4 := Lib.hid (HR3.out.cured HC3.out hg4 (by decide)); have HW4 := Lib.hid (grown_trans HW3.out hg4); have c4 := HX4.out.cell; clear hc4 hg4; cases b)
        | (go_at_call 73; refine (specGraphOk_any _ g _ HG4.out).mono ?_; rintro e w5 ⟨he, hb5⟩; rw [HD.out] at he; subst he; have HB5 := Lib.hid hb5; clear hb5))
      all_goals go_meet
      all_goals first
        | exact ⟨.inl rfl, HC4.out, HX4.out, HG4.out, HR4.out, HW4.out⟩
        | exact ⟨.inr ⟨rfl, HOK.out⟩, HC4.out.keep HB5.out, HX4.out.keep HB5.out, HG4.out.below HB5.out, HR4.out.keep HB5.out, grown_trans HW4.out (grown_of_below HB5.out _)⟩
    · have HD := Lib.hid (dec_false hok)
      clear hok
      go_wp2_with (first
        | (go_at_call 129; refine (l1Once_any w0 cb bs 2 (by decide) _ HC3.out).mono ?_; rintro e w4 ⟨b, rfl, hc4, hg4⟩; have HC4 := Lib.hid hc4; have HX4 := Lib.hid (HX3.out.cured HC3.out hg4 (by decide)); have HG4 := Lib.hid (HG3.out.curedC HC3.out hg4); have HR4 := Lib.hid (HR3.out.cured HC3.out hg4 (by decide)); have HW4 := Lib.hid (grown_trans HW3.out hg4); have c4 := HX4.out.cell; clear hc4 hg4; cases b)
        | (go_at_call 73; refine (specGraphOk_any _ g _ HG4.out).mono ?_; rintro e w5 ⟨he, hb5⟩; rw [HD.out] at he; subst he; have HB5 := Lib.hid hb5; clear hb5))
      all_goals go_meet
      all_goals first
        | exact ⟨.inl rfl, HC4.out, HX4.out, HG4.out, HR4.out, HW4.out⟩
        | exact ⟨.inl rfl, HC4.out.keep HB5.out, HX4.out.keep HB5.out, HG4.out.below HB5.out, HR4.out.keep HB5.out, grown_trans HW4.out (grown_of_below HB5.out _)⟩
  case rest =>
  obtain ⟨hs, hc4, hx4, hg4, hr4, hw4⟩ := hcut
  obtain ⟨w4, rfl⟩ : ∃ w4, w4 = wc := ⟨_, rfl⟩
  have HC4 := Lib.hid hc4
  have HX4 := Lib.hid hx4
  have HG4 := Lib.hid hg4
  have HR4 := Lib.hid hr4
  have HW4 := Lib.hid hw4
  have c4 := hx4.cell
  clear hc4 hx4 hg4 hr4 hw4 HC3 HX3 HG3 HR3 HW3 c3
  rcases hs with rfl | ⟨rfl, hok⟩
  · obtain ⟨nc, nf, nl, nB⟩ := id HR4.out
    go_wp2
    refine bodyPost_ret (v := .agg #[.slice gp g.length gc]) (by simp [results, Tryd.results160, go_sem, nc]) rfl ⟨_, g, rfl, gr_setBox HG4.out ⟨nc, nf, nl, nB⟩ _, hgl, HC4.out.setCell hcb _, ?_⟩
    exact grown_newD HW4.out (Nat.le_refl _) _
  have HOK := Lib.hid hok
  have h16 := hok.le
  obtain ⟨n, hn⟩ : ∃ n, n = g.length := ⟨_, rfl⟩
  obtain ⟨l, hl⟩ : ∃ l, l = edN g.length (ofG g) g.length := ⟨_, rfl⟩
  have HLM : Hid (∀ k (hk : k < l.length), l[k].1 < n ∧ l[k].2 < n) := Lib.hid fun k hk => by
    have hm : (l[k].1, l[k].2) ∈ edN g.length (ofG g) g.length := by rw [← hl]; exact List.getElem_mem hk
    have := mem_edNL.1 hm
    omega
  have hll : l.length ≤ 256 := by
    have := edN_length g.length (ofG g) g.length
    rw [← hl] at this
    have h2 : g.length * g.length ≤ 16 * 16 := Nat.mul_le_mul h16 h16
    omega
  have hn16 : n ≤ 16 := by omega
  have HN := Lib.hid hn
  have HLE := Lib.hid hl
  clear hok hn hl
  go_upto_region 5 with (first
    | (go_at_call 157; refine (l1Empty_any _ n rfl (by omega) _).mono ?_; rintro e w6 ⟨u3, rfl, hs3, hb3⟩; obtain ⟨p, c, rfl⟩ := hs3.shape; rw [List.length_replicate] at hs3 ⊢)
    | (go_at_call 132; refine (l1Size_any _ g _ HG4.out).mono ?_; rintro e W0 ⟨he, hbS⟩; rw [← HN.out] at he; subst he; have HBS := Lib.hid hbS; clear hbS))
  obtain ⟨w7, hw7⟩ : ∃ w7, w7 = w6.alloc (.cells #[.slice p n c] 29) := ⟨_, rfl⟩
  rw [← hw7]
  have START : Hid (L2I W0 w7 w6.heap.size p c n (List.replicate n [])) := Lib.hid
    ⟨by rw [hw7]; exact hs3.below (below_alloc _ _), by rw [hw7]; exact hb3.alloc hb3.size _, by rw [hw7]; exact Box.new _ _ _, hs3.lt, hb3.size⟩
  have HB7 : Hid (Below w4.heap.size w4 w7) := Lib.hid (HBS.out.trans (START.out.bel.mono HBS.out.size))
  have sz7 : w6.heap.size ≤ w7.heap.size := by rw [hw7, size_alloc]; omega
  have c7 := HB7.out.at' c4
  generalize w6.heap.size = b5 at *
  clear hs3 hb3 hw7 c4
  go_upto_region 6 with (go_at_call 140; refine (l1EdgesC_any _ g HOK.out _ (HG4.out.below HB7.out)).mono ?_; rintro e w8 ⟨ev, rfl, hp8, hb8⟩; rw [← HLE.out] at hp8; have HP8 := Lib.hid hp8; have HB8 := Lib.hid hb8; obtain ⟨ep, ec, rfl⟩ := hp8.shape; clear hp8 hb8)
  have E1 := START.out.next HB8.out
  have E2 : (List.replicate n ([] : List Int)).length = n := List.length_replicate
  have E3 : ∀ j, (row (List.replicate n ([] : List Int)) j).length ≤ 2 * 0 := fun j => by
    unfold row
    rw [List.getD_eq_getElem?_getD, List.getElem?_replicate]
    split <;> exact Nat.le_refl _
  have E4 : PrsO w8 w7.heap.size (.slice ep l.length ec) l := HP8.out
  have ST8 : Hid (L3I W0 w8 b5 p c n w7.heap.size (.slice ep l.length ec) l 0 (List.replicate n [])) := Lib.hid ⟨E1, E2, E3, E4, sz7⟩
  clear E1 E2 E3 E4
  have HCW : Hid (∀ wx, Below W0.heap.size W0 wx → Cur w0 wx cb bs ∧ Box wx w.heap.size 29 (.slice none 0 0) ∧ w.grownBy wx (some cb)) := Lib.hid fun wx hb => by
    have hb2 := HBS.out.trans (hb.mono HBS.out.size)
    exact ⟨HC4.out.keep hb2, HR4.out.keep hb2, grown_trans HW4.out (grown_of_below hb2 _)⟩
  clear START HB7 HB8 HP8 HC4 HR4 HW4 HX4 HG4 HBS c7
  go_wp2_with fail
  go_loopw [6] (fun i wr => ∃ (k : Nat) (gg : List (List Int)), k ≤ l.length ∧ i = .int .i64 k ∧ L3I W0 wr b5 p c n w7.heap.size (.slice ep l.length ec) l k gg) (fun i _ => l.length - (intOf i).toNat)
  case atStart => exact ⟨0, _, Nat.zero_le _, rfl, ST8.out⟩
  case round =>
    clear ST8
    obtain ⟨k, gg, hk, rfl, hI⟩ := hrel
    have HI := Lib.hid hI
    by_cases hlt : k < l.length
    · obtain ⟨eb, eo, rp, rc, hep, hce, hne⟩ := hI.prs.get hlt
      subst hep
      obtain ⟨x, hx⟩ : ∃ x, x = l[k].1 := ⟨_, rfl⟩
      obtain ⟨y, hy⟩ : ∃ y, y = l[k].2 := ⟨_, rfl⟩
      have hxn : x < n := by rw [hx]; exact (HLM.out k hlt).1
      have hyn : y < n := by rw [hy]; exact (HLM.out k hlt).2
      rw [← hx, ← hy] at hne
      obtain ⟨rb, ro, hrp, hcx⟩ := hne.get (k := 0) (by simp)
      subst hrp
      obtain ⟨_, _, e2, hcy⟩ := hne.get (k := 1) (by simp)
      cases e2
      rw [Nat.add_zero] at hcx
      change wr.cell? _ = some (.int .i64 (x : Int)) at hcx
      change wr.cell? _ = some (.int .i64 (y : Int)) at hcy
      have hki : (k : Int) < (l.length : Int) := by omega
      have hk0 : (0 : Int) ≤ (k : Int) := by omega
      clear hx hy hne hI
      go_upto_region 9 with fail
      go_cut [42] (fun s wx => ∃ b : Bool, s = .bool b ∧ Below wr.heap.size wr wx)
      case first =>
        go_region_held3 (fun Z => Z.cell? ⟨eb, eo + k, none⟩ = some (.slice (some ⟨rb, ro, none⟩) 2 rc) ∧ Z.cell? ⟨rb, ro, none⟩ = some (.int .i64 (x : Int)) ∧ Z.cell? ⟨rb, ro + 1, none⟩ = some (.int .i64 (y : Int)))
          (first | exact ⟨hce, hcx, hcy⟩ | go_keep) (fail)
        all_goals go_wp2
        all_goals go_meet
        all_goals exact ⟨_, rfl, below_dN (Below.refl _ _) _⟩
      case rest =>
      obtain ⟨b, rfl, hbc⟩ := hcut
      obtain ⟨w9, rfl⟩ : ∃ w9, w9 = wc := ⟨_, rfl⟩
      have HI9 := Lib.hid (HI.out.next hbc)
      replace hce := hbc.at' hce
      replace hcx := hbc.at' hcx
      replace hcy := hbc.at' hcy
      clear hbc HI
      cases b
      · go_wp2_with fail
        go_roundw
        case rel => exact ⟨k + 1, gg, by omega, by go_num, HI9.out.more⟩
        case measure => simp [intOf]; omega
      · have hcb5 := HI9.out.li.box.cell
        have hfb5 := HI9.out.li.box.free
        have HL2 : Hid (∀ wz, L3I W0 wz b5 p c n w7.heap.size (.slice (some ⟨eb, eo, none⟩) l.length ec) l k gg → Calls Tryd.prog 154 #[.agg #[.slice p n c], .int .i64 (x : Int), .int .i64 (y : Int)] wz fun e w' => e = .returned (.agg #[.slice p n c]) ∧ SG w' W0.heap.size (.agg #[.slice p n c]) (linkL gg x y) ∧ wz.grownBy w' (Value.slice p n c).ownBlock) := Lib.hid fun wz h => by
          have hlen := h.len
          have := l1Link_any p c gg x y x y W0.heap.size rfl rfl (by omega) (by omega) (fun j _ => by have := h.few j; omega) wz (by rw [hlen]; exact h.li.sg)
          rw [hlen] at this
          exact this
        go_upto_region 10 with fail
        go_region_law (first | (go_simp; go_at_call 154; refine (HL2.out _ (HI9.out.next (below_dN (Below.refl _ _) 1))).mono ?_; rintro e w10 ⟨rfl, hs10, hg10⟩; have HI10 := Lib.hid ((HI9.out.next (below_dN (Below.refl _ _) 1)).link hxn hyn hs10 hg10); have hbx := (HI9.out.next (below_dN (Below.refl w9.heap.size w9) 1)).li.box.grown hg10 (fun e => by have := (HI9.out.li.own _ e.symm).2; omega); have hc6 := hbx.cell; have hf6 := hbx.free))
        all_goals go_wp2
        all_goals go_roundw
        all_goals first
          | exact ⟨k + 1, _, by omega, by go_num, HI10.out⟩
          | (simp [intOf]; omega)
    · have hcb5 := hI.li.box.cell
      obtain ⟨hcu, hr, hgw⟩ := HCW.out wr hI.li.bel
      have HCU := Lib.hid hcu
      have HGW := Lib.hid hgw
      obtain ⟨nc, nf, nl, nB⟩ := id hr
      clear hI hcu hgw
      go_wp2
      refine bodyPost_ret (v := .agg #[.slice p n c]) (by simp [results, Tryd.results160, go_sem, nc]) rfl ⟨_, gg, rfl, gr_setBox (by have := HI.out.li.sg.gr (by rw [HI.out.len]; omega); exact this) ⟨nc, nf, nl, nB⟩ _, by rw [HI.out.len]; omega, HCU.out.setCell hcb _, ?_⟩
      exact grown_newD HGW.out (Nat.le_refl _) _

set_option maxRecDepth 100000 in
set_option maxHeartbeats 2000000 in
theorem drawLeastLoop_any (v : Value) (bs : List Int) (hl : bs.length ≤ 4096) (w : World) (ha : ArgB w v bs) :
    Calls Tryd.prog 70 #[v] w fun e w' => ∃ (u : Value) (g : List (List Int)), e = .returned u ∧ Gr w' u g ∧ g.length ≤ 17 ∧ Below w.heap.size w w' := by
  obtain ⟨p, c, e0, _⟩ := id ha
  subst e0
  have HB := Lib.hid (below_alloc w (.cells #[.slice none 0 0] 29))
  have HA := Lib.hid (ha.below HB.out)
  have HR := Lib.hid (Box.new w (.slice none 0 0) 29)
  clear ha
  go_enter Tryd.func70, Tryd.ntmps70
  go_wp2_with (first
    | (go_at_call 160; refine (l3Draw_any _ cb bs _ HC2.out).mono ?_; rintro e w3 ⟨u, g, rfl, hg, hgl, hc3, hg3⟩; obtain ⟨gu, rfl, hgr2⟩ := hg; obtain ⟨gp, gc, rfl, _⟩ := hgr2.shape; have HC3 := Lib.hid hc3; have HGR := Lib.hid hgr2; obtain ⟨nc, nf, nl, nB⟩ := (HR.out.keep HB2.out).cured HC2.out hg3 (by decide))
    | (go_at_call 126; refine (l1New_any _ bs hl _ HA.out).mono ?_; rintro e w2 ⟨cb, rfl, hc2, hb2⟩; have HC2 := Lib.hid hc2; have HB2 := Lib.hid hb2; clear hc2 hb2))
  refine bodyPost_ret (v := .agg #[.slice gp g.length gc]) (by simp [results, Tryd.results70, go_sem, nc]) rfl ⟨_, g, rfl, gr_setBox ⟨_, rfl, HGR.out⟩ ⟨nc, nf, nl, nB⟩ _, hgl, ?_⟩
  exact (HB.out.trans (HC3.out.bel.mono HB.out.size)).setCell (by show w.heap.size ≤ w.heap.size; omega) _

end Go.Proofs.YtkppbmfliejnmaaDoor

/- Plain: the search of a map that fits; an order and its inverse. -/
namespace Go.Proofs.YtkppbmfliejnmaaDoor

/-! ### The search -/
/-- v fits behind what there is. -/
def okV (E F : Nat → Nat → Bool) (pre : List Nat) (v : Nat) : Prop := v ∉ pre ∧ ∀ k (h : k < pre.length), E v pre[k] = F pre.length k
/-- The first completion by r more. -/
noncomputable def fitF (n : Nat) (E F : Nat → Nat → Bool) : Nat → List Nat → Option (List Nat)
  | 0, pre => some pre
  | r + 1, pre => (List.range n).findSome? fun v => if dec (okV E F pre v) = true then fitF n E F r (pre ++ [v]) else none
/-- A map that fits. -/
def FitAll (E F : Nat → Nat → Bool) (l : List Nat) : Prop := ∀ i (h : i < l.length), okV E F (l.take i) l[i]
theorem fitF_some {n : Nat} {E F : Nat → Nat → Bool} : ∀ (r : Nat) (pre l : List Nat), fitF n E F r pre = some l → ∃ u, l = pre ++ u ∧ u.length = r ∧ (∀ x ∈ u, x < n) ∧ ∀ i (h : i < u.length), okV E F (pre ++ u.take i) u[i]
  | 0, pre, l, h => by
    simp only [fitF, Option.some.injEq] at h
    exact ⟨[], by rw [← h, List.append_nil], rfl, by simp, fun i h => by simp at h⟩
  | r + 1, pre, l, h => by
    rw [fitF, List.findSome?_eq_some_iff] at h
    obtain ⟨l1, v, l2, h1, h2, _⟩ := h
    by_cases hv : dec (okV E F pre v) = true
    · rw [if_pos hv] at h2
      obtain ⟨u, rfl, h4, h5, h6⟩ := fitF_some r _ _ h2
      have hvn : v < n := List.mem_range.1 (by rw [h1]; simp)
      refine ⟨v :: u, by simp, by simp [h4], fun x hx => ?_, fun i hi => ?_⟩
      · rcases List.mem_cons.1 hx with rfl | hx
        · exact hvn
        · exact h5 x hx
      · cases i with
        | zero => simpa using dec_iff.1 hv
        | succ i =>
          have := h6 i (by simpa using hi)
          simpa [List.append_assoc] using this
    · rw [if_neg hv] at h2
      cases h2
theorem fitF_none {n : Nat} {E F : Nat → Nat → Bool} : ∀ (r : Nat) (pre : List Nat), fitF n E F r pre = none → ∀ u : List Nat, u.length = r → (∀ x ∈ u, x < n) → ¬ ∀ i (h : i < u.length), okV E F (pre ++ u.take i) u[i]
  | 0, pre, h, u, hu, _ => by simp [fitF] at h
  | r + 1, pre, h, u, hu, hn => by
    intro hk
    cases u with
    | nil => simp at hu
    | cons v u =>
      rw [fitF, List.findSome?_eq_none_iff] at h
      have h1 := h v (List.mem_range.2 (hn v (by simp)))
      have h0 : okV E F pre v := by
        have := hk 0 (by simp)
        simpa only [List.take_zero, List.append_nil, List.getElem_cons_zero] using this
      rw [if_pos (dec_true h0)] at h1
      refine fitF_none r _ h1 u (by simpa using hu) (fun x hx => hn x (by simp [hx])) fun i hi => ?_
      have := hk (i + 1) (by simpa using hi)
      simpa [List.append_assoc] using this
/-- The tries below v. -/
noncomputable def fitTo (n : Nat) (E F : Nat → Nat → Bool) (r : Nat) (pre : List Nat) (v : Nat) : Option (List Nat) := (List.range v).findSome? fun v => if dec (okV E F pre v) = true then fitF n E F r (pre ++ [v]) else none
theorem fitTo_zero (n : Nat) (E F : Nat → Nat → Bool) (r : Nat) (pre : List Nat) : fitTo n E F r pre 0 = none := rfl
theorem fitTo_all (n : Nat) (E F : Nat → Nat → Bool) (r : Nat) (pre : List Nat) : fitTo n E F r pre n = fitF n E F (r + 1) pre := rfl
theorem fitTo_no {n : Nat} {E F : Nat → Nat → Bool} {r : Nat} {pre : List Nat} {v : Nat} (h : fitTo n E F r pre v = none) (hv : ¬ okV E F pre v) : fitTo n E F r pre (v + 1) = none := by
  unfold fitTo at h ⊢
  rw [List.range_succ, List.findSome?_append, h]
  simp [dec_false hv]
theorem fitTo_yes {n : Nat} {E F : Nat → Nat → Bool} {r : Nat} {pre : List Nat} {v : Nat} (h : fitTo n E F r pre v = none) (hv : okV E F pre v) : fitTo n E F r pre (v + 1) = fitF n E F r (pre ++ [v]) := by
  unfold fitTo at h ⊢
  rw [List.range_succ, List.findSome?_append, h]
  simp [dec_true hv]
theorem fitTo_stop {n : Nat} {E F : Nat → Nat → Bool} {r : Nat} {pre l : List Nat} : ∀ {v u : Nat}, fitTo n E F r pre v = some l → v ≤ u → fitTo n E F r pre u = some l := by
  intro v u h hvu
  induction u with
  | zero => obtain rfl : v = 0 := by omega
            exact h
  | succ u ih =>
    by_cases e : v = u + 1
    · rw [← e]; exact h
    · have := ih (by omega)
      unfold fitTo at this ⊢
      rw [List.range_succ, List.findSome?_append, this]
      rfl

/-! ### An order and its inverse -/
theorem ofG_ind {g : List (List Int)} {o : List Nat} {r j : Nat} (hr : r < o.length) (hj : j < o.length) : ofG (indL g (natInts o)) r j = ofG g o[r] o[j] := by
  unfold indL
  rw [ofG_matG (by rw [natInts_length]; exact hr) (by rw [natInts_length]; exact hj), indE_nat hr hj]
theorem ind_back {g : List (List Int)} (hg : GOk g) {o b : List Nat} (ho : o.length = g.length) (hb : b.length = g.length) (hbn : ∀ x ∈ b, x < g.length) (hob : ∀ i (h : i < b.length), o.getD b[i] 0 = i) : indL (indL g (natInts o)) (natInts b) = g := by
  have e1 : indL (indL g (natInts o)) (natInts b) = matG g.length (ofG g) := by
    rw [show indL (indL g (natInts o)) (natInts b) = matG (natInts b).length (indE (indL g (natInts o)) (natInts b)) from rfl, natInts_length, hb]
    refine matG_congr fun r j hr hj => ?_
    have hr' : r < b.length := by omega
    have hj' : j < b.length := by omega
    have h1 := hbn _ (List.getElem_mem hr')
    have h2 := hbn _ (List.getElem_mem hj')
    rw [indE_nat hr' hj', ofG_ind (by omega) (by omega)]
    have h3 := hob r hr'
    have h4 := hob j hj'
    rw [List.getD_eq_getElem?_getD, List.getElem?_eq_getElem (by omega)] at h3 h4
    simp only [Option.getD_some] at h3 h4
    rw [h3, h4]
  rw [e1, matG_ofG hg]
/-- The order itself fits. -/
theorem fit_order {g : List (List Int)} {o : List Nat} (hnd : o.Nodup) : ∀ i (h : i < o.length), okV (ofG g) (ofG (indL g (natInts o))) ([] ++ o.take i) o[i] := by
  intro i h
  rw [List.nil_append]
  refine ⟨fun hm => ?_, fun k hk => ?_⟩
  · obtain ⟨j, hj, e⟩ := List.getElem_of_mem hm
    rw [List.length_take] at hj
    rw [List.getElem_take] at e
    exact (List.pairwise_iff_getElem.1 hnd) j i (by omega) h (by omega) e
  · have hki : k < i := by rw [List.length_take] at hk; omega
    have e : (o.take i).length = i := by rw [List.length_take]; omega
    have e2 : (o.take i)[k] = o[k]'(by omega) := List.getElem_take ..
    calc ofG g o[i] (o.take i)[k] = ofG g o[i] (o[k]'(by omega)) := by rw [e2]
      _ = ofG (indL g (natInts o)) i k := (ofG_ind h (by omega)).symm
      _ = ofG (indL g (natInts o)) (o.take i).length k := by rw [e]

end Go.Proofs.YtkppbmfliejnmaaDoor

/- Plain: a least loop has no chord: what it induces has as many edges as vertices. -/
namespace Go.Proofs.YtkppbmfliejnmaaDoor

theorem loop_chord {n : Nat} {E : Nat → Nat → Bool} {L : List Nat} (h : LeastLp n E L) (hs : ∀ x y, E x y = true → E y x = true) {i j : Nat} (hij : i < j) (hj : j < L.length) (hE : E (L[i]'(by omega)) L[j] = true) : j = i + 1 ∨ (i = 0 ∧ j + 1 = L.length) := by
  refine Classical.byContradiction fun hno => ?_
  obtain ⟨M, hM⟩ : ∃ M, M = (L.drop i).take (j - i + 1) := ⟨_, rfl⟩
  have hl : M.length = j - i + 1 := by rw [hM, List.length_take, List.length_drop]; omega
  have hsub : M.Sublist L := by rw [hM]; exact (List.take_sublist _ _).trans (List.drop_sublist _ _)
  have hat : ∀ k (hk : k < M.length), M[k] = L[i + k]'(by omega) := fun k hk => by
    subst hM
    rw [List.getElem_take, List.getElem_drop]
  have hne : M ≠ [] := fun e => by rw [e] at hl; simp at hl
  have hok : LpOk n E M := {
    long := by omega
    nod := h.1.nod.sublist hsub
    chn := (chn_at M).2 fun k hk => by
      rw [hat k (by omega), hat (k + 1) hk]
      exact (chn_at L).1 h.1.chn (i + k) (by omega)
    back := by
      rw [last_getD hne, head_getD (by omega), hat _ (by omega), hat 0 (by omega)]
      have e : i + (M.length - 1) = j := by omega
      simp only [e, Nat.add_zero]
      exact hs _ _ hE
    inn := fun x hx => h.1.inn x (hsub.subset hx) }
  exact h.2 M hok (.inl (by omega))

theorem loop_two {n : Nat} {E : Nat → Nat → Bool} {L : List Nat} (h : LeastLp n E L) (hs : ∀ x y, E x y = true → E y x = true) (hi0 : ∀ x, E x x = false) {i : Nat} (hi : i < L.length) : L.countP (E L[i]) = 2 := by
  have h3 := h.1.long
  have hnd := h.1.nod
  have hback := h.1.back
  rw [last_getD (by intro e; rw [e] at h3; simp at h3), head_getD (by omega)] at hback
  have hc := (chn_at L).1 h.1.chn
  obtain ⟨s, hsd⟩ : ∃ s, s = if i + 1 < L.length then i + 1 else 0 := ⟨_, rfl⟩
  obtain ⟨p, hpd⟩ : ∃ p, p = if 0 < i then i - 1 else L.length - 1 := ⟨_, rfl⟩
  have hsl : s < L.length := by rw [hsd]; split <;> omega
  have hpl : p < L.length := by rw [hpd]; split <;> omega
  have hsp : s ≠ p := by rw [hsd, hpd]; split <;> split <;> omega
  have hLs : E L[i] L[s] = true := by
    by_cases e : i + 1 < L.length
    · simp only [hsd, if_pos e]; exact hc i e
    · have : i = L.length - 1 := by omega
      simp only [hsd, if_neg e]
      subst this; exact hback
  have hLp : E L[i] L[p] = true := by
    by_cases e : 0 < i
    · obtain ⟨k, rfl⟩ : ∃ k, i = k + 1 := ⟨i - 1, by omega⟩
      simp only [hpd, if_pos e, Nat.add_sub_cancel]; exact hs _ _ (hc k hi)
    · obtain rfl : i = 0 := by omega
      simp only [hpd, if_neg e]; exact hs _ _ hback
  rw [List.countP_eq_length_filter]
  have hperm : (L.filter (E L[i])).Perm [L[s], L[p]] := by
    refine (List.perm_ext_iff_of_nodup (hnd.sublist List.filter_sublist) ?_).2 fun y => ?_
    · refine List.nodup_cons.2 ⟨fun hm => ?_, by simp⟩
      rw [List.mem_singleton] at hm
      exact hsp ((List.getElem_inj hnd).1 hm)
    · rw [List.mem_filter]
      constructor
      · rintro ⟨hy, hE⟩
        obtain ⟨k, hk, rfl⟩ := List.mem_iff_getElem.1 hy
        have hki : k ≠ i := fun e => by
          subst e
          rw [hi0] at hE; cases hE
        by_cases hlt : i < k
        · rcases loop_chord h hs hlt hk hE with e | ⟨e1, e2⟩
          · have : s = k := by rw [hsd, if_pos (by omega)]; omega
            subst this; simp
          · have : p = k := by rw [hpd, if_neg (by omega)]; omega
            subst this; simp
        · rcases loop_chord h hs (show k < i by omega) hi (hs _ _ hE) with e | ⟨e1, e2⟩
          · have : p = k := by rw [hpd, if_pos (by omega)]; omega
            subst this; simp
          · have : s = k := by rw [hsd, if_neg (by omega)]; omega
            subst this; simp
      · intro hy
        simp only [List.mem_cons, List.not_mem_nil, or_false] at hy
        rcases hy with rfl | rfl
        · exact ⟨List.getElem_mem _, hLs⟩
        · exact ⟨List.getElem_mem _, hLp⟩
  exact hperm.length_eq

theorem sum_twoLp {f : Nat → Nat} : ∀ {l : List Nat}, (∀ x ∈ l, f x = 2) → (l.map f).sum = 2 * l.length
  | [], _ => rfl
  | a :: l, h => by
    rw [List.map_cons, List.sum_cons, h a (by simp), sum_twoLp (fun x hx => h x (List.mem_cons_of_mem _ hx)), List.length_cons]
    omega
/-- What a least loop induces has as many edges as vertices. -/
theorem loop_edges {g : List (List Int)} (hok : GOk g) {L o : List Nat} (h : LeastLp g.length (ofG g) L) (hp : o.Perm L) : cntE (indL g (natInts o)) (indL g (natInts o)).length = L.length := by
  have hlen := hp.length_eq
  have hon : ∀ v ∈ o, v < g.length := fun v hv => h.1.inn v (hp.subset hv)
  have h3 := h.1.long
  have h16 : o.length ≤ 16 := by
    have := nodup_le g.length L h.1.nod h.1.inn
    have := hok.le
    omega
  have hg := indL_gok hok hon (by omega) h16
  have hl : (indL g (natInts o)).length = o.length := by unfold indL matG; rw [List.length_map, List.length_range, natInts_length]
  have ht := two_cntE hg
  have hsum : totN (indL g (natInts o)).length (ofG (indL g (natInts o))) = 2 * o.length := by
    unfold totN
    rw [hl]
    have := sum_twoLp (f := degN o.length (ofG (indL g (natInts o)))) (l := List.range o.length) fun v hv => by
      have hv' := List.mem_range.1 hv
      obtain ⟨i, hi, e⟩ := List.mem_iff_getElem.1 (hp.subset (List.getElem_mem hv'))
      have h2 := loop_two h (ofG_sym hok) (ofG_irr hok) hi
      rw [e, ← hp.countP_eq] at h2
      rw [← h2]
      obtain ⟨x, hx⟩ : ∃ x, x = o[v] := ⟨_, rfl⟩
      rw [← hx]
      have e2 : o = (List.range o.length).map fun j => o.getD j 0 := by
        refine List.ext_getElem (by simp) fun i h1 h2 => ?_
        simp [h1]
      have e3 : o.countP (ofG g x) = ((List.range o.length).map fun j => o.getD j 0).countP (ofG g x) := congrArg (List.countP (ofG g x)) e2
      rw [e3, List.countP_map]
      unfold degN
      refine List.countP_congr fun j hj => ?_
      have hj' := List.mem_range.1 hj
      rw [ofG_ind hv' hj', ← hx]
      simp [hj']
    rw [this, List.length_range]
  omega

end Go.Proofs.YtkppbmfliejnmaaDoor

/- Small laws on what a law's walk compares. -/
namespace Go.Proofs.YtkppbmfliejnmaaDoor
open Go.RowKit

theorem OwnG.shape {w : World} {base : Nat} {v : Value} {g : List (List Int)} (h : OwnG w base v g) : ∃ p c, v = .agg #[.slice p g.length c] := by
  obtain ⟨u, rfl, vals, _, h2, _⟩ := h
  rcases h2.2 with ⟨rfl, h0⟩ | ⟨b, c, _, rfl, _⟩
  · exact ⟨none, 0, by rw [h0]⟩
  · exact ⟨_, _, rfl⟩
theorem owns_shape {w : World} {base : Nat} {E : TypeId} {size n : Nat} {v : Value} {xs : List Value} (h : w.ownsRow base E size v n xs) : ∃ p c, v = .slice p n c := by
  rcases h.2 with ⟨rfl, rfl⟩ | ⟨b, c, _, rfl, _⟩
  · exact ⟨none, 0, rfl⟩
  · exact ⟨_, _, rfl⟩
end Go.Proofs.YtkppbmfliejnmaaDoor
