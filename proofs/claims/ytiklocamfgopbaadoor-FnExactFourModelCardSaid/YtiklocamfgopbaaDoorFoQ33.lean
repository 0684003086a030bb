/- Walks: what the reference can cut, and what it can contract. -/
import Derived.Test.YtiklocamfgopbaaDoorFoQ32
import Derived.Test.YtiklocamfgopbaaDoorFoQ21
namespace Go.Proofs.YtiklocamfgopbaaDoor
open Go.RowKit

/-- A graph and some of its vertices that the walks of this text take. -/
structure GL (g : List (List Int)) (L : List Int) : Prop where
  n16 : g.length ≤ 16
  l16 : L.length ≤ 16
  inn : ∀ x ∈ L, 0 ≤ x ∧ x < g.length
  rg : RG g
theorem GL.rl {g : List (List Int)} {L : List Int} (h : GL g L) (j : Nat) : (row g j).length ≤ 16 := by have := h.rg.row_le j; have := h.n16; omega
theorem GL.less {g g' : List (List Int)} {L : List Int} (h : GL g L) (hl : g'.length = g.length) (hr : RG g') (v : Int) : GL g' (lessL L v) :=
  ⟨by rw [hl]; exact h.n16, by have := lessL_length L v; have := h.l16; omega, fun x hx => by rw [hl]; exact h.inn x (mem_lessL.1 hx).1, hr⟩

set_option maxRecDepth 100000 in
set_option maxHeartbeats 4000000 in
theorem l20Hard_any (v lv : Value) (g : List (List Int)) (L : List Int) (h : GL g L) (w : World) (hg : Gr w v g) (hlv : Nums w 2 .i64 lv L) :
    Calls Tryd.prog 56 #[v, lv] w fun e w' => e = .returned (.bool (dec (HardS g L))) ∧ Below w.heap.size w w' := by
  have H := Lib.hid h
  have hg0 := hg
  obtain ⟨u, rfl, hr⟩ := hg
  obtain ⟨gp, gc, rfl, _⟩ := hr.shape
  have hbA := Lib.hid (below_alloc w (.cells #[.slice gp g.length gc] 30))
  have HG := Lib.hid (hg0.below hbA.out)
  have HL := Lib.hid (hlv.below hbA.out)
  obtain ⟨lp, lc, rfl, _⟩ := id hlv
  clear hr hg0 hlv h
  go_enter Tryd.func56, Tryd.ntmps56
  go_wp2_with (go_at_call 54; refine (l20All_any _ _ g L H.out.n16 H.out.l16 H.out.inn (fun j _ => H.out.rl j) _ HG.out HL.out).mono ?_; rintro e w2 ⟨ov, rv, gu, fs, l, g', rfl, hF, _, hn, hR, _, _, _, hl16, _, hb2⟩; obtain ⟨rp, rc, rfl, _⟩ := id hn; obtain ⟨xp, xc, rfl, _⟩ := hR.shape; have HF := Lib.hid hF; have HB := Lib.hid (hbA.out.trans (hb2.mono hbA.out.size)); clear hF hn hR)
  go_ret
  have e : decide (0 < l.length) = dec (HardS g L) := by rw [decide_dec]; exact dec_congr (hardS_iff HF.out).symm
  exact ⟨by rw [← e]; rfl, HB.out.alloc (by have := hbA.out.size; have := hb2.size; omega) _⟩

/-- The two boxes that a function of a graph lays at its start: the graph's and the result's. -/
theorem two_start (w : World) (u : Value) : ∃ W0, W0 = (w.alloc (.cells #[u] 30)).alloc (.cells #[.slice none 0 0] 30) ∧ Below w.heap.size w W0 ∧ Box W0 w.heap.size 30 u ∧ Box W0 (w.heap.size + 1) 30 (.slice none 0 0) ∧ W0.heap.size = w.heap.size + 2 := by
  refine ⟨_, rfl, below_alloc2 _ _ _, (Box.new _ _ _).alloc _, ?_, by rw [size_alloc, size_alloc]⟩
  have := Box.new (w.alloc (.cells #[u] 30)) (.slice none 0 0) 30
  rw [size_alloc] at this
  exact this

set_option maxRecDepth 100000 in
set_option maxHeartbeats 4000000 in
theorem l20Less_any (v lv : Value) (g : List (List Int)) (L : List Int) (h : GL g L) (w : World) (hg : Gr w v g) (hlv : Nums w 2 .i64 lv L) :
    Calls Tryd.prog 24 #[v, lv] w fun e w' => ∃ r lr b, e = .returned (.tuple #[r, lr, .bool b]) ∧ Below w.heap.size w w' ∧
      ((b = false ∧ r = v ∧ lr = lv ∧ lessOf g L = none) ∨ (b = true ∧ ∃ x : Int, lessOf g L = some x ∧ x ∈ L ∧ SG w' w.heap.size r (freeG g x) ∧ Nums w' 2 .i64 lr (lessL L x))) := by
  have H := Lib.hid h
  have hg0 := hg
  obtain ⟨u, rfl, hr⟩ := hg
  obtain ⟨gp, gc, rfl, _⟩ := hr.shape
  obtain ⟨W0, hW0, hb0, hbg, hbn, sz0⟩ := two_start w (.slice gp g.length gc)
  have HB0 := Lib.hid hb0
  have HBG := Lib.hid hbg
  have HBN := Lib.hid hbn
  have HG := Lib.hid (hg0.below hb0)
  have HL := Lib.hid (hlv.below hb0)
  have HLV := Lib.hid hlv
  obtain ⟨lp, lc, rfl, _⟩ := id hlv
  clear hr hg0 hlv h hb0 hbg hbn
  go_enter Tryd.func24, Tryd.ntmps24
  go_upto_region 1 with fail
  rw [← hW0]
  clear hW0
  go_wp2_with fail
  go_loopw [7] (fun i wr => ∃ k : Nat, k ≤ L.length ∧ i = .int .i64 k ∧ Below W0.heap.size W0 wr ∧ Hid (lessOf g L = (L.drop k).find? (fun v => dec (HardS (freeG g v) (lessL L v))))) (fun i _ => L.length - (intOf i).toNat)
  case atStart => exact ⟨0, Nat.zero_le _, rfl, Below.refl _ _, Lib.hid rfl⟩
  case round =>
    obtain ⟨k, hk, rfl, hb, HE⟩ := hrel
    have HB := Lib.hid hb
    have hcg := hb.at (by omega) HBG.out.cell
    have hnn := HL.out.below hb
    have hsw := hb.size
    clear hb
    by_cases hlt : k < L.length
    · obtain ⟨m, hm, hmn⟩ : ∃ m : Nat, L[k] = (m : Int) ∧ m < g.length := by
        have := H.out.inn _ (List.getElem_mem hlt)
        exact ⟨(L[k]).toNat, by omega, by omega⟩
      obtain ⟨lb, lo, rfl, hcl⟩ := hnn.get hlt
      rw [hm] at hcl
      have HN := Lib.hid hnn
      have HGr := Lib.hid (HG.out.below HB.out)
      have HGL := Lib.hid (H.out.less (freeG_length g m) (H.out.rg.free m) m)
      have HMem := Lib.hid (show (m : Int) ∈ L by rw [← hm]; exact List.getElem_mem hlt)
      have T1 := Lib.hid (show g.length ≤ 1000 by have := H.out.n16; omega)
      have T2 := Lib.hid (show ∀ j, j < g.length → (row g j).length ≤ 1000 from fun j _ => by have := H.out.rl j; omega)
      have T3 := Lib.hid (show (lessL L m).length ≤ 1000000000 by have := lessL_length L m; have := H.out.l16; omega)
      have HFi := Lib.hid (find_drop (p := fun v => dec (HardS (freeG g v) (lessL L v))) hlt)
      rw [hm] at HFi
      have HM := Lib.hid hm
      clear hm hnn
      go_upto_region 4 with fail
      go_cut [8] (fun s8 wx => ∃ fb p c, s8 = .pointer (some ⟨fb, 0, none⟩) ∧ wr.heap.size ≤ fb ∧ Below wr.heap.size wr wx ∧ Box wx fb 30 (.slice p g.length c) ∧ SG wx wr.heap.size (.agg #[.slice p g.length c]) (freeG g m))
      case first =>
        go_region_held3 (fun w' => w'.cell? ⟨w.heap.size, 0, none⟩ = some (.slice gp g.length gc) ∧ w'.cell? ⟨lb, lo + k, none⟩ = some (.int .i64 m))
          (first | exact ⟨BW3.at' hcg, BW3.at' hcl⟩ | exact ⟨(BW3.alloc BW3.size _).at' hcg, (BW3.alloc BW3.size _).at' hcl⟩ | exact ⟨BS3.at' hcg, BS3.at' hcl⟩ | exact ⟨hcg, hcl⟩ | go_keep)
          (first
            | (go_at_call 55; refine (l20Free_any _ g m T1.out T2.out _ (HGr.out.below (below_dN (Below.refl _ _) 1))).mono ?_; rintro e w3 ⟨u3, rfl, hs3, hb3⟩; obtain ⟨p, c, rfl⟩ := hs3.shape; rw [freeG_length] at hs3 ⊢; have BW3 : Below wr.heap.size wr w3 := (below_dN (Below.refl _ _) 1).trans hb3; have HS3 := Lib.hid (hs3.base (show wr.heap.size ≤ _ from Nat.le_refl _)); have ORD : Hid True := Lib.hid trivial; clear hs3 hb3)
            | (go_at_call 55; refine (l20Free_any _ g m T1.out T2.out _ (HGr.out.below (below_dN (below_alloc _ _) 1))).mono ?_; rintro e w3 ⟨u3, rfl, hs3, hb3⟩; obtain ⟨p, c, rfl⟩ := hs3.shape; rw [freeG_length] at hs3 ⊢; have BW3 : Below wr.heap.size wr w3 := (below_dN (below_alloc wr (.cells #[.slice none 0 0] 30)) 1).trans (hb3.mono (below_alloc wr _).size); have BX3 := Lib.hid (((Box.new wr (.slice none 0 0) 30).keep (below_dN (Below.refl _ _) 1)).keep hb3); have bx3 := BX3.out.cell; have bf3 := BX3.out.free; have HS3 := Lib.hid (hs3.base (show wr.heap.size ≤ _ from (below_alloc wr _).size)); have BS3 := BW3.setCell (p := ⟨wr.heap.size, 0, none⟩) (Nat.le_refl _) (.slice p g.length c); clear hs3 hb3))
        all_goals go_wp2
        all_goals go_meet
        all_goals first
          | exact ⟨_, p, c, rfl, BW3.size, BW3.alloc BW3.size _, Box.new _ _ _, HS3.out.below (below_alloc _ _)⟩
          | exact ⟨_, p, c, rfl, Nat.le_refl _, BS3, BX3.out.set _, HS3.out.setBox BX3.out _⟩
      case rest =>
        obtain ⟨fb, p, c, rfl, hfb, hbc, hbx, hsg⟩ := hcut
        have HBc := Lib.hid hbc
        have HSc := Lib.hid hsg
        have hlbl := World.block_lt_of_cell? _ _ hcl
        have hcx := hbx.cell
        have hclc := hbc.at' hcl
        have HNc := Lib.hid (HN.out.below hbc)
        have HGc := Lib.hid (show Gr wc (.agg #[.slice p g.length c]) (freeG g m) from hsg.gr (by rw [freeG_length]; have := T1.out; omega))
        have HBX := Lib.hid hbx
        clear hcl hcg hbx hsg hbc hlbl
        by_cases hh : HardS (freeG g m) (lessL L m)
        · have HD := Lib.hid (dec_true hh)
          clear hh
          go_upto_region 5 with fail
          go_cut [28] (fun s wx => s = .bool true ∧ Below wc.heap.size wc wx)
          case first =>
            go_region_held3 (fun w' => w'.cell? ⟨fb, 0, none⟩ = some (.slice p g.length c) ∧ w'.cell? ⟨lb, lo + k, none⟩ = some (.int .i64 m))
              (first | exact ⟨hcx, hclc⟩ | exact ⟨BWB.at' hcx, BWB.at' hclc⟩ | exact ⟨BWA.at' hcx, BWA.at' hclc⟩ | go_keep)
              (first
            | (go_at_call 56; refine (l20Hard_any _ _ (freeG g m) (lessL L m) HGL.out _ (HGc.out.below BWA) HN4.out).mono ?_; rintro e w5 ⟨he, hb5⟩; rw [HD.out] at he; subst he; have BWB : Below wc.heap.size wc w5 := BWA.trans (hb5.mono BWA.size); clear hb5)
            | (go_at_call 27; refine (l19Less_any _ L m _ (HNc.out.below (below_dN (Below.refl _ _) 1))).mono ?_; rintro e w4 ⟨r4, rfl, hown4, hb4⟩; have BWA : Below wc.heap.size wc w4 := (below_dN (Below.refl _ _) 1).trans hb4; have HN4 := Lib.hid (Nums.of_owns hown4 rfl T3.out); obtain ⟨r4p, r4c, rfl, _⟩ := id HN4.out; clear hown4 hb4))
            all_goals go_wp2
            all_goals go_meet
            all_goals exact ⟨rfl, BWB⟩
          case rest =>
            obtain ⟨rfl, hbd⟩ := hcut
            have HBD := Lib.hid (HB.out.trans ((HBc.out.trans (hbd.mono HBc.out.size)).mono HB.out.size))
            have hcx6 := hbd.at' hcx
            have hcl6 := hbd.at' hclc
            have HSd := Lib.hid (HSc.out.below hbd)
            have HNd := Lib.hid (HNc.out.below hbd)
            have HBNd := Lib.hid (HBN.out.below HBD.out (by omega))
            have hfb2 : w.heap.size + 1 < fb := by omega
            have hfb3 : ¬ fb = w.heap.size + 1 := by omega
            have hfb4 : ¬ w.heap.size + 1 = fb := by omega
            have hlb2 : w.heap.size + 1 ≠ lb := by
              obtain ⟨_, _, e, hc'⟩ := HLV.out.get hlt
              cases e
              have := World.block_lt_of_cell? _ _ hc'
              simp at this; omega
            have hlb3 := Ne.symm hlb2
            clear hcx hclc hbd
            go_upto_region 6 with fail
            go_region_held3 (fun w' => w'.cell? ⟨fb, 0, none⟩ = some (.slice p g.length c) ∧ w'.cell? ⟨lb, lo + k, none⟩ = some (.int .i64 m))
              (first | exact ⟨hcx6, hcl6⟩ | exact ⟨BWA.at' hcx6, BWA.at' hcl6⟩ | exact ⟨(World.cell?_setCell_other _ _ _ _ (by simp; omega)).trans (BWA.at' hcx6), (World.cell?_setCell_other _ _ _ _ (by simp; omega)).trans (BWA.at' hcl6)⟩ | go_keep)
              (first
                | (go_at_call 27; refine (l19Less_any _ L m _ (HNd.out.below (below_dN (Below.refl _ _) 1))).mono ?_; rintro e w6 ⟨r6, rfl, hown6, hb6⟩; have BWA : Below wc.heap.size wc w6 := (below_dN (Below.refl _ _) 1).trans hb6; have HN6 := Lib.hid (Nums.of_owns hown6 rfl T3.out); obtain ⟨r6p, r6c, rfl, _⟩ := id HN6.out; have HBN6 := Lib.hid (HBNd.out.keep BWA); have hn6 := HBN6.out.cell; have hf6 := HBN6.out.free; clear hown6 hb6))
            all_goals go_wp2
            all_goals
              refine bodyPost_ret (v := .tuple #[.agg #[.slice p g.length c], .slice r6p (lessL L m).length r6c, .bool true]) (by simp [results, Tryd.results24, go_sem, hn6]) rfl ⟨_, _, _, rfl, ?_, .inr ⟨rfl, m, ?_, HMem.out, ?_, ?_⟩⟩
              · exact (HB0.out.trans ((HBD.out.trans (BWA.mono HBD.out.size)).mono HB0.out.size)).setCell (by show w.heap.size ≤ w.heap.size + 1; omega) _
              · rw [HE.out, HFi.out, if_pos HD.out]
              · exact SG.base (SG.setBox (HSd.out.below BWA) HBN6.out (.slice p g.length c)) (by have := HB.out.size; omega)
              · exact Sl.setBox HN6.out HBN6.out (by decide) _
        · have HD := Lib.hid (dec_false hh)
          clear hh
          go_upto_region 5 with fail
          go_cut [28] (fun s wx => s = .bool false ∧ Below wc.heap.size wc wx)
          case first =>
            go_region_held3 (fun w' => w'.cell? ⟨fb, 0, none⟩ = some (.slice p g.length c) ∧ w'.cell? ⟨lb, lo + k, none⟩ = some (.int .i64 m))
              (first | exact ⟨hcx, hclc⟩ | exact ⟨BWB.at' hcx, BWB.at' hclc⟩ | exact ⟨BWA.at' hcx, BWA.at' hclc⟩ | go_keep)
              (first
            | (go_at_call 56; refine (l20Hard_any _ _ (freeG g m) (lessL L m) HGL.out _ (HGc.out.below BWA) HN4.out).mono ?_; rintro e w5 ⟨he, hb5⟩; rw [HD.out] at he; subst he; have BWB : Below wc.heap.size wc w5 := BWA.trans (hb5.mono BWA.size); clear hb5)
            | (go_at_call 27; refine (l19Less_any _ L m _ (HNc.out.below (below_dN (Below.refl _ _) 1))).mono ?_; rintro e w4 ⟨r4, rfl, hown4, hb4⟩; have BWA : Below wc.heap.size wc w4 := (below_dN (Below.refl _ _) 1).trans hb4; have HN4 := Lib.hid (Nums.of_owns hown4 rfl T3.out); obtain ⟨r4p, r4c, rfl, _⟩ := id HN4.out; clear hown4 hb4))
            all_goals go_wp2
            all_goals go_meet
            all_goals exact ⟨rfl, BWB⟩
          case rest =>
            obtain ⟨rfl, hbd⟩ := hcut
            have HBD := Lib.hid (HB.out.trans ((HBc.out.trans (hbd.mono HBc.out.size)).mono HB.out.size))
            clear hbd
            go_wp2
            go_roundw
            case rel => exact ⟨k + 1, by omega, by go_num, HBD.out, Lib.hid (by rw [HE.out, HFi.out, if_neg (by rw [HD.out]; decide)])⟩
            case measure => simp [intOf]; omega
    · obtain rfl : k = L.length := by omega
      have hbx1 := HBN.out.below HB.out (by omega)
      have hbn1 := hbx1.cell
      have hbf1 := hbx1.free
      have HBX1 := Lib.hid hbx1
      clear hbx1 hnn
      go_wp2
      refine bodyPost_ret (v := .tuple #[.agg #[.slice gp g.length gc], .slice lp L.length lc, .bool false]) (by simp [results, Tryd.results24, go_sem, hbn1]) rfl ⟨_, _, _, rfl, ?_, .inl ⟨rfl, rfl, rfl, ?_⟩⟩
      · exact (HB0.out.trans (HB.out.mono HB0.out.size)).setCell (by show w.heap.size ≤ w.heap.size + 1; omega) _
      · rw [HE.out]; exact find_stop (Nat.le_refl _)

theorem SG.outer {w : World} {base : Nat} {r : Value} {g : List (List Int)} (h : SG w base r g) (hn : 1 ≤ g.length) (hm : g.length ≤ 1000000000) : ∃ b c, r = .agg #[.slice (some ⟨b, 0, none⟩) g.length c] ∧ base ≤ b ∧ b < w.heap.size ∧ Rws w 37 2 (.slice (some ⟨b, 0, none⟩) g.length c) g := by
  have hg := h.gr hm
  obtain ⟨u, vals, rfl, _, h3, _⟩ := h
  have hlt := h3.lt
  rcases h3.2 with ⟨_, h0⟩ | ⟨b, c, _, rfl, _⟩
  · omega
  · obtain ⟨u', e, hr⟩ := hg
    cases e
    exact ⟨b, c, rfl, (hlt b rfl).1, (hlt b rfl).2, hr⟩

theorem l20Less_yes (v lv : Value) (g : List (List Int)) (L : List Int) (h : GL g L) (h1 : 1 ≤ g.length) {x : Int} (hx : lessOf g L = some x) (w : World) (hg : Gr w v g) (hlv : Nums w 2 .i64 lv L) :
    Calls Tryd.prog 24 #[v, lv] w fun e w' => ∃ b c lp lc, e = .returned (.tuple #[.agg #[.slice (some ⟨b, 0, none⟩) g.length c], .slice lp (lessL L x).length lc, .bool true]) ∧ Below w.heap.size w w' ∧ w.heap.size ≤ b ∧ x ∈ L ∧
      Rws w' 37 2 (.slice (some ⟨b, 0, none⟩) g.length c) (freeG g x) ∧ Nums w' 2 .i64 (.slice lp (lessL L x).length lc) (lessL L x) := by
  refine (l20Less_any v lv g L h w hg hlv).mono ?_
  rintro e w' ⟨r, lr, b, rfl, hb, ⟨_, _, _, q⟩ | ⟨rfl, x', q, hm, hs, hn⟩⟩
  · rw [hx] at q; cases q
  · rw [hx] at q
    cases q
    obtain ⟨ob, c, rfl, k1, _, k3⟩ := hs.outer (by rw [freeG_length]; exact h1) (by rw [freeG_length]; have := h.n16; omega)
    rw [freeG_length] at k3 ⊢
    obtain ⟨lp, lc, rfl, _⟩ := id hn
    exact ⟨ob, c, lp, lc, rfl, hb, k1, hm, k3, hn⟩
theorem l20Less_no (v lv : Value) (g : List (List Int)) (L : List Int) (h : GL g L) (hx : lessOf g L = none) (w : World) (hg : Gr w v g) (hlv : Nums w 2 .i64 lv L) :
    Calls Tryd.prog 24 #[v, lv] w fun e w' => e = .returned (.tuple #[v, lv, .bool false]) ∧ Below w.heap.size w w' := by
  refine (l20Less_any v lv g L h w hg hlv).mono ?_
  rintro e w' ⟨r, lr, b, rfl, hb, ⟨rfl, rfl, rfl, _⟩ | ⟨_, x', q, _⟩⟩
  · exact ⟨rfl, hb⟩
  · rw [hx] at q; cases q

end Go.Proofs.YtiklocamfgopbaaDoor
