/- Walk: FourModel of the program. -/
import Derived.Test.YtiklocamfgopbaaDoorFoQ42
namespace Go.Proofs.YtiklocamfgopbaaDoor
open Go.RowKit

theorem dg_nilF (w : World) (base : Nat) : DG w base (.agg #[.slice none 0 0]) [] := ⟨_, [], rfl, rfl, World.ownsRow_nil _ _ _ _, ⟨fun j hj => by simp at hj, fun i j hi => by simp at hi⟩⟩
theorem DG.setM {w : World} {base b : Nat} {v x : Value} {g : List (List Int)} (h : DG w base v g) (hb : Box w b 27 x) (u : Value) : DG (w.setCell ⟨b, 0, none⟩ u) base v g := by
  obtain ⟨u0, vals, h1, h2, h3, h4⟩ := h
  exact ⟨u0, vals, h1, h2, ownsRow_setBox h3 hb (by decide) _, ⟨fun j hj => ownsRow_setBox (h4.rows j hj) hb (by decide) _, h4.dis⟩⟩

set_option maxRecDepth 100000 in
set_option maxHeartbeats 4000000 in
theorem implFourModel_any (v : Value) (g : List (List Int)) (w : World) (hg : Gr w v g) (hT : Tab w) :
    Calls Tryd.prog 8 #[v] w fun e w' => ∃ (u : Value) (out : List (List Int)) (ok : Bool), e = .returned (.tuple #[u, .bool ok]) ∧ FourS g out ok ∧ DG w' w.heap.size u out ∧ out.length ≤ 16 ∧ (∀ j, (row out j).length ≤ 16) ∧ Below w.heap.size w w' := by
  have hg0 := hg
  obtain ⟨u, rfl, hr⟩ := hg
  obtain ⟨gp, gc, rfl, _, _, _⟩ := hr.shape
  obtain ⟨W0, hW0, hb0, hbg, hbn, sz0⟩ : ∃ W0, W0 = (w.alloc (.cells #[.slice gp g.length gc] 30)).alloc (.cells #[.slice none 0 0] 27) ∧ Below w.heap.size w W0 ∧ Box W0 w.heap.size 30 (.slice gp g.length gc) ∧ Box W0 (w.heap.size + 1) 27 (.slice none 0 0) ∧ W0.heap.size = w.heap.size + 2 := by
    refine ⟨_, rfl, below_alloc2 _ _ _, (Box.new _ _ _).alloc _, ?_, by rw [size_alloc, size_alloc]⟩
    have := Box.new (w.alloc (.cells #[.slice gp g.length gc] 30)) (.slice none 0 0) 27
    rw [size_alloc] at this
    exact this
  have HB0 := Lib.hid hb0
  have HBG := Lib.hid hbg
  have HBN := Lib.hid hbn
  have HG := Lib.hid (hg0.below hb0)
  have HT := Lib.hid hT
  have HT0 := Lib.hid (hT.keep hb0)
  clear hr hg0 hb0 hbg hbn hT
  by_cases hok : GOk g
  case neg =>
    have hd := dec_false hok
    have Hok := Lib.hid hok
    clear hok
    have hcg := HBG.out.cell
    go_enter Tryd.func8, Tryd.ntmps8
    go_upto_region 1 with fail
    rw [← hW0]
    clear hW0
    go_wp2_with (go_at_call 30; refine (implGraphOk_any _ g _ HG.out).mono ?_; rintro e w2 ⟨rfl, hb2⟩; have HB2 := Lib.hid hb2; have HX2 := Lib.hid (HBN.out.keep hb2); have hx2 := HX2.out.cell; have hf2 := HX2.out.free; clear hb2)
    refine bodyPost_ret (v := .tuple #[.agg #[.slice none 0 0], .bool false]) (by simp [results, Tryd.results8, go_sem, hx2]) rfl ⟨_, [], false, rfl, .inl ⟨rfl, rfl, fun h => Hok.out h.1⟩, dg_nilF _ _, by simp, fun j => by simp [row], ?_⟩
    exact (HB0.out.trans (HB2.out.mono HB0.out.size)).setCell (by show w.heap.size ≤ w.heap.size + 1; omega) _
  have hd := dec_true hok
  have Hok := Lib.hid hok
  have h16 := hok.le
  have hpos := hok.pos
  clear hok
  by_cases hse : SerS g
  case pos =>
    have hd2 := dec_true hse
    have Hse := Lib.hid hse
    clear hse
    have hcg := HBG.out.cell
    go_enter Tryd.func8, Tryd.ntmps8
    go_upto_region 1 with fail
    rw [← hW0]
    clear hW0
    go_wp2_with (first
      | (go_at_call 31; refine (implSeriesIn_any _ g _ (HG.out.below HB2.out) (HT0.out.keep HB2.out)).mono ?_; rintro e w3 ⟨rfl, hb3⟩; have HB3 := Lib.hid (HB2.out.trans (hb3.mono HB2.out.size)); have HX2 := Lib.hid (HBN.out.keep HB3.out); have hx2 := HX2.out.cell; have hf2 := HX2.out.free; clear hb3)
      | (go_at_call 30; refine (implGraphOk_any _ g _ HG.out).mono ?_; rintro e w2 ⟨rfl, hb2⟩; have HB2 := Lib.hid hb2; have hcg2 := hb2.at' hcg; clear hb2))
    refine bodyPost_ret (v := .tuple #[.agg #[.slice none 0 0], .bool false]) (by simp [results, Tryd.results8, go_sem, hx2]) rfl ⟨_, [], false, rfl, .inl ⟨rfl, rfl, fun h => h.2 Hse.out⟩, dg_nilF _ _, by simp, fun j => by simp [row], ?_⟩
    exact (HB0.out.trans (HB3.out.mono HB0.out.size)).setCell (by show w.heap.size ≤ w.heap.size + 1; omega) _
  have hd2 := dec_false hse
  have Hse := Lib.hid hse
  clear hse
  have hcg := HBG.out.cell
  obtain ⟨M, hM⟩ : ∃ M, M = 2 ^ g.length - 1 := ⟨_, rfl⟩
  have HM := Lib.hid hM
  have HSAME : Hid (Same g (allL g.length) (netL g) M) := Lib.hid (by rw [hM]; exact same_start Hok.out)
  have HNL := Lib.hid (show (netL g).length = g.length by simp [netL])
  clear hM
  go_enter Tryd.func8, Tryd.ntmps8
  go_upto_region 1 with fail
  rw [← hW0]
  clear hW0
  go_wp2_with (first
    | (go_at_call 33; refine (all_any' _ _ _ M (by omega) HM.out _).mono ?_; rintro e w5 ⟨rfl, rfl⟩)
    | (go_at_call 32; refine (netsOf_any _ g _ (HG.out.below HB3.out) Hok.out).mono ?_; rintro e w4 ⟨x, rfl, hown4, hb4⟩; have HO4 := Lib.hid hown4; have HX4 := Lib.hid (Sl.of_owns hown4 (by omega)); obtain ⟨xp, xc, rfl⟩ := own_shapeN hown4; have HB4 := Lib.hid (HB3.out.trans (hb4.mono HB3.out.size)); clear hown4 hb4)
    | (go_at_call 31; refine (implSeriesIn_any _ g _ (HG.out.below HB2.out) (HT0.out.keep HB2.out)).mono ?_; rintro e w3 ⟨rfl, hb3⟩; have HB3 := Lib.hid (HB2.out.trans (hb3.mono HB2.out.size)); have hcg3 := HB3.out.at' hcg; clear hb3)
    | (go_at_call 30; refine (implGraphOk_any _ g _ HG.out).mono ?_; rintro e w2 ⟨rfl, hb2⟩; have HB2 := Lib.hid hb2; have hcg2 := hb2.at' hcg; clear hb2))
  have hsz4 := HB4.out.size
  clear hcg hcg2 hcg3
  go_loopw [6, 27] (fun sv i wr => ∃ k : Nat, k ≤ g.length ∧ i = .int .i64 k ∧ wr.ownsRow w4.heap.size 56 1 sv k ((onesL k).map u32v) ∧ Below w4.heap.size w4 wr) (fun _ i _ => g.length - (intOf i).toNat)
  case atStart => exact ⟨0, Nat.zero_le _, rfl, ownsRow_empty _ _ _, below_alloc _ _⟩
  case round =>
    obtain ⟨k, hk, rfl, ho, hb⟩ := hrel
    have HO := Lib.hid ho
    have HB := Lib.hid hb
    have hsr := hb.size
    clear ho hb
    by_cases hlt : k < g.length
    · obtain ⟨pk, hpk⟩ : ∃ pk, pk = 2 ^ k := ⟨_, rfl⟩
      have ONE : Hid (∀ w, Calls Tryd.prog 34 #[.int .i64 (k : Int)] w fun e w' => e = .returned (.int .u32 (pk : Int)) ∧ w = w') := Lib.hid (fun w => by rw [hpk]; exact one_any (k : Int) k rfl (by omega) w)
      have HPK := Lib.hid hpk
      clear hpk
      go_wp2_with (first
        | (go_at_call 34; refine (ONE.out _).mono ?_; rintro e w2 ⟨rfl, rfl⟩)
        | (at_builtin; refine wpList_app1 ty_vsets rfl rfl rfl HO.out rfl rfl (by omega) hsr ?_; intro v' w7 hown7 hg7 _))
      go_roundw
      case rel => exact ⟨k + 1, by omega, by go_num, by rw [onesL_succ, List.map_append, ← HPK.out]; exact hown7, HB.out.trans (below_grown (Below.refl w4.heap.size wr) HO.out hg7 (Nat.le_refl _) hsr)⟩
      case measure => simp [intOf]; omega
    · obtain rfl : k = g.length := by omega
      obtain ⟨sb, sc, rfl⟩ : ∃ sb sc, u6 = .slice (some ⟨sb, 0, none⟩) g.length sc := by
        rcases HO.out.2 with ⟨_, h0⟩ | ⟨b, c, _, rfl, _⟩
        · omega
        · exact ⟨b, c, rfl⟩
      have START : Hid (FnI w wr g.length sb sc g (allL g.length) (netL g) (onesL g.length) M (.slice xp g.length xc)) := Lib.hid
        { bel := HB0.out.trans ((HB4.out.trans (HB.out.mono hsz4)).mono HB0.out.size), sz := by omega, res := HBN.out.keep (HB4.out.trans (HB.out.mono hsz4)), nets := by have := HX4.out.below HB.out; rw [HNL.out]; exact this
          sets := ownsRow_base HO.out (by omega), al := HNL.out, ml := onesL_length _, m16 := onesL_lt h16, same := HSAME.out, rg := RG.of_ok Hok.out, tab := HT0.out.keep (HB4.out.trans (HB.out.mono hsz4)) }
      have HON0 : Hid (FoursOn g (allL g.length) (aloneL g.length) g (allL g.length) (rowsOf (onesL g.length))) := Lib.hid (by rw [rowsOf_ones h16]; exact fun _ _ h => h)
      clear HB HO HG HBG HBN HX4 HO4 hsr HB0 HB4 HT0
      go_wp2_with fail
      go_loopw [4, 5, 8] (fun xv lv mv wr => ∃ gg L a ms left more xp xc, xv = .slice xp g.length xc ∧ lv = .int .u32 ((left : Nat) : Int) ∧ mv = .bool more ∧ FnI w wr g.length sb sc gg L a ms left (.slice xp g.length xc) ∧ Hid (FoursOn g (allL g.length) (aloneL g.length) gg L (rowsOf ms)) ∧ Hid (more = false → lessOf gg L = none ∧ edgeOf gg L = none))
        (fun _ lv mv _ => (bitsOf (intOf lv).toNat).length * 2 + (match mv with | .bool true => 1 | _ => 0))
      case atStart => exact ⟨g, allL g.length, netL g, onesL g.length, M, true, xp, xc, rfl, rfl, rfl, START.out, HON0.out, Lib.hid (fun e => nomatch e)⟩
      case round =>
        clear START HON0
        obtain ⟨gg, L, a, ms, left, more, xp', xc', rfl, rfl, rfl, hI, HON, HST⟩ := hrel
        have HI := Lib.hid hI
        clear hI
        cases more with
        | true =>
          have SHR : Hid (Calls Tryd.prog 35 #[.slice xp' g.length xc', .int .u32 (left : Int), .slice (some ⟨sb, 0, none⟩) g.length sc] wr fun e w' => ∃ (p c l' : Nat) (q : Option Addr) (ok : Bool) (gg : List (List Int)) (L : List Int) (a ms : List Nat), e = .returned (.tuple #[.slice q g.length c, .int .u32 (l' : Int), .bool ok]) ∧
              FnI w w' g.length sb sc gg L a ms l' (.slice q g.length c) ∧ FoursOn g (allL g.length) (aloneL g.length) gg L (rowsOf ms) ∧ (ok = false → lessOf gg L = none ∧ edgeOf gg L = none) ∧ (bitsOf l').length * 2 + (if ok then 1 else 0) < (bitsOf left).length * 2 + 1) := Lib.hid (by
            have hI := HI.out
            refine (shrink_any _ _ _ gg L a ms left (w.heap.size + 2) rfl hI.same hI.rg (by rw [hI.ml, hI.al]) hI.m16 _ hI.nets (by rw [hI.ml]; exact hI.sets) hI.tab).mono ?_
            rintro e w5 ⟨r, l', ok, rfl, hs5⟩
            obtain ⟨g1, L1, a1, ms1, hI1, hon1, hst1, hm1⟩ := hI.step HT.out HON.out hs5
            obtain ⟨q, c, rfl⟩ := hI1.nets.shape
            rw [hI1.al] at hI1 ⊢
            exact ⟨0, c, l', q, ok, g1, L1, a1, ms1, rfl, hI1, hon1, hst1, hm1⟩)
          go_wp2_with (go_at_call 35; refine SHR.out.mono ?_; rintro e w5 ⟨_, c5, l5, q5, ok5, g5, L5, a5, ms5, rfl, hI5, hon5, hst5, hm5⟩; have HI5 := Lib.hid hI5; have HON5 := Lib.hid hon5; have HST5 := Lib.hid hst5; have HM5 := Lib.hid hm5; clear hI5 hon5 hst5 hm5)
          go_roundw
          case rel => exact ⟨g5, L5, a5, ms5, l5, ok5, q5, c5, rfl, rfl, rfl, HI5.out, HON5, HST5⟩
          case measure =>
            have := HM5.out
            cases ok5 <;> simp [intOf] at this ⊢ <;> omega
        | false =>
          obtain ⟨hn1, hn2⟩ := HST.out rfl
          have HFO := Lib.hid (HON.out _ _ (.stop hn1 hn2))
          have hl65 := HI.out.same.left16
          obtain ⟨ls, hls⟩ : ∃ ls, ls = bitsOf left := ⟨_, rfl⟩
          have HLS := Lib.hid hls
          have hcnt : ls.length ≤ 16 := by rw [hls]; exact HI.out.same.cnt
          have HLI : Hid (∀ i ∈ ls, i < g.length) := Lib.hid (fun i hi => by have := HI.out.same.inn i ((mem_left hl65).1 (hls ▸ hi)); have := HI.out.al; omega)
          have LIST : Hid (∀ (w : World) (_ : Tab w), Calls Tryd.prog 36 #[.int .u32 (left : Int)] w fun e w' => ∃ v, e = .returned v ∧ w'.ownsRow w.heap.size 3 1 v ls.length ((natInts ls).map (Value.int .i64)) ∧ Below w.heap.size w w') := Lib.hid (fun w hT => by rw [hls]; exact list_any _ left rfl (by omega) w hT)
          have hbA := below_alloc wr (.cells #[] 56)
          have hTA := Lib.hid (HI.out.tab.keep hbA)
          have hsA : (wr.alloc (.cells #[] 56)).heap.size = wr.heap.size + 1 := size_alloc _ _
          have HBA := Lib.hid hbA
          clear hn1 hn2 hls hbA
          go_wp2_with (go_at_call 36; refine (LIST.out _ hTA.out).mono ?_; rintro e w2 ⟨lv, rfl, ho2, hb2⟩; have hn2 := Nums.of_owns ho2 (natInts_length _).symm (by omega); obtain ⟨lp, lc, rfl, _⟩ := id hn2; rw [natInts_length] at hn2 ⊢; have HN2 := Lib.hid hn2; have HB2 := Lib.hid (HBA.out.trans (hb2.mono (by omega))); have HO2 := Lib.hid (ownsRow_below (ownsRow_empty wr 56 1) hb2); clear ho2 hb2 hn2)
          go_loopw [9, 49] (fun ov i wx => ∃ k : Nat, k ≤ ls.length ∧ i = .int .i64 k ∧ wx.ownsRow wr.heap.size 56 1 ov k (((ls.take k).map fun i => ms.getD i 0).map u32v) ∧ Below wr.heap.size wr wx ∧ Nums wx 3 .i64 (.slice lp ls.length lc) (natInts ls)) (fun _ i _ => ls.length - (intOf i).toNat)
          case atStart => exact ⟨0, Nat.zero_le _, rfl, HO2.out, HB2.out, HN2.out⟩
          case round =>
            clear HN2 HB2 HO2
            obtain ⟨k, hk, rfl, ho, hb, hn⟩ := hrel
            have HO := Lib.hid ho
            have HB := Lib.hid hb
            have HN := Lib.hid hn
            have HIk := Lib.hid (HI.out.next hb)
            have hsr := hb.size
            clear ho hb
            by_cases hlt : k < ls.length
            · obtain ⟨m, hm⟩ : ∃ m, m = ls[k] := ⟨_, rfl⟩
              have hmn : m < g.length := HLI.out m (by rw [hm]; exact List.getElem_mem hlt)
              have hmm : m < ms.length := by rw [HI.out.ml]; exact hmn
              have hlt' : k < (natInts ls).length := by rw [natInts_length]; exact hlt
              obtain ⟨eb, eo, rfl, hce⟩ := hn.get hlt'
              rw [bits_get hlt', ← hm] at hce
              have hcm := HIk.out.sets.cellAt m (show m < g.length * 1 by omega)
              rw [List.getElem?_map, List.getElem?_eq_getElem hmm] at hcm
              change World.cell? _ ⟨sb, m, none⟩ = some (.int .u32 (ms[m] : Int)) at hcm
              have HMM := Lib.hid hm
              clear hn hlt' hm
              go_wp2_with (at_builtin; refine wpList_app1 ty_vsets rfl rfl rfl HO.out rfl rfl (by omega) hsr ?_; intro v' w7 hown7 hg7 _)
              go_roundw
              case rel => exact ⟨k + 1, by omega, by go_num, by rw [take_snoc' ls k hlt, List.map_append, List.map_append, ← HMM.out]; simp only [List.map_cons, List.map_nil]; rw [show ms.getD m 0 = ms[m] by simp [hmm]]; exact hown7, HB.out.trans (below_grown (Below.refl _ _) HO.out hg7 (Nat.le_refl _) hsr), HN.out.other HO.out hg7 (by decide)⟩
              case measure => simp [intOf]; omega
            · obtain rfl : k = ls.length := by omega
              clear hn
              rw [List.take_length] at HO
              obtain ⟨os, hos⟩ : ∃ os, os = ls.map fun i => ms.getD i 0 := ⟨_, rfl⟩
              have HOS := Lib.hid hos
              have hosl : os.length = ls.length := by rw [hos, List.length_map]
              have HOL := Lib.hid hosl
              have H16 : Hid (∀ s ∈ os, s < 65536) := Lib.hid (fun s hs => by
                rw [hos] at hs
                obtain ⟨i, _, rfl⟩ := List.mem_map.1 hs
                exact getD_lt16 HI.out.m16 i)
              have HSL : Hid (Sl _ 56 u9 os.length (os.map u32v)) := Lib.hid (by rw [hosl, hos]; exact Sl.of_owns HO.out (by omega))
              clear hos hosl
              go_wp2_with (go_at_call 37; refine (results_any _ os (fun s hs => by have := H16.out s hs; omega) (by rw [HOL.out]; omega) _ HSL.out HIk.out.tab).mono ?_; rintro e w7 ⟨u7, rfl, hd7, hb7⟩; have HD7 := Lib.hid hd7; obtain ⟨p7, c7, h7⟩ := hd7.shape; cases h7; have HRX := Lib.hid (HIk.out.res.keep hb7); have hrc := HRX.out.cell; have hrf := HRX.out.free; have HB7 := Lib.hid (HIk.out.bel.trans (hb7.mono HIk.out.bel.size)); have HS7 := Lib.hid HIk.out.bel.size; clear hd7 hb7)
              have hl := rowsOf_length os
              rw [hl]
              refine bodyPost_ret (v := .tuple #[.agg #[.slice p7 os.length c7], .bool true]) (by simp [results, Tryd.results8, go_sem, hrc]) rfl ⟨_, rowsOf os, true, rfl, .inr ⟨rfl, Hok.out, Hse.out, _, _, HFO.out, ?_⟩, ?_, by rw [rowsOf_length, HOL.out]; exact hcnt, fun j => ?_, ?_⟩
              · rw [HI.out.same.list, ← HLS.out, HOS.out]
                unfold rowsOf natInts
                rw [List.map_map, List.map_map]
                refine List.map_congr_left fun i _ => ?_
                have := row_rowsOf' ms i
                simp only [Function.comp, Int.toNat_natCast]
                exact this.symm
              · have := DG.base (DG.setM HD7.out HRX.out (.slice p7 (rowsOf os).length c7)) HS7.out
                rw [hl] at this
                exact this
              · rw [row_rowsOf', natInts_length]
                exact bits_16 (getD_lt16 H16.out j)
              · exact HB7.out.setCell (by show w.heap.size ≤ w.heap.size + 1; omega) _

end Go.Proofs.YtiklocamfgopbaaDoor
