/- Walk: FourModel of the reference. -/
import Derived.Test.YtiklocamfgopbaaDoorFoQ35
import Derived.Test.YtiklocamfgopbaaDoorFoQ25
namespace Go.Proofs.YtiklocamfgopbaaDoor
open Go.RowKit

theorem one_nums (w : World) (k : Int) : Nums (w.alloc (.cells #[.int .i64 k] 2)) 2 .i64 (.slice (some ⟨w.heap.size, 0, none⟩) 1 1) [k] :=
  ⟨_, _, rfl, (fun e => by cases e), Nat.le_refl _, by simp, .inr ⟨_, _, _, _, rfl, heap_alloc_new w _, fun j u hu => by
    rcases j with _ | j
    · simpa using hu
    · simp at hu⟩⟩

theorem sg_nilF (w : World) (base : Nat) : SG w base (.agg #[.slice none 0 0]) [] := ⟨_, [], rfl, rfl, World.ownsRow_nil _ _ _ _, fun j hj => by simp at hj⟩

theorem edge_mem {g : List (List Int)} {L : List Int} {x y : Int} (h : edgeOf g L = some (x, y)) : x ∈ L ∧ y ∈ row g x.toNat ∧ x < y := by
  obtain ⟨u, hu, he⟩ := List.exists_of_findSome?_eq_some h
  obtain ⟨z, hz, e⟩ := Option.map_eq_some_iff.1 he
  cases e
  have h1 := List.find?_some hz
  exact ⟨hu, List.mem_of_find?_eq_some hz, dec_iff.1 (Bool.and_eq_true_iff.1 h1).1⟩

set_option maxRecDepth 100000 in
set_option maxHeartbeats 4000000 in
theorem specFourModel_any (v : Value) (g : List (List Int)) (w : World) (hg : Gr w v g) :
    Calls Tryd.prog 6 #[v] w fun e w' => ∃ (u : Value) (out : List (List Int)) (ok : Bool), e = .returned (.tuple #[u, .bool ok]) ∧ FourS g out ok ∧ SG w' w.heap.size u out ∧ out.length ≤ 16 ∧ (∀ j, (row out j).length ≤ 16) ∧ Below w.heap.size w w' := by
  have hg0 := hg
  obtain ⟨u, rfl, hr⟩ := hg
  obtain ⟨gp, gc, rfl, _, _, _⟩ := hr.shape
  obtain ⟨W0, hW0, hb0, hbg, hbn, sz0⟩ : ∃ W0, W0 = (w.alloc (.cells #[.slice gp g.length gc] 30)).alloc (.cells #[.slice none 0 0] 27) ∧ Below w.heap.size w W0 ∧ Box W0 w.heap.size 30 (.slice gp g.length gc) ∧ Box W0 (w.heap.size + 1) 27 (.slice none 0 0) ∧ W0.heap.size = w.heap.size + 2 := by
    refine ⟨_, rfl, below_alloc2 _ _ _, (Box.new _ _ _).alloc _, ?_, by rw [size_alloc, size_alloc]⟩
    have := Box.new (w.alloc (.cells #[.slice gp g.length gc] 30)) (.slice none 0 0) 27
    rw [size_alloc] at this
    exact this
  have HB0 := Lib.hid hb0
  have HBG := Lib.hid hbg
  have HBN := Lib.hid hbn
  have HG := Lib.hid (hg0.below hb0)
  have HRW0 := Lib.hid hr
  have HRW := Lib.hid (hr.below hb0)
  clear hr hg0 hb0 hbg hbn
  by_cases hok : GOk g
  case neg =>
    have hd := dec_false hok
    have Hok := Lib.hid hok
    clear hok
    have hcg := HBG.out.cell
    have hbx1 := HBN.out.cell
    go_enter Tryd.func6, Tryd.ntmps6
    go_upto_region 1 with fail
    rw [← hW0]
    clear hW0
    go_wp2_with (go_at_call 21; refine (specGraphOk_any _ g _ HG.out).mono ?_; rintro e w2 ⟨rfl, hb2⟩; have HB2 := Lib.hid hb2; have HX2 := Lib.hid (HBN.out.keep hb2); have hx2 := HX2.out.cell; have hf2 := HX2.out.free; clear hb2)
    refine bodyPost_ret (v := .tuple #[.agg #[.slice none 0 0], .bool false]) (by simp [results, Tryd.results6, go_sem, hx2]) rfl ⟨_, [], false, rfl, .inl ⟨rfl, rfl, fun h => Hok.out h.1⟩, sg_nilF _ _, by simp, fun j => by simp [row], ?_⟩
    exact (HB0.out.trans (HB2.out.mono HB0.out.size)).setCell (by show w.heap.size ≤ w.heap.size + 1; omega) _
  have hd := dec_true hok
  have Hok := Lib.hid hok
  have h16 := hok.le
  have hpos := hok.pos
  clear hok
  by_cases hse : SerS g
  case pos =>
    have hd2 := dec_true hse
    have Hse := Lib.hid hse
    clear hse
    have hcg := HBG.out.cell
    go_enter Tryd.func6, Tryd.ntmps6
    go_upto_region 1 with fail
    rw [← hW0]
    clear hW0
    go_wp2_with (first
      | (go_at_call 22; refine (specSeriesIn_any _ g _ (HG.out.below HB2.out)).mono ?_; rintro e w3 ⟨rfl, hb3⟩; have HB3 := Lib.hid (HB2.out.trans (hb3.mono HB2.out.size)); have HX2 := Lib.hid (HBN.out.keep HB3.out); have hx2 := HX2.out.cell; have hf2 := HX2.out.free; clear hb3)
      | (go_at_call 21; refine (specGraphOk_any _ g _ HG.out).mono ?_; rintro e w2 ⟨rfl, hb2⟩; have HB2 := Lib.hid hb2; have hcg2 := hb2.at' hcg; clear hb2))
    refine bodyPost_ret (v := .tuple #[.agg #[.slice none 0 0], .bool false]) (by simp [results, Tryd.results6, go_sem, hx2]) rfl ⟨_, [], false, rfl, .inl ⟨rfl, rfl, fun h => h.2 Hse.out⟩, sg_nilF _ _, by simp, fun j => by simp [row], ?_⟩
    exact (HB0.out.trans (HB3.out.mono HB0.out.size)).setCell (by show w.heap.size ≤ w.heap.size + 1; omega) _
  have hd2 := dec_false hse
  have Hse := Lib.hid hse
  clear hse
  have hcg := HBG.out.cell
  go_enter Tryd.func6, Tryd.ntmps6
  go_upto_region 1 with fail
  rw [← hW0]
  clear hW0
  go_upto_region 4 with (first
    | (go_at_call 23; refine (l16All_any _ g (by omega) _ (HG.out.below HB3.out)).mono ?_; rintro e w4 ⟨lv, rfl, hown4, hb4⟩; have HN4 := Lib.hid (Nums.of_owns (xs := allL g.length) hown4 (allL_length _).symm (by omega)); have HB4 := Lib.hid (HB3.out.trans (hb4.mono HB3.out.size)); clear hown4 hb4)
    | (go_at_call 22; refine (specSeriesIn_any _ g _ (HG.out.below HB2.out)).mono ?_; rintro e w3 ⟨rfl, hb3⟩; have HB3 := Lib.hid (HB2.out.trans (hb3.mono HB2.out.size)); have hcg3 := HB3.out.at' hcg; clear hb3)
    | (go_at_call 21; refine (specGraphOk_any _ g _ HG.out).mono ?_; rintro e w2 ⟨rfl, hb2⟩; have HB2 := Lib.hid hb2; have hcg2 := hb2.at' hcg; clear hb2))
  obtain ⟨lp, lc, rfl, _⟩ := id HN4.out
  have hsz4 := HB4.out.size
  have hall := allL_length g.length
  rw [hall]
  clear hall hcg hcg2 hcg3
  go_wp2_with fail
  go_loopw [5, 6] (fun sv i wr => ∃ k : Nat, k ≤ g.length ∧ i = .int .i64 k ∧ SG wr w4.heap.size (.agg #[sv]) (aloneL k) ∧ Below w4.heap.size w4 wr) (fun _ i _ => g.length - (intOf i).toNat)
  case atStart =>
    refine ⟨0, Nat.zero_le _, rfl, ⟨_, [], rfl, rfl, ?_, fun j hj => by simp [aloneL] at hj⟩, below_alloc _ _⟩
    exact ownsRow_empty w4 _ 1
  case round =>
    obtain ⟨k, hk, rfl, hsg, hb⟩ := hrel
    have HS := Lib.hid hsg
    have HB := Lib.hid hb
    have hsr := hb.size
    clear hsg hb
    by_cases hlt : k < g.length
    · obtain ⟨_, vals, e, hvl, ho, hrows⟩ := HS.out
      cases e
      rw [aloneL_length] at hvl ho hrows
      have HRO := Lib.hid hrows
      have HVL := Lib.hid hvl
      have hownc := ownsRow_below ho (below_alloc wr (.cells #[.int .i64 (k : Int)] 2))
      clear hrows hvl ho
      go_wp2_with (at_builtin; refine wpList_app1s ty_rows rfl rfl rfl hownc (by rw [size_alloc]; rfl) rfl (by omega) (by rw [size_alloc]; omega) ?_; intro b7 c8 w7 hown7 hg7 _)
      go_roundw
      case rel =>
        refine ⟨k + 1, by omega, by go_num, ?_, ?_⟩
        · rw [aloneL_succ]
          exact SG.snoc (by rw [aloneL_length]; exact HVL.out) (by rw [aloneL_length]; exact hownc) (fun j hj => by rw [aloneL_length] at hj; exact (HRO.out j hj).below (below_alloc _ _)) (by rw [aloneL_length]; exact hown7) hg7 (one_nums _ _)
        · exact (HB.out.alloc hsr _).trans (below_grown (Below.refl w4.heap.size (wr.alloc (.cells #[.int .i64 (k : Int)] 2))) hownc hg7 (Nat.le_refl _) (by rw [size_alloc]; omega))
      case measure => simp [intOf]; omega
    · obtain rfl : k = g.length := by omega
      obtain ⟨sb, sc, rfl⟩ : ∃ sb sc, u5 = .slice (some ⟨sb, 0, none⟩) g.length sc := by
        obtain ⟨_, vals, e, _, h3, _⟩ := HS.out
        cases e
        rw [aloneL_length] at h3
        rcases h3.2 with ⟨_, h0⟩ | ⟨b, c, _, rfl, _⟩
        · omega
        · exact ⟨b, c, rfl⟩
      obtain ⟨gb, go, rfl, hgbl⟩ : ∃ gb go, gp = some ⟨gb, go, none⟩ ∧ gb < w.heap.size := by
        obtain ⟨b, o, _, _, e, hc, _⟩ := HRW0.out.get (k := 0) (by omega)
        exact ⟨b, o, e, World.block_lt_of_cell? _ _ hc⟩
      have START : Hid (FrI w wr g.length sb sc g (allL g.length) (aloneL g.length) gb go gc (.slice lp g.length lc)) := Lib.hid
        { bel := HB0.out.trans ((HB4.out.trans (HB.out.mono hsz4)).mono HB0.out.size), sz := by omega, box := HBG.out.keep (HB4.out.trans (HB.out.mono hsz4)), gr := HRW.out.below (HB4.out.trans (HB.out.mono hsz4)), ne := by have := (HS.out.lt sb rfl).1; omega
          res := HBN.out.keep (HB4.out.trans (HB.out.mono hsz4)), left := by have := HN4.out.below HB.out; rw [allL_length] at this; exact this, sets := HS.out.base (by omega), gl := rfl, sl := aloneL_length _, rs := aloneL_rg _
          gw := ⟨h16, by rw [allL_length]; exact h16, fun x hx => mem_allL.1 hx, RG.of_ok Hok.out⟩ }
      have HNL := Lib.hid (allL_length g.length)
      clear HB HS HG HBG HBN HRW HRW0 HN4 hsr HB0 HB4
      go_wp2_with fail
      go_loopw [4] (fun lv wz => ∃ gg L S gb go gc lp lc, lv = .slice lp L.length lc ∧ FrI w wz g.length sb sc gg L S gb go gc (.slice lp L.length lc) ∧ Hid (FoursOn g (allL g.length) (aloneL g.length) gg L S) ∧ Hid (CL gg L)) (fun lv _ => match lv with | .slice _ n _ => n | _ => 0)
      case atStart => exact ⟨g, allL g.length, _, gb, go, gc, lp, lc, by rw [HNL.out], by rw [HNL.out]; exact START.out, Lib.hid fun _ _ h => h, Lib.hid (CL.start Hok.out)⟩
      case round =>
        clear START hgbl
        obtain ⟨gg, L, S, gb', go', gc', lp', lc', rfl, hI, HON, HCL⟩ := hrel
        have HI := Lib.hid hI
        have hcg := hI.box.cell
        have hcf := hI.box.free
        have hcl := hI.box.lt
        have hgl := hI.gl
        have hGr : Gr wr (.agg #[.slice (some ⟨gb', go', none⟩) g.length gc']) gg := ⟨_, rfl, hI.gr⟩
        have HGr := Lib.hid hGr
        have HN := Lib.hid hI.left
        have HGL := Lib.hid hI.gw
        have HGLE := Lib.hid hgl
        clear hI hGr hgl
        have T1 := Lib.hid (show 1 ≤ gg.length by have := HGLE.out; omega)
        have HSB := Lib.hid HI.out.slt
        cases hlo : lessOf gg L with
        | some x =>
          have HLO := Lib.hid hlo
          clear hlo
          go_wp2_with (first
            | (go_at_call 24; refine (l20Less_yes _ _ gg L HGL.out T1.out HLO.out _ HGr.out HN.out).mono ?_; rintro e w5 ⟨b5, c5, lp5, lc5, rfl, hb5, hbb5, hxm, hr5, hn5⟩; rw [HGLE.out] at hr5 ⊢; have HR5 := Lib.hid hr5; have HN5 := Lib.hid hn5; have HXM := Lib.hid hxm; have HB5 := Lib.hid (hb5.alloc hb5.size (.cells #[.slice (some ⟨b5, 0, none⟩) g.length c5] 30)); have HBX := Lib.hid (HI.out.box.keep HB5.out); have hx5 := HBX.out.cell; have hf5 := HBX.out.free; clear hr5 hn5 hxm hb5))
          go_roundw
          case rel =>
            refine ⟨freeG gg x, lessL L x, S, b5, 0, c5, lp5, lc5, rfl, HI.out.go HB5.out (HR5.out.below (below_alloc _ _)) (by have := HSB.out; omega) (HN5.out.below (below_alloc _ _)) (by rw [freeG_length]; exact HGLE.out) (HGL.out.less (freeG_length _ _) (HGL.out.rg.free _) _), Lib.hid fun _ _ h => HON.out _ _ (.less HLO.out h), Lib.hid (HCL.out.free HGL.out _)⟩
          case measure => have := lessL_length_lt HXM.out; simp; omega
        | none =>
          have HLO := Lib.hid hlo
          clear hlo
          cases hed : edgeOf gg L with
          | some uv =>
            obtain ⟨x, y⟩ := uv
            have hsome : x ∈ L ∧ y ∈ row gg x.toNat ∧ x < y := edge_mem hed
            obtain ⟨a, rfl, han⟩ : ∃ a : Nat, x = (a : Int) ∧ a < g.length := ⟨x.toNat, by have := HGL.out.inn x hsome.1; omega, by have := HGL.out.inn x hsome.1; have := HGLE.out; omega⟩
            obtain ⟨b, rfl, hbn⟩ : ∃ b : Nat, y = (b : Int) ∧ b < g.length := ⟨y.toNat, by have := (HGL.out.rg (a : Int).toNat).1 y hsome.2.1; omega, by have := (HGL.out.rg (a : Int).toNat).1 y hsome.2.1; have := HGLE.out; omega⟩
            have hab : a < b := by have := hsome.2.2; omega
            have HED := Lib.hid hed
            have HME := Lib.hid hsome.1
            have HMB : Hid ((b : Int) ∈ L) := Lib.hid (HCL.out.cl _ hsome.1 _ hsome.2.1)
            have T2 := Lib.hid HGL.out.rg
            have T3 := Lib.hid (show a < gg.length by rw [HGLE.out]; exact han)
            have T4 := Lib.hid (show b < gg.length by rw [HGLE.out]; exact hbn)
            have T5 := Lib.hid (show gg.length ≤ 16 by rw [HGLE.out]; exact h16)
            have T6 := Lib.hid (show (lessL L b).length ≤ 1000000000 by have := lessL_length L b; have := HGL.out.l16; omega)
            have T7 := Lib.hid (HGL.out.join (v := (b : Int)) HME.out)
            clear hed hsome
            go_upto_region 16 with (first
              | (go_at_call 24; refine (l20Less_no _ _ gg L HGL.out HLO.out _ HGr.out HN.out).mono ?_; rintro e w5 ⟨rfl, hb5⟩; have HB5 := Lib.hid (hb5.alloc hb5.size (.cells #[.slice (some ⟨gb', go', none⟩) g.length gc'] 30)); have hx5 := HB5.out.at' hcg; clear hb5)
              | (go_at_call 25; refine (l20Edge_yes _ _ gg L HGL.out HED.out _ (HGr.out.below HB5.out) (HN.out.below HB5.out)).mono ?_; rintro e w6 ⟨rfl, hb6, _⟩; have HB6 := Lib.hid (HB5.out.trans (hb6.mono HB5.out.size)); have hx6 := HB6.out.at' hcg; clear hb6)
              | (go_at_call 26; refine (l20Join_any _ gg _ _ a b rfl rfl T3.out T4.out T5.out T2.out _ (HGr.out.below HB6.out)).mono ?_; rintro e w7 ⟨r7, rfl, hs7, _, hb7⟩; obtain ⟨b7, c7, rfl, k7, _, hr7⟩ := hs7.outer (by rw [joinG_length]; exact T1.out) (by rw [joinG_length]; have := T5.out; omega); rw [joinG_length, HGLE.out] at hr7 ⊢; have HR7 := Lib.hid hr7; have HK7 := Lib.hid (Nat.le_trans HB6.out.size k7); have HB7 := Lib.hid (HB6.out.trans (hb7.mono HB6.out.size)); have HBX := Lib.hid (HI.out.box.keep HB7.out); have hx7 := HBX.out.cell; have hf7 := HBX.out.free; clear hs7 hr7 hb7 k7))
            have HI7 := Lib.hid (HI.out.go HB7.out HR7.out (by have := HSB.out; have := HK7.out; omega) (HN.out.below HB7.out) (by rw [joinG_length]; exact HGLE.out) (⟨by rw [joinG_length]; exact T5.out, HGL.out.l16, fun z hz => by rw [joinG_length]; exact HGL.out.inn z hz, T7.out.rg⟩ : GL (joinG gg a b) L))
            generalize hW7 : w7.setCell ⟨w.heap.size, 0, none⟩ (.slice (some ⟨b7, 0, none⟩) g.length c7) = W7 at HI7 ⊢
            clear hW7 hx5 hx6 hx7 hf7
            have T8 : Hid (∀ x ∈ row S b, 0 ≤ x ∧ x < (g.length : Int)) := Lib.hid (by have := (HI.out.rs b).1; rwa [HI.out.sl] at this)
            have T9 : Hid (SetIn g.length (row S a)) := Lib.hid (by have := HI.out.rs a; rwa [HI.out.sl] at this)
            have T10 : Hid ((row S b).length ≤ 16) := Lib.hid (by have := HI.out.rs.row_le b; have := HI.out.sl; omega)
            clear HB5 HB6 HB7 HR7 HBX HI HGr HN hcg hcf hcl
            go_wp2_with (first
              | (go_at_call 27; refine (l19Less_any _ L b _ HI7.out.left).mono ?_; rintro e w8 ⟨r8, rfl, hown8, hb8⟩; have hn8 := Nums.of_owns hown8 rfl T6.out; obtain ⟨r8p, r8c, rfl, _⟩ := id hn8; have HI8 := Lib.hid ((HI7.out.next hb8).setLeft hn8 T7.out); clear hown8 hb8 hn8))
            obtain ⟨t, ht⟩ : ∃ t, t = row S b := ⟨_, rfl⟩
            have HT := Lib.hid ht
            have htl : t.length ≤ 16 := by rw [ht]; exact T10.out
            have T11 : Hid (S = S.set a (intoAll (row S a) (t.take 0))) := Lib.hid (by
              have hl : a < S.length := by have := HI7.out.sl; omega
              show S = S.set a (row S a)
              rw [show row S a = S[a] by simp [row, hl], List.set_getElem_self])
            clear ht
            go_loopw [13] (fun iv wr => ∃ (i : Nat) (S1 : List (List Int)), i ≤ t.length ∧ iv = .int .i64 i ∧ FrI w wr g.length sb sc (joinG gg a b) (lessL L b) S1 b7 0 c7 (.slice r8p (lessL L b).length r8c) ∧ Hid (S1 = S.set a (intoAll (row S a) (t.take i)))) (fun iv _ => t.length - (intOf iv).toNat)
            case atStart => exact ⟨0, S, Nat.zero_le _, rfl, HI8.out, T11.out⟩
            case round =>
              obtain ⟨i, S1, hi, rfl, hJ, HE⟩ := hrel
              have HJ := Lib.hid hJ
              have hrb : row S1 b = t := by rw [HE.out, row_put, if_neg (fun q => by omega), HT.out]
              obtain ⟨pb, cb, hcb, _, hnb⟩ := hJ.get hbn
              rw [hrb] at hcb hnb
              clear hJ hrb
              by_cases hlt : i < t.length
              · obtain ⟨eb, eo, rfl, hce⟩ := hnb.get hlt
                obtain ⟨pa, ca, hca, hfa, hna⟩ := HJ.out.get han
                obtain ⟨s1, hs1⟩ : ∃ s1, s1 = row S1 a := ⟨_, rfl⟩
                have HS1 := Lib.hid hs1
                have hsl : s1.length ≤ 16 := by rw [hs1]; have := HJ.out.rs.row_le a; have := HJ.out.sl; omega
                rw [← hs1] at hca hna
                have HNA := Lib.hid hna
                have hlts := World.block_lt_of_cell? _ _ hca
                have HFA := Lib.hid hfa
                obtain ⟨y, hy⟩ : ∃ y, y = t[i] := ⟨_, rfl⟩
                have HY := Lib.hid hy
                rw [← hy] at hce
                clear hs1 hna hnb hy
                go_upto_region 20 with fail
                go_region_law (first | (go_simp; go_at_call 28; refine (l1Into_any _ s1 y (by omega) _ (HNA.out.below (below_dN (Below.refl _ _) 1))).mono ?_; rintro e w2 ⟨rv, rfl, hn2, hb2⟩; obtain ⟨rvp, rvc, rfl, _⟩ := hn2.shape; have hb2' : Below wr.heap.size wr w2 := (below_dN (Below.refl _ _) 1).trans hb2; have hf2 := (hb2'.frozen (p := ⟨sb, a, none⟩) hlts).trans HFA.out; have hc2 := hb2'.at' hca; have hbc2 := hb2'.at' hcb))
                all_goals
                  have HP := Lib.hid (HJ.out.put hb2' hn2 han (setIn_intoL (by have := HJ.out.rs a; rw [HJ.out.sl, ← HS1.out] at this; exact this) (by rw [HY.out]; exact (T8.out _ (by rw [← HT.out]; exact List.getElem_mem hlt)).1) (by rw [HY.out]; exact (T8.out _ (by rw [← HT.out]; exact List.getElem_mem hlt)).2)))
                  clear hca hcb hce hf2 hc2 hbc2
                  go_wp2
                  go_roundw
                  case rel => exact ⟨i + 1, _, by omega, by go_num, HP.out, Lib.hid (by rw [HS1.out, HE.out, List.set_set, row_put, if_pos ⟨rfl, by have := HI7.out.sl; omega⟩, intoAll, intoAll, take_fold _ _ _ hlt, HY.out])⟩
                  case measure => simp [intOf]; omega
              · obtain rfl : i = t.length := by omega
                go_wp2
                go_roundw
                case rel => exact ⟨_, _, S1, b7, 0, c7, r8p, r8c, rfl, HJ.out, Lib.hid fun _ _ h => HON.out _ _ (.edge HLO.out HED.out (by rw [Int.toNat_natCast, Int.toNat_natCast, ← HT.out]; rw [HE.out, List.take_length] at h; exact h)), Lib.hid (HCL.out.join HGL.out HME.out HMB.out (by omega))⟩
                case measure => have := lessL_length_lt HMB.out; simp; omega
          | none =>
            have HED := Lib.hid hed
            clear hed
            go_wp2_with (first
              | (go_at_call 24; refine (l20Less_no _ _ gg L HGL.out HLO.out _ HGr.out HN.out).mono ?_; rintro e w5 ⟨rfl, hb5⟩; have HB5 := Lib.hid (hb5.alloc hb5.size (.cells #[.slice (some ⟨gb', go', none⟩) g.length gc'] 30)); have hx5 := HB5.out.at' hcg; clear hb5)
              | (go_at_call 25; refine (l20Edge_no _ _ gg L HGL.out HED.out _ (HGr.out.below HB5.out) (HN.out.below HB5.out)).mono ?_; rintro e w6 ⟨z1, z2, rfl, hb6⟩; have HB6 := Lib.hid (HB5.out.trans (hb6.mono HB5.out.size)); clear hb6))
            have HFO := Lib.hid (HON.out _ _ (.stop HLO.out HED.out))
            have HI6 := Lib.hid (HI.out.next HB6.out)
            have BM := Lib.hid (Box.new w6 (.slice none 0 0) 27)
            have hLl : L.length ≤ 16 := HGL.out.l16
            have s6 := (HI.out.next HB6.out).sz
            clear HB5 HB6 hx5 HI HGr HN hcg hcf hcl HON
            go_loopw [15] (fun iv wr => ∃ (k : Nat) (ov : Value), k ≤ L.length ∧ iv = .int .i64 k ∧ Below w6.heap.size w6 wr ∧ Box wr w6.heap.size 27 ov ∧ SG wr (w6.heap.size + 1) (.agg #[ov]) ((L.take k).map fun v => row S v.toNat)) (fun iv _ => L.length - (intOf iv).toNat)
            case atStart => exact ⟨0, _, Nat.zero_le _, rfl, below_alloc _ _, BM.out, sg_nilF _ _⟩
            case round =>
              clear BM
              obtain ⟨k, ov, hk, rfl, hbw, hbm, hsg⟩ := hrel
              have HBW := Lib.hid hbw
              have HJ := Lib.hid (HI6.out.next hbw)
              have HBM := Lib.hid hbm
              have HSG := Lib.hid hsg
              obtain ⟨p9, c9, hov⟩ : ∃ p c, ov = .slice p k c := by
                obtain ⟨p, c, e⟩ := hsg.shape
                rw [List.length_map, List.length_take, Nat.min_eq_left hk] at e
                cases e
                exact ⟨p, c, rfl⟩
              subst hov
              have hcm := hbm.cell
              have hfm := hbm.free
              have hlm := hbm.lt
              clear hbw hbm hsg
              by_cases hlt : k < L.length
              · obtain ⟨a, ha, han⟩ : ∃ a : Nat, L[k] = (a : Int) ∧ a < g.length := by
                  have := HGL.out.inn _ (List.getElem_mem hlt)
                  exact ⟨(L[k]).toNat, by omega, by have := HGLE.out; omega⟩
                obtain ⟨eb, eo, rfl, hce⟩ := HJ.out.left.get hlt
                rw [ha] at hce
                have HA := Lib.hid ha
                obtain ⟨pa, ca, hca, _, hna⟩ := HJ.out.get han
                obtain ⟨s1, hs1⟩ : ∃ s1, s1 = row S a := ⟨_, rfl⟩
                have HS1 := Lib.hid hs1
                rw [← hs1] at hca hna
                have HNA := Lib.hid hna
                obtain ⟨_, vals, e9, hvl, ho, hrows⟩ := HSG.out
                cases e9
                have hll : ((L.take k).map fun v => row S v.toNat).length = k := by rw [List.length_map, List.length_take, Nat.min_eq_left hk]
                rw [hll] at hvl ho hrows
                have HVL := Lib.hid hvl
                have HRO := Lib.hid hrows
                have hownc := ownsRow_below ho (below_dN (Below.refl _ _) 1)
                have HLL := Lib.hid hll
                clear ha hs1 hna hvl hrows hll ho
                go_upto_region 25 with fail
                go_region_law (first
                  | (refine step_app1s (w := wr.drewN 1) ty_rows rfl rfl rfl hownc rfl rfl (by omega) (by show w6.heap.size + 1 ≤ wr.heap.size; omega) ?_; intro b7 c8 w7 hown7 hg7; have hb7 := below_grown (Below.refl (w6.heap.size + 1) (wr.drewN 1)) hownc hg7 (Nat.le_refl _) (by show w6.heap.size + 1 ≤ wr.heap.size; omega); have hob7 := hb7.at (by omega) (show (wr.drewN 1).cell? ⟨w6.heap.size, 0, none⟩ = _ from hcm); have hof7 := (hb7.frozen (p := ⟨w6.heap.size, 0, none⟩) (by show w6.heap.size < _; omega)).trans (show (wr.drewN 1).frozen? ⟨w6.heap.size, 0, none⟩ = _ from hfm)))
                all_goals go_wp2
                all_goals
                  have hg7' : (wr.drewN 1).grownBy w7 (Value.slice p9 k c9).ownBlock := hg7
                  have HBM7 := Lib.hid ((HBM.out.keep (below_dN (Below.refl _ _) 1)).below hb7 (Nat.lt_succ_self _))
                  have hsg7 : SG w7 (w6.heap.size + 1) (.agg #[.slice (some ⟨b7, 0, none⟩) (k + 1) c8]) (((L.take k).map fun v => row S v.toNat) ++ [s1]) :=
                    SG.snoc (by rw [HLL.out]; exact HVL.out) (by rw [HLL.out]; exact hownc) (fun j hj => (HRO.out j (by rw [HLL.out] at hj; exact hj)).below (below_dN (Below.refl _ _) 1)) (by rw [HLL.out]; exact hown7) hg7' (HNA.out.below (below_dN (Below.refl _ _) 1))
                  have HS7 := Lib.hid (hsg7.setM HBM7.out (.slice (some ⟨b7, 0, none⟩) (k + 1) c8))
                  have hsz6 := HBW.out.size
                  have HB7 := Lib.hid (((HBW.out.trans ((below_dN (Below.refl wr.heap.size wr) 1).mono hsz6)).trans (hb7.mono (Nat.le_succ _))).setCell (p := ⟨w6.heap.size, 0, none⟩) (Nat.le_refl _) (.slice (some ⟨b7, 0, none⟩) (k + 1) c8))
                  go_roundw
                  case rel => exact ⟨k + 1, _, by omega, by go_num, HB7.out, HBM7.out.set _, by rw [take_snoc' L k hlt, List.map_append, HA.out]; show SG _ _ _ (_ ++ [row S (a : Int).toNat]); rw [Int.toNat_natCast, ← HS1.out]; exact HS7.out⟩
                  case measure => simp [intOf]; omega
              · obtain rfl : k = L.length := by omega
                have hbxr := HJ.out.res
                have hrc := hbxr.cell
                have hrf := hbxr.free
                have HRX := Lib.hid hbxr
                have hml : ((L.take L.length).map fun v => row S v.toNat).length = L.length := by simp
                rw [List.take_length] at HSG
                clear hbxr
                go_wp2
                refine bodyPost_ret (v := .tuple #[.agg #[.slice p9 L.length c9], .bool true]) (by simp [results, Tryd.results6, go_sem, hrc]) rfl ⟨_, _, true, rfl, .inr ⟨rfl, Hok.out, Hse.out, L, S, HFO.out, rfl⟩, ?_, by rw [List.length_map]; exact hLl, fun j => ?_, ?_⟩
                · exact SG.base (HSG.out.setM HRX.out _) (by omega)
                · by_cases hj : j < L.length
                  · have e : row (L.map fun v => row S v.toNat) j = row S (L[j]).toNat := by simp [row, hj]
                    rw [e]
                    have := HI6.out.rs.row_le (L[j]).toNat
                    have := HI6.out.sl
                    omega
                  · rw [row_over (by rw [List.length_map]; omega)]; simp
                · exact HJ.out.bel.setCell (by show w.heap.size ≤ w.heap.size + 1; omega) _

end Go.Proofs.YtiklocamfgopbaaDoor
