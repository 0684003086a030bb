/- Walk: the graph of a tree, by the program. -/
import Derived.Test.YtfphapcgjlhieaaDoorGtQ38
import Derived.Test.YtfphapcgjlhieaaDoorGtQ39
import Derived.Test.YtfphapcgjlhieaaDoorGtQ41
import Derived.Test.YtfphapcgjlhieaaDoorGtQ13
namespace Go.Proofs.YtfphapcgjlhieaaDoor
open Go.RowKit

/-- The sets of neighbours while they are made. -/
structure GJ (W0 w : World) (nb n : Nat) (E : Nat → Nat → Bool) : Prop where
  bel : Below W0.heap.size W0 w
  own : w.ownsRow W0.heap.size 76 1 (.slice (some ⟨nb, 0, none⟩) n n) n ((indN n E).map u32v)
theorem GJ.next {W0 w w' : World} {nb n : Nat} {E : Nat → Nat → Bool} (h : GJ W0 w nb n E) (hb : Below w.heap.size w w') : GJ W0 w' nb n E :=
  ⟨h.bel.trans (hb.mono h.bel.size), ownsRow_below h.own hb⟩
theorem GJ.joined {W0 w w' : World} {nb n u v : Nat} {E : Nat → Nat → Bool} (h : GJ W0 w nb n E) (hn : n ≤ 16) (hu : u < n) (hv : v < n) (huv : u ≠ v)
    (ho : w'.ownsRow W0.heap.size 76 1 (.slice (some ⟨nb, 0, none⟩) n n) n ((joinL (indN n E) u v).map u32v)) (hg : w.grownBy w' (some nb)) : GJ W0 w' nb n (add1 E u v) := by
  rw [joinL_ind hn hu hv huv] at ho
  exact ⟨below_grown h.bel h.own hg (Nat.le_refl _) h.bel.size, ho⟩
/-- With a node's variable, and lists. -/
structure GI (W0 w : World) (nb n : Nat) (E : Nat → Nat → Bool) (pb : Nat) (a b c : Value) (L : List (Value × List Nat)) : Prop where
  j : GJ W0 w nb n E
  node : T3 w pb 54 a b c
  lists : ∀ y ∈ L, Nums w 3 .i64 y.1 (natInts y.2)
theorem GI.next {W0 w w' : World} {nb n pb : Nat} {E : Nat → Nat → Bool} {a b c : Value} {L : List (Value × List Nat)} (h : GI W0 w nb n E pb a b c L) (hb : Below w.heap.size w w') : GI W0 w' nb n E pb a b c L :=
  ⟨h.j.next hb, h.node.keep hb, fun y hy => (h.lists y hy).below hb⟩
theorem GI.add {W0 w : World} {nb n pb : Nat} {E : Nat → Nat → Bool} {a b c : Value} {L : List (Value × List Nat)} (h : GI W0 w nb n E pb a b c L) {v : Value} {A : List Nat} (hn : Nums w 3 .i64 v (natInts A)) : GI W0 w nb n E pb a b c ((v, A) :: L) :=
  ⟨h.j, h.node, fun y hy => by
    rcases List.mem_cons.1 hy with rfl | hy
    · exact hn
    · exact h.lists y hy⟩
theorem GI.tail {W0 w : World} {nb n pb : Nat} {E : Nat → Nat → Bool} {a b c : Value} {y : Value × List Nat} {L : List (Value × List Nat)} (h : GI W0 w nb n E pb a b c (y :: L)) : GI W0 w nb n E pb a b c L :=
  ⟨h.j, h.node, fun z hz => h.lists z (List.mem_cons_of_mem _ hz)⟩
theorem GI.joined {W0 w w' : World} {nb n pb u v : Nat} {E : Nat → Nat → Bool} {a b c : Value} {L : List (Value × List Nat)} (h : GI W0 w nb n E pb a b c L) (hn : n ≤ 16) (hu : u < n) (hv : v < n) (huv : u ≠ v)
    (ho : w'.ownsRow W0.heap.size 76 1 (.slice (some ⟨nb, 0, none⟩) n n) n ((joinL (indN n E) u v).map u32v)) (hg : w.grownBy w' (some nb)) : GI W0 w' nb n (add1 E u v) pb a b c L := by
  refine ⟨h.j.joined hn hu hv huv ho hg, ⟨(hg.block pb h.node.lt fun e => ?_).trans h.node.blk⟩, fun y hy => (h.lists y hy).other h.j.own hg (by decide)⟩
  rcases h.j.own.2 with ⟨e2, _⟩ | ⟨g', cap', cur', e2, _, hgg, _⟩
  · cases e2
  · cases e2
    cases e
    have := h.node.blk
    rw [hgg] at this
    simp only [Option.some.injEq, Obj.cells.injEq] at this
    exact absurd this.2.1 (by decide)

/-- What is handed back. -/
def GtE (ts : List Pt) (w : World) (e : Ending) (w' : World) : Prop :=
  ∃ (u : Value) (R : List (List Int)) (ok : Bool), e = .returned (.tuple #[u, .bool ok]) ∧ GtS ts (CoP ts) R ok ∧ DG w' w.heap.size u R ∧ R.length ≤ 16 ∧ (∀ j, (row R j).length ≤ 16) ∧ Below w.heap.size w w'
theorem DG.nilT (w : World) (base : Nat) : DG w base (.agg #[.slice none 0 0]) [] :=
  ⟨_, [], rfl, rfl, ⟨rfl, .inl ⟨rfl, rfl⟩⟩, ⟨fun j hj => by simp at hj, fun i j hi => by simp at hi⟩⟩

set_option maxRecDepth 100000 in
set_option maxHeartbeats 8000000 in
theorem implGraphOfTree_any' (v : Value) (ts : List Pt) (w : World) (htr : Trs w v ts) (hT : Tab w) :
    Calls Tryd.prog 10 #[v] w (GtE ts w) := by
  obtain ⟨vp, vc, rfl, hlen⟩ := htr.shape
  obtain ⟨W0, hW0⟩ : ∃ W, W = w.alloc (.cells #[.slice none 0 0] 26) := ⟨_, rfl⟩
  have hbA : Below w.heap.size w W0 := by rw [hW0]; exact below_alloc _ _
  have HBA := Lib.hid hbA
  have HTR := Lib.hid (htr.below hbA)
  have HT := Lib.hid (hT.keep hbA)
  have HB1 : Hid (Box W0 w.heap.size 26 (.slice none 0 0)) := Lib.hid (by rw [hW0]; exact Box.new _ _ _)
  clear htr hT hbA
  by_cases hco : CoP ts
  case neg =>
    have hd := dec_false hco
    have HN := Lib.hid hco
    clear hco
    go_enter Tryd.func10, Tryd.ntmps10
    go_upto_region 1 with fail
    rw [← hW0]
    clear hW0
    go_wp2_with (go_at_call 25; refine (implCoTreeOk_any _ ts _ HTR.out HT.out).mono ?_; rintro e w2 ⟨he, hb2⟩; rw [hd] at he; subst he; have qb := HB1.out.keep hb2; have mf := qb.free; have ml := qb.cell; have QB := Lib.hid qb; clear qb)
    have mc := (QB.out.set (.slice none 0 0)).cell
    refine bodyPost_ret (v := .tuple #[.agg #[.slice none 0 0], .bool false]) (by simp [results, Tryd.results10, go_sem, mc]) rfl ⟨_, [], false, rfl, .inr ⟨HN.out, rfl, rfl⟩, DG.nilT _ _, by decide, row_nilQ, ?_⟩
    exact (HBA.out.trans (hb2.mono HBA.out.size)).setCell (Nat.le_refl _) _
  have hd := dec_true hco
  have hpt := hco.1
  have HPT := Lib.hid hpt
  have HCO := Lib.hid hco
  have hmk := msk_ok (ts := ts) ts.length (parts_good hpt)
  have hn1 := hpt.2.1
  obtain ⟨q, hq⟩ : ∃ q, ts.length - 1 = q := ⟨_, rfl⟩
  have hql : q < ts.length := by omega
  have hwq : IntKind.i64.wrap ((ts.length : Int) - 1) = (q : Int) := by rw [IntKind.wrap_i64]; omega
  obtain ⟨rt, hrt⟩ : ∃ a, (mskT ts).getD q 0 = a := ⟨_, rfl⟩
  have hra : rootM ts = rt := by rw [← hrt, ← hq]; rfl
  have ha16 := (hmk q hql).1
  rw [hrt] at ha16
  obtain ⟨n, hc⟩ : ∃ c, (bitsOf rt).length = c := ⟨_, rfl⟩
  have hcn : cn (rootM ts) = n := by rw [hra]; exact hc
  have hn16 : n ≤ 16 := by rw [← hc]; exact cn_le16 ha16
  have HA := Lib.hid hrt
  have HC := Lib.hid hc
  have HCN := Lib.hid hcn
  have HMK := Lib.hid hmk
  have hqi : ((q : Nat) : Int) < (ts.length : Int) := by omega
  clear hrt hra hc hq hco hpt hmk hcn
  go_enter Tryd.func10, Tryd.ntmps10
  go_upto_region 1 with fail
  rw [← hW0]
  clear hW0
  go_upto_region 4 with (first
    | (go_at_call 25; refine (implCoTreeOk_any _ ts _ HTR.out HT.out).mono ?_; rintro e w2 ⟨he, hb2⟩; rw [hd] at he; subst he)
    | (go_at_call 48; refine (leaves_yes _ ts _ (HTR.out.below hb2) (HT.out.keep hb2) HPT.out).mono ?_; rintro e w3 ⟨lv, rfl, hvs, hb3⟩; obtain ⟨lp, lc, hlve, hle⟩ := VS.shape hvs; subst hlve; have HVS := Lib.hid hvs; have HB3 := Lib.hid (hb2.trans (hb3.mono hb2.size)); clear hvs hb3))
  rw [mskT_length] at *
  obtain ⟨lb, lo, e, hcl⟩ := HVS.out.at (k := q) (by rw [mskT_length]; exact hql)
  subst e
  rw [HA.out] at hcl
  have hn9 : n ≤ 1000000000 := by omega
  clear hb2 hd
  go_wp2_with (first
    | (go_at_call 49; refine (size16_any _ rt rfl ha16 _).mono ?_; rintro e w4 ⟨he, z, hw4⟩; rw [HC.out] at he; subst he; have hb4 : Below w3.heap.size w3 w4 := (by rw [hw4]; exact below_dN (Below.refl _ _) _); clear hw4)
    | (at_make; refine wpList_mk ty_nets rfl rfl rfl n rfl rfl rfl rfl hn9 ?_; intro w5 hown5 hg5))
  have HB4 := Lib.hid (HB3.out.trans (hb4.mono HB3.out.size))
  have HVS4 : Hid (VS w4 (.slice (some ⟨lb, lo, none⟩) ts.length lc) (mskT ts)) := Lib.hid (HVS.out.below hb4)
  have HTR4 := Lib.hid (HTR.out.below HB4.out)
  have HT4 := Lib.hid (HT.out.keep HB4.out)
  obtain ⟨nb, hnb⟩ : ∃ nb, w4.heap.size = nb := ⟨_, rfl⟩
  have G0 : Hid (GJ w4 w5 nb n (nodE ts 0)) := Lib.hid ⟨grown_below hg5, by
    rw [hnb] at hown5 ⊢
    have : (indN n (nodE ts 0)).map u32v = List.replicate n (.int .u32 0) := by rw [ind_zeroB, List.map_replicate]; rfl
    rw [this]
    exact hown5⟩
  rw [hnb]
  have HNB := Lib.hid hnb
  clear hcl hb4 hg5 hown5 hnb
  go_loopw [36] (fun i wr => ∃ k : Nat, k ≤ ts.length ∧ i = .int .i64 k ∧ GJ w4 wr nb n (nodE ts k)) (fun i _ => ts.length - (intOf i).toNat)
  case atStart => exact ⟨0, Nat.zero_le _, rfl, G0.out⟩
  case round =>
    clear G0
    obtain ⟨k, hk, rfl, hgj⟩ := hrel
    have HGJ := Lib.hid hgj
    have hbel := hgj.bel
    by_cases hlt : k < ts.length
    · obtain ⟨⟨pk, pv, ps⟩, hp⟩ : ∃ p, ts[k]? = some p := ⟨_, List.getElem?_eq_getElem hlt⟩
      have HP := Lib.hid hp
      have HKI := Lib.hid (parts_kids HPT.out hp)
      obtain ⟨b, o, rp, rc, e, c0, c1, c2, hkn, hkl⟩ := (HTR4.out.below hbel).at hp
      subst e
      simp only at c0 c1 c2 hkn hkl
      have hprc : ps.length ≤ rc := by
        obtain ⟨_, _, e, _, h, _⟩ := hkn
        cases e
        exact h
      have HNS := Lib.hid (nodE_succ hp)
      obtain ⟨W1, hW1⟩ : ∃ W, W = wr.alloc (.cells #[.int .i64 pk, .int .i64 pv, .slice rp ps.length rc] 54) := ⟨_, rfl⟩
      have hb1 : Below wr.heap.size wr W1 := by rw [hW1]; exact below_alloc _ _
      have h3 : T3 W1 wr.heap.size 54 (.int .i64 pk) (.int .i64 pv) (.slice rp ps.length rc) := by rw [hW1]; exact T3.new _ _ _ _ _
      obtain ⟨z0, z1, z2⟩ := h3.cells
      have HGI : Hid (GI w4 W1 nb n (nodE ts k) wr.heap.size (.int .i64 pk) (.int .i64 pv) (.slice rp ps.length rc) []) := Lib.hid ⟨hgj.next hb1, h3, fun y hy => by cases hy⟩
      have HKN : Hid (∀ wz, Below w4.heap.size w4 wz → Nums wz 2 .i64 (.slice rp ps.length rc) ps) := Lib.hid fun wz hb => by
        obtain ⟨b', o', rp', rc', e, _, _, c2', hkn', _⟩ := (HTR4.out.below hb).at HP.out
        cases e
        have h2 := (HTR4.out.below hbel).at HP.out
        obtain ⟨b6, o6, rp6, rc6, e6, _, _, c6, hkn6, _⟩ := HTR4.out.at HP.out
        cases e6
        have k1 := hb.at' c6
        have k2 := hbel.at' c6
        rw [c2'] at k1
        simp only at c2 k2 k1
        rw [c2] at k2
        simp only [Option.some.injEq] at k1 k2
        rw [k2, ← k1]
        exact hkn'
      clear hp hkn hbel hgj h3 hb1
      go_upto_region 8 with fail
      rw [← hW1]
      clear hW1 c0 c1 c2
      by_cases h3k : pk = 3
      case neg =>
        have hne : (pk != 3) = true := by simpa using h3k
        have HE : Hid (nodE ts (k + 1) = nodE ts k) := Lib.hid (by rw [HNS.out]; unfold nodF; rw [if_neg h3k])
        clear h3k
        go_wp2
        go_roundw
        case rel => exact ⟨k + 1, by have := (List.getElem?_eq_some_iff.1 HP.out).1; omega, by go_num, by rw [HE.out]; exact HGI.out.j⟩
        case measure => have := (List.getElem?_eq_some_iff.1 HP.out).1; simp [intOf]; omega
      subst h3k
      have hne : ((3 : Int) != 3) = false := rfl
      have HE : Hid (nodE ts (k + 1) = prs1 (kidB ts ps) ps.length (nodE ts k)) := Lib.hid (by rw [HNS.out]; unfold nodF; rw [if_pos rfl])
      obtain ⟨K, hK⟩ : ∃ K, kidB ts ps = K := ⟨_, rfl⟩
      rw [hK] at HE
      have HKK := Lib.hid hK
      have HIN : Hid (∀ a, a < ps.length → ∀ x ∈ K a, x < n) := Lib.hid fun a ha x hx => by
        rw [← HCN.out]
        rw [← hK] at hx
        exact kids_in HPT.out HP.out ha hx
      have HAP : Hid (∀ a b, a < ps.length → b < ps.length → a ≠ b → ∀ x ∈ K a, x ∉ K b) := Lib.hid fun a b ha hb hab x h1 => by
        rw [← hK] at h1 ⊢
        exact kids_apart HPT.out HP.out ha hb hab h1
      have HKE : Hid (∀ a x (ha : a < ps.length), ps[a] = ((x : Nat) : Int) → K a = bitsOf ((mskT ts).getD x 0)) := Lib.hid fun a x ha hx => by
        rw [← hK]
        unfold kidB
        rw [getD_atT ha, hx, Int.toNat_natCast]
      have hkl16 : k < ts.length := (List.getElem?_eq_some_iff.1 HP.out).1
      clear hK
      obtain ⟨pb, hpb⟩ : ∃ pb, wr.heap.size = pb := ⟨_, rfl⟩
      rw [hpb] at HGI z0 z1 z2 ⊢
      have HPB := Lib.hid hpb
      clear hpb
      go_wp2
      clear z0 z1 z2
      obtain ⟨wJ, rfl⟩ : ∃ wo, wo = wr := ⟨_, rfl⟩
      go_loopw [46] (fun i wr => ∃ ii : Nat, ii ≤ ps.length ∧ i = .int .i64 ii ∧ GI w4 wr nb n (prs1 K ii (nodE ts k)) pb (.int .i64 3) (.int .i64 pv) (.slice rp ps.length rc) []) (fun i _ => ps.length - (intOf i).toNat)
      case atStart => exact ⟨0, Nat.zero_le _, rfl, HGI.out⟩
      case round =>
        clear HGI
        obtain ⟨ii, hii, rfl, hgi⟩ := hrel
        have HG1 := Lib.hid hgi
        obtain ⟨z0, z1, z2⟩ := hgi.node.cells
        by_cases hil : ii < ps.length
        · obtain ⟨kb, ko, e, hck⟩ : ∃ b o, rp = some ⟨b, o, none⟩ ∧ wr.cell? ⟨b, o + ii, none⟩ = some (.int .i64 ps[ii]) := by
            obtain ⟨p', c', e, _, _, _, hat⟩ := HKN.out _ hgi.j.bel
            cases e
            exact hat.num hil
          subst e
          have hx := HKI.out ps[ii] (List.getElem_mem _)
          obtain ⟨x, hxe⟩ : ∃ x : Nat, ps[ii] = (x : Int) := ⟨ps[ii].toNat, by omega⟩
          have HX := Lib.hid hxe
          rw [hxe] at hck hx
          have hxl : x < ts.length := by omega
          have hxi : ((x : Nat) : Int) < (ts.length : Int) := by omega
          have hirc : ((ii : Nat) : Int) ≤ ((rc : Nat) : Int) := by omega
          obtain ⟨mx, hmx⟩ : ∃ mx, (mskT ts).getD x 0 = mx := ⟨_, rfl⟩
          have hmx16 := (HMK.out x hxl).1
          rw [hmx] at hmx16
          have HMX := Lib.hid hmx
          have HAK : Hid (K ii = bitsOf mx) := Lib.hid (by rw [HKE.out ii x hil hxe, hmx])
          obtain ⟨E1, hE1⟩ : ∃ E, prs1 K ii (nodE ts k) = E := ⟨_, rfl⟩
          rw [hE1] at HG1
          have HE1 := Lib.hid hE1
          clear hxe hmx hgi hE1
          go_wp2
          clear z0 z1 z2 hck
          obtain ⟨wI, rfl⟩ : ∃ wo, wo = wr := ⟨_, rfl⟩
          go_loopw [56] (fun i wr => ∃ mm : Nat, mm ≤ ii ∧ i = .int .i64 mm ∧ GI w4 wr nb n (prm1 K ii mm E1) pb (.int .i64 3) (.int .i64 pv) (.slice (some ⟨kb, ko, none⟩) ps.length rc) []) (fun i _ => ii - (intOf i).toNat)
          case atStart => exact ⟨0, Nat.zero_le _, rfl, HG1.out⟩
          case round =>
            clear HG1
            obtain ⟨mm, hmm, rfl, hgm⟩ := hrel
            have HG2 := Lib.hid hgm
            by_cases hml : mm < ii
            · have hmp : mm < ps.length := by omega
              have hcm : wr.cell? ⟨kb, ko + mm, none⟩ = some (.int .i64 ps[mm]) := by
                obtain ⟨p', c', e, _, _, _, hat⟩ := HKN.out _ hgm.j.bel
                cases e
                obtain ⟨b', o', e, h⟩ := hat.num hmp
                cases e
                exact h
              have hy := HKI.out ps[mm] (List.getElem_mem _)
              obtain ⟨y, hye⟩ : ∃ y : Nat, ps[mm] = (y : Int) := ⟨ps[mm].toNat, by omega⟩
              rw [hye] at hcm hy
              have hyl : y < ts.length := by omega
              have hyi : ((y : Nat) : Int) < (ts.length : Int) := by omega
              obtain ⟨my, hmy⟩ : ∃ my, (mskT ts).getD y 0 = my := ⟨_, rfl⟩
              have hmy16 := (HMK.out y hyl).1
              rw [hmy] at hmy16
              have HMY := Lib.hid hmy
              have HBK : Hid (K mm = bitsOf my) := Lib.hid (by rw [HKE.out mm y hmp hye, hmy])
              obtain ⟨E2, hE2⟩ : ∃ E, prm1 K ii mm E1 = E := ⟨_, rfl⟩
              rw [hE2] at HG2
              have HE2 := Lib.hid hE2
              obtain ⟨lb', lo', e, hlx⟩ := (HVS4.out.below hgm.j.bel).at (k := x) (by rw [mskT_length]; exact hxl)
              cases e
              rw [HMX.out] at hlx
              have hta := HT4.out.keep hgm.j.bel
              have HLA := Lib.hid hta
              have hmx32 : mx < 4294967296 := by omega
              have hmy32 : my < 4294967296 := by omega
              obtain ⟨nA, hnA⟩ : ∃ nA, (bitsOf mx).length = nA := ⟨_, rfl⟩
              have HNA := Lib.hid hnA
              have hnA32 : nA ≤ 32 := by rw [← hnA]; exact bitsOf_length mx
              clear hye hmy hgm hE2 hta hnA
              go_wp2_with (go_at_call 50; refine (list_any _ mx rfl hmx32 _ HLA.out).mono ?_; rintro e w6 ⟨la, rfl, hla, hb6⟩; have hnl := Nums.of_owns hla (natInts_length _).symm (by have := bitsOf_length mx; omega); have HG3 := Lib.hid ((HG2.out.next hb6).add hnl); obtain ⟨ap, ac, rfl, _⟩ := hnl.shapeT; rw [natInts_length, HNA.out]; clear hla hnl hb6)
              clear hlx hcm
              obtain ⟨wM, rfl⟩ : ∃ wo, wo = wr := ⟨_, rfl⟩
              go_loopw [66] (fun i wr => ∃ ui : Nat, ui ≤ nA ∧ i = .int .i64 ui ∧ GI w4 wr nb n (((bitsOf mx).take ui).foldl (fun E u => row1 E u (bitsOf my)) E2) pb (.int .i64 3) (.int .i64 pv) (.slice (some ⟨kb, ko, none⟩) ps.length rc) [(.slice ap (natInts (bitsOf mx)).length ac, bitsOf mx)]) (fun i _ => nA - (intOf i).toNat)
              case atStart => exact ⟨0, Nat.zero_le _, rfl, HG3.out⟩
              case round =>
                clear HG3
                obtain ⟨ui, hui, rfl, hgu⟩ := hrel
                have HG4 := Lib.hid hgu
                by_cases hul : ui < nA
                · obtain ⟨u, hu⟩ : ∃ u, (bitsOf mx)[ui]'(by rw [HNA.out]; exact hul) = u := ⟨_, rfl⟩
                  obtain ⟨ab, ao, e, hcu⟩ : ∃ b o, ap = some ⟨b, o, none⟩ ∧ wr.cell? ⟨b, o + ui, none⟩ = some (.int .i64 (u : Nat)) := by
                    obtain ⟨p', c', e, _, _, _, hat⟩ := hgu.lists _ (List.mem_cons_self ..)
                    cases e
                    obtain ⟨b', o', h1, h2⟩ := hat.num (k := ui) (by rw [natInts_length, HNA.out]; exact hul)
                    rw [natInts_getTe, hu] at h2
                    exact ⟨b', o', h1, h2⟩
                  subst e
                  have HU := Lib.hid hu
                  have HUM : Hid (u ∈ K ii) := Lib.hid (by rw [HAK.out, ← hu]; exact List.getElem_mem _)
                  obtain ⟨lb', lo', e, hly⟩ := (HVS4.out.below hgu.j.bel).at (k := y) (by rw [mskT_length]; exact hyl)
                  cases e
                  rw [HMY.out] at hly
                  have HLB := Lib.hid (HT4.out.keep hgu.j.bel)
                  obtain ⟨nB, hnB⟩ : ∃ nB, (bitsOf my).length = nB := ⟨_, rfl⟩
                  have HNB2 := Lib.hid hnB
                  have hnB32 : nB ≤ 32 := by rw [← hnB]; exact bitsOf_length my
                  obtain ⟨E3, hE3⟩ : ∃ E, ((bitsOf mx).take ui).foldl (fun E u => row1 E u (bitsOf my)) E2 = E := ⟨_, rfl⟩
                  rw [hE3] at HG4
                  have HE3 := Lib.hid hE3
                  clear hu hgu hnB hE3
                  go_wp2_with (go_at_call 50; refine (list_any _ my rfl hmy32 _ HLB.out).mono ?_; rintro e w7 ⟨lbv, rfl, hlb, hb7⟩; have hnl := Nums.of_owns hlb (natInts_length _).symm (by have := bitsOf_length my; omega); have HG5 := Lib.hid ((HG4.out.next hb7).add hnl); obtain ⟨bp, bc, rfl, _⟩ := hnl.shapeT; rw [natInts_length, HNB2.out]; clear hlb hnl hb7)
                  clear hly hcu
                  obtain ⟨wU, rfl⟩ : ∃ wo, wo = wr := ⟨_, rfl⟩
                  go_loopw [76] (fun i wr => ∃ vi : Nat, vi ≤ nB ∧ i = .int .i64 vi ∧ GI w4 wr nb n (((bitsOf my).take vi).foldl (fun E v => add1 E u v) E3) pb (.int .i64 3) (.int .i64 pv) (.slice (some ⟨kb, ko, none⟩) ps.length rc) [(.slice bp (natInts (bitsOf my)).length bc, bitsOf my), (.slice (some ⟨ab, ao, none⟩) (natInts (bitsOf mx)).length ac, bitsOf mx)]) (fun i _ => nB - (intOf i).toNat)
                  case atStart => exact ⟨0, Nat.zero_le _, rfl, HG5.out⟩
                  case round =>
                    clear HG5
                    obtain ⟨vi, hvi, rfl, hgv⟩ := hrel
                    have HG6 := Lib.hid hgv
                    by_cases hvl : vi < nB
                    · obtain ⟨v, hv⟩ : ∃ v, (bitsOf my)[vi]'(by rw [HNB2.out]; exact hvl) = v := ⟨_, rfl⟩
                      obtain ⟨bb, bo, e, hcv⟩ : ∃ b o, bp = some ⟨b, o, none⟩ ∧ wr.cell? ⟨b, o + vi, none⟩ = some (.int .i64 (v : Nat)) := by
                        obtain ⟨p', c', e, _, _, _, hat⟩ := hgv.lists _ (List.mem_cons_self ..)
                        cases e
                        obtain ⟨b', o', h1, h2⟩ := hat.num (k := vi) (by rw [natInts_length, HNB2.out]; exact hvl)
                        rw [natInts_getTe, hv] at h2
                        exact ⟨b', o', h1, h2⟩
                      subst e
                      have HV := Lib.hid hv
                      have hvm : v ∈ K mm := by rw [HBK.out, ← hv]; exact List.getElem_mem _
                      have hun := Lib.hid (HIN.out ii hil u HUM.out)
                      have hvn := Lib.hid (HIN.out mm hmp v hvm)
                      have huv : Hid (u ≠ v) := Lib.hid fun e => HAP.out ii mm hil hmp (by omega) u HUM.out (by rw [e]; exact hvm)
                      obtain ⟨E4, hE4⟩ : ∃ E, ((bitsOf my).take vi).foldl (fun E v => add1 E u v) E3 = E := ⟨_, rfl⟩
                      rw [hE4] at HG6
                      have HE4 := Lib.hid hE4
                      have hil16 := indN_length n E4
                      have HJO : Hid (wr.ownsRow w4.heap.size 76 1 (.slice (some ⟨nb, 0, none⟩) n n) (indN n E4).length ((indN n E4).map u32v)) := Lib.hid (by rw [hil16]; exact HG6.out.j.own)
                      have HJN := Lib.hid (join_any (.slice (some ⟨nb, 0, none⟩) n n) (u : Int) (v : Int) (indN n E4) u v w4.heap.size rfl rfl (by rw [hil16]; exact hun.out) (by rw [hil16]; exact hvn.out) huv.out (by rw [hil16]; exact hn16) (indN_lt16 hn16) wr HJO.out)
                      clear hv hvm hgv hE4 hil16
                      go_wp2_with (go_at_call 51; refine HJN.out.mono ?_; rintro e w8 ⟨rfl, ho8, hg8⟩; rw [indN_length] at ho8; have HG7 := Lib.hid (HG6.out.joined hn16 hun.out hvn.out huv.out ho8 hg8); clear ho8 hg8)
                      go_roundw
                      case rel =>
                        refine ⟨vi + 1, by omega, by go_num, ?_⟩
                        rw [List.take_succ_eq_append_getElem (by rw [HNB2.out]; exact hvl), List.foldl_append, HE4.out, HV.out]
                        exact HG7.out
                      case measure => simp [intOf]; omega
                    · obtain rfl : vi = nB := by omega
                      clear hgv
                      go_wp2
                      go_roundw
                      case rel =>
                        refine ⟨ui + 1, by omega, by go_num, ?_⟩
                        rw [List.take_succ_eq_append_getElem (by rw [HNA.out]; exact hul), List.foldl_append, HE3.out, HU.out]
                        have h := HG6.out.tail
                        rw [List.take_of_length_le (by rw [HNB2.out]; exact Nat.le_refl _)] at h
                        exact h
                      case measure => simp [intOf]; omega
                · obtain rfl : ui = nA := by omega
                  clear hgu
                  go_wp2
                  go_roundw
                  case rel =>
                    refine ⟨mm + 1, by omega, by go_num, ?_⟩
                    rw [prm1_succ, HE2.out, HAK.out, HBK.out]
                    have h := HG4.out.tail
                    rw [List.take_of_length_le (by rw [HNA.out]; exact Nat.le_refl _)] at h
                    exact h
                  case measure => simp [intOf]; omega
            · obtain rfl : mm = ii := by omega
              clear hgm
              go_wp2
              go_roundw
              case rel =>
                refine ⟨mm + 1, by omega, by go_num, ?_⟩
                rw [prs1_succ, HE1.out]
                exact HG2.out
              case measure => simp [intOf]; omega
        · obtain rfl : ii = ps.length := by omega
          clear hgi z0 z1 z2
          go_wp2
          go_roundw
          case rel => exact ⟨k + 1, by omega, by go_num, by rw [HE.out]; exact HG1.out.j⟩
          case measure => simp [intOf]; omega
    · obtain rfl : k = ts.length := by omega
      have HBR := Lib.hid (HB4.out.trans (hbel.mono HB4.out.size))
      have qb := HB1.out.keep HBR.out
      have HQB := Lib.hid qb
      have HTR9 := Lib.hid (HT4.out.keep hbel)
      have HX5 : Hid (Sl wr 76 (.slice (some ⟨nb, 0, none⟩) n n) (indN n (nodE ts ts.length)).length ((indN n (nodE ts ts.length)).map u32v)) := Lib.hid (by rw [indN_length]; exact Sl.of_owns hgj.own (by omega))
      clear hbel qb hgj
      go_wp2_with (go_at_call 52; refine (graph_any _ (indN n (nodE ts ts.length)) (indN_lt16 hn16) (by rw [indN_length]; omega) _ HX5.out HTR9.out).mono ?_; rintro e w7 ⟨u7, rfl, hd7, hb7⟩; rw [rowsOf_indN hn16] at hd7; obtain ⟨p7, c7, rfl⟩ := hd7.shape; have HD7 := Lib.hid hd7; have qb := HQB.out.keep hb7; have mf := qb.free; have ml := qb.cell; have QB := Lib.hid qb; have HB7 := Lib.hid hb7; clear hd7 qb hb7)
      have mc := (QB.out.set (.slice p7 (matG n (nodE ts ts.length)).length c7)).cell
      have s1 := HBA.out.size
      have s2 := HBR.out.size
      refine bodyPost_ret (v := .tuple #[.agg #[.slice p7 (matG n (nodE ts ts.length)).length c7], .bool true]) (by simp [results, Tryd.results10, go_sem, mc]) rfl ?_
      refine ⟨_, _, true, rfl, .inl ⟨HCO.out, rfl, by rw [HCN.out]⟩, (HD7.out.setBox QB.out _).base (by omega), by rw [matG_length]; exact hn16, fun j => Nat.le_trans (matG_row_le j) hn16, ?_⟩
      exact ((HBA.out.trans (HBR.out.mono s1)).trans (HB7.out.mono (by omega))).setCell (Nat.le_refl _) _

theorem implGraphOfTree_any (v : Value) (ts : List Pt) (w : World) (htr : Trs w v ts) (hT : Tab w) :
    Calls Tryd.prog 10 #[v] w fun e w' => ∃ (u : Value) (R : List (List Int)) (ok : Bool), e = .returned (.tuple #[u, .bool ok]) ∧ GtS ts (CoP ts) R ok ∧ DG w' w.heap.size u R ∧ R.length ≤ 16 ∧ (∀ j, (row R j).length ≤ 16) ∧ Below w.heap.size w w' :=
  (implGraphOfTree_any' v ts w htr hT).mono fun e w' h => h

end Go.Proofs.YtfphapcgjlhieaaDoor
