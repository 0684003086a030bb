/- Walks: the graph of a tree, by the reference. -/
import Derived.Test.YtfphapcgjlhieaaDoorGtQ37
import Derived.Test.YtfphapcgjlhieaaDoorGtQ39
import Derived.Test.YtfphapcgjlhieaaDoorGtQ41
import Derived.Test.YtfphapcgjlhieaaDoorGtQ43
import Derived.Test.YtfphapcgjlhieaaDoorGtQ26
namespace Go.Proofs.YtfphapcgjlhieaaDoor
open Go.RowKit

/-- The rows while they are made. -/
structure SJ (W0 w : World) (gb tb n : Nat) (E : Nat → Nat → Bool) (L : List (Value × List Nat)) : Prop where
  bel : Below W0.heap.size W0 w
  box : Box w tb 26 (.slice (some ⟨gb, 0, none⟩) n n)
  lo : W0.heap.size ≤ tb
  rows : ∃ vals, vals.length = n ∧ w.ownsRow W0.heap.size 52 1 (.slice (some ⟨gb, 0, none⟩) n n) n vals ∧ ∀ j, j < n → Nums w 2 .i64 (vals.getD j undef) (natInts ((List.range n).filter (E j)))
  lists : ∀ y ∈ L, Nums w 2 .i64 y.1 (natInts y.2)
theorem SJ.next {W0 w w' : World} {gb tb n : Nat} {E : Nat → Nat → Bool} {L : List (Value × List Nat)} (h : SJ W0 w gb tb n E L) (hb : Below w.heap.size w w') : SJ W0 w' gb tb n E L := by
  obtain ⟨vals, h1, h2, h3⟩ := h.rows
  exact ⟨h.bel.trans (hb.mono h.bel.size), h.box.keep hb, h.lo, ⟨vals, h1, ownsRow_below h2 hb, fun j hj => (h3 j hj).below hb⟩, fun y hy => (h.lists y hy).below hb⟩
theorem SJ.add {W0 w : World} {gb tb n : Nat} {E : Nat → Nat → Bool} {L : List (Value × List Nat)} (h : SJ W0 w gb tb n E L) {v : Value} {A : List Nat} (hn : Nums w 2 .i64 v (natInts A)) : SJ W0 w gb tb n E ((v, A) :: L) :=
  ⟨h.bel, h.box, h.lo, h.rows, fun y hy => by
    rcases List.mem_cons.1 hy with rfl | hy
    · exact hn
    · exact h.lists y hy⟩
theorem SJ.tail {W0 w : World} {gb tb n : Nat} {E : Nat → Nat → Bool} {y : Value × List Nat} {L : List (Value × List Nat)} (h : SJ W0 w gb tb n E (y :: L)) : SJ W0 w gb tb n E L :=
  ⟨h.bel, h.box, h.lo, h.rows, fun z hz => h.lists z (List.mem_cons_of_mem _ hz)⟩
theorem SJ.apart {W0 w : World} {gb tb n : Nat} {E : Nat → Nat → Bool} {L : List (Value × List Nat)} (h : SJ W0 w gb tb n E L) : tb ≠ gb := fun e => by
  obtain ⟨vals, h1, h2, _⟩ := h.rows
  rcases h2.2 with ⟨e2, _⟩ | ⟨g', cap', cur', e2, _, hgg, _⟩
  · cases e2
  · cases e2
    have := h.box.blk
    rw [e, hgg] at this
    simp only [Option.some.injEq, Obj.cells.injEq] at this
    exact absurd this.2.1 (by decide)
theorem SJ.put {W0 w : World} {gb tb n a b : Nat} {E : Nat → Nat → Bool} {L : List (Value × List Nat)} (h : SJ W0 w gb tb n E L) (ha : a < n) (hb : b < n) {u : Value} (hu : Nums w 2 .i64 u (intoL (natInts ((List.range n).filter (E a))) (b : Int))) :
    SJ W0 (w.setCell ⟨gb, a, none⟩ u) gb tb n (add2 E a b) L := by
  obtain ⟨vals, h1, h2, h3⟩ := h.rows
  obtain ⟨ho, hg⟩ := h2.stored a u
  refine ⟨below_grown h.bel h2 hg (Nat.le_refl _) h.bel.size, h.box.setOther h.apart u, h.lo, ⟨vals.set a u, by simpa using h1, ho, fun j hj => ?_⟩, fun y hy => (h.lists y hy).other h2 hg (by decide)⟩
  by_cases e : j = a
  · subst e
    rw [getD_set_self _ _ _ _ (by omega), ← into_row hb]
    exact hu.other h2 hg (by decide)
  · rw [getD_set_other _ _ _ _ _ (fun q => e q.symm), add2_row e]
    exact (h3 j hj).other h2 hg (by decide)

set_option maxRecDepth 100000 in
set_option maxHeartbeats 8000000 in
theorem l16Graph_yes (v : Value) (ts : List Pt) (hpt : PartsI ts) (w : World) (htr : Trs w v ts) :
    Calls Tryd.prog 46 #[v] w fun e w' => ∃ u, e = .returned u ∧ SG w' w.heap.size u (matG (cn (rootM ts)) (nodE ts ts.length)) ∧ Below w.heap.size w w' := by
  obtain ⟨vp, vc, rfl, hlen⟩ := htr.shape
  obtain ⟨W0, hW0⟩ : ∃ W, W = w.alloc (.cells #[.slice none 0 0] 26) := ⟨_, rfl⟩
  have hbA : Below w.heap.size w W0 := by rw [hW0]; exact below_alloc _ _
  have HBA := Lib.hid hbA
  have HTR := Lib.hid (htr.below hbA)
  have HB1 : Hid (Box W0 w.heap.size 26 (.slice none 0 0)) := Lib.hid (by rw [hW0]; exact Box.new _ _ _)
  have HPT := Lib.hid hpt
  have hmk := msk_ok (ts := ts) ts.length (parts_good hpt)
  have hn1 := hpt.2.1
  obtain ⟨q, hq⟩ : ∃ q, ts.length - 1 = q := ⟨_, rfl⟩
  have hql : q < ts.length := by omega
  have hwq : IntKind.i64.wrap ((ts.length : Int) - 1) = (q : Int) := by rw [IntKind.wrap_i64]; omega
  have hqe : (ts.length : Int) - 1 = (q : Int) := by omega
  have HQE : Hid (ts.length = q + 1) := Lib.hid (by omega)
  obtain ⟨n, hc⟩ : ∃ c, (natInts (bitsOf ((mskT ts).getD q 0))).length = c := ⟨_, rfl⟩
  have hcn : cn (rootM ts) = n := by rw [← hc, natInts_length, ← hq]; rfl
  have hn16 : n ≤ 16 := by rw [← hcn]; exact cn_le16 (by have := (hmk q hql).1; rw [← hq] at this; exact this)
  have HC := Lib.hid hc
  have HCN := Lib.hid hcn
  have HMK := Lib.hid hmk
  have HGD := Lib.hid (parts_good hpt)
  have HGQ : Hid (∀ j, j ≤ q → GoodN ts j) := Lib.hid fun j hj => parts_good hpt j (by omega)
  rw [hcn]
  clear htr hbA hpt hmk hc hcn hq
  go_enter Tryd.func46, Tryd.ntmps46
  go_upto_region 1 with fail
  rw [← hW0]
  clear hW0
  have hn9 : n ≤ 1000000000 := by omega
  go_wp2_with (first
    | (go_at_call 112; refine (l16Has_any vp vc ts ts.length q hql hql HGQ.out _ HTR.out).mono ?_; rintro e w4 ⟨uv, rfl, hnu, hb4⟩; obtain ⟨up, uc, rfl, _⟩ := hnu.shapeT; rw [HC.out])
    | (at_make; refine wpList_mk ty_rows rfl rfl rfl n rfl rfl rfl rfl hn9 ?_; intro w5 hown5 hg5))
  have HB4 := Lib.hid hb4
  have HTR4 := Lib.hid (HTR.out.below hb4)
  obtain ⟨gb, hgb⟩ : ∃ nb, w4.heap.size = nb := ⟨_, rfl⟩
  obtain ⟨W6, hW6⟩ : ∃ W, W = w5.alloc (.cells #[.slice (some ⟨gb, 0, none⟩) n n] 26) := ⟨_, rfl⟩
  have hb5 := grown_below hg5
  have G0 : Hid (SJ w4 W6 gb w5.heap.size n (nodE ts 0) []) := Lib.hid (by
    rw [hgb] at hown5
    refine ⟨by rw [hW6]; exact hb5.alloc hb5.size _, by rw [hW6]; exact Box.new _ _ _, hb5.size, ⟨List.replicate n (.slice none 0 0), by simp, ?_, fun j hj => ?_⟩, fun y hy => by cases hy⟩
    · rw [hW6, hgb]
      exact ownsRow_below hown5 (below_alloc _ _)
    · have e1 : (List.replicate n (Value.slice none 0 0)).getD j undef = .slice none 0 0 := by simp [hj]
      have e2 : (List.range n).filter (nodE ts 0 j) = [] := by
        rw [List.filter_eq_nil_iff]
        intro x _
        show ¬ (false = true)
        decide
      rw [e1, e2]
      exact ⟨none, 0, rfl, fun _ => ⟨rfl, rfl⟩, Nat.le_refl _, Nat.zero_le _, .inl rfl⟩)
  rw [hgb, ← hW6]
  obtain ⟨tb, htb⟩ : ∃ nb, w5.heap.size = nb := ⟨_, rfl⟩
  rw [htb] at G0 ⊢
  have HGB := Lib.hid hgb
  clear hb4 hg5 hown5 hgb hb5 hW6 htb
  go_wp2
  go_loopw [5] (fun i wr => ∃ k : Nat, k ≤ ts.length ∧ i = .int .i64 k ∧ SJ w4 wr gb tb n (nodE ts k) []) (fun i _ => ts.length - (intOf i).toNat)
  case atStart => exact ⟨0, Nat.zero_le _, rfl, G0.out⟩
  case round =>
    clear G0
    obtain ⟨k, hk, rfl, hsj⟩ := hrel
    have HSJ := Lib.hid hsj
    by_cases hlt : k < ts.length
    · obtain ⟨⟨pk, pv, ps⟩, hp⟩ : ∃ p, ts[k]? = some p := ⟨_, List.getElem?_eq_getElem hlt⟩
      have HP := Lib.hid hp
      have HKI := Lib.hid (parts_kids HPT.out hp)
      obtain ⟨b, o, rp, rc, e, c0, c1, c2, hkn, hkl⟩ := HTR4.out.at hp
      subst e
      simp only at c0 c1 c2 hkn hkl
      have C2 : Hid (∀ wz, Below w4.heap.size w4 wz → wz.cell? ⟨b, o + k * 3 + 2, none⟩ = some (.slice rp ps.length rc)) := Lib.hid fun wz hb => hb.at' c2
      have HKN : Hid (∀ wz, Below w4.heap.size w4 wz → Nums wz 2 .i64 (.slice rp ps.length rc) ps) := Lib.hid fun wz hb => hkn.below hb
      have HNS := Lib.hid (nodE_succ hp)
      have z0 := hsj.bel.at' c0
      have z2 := hsj.bel.at' c2
      have hki : ((k : Nat) : Int) < (ts.length : Int) := by omega
      have hkq : ((k : Nat) : Int) ≤ (q : Int) := by have := HQE.out; omega
      clear hp hkn c0 c1 c2 hsj
      by_cases h3k : pk = 3
      case neg =>
        have hne : (pk != 3) = true := by simpa using h3k
        have HE : Hid (nodE ts (k + 1) = nodE ts k) := Lib.hid (by rw [HNS.out]; unfold nodF; rw [if_neg h3k])
        clear h3k
        go_wp2
        go_roundw
        case rel => exact ⟨k + 1, by omega, by go_num, by rw [HE.out]; exact HSJ.out⟩
        case measure => simp [intOf]; omega
      subst h3k
      have hne : ((3 : Int) != 3) = false := rfl
      have HE : Hid (nodE ts (k + 1) = prs2 (kidB ts ps) ps.length ps.length (nodE ts k)) := Lib.hid (by rw [HNS.out]; unfold nodF; rw [if_pos rfl]; exact prs_same _ _ _)
      obtain ⟨K, hK⟩ : ∃ K, kidB ts ps = K := ⟨_, rfl⟩
      rw [hK] at HE
      have HIN : Hid (∀ a, a < ps.length → ∀ x ∈ K a, x < n) := Lib.hid fun a ha x hx => by
        rw [← HCN.out]
        rw [← hK] at hx
        exact kids_in HPT.out HP.out ha hx
      have HKE : Hid (∀ a x (ha : a < ps.length), ps[a] = ((x : Nat) : Int) → K a = bitsOf ((mskT ts).getD x 0)) := Lib.hid fun a x ha hx => by
        rw [← hK]
        unfold kidB
        rw [getD_atT ha, hx, Int.toNat_natCast]
      clear hK
      go_wp2
      clear z0 z2
      obtain ⟨wJ, rfl⟩ : ∃ wo, wo = wr := ⟨_, rfl⟩
      go_loopw [6] (fun i wr => ∃ ii : Nat, ii ≤ ps.length ∧ i = .int .i64 ii ∧ SJ w4 wr gb tb n (prs2 K ps.length ii (nodE ts k)) []) (fun i _ => ps.length - (intOf i).toNat)
      case atStart => exact ⟨0, Nat.zero_le _, rfl, HSJ.out⟩
      case round =>
        clear HSJ
        obtain ⟨ii, hii, rfl, hgi⟩ := hrel
        have HG1 := Lib.hid hgi
        have z2 := C2.out _ hgi.bel
        by_cases hil : ii < ps.length
        · have hx := HKI.out ps[ii] (List.getElem_mem _)
          obtain ⟨x, hxe⟩ : ∃ x : Nat, ps[ii] = (x : Int) := ⟨ps[ii].toNat, by omega⟩
          have HX := Lib.hid hxe
          rw [hxe] at hx
          have hxl : x < ts.length := by omega
          have hxf := HMK.out x hxl
          obtain ⟨mx, hmx⟩ : ∃ mx, (mskT ts).getD x 0 = mx := ⟨_, rfl⟩
          have HMX := Lib.hid hmx
          have HAK : Hid (K ii = bitsOf mx) := Lib.hid (by rw [HKE.out ii x hil hxe, hmx])
          have HGX : Hid (∀ j, j ≤ x → GoodN ts j) := Lib.hid fun j hj => HGD.out j (by omega)
          have hiq : ((ii : Nat) : Int) < (ps.length : Int) := by omega
          obtain ⟨E1, hE1⟩ : ∃ E, prs2 K ps.length ii (nodE ts k) = E := ⟨_, rfl⟩
          rw [hE1] at HG1
          have HE1 := Lib.hid hE1
          clear hxe hmx hgi hE1 hxf
          go_wp2
          clear z2
          obtain ⟨wI, rfl⟩ : ∃ wo, wo = wr := ⟨_, rfl⟩
          go_loopw [7] (fun i wr => ∃ mm : Nat, mm ≤ ps.length ∧ i = .int .i64 mm ∧ SJ w4 wr gb tb n (prm2 K ii mm E1) []) (fun i _ => ps.length - (intOf i).toNat)
          case atStart => exact ⟨0, Nat.zero_le _, rfl, HG1.out⟩
          case round =>
            clear HG1
            obtain ⟨mm, hmm, rfl, hgm⟩ := hrel
            have HG2 := Lib.hid hgm
            have z2 := C2.out _ hgm.bel
            by_cases hml : mm < ps.length
            · have hmq : ((mm : Nat) : Int) < (ps.length : Int) := by omega
              by_cases heq : ii = mm
              · subst heq
                have hee : (((ii : Nat) : Int) == ((ii : Nat) : Int)) = true := by simp
                clear hgm
                go_wp2
                go_roundw
                case rel =>
                  refine ⟨ii + 1, by omega, by go_num, ?_⟩
                  rw [prm2_succ, if_pos rfl]
                  exact HG2.out
                case measure => simp [intOf]; omega
              have hee : (((ii : Nat) : Int) == ((mm : Nat) : Int)) = false := by simp; omega
              obtain ⟨kb, ko, e, hcx⟩ : ∃ b o, rp = some ⟨b, o, none⟩ ∧ wr.cell? ⟨b, o + ii, none⟩ = some (.int .i64 ps[ii]) := by
                obtain ⟨p', c', e, _, _, _, hat⟩ := HKN.out _ hgm.bel
                cases e
                exact hat.num hil
              subst e
              obtain ⟨kb', ko', e, hcm⟩ : ∃ b o, (some ⟨kb, ko, none⟩ : Option Addr) = some ⟨b, o, none⟩ ∧ wr.cell? ⟨b, o + mm, none⟩ = some (.int .i64 ps[mm]) := by
                obtain ⟨p', c', e, _, _, _, hat⟩ := HKN.out _ hgm.bel
                cases e
                exact hat.num hml
              cases e
              rw [HX.out] at hcx
              have hy := HKI.out ps[mm] (List.getElem_mem _)
              obtain ⟨y, hye⟩ : ∃ y : Nat, ps[mm] = (y : Int) := ⟨ps[mm].toNat, by omega⟩
              rw [hye] at hcm hy
              have hyl : y < ts.length := by omega
              obtain ⟨my, hmy⟩ : ∃ my, (mskT ts).getD y 0 = my := ⟨_, rfl⟩
              have HMY := Lib.hid hmy
              have HBK : Hid (K mm = bitsOf my) := Lib.hid (by rw [HKE.out mm y hml hye, hmy])
              have HGY : Hid (∀ j, j ≤ y → GoodN ts j) := Lib.hid fun j hj => HGD.out j (by omega)
              obtain ⟨E2, hE2⟩ : ∃ E, prm2 K ii mm E1 = E := ⟨_, rfl⟩
              rw [hE2] at HG2
              have HE2 := Lib.hid hE2
              have HTW := Lib.hid (HTR4.out.below hgm.bel)
              obtain ⟨nA, hnA⟩ : ∃ nA, (bitsOf mx).length = nA := ⟨_, rfl⟩
              have HNA := Lib.hid hnA
              have hnA32 : nA ≤ 32 := by rw [← hnA]; exact bitsOf_length mx
              obtain ⟨nB, hnB⟩ : ∃ nB, (bitsOf my).length = nB := ⟨_, rfl⟩
              have HNB2 := Lib.hid hnB
              have hnB32 : nB ≤ 32 := by rw [← hnB]; exact bitsOf_length my
              have KZ : Hid (∀ wz, Below wr.heap.size wr wz → wz.cell? ⟨kb, ko + mm, none⟩ = some (.int .i64 (y : Int)) ∧ wz.cell? ⟨b, o + k * 3 + 2, none⟩ = some (.slice (some ⟨kb, ko, none⟩) ps.length rc)) := Lib.hid fun wz hb => ⟨hb.at' hcm, hb.at' z2⟩
              clear hye hmy hgm hE2 hnA hnB hcm
              go_upto_region 15 with (go_at_call 112; refine (l16Has_any _ _ ts ts.length x hxl hxl HGX.out _ HTW.out).mono ?_; rintro e w6 ⟨av, rfl, hna, hb6⟩; rw [HMX.out] at hna; have HG3 := Lib.hid ((HG2.out.next hb6).add hna); have HTW6 := Lib.hid (HTW.out.below hb6); obtain ⟨hcm, z26⟩ := KZ.out _ hb6; obtain ⟨ap, ac, rfl, _⟩ := hna.shapeT; rw [natInts_length, HNA.out]; clear hna hb6)
              clear z2 hcx
              go_upto_region 16 with (go_at_call 112; refine (l16Has_any _ _ ts ts.length y hyl hyl HGY.out _ HTW6.out).mono ?_; rintro e w7 ⟨bv, rfl, hnb, hb7⟩; rw [HMY.out] at hnb; have HG4 := Lib.hid ((HG3.out.next hb7).add hnb); obtain ⟨bp, bc, rfl, _⟩ := hnb.shapeT; rw [natInts_length, HNB2.out]; clear hnb hb7)
              clear z26 hcm
              go_wp2
              obtain ⟨wM, rfl⟩ : ∃ wo, wo = wr := ⟨_, rfl⟩
              go_loopw [10] (fun i wr => ∃ ui : Nat, ui ≤ nA ∧ i = .int .i64 ui ∧ SJ w4 wr gb tb n (((bitsOf mx).take ui).foldl (fun E u => row2 E u (bitsOf my)) E2) [(.slice bp (natInts (bitsOf my)).length bc, bitsOf my), (.slice ap (natInts (bitsOf mx)).length ac, bitsOf mx)]) (fun i _ => nA - (intOf i).toNat)
              case atStart => exact ⟨0, Nat.zero_le _, rfl, HG4.out⟩
              case round =>
                clear HG4 HG3
                obtain ⟨ui, hui, rfl, hgu⟩ := hrel
                have HG5 := Lib.hid hgu
                by_cases hul : ui < nA
                · obtain ⟨u, hu⟩ : ∃ u, (bitsOf mx)[ui]'(by rw [HNA.out]; exact hul) = u := ⟨_, rfl⟩
                  have HU := Lib.hid hu
                  have HUM : Hid (u ∈ K ii) := Lib.hid (by rw [HAK.out, ← hu]; exact List.getElem_mem _)
                  obtain ⟨E3, hE3⟩ : ∃ E, ((bitsOf mx).take ui).foldl (fun E u => row2 E u (bitsOf my)) E2 = E := ⟨_, rfl⟩
                  rw [hE3] at HG5
                  have HE3 := Lib.hid hE3
                  have huq : ((ui : Nat) : Int) < (nA : Int) := by omega
                  clear hu hgu hE3
                  go_wp2
                  obtain ⟨wU, rfl⟩ : ∃ wo, wo = wr := ⟨_, rfl⟩
                  go_loopw [11] (fun i wr => ∃ vi : Nat, vi ≤ nB ∧ i = .int .i64 vi ∧ SJ w4 wr gb tb n (((bitsOf my).take vi).foldl (fun E v => add2 E u v) E3) [(.slice bp (natInts (bitsOf my)).length bc, bitsOf my), (.slice ap (natInts (bitsOf mx)).length ac, bitsOf mx)]) (fun i _ => nB - (intOf i).toNat)
                  case atStart => exact ⟨0, Nat.zero_le _, rfl, HG5.out⟩
                  case round =>
                    clear HG5
                    obtain ⟨vi, hvi, rfl, hgv⟩ := hrel
                    have HG6 := Lib.hid hgv
                    by_cases hvl : vi < nB
                    · obtain ⟨v, hv⟩ : ∃ v, (bitsOf my)[vi]'(by rw [HNB2.out]; exact hvl) = v := ⟨_, rfl⟩
                      obtain ⟨bb, bo, e, hcv⟩ : ∃ b o, bp = some ⟨b, o, none⟩ ∧ wr.cell? ⟨b, o + vi, none⟩ = some (.int .i64 (v : Nat)) := by
                        obtain ⟨p', c', e, _, _, _, hat⟩ := hgv.lists _ (List.mem_cons_self ..)
                        cases e
                        obtain ⟨b', o', h1, h2⟩ := hat.num (k := vi) (by rw [natInts_length, HNB2.out]; exact hvl)
                        rw [natInts_getTe, hv] at h2
                        exact ⟨b', o', h1, h2⟩
                      obtain ⟨ab, ao, e2, hcu⟩ : ∃ b o, ap = some ⟨b, o, none⟩ ∧ wr.cell? ⟨b, o + ui, none⟩ = some (.int .i64 (u : Nat)) := by
                        obtain ⟨p', c', e, _, _, _, hat⟩ := hgv.lists _ (List.mem_cons_of_mem _ (List.mem_cons_self ..))
                        cases e
                        obtain ⟨b', o', h1, h2⟩ := hat.num (k := ui) (by rw [natInts_length, HNA.out]; exact hul)
                        rw [natInts_getTe, HU.out] at h2
                        exact ⟨b', o', h1, h2⟩
                      subst e
                      subst e2
                      have HV := Lib.hid hv
                      have hvm : v ∈ K mm := by rw [HBK.out, ← hv]; exact List.getElem_mem _
                      have hun := HIN.out ii hil u HUM.out
                      have hvn := HIN.out mm hml v hvm
                      have huni : ((u : Nat) : Int) < (n : Int) := by omega
                      have hvq : ((vi : Nat) : Int) < (nB : Int) := by omega
                      obtain ⟨E4, hE4⟩ : ∃ E, ((bitsOf my).take vi).foldl (fun E v => add2 E u v) E3 = E := ⟨_, rfl⟩
                      rw [hE4] at HG6
                      have HE4 := Lib.hid hE4
                      obtain ⟨vals, hvl1, hvo, hvr⟩ := HG6.out.rows
                      have hrow := hvr u hun
                      obtain ⟨X, hX⟩ : ∃ X, natInts ((List.range n).filter (E4 u)) = X := ⟨_, rfl⟩
                      rw [hX] at hrow
                      have HXX := Lib.hid hX
                      have hXl : X.length ≤ 100000000 := by
                        rw [← hX, natInts_length]
                        have := List.length_filter_le (E4 u) (List.range n)
                        rw [List.length_range] at this
                        omega
                      obtain ⟨rwp, rwc, hrv, _⟩ := hrow.shapeT
                      have hrc := hvo.cellAt u (by omega)
                      have hgt : vals[u]? = some (vals.getD u undef) := by rw [List.getD_eq_getElem?_getD, List.getElem?_eq_getElem (by omega)]; rfl
                      rw [hgt, hrv] at hrc
                      rw [hrv] at hrow
                      have HROW := Lib.hid hrow
                      have HXL := Lib.hid hXl
                      have hbx := HG6.out.box.cell
                      have CEL : Hid (∀ wz, Below wr.heap.size wr wz → wz.cell? ⟨gb, u, none⟩ = some (.slice rwp X.length rwc) ∧ wz.frozen? ⟨gb, u, none⟩ = false) := Lib.hid fun wz hb => ⟨hb.at' hrc, (ownsRow_below hvo hb).frozenAt u⟩
                      clear hv hvm hgv hE4 hvo hvr hrow hX hXl hgt
                      go_upto_region 22 with fail
                      refine wp_region_stg [(20, fun w' => w'.cell? ⟨tb, 0, none⟩ = some (.slice (some ⟨gb, 0, none⟩) n n) ∧ w'.cell? ⟨ab, ao + ui, none⟩ = some (.int .i64 (u : Nat)) ∧ w'.cell? ⟨bb, bo + vi, none⟩ = some (.int .i64 (v : Nat)) ∧ w'.cell? ⟨gb, u, none⟩ = some (.slice rwp X.length rwc))] (by kernel_rfl) ?_ (fun hHeld => ?_)
                      · exact .keep ⟨hbx, hcu, hcv, hrc⟩ .nil
                      refine wpStg_pure (i := 0) (v := ?_) rfl (by kernel_rfl) (by kernel_rfl) (by kernel_rfl) (by kernel_rfl) (fun _ _ _ h => h) (Or.inl ⟨by rfl, ?_⟩) (by assumption) ?_
                      rotate_left
                      · intro wz _; go_simp; try rfl
                      try simp only [Act.put, List.getElem_toArray, List.getElem_cons_succ, List.getElem_cons_zero, List.setIfInBounds_toArray, List.set_cons_zero, List.set_cons_succ]
                      refine wpStg_take (m := 0) (i := 1) (v := ?_) rfl rfl (by kernel_rfl) (by kernel_rfl) (by kernel_rfl) (by kernel_rfl) (by kernel_rfl) (by kernel_rfl) (fun _ _ _ h => h) (Or.inl ⟨by rfl, ?_⟩) (by assumption) ?_
                      rotate_left
                      · intro wz hSw; (try dsimp only at hSw); go_simp; try rfl
                      try simp only [Act.put, List.getElem_toArray, List.getElem_cons_succ, List.getElem_cons_zero, List.setIfInBounds_toArray, List.set_cons_zero, List.set_cons_succ]
                      refine wpStg_pure (i := 2) (v := ?_) rfl (by kernel_rfl) (by kernel_rfl) (by kernel_rfl) (by kernel_rfl) (fun _ _ _ h => h) (Or.inl ⟨by rfl, ?_⟩) (by assumption) ?_
                      rotate_left
                      · intro wz _; go_simp; try rfl
                      try simp only [Act.put, List.getElem_toArray, List.getElem_cons_succ, List.getElem_cons_zero, List.setIfInBounds_toArray, List.set_cons_zero, List.set_cons_succ]
                      refine wpStg_pure (i := 3) (v := ?_) rfl (by kernel_rfl) (by kernel_rfl) (by kernel_rfl) (by kernel_rfl) (fun _ _ _ h => h) (Or.inl ⟨by rfl, ?_⟩) (by assumption) ?_
                      rotate_left
                      · intro wz _; go_simp; try rfl
                      try simp only [Act.put, List.getElem_toArray, List.getElem_cons_succ, List.getElem_cons_zero, List.setIfInBounds_toArray, List.set_cons_zero, List.set_cons_succ]
                      refine wpStg_pure (i := 4) (v := ?_) rfl (by kernel_rfl) (by kernel_rfl) (by kernel_rfl) (by kernel_rfl) (fun _ _ _ h => h) (Or.inl ⟨by rfl, ?_⟩) (by assumption) ?_
                      rotate_left
                      · intro wz _; go_simp; try rfl
                      try simp only [Act.put, List.getElem_toArray, List.getElem_cons_succ, List.getElem_cons_zero, List.setIfInBounds_toArray, List.set_cons_zero, List.set_cons_succ]
                      refine wpStg_take (m := 0) (i := 5) (v := ?_) rfl rfl (by kernel_rfl) (by kernel_rfl) (by kernel_rfl) (by kernel_rfl) (by kernel_rfl) (by kernel_rfl) (fun _ _ _ h => h) (Or.inl ⟨by rfl, ?_⟩) (by assumption) ?_
                      rotate_left
                      · intro wz hSw; (try dsimp only at hSw); go_simp; try rfl
                      try simp only [Act.put, List.getElem_toArray, List.getElem_cons_succ, List.getElem_cons_zero, List.setIfInBounds_toArray, List.set_cons_zero, List.set_cons_succ]
                      refine wpStg_pure (i := 6) (v := ?_) rfl (by kernel_rfl) (by kernel_rfl) (by kernel_rfl) (by kernel_rfl) (fun _ _ _ h => h) (Or.inl ⟨by rfl, ?_⟩) (by assumption) ?_
                      rotate_left
                      · intro wz _; go_simp; try rfl
                      try simp only [Act.put, List.getElem_toArray, List.getElem_cons_succ, List.getElem_cons_zero, List.setIfInBounds_toArray, List.set_cons_zero, List.set_cons_succ]
                      refine wpStg_take (m := 0) (i := 7) (v := ?_) rfl rfl (by kernel_rfl) (by kernel_rfl) (by kernel_rfl) (by kernel_rfl) (by kernel_rfl) (by kernel_rfl) (fun _ _ _ h => h) (Or.inl ⟨by rfl, ?_⟩) (by assumption) ?_
                      rotate_left
                      · intro wz hSw; (try dsimp only at hSw); go_simp; try rfl
                      try simp only [Act.put, List.getElem_toArray, List.getElem_cons_succ, List.getElem_cons_zero, List.setIfInBounds_toArray, List.set_cons_zero, List.set_cons_succ]
                      refine wpStg_pure (i := 8) (v := ?_) rfl (by kernel_rfl) (by kernel_rfl) (by kernel_rfl) (by kernel_rfl) (fun _ _ _ h => h) (Or.inl ⟨by rfl, ?_⟩) (by assumption) ?_
                      rotate_left
                      · intro wz _; go_simp; try rfl
                      try simp only [Act.put, List.getElem_toArray, List.getElem_cons_succ, List.getElem_cons_zero, List.setIfInBounds_toArray, List.set_cons_zero, List.set_cons_succ]
                      refine wpStg_pure (i := 9) (v := ?_) rfl (by kernel_rfl) (by kernel_rfl) (by kernel_rfl) (by kernel_rfl) (fun _ _ _ h => h) (Or.inl ⟨by rfl, ?_⟩) (by assumption) ?_
                      rotate_left
                      · intro wz _; go_simp; try rfl
                      try simp only [Act.put, List.getElem_toArray, List.getElem_cons_succ, List.getElem_cons_zero, List.setIfInBounds_toArray, List.set_cons_zero, List.set_cons_succ]
                      refine wpStg_pure (i := 10) (v := ?_) rfl (by kernel_rfl) (by kernel_rfl) (by kernel_rfl) (by kernel_rfl) (fun _ _ _ h => h) (Or.inl ⟨by rfl, ?_⟩) (by assumption) ?_
                      rotate_left
                      · intro wz _; go_simp; try rfl
                      try simp only [Act.put, List.getElem_toArray, List.getElem_cons_succ, List.getElem_cons_zero, List.setIfInBounds_toArray, List.set_cons_zero, List.set_cons_succ]
                      refine wpStg_take (m := 0) (i := 11) (v := ?_) rfl rfl (by kernel_rfl) (by kernel_rfl) (by kernel_rfl) (by kernel_rfl) (by kernel_rfl) (by kernel_rfl) (fun _ _ _ h => h) (Or.inl ⟨by rfl, ?_⟩) (by assumption) ?_
                      rotate_left
                      · intro wz hSw; (try dsimp only at hSw); go_simp; try rfl
                      try simp only [Act.put, List.getElem_toArray, List.getElem_cons_succ, List.getElem_cons_zero, List.setIfInBounds_toArray, List.set_cons_zero, List.set_cons_succ]
                      refine wpStg_pure (i := 12) (v := ?_) rfl (by kernel_rfl) (by kernel_rfl) (by kernel_rfl) (by kernel_rfl) (fun _ _ _ h => h) (Or.inl ⟨by rfl, ?_⟩) (by assumption) ?_
                      rotate_left
                      · intro wz _; go_simp; try rfl
                      try simp only [Act.put, List.getElem_toArray, List.getElem_cons_succ, List.getElem_cons_zero, List.setIfInBounds_toArray, List.set_cons_zero, List.set_cons_succ]
                      refine wpStg_take (m := 0) (i := 13) (v := ?_) rfl rfl (by kernel_rfl) (by kernel_rfl) (by kernel_rfl) (by kernel_rfl) (by kernel_rfl) (by kernel_rfl) (fun _ _ _ h => h) (Or.inl ⟨by rfl, ?_⟩) (by assumption) ?_
                      rotate_left
                      · intro wz hSw; (try dsimp only at hSw); go_simp; try rfl
                      try simp only [Act.put, List.getElem_toArray, List.getElem_cons_succ, List.getElem_cons_zero, List.setIfInBounds_toArray, List.set_cons_zero, List.set_cons_succ]
                      refine wpStg_pure (i := 14) (v := ?_) rfl (by kernel_rfl) (by kernel_rfl) (by kernel_rfl) (by kernel_rfl) (fun _ _ _ h => h) (Or.inl ⟨by rfl, ?_⟩) (by assumption) ?_
                      rotate_left
                      · intro wz _; go_simp; try rfl
                      try simp only [Act.put, List.getElem_toArray, List.getElem_cons_succ, List.getElem_cons_zero, List.setIfInBounds_toArray, List.set_cons_zero, List.set_cons_succ]
                      refine wpStg_pure (i := 15) (v := ?_) rfl (by kernel_rfl) (by kernel_rfl) (by kernel_rfl) (by kernel_rfl) (fun _ _ _ h => h) (Or.inl ⟨by rfl, ?_⟩) (by assumption) ?_
                      rotate_left
                      · intro wz _; go_simp; try rfl
                      try simp only [Act.put, List.getElem_toArray, List.getElem_cons_succ, List.getElem_cons_zero, List.setIfInBounds_toArray, List.set_cons_zero, List.set_cons_succ]
                      refine wpStg_pure (i := 16) (v := ?_) rfl (by kernel_rfl) (by kernel_rfl) (by kernel_rfl) (by kernel_rfl) (fun _ _ _ h => h) (Or.inl ⟨by rfl, ?_⟩) (by assumption) ?_
                      rotate_left
                      · intro wz _; go_simp; try rfl
                      try simp only [Act.put, List.getElem_toArray, List.getElem_cons_succ, List.getElem_cons_zero, List.setIfInBounds_toArray, List.set_cons_zero, List.set_cons_succ]
                      refine wpStg_take (m := 0) (i := 17) (v := ?_) rfl rfl (by kernel_rfl) (by kernel_rfl) (by kernel_rfl) (by kernel_rfl) (by kernel_rfl) (by kernel_rfl) (fun _ _ _ h => h) (Or.inl ⟨by rfl, ?_⟩) (by assumption) ?_
                      rotate_left
                      · intro wz hSw; (try dsimp only at hSw); go_simp; try rfl
                      try simp only [Act.put, List.getElem_toArray, List.getElem_cons_succ, List.getElem_cons_zero, List.setIfInBounds_toArray, List.set_cons_zero, List.set_cons_succ]
                      refine wpStg_one (i := 18) (by kernel_rfl) rfl (fun K hK => ?_)
                      go_simp
                      go_at_call 113
                      refine (l1Into_any (.slice rwp X.length rwc) X (v : Int) HXL.out _ (HROW.out.below (below_dN (Below.refl _ _) 1))).mono ?_
                      rintro e w9 ⟨u9, rfl, hn9', hb⟩
                      obtain ⟨ip, ic, rfl, _⟩ := hn9'.shapeT
                      have hb9 : Below wr.heap.size wr w9 := (below_dN (Below.refl _ _) 1).trans hb
                      have HN9 := Lib.hid hn9'
                      obtain ⟨hr9, hf9⟩ := CEL.out _ hb9
                      clear hb hn9'
                      refine hK.out _ _ ?_ (fun hHeld => ?_)
                      · exact .keep ⟨hb9.at' hbx, hb9.at' hcu, hb9.at' hcv, hr9⟩ .nil
                      clear hK K
                      try simp only [Act.put, List.getElem_toArray, List.getElem_cons_succ, List.getElem_cons_zero, List.setIfInBounds_toArray, List.set_cons_zero, List.set_cons_succ]
                      refine wpStg_pure (i := 19) (v := ?_) rfl (by kernel_rfl) (by kernel_rfl) (by kernel_rfl) (by kernel_rfl) (fun _ _ _ h => h) (Or.inl ⟨by rfl, ?_⟩) (by assumption) ?_
                      rotate_left
                      · intro wz _; go_simp; try rfl
                      try simp only [Act.put, List.getElem_toArray, List.getElem_cons_succ, List.getElem_cons_zero, List.setIfInBounds_toArray, List.set_cons_zero, List.set_cons_succ]
                      refine wpStg_one (i := 20) (by kernel_rfl) rfl (fun K hK => ?_)
                      go_simp
                      skip
                      refine hK.out _ _ ?_ (fun hHeld => ?_)
                      · exact .skip (by kernel_rfl) .nil
                      clear hK K
                      try simp only [Act.put, List.getElem_toArray, List.getElem_cons_succ, List.getElem_cons_zero, List.setIfInBounds_toArray, List.set_cons_zero, List.set_cons_succ]
                      refine wpStg_done (by kernel_rfl) ?_ _
                      go_wp2
                      go_roundw
                      case rel =>
                        refine ⟨vi + 1, by omega, by go_num, ?_⟩
                        rw [List.take_succ_eq_append_getElem (by rw [HNB2.out]; exact hvl), List.foldl_append, HE4.out, HV.out]
                        have h := Eq.subst (motive := fun Z => Nums w9 2 .i64 (.slice ip (intoL X (v : Int)).length ic) (intoL Z (v : Int))) HXX.out.symm HN9.out
                        exact (HG6.out.next hb9).put hun hvn h
                      case measure => simp [intOf]; omega
                    · obtain rfl : vi = nB := by omega
                      clear hgv
                      go_wp2
                      go_roundw
                      case rel =>
                        refine ⟨ui + 1, by omega, by go_num, ?_⟩
                        rw [List.take_succ_eq_append_getElem (by rw [HNA.out]; exact hul), List.foldl_append, HE3.out, HU.out]
                        have h := HG6.out
                        rw [List.take_of_length_le (by rw [HNB2.out]; exact Nat.le_refl _)] at h
                        exact h
                      case measure => simp [intOf]; omega
                · obtain rfl : ui = nA := by omega
                  clear hgu
                  go_wp2
                  go_roundw
                  case rel =>
                    refine ⟨mm + 1, by omega, by go_num, ?_⟩
                    rw [prm2_succ, if_neg heq, HE2.out, HAK.out, HBK.out]
                    have h := HG5.out.tail.tail
                    rw [List.take_of_length_le (by rw [HNA.out]; exact Nat.le_refl _)] at h
                    exact h
                  case measure => simp [intOf]; omega
            · obtain rfl : mm = ps.length := by omega
              clear hgm
              go_wp2
              go_roundw
              case rel =>
                refine ⟨ii + 1, by omega, by go_num, ?_⟩
                rw [prs2_succ, HE1.out]
                exact HG2.out
              case measure => simp [intOf]; omega
        · obtain rfl : ii = ps.length := by omega
          clear hgi
          go_wp2
          go_roundw
          case rel => exact ⟨k + 1, by omega, by go_num, by rw [HE.out]; exact HG1.out⟩
          case measure => simp [intOf]; omega
    · obtain rfl : k = ts.length := by omega
      have hkq : ¬ (((ts.length : Nat) : Int) ≤ (q : Int)) := by have := HQE.out; omega
      have HBR := Lib.hid (HB4.out.trans (hsj.bel.mono HB4.out.size))
      have qb := HB1.out.keep HBR.out
      have mf := qb.free
      have ml := qb.cell
      have hbx := hsj.box.cell
      have QB := Lib.hid qb
      clear qb hsj
      go_wp2
      have mc := (QB.out.set (.slice (some ⟨gb, 0, none⟩) n n)).cell
      have s1 := HBA.out.size
      have s4 := HB4.out.size
      have hml := matG_length n (nodE ts ts.length)
      refine bodyPost_ret (v := .agg #[.slice (some ⟨gb, 0, none⟩) n n]) (by simp [results, Tryd.results46, go_sem, mc]) rfl ⟨_, rfl, ?_, ?_⟩
      · obtain ⟨vals, h1, h2, h3⟩ := HSJ.out.rows
        have hsg : SG wr w4.heap.size (.agg #[.slice (some ⟨gb, 0, none⟩) n n]) (matG n (nodE ts ts.length)) := ⟨_, vals, rfl, by rw [hml]; exact h1, by rw [hml]; exact h2, fun j hj => by
          rw [hml] at hj
          rw [row_matG hj]
          exact h3 j hj⟩
        exact (hsg.setBox QB.out _).base (by omega)
      · exact (HBA.out.trans (HBR.out.mono s1)).setCell (Nat.le_refl _) _

/-- What is handed back. -/
def GsE (ts : List Pt) (w : World) (e : Ending) (w' : World) : Prop :=
  ∃ (u : Value) (R : List (List Int)) (ok : Bool), e = .returned (.tuple #[u, .bool ok]) ∧ GtS ts (CoP ts) R ok ∧ SG w' w.heap.size u R ∧ R.length ≤ 16 ∧ (∀ j, (row R j).length ≤ 16) ∧ Below w.heap.size w w'

set_option maxRecDepth 100000 in
set_option maxHeartbeats 4000000 in
theorem specGraphOfTree_any' (v : Value) (ts : List Pt) (w : World) (htr : Trs w v ts) :
    Calls Tryd.prog 8 #[v] w (GsE ts w) := by
  obtain ⟨vp, vc, rfl, hlen⟩ := htr.shape
  obtain ⟨W0, hW0⟩ : ∃ W, W = w.alloc (.cells #[.slice none 0 0] 26) := ⟨_, rfl⟩
  have hbA : Below w.heap.size w W0 := by rw [hW0]; exact below_alloc _ _
  have HBA := Lib.hid hbA
  have HTR := Lib.hid (htr.below hbA)
  have HB1 : Hid (Box W0 w.heap.size 26 (.slice none 0 0)) := Lib.hid (by rw [hW0]; exact Box.new _ _ _)
  clear htr hbA
  by_cases hco : CoP ts
  case neg =>
    have hd := dec_false hco
    have HN := Lib.hid hco
    clear hco
    go_enter Tryd.func8, Tryd.ntmps8
    go_upto_region 1 with fail
    rw [← hW0]
    clear hW0
    go_wp2_with (go_at_call 24; refine (specCoTreeOk_any _ ts _ HTR.out).mono ?_; rintro e w2 ⟨he, hb2⟩; rw [hd] at he; subst he; have qb := HB1.out.keep hb2; have mf := qb.free; have ml := qb.cell; have QB := Lib.hid qb; clear qb)
    have mc := (QB.out.set (.slice none 0 0)).cell
    refine bodyPost_ret (v := .tuple #[.agg #[.slice none 0 0], .bool false]) (by simp [results, Tryd.results8, go_sem, mc]) rfl ⟨_, [], false, rfl, .inr ⟨HN.out, rfl, rfl⟩, ⟨_, [], rfl, rfl, ⟨rfl, .inl ⟨rfl, rfl⟩⟩, fun j hj => by simp at hj⟩, by decide, row_nilQ, ?_⟩
    exact (HBA.out.trans (hb2.mono HBA.out.size)).setCell (Nat.le_refl _) _
  have hd := dec_true hco
  have HCO := Lib.hid hco
  have HPT := Lib.hid hco.1
  have hmk := msk_ok (ts := ts) ts.length (parts_good hco.1) (ts.length - 1) (by have := hco.1.2.1; omega)
  obtain ⟨n, hcn⟩ : ∃ n, cn (rootM ts) = n := ⟨_, rfl⟩
  have hn16 : n ≤ 16 := by rw [← hcn]; exact cn_le16 hmk.1
  have HCN := Lib.hid hcn
  clear hco hmk hcn
  go_enter Tryd.func8, Tryd.ntmps8
  go_upto_region 1 with fail
  rw [← hW0]
  clear hW0
  go_wp2_with (first
    | (go_at_call 24; refine (specCoTreeOk_any _ ts _ HTR.out).mono ?_; rintro e w2 ⟨he, hb2⟩; rw [hd] at he; subst he)
    | (go_at_call 46; refine (l16Graph_yes _ ts HPT.out _ (HTR.out.below hb2)).mono ?_; rintro e w3 ⟨uu, rfl, hsg, hb3⟩; rw [HCN.out] at hsg; obtain ⟨yp, yc, rfl⟩ := hsg.shape; have HSG := Lib.hid hsg; have HB3 := Lib.hid hb3; have qb := (HB1.out.keep hb2).keep hb3; have mf := qb.free; have ml := qb.cell; have QB := Lib.hid qb; clear qb hsg hb3))
  have mc := (QB.out.set (.slice yp (matG n (nodE ts ts.length)).length yc)).cell
  have s1 := HBA.out.size
  have s2 := hb2.size
  refine bodyPost_ret (v := .tuple #[.agg #[.slice yp (matG n (nodE ts ts.length)).length yc], .bool true]) (by simp [results, Tryd.results8, go_sem, mc]) rfl ?_
  refine ⟨_, _, true, rfl, .inl ⟨HCO.out, rfl, by rw [HCN.out]⟩, (HSG.out.setBox QB.out _).base (by omega), by rw [matG_length]; exact hn16, fun j => Nat.le_trans (matG_row_le j) hn16, ?_⟩
  exact ((HBA.out.trans (hb2.mono s1)).trans (HB3.out.mono (by omega))).setCell (Nat.le_refl _) _

theorem specGraphOfTree_any (v : Value) (ts : List Pt) (w : World) (htr : Trs w v ts) :
    Calls Tryd.prog 8 #[v] w fun e w' => ∃ (u : Value) (R : List (List Int)) (ok : Bool), e = .returned (.tuple #[u, .bool ok]) ∧ GtS ts (CoP ts) R ok ∧ SG w' w.heap.size u R ∧ R.length ≤ 16 ∧ (∀ j, (row R j).length ≤ 16) ∧ Below w.heap.size w w' :=
  (specGraphOfTree_any' v ts w htr).mono fun e w' h => h

end Go.Proofs.YtfphapcgjlhieaaDoor
