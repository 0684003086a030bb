/- Walk: the law FnStables (printed by wip/mkSt.py). -/
import Derived.Test.YtkppbmfliejnmaaDoorSnQ41
import Derived.Test.YtkppbmfliejnmaaDoorSnQ42
import Derived.Test.YtkppbmfliejnmaaDoorSnQ39
import Derived.Test.YtkppbmfliejnmaaDoorSnQ22
import Derived.Test.YtkppbmfliejnmaaDoorSnQ30
import Derived.Test.YtkppbmfliejnmaaDoorSnQ29
import Derived.Test.YtkppbmfliejnmaaDoorSnQ43
import Derived.Test.YtkppbmfliejnmaaDoorSnQ44
import Derived.Test.YtkppbmfliejnmaaDoorSnQ3
import Derived.Test.YtkppbmfliejnmaaDoorCards
import Derived.Test.YtkppbmfliejnmaaDoorTie
import Derived.ProofKit
import Derived.OpenShut
import Derived.Below
import Derived.ChangeSlices
import Derived.ChangeSame
import Derived.WideKeyArgs
import Derived.Deep.DeepHandedRow
import Derived.Deep.Matrix
import Derived.Lib.LaidTab
import Derived.Test.YtkppbmfliejnmaaDoorSnQ28
namespace Go.Proofs.YtkppbmfliejnmaaDoor
open Go.RowKit

theorem rst_co {n s : Nat} (hn : n ≤ 16) (hs : s < 65536) : rstN (natInts (bitsOf s)) n = bitsOf (coN n s) := by
  refine rising_ext _ _ (rstN_rising _ _) (bitsOf_rising _) fun x => ?_
  rw [mem_left (lt16N hn (coN_lt hn hs)), coN_bit hn hs]
  unfold rstN
  rw [List.mem_filter, List.mem_range]
  have : ((x : Int) ∉ natInts (bitsOf s)) ↔ s.testBit x = false := by
    rw [mem_natInts]
    constructor
    · intro h
      cases e : s.testBit x
      · rfl
      · exact absurd ⟨x, (mem_left hs).2 e, rfl⟩ h
    · rintro h ⟨i, hi, he⟩
      obtain rfl : x = i := by omega
      rw [(mem_left hs).1 hi] at h
      cases h
  by_cases h1 : s.testBit x = false
  · simp [this, h1]
  · simp [this, h1]
theorem sv_congr {E F : Nat → Nat → Bool} {s n : Nat} (hs : s < 2 ^ n) (h : ∀ x y, x < n → y < n → E x y = F x y) : StbP E s ↔ StbP F s := by
  constructor
  · rintro k ⟨x, hx, y, hy, e⟩
    exact k ⟨x, hx, y, hy, by rw [h x y (bit_ltN hs hx) (bit_ltN hs hy)]; exact e⟩
  · rintro k ⟨x, hx, y, hy, e⟩
    exact k ⟨x, hx, y, hy, by rw [← h x y (bit_ltN hs hx) (bit_ltN hs hy)]; exact e⟩
theorem clq_comp {E : Nat → Nat → Bool} {s : Nat} : StbP (compE E) s ↔ ClqP E s := by
  constructor
  · intro h u v hu hv huv
    cases e : E u v
    · exact absurd ⟨u, hu, v, hv, by unfold compE; simp [huv, e]⟩ h
    · rfl
  · rintro h ⟨u, hu, v, hv, e⟩
    unfold compE at e
    simp only [Bool.and_eq_true, Bool.not_eq_true', beq_eq_false_iff_ne] at e
    rw [h u v hu hv e.1] at e
    cases e.2
theorem clq_bits {g : List (List Int)} (hok : GOk g) {s : Nat} (hs : s < 2 ^ g.length) (h : ClqP (ofG g) s) : ClqB (netL g) s := fun v hv hb => by
  have s16 := lt16N hok.le hs
  have hvn : v < g.length := by rwa [netL_len] at hv
  have h16 := hok.le
  have ha16 : (netL g).getD v 0 < 65536 := by
    have : (netL g).getD v 0 ∈ netL g := by
      rw [List.getD_eq_getElem?_getD, List.getElem?_eq_getElem hv]
      exact List.getElem_mem hv
    exact netL_lt hok _ this
  refine Nat.eq_of_testBit_eq fun j => ?_
  rw [testBit_sub _ _ (by omega) (by omega), Nat.testBit_two_pow]
  have hb2 := adG_bit hok hvn j
  have e3 : adG g v j = ofG g v j := rfl
  rw [e3] at hb2
  by_cases e : v = j
  · subst e
    have : ((netL g).getD v 0).testBit v = false := by
      rw [Bool.eq_false_iff]
      intro k
      rw [ofG_irr hok] at hb2
      exact absurd (hb2.1 k) (by simp)
    rw [hb, this]; simp
  · cases ej : s.testBit j
    · simp [e]
    · rw [hb2.2 (h v j hb ej e)]
      simp [e]

set_option maxRecDepth 100000 in
set_option maxHeartbeats 8000000 in
theorem lawStables_any (v0 : Value) (bs : List Int) (W : World) (ha : ArgB W v0 bs) (hT : Tab W) :
    Calls Tryd.prog 3 #[v0] W fun e w' => e = .returned (.bool true) ∧ Below W.heap.size W w' := by
  obtain ⟨p, c, e0, _⟩ := id ha
  subst e0
  have HA := Lib.hid ha
  have HT := Lib.hid hT
  clear ha hT
  go_enter Tryd.func3, Tryd.ntmps3
  by_cases hbig : 4096 < bs.length
  · have hd := decide_eq_true hbig
    go_wp2_with (go_at_call 11; refine (big_any _ bs _ HA.out).mono ?_; rintro e w2 ⟨he, rfl⟩; rw [hd] at he; subst he)
    go_ret
    exact ⟨rfl, Below.refl _ _⟩
  have hd := decide_eq_false hbig
  have hl : bs.length ≤ 4096 := by omega
  clear hbig
  go_upto_region 5 with (first
    | (go_at_call 13; refine (w6Graph_any W db bs 8 _ rfl (by decide) (by decide) _ HD2.out HDL.out).mono ?_; rintro e w3 ⟨u, n, E, rfl, hn1, hn8, hse, hsg, hd3, hg3⟩; have HSE := Lib.hid hse; have HSG := Lib.hid hsg; have HD3 := Lib.hid hd3; have HG3 := Lib.hid hg3; obtain ⟨gp, gc, rfl⟩ := hsg.shape; clear hse hsg hd3 hg3)
    | (go_at_call 12; refine (roll_any _ bs _ hl _ HA.out).mono ?_; rintro e w2 ⟨db, rfl, hd2, hb2⟩; have HD2 := Lib.hid hd2; have HDL : Hid (db < w2.heap.size) := Lib.hid (by obtain ⟨_, _, _, h1, _⟩ := hd2.ex; exact h1.lt); clear hd2 hb2)
    | (go_at_call 11; refine (big_any _ bs _ HA.out).mono ?_; rintro e w1 ⟨he, rfl⟩; rw [hd] at he; subst he))
  obtain ⟨g, hga⟩ : ∃ g, g = matG n E := ⟨_, rfl⟩
  have hgl : g.length = n := by rw [hga, matG_length]
  have HOK : Hid (GOk g) := Lib.hid (by rw [hga]; exact gok_matG hn1 (by omega) HSE.out.1 HSE.out.2)
  rw [← hga] at HSG ⊢
  have hg8 : g.length ≤ 8 := by omega
  have hgp := HOK.out.pos
  obtain ⟨w4, hw4⟩ : ∃ w4, w4 = w3.alloc (.cells #[.slice gp g.length gc] 29) := ⟨_, rfl⟩
  rw [← hw4]
  have hb34 : Below w3.heap.size w3 w4 := by rw [hw4]; exact below_alloc _ _
  have HX4 : Hid (Box w4 w3.heap.size 29 (.slice gp g.length gc)) := Lib.hid (by rw [hw4]; exact Box.new _ _ _)
  have HG4 : Hid (Gr w4 (.agg #[.slice gp g.length gc]) g) := Lib.hid ((HSG.out.below hb34).gr (by omega))
  have HD4 := Lib.hid (HD3.out.keep hb34)
  have HDL4 : Hid (db < w4.heap.size) := Lib.hid (by have h1 := HDL.out; have h2 := HG3.out.size; have h3 := hb34.size; omega)
  have c4 := HX4.out.cell
  obtain ⟨bg, hbg⟩ : ∃ bg, bg = w3.heap.size := ⟨_, rfl⟩
  rw [← hbg] at HX4 c4 ⊢
  clear hga hw4 hb34 HSG hn8 hgl hn1 HD2 HDL HD3 HSE hd HG3 hbg
  have hg16 := HOK.out.le
  obtain ⟨H, hH⟩ : ∃ H, H = matG g.length (compE (ofG g)) := ⟨_, rfl⟩
  have HHOK : Hid (GOk H) := Lib.hid (by rw [hH]; exact gok_matG (by omega) (by omega) (comp_sym (ofG_sym HOK.out)) (comp_irr _))
  have hHl : H.length = g.length := by rw [hH, matG_length]
  have HHE : Hid (∀ x y, x < g.length → y < g.length → ofG H x y = compE (ofG g) x y) := Lib.hid fun x y hx hy => by rw [hH]; exact ofG_matG hx hy
  have HT4 := Lib.hid (HT.out.keep HD4.out.bel)
  have COMP : Hid (∀ (wz : World), Gr wz (.agg #[.slice gp g.length gc]) g → Calls Tryd.prog 14 #[.agg #[.slice gp g.length gc]] wz fun e w' => ∃ xp xc, e = .returned (.tuple #[.agg #[.slice xp g.length xc], .bool true]) ∧ Gr w' (.agg #[.slice xp g.length xc]) H ∧ Below wz.heap.size wz w') := Lib.hid fun wz h1 => by
    refine (specComplement_yes _ g HOK.out wz h1).mono ?_
    rintro e w' ⟨u, rfl, hs, hb⟩
    rw [← hH] at hs
    have hgr := hs.gr (by omega)
    obtain ⟨xp, xc, rfl⟩ := hs.shape
    rw [hHl] at hgr
    rw [hHl]
    exact ⟨xp, xc, rfl, hgr, hb⟩
  clear hH
  go_upto_region 6 with (go_at_call 14; refine (COMP.out _ HG4.out).mono ?_; rintro e w5 ⟨xp, xc, rfl, hgx, hb5⟩)
  obtain ⟨w6, hw6⟩ : ∃ w6, w6 = w5.alloc (.cells #[.slice xp g.length xc] 29) := ⟨_, rfl⟩
  rw [← hw6]
  have hb56 : Below w5.heap.size w5 w6 := by rw [hw6]; exact below_alloc _ _
  have hb46 := hb5.trans (hb56.mono hb5.size)
  have HXX6 : Hid (Box w6 w5.heap.size 29 (.slice xp g.length xc)) := Lib.hid (by rw [hw6]; exact Box.new _ _ _)
  have HGX6 := Lib.hid (hgx.below hb56)
  have HX6 := Lib.hid (HX4.out.keep hb46)
  have HG6 := Lib.hid (HG4.out.below hb46)
  have HD6 := Lib.hid (HD4.out.keep hb46)
  have HDL6 : Hid (db < w6.heap.size) := Lib.hid (Nat.lt_of_lt_of_le HDL4.out hb46.size)
  have c6 := HX6.out.cell
  obtain ⟨bx, hbx⟩ : ∃ bx, bx = w5.heap.size := ⟨_, rfl⟩
  rw [← hbx] at HXX6 ⊢
  clear hw6 hb56 hb46 hb5 hgx HX4 HG4 HD4 HDL4 HT4 c4 hbx COMP
  go_upto_region 7 with (go_at_call 15; refine (w6Set_any W db bs gp g.length gc (by omega) _ HD6.out HDL6.out).mono ?_; rintro e w7 ⟨ov, o, rfl, hol, hor, hoi, hdw⟩; have HDW := Lib.hid hdw; have HOR := Lib.hid hor; have HOI := Lib.hid hoi; clear hdw hol hor hoi)
  have HOWN := Lib.hid HDW.out.own
  obtain ⟨s, hs⟩ : ∃ s, s = mask (natInts o) := ⟨_, rfl⟩
  have ho : o = bitsOf s := by rw [hs]; exact (bitsOf_maskN HOR.out fun x hx => by have := HOI.out x hx; omega).symm
  have hsn : s < 2 ^ g.length := by
    refine Nat.lt_pow_two_of_testBit _ fun j hj => ?_
    rw [Bool.eq_false_iff]
    intro k
    rw [hs] at k
    have := HOI.out j ((bit_nat o j).1 k)
    omega
  have hs16 := lt16N hg16 hsn
  rw [ho] at HOWN
  have HNS : Hid (Nums w7 2 .i64 ov (natInts (bitsOf s))) := Lib.hid (Nums.of_owns HOWN.out rfl (by rw [natInts_length]; have := bitsOf_length s; omega))
  obtain ⟨q, hq⟩ : ∃ q, q = (bitsOf s).length := ⟨_, rfl⟩
  obtain ⟨op, oc, hov, _⟩ := id HNS.out.shape
  rw [natInts_length, ← hq] at hov
  subst hov
  have HQ := Lib.hid hq
  have HSN := Lib.hid hsn
  have hq16 : q ≤ 16 := by rw [hq]; exact Nat.le_trans (bits_lenN hg16 hsn) hg16
  have HX7 := Lib.hid (HX6.out.diced HD6.out HDW.out.gr (by decide))
  have HXX7 := Lib.hid (HXX6.out.diced HD6.out HDW.out.gr (by decide))
  have HG7 := Lib.hid (Gr.dicedR HD6.out HDW.out.gr HG6.out)
  have HGX7 := Lib.hid (Gr.dicedR HD6.out HDW.out.gr HGX6.out)
  have HD7 := Lib.hid HDW.out.dice
  have HT7 := Lib.hid (HT.out.keep HD7.out.bel)
  have c7 := HX7.out.cell
  clear HOWN hs ho hsn hq HX6 HXX6 HG6 HGX6 HD6 HDL6 c6 HDW HOR HOI
  go_upto_region 8 with (go_at_call 16; refine (implBestStable_yes _ g _ HG7.out HOK.out HT7.out).mono ?_; rintro e w8 ⟨bv, sb, rfl, hmb, hob, hb8⟩; have HMB := Lib.hid hmb; have HOB := Lib.hid hob; have HB8 := Lib.hid hb8; have c8 := hb8.at' c7; clear hmb hob hb8)
  go_upto_region 9 with (go_at_call 17; refine (implLeastCover_yes _ g _ (HG7.out.below HB8.out) HOK.out (HT7.out.keep HB8.out)).mono ?_; rintro e w9 ⟨cv, sc, rfl, hmc, hoc, hb9⟩; have HMC := Lib.hid hmc; have HOC := Lib.hid hoc; have HB9x := Lib.hid hb9; have HB9 := Lib.hid (HB8.out.trans (hb9.mono HB8.out.size)); have c9 := hb9.at' c8; clear hmc hoc hb9)
  go_upto_region 10 with (go_at_call 18; refine (implBestClique_yes _ g _ (HG7.out.below HB9.out) HOK.out (HT7.out.keep HB9.out)).mono ?_; rintro e wa ⟨qv, sq, rfl, hmq, hoq, hba⟩; have HMQ := Lib.hid hmq; have HOQ := Lib.hid hoq; have HBAx := Lib.hid hba; have HBA := Lib.hid (HB9.out.trans (hba.mono HB9.out.size)); have ca := hba.at' c9; clear hmq hoq hba)
  have l32 : ∀ z, (bitsOf z).length ≤ 1000000000 := fun z => Nat.le_trans (bitsOf_length z) (by decide)
  have HNB : Hid (Nums wa 2 .i64 bv (natInts (bitsOf sb))) := Lib.hid (((Nums.of_owns HOB.out (by rw [natInts_length]) (l32 sb)).below HB9x.out).below HBAx.out)
  have HNC : Hid (Nums wa 2 .i64 cv (natInts (bitsOf sc))) := Lib.hid ((Nums.of_owns HOC.out (by rw [natInts_length]) (l32 sc)).below HBAx.out)
  have HNQ : Hid (Nums wa 2 .i64 qv (natInts (bitsOf sq))) := Lib.hid (Nums.of_owns HOQ.out (by rw [natInts_length]) (l32 sq))
  have HNSa := Lib.hid (HNS.out.below HBA.out)
  have HXa := Lib.hid (HX7.out.keep HBA.out)
  have HXXa := Lib.hid (HXX7.out.keep HBA.out)
  have HGa := Lib.hid (HG7.out.below HBA.out)
  have HGXa := Lib.hid (HGX7.out.below HBA.out)
  have HTa := Lib.hid (HT7.out.keep HBA.out)
  have HDa := Lib.hid (HD7.out.keep HBA.out)
  have cx := HXXa.out.cell
  clear HX7 HXX7 HG7 HGX7 HT7 HD7 HB8 HB9 HB9x HBA HBAx HOB HOC HOQ c7 c8 c9 HNS
  obtain ⟨b1, hb1⟩ : ∃ b1, b1 = dec (StbP (ofG g) s) := ⟨_, rfl⟩
  obtain ⟨b2, hb2⟩ : ∃ b2, b2 = dec (ClqP (ofG g) s) := ⟨_, rfl⟩
  have ST1 : Hid (∀ wz, Gr wz (.agg #[.slice gp g.length gc]) g → Nums wz 2 .i64 (.slice op q oc) (natInts (bitsOf s)) → Tab wz → Calls Tryd.prog 19 #[.agg #[.slice gp g.length gc], .slice op q oc] wz fun e w' => e = .returned (.bool b1) ∧ Below wz.heap.size wz w') := Lib.hid fun wz h1 h2 h3 => by
    rw [hb1]
    exact implStableIn_yes _ _ g s HSN.out wz h1 HOK.out h2 h3
  have RST : Hid (∀ wz, Nums wz 2 .i64 (.slice op q oc) (natInts (bitsOf s)) → Calls Tryd.prog 21 #[.agg #[.slice gp g.length gc], .slice op q oc] wz fun e w' => ∃ rv, e = .returned rv ∧ Nums w' 2 .i64 rv (natInts (bitsOf (coN g.length s))) ∧ Below wz.heap.size wz w') := Lib.hid fun wz h1 => by
    refine (w6Rest_any gp g.length gc _ _ (by omega) wz h1).mono ?_
    rintro e w' ⟨rv, rfl, ho, hb⟩
    rw [rst_co hg16 hs16] at ho
    exact ⟨rv, rfl, Nums.of_owns ho (by rw [natInts_length]) (l32 _), hb⟩
  have COV : Hid (∀ wz rv, Gr wz (.agg #[.slice gp g.length gc]) g → Nums wz 2 .i64 rv (natInts (bitsOf (coN g.length s))) → Tab wz → Calls Tryd.prog 20 #[.agg #[.slice gp g.length gc], rv] wz fun e w' => e = .returned (.bool b1) ∧ Below wz.heap.size wz w') := Lib.hid fun wz rv h1 h2 h3 => by
    have := implCoverIn_yes _ _ g (coN g.length s) (coN_lt hg16 hs16) wz h1 HOK.out h2 h3
    have e1 : CvrP (ofG g) g.length (coN g.length s) = StbP (ofG g) s := by unfold CvrP; rw [coN_co hg16 HSN.out]
    rw [e1, ← hb1] at this
    exact this
  have CLQ : Hid (∀ wz, Gr wz (.agg #[.slice gp g.length gc]) g → Nums wz 2 .i64 (.slice op q oc) (natInts (bitsOf s)) → Tab wz → Calls Tryd.prog 22 #[.agg #[.slice gp g.length gc], .slice op q oc] wz fun e w' => e = .returned (.bool b2) ∧ Below wz.heap.size wz w') := Lib.hid fun wz h1 h2 h3 => by
    rw [hb2]
    exact implCliqueIn_yes _ _ g s HSN.out wz h1 HOK.out h2 h3
  have STX : Hid (∀ wz, Gr wz (.agg #[.slice xp g.length xc]) H → Nums wz 2 .i64 (.slice op q oc) (natInts (bitsOf s)) → Tab wz → Calls Tryd.prog 19 #[.agg #[.slice xp g.length xc], .slice op q oc] wz fun e w' => e = .returned (.bool b2) ∧ Below wz.heap.size wz w') := Lib.hid fun wz h1 h2 h3 => by
    have := implStableIn_yes _ _ H s (by rw [hHl]; exact HSN.out) wz h1 HHOK.out h2 h3
    rw [dec_congr ((sv_congr HSN.out HHE.out).trans clq_comp), ← hb2] at this
    exact this
  go_cut [48] (fun r wx => r = .bool false ∧ Below wa.heap.size wa wx)
  case first =>
    clear hb1 hb2
    cases b1 <;> cases b2
    all_goals
      go_region_held3 (fun w' => w'.cell? ⟨bg, 0, none⟩ = some (.slice gp g.length gc) ∧ w'.cell? ⟨bx, 0, none⟩ = some (.slice xp g.length xc))
        (first | exact ⟨ca, cx⟩ | go_keep | exact ⟨BWE.at' ca, BWE.at' cx⟩ | exact ⟨BWD.at' ca, BWD.at' cx⟩ | exact ⟨BWC.at' ca, BWC.at' cx⟩ | exact ⟨BWB.at' ca, BWB.at' cx⟩ | exact ⟨BWA.at' ca, BWA.at' cx⟩)
        (first
          | (have X := BWD; go_at_call 19; refine (STX.out _ (HGXa.out.below BWD) (HNSa.out.below BWD) (HTa.out.keep BWD)).mono ?_; rintro e we ⟨rfl, hbq⟩; have BWE : Below wa.heap.size wa we := BWD.trans (hbq.mono BWD.size); clear hbq)
          | (have X := BWC; go_at_call 22; refine (CLQ.out _ (HGa.out.below BWC) (HNSa.out.below BWC) (HTa.out.keep BWC)).mono ?_; rintro e wd ⟨rfl, hbq⟩; have BWD : Below wa.heap.size wa wd := BWC.trans (hbq.mono BWC.size); clear hbq)
          | (have X := BWB; go_at_call 20; refine (COV.out _ _ (HGa.out.below BWB) HNR.out (HTa.out.keep BWB)).mono ?_; rintro e wc ⟨rfl, hbq⟩; have BWC : Below wa.heap.size wa wc := BWB.trans (hbq.mono BWB.size); clear hbq)
          | (have X := BWA; go_at_call 21; refine (RST.out _ (HNSa.out.below BWA)).mono ?_; rintro e wb ⟨rv, rfl, hnr, hbq⟩; have HNR := Lib.hid hnr; have BWB : Below wa.heap.size wa wb := BWA.trans (hbq.mono BWA.size); clear hbq hnr)
          | (go_at_call 19; refine (ST1.out _ (HGa.out.below (below_dN (Below.refl _ _) 1)) (HNSa.out.below (below_dN (Below.refl _ _) 1)) (HTa.out.keep (below_dN (Below.refl _ _) 1))).mono ?_; rintro e wz ⟨rfl, hbq⟩; have BWA : Below wa.heap.size wa wz := (below_dN (Below.refl _ _) 1).trans hbq; clear hbq))
    all_goals go_wp2
    all_goals go_meet
    all_goals exact ⟨rfl, BWE⟩
  case rest =>
  clear ST1 RST COV CLQ STX hb1 hb2
  obtain ⟨rfl, hbz⟩ := hcut
  rename_i wy
  have hsb := HMB.out.1
  have hsb16 := lt16N hg16 hsb
  have hsc := HMC.out.1
  have hsc16 := lt16N hg16 hsc
  have hsq := HMQ.out.1
  have hsq16 := lt16N hg16 hsq
  have setb : ∀ z, z < 2 ^ g.length → SetIn g.length (natInts (bitsOf z)) := fun z hz => set_nat (bitsOf_rising z) fun x hx => bit_ltN hz ((mem_left (lt16N hg16 hz)).1 hx)
  have HS1 : Hid (dec (StbS g (natInts (bitsOf sb))) = true) := Lib.hid (dec_true ⟨HOK.out, setb _ hsb, by rw [mask_bitsOf hsb16]; exact (sv_stb HOK.out fun x hx => bit_ltN hsb hx).1 HMB.out.2.1⟩)
  have HC1 : Hid (dec (CovI g (natInts (bitsOf sc))) = true) := Lib.hid (dec_true ⟨HOK.out, setb _ hsc, by rw [mask_bitsOf hsc16]; exact (sv_stb HOK.out fun x hx => bit_ltN (coN_lt hg16 hsc16) hx).1 HMC.out.2.1⟩)
  have HSETC := Lib.hid (setb _ hsc)
  have HQ1 : Hid (dec (ClqI g (natInts (bitsOf sq))) = true) := Lib.hid (dec_true ⟨HOK.out, setb _ hsq, by rw [mask_bitsOf hsq16]; exact clq_bits HOK.out hsq (clq_comp.1 HMQ.out.2.1)⟩)
  have hsum := max_least hg16 HMB.out HMC.out
  have HFIN : Hid (StbS g (natInts (bitsOf s)) → q ≤ (bitsOf sb).length ∧ (q = (bitsOf sb).length → ¬ lexL (bitsOf s) (bitsOf sb))) := Lib.hid fun h => by
    have h1 := (sv_stb HOK.out fun x hx => bit_ltN HSN.out hx).2 (by have := h.2.2; rw [mask_bitsOf hs16] at this; exact this)
    rw [HQ.out]
    exact HMB.out.2.2 s HSN.out h1
  obtain ⟨nb, hnb⟩ : ∃ nb, nb = (bitsOf sb).length := ⟨_, rfl⟩
  obtain ⟨nc, hnc⟩ : ∃ nc, nc = (bitsOf sc).length := ⟨_, rfl⟩
  rw [← hnb, ← hnc] at hsum
  rw [← hnb] at HFIN
  obtain ⟨bp, bc, hbv, _⟩ := id HNB.out.shape
  obtain ⟨cp, cc, hcv, _⟩ := id HNC.out.shape
  rw [natInts_length, ← hnb] at hbv
  rw [natInts_length, ← hnc] at hcv
  subst hbv
  subst hcv
  have HNBL := Lib.hid hnb
  have BSX : Hid (∀ wz, Gr wz (.agg #[.slice xp g.length xc]) H → Tab wz → Calls Tryd.prog 16 #[.agg #[.slice xp g.length xc]] wz fun e w' => ∃ u, e = .returned u ∧ Nums w' 2 .i64 u (natInts (bitsOf sq)) ∧ Below wz.heap.size wz w') := Lib.hid fun wz h1 h2 => by
    refine (implBestStable_yes _ H wz h1 HHOK.out h2).mono ?_
    rintro e w' ⟨u, s', rfl, hm, ho, hb⟩
    rw [hHl] at hm
    obtain rfl : s' = sq := maxP_det hg16 (fun x hx => sv_congr hx HHE.out) hm HMQ.out
    exact ⟨u, rfl, Nums.of_owns ho (by rw [natInts_length]) (l32 _), hb⟩
  have HBZ := Lib.hid hbz
  have cz := HBZ.out.at' ca
  have cxz := HBZ.out.at' cx
  have HGz := Lib.hid (HGa.out.below hbz)
  have HGXz := Lib.hid (HGXa.out.below hbz)
  have HNBz := Lib.hid (HNB.out.below hbz)
  have HNCz := Lib.hid (HNC.out.below hbz)
  have HNQz := Lib.hid (HNQ.out.below hbz)
  have HNSz := Lib.hid (HNSa.out.below hbz)
  have HTz := Lib.hid (HTa.out.keep hbz)
  have HWz := Lib.hid (HDa.out.bel.trans (hbz.mono HDa.out.bel.size))
  clear hbz HBZ HGa HGXa HNB HNC HNQ HNSa HTa HDa ca cx hnb hnc hsb hsb16 hsc hsc16 hsq hsq16 setb HXa HXXa l32
  go_upto_region 14 with (first
    | (go_at_call 26; refine (likeInts_any _ _ _ _ _ (HNQz.out.below HB5.out) HNX5.out).mono ?_; rintro e w6 ⟨he, hb6⟩; rw [dec_true rfl] at he; subst he; have HB6 := Lib.hid (HB5.out.trans (hb6.mono HB5.out.size)); have d6 := hb6.at' d5)
    | (have X := HB4; go_at_call 16; refine (BSX.out _ (HGXz.out.below HB4.out) (HTz.out.keep HB4.out)).mono ?_; rintro e w5 ⟨u, rfl, hnx, hb5⟩; have HNX5 := Lib.hid hnx; have HB5 := Lib.hid (HB4.out.trans (hb5.mono HB4.out.size)); have d5 := hb5.at' d4; clear hnx)
    | (have X := HB3; go_at_call 25; refine (specCliqueIn_any _ _ g _ (by omega) _ (HGz.out.below HB3.out) (HNQz.out.below HB3.out)).mono ?_; rintro e w4 ⟨he, hb4⟩; rw [HQ1.out] at he; subst he; have HB4 := Lib.hid (HB3.out.trans (hb4.mono HB3.out.size)); have d4 := hb4.at' d3; have x4 := hb4.at' x3)
    | (have X := HB2; go_at_call 24; refine (specCoverIn_yes _ _ g _ HOK.out HSETC.out _ (HGz.out.below HB2.out) (HNCz.out.below HB2.out)).mono ?_; rintro e w3 ⟨he, hb3⟩; rw [HC1.out] at he; subst he; have HB3 := Lib.hid (HB2.out.trans (hb3.mono HB2.out.size)); have d3 := hb3.at' d2; have x3 := hb3.at' x2)
    | (go_at_call 23; refine (specStableIn_any _ _ g _ (by omega) _ HGz.out HNBz.out).mono ?_; rintro e w2 ⟨he, hb2⟩; rw [HS1.out] at he; subst he; have HB2 := Lib.hid hb2; have d2 := hb2.at' cz; have x2 := hb2.at' cxz))
  by_cases hst : StbS g (natInts (bitsOf s))
  case neg =>
    have HDS := Lib.hid (dec_false hst)
    clear hst
    go_wp2_with (go_at_call 23; refine (specStableIn_any _ _ g _ (by omega) _ (HGz.out.below HB6.out) (HNSz.out.below HB6.out)).mono ?_; rintro e w7 ⟨he, hb7⟩; rw [HDS.out] at he; subst he)
    go_ret
    exact ⟨rfl, HWz.out.trans ((HB6.out.trans (hb7.mono HB6.out.size)).mono HWz.out.size)⟩
  obtain ⟨f1, f2⟩ := HFIN.out hst
  have HDS := Lib.hid (dec_true hst)
  by_cases hlt : q < nb
  · have hli : (q : Int) < (nb : Int) := by omega
    clear hst f1 f2 hlt
    go_wp2_with (go_at_call 23; refine (specStableIn_any _ _ g _ (by omega) _ (HGz.out.below HB6.out) (HNSz.out.below HB6.out)).mono ?_; rintro e w7 ⟨he, hb7⟩; rw [HDS.out] at he; subst he)
    go_ret
    exact ⟨rfl, HWz.out.trans ((HB6.out.trans (hb7.mono HB6.out.size)).mono HWz.out.size)⟩
  · obtain rfl : q = nb := by omega
    have HDL : Hid (dec (lexL (bitsOf s) (bitsOf sb)) = false) := Lib.hid (dec_false (f2 rfl))
    have HLL : Hid ((bitsOf s).length = (bitsOf sb).length) := Lib.hid (by rw [← HQ.out, HNBL.out])
    clear hst f1 f2 hlt
    go_wp2_with (first
      | (have X := hb7; go_at_call 27; refine (w6Less_any _ _ _ _ HLL.out _ ((HNSz.out.below HB6.out).below hb7) ((HNBz.out.below HB6.out).below hb7)).mono ?_; rintro e w8 ⟨he, hb8⟩; rw [HDL.out] at he; subst he)
      | (go_at_call 23; refine (specStableIn_any _ _ g _ (by omega) _ (HGz.out.below HB6.out) (HNSz.out.below HB6.out)).mono ?_; rintro e w7 ⟨he, hb7⟩; rw [HDS.out] at he; subst he))
    go_ret
    exact ⟨rfl, HWz.out.trans ((HB6.out.trans ((hb7.trans (hb8.mono hb7.size)).mono HB6.out.size)).mono HWz.out.size)⟩

end Go.Proofs.YtkppbmfliejnmaaDoor

/- The argument of a law over one graph, opened; the table; the row's last step. -/
namespace Go.Proofs.YtkppbmfliejnmaaDoor
open Go.ChangeShapes Go.WideShapes Go.ChangeAt Go.RowKit Go.Deep

theorem own : ownKnob Tryd.prog.godebug = none := by kernel_rfl
theorem laidOut : laidOutB Tryd.prog = true := by kernel_rfl
theorem gTab : Tryd.prog.globalNamed "math/bits.deBruijn32tab" = some 0 := by kernel_rfl
theorem gTabType : (Tryd.prog.globals[0]?).map (·.type) = some 187 := by kernel_rfl
theorem cellsTab : Tryd.prog.cellsOf 187 = 32 := by kernel_rfl
theorem cellsByte : Tryd.prog.cellsOf 5 = 1 := by kernel_rfl
theorem cellsRows : Tryd.prog.cellsOf 27 = 1 := by kernel_rfl
theorem cellsRow : Tryd.prog.cellsOf 33 = 1 := by kernel_rfl
theorem cellsInt : Tryd.prog.cellsOf 2 = 1 := by kernel_rfl
theorem maxLen_eq : maxLen = 9223372036854775807 := rfl

set_option maxRecDepth 100000 in
theorem tab_of_laid {W : World} {rest : List (String × DataW Unit)} (h : laidMet Tryd.prog (("math/bits.deBruijn32tab", Rows.laid_math_bits_deBruijn32tab) :: rest) W) : Tab W := by
  have t : Lib.TabIs Tryd.prog W "math/bits.deBruijn32tab" .u8 (Lib.deBruijn32tab.map fun (n : Nat) => (n : Int)) :=
    Lib.tabIs_of_head (rest := rest) gTab gTabType Tryd.underlying187 Tryd.underlying5 cellsByte cellsTab h
  intro j hj
  rw [t.cell gTab j (by simpa using hj)]
  simp [List.getD, hj]

theorem spot_of {w : World} {a : Addr} {u : Value} (h : w.cell? a = some u) : a.spot = none := by
  unfold World.cell? at h
  split at h
  · cases e : a.spot with
    | none => rfl
    | some x => simp [e] at h
  · cases h
theorem cell_add {w : World} {a : Addr} {r : Nat} {u : Value} (h : w.cell? (a.add r) = some u) (hs : a.spot = none) : w.cell? ⟨a.block, a.off + r, none⟩ = some u := by
  obtain ⟨b, o, s⟩ := a
  simp only at hs
  subst hs
  unfold Addr.add at h
  split at h
  · rename_i e; subst e; exact h
  · exact h

variable {H : Type} {enc : TypeId × Value → H}

theorem open_row {w : World} {A : Option Addr} {L C : Nat} {zs : List Int} (hLC : L ≤ C) (hC : C ≤ maxLen) (hz : zs.length = C) (hn : A = none → C = 0)
    (hc : ∀ a', A = some a' → 0 ≤ a'.block ∧ ∀ c, c < C → w.cell? (a'.add c) = some (.int .i64 (zs.getD c 0))) : ArgN w (.slice A L C) (zs.take L) := by
  have hl : (zs.take L).length = L := by rw [List.length_take]; omega
  rw [maxLen_eq] at hC
  refine ⟨A, C, by rw [hl], by omega, ?_⟩
  by_cases h0 : L = 0
  · subst h0; exact .inl (by simp)
  · cases A with
    | none => have := hn rfl; omega
    | some a =>
      obtain ⟨_, hc⟩ := hc a rfl
      have hs := spot_of (show w.cell? a = some _ from hc 0 (by omega))
      refine .inr ⟨a.block, a.off, ?_, fun j u hu => ?_⟩
      · obtain ⟨b, o, s⟩ := a; simp only at hs; subst hs; rfl
      · have hj : j < L := by
          have := (List.getElem?_eq_some_iff.1 hu).1
          rw [List.length_map, hl] at this; exact this
        have h1 := cell_add (hc j (by omega)) hs
        rw [h1]
        rw [List.getElem?_map, List.getElem?_take, if_pos hj] at hu
        rw [← hu]
        simp [List.getD, List.getElem?_eq_getElem (show j < zs.length by omega)]

set_option maxRecDepth 100000 in
theorem open_nums {W : World} {sp : Nat → Bool} {held : Bool} {b0 : Nat} {v : Value} {d : DataW H} {p : List MemPlace} (hv : Value.okWide Tryd.prog W .any b0 33 v)
    (h : DataW.Trod enc Tryd.prog W 0 (fun _ => true) held 33 v d p) : ∃ xs, ArgN W v xs := by
  obtain ⟨a0, len, cap, rfl⟩ := okWide_slice Tryd.underlying33 hv
  obtain ⟨fuel, hf⟩ := h
  rcases open_ints Tryd.underlying33 Tryd.underlying2 cellsInt hf with ⟨hc, _⟩ | ⟨a, len', cap', zs, hc, _, hl, hm, hz, _, hcell, _⟩
  · obtain ⟨rfl, rfl, rfl⟩ : a0 = none ∧ len = 0 ∧ cap = 0 := by simpa [Value.cells] using hc
    exact ⟨[], none, 0, rfl, by simp, .inl rfl⟩
  · obtain ⟨rfl, rfl, rfl⟩ : a0 = some a ∧ len = len' ∧ cap = cap' := by simpa [Value.cells] using hc
    simp only [if_true] at hz
    exact ⟨_, open_row hl hm hz (fun e => by cases e) (fun a' e => by cases e; exact ⟨Nat.zero_le _, fun c hc => hcell c (by omega)⟩)⟩

theorem same_of_below {W W' : World} (hb : Below W.heap.size W W') {x : MemPlace} (hx : x.block < W.heap.size) : W.sameAt W' x := by
  cases x with
  | cell b off => exact hb.cell (p := ⟨b, off, none⟩) hx
  | map b => exact hb.block b hx

section
variable {P : Program}
theorem post_of_below {f : Func} {s : ChangeSpec} {apart fresh handsOn again : Bool} {W W' : World} {args : Array Value} {v : Value} {ds gs : List (DataW H)} {before pa pv : List MemPlace}
    (hW : DataW.Whole enc P f.params.toList s.vars apart W args.toList ds gs before)
    (hres : ∀ (b : Nat) (sp : Nat → Bool) (hd : Bool), DataW.TrodAll enc P W' b sp hd f.resultTypes.toList (v.resultList f.resultTypes.size) (s.fn H (ds ++ gs)).results [])
    (hargs : ∀ sp : Nat → Bool, (∀ p ∈ before, sp p.block = true) → DataW.TrodAll enc P W' 0 sp true f.params.toList args.toList (s.fn H (ds ++ gs)).args pa)
    (hvars : ∀ sp : Nat → Bool, (∀ p ∈ before, sp p.block = true) → DataW.TrodVars enc P W' sp s.vars (s.fn H (ds ++ gs)).vars pv)
    (hps : before = pa ++ pv) (hb : Below W.heap.size W W')
    (hok : ∀ (j : Nat) (t : TypeId) (r : Value), f.resultTypes[j]? = some t → (v.resultList f.resultTypes.size)[j]? = some r → Value.okWide P W' .any 0 t r) :
    s.post enc P f apart fresh handsOn again W args v W' := by
  have hlt : ∀ p ∈ before, p.block < W.heap.size := fun p hp => hW.lt p hp
  have hold : ∀ p ∈ before, (fun b => decide (b < W.heap.size)) p.block = true := fun p hp => by simpa using hlt p hp
  refine ⟨ds, gs, before, [], pa, pv, hW, hres _ _ _, hargs _ hold, hvars _ hold, World.keptBut_mono (fun p hp => ⟨hp, ?_⟩) (hb.frame (· ∈ before)), fun _ => ?_⟩
  · rw [hps, List.mem_append] at hp
    exact Or.inr hp
  · obtain ⟨_, _, _, _, _, hz, hn⟩ := hW
    refine ⟨hok, _, _, ([] ++ pa) ++ pv, ⟨[] ++ pa, pv, trodAll_append (hargs _ (fun _ _ => rfl)) (hres _ _ _), hvars _ (fun _ _ => rfl), rfl, ?_, ?_⟩, ?_⟩
    · intro b off hp
      have hin : MemPlace.cell b off ∈ before := by rw [hps]; simpa using hp
      rw [hb.frozen (hlt _ hin)]
      exact hz b off hin
    · intro ha
      have := hn ha
      rw [hps] at this
      simpa using this
    · intro p hp _
      rw [hps]
      simpa using hp
end

end Go.Proofs.YtkppbmfliejnmaaDoor

/- The argument of a law over bytes, opened. -/
namespace Go.Proofs.YtkppbmfliejnmaaDoor
open Go.ChangeShapes Go.WideShapes Go.ChangeAt Go.RowKit Go.Deep

variable {H : Type} {enc : TypeId × Value → H}
set_option maxRecDepth 100000 in
theorem open_bytesB {W : World} {sp : Nat → Bool} {held : Bool} {b0 : Nat} {v : Value} {d : DataW H} {p : List MemPlace} (hv : Value.okWide Tryd.prog W .any b0 22 v)
    (h : DataW.Trod enc Tryd.prog W 0 (fun _ => true) held 22 v d p) : ∃ xs, ArgB W v xs := by
  obtain ⟨a0, len, cap, rfl⟩ := okWide_slice Tryd.underlying22 hv
  obtain ⟨fuel, hf⟩ := h
  rcases open_ints Tryd.underlying22 Tryd.underlying5 cellsByte hf with ⟨hc, _⟩ | ⟨a, len', cap', zs, hc, _, hl, hm, hz, _, hcell, hwz⟩
  · obtain ⟨rfl, rfl, rfl⟩ : a0 = none ∧ len = 0 ∧ cap = 0 := by simpa [Value.cells] using hc
    exact ⟨[], none, 0, rfl, by simp, by simp, .inl rfl⟩
  · obtain ⟨rfl, rfl, rfl⟩ : a0 = some a ∧ len = len' ∧ cap = cap' := by simpa [Value.cells] using hc
    simp only [if_true] at hz
    have hll : (zs.take len).length = len := by rw [List.length_take]; omega
    have hm' := hm
    rw [maxLen_eq] at hm'
    refine ⟨zs.take len, some a, cap, by rw [hll], by rw [hll]; omega, fun x hx => ?_, ?_⟩
    · obtain ⟨j, hj, rfl⟩ := List.getElem_of_mem hx
      rw [hll] at hj
      have := range_u8 hwz j
      have hjz : j < zs.length := by omega
      simpa [hjz] using this
    · by_cases h0 : len = 0
      · subst h0; exact .inl (by simp)
      · have hs := spot_of (show W.cell? a = some _ from hcell 0 (by omega))
        refine .inr ⟨a.block, a.off, ?_, fun j u hu => ?_⟩
        · obtain ⟨b, o, s⟩ := a; simp only at hs; subst hs; rfl
        · have hj : j < len := by
            have := (List.getElem?_eq_some_iff.1 hu).1
            rw [List.length_map, hll] at this; exact this
          have h1 := cell_add (hcell j (by omega)) hs
          rw [h1]
          rw [List.getElem?_map, List.getElem?_take, if_pos hj] at hu
          rw [← hu]
          simp [List.getD, List.getElem?_eq_getElem (show j < zs.length by omega)]

end Go.Proofs.YtkppbmfliejnmaaDoor
