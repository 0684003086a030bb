/- Walk: the law FnComposedModels (printed by wip/mkQm.py). -/
import Derived.Test.YtmakhapdlkbbnaaDoorQmQ34
import Derived.Test.YtmakhapdlkbbnaaDoorQmQ38
import Derived.Test.YtmakhapdlkbbnaaDoorQmQ39
import Derived.Test.YtmakhapdlkbbnaaDoorQmQ40
import Derived.Test.YtmakhapdlkbbnaaDoorQmQ43
import Derived.Test.YtmakhapdlkbbnaaDoorQmQ44
import Derived.Test.YtmakhapdlkbbnaaDoorQmQ25
import Derived.Test.YtmakhapdlkbbnaaDoorQmQ41
namespace Go.Proofs.YtmakhapdlkbbnaaDoor
open Go.RowKit

theorem SG.dicedQ {w0 w w' : World} {db : Nat} {bs : List Int} (h : Dice w0 w db bs) (hg : w.grownBy w' (some db)) {base : Nat} {v : Value} {g : List (List Int)} (hs : SG w base v g) : SG w' base v g := by
  obtain ⟨u, vals, h1, h2, h3, h4⟩ := hs
  exact ⟨u, vals, h1, h2, ownsRow_diced h hg (by decide) h3, fun j hj => Sl.diced h hg (by decide) (h4 j hj)⟩
theorem dice_ltQ {w0 w : World} {db : Nat} {bs : List Int} (h : Dice w0 w db bs) : db < w.heap.size := by
  obtain ⟨_, _, _, h1, _⟩ := h.ex
  exact h1.lt
/-- No model with no sets. -/
theorem not_mdOk_nil {g q : List (List Int)} (hq : GOk q) : ¬ MdOk g q [] := fun h => by
  have h1 : ([] : List (List Int)).length = q.length := h.1.2
  have := hq.pos
  rw [List.length_nil] at h1
  omega

set_option maxRecDepth 100000 in
set_option maxHeartbeats 8000000 in
theorem lawComposedModels_any (v0 : Value) (bs : List Int) (W : World) (ha : ArgB W v0 bs) (hT : Tab W) :
    Calls Tryd.prog 7 #[v0] W fun e w' => e = .returned (.bool true) ∧ Below W.heap.size W w' := by
  obtain ⟨pa, ca, e0, _⟩ := id ha
  subst e0
  have HA := Lib.hid ha
  have HT := Lib.hid hT
  clear ha hT
  go_enter Tryd.func7, Tryd.ntmps7
  by_cases hbig : 4096 < bs.length
  · have hd := decide_eq_true hbig
    go_wp2_with (go_at_call 11; refine (big_any _ bs _ HA.out).mono ?_; rintro e w2 ⟨he, rfl⟩; rw [hd] at he; subst he)
    go_ret
    exact ⟨rfl, Below.refl _ _⟩
  have hd := decide_eq_false hbig
  have hl : bs.length ≤ 4096 := by omega
  clear hbig
  go_upto_region 4 with (first
    | (go_at_call 12; refine (roll_any _ bs _ hl _ HA.out).mono ?_; rintro e w2 ⟨db, rfl, hd2, hb2⟩; have HD2 := Lib.hid hd2; clear hd2 hb2)
    | (go_at_call 11; refine (big_any _ bs _ HA.out).mono ?_; rintro e w1 ⟨he, rfl⟩; rw [hd] at he; subst he))
  clear hd
  go_upto_region 5 with (go_at_call 24; refine (w9Graph_any W db bs 6 _ rfl (by decide) (by decide) _ HD2.out (dice_ltQ HD2.out)).mono ?_; rintro e w3 ⟨u, n, E, rfl, hn1, hn6, hse, hsg, hd3, hg3⟩; have HSE := Lib.hid hse; have HSG := Lib.hid hsg; have HDN := Lib.hid hd3; have HGN := Lib.hid hg3; obtain ⟨ga, gc, rfl⟩ := hsg.shape; clear hse hsg hd3 hg3)
  obtain ⟨g, hg⟩ : ∃ g, g = matG n E := ⟨_, rfl⟩
  have hlg : g.length = n := by rw [hg, matG_length]
  have HOKg : Hid (GOk g) := Lib.hid (by rw [hg]; exact gok_matG hn1 (by omega) HSE.out.1 HSE.out.2)
  rw [← hg] at HSG ⊢
  have hmg : g.length ≤ 6 := by omega
  have hpg := HOKg.out.pos
  obtain ⟨w4, hw⟩ : ∃ W', W' = w3.alloc (.cells #[.slice ga g.length gc] 29) := ⟨_, rfl⟩
  rw [← hw]
  have hba : Below w3.heap.size w3 w4 := by rw [hw]; exact below_alloc _ _
  have HXg : Hid (Box w4 w3.heap.size 29 (.slice ga g.length gc)) := Lib.hid (by rw [hw]; exact Box.new _ _ _)
  have HSg := Lib.hid (HSG.out.below hba)
  have HD4 := Lib.hid (HDN.out.keep hba)
  generalize w3.heap.size = bg at *
  clear hg hw hba HSG hn6 hlg hn1 HDN HGN HSE HD2
  go_upto_region 6 with (go_at_call 24; refine (w9Graph_any W db bs 4 _ rfl (by decide) (by decide) _ HD4.out (dice_ltQ HD4.out)).mono ?_; rintro e w5 ⟨u, n, E, rfl, hn1, hn6, hse, hsg, hd3, hg3⟩; have HSE := Lib.hid hse; have HSG := Lib.hid hsg; have HDN := Lib.hid hd3; have HGN := Lib.hid hg3; obtain ⟨pa, pc, rfl⟩ := hsg.shape; clear hse hsg hd3 hg3)
  obtain ⟨p, hp⟩ : ∃ p, p = matG n E := ⟨_, rfl⟩
  have hlp : p.length = n := by rw [hp, matG_length]
  have HOKp : Hid (GOk p) := Lib.hid (by rw [hp]; exact gok_matG hn1 (by omega) HSE.out.1 HSE.out.2)
  rw [← hp] at HSG ⊢
  have hmp : p.length ≤ 4 := by omega
  have hpp := HOKp.out.pos
  obtain ⟨w6, hw⟩ : ∃ W', W' = w5.alloc (.cells #[.slice pa p.length pc] 29) := ⟨_, rfl⟩
  rw [← hw]
  have hba : Below w5.heap.size w5 w6 := by rw [hw]; exact below_alloc _ _
  replace HXg := Lib.hid ((HXg.out.diced HD4.out HGN.out (by decide)).keep hba)
  replace HSg := Lib.hid ((HSg.out.dicedQ HD4.out HGN.out).below hba)
  have HXp : Hid (Box w6 w5.heap.size 29 (.slice pa p.length pc)) := Lib.hid (by rw [hw]; exact Box.new _ _ _)
  have HSp := Lib.hid (HSG.out.below hba)
  have HD6 := Lib.hid (HDN.out.keep hba)
  generalize w5.heap.size = bp at *
  clear hp hw hba HSG hn6 hlp hn1 HDN HGN HSE HD4
  go_upto_region 7 with (go_at_call 24; refine (w9Graph_any W db bs 3 _ rfl (by decide) (by decide) _ HD6.out (dice_ltQ HD6.out)).mono ?_; rintro e w7 ⟨u, n, E, rfl, hn1, hn6, hse, hsg, hd3, hg3⟩; have HSE := Lib.hid hse; have HSG := Lib.hid hsg; have HDN := Lib.hid hd3; have HGN := Lib.hid hg3; obtain ⟨qa, qc, rfl⟩ := hsg.shape; clear hse hsg hd3 hg3)
  obtain ⟨q, hq⟩ : ∃ q, q = matG n E := ⟨_, rfl⟩
  have hlq : q.length = n := by rw [hq, matG_length]
  have HOKq : Hid (GOk q) := Lib.hid (by rw [hq]; exact gok_matG hn1 (by omega) HSE.out.1 HSE.out.2)
  rw [← hq] at HSG ⊢
  have hmq : q.length ≤ 3 := by omega
  have hpq := HOKq.out.pos
  obtain ⟨w8, hw⟩ : ∃ W', W' = w7.alloc (.cells #[.slice qa q.length qc] 29) := ⟨_, rfl⟩
  rw [← hw]
  have hba : Below w7.heap.size w7 w8 := by rw [hw]; exact below_alloc _ _
  replace HXg := Lib.hid ((HXg.out.diced HD6.out HGN.out (by decide)).keep hba)
  replace HSg := Lib.hid ((HSg.out.dicedQ HD6.out HGN.out).below hba)
  replace HXp := Lib.hid ((HXp.out.diced HD6.out HGN.out (by decide)).keep hba)
  replace HSp := Lib.hid ((HSp.out.dicedQ HD6.out HGN.out).below hba)
  have HXq : Hid (Box w8 w7.heap.size 29 (.slice qa q.length qc)) := Lib.hid (by rw [hw]; exact Box.new _ _ _)
  have HSq := Lib.hid (HSG.out.below hba)
  have HD8 := Lib.hid (HDN.out.keep hba)
  generalize w7.heap.size = bq at *
  clear hq hw hba HSG hn6 hlq hn1 HDN HGN HSE HD6
  have HGg := Lib.hid (HSg.out.gr (by omega))
  have HGp := Lib.hid (HSp.out.gr (by omega))
  have HGq := Lib.hid (HSq.out.gr (by omega))
  have HW := Lib.hid HD8.out.bel
  have HTC := Lib.hid (HT.out.keep HW.out)
  clear HD8 HSg HSp HSq HT HA
  have cg := HXg.out.cell
  have cp := HXp.out.cell
  go_upto_region 8 with (go_at_call 42; refine (specMinorIn_any _ _ g p _ HGg.out HGp.out).mono ?_; rintro e w9 ⟨u, M, ok, rfl, hS, hsg, hM16, hMr, hb⟩; have HS9 := Lib.hid hS; obtain ⟨ma, mc, rfl⟩ := hsg.shape; clear hS)
  clear cg cp
  replace HXg := Lib.hid (HXg.out.keep hb)
  replace HXp := Lib.hid (HXp.out.keep hb)
  replace HXq := Lib.hid (HXq.out.keep hb)
  replace HGg := Lib.hid (HGg.out.below hb)
  replace HGp := Lib.hid (HGp.out.below hb)
  replace HGq := Lib.hid (HGq.out.below hb)
  replace HTC := Lib.hid (HTC.out.keep hb)
  replace HW := Lib.hid (HW.out.trans (hb.mono HW.out.size))
  obtain ⟨w10, hw⟩ : ∃ W', W' = w9.alloc (.cells #[.slice ma M.length mc] 54) := ⟨_, rfl⟩
  rw [← hw]
  have hba : Below w9.heap.size w9 w10 := by rw [hw]; exact below_alloc _ _
  replace HXg := Lib.hid (HXg.out.keep hba)
  replace HXp := Lib.hid (HXp.out.keep hba)
  replace HXq := Lib.hid (HXq.out.keep hba)
  replace HGg := Lib.hid (HGg.out.below hba)
  replace HGp := Lib.hid (HGp.out.below hba)
  replace HGq := Lib.hid (HGq.out.below hba)
  replace HTC := Lib.hid (HTC.out.keep hba)
  replace HW := Lib.hid (HW.out.trans (hba.mono HW.out.size))
  have HXm : Hid (Box w10 w9.heap.size 54 (.slice ma M.length mc)) := Lib.hid (by rw [hw]; exact Box.new _ _ _)
  have HGm := Lib.hid ((hsg.below hba).gr (by omega))
  clear hsg hb hMr
  generalize w9.heap.size = bm at *
  clear hw hba
  have cp := HXp.out.cell
  have cq := HXq.out.cell
  go_upto_region 9 with (go_at_call 42; refine (specMinorIn_any _ _ p q _ HGp.out HGq.out).mono ?_; rintro e w11 ⟨u, V, ok2, rfl, hS, hsg, hV16, hVr, hb⟩; have HS11 := Lib.hid hS; obtain ⟨va, vc, rfl⟩ := hsg.shape; clear hS)
  clear cp cq
  replace HXg := Lib.hid (HXg.out.keep hb)
  replace HXp := Lib.hid (HXp.out.keep hb)
  replace HXq := Lib.hid (HXq.out.keep hb)
  replace HGg := Lib.hid (HGg.out.below hb)
  replace HGp := Lib.hid (HGp.out.below hb)
  replace HGq := Lib.hid (HGq.out.below hb)
  replace HTC := Lib.hid (HTC.out.keep hb)
  replace HXm := Lib.hid (HXm.out.keep hb)
  replace HGm := Lib.hid (HGm.out.below hb)
  replace HW := Lib.hid (HW.out.trans (hb.mono HW.out.size))
  obtain ⟨w12, hw⟩ : ∃ W', W' = w11.alloc (.cells #[.slice va V.length vc] 54) := ⟨_, rfl⟩
  rw [← hw]
  have hba : Below w11.heap.size w11 w12 := by rw [hw]; exact below_alloc _ _
  replace HXg := Lib.hid (HXg.out.keep hba)
  replace HXp := Lib.hid (HXp.out.keep hba)
  replace HXq := Lib.hid (HXq.out.keep hba)
  replace HGg := Lib.hid (HGg.out.below hba)
  replace HGp := Lib.hid (HGp.out.below hba)
  replace HGq := Lib.hid (HGq.out.below hba)
  replace HTC := Lib.hid (HTC.out.keep hba)
  replace HXm := Lib.hid (HXm.out.keep hba)
  replace HGm := Lib.hid (HGm.out.below hba)
  replace HW := Lib.hid (HW.out.trans (hba.mono HW.out.size))
  have HXv : Hid (Box w12 w11.heap.size 54 (.slice va V.length vc)) := Lib.hid (by rw [hw]; exact Box.new _ _ _)
  have HGv := Lib.hid ((hsg.below hba).gr (by omega))
  clear hsg hb hVr
  generalize w11.heap.size = bv at *
  clear hw hba
  obtain ⟨wd, HF, HMS, rfl⟩ | ⟨rfl⟩ : (∃ wd, Hid (findN p.length (FitW p.length (ofG g) (ofG p)) g.length [] = some wd) ∧ Hid (M = setsW p.length wd) ∧ ok = true) ∨ ok = false := by
    rcases HS9.out with ⟨_, wd, h1, h2, h3⟩ | ⟨_, _, h3⟩
    · exact .inl ⟨wd, Lib.hid h1, Lib.hid h2, h3⟩
    · exact .inr h3
  case inr =>
    go_wp2
    go_ret
    exact ⟨rfl, HW.out⟩
  have hwl : wd.length = g.length := by
    obtain ⟨_, u, e, hu, _⟩ := findN_some _ _ _ HF.out
    rw [e, List.nil_append]; exact hu
  have HLE : Hid (∀ x ∈ wd, x ≤ p.length) := Lib.hid (by
    obtain ⟨_, u, e, _, hu⟩ := findN_some _ _ _ HF.out
    rw [e, List.nil_append]; exact hu)
  have HFI := Lib.hid (findN_some _ _ _ HF.out).1
  have HMD : Hid (MdOk g p M) := Lib.hid (by rw [HMS.out]; exact fit_mdOk HOKg.out HOKp.out hwl HFI.out)
  have HIN : Hid (p.length ∈ wd) := Lib.hid (by
    have := fitW_has HFI.out (p.length - 1) (by omega)
    rwa [show p.length - 1 + 1 = p.length by omega] at this)
  have HNE : Hid (∀ a, a < M.length → row M a ≠ []) := Lib.hid (fun a ha => by
    obtain ⟨x, hx⟩ := mdOk_some HMD.out ha
    exact List.ne_nil_of_mem hx)
  have HWL := Lib.hid hwl
  have HML := Lib.hid HMD.out.1.2
  obtain ⟨ml, hml⟩ : ∃ ml, ml = M.length := ⟨_, rfl⟩
  have HMLE := Lib.hid hml
  have hml1 : 1 ≤ ml := by rw [hml, HML.out]; exact hpp
  have hml4 : ml ≤ 4 := by rw [hml, HML.out]; exact hmp
  rw [← hml] at HXm HGm
  clear hwl HS9 hml hM16
  have cg := HXg.out.cell
  have cm := HXm.out.cell
  have HCM : Hid (Gr w12 (.agg #[.slice ma ml mc]) (setsW p.length wd)) := Lib.hid (by rw [← HMS.out]; exact HGm.out)
  go_upto_region 12 with (go_at_call 50; refine (implModelWord_word _ _ g p.length wd (by rw [← HMS.out]; exact HMD.out.1.1.1) HWL.out HLE.out _ HGg.out HCM.out HTC.out).mono ?_; rintro e w13 ⟨u, rfl, ho, hb⟩; obtain ⟨wa, wc2, rfl⟩ := owns_shapeE ho)
  have HNW : Hid (Nums w13 2 .i64 (.slice wa g.length wc2) (natInts wd)) := Lib.hid (Nums.of_owns ho (by rw [natInts_length]; exact HWL.out.symm) (by omega))
  clear HCM ho
  clear cg cm
  replace HXg := Lib.hid (HXg.out.keep hb)
  replace HXp := Lib.hid (HXp.out.keep hb)
  replace HXq := Lib.hid (HXq.out.keep hb)
  replace HGg := Lib.hid (HGg.out.below hb)
  replace HGp := Lib.hid (HGp.out.below hb)
  replace HGq := Lib.hid (HGq.out.below hb)
  replace HTC := Lib.hid (HTC.out.keep hb)
  replace HXm := Lib.hid (HXm.out.keep hb)
  replace HGm := Lib.hid (HGm.out.below hb)
  replace HXv := Lib.hid (HXv.out.keep hb)
  replace HGv := Lib.hid (HGv.out.below hb)
  replace HW := Lib.hid (HW.out.trans (hb.mono HW.out.size))
  clear hb
  go_upto_region 13 with (go_at_call 51; refine (implWordModel_word _ p.length wd (by rw [HWL.out]; exact hpg) (by rw [HWL.out]; omega) (by omega) HLE.out HIN.out _ HNW.out HTC.out).mono ?_; rintro e w14 ⟨u, rfl, hd, hb⟩; rw [← HMS.out] at hd; obtain ⟨ra, rc, rfl⟩ := hd.shape; rw [← HMLE.out])
  replace HXg := Lib.hid (HXg.out.keep hb)
  replace HXp := Lib.hid (HXp.out.keep hb)
  replace HXq := Lib.hid (HXq.out.keep hb)
  replace HGg := Lib.hid (HGg.out.below hb)
  replace HGp := Lib.hid (HGp.out.below hb)
  replace HGq := Lib.hid (HGq.out.below hb)
  replace HTC := Lib.hid (HTC.out.keep hb)
  replace HXm := Lib.hid (HXm.out.keep hb)
  replace HGm := Lib.hid (HGm.out.below hb)
  replace HXv := Lib.hid (HXv.out.keep hb)
  replace HGv := Lib.hid (HGv.out.below hb)
  replace HNW := Lib.hid (HNW.out.below hb)
  replace HW := Lib.hid (HW.out.trans (hb.mono HW.out.size))
  obtain ⟨w15, hw⟩ : ∃ W', W' = w14.alloc (.cells #[.slice ra ml rc] 54) := ⟨_, rfl⟩
  rw [← hw]
  have hba : Below w14.heap.size w14 w15 := by rw [hw]; exact below_alloc _ _
  replace HXg := Lib.hid (HXg.out.keep hba)
  replace HXp := Lib.hid (HXp.out.keep hba)
  replace HXq := Lib.hid (HXq.out.keep hba)
  replace HGg := Lib.hid (HGg.out.below hba)
  replace HGp := Lib.hid (HGp.out.below hba)
  replace HGq := Lib.hid (HGq.out.below hba)
  replace HTC := Lib.hid (HTC.out.keep hba)
  replace HXm := Lib.hid (HXm.out.keep hba)
  replace HGm := Lib.hid (HGm.out.below hba)
  replace HXv := Lib.hid (HXv.out.keep hba)
  replace HGv := Lib.hid (HGv.out.below hba)
  replace HNW := Lib.hid (HNW.out.below hba)
  replace HW := Lib.hid (HW.out.trans (hba.mono HW.out.size))
  have HXr : Hid (Box w15 w14.heap.size 54 (.slice ra ml rc)) := Lib.hid (by rw [hw]; exact Box.new _ _ _)
  have HROW : Hid (∀ j, (row M j).length ≤ 16) := Lib.hid (fun j => by rw [HMS.out]; exact row_setsW_leI (by rw [HWL.out]; omega))
  have HGr : Hid (Gr w15 (.agg #[.slice ra ml rc]) M) := Lib.hid (by
    have h := (hd.below hba).gr (by rw [← HMLE.out]; omega) (fun j _ => Nat.le_trans (HROW.out j) (by decide))
    rwa [← HMLE.out] at h)
  clear hd hb
  generalize w14.heap.size = br at *
  clear hw hba
  have cg := HXg.out.cell
  have cm := HXm.out.cell
  go_upto_region 14 with (go_at_call 52; refine (implQuotientBy_word _ _ g M HMD.out.1.1.1 (by rw [← HMLE.out]; exact hml1) HNE.out _ HGg.out HGm.out HTC.out).mono ?_; rintro e w16 ⟨u, rfl, hd, hb⟩; obtain ⟨xa, xc, rfl⟩ := hd.shape)
  clear cg cm
  have HQX : Hid (∀ v, v < p.length → ∀ y ∈ row p v, y ∈ row (matG M.length (jnE g M)) v) := Lib.hid (fun v hv y hy => quot_has HMD.out hv hy)
  have hXl : (matG M.length (jnE g M)).length = ml := by rw [matG_length]; exact HMLE.out.symm
  have HXR : Hid (∀ j, (row (matG M.length (jnE g M)) j).length ≤ 16) := Lib.hid (fun j => Nat.le_trans (matG_row_le j) (by rw [← HMLE.out]; omega))
  obtain ⟨X, hX⟩ : ∃ X, X = matG M.length (jnE g M) := ⟨_, rfl⟩
  rw [← hX] at hd hXl HQX HXR ⊢
  rw [hXl]
  replace HXg := Lib.hid (HXg.out.keep hb)
  replace HXp := Lib.hid (HXp.out.keep hb)
  replace HXq := Lib.hid (HXq.out.keep hb)
  replace HGg := Lib.hid (HGg.out.below hb)
  replace HGp := Lib.hid (HGp.out.below hb)
  replace HGq := Lib.hid (HGq.out.below hb)
  replace HTC := Lib.hid (HTC.out.keep hb)
  replace HXm := Lib.hid (HXm.out.keep hb)
  replace HGm := Lib.hid (HGm.out.below hb)
  replace HXv := Lib.hid (HXv.out.keep hb)
  replace HGv := Lib.hid (HGv.out.below hb)
  replace HNW := Lib.hid (HNW.out.below hb)
  replace HXr := Lib.hid (HXr.out.keep hb)
  replace HGr := Lib.hid (HGr.out.below hb)
  replace HW := Lib.hid (HW.out.trans (hb.mono HW.out.size))
  obtain ⟨w17, hw⟩ : ∃ W', W' = w16.alloc (.cells #[.slice xa ml xc] 29) := ⟨_, rfl⟩
  rw [← hw]
  have hba : Below w16.heap.size w16 w17 := by rw [hw]; exact below_alloc _ _
  replace HXg := Lib.hid (HXg.out.keep hba)
  replace HXp := Lib.hid (HXp.out.keep hba)
  replace HXq := Lib.hid (HXq.out.keep hba)
  replace HGg := Lib.hid (HGg.out.below hba)
  replace HGp := Lib.hid (HGp.out.below hba)
  replace HGq := Lib.hid (HGq.out.below hba)
  replace HTC := Lib.hid (HTC.out.keep hba)
  replace HXm := Lib.hid (HXm.out.keep hba)
  replace HGm := Lib.hid (HGm.out.below hba)
  replace HXv := Lib.hid (HXv.out.keep hba)
  replace HGv := Lib.hid (HGv.out.below hba)
  replace HNW := Lib.hid (HNW.out.below hba)
  replace HXr := Lib.hid (HXr.out.keep hba)
  replace HGr := Lib.hid (HGr.out.below hba)
  replace HW := Lib.hid (HW.out.trans (hba.mono HW.out.size))
  have HXx : Hid (Box w17 w16.heap.size 29 (.slice xa ml xc)) := Lib.hid (by rw [hw]; exact Box.new _ _ _)
  have HXL := Lib.hid hXl
  have HGx : Hid (Gr w17 (.agg #[.slice xa ml xc]) X) := Lib.hid (by
    have h := (hd.below hba).gr (by rw [HXL.out]; omega) (fun j _ => Nat.le_trans (HXR.out j) (by decide))
    rwa [HXL.out] at h)
  clear hd hb hX hXl
  generalize w16.heap.size = bx at *
  clear hw hba
  have cg := HXg.out.cell
  have cp := HXp.out.cell
  have cr := HXr.out.cell
  have cx := HXx.out.cell
  have HDM := Lib.hid (dec_true HMD.out)
  obtain ⟨pl, hpl⟩ : ∃ pl, pl = p.length := ⟨_, rfl⟩
  have hmp2 : ml = p.length := by rw [HMLE.out]; exact HML.out
  have HMPE := Lib.hid hmp2
  have hn1 : ((ml : Int) != (p.length : Int)) = false := by rw [hmp2]; simp
  have hn2 : (!((ml : Int) == (p.length : Int))) = false := by rw [hmp2]; simp
  clear hmp2 hpl
  go_upto_region 16 with (go_at_call 53; refine (specModelOk_any _ _ _ g p M (by omega) _ HGg.out HGp.out HGr.out).mono ?_; rintro e w18 ⟨he, hb⟩; rw [HDM.out] at he; subst he; have cp := hb.at' cp; have cx := hb.at' cx; have hbk := hb)
  clear cg cp cr cx
  replace HXg := Lib.hid (HXg.out.keep hbk)
  replace HXp := Lib.hid (HXp.out.keep hbk)
  replace HXq := Lib.hid (HXq.out.keep hbk)
  replace HGg := Lib.hid (HGg.out.below hbk)
  replace HGp := Lib.hid (HGp.out.below hbk)
  replace HGq := Lib.hid (HGq.out.below hbk)
  replace HTC := Lib.hid (HTC.out.keep hbk)
  replace HXm := Lib.hid (HXm.out.keep hbk)
  replace HGm := Lib.hid (HGm.out.below hbk)
  replace HXv := Lib.hid (HXv.out.keep hbk)
  replace HGv := Lib.hid (HGv.out.below hbk)
  replace HNW := Lib.hid (HNW.out.below hbk)
  replace HXr := Lib.hid (HXr.out.keep hbk)
  replace HGr := Lib.hid (HGr.out.below hbk)
  replace HXx := Lib.hid (HXx.out.keep hbk)
  replace HGx := Lib.hid (HGx.out.below hbk)
  replace HW := Lib.hid (HW.out.trans (hbk.mono HW.out.size))
  clear hbk hb hn1 hn2
  have HBS : Hid (Below w18.heap.size w18 w18) := Lib.hid (Below.refl _ _)
  go_wp2_with fail
  go_loopw [17] (fun iv wr => ∃ v : Nat, v ≤ p.length ∧ iv = .int .i64 v ∧ Below w18.heap.size w18 wr) (fun iv _ => p.length - (intOf iv).toNat)
  case atStart => exact ⟨0, Nat.zero_le _, rfl, HBS.out⟩
  case round =>
    obtain ⟨v, hv, rfl, hb⟩ := hrel
    have HB := Lib.hid hb
    have cp := (HXp.out.keep hb).cell
    obtain ⟨wo, rfl⟩ : ∃ wo, wo = wr := ⟨_, rfl⟩
    by_cases hlt : v < p.length
    · have HLR : Hid ((row p v).length ≤ 16) := Lib.hid (gok_rowsN HOKp.out v)
      clear hb
      go_wp2_with fail
      clear cp
      go_loopw [18] (fun kv wr => ∃ k : Nat, k ≤ (row p v).length ∧ kv = .int .i64 k ∧ Below w18.heap.size w18 wr) (fun kv _ => (row p v).length - (intOf kv).toNat)
      case atStart => exact ⟨0, Nat.zero_le _, rfl, HB.out⟩
      case round =>
        clear HB
        obtain ⟨k, hk, rfl, hb⟩ := hrel
        have HB := Lib.hid hb
        have cp := (HXp.out.keep hb).cell
        have cx := (HXx.out.keep hb).cell
        obtain ⟨_, eG, hRp⟩ := id (HGp.out.below hb)
        cases eG
        obtain ⟨rb, ro, rp, rc2, hlp, hcr, hnr⟩ := hRp.get hlt
        subst hlp
        replace hcr : wr.cell? _ = some (.slice rp (row p v).length rc2) := hcr
        replace hnr : Nums wr _ _ (.slice rp (row p v).length rc2) (row p v) := hnr
        have HNR := Lib.hid hnr
        have hrl := HLR.out
        by_cases hlk : k < (row p v).length
        · obtain ⟨_, eX, hRx⟩ := id (HGx.out.below hb)
          have hvX : v < X.length := by rw [HXL.out, HMPE.out]; exact hlt
          have eX2 : (.slice xa ml xc : Value) = .slice xa X.length xc := by rw [HXL.out]
          cases eX
          rw [eX2] at hRx
          obtain ⟨sb, so, sp, sc, hls, hcs, hns⟩ := hRx.get hvX
          subst hls
          replace hcs : wr.cell? _ = some (.slice sp (row X v).length sc) := hcs
          replace hns : Nums wr _ _ (.slice sp (row X v).length sc) (row X v) := hns
          obtain ⟨nb, no, rfl, hcn⟩ := hnr.get (k := k) hlk
          have hmem := HQX.out v hlt _ (List.getElem_mem hlk)
          have HDH := Lib.hid (dec_true hmem)
          have HNS := Lib.hid hns
          generalize (row p v)[k] = y at hcn hmem HDH
          obtain ⟨sl, hsl⟩ : ∃ sl, sl = (row X v).length := ⟨_, rfl⟩
          rw [← hsl] at hcs HNS
          obtain ⟨rl, hrl2⟩ : ∃ rl, rl = (row p v).length := ⟨_, rfl⟩
          have HRL := Lib.hid hrl2
          rw [← hrl2] at hcr hlk hk hrl ⊢
          have e0 : (0 : Int) ≤ (k : Int) := by omega
          have e1 : (k : Int) < (rl : Int) := by omega
          have e2 : (v : Int) < (ml : Int) := by have := HMPE.out; omega
          have e3 : (v : Int) < (p.length : Int) := by omega
          clear hRp hRx hnr hns hmem hsl hrl2 hvX eX2 hb HNR
          go_upto_region 22 with fail
          go_cut [119] (fun s wx => s = .bool false ∧ Below wr.heap.size wr wx)
          case first =>
            go_region_held3 (fun w' => w'.cell? ⟨bp, 0, none⟩ = some (.slice (some ⟨rb, ro, none⟩) p.length pc) ∧ w'.cell? ⟨bx, 0, none⟩ = some (.slice (some ⟨sb, so, none⟩) ml xc) ∧ w'.cell? ⟨rb, ro + v, none⟩ = some (.slice (some ⟨nb, no, none⟩) rl rc2) ∧ w'.cell? ⟨sb, so + v, none⟩ = some (.slice sp sl sc) ∧ w'.cell? ⟨nb, no + k, none⟩ = some (.int .i64 y))
              (first | exact ⟨cp, cx, hcr, hcs, hcn⟩ | go_keep | exact ⟨BWA.at' cp, BWA.at' cx, BWA.at' hcr, BWA.at' hcs, BWA.at' hcn⟩)
              (first | (go_at_call 32; refine (w9Has_any _ (row X v) _ _ (HNS.out.below (below_dN (Below.refl _ _) 1))).mono ?_; rintro e wa ⟨he, hwa⟩; rw [HDH.out] at he; subst he; have BWA : Below wr.heap.size wr wa := hwa ▸ below_dN (Below.refl _ _) 1; clear hwa))
            all_goals go_wp2
            all_goals go_meet
            all_goals exact ⟨rfl, BWA⟩
          case rest =>
          obtain ⟨rfl, hbz⟩ := hcut
          go_wp2
          go_roundw
          case rel => exact ⟨k + 1, by have := HRL.out; omega, by go_num, HB.out.trans (hbz.mono HB.out.size)⟩
          case measure => have := HRL.out; simp [intOf]; omega
        · obtain rfl : k = (row p v).length := by omega
          clear hRp hnr hb
          go_wp2
          go_roundw
          case rel => exact ⟨v + 1, by omega, by go_num, HB.out⟩
          case measure => simp [intOf]; omega
    · obtain rfl : v = p.length := by omega
      replace HXg := Lib.hid (HXg.out.keep hb)
      replace HXp := Lib.hid (HXp.out.keep hb)
      replace HXq := Lib.hid (HXq.out.keep hb)
      replace HGg := Lib.hid (HGg.out.below hb)
      replace HGp := Lib.hid (HGp.out.below hb)
      replace HGq := Lib.hid (HGq.out.below hb)
      replace HTC := Lib.hid (HTC.out.keep hb)
      replace HXm := Lib.hid (HXm.out.keep hb)
      replace HGm := Lib.hid (HGm.out.below hb)
      replace HXv := Lib.hid (HXv.out.keep hb)
      replace HGv := Lib.hid (HGv.out.below hb)
      replace HNW := Lib.hid (HNW.out.below hb)
      replace HXr := Lib.hid (HXr.out.keep hb)
      replace HGr := Lib.hid (HGr.out.below hb)
      replace HXx := Lib.hid (HXx.out.keep hb)
      replace HGx := Lib.hid (HGx.out.below hb)
      replace HW := Lib.hid (HW.out.trans (hb.mono HW.out.size))
      clear hb cp
      have cg := HXg.out.cell
      have cp := HXp.out.cell
      have cm := HXm.out.cell
      have cq := HXq.out.cell
      have cv := HXv.out.cell
      go_upto_region 25 with (go_at_call 54; refine (implComposedModel_any _ _ _ _ _ g p M q V (by omega) (by omega) _ HGg.out HGp.out HGm.out HGq.out HGv.out HTC.out).mono ?_; rintro e w20 ⟨u, R, ok3, rfl, hS, hdg, hR16, hRr, hb⟩; have HS20 := Lib.hid hS; obtain ⟨ya, yc, rfl⟩ := hdg.shape; clear hS)
      clear cg cp cm cq cv
      replace HXg := Lib.hid (HXg.out.keep hb)
      replace HXp := Lib.hid (HXp.out.keep hb)
      replace HXq := Lib.hid (HXq.out.keep hb)
      replace HGg := Lib.hid (HGg.out.below hb)
      replace HGp := Lib.hid (HGp.out.below hb)
      replace HGq := Lib.hid (HGq.out.below hb)
      replace HTC := Lib.hid (HTC.out.keep hb)
      replace HXm := Lib.hid (HXm.out.keep hb)
      replace HGm := Lib.hid (HGm.out.below hb)
      replace HXv := Lib.hid (HXv.out.keep hb)
      replace HGv := Lib.hid (HGv.out.below hb)
      replace HNW := Lib.hid (HNW.out.below hb)
      replace HXr := Lib.hid (HXr.out.keep hb)
      replace HGr := Lib.hid (HGr.out.below hb)
      replace HXx := Lib.hid (HXx.out.keep hb)
      replace HGx := Lib.hid (HGx.out.below hb)
      replace HW := Lib.hid (HW.out.trans (hb.mono HW.out.size))
      obtain ⟨w21, hw⟩ : ∃ W', W' = w20.alloc (.cells #[.slice ya R.length yc] 54) := ⟨_, rfl⟩
      rw [← hw]
      have hba : Below w20.heap.size w20 w21 := by rw [hw]; exact below_alloc _ _
      replace HXg := Lib.hid (HXg.out.keep hba)
      replace HXp := Lib.hid (HXp.out.keep hba)
      replace HXq := Lib.hid (HXq.out.keep hba)
      replace HGg := Lib.hid (HGg.out.below hba)
      replace HGp := Lib.hid (HGp.out.below hba)
      replace HGq := Lib.hid (HGq.out.below hba)
      replace HTC := Lib.hid (HTC.out.keep hba)
      replace HXm := Lib.hid (HXm.out.keep hba)
      replace HGm := Lib.hid (HGm.out.below hba)
      replace HXv := Lib.hid (HXv.out.keep hba)
      replace HGv := Lib.hid (HGv.out.below hba)
      replace HNW := Lib.hid (HNW.out.below hba)
      replace HXr := Lib.hid (HXr.out.keep hba)
      replace HGr := Lib.hid (HGr.out.below hba)
      replace HXx := Lib.hid (HXx.out.keep hba)
      replace HGx := Lib.hid (HGx.out.below hba)
      replace HW := Lib.hid (HW.out.trans (hba.mono HW.out.size))
      have HXz : Hid (Box w21 w20.heap.size 54 (.slice ya R.length yc)) := Lib.hid (by rw [hw]; exact Box.new _ _ _)
      have HGz := Lib.hid ((hdg.below hba).gr (by omega) (fun j _ => Nat.le_trans (hRr j) (by decide)))
      clear hdg hb hRr
      generalize w20.heap.size = bz at *
      clear hw hba
      rcases HS11.out with ⟨_, wd2, hf2, hV, rfl⟩ | ⟨_, hV, rfl⟩
      · have hwl2 : wd2.length = p.length := by
          obtain ⟨_, u, e, hu, _⟩ := findN_some _ _ _ hf2
          rw [e, List.nil_append]; exact hu
        have hmd2 : MdOk p q V := by rw [hV]; exact fit_mdOk HOKp.out HOKq.out hwl2 (findN_some _ _ _ hf2).1
        obtain ⟨hcs, rfl⟩ : CmpS M V R ∧ ok3 = true := by
          rcases HS20.out with ⟨_, _, h3, h4⟩ | ⟨h1, _⟩
          · exact ⟨h3, h4⟩
          · exact absurd ⟨HMD.out, hmd2⟩ h1
        have HDR := Lib.hid (dec_true (mdOk_comp HMD.out hmd2 hcs))
        have hcg := HXg.out.cell
        have hcq := HXq.out.cell
        have hcy := HXz.out.cell
        clear hf2 hV hwl2 hmd2 hcs
        go_wp2_with (first
          | (go_at_call 55; refine (implModelOk_any _ _ _ g q R (by omega) _ (HGg.out.below hb1) (HGq.out.below hb1) (HGz.out.below hb1) (HTC.out.keep hb1)).mono ?_; rintro e w23 ⟨he, hb2⟩; rw [HDR.out] at he; subst he)
          | (go_at_call 53; refine (specModelOk_any _ _ _ g q R (by omega) _ HGg.out HGq.out HGz.out).mono ?_; rintro e w22 ⟨he, hb1⟩; rw [HDR.out] at he; subst he; have hcg := hb1.at' hcg; have hcq := hb1.at' hcq; have hcy := hb1.at' hcy))
        go_ret
        exact ⟨rfl, (HW.out.trans (hb1.mono HW.out.size)).trans (hb2.mono (Nat.le_trans HW.out.size hb1.size))⟩
      · obtain rfl : ok3 = false := by
          rcases HS20.out with ⟨_, h2, _, _⟩ | ⟨_, _, h4⟩
          · rw [hV] at h2
            exact absurd h2 (not_mdOk_nil HOKq.out)
          · exact h4
        clear hV
        go_wp2_with fail
        go_ret
        exact ⟨rfl, HW.out⟩

end Go.Proofs.YtmakhapdlkbbnaaDoor

/- The argument of a law over bytes, opened. -/
namespace Go.Proofs.YtmakhapdlkbbnaaDoor
open Go.ChangeShapes Go.WideShapes Go.ChangeAt Go.RowKit Go.Deep

variable {H : Type} {enc : TypeId × Value → H}
set_option maxRecDepth 100000 in
theorem open_bytesB {W : World} {sp : Nat → Bool} {held : Bool} {b0 : Nat} {v : Value} {d : DataW H} {p : List MemPlace} (hv : Value.okWide Tryd.prog W .any b0 22 v)
    (h : DataW.Trod enc Tryd.prog W 0 (fun _ => true) held 22 v d p) : ∃ xs, ArgB W v xs := by
  obtain ⟨a0, len, cap, rfl⟩ := okWide_slice Tryd.underlying22 hv
  obtain ⟨fuel, hf⟩ := h
  rcases open_ints Tryd.underlying22 Tryd.underlying5 cellsByte hf with ⟨hc, _⟩ | ⟨a, len', cap', zs, hc, _, hl, hm, hz, _, hcell, hwz⟩
  · obtain ⟨rfl, rfl, rfl⟩ : a0 = none ∧ len = 0 ∧ cap = 0 := by simpa [Value.cells] using hc
    exact ⟨[], none, 0, rfl, by simp, by simp, .inl rfl⟩
  · obtain ⟨rfl, rfl, rfl⟩ : a0 = some a ∧ len = len' ∧ cap = cap' := by simpa [Value.cells] using hc
    simp only [if_true] at hz
    have hll : (zs.take len).length = len := by rw [List.length_take]; omega
    have hm' := hm
    rw [maxLen_eq] at hm'
    refine ⟨zs.take len, some a, cap, by rw [hll], by rw [hll]; omega, fun x hx => ?_, ?_⟩
    · obtain ⟨j, hj, rfl⟩ := List.getElem_of_mem hx
      rw [hll] at hj
      have := range_u8 hwz j
      have hjz : j < zs.length := by omega
      simpa [hjz] using this
    · by_cases h0 : len = 0
      · subst h0; exact .inl (by simp)
      · have hs := spot_of (show W.cell? a = some _ from hcell 0 (by omega))
        refine .inr ⟨a.block, a.off, ?_, fun j u hu => ?_⟩
        · obtain ⟨b, o, s⟩ := a; simp only at hs; subst hs; rfl
        · have hj : j < len := by
            have := (List.getElem?_eq_some_iff.1 hu).1
            rw [List.length_map, hll] at this; exact this
          have h1 := cell_add (hcell j (by omega)) hs
          rw [h1]
          rw [List.getElem?_map, List.getElem?_take, if_pos hj] at hu
          rw [← hu]
          simp [List.getD, List.getElem?_eq_getElem (show j < zs.length by omega)]

end Go.Proofs.YtmakhapdlkbbnaaDoor
