/- Walk: the law FnMade (printed by wip/mkMaL.py). -/
import Derived.Test.YtkppbmfliejnmaaDoorMcQ34
import Derived.Test.YtkppbmfliejnmaaDoorMcQ40
import Derived.Test.YtkppbmfliejnmaaDoorMcQ42
import Derived.Test.YtkppbmfliejnmaaDoorMcQ43
import Derived.Test.YtkppbmfliejnmaaDoorMcQ17
namespace Go.Proofs.YtkppbmfliejnmaaDoor
open Go.RowKit

theorem pthM_ok {m : Nat} (h1 : 1 ≤ m) (h16 : m ≤ 16) : GOk (matG m pthM) := gok_matG h1 h16 (fun r j h => by simp only [pthM, Bool.or_eq_true, beq_iff_eq] at h ⊢; omega) (fun r => by simp [pthM])
theorem lopE_ok {n : Nat} (h3 : 3 ≤ n) (h16 : n ≤ 16) : GOk (matG n (lopE n)) := gok_matG (by omega) h16 (fun r j h => by simp only [lopE, Bool.or_eq_true, Bool.and_eq_true, beq_iff_eq] at h ⊢; omega) (fun r => by
  rw [Bool.eq_false_iff]
  intro h
  simp only [lopE, Bool.or_eq_true, Bool.and_eq_true, beq_iff_eq] at h
  omega)
theorem strE_ok {m : Nat} (h1 : 1 ≤ m) (h16 : m ≤ 16) : GOk (matG m strE) := gok_matG h1 h16 (fun r j h => by simp only [strE, bne_iff_ne] at h ⊢; exact fun e => h e.symm) (fun r => by simp [strE])
theorem sidE_ok {m a : Nat} (h1 : 1 ≤ m) (h16 : m ≤ 16) : GOk (matG m (sidE a)) := gok_matG h1 h16 (fun r j h => by simp only [sidE, bne_iff_ne] at h ⊢; exact fun e => h e.symm) (fun r => by simp [sidE])
theorem whlE_ok {m n : Nat} (h3 : 3 ≤ n) (h1 : 1 ≤ m) (h16 : m ≤ 16) : GOk (matG m (whlE n)) := gok_matG h1 h16 (fun r j h => by simp only [whlE, lopE, Bool.or_eq_true, Bool.and_eq_true, beq_iff_eq, decide_eq_true_eq] at h ⊢; omega) (fun r => by
  rw [Bool.eq_false_iff]
  intro h
  simp only [whlE, lopE, Bool.or_eq_true, Bool.and_eq_true, beq_iff_eq, decide_eq_true_eq] at h
  omega)
theorem grdE_ok {m b : Nat} (hb : 1 ≤ b) (h1 : 1 ≤ m) (h16 : m ≤ 16) : GOk (matG m (grdE b)) := gok_matG h1 h16 (fun r j h => by
  simp only [grdE, Bool.or_eq_true, Bool.and_eq_true, beq_iff_eq] at h ⊢
  rcases h with ((h | h) | h) | h
  · exact .inl (.inl (.inr h))
  · exact .inl (.inl (.inl h))
  · exact .inr h
  · exact .inl (.inr h)) (fun r => by
  rw [Bool.eq_false_iff]
  intro h
  simp only [grdE, Bool.or_eq_true, Bool.and_eq_true, beq_iff_eq] at h
  omega)
theorem fulE_ok {m : Nat} (h1 : 1 ≤ m) (h16 : m ≤ 16) : GOk (matG m (compE fun _ _ => false)) := gok_matG h1 h16 (comp_sym fun _ _ h => by cases h) (comp_irr _)

set_option maxRecDepth 100000 in
set_option maxHeartbeats 8000000 in
theorem lawMade_any (v0 : Value) (bs : List Int) (W : World) (ha : ArgB W v0 bs) (hT : Tab W) :
    Calls Tryd.prog 7 #[v0] W fun e w' => e = .returned (.bool true) ∧ Below W.heap.size W w' := by
  obtain ⟨p, c, e0, _⟩ := id ha
  subst e0
  have HA := Lib.hid ha
  have HT := Lib.hid hT
  clear ha hT
  go_enter Tryd.func7, Tryd.ntmps7
  by_cases hbig : 4096 < bs.length
  · have hd := decide_eq_true hbig
    go_wp2_with (go_at_call 11; refine (big_any _ bs _ HA.out).mono ?_; rintro e w2 ⟨he, rfl⟩; rw [hd] at he; subst he)
    go_ret
    exact ⟨rfl, Below.refl _ _⟩
  have hd := decide_eq_false hbig
  have hl : bs.length ≤ 4096 := by omega
  clear hbig
  go_upto_region 7 with (first
    | (have X4 := HD4; go_at_call 28; refine (below_any W db bs 4 _ rfl (by decide) (by decide) _ HD4.out).mono ?_; rintro e w5 ⟨r3, rfl, hr3, hd5, hg5⟩; have HD5 := Lib.hid hd5; obtain ⟨b, hb⟩ : ∃ b : Nat, b = r3 + 1 := ⟨_, rfl⟩; have hbr : (1 : Int) + (r3 : Int) = (b : Int) := (by omega); have hb1 : 1 ≤ b := (by omega); have hb4 : b ≤ 4 := (by omega); clear hd5 hg5 hb hr3)
    | (have X3 := HD3; go_at_call 28; refine (below_any W db bs 4 _ rfl (by decide) (by decide) _ HD3.out).mono ?_; rintro e w4 ⟨r2, rfl, hr2, hd4, hg4⟩; have HD4 := Lib.hid hd4; obtain ⟨a, ha⟩ : ∃ a : Nat, a = r2 + 1 := ⟨_, rfl⟩; have har : (1 : Int) + (r2 : Int) = (a : Int) := (by omega); have ha1 : 1 ≤ a := (by omega); have ha4 : a ≤ 4 := (by omega); clear hd4 hg4 ha hr2)
    | (go_at_call 28; refine (below_any W db bs 5 _ rfl (by decide) (by decide) _ HD2.out).mono ?_; rintro e w3 ⟨r1, rfl, hr1, hd3, hg3⟩; have HD3 := Lib.hid hd3; obtain ⟨n, hn⟩ : ∃ n : Nat, n = r1 + 3 := ⟨_, rfl⟩; have hnr : (3 : Int) + (r1 : Int) = (n : Int) := (by omega); have hn3 : 3 ≤ n := (by omega); have hn7 : n ≤ 7 := (by omega); clear hd3 hg3 hn hr1)
    | (go_at_call 12; refine (roll_any _ bs _ hl _ HA.out).mono ?_; rintro e w2 ⟨db, rfl, hd2, hb2⟩; have HD2 := Lib.hid hd2; clear hd2 hb2)
    | (go_at_call 11; refine (big_any _ bs _ HA.out).mono ?_; rintro e w1 ⟨he, rfl⟩; rw [hd] at he; subst he))
  have HW := Lib.hid HD5.out.bel
  have HTz := Lib.hid (HT.out.keep HW.out)
  clear HD2 HD3 HD4 HD5 hnr har hbr hd HA HT
  have hmem : n ∈ [3, 4, 5, 6, 7] := by simp; omega
  have hma : a ∈ [1, 2, 3, 4] := by simp; omega
  have hmb : b ∈ [1, 2, 3, 4] := by simp; omega
  have hcN := List.all_eq_true.1 chkN_all n hmem
  have hcS := List.all_eq_true.1 chkS_all n hmem
  have hcA := List.all_eq_true.1 (List.all_eq_true.1 chkA_all a hma) b hmb
  simp only [chkN, chkS, chkA, Bool.and_eq_true, decide_eq_true_eq] at hcN hcS hcA
  obtain ⟨⟨⟨⟨⟨⟨⟨⟨⟨⟨N1, N2⟩, N3⟩, N4⟩, N5⟩, N6⟩, N7⟩, N8⟩, N9⟩, N10⟩, N11⟩ := hcN
  obtain ⟨S1, S2⟩ := hcS
  obtain ⟨⟨⟨⟨⟨A1, A2⟩, A3⟩, A4⟩, A5⟩, A6⟩ := hcA
  obtain ⟨m, hm⟩ : ∃ m, m = n + 1 := ⟨_, rfl⟩
  obtain ⟨s, hs⟩ : ∃ s, s = a + b := ⟨_, rfl⟩
  obtain ⟨q, hq⟩ : ∃ q, q = a * b := ⟨_, rfl⟩
  have hq16 : q ≤ 16 := by rw [hq]; exact Nat.mul_le_mul ha4 hb4
  have hq1 : 1 ≤ q := by rw [hq]; exact Nat.mul_pos ha1 hb1
  obtain ⟨gp, hgp⟩ : ∃ g, g = matG n pthM := ⟨_, rfl⟩
  obtain ⟨gl, hgl⟩ : ∃ g, g = matG n (lopE n) := ⟨_, rfl⟩
  obtain ⟨gf, hgf⟩ : ∃ g, g = matG n (compE fun _ _ => false) := ⟨_, rfl⟩
  obtain ⟨gs, hgs⟩ : ∃ g, g = matG s (sidE a) := ⟨_, rfl⟩
  obtain ⟨gg, hgg⟩ : ∃ g, g = matG q (grdE b) := ⟨_, rfl⟩
  obtain ⟨gw, hgw⟩ : ∃ g, g = matG m (whlE n) := ⟨_, rfl⟩
  obtain ⟨gt, hgt⟩ : ∃ g, g = matG m strE := ⟨_, rfl⟩
  have OKP : Hid (GOk gp) := Lib.hid (by rw [hgp]; exact pthM_ok (by omega) (by omega))
  have OKL : Hid (GOk gl) := Lib.hid (by rw [hgl]; exact lopE_ok hn3 (by omega))
  have OKF : Hid (GOk gf) := Lib.hid (by rw [hgf]; exact fulE_ok (by omega) (by omega))
  have OKS : Hid (GOk gs) := Lib.hid (by rw [hgs]; exact sidE_ok (by omega) (by omega))
  have OKG : Hid (GOk gg) := Lib.hid (by rw [hgg]; exact grdE_ok hb1 hq1 hq16)
  have OKW : Hid (GOk gw) := Lib.hid (by rw [hgw]; exact whlE_ok hn3 (by omega) (by omega))
  have OKT : Hid (GOk gt) := Lib.hid (by rw [hgt]; exact strE_ok (by omega) (by omega))
  have lp : gp.length = n := by rw [hgp, matG_length]
  have ll : gl.length = n := by rw [hgl, matG_length]
  have lf : gf.length = n := by rw [hgf, matG_length]
  have ls : gs.length = s := by rw [hgs, matG_length]
  have lg : gg.length = q := by rw [hgg, matG_length]
  have lw : gw.length = m := by rw [hgw, matG_length]
  have lt : gt.length = m := by rw [hgt, matG_length]
  have many : ∀ (g : List (List Int)) (k : Nat), GOk g → cntE g g.length = k → ∀ wz v, Gr wz v g → Calls Tryd.prog 56 #[v] wz fun e w' => e = .returned (.int .i64 (k : Int)) ∧ Below wz.heap.size wz w' := fun g k hok hk wz v hz => by
    have := specManyN_any v g hok wz hz
    rw [hk] at this
    exact this
  have grOf : ∀ {wz : World} {base : Nat} {v : Value} {g : List (List Int)}, GOk g → DG wz base v g → Gr wz v g := fun {wz base v g} hok hd => hd.gr (by have := hok.le; omega) (fun j _ => Nat.le_trans (gok_rowsN hok j) (by decide))
  obtain ⟨nm, hnm⟩ : ∃ nm, nm = n - 1 := ⟨_, rfl⟩
  obtain ⟨bm, hbm⟩ : ∃ bm, bm = b - 1 := ⟨_, rfl⟩
  obtain ⟨am, ham⟩ : ∃ am, am = a - 1 := ⟨_, rfl⟩
  obtain ⟨fq, hfq⟩ : ∃ fq, fq = n * nm := ⟨_, rfl⟩
  obtain ⟨x1, hx1⟩ : ∃ x1, x1 = a * bm := ⟨_, rfl⟩
  obtain ⟨x2, hx2⟩ : ∃ x2, x2 = b * am := ⟨_, rfl⟩
  obtain ⟨n2, hn2⟩ : ∃ n2, n2 = 2 * n := ⟨_, rfl⟩
  obtain ⟨fh, hfh⟩ : ∃ fh, fh = fq / 2 := ⟨_, rfl⟩
  have wnm : IntKind.i64.wrap ((n : Int) - 1) = (nm : Int) := by rw [IntKind.wrap_i64]; omega
  have wbm : IntKind.i64.wrap ((b : Int) - 1) = (bm : Int) := by rw [IntKind.wrap_i64]; omega
  have wam : IntKind.i64.wrap ((a : Int) - 1) = (am : Int) := by rw [IntKind.wrap_i64]; omega
  have mfq : (n : Int) * (nm : Int) = (fq : Int) := by rw [hfq]; exact (Int.natCast_mul n nm).symm
  have mx1 : (a : Int) * (bm : Int) = (x1 : Int) := by rw [hx1]; exact (Int.natCast_mul a bm).symm
  have mx2 : (b : Int) * (am : Int) = (x2 : Int) := by rw [hx2]; exact (Int.natCast_mul b am).symm
  have mq : (a : Int) * (b : Int) = (q : Int) := by rw [hq]; exact (Int.natCast_mul a b).symm
  have mn2 : (2 : Int) * (n : Int) = (n2 : Int) := by omega
  have dfh : Int.tdiv (fq : Int) 2 = (fh : Int) := by rw [hfh]; rfl
  have bfq : fq ≤ 42 := by rw [hfq]; exact Nat.mul_le_mul (show n ≤ 7 from hn7) (show nm ≤ 6 by omega)
  have bx1 : x1 ≤ 12 := by rw [hx1]; exact Nat.mul_le_mul (show a ≤ 4 from ha4) (show bm ≤ 3 by omega)
  have bx2 : x2 ≤ 12 := by rw [hx2]; exact Nat.mul_le_mul (show b ≤ 4 from hb4) (show am ≤ 3 by omega)
  have bfh : fh ≤ 21 := by omega
  have MP := Lib.hid (many gp nm OKP.out (by rw [lp, hgp, hnm]; exact N6))
  have ML := Lib.hid (many gl n OKL.out (by rw [ll, hgl]; exact N7))
  have MF := Lib.hid (many gf fh OKF.out (by rw [lf, hgf, hfh, hfq, hnm]; exact N8))
  have MS := Lib.hid (many gs q OKS.out (by rw [ls, hgs, hs, hq]; exact A3))
  have MG := Lib.hid (many gg (x1 + x2) OKG.out (by rw [lg, hgg, hq, hx1, hx2, hbm, ham]; exact A4))
  have MW := Lib.hid (many gw n2 OKW.out (by rw [lw, hgw, hm, hn2]; exact N9))
  have MT := Lib.hid (many gt n OKT.out (by rw [lt, hgt, hm]; exact N10))
  have SYL : Hid (∀ wz v, Gr wz v gl → Tab wz → Calls Tryd.prog 59 #[v] wz fun e w' => e = .returned (.int .i64 (n2 : Int)) ∧ Below wz.heap.size wz w') := Lib.hid fun wz v hz ht => by
    have := implSymmetries_yes v gl wz hz OKL.out (by omega) ht
    rw [ll, hgl, S1, ← hn2] at this
    exact this
  have SYP : Hid (∀ wz v, Gr wz v gp → Tab wz → Calls Tryd.prog 59 #[v] wz fun e w' => e = .returned (.int .i64 2) ∧ Below wz.heap.size wz w') := Lib.hid fun wz v hz ht => by
    have := implSymmetries_yes v gp wz hz OKP.out (by omega) ht
    rw [lp, hgp, S2] at this
    exact this
  have SID : Hid (∀ wz v, Gr wz v gg → Calls Tryd.prog 57 #[v] wz fun e w' => ∃ u, e = .returned (.tuple #[u, .bool true]) ∧ Below wz.heap.size wz w') := Lib.hid fun wz v hz =>
    specSides_yes v gg OKG.out (by rw [lg]; exact parts_oneM hq1 (by rw [hgg, hq]; exact A5)) (grdC b) (by rw [lg]; exact colB_ok (by rw [hgg, hq]; exact A6)) wz hz
  have CUT : Hid (∀ wz v, Gr wz v gw → Calls Tryd.prog 58 #[v, .int .i64 (n : Int)] wz fun e w' => ∃ xp xc, e = .returned (.tuple #[.agg #[.slice xp n xc], .bool true]) ∧ Gr w' (.agg #[.slice xp n xc]) gl ∧ Below wz.heap.size wz w') := Lib.hid fun wz v hz => by
    refine (specCutVertex_yes v gw _ n rfl OKW.out (by omega) (by omega) wz hz).mono ?_
    rintro e w' ⟨u, rfl, hsg, hb⟩
    rw [lw, hgw, hm, N5, ← hgl] at hsg
    have hgr := hsg.gr (by omega)
    obtain ⟨xp, xc, rfl⟩ := hsg.shape
    rw [ll] at hgr ⊢
    exact ⟨xp, xc, rfl, hgr, hb⟩
  have SAM : Hid (∀ wz u v, Gr wz u gl → Gr wz v gl → Calls Tryd.prog 60 #[u, v] wz fun e w' => e = .returned (.bool true) ∧ Below wz.heap.size wz w') := Lib.hid fun wz u v hu hv => by
    have := specSameGraph_any u v gl gl wz hu hv
    rw [dec_true ⟨OKL.out, OKL.out, rfl⟩] at this
    exact this
  have PAR : Hid (∀ wz v, Gr wz v gt → Calls Tryd.prog 61 #[v] wz fun e w' => ∃ ob oc, e = .returned (.slice (some ⟨ob, 0, none⟩) 1 oc) ∧ Below wz.heap.size wz w') := Lib.hid fun wz v hz => by
    refine (specPartsO_yes v gt OKT.out wz hz).mono ?_
    rintro e w' ⟨u, ps, rfl, hp, ⟨vals, h1, h2, h3⟩, hb⟩
    rw [lt] at hp
    obtain rfl := parts_det hp (parts_oneM (by omega) (by rw [hgt, hm]; exact N11))
    obtain ⟨ob, oc, rfl⟩ := own_shapeC h2 (by simp)
    exact ⟨ob, oc, rfl, hb⟩
  have PATH : Hid (∀ wz, Tab wz → Calls Tryd.prog 49 #[.int .i64 (n : Int)] wz fun e w' => ∃ p c, e = .returned (.tuple #[.agg #[.slice p n c], .bool true]) ∧ Gr w' (.agg #[.slice p n c]) gp ∧ Below wz.heap.size wz w') := Lib.hid fun wz ht => by
    refine (implPath_yes n (by omega) (by omega) wz ht).mono ?_
    rintro e w' ⟨p, c, rfl, hd, hb⟩
    rw [N1, ← hgp] at hd
    exact ⟨p, c, rfl, grOf OKP.out hd, hb⟩
  have LOOP : Hid (∀ wz, Tab wz → Calls Tryd.prog 50 #[.int .i64 (n : Int)] wz fun e w' => ∃ p c, e = .returned (.tuple #[.agg #[.slice p n c], .bool true]) ∧ Gr w' (.agg #[.slice p n c]) gl ∧ Below wz.heap.size wz w') := Lib.hid fun wz ht => by
    refine (implLoop_yes n hn3 (by omega) wz ht).mono ?_
    rintro e w' ⟨p, c, rfl, hd, hb⟩
    rw [N2, ← hgl] at hd
    exact ⟨p, c, rfl, grOf OKL.out hd, hb⟩
  have FULL : Hid (∀ wz, Tab wz → Calls Tryd.prog 51 #[.int .i64 (n : Int)] wz fun e w' => ∃ p c, e = .returned (.tuple #[.agg #[.slice p n c], .bool true]) ∧ Gr w' (.agg #[.slice p n c]) gf ∧ Below wz.heap.size wz w') := Lib.hid fun wz ht => by
    refine (implFull_yes n (by omega) (by omega) wz ht).mono ?_
    rintro e w' ⟨p, c, rfl, hd, hb⟩
    rw [← hgf] at hd
    exact ⟨p, c, rfl, grOf OKF.out hd, hb⟩
  have SIDED : Hid (∀ wz, Tab wz → Calls Tryd.prog 52 #[.int .i64 (a : Int), .int .i64 (b : Int)] wz fun e w' => ∃ p c, e = .returned (.tuple #[.agg #[.slice p s c], .bool true]) ∧ Gr w' (.agg #[.slice p s c]) gs ∧ Below wz.heap.size wz w') := Lib.hid fun wz ht => by
    refine (implSided_yes a b s ha1 hb1 hs (by omega) wz ht).mono ?_
    rintro e w' ⟨p, c, rfl, hd, hb⟩
    rw [A1, ← hs, ← hgs] at hd
    exact ⟨p, c, rfl, grOf OKS.out hd, hb⟩
  have GRID : Hid (∀ wz, Tab wz → Calls Tryd.prog 53 #[.int .i64 (a : Int), .int .i64 (b : Int)] wz fun e w' => ∃ p c, e = .returned (.tuple #[.agg #[.slice p q c], .bool true]) ∧ Gr w' (.agg #[.slice p q c]) gg ∧ Below wz.heap.size wz w') := Lib.hid fun wz ht => by
    refine (implGrid_yes a b q ha1 hb1 hq hq16 (by omega) (by omega) wz ht).mono ?_
    rintro e w' ⟨p, c, rfl, hd, hb⟩
    rw [A2, ← hq, ← hgg] at hd
    exact ⟨p, c, rfl, grOf OKG.out hd, hb⟩
  have WHEEL : Hid (∀ wz, Tab wz → Calls Tryd.prog 54 #[.int .i64 (n : Int)] wz fun e w' => ∃ p c, e = .returned (.tuple #[.agg #[.slice p m c], .bool true]) ∧ Gr w' (.agg #[.slice p m c]) gw ∧ Below wz.heap.size wz w') := Lib.hid fun wz ht => by
    refine (implWheel_yes n m hn3 (by omega) hm gl (by rw [hgl, N2]) ll OKL.out wz ht).mono ?_
    rintro e w' ⟨p, c, rfl, hd, hb⟩
    rw [hgl, N4, ← hm, ← hgw] at hd
    exact ⟨p, c, rfl, grOf OKW.out hd, hb⟩
  have STAR : Hid (∀ wz, Tab wz → Calls Tryd.prog 55 #[.int .i64 (n : Int)] wz fun e w' => ∃ p c, e = .returned (.tuple #[.agg #[.slice p m c], .bool true]) ∧ Gr w' (.agg #[.slice p m c]) gt ∧ Below wz.heap.size wz w') := Lib.hid fun wz ht => by
    refine (implStar_yes n m (by omega) (by omega) hm wz ht).mono ?_
    rintro e w' ⟨p, c, rfl, hd, hb⟩
    rw [hm, N3, ← hm, ← hgt] at hd
    exact ⟨p, c, rfl, grOf OKT.out hd, hb⟩
  clear N1 N2 N3 N4 N5 N6 N7 N8 N9 N10 N11 S1 S2 A1 A2 A3 A4 A5 A6 hmem hma hmb hm hs hq hgp hgl hgf hgs hgg hgw hgt lp ll lf ls lg lw lt many grOf hnm hbm ham hfq hx1 hx2 hn2 hfh OKP OKL OKF OKS OKG OKW OKT
  go_upto_region 8 with (go_at_call 49; refine (PATH.out _ HTz.out).mono ?_; rintro e wap ⟨pp, cp, rfl, hgp, hbp⟩)
  obtain ⟨wbp, hwbp⟩ : ∃ z, z = wap.alloc (.cells #[.slice pp n cp] 29) := ⟨_, rfl⟩
  rw [← hwbp]
  have hbbp : Below w5.heap.size w5 wbp := by rw [hwbp]; exact hbp.alloc hbp.size _
  have HXp : Hid (Box wbp wap.heap.size 29 (.slice pp n cp)) := Lib.hid (by rw [hwbp]; exact Box.new _ _ _)
  have HGp : Hid (Gr wbp (.agg #[.slice pp n cp]) gp) := Lib.hid (hgp.below (by rw [hwbp]; exact below_alloc _ _))
  obtain ⟨bp, hbxp⟩ : ∃ z, z = wap.heap.size := ⟨_, rfl⟩
  rw [← hbxp] at HXp ⊢
  have HTp := Lib.hid (HTz.out.keep hbbp)
  have HWp := Lib.hid (HW.out.trans (hbbp.mono HW.out.size))
  clear hwbp hgp hbp hbbp hbxp HTz HW
  go_upto_region 9 with (go_at_call 50; refine (LOOP.out _ HTp.out).mono ?_; rintro e wal ⟨pl, cl, rfl, hgl, hbl⟩)
  obtain ⟨wbl, hwbl⟩ : ∃ z, z = wal.alloc (.cells #[.slice pl n cl] 29) := ⟨_, rfl⟩
  rw [← hwbl]
  have hbbl : Below wbp.heap.size wbp wbl := by rw [hwbl]; exact hbl.alloc hbl.size _
  have HXl : Hid (Box wbl wal.heap.size 29 (.slice pl n cl)) := Lib.hid (by rw [hwbl]; exact Box.new _ _ _)
  have HGl : Hid (Gr wbl (.agg #[.slice pl n cl]) gl) := Lib.hid (hgl.below (by rw [hwbl]; exact below_alloc _ _))
  obtain ⟨bl, hbxl⟩ : ∃ z, z = wal.heap.size := ⟨_, rfl⟩
  rw [← hbxl] at HXl ⊢
  have HXp := Lib.hid (HXp.out.keep hbbl)
  have HGp := Lib.hid (HGp.out.below hbbl)
  have HTl := Lib.hid (HTp.out.keep hbbl)
  have HWl := Lib.hid (HWp.out.trans (hbbl.mono HWp.out.size))
  clear hwbl hgl hbl hbbl hbxl HTp HWp
  go_upto_region 10 with (go_at_call 51; refine (FULL.out _ HTl.out).mono ?_; rintro e waf ⟨pf, cf, rfl, hgf, hbf⟩)
  obtain ⟨wbf, hwbf⟩ : ∃ z, z = waf.alloc (.cells #[.slice pf n cf] 29) := ⟨_, rfl⟩
  rw [← hwbf]
  have hbbf : Below wbl.heap.size wbl wbf := by rw [hwbf]; exact hbf.alloc hbf.size _
  have HXf : Hid (Box wbf waf.heap.size 29 (.slice pf n cf)) := Lib.hid (by rw [hwbf]; exact Box.new _ _ _)
  have HGf : Hid (Gr wbf (.agg #[.slice pf n cf]) gf) := Lib.hid (hgf.below (by rw [hwbf]; exact below_alloc _ _))
  obtain ⟨bf, hbxf⟩ : ∃ z, z = waf.heap.size := ⟨_, rfl⟩
  rw [← hbxf] at HXf ⊢
  have HXp := Lib.hid (HXp.out.keep hbbf)
  have HGp := Lib.hid (HGp.out.below hbbf)
  have HXl := Lib.hid (HXl.out.keep hbbf)
  have HGl := Lib.hid (HGl.out.below hbbf)
  have HTf := Lib.hid (HTl.out.keep hbbf)
  have HWf := Lib.hid (HWl.out.trans (hbbf.mono HWl.out.size))
  clear hwbf hgf hbf hbbf hbxf HTl HWl
  go_upto_region 11 with (go_at_call 52; refine (SIDED.out _ HTf.out).mono ?_; rintro e was ⟨ps, cs, rfl, hgs, hbs⟩)
  obtain ⟨wbs, hwbs⟩ : ∃ z, z = was.alloc (.cells #[.slice ps s cs] 29) := ⟨_, rfl⟩
  rw [← hwbs]
  have hbbs : Below wbf.heap.size wbf wbs := by rw [hwbs]; exact hbs.alloc hbs.size _
  have HXs : Hid (Box wbs was.heap.size 29 (.slice ps s cs)) := Lib.hid (by rw [hwbs]; exact Box.new _ _ _)
  have HGs : Hid (Gr wbs (.agg #[.slice ps s cs]) gs) := Lib.hid (hgs.below (by rw [hwbs]; exact below_alloc _ _))
  obtain ⟨bs, hbxs⟩ : ∃ z, z = was.heap.size := ⟨_, rfl⟩
  rw [← hbxs] at HXs ⊢
  have HXp := Lib.hid (HXp.out.keep hbbs)
  have HGp := Lib.hid (HGp.out.below hbbs)
  have HXl := Lib.hid (HXl.out.keep hbbs)
  have HGl := Lib.hid (HGl.out.below hbbs)
  have HXf := Lib.hid (HXf.out.keep hbbs)
  have HGf := Lib.hid (HGf.out.below hbbs)
  have HTs := Lib.hid (HTf.out.keep hbbs)
  have HWs := Lib.hid (HWf.out.trans (hbbs.mono HWf.out.size))
  clear hwbs hgs hbs hbbs hbxs HTf HWf
  go_upto_region 12 with (go_at_call 53; refine (GRID.out _ HTs.out).mono ?_; rintro e wag ⟨pg, cg, rfl, hgg, hbg⟩)
  obtain ⟨wbg, hwbg⟩ : ∃ z, z = wag.alloc (.cells #[.slice pg q cg] 29) := ⟨_, rfl⟩
  rw [← hwbg]
  have hbbg : Below wbs.heap.size wbs wbg := by rw [hwbg]; exact hbg.alloc hbg.size _
  have HXg : Hid (Box wbg wag.heap.size 29 (.slice pg q cg)) := Lib.hid (by rw [hwbg]; exact Box.new _ _ _)
  have HGg : Hid (Gr wbg (.agg #[.slice pg q cg]) gg) := Lib.hid (hgg.below (by rw [hwbg]; exact below_alloc _ _))
  obtain ⟨bg, hbxg⟩ : ∃ z, z = wag.heap.size := ⟨_, rfl⟩
  rw [← hbxg] at HXg ⊢
  have HXp := Lib.hid (HXp.out.keep hbbg)
  have HGp := Lib.hid (HGp.out.below hbbg)
  have HXl := Lib.hid (HXl.out.keep hbbg)
  have HGl := Lib.hid (HGl.out.below hbbg)
  have HXf := Lib.hid (HXf.out.keep hbbg)
  have HGf := Lib.hid (HGf.out.below hbbg)
  have HXs := Lib.hid (HXs.out.keep hbbg)
  have HGs := Lib.hid (HGs.out.below hbbg)
  have HTg := Lib.hid (HTs.out.keep hbbg)
  have HWg := Lib.hid (HWs.out.trans (hbbg.mono HWs.out.size))
  clear hwbg hgg hbg hbbg hbxg HTs HWs
  go_upto_region 13 with (go_at_call 54; refine (WHEEL.out _ HTg.out).mono ?_; rintro e waw ⟨pw, cw, rfl, hgw, hbw⟩)
  obtain ⟨wbw, hwbw⟩ : ∃ z, z = waw.alloc (.cells #[.slice pw m cw] 29) := ⟨_, rfl⟩
  rw [← hwbw]
  have hbbw : Below wbg.heap.size wbg wbw := by rw [hwbw]; exact hbw.alloc hbw.size _
  have HXw : Hid (Box wbw waw.heap.size 29 (.slice pw m cw)) := Lib.hid (by rw [hwbw]; exact Box.new _ _ _)
  have HGw : Hid (Gr wbw (.agg #[.slice pw m cw]) gw) := Lib.hid (hgw.below (by rw [hwbw]; exact below_alloc _ _))
  obtain ⟨bw, hbxw⟩ : ∃ z, z = waw.heap.size := ⟨_, rfl⟩
  rw [← hbxw] at HXw ⊢
  have HXp := Lib.hid (HXp.out.keep hbbw)
  have HGp := Lib.hid (HGp.out.below hbbw)
  have HXl := Lib.hid (HXl.out.keep hbbw)
  have HGl := Lib.hid (HGl.out.below hbbw)
  have HXf := Lib.hid (HXf.out.keep hbbw)
  have HGf := Lib.hid (HGf.out.below hbbw)
  have HXs := Lib.hid (HXs.out.keep hbbw)
  have HGs := Lib.hid (HGs.out.below hbbw)
  have HXg := Lib.hid (HXg.out.keep hbbw)
  have HGg := Lib.hid (HGg.out.below hbbw)
  have HTw := Lib.hid (HTg.out.keep hbbw)
  have HWw := Lib.hid (HWg.out.trans (hbbw.mono HWg.out.size))
  clear hwbw hgw hbw hbbw hbxw HTg HWg
  go_upto_region 14 with (go_at_call 55; refine (STAR.out _ HTw.out).mono ?_; rintro e wat ⟨pt, ct, rfl, hgt, hbt⟩)
  obtain ⟨wbt, hwbt⟩ : ∃ z, z = wat.alloc (.cells #[.slice pt m ct] 29) := ⟨_, rfl⟩
  rw [← hwbt]
  have hbbt : Below wbw.heap.size wbw wbt := by rw [hwbt]; exact hbt.alloc hbt.size _
  have HXt : Hid (Box wbt wat.heap.size 29 (.slice pt m ct)) := Lib.hid (by rw [hwbt]; exact Box.new _ _ _)
  have HGt : Hid (Gr wbt (.agg #[.slice pt m ct]) gt) := Lib.hid (hgt.below (by rw [hwbt]; exact below_alloc _ _))
  obtain ⟨bt, hbxt⟩ : ∃ z, z = wat.heap.size := ⟨_, rfl⟩
  rw [← hbxt] at HXt ⊢
  have HXp := Lib.hid (HXp.out.keep hbbt)
  have HGp := Lib.hid (HGp.out.below hbbt)
  have HXl := Lib.hid (HXl.out.keep hbbt)
  have HGl := Lib.hid (HGl.out.below hbbt)
  have HXf := Lib.hid (HXf.out.keep hbbt)
  have HGf := Lib.hid (HGf.out.below hbbt)
  have HXs := Lib.hid (HXs.out.keep hbbt)
  have HGs := Lib.hid (HGs.out.below hbbt)
  have HXg := Lib.hid (HXg.out.keep hbbt)
  have HGg := Lib.hid (HGg.out.below hbbt)
  have HXw := Lib.hid (HXw.out.keep hbbt)
  have HGw := Lib.hid (HGw.out.below hbbt)
  have HTt := Lib.hid (HTw.out.keep hbbt)
  have HWt := Lib.hid (HWw.out.trans (hbbt.mono HWw.out.size))
  clear hwbt hgt hbt hbbt hbxt HTw HWw
  have kp := HXp.out.cell
  have kl := HXl.out.cell
  have kf := HXf.out.cell
  have ks := HXs.out.cell
  have kg := HXg.out.cell
  have kw := HXw.out.cell
  have kt := HXt.out.cell
  go_upto_region 18 with (first
    | (have X := BW5; go_at_call 56; refine (MT.out _ _ (HGt.out.below BW5.out)).mono ?_; rintro e wm6 ⟨rfl, hq6⟩; have BW6 : Hid (Below wbt.heap.size wbt wm6) := Lib.hid (BW5.out.trans (hq6.mono BW5.out.size)); have kp := hq6.at' kp; have kl := hq6.at' kl; have kf := hq6.at' kf; have ks := hq6.at' ks; have kg := hq6.at' kg; have kw := hq6.at' kw; have kt := hq6.at' kt; clear hq6)
    | (have X := BW4; go_at_call 56; refine (MW.out _ _ (HGw.out.below BW4.out)).mono ?_; rintro e wm5 ⟨rfl, hq5⟩; have BW5 : Hid (Below wbt.heap.size wbt wm5) := Lib.hid (BW4.out.trans (hq5.mono BW4.out.size)); have kp := hq5.at' kp; have kl := hq5.at' kl; have kf := hq5.at' kf; have ks := hq5.at' ks; have kg := hq5.at' kg; have kw := hq5.at' kw; have kt := hq5.at' kt; clear hq5)
    | (have X := BW3; go_at_call 56; refine (MG.out _ _ (HGg.out.below BW3.out)).mono ?_; rintro e wm4 ⟨rfl, hq4⟩; have BW4 : Hid (Below wbt.heap.size wbt wm4) := Lib.hid (BW3.out.trans (hq4.mono BW3.out.size)); have kp := hq4.at' kp; have kl := hq4.at' kl; have kf := hq4.at' kf; have ks := hq4.at' ks; have kg := hq4.at' kg; have kw := hq4.at' kw; have kt := hq4.at' kt; clear hq4)
    | (have X := BW2; go_at_call 56; refine (MS.out _ _ (HGs.out.below BW2.out)).mono ?_; rintro e wm3 ⟨rfl, hq3⟩; have BW3 : Hid (Below wbt.heap.size wbt wm3) := Lib.hid (BW2.out.trans (hq3.mono BW2.out.size)); have kp := hq3.at' kp; have kl := hq3.at' kl; have kf := hq3.at' kf; have ks := hq3.at' ks; have kg := hq3.at' kg; have kw := hq3.at' kw; have kt := hq3.at' kt; clear hq3)
    | (have X := BW1; go_at_call 56; refine (MF.out _ _ (HGf.out.below BW1.out)).mono ?_; rintro e wm2 ⟨rfl, hq2⟩; have BW2 : Hid (Below wbt.heap.size wbt wm2) := Lib.hid (BW1.out.trans (hq2.mono BW1.out.size)); have kp := hq2.at' kp; have kl := hq2.at' kl; have kf := hq2.at' kf; have ks := hq2.at' ks; have kg := hq2.at' kg; have kw := hq2.at' kw; have kt := hq2.at' kt; clear hq2)
    | (have X := BW0; go_at_call 56; refine (ML.out _ _ (HGl.out.below BW0.out)).mono ?_; rintro e wm1 ⟨rfl, hq1⟩; have BW1 : Hid (Below wbt.heap.size wbt wm1) := Lib.hid (BW0.out.trans (hq1.mono BW0.out.size)); have kp := hq1.at' kp; have kl := hq1.at' kl; have kf := hq1.at' kf; have ks := hq1.at' ks; have kg := hq1.at' kg; have kw := hq1.at' kw; have kt := hq1.at' kt; clear hq1)
    | (go_at_call 56; refine (MP.out _ _ (HGp.out.below (Below.refl _ _))).mono ?_; rintro e wm0 ⟨rfl, hq0⟩; have BW0 : Hid (Below wbt.heap.size wbt wm0) := Lib.hid (hq0); have kp := hq0.at' kp; have kl := hq0.at' kl; have kf := hq0.at' kf; have ks := hq0.at' ks; have kg := hq0.at' kg; have kw := hq0.at' kw; have kt := hq0.at' kt; clear hq0))
  have HXp := Lib.hid (HXp.out.keep BW6.out)
  have HGp := Lib.hid (HGp.out.below BW6.out)
  have HXl := Lib.hid (HXl.out.keep BW6.out)
  have HGl := Lib.hid (HGl.out.below BW6.out)
  have HXf := Lib.hid (HXf.out.keep BW6.out)
  have HGf := Lib.hid (HGf.out.below BW6.out)
  have HXs := Lib.hid (HXs.out.keep BW6.out)
  have HGs := Lib.hid (HGs.out.below BW6.out)
  have HXg := Lib.hid (HXg.out.keep BW6.out)
  have HGg := Lib.hid (HGg.out.below BW6.out)
  have HXw := Lib.hid (HXw.out.keep BW6.out)
  have HGw := Lib.hid (HGw.out.below BW6.out)
  have HXt := Lib.hid (HXt.out.keep BW6.out)
  have HGt := Lib.hid (HGt.out.below BW6.out)
  have HTm := Lib.hid (HTt.out.keep BW6.out)
  have HWm := Lib.hid (HWt.out.trans (BW6.out.mono HWt.out.size))
  clear BW0 BW1 BW2 BW3 BW4 BW5 BW6 HTt HWt MP ML MF MS MG MW MT
  go_upto_region 19 with (go_at_call 57; refine (SID.out _ _ HGg.out).mono ?_; rintro e wn ⟨su, rfl, hbn⟩)
  have HXp := Lib.hid (HXp.out.keep hbn)
  have HGp := Lib.hid (HGp.out.below hbn)
  have HXl := Lib.hid (HXl.out.keep hbn)
  have HGl := Lib.hid (HGl.out.below hbn)
  have HXw := Lib.hid (HXw.out.keep hbn)
  have HGw := Lib.hid (HGw.out.below hbn)
  have HXt := Lib.hid (HXt.out.keep hbn)
  have HGt := Lib.hid (HGt.out.below hbn)
  have HTn := Lib.hid (HTm.out.keep hbn)
  have HWn := Lib.hid (HWm.out.trans (hbn.mono HWm.out.size))
  clear hbn HTm HWm kp kl kf ks kg kw kt
  have kw := HXw.out.cell
  go_upto_region 20 with (go_at_call 58; refine (CUT.out _ _ HGw.out).mono ?_; rintro e wo ⟨xp, xc, rfl, hgx, hbo⟩)
  obtain ⟨wr, hwr⟩ : ∃ z, z = wo.alloc (.cells #[.slice xp n xc] 29) := ⟨_, rfl⟩
  rw [← hwr]
  have hbor : Below wn.heap.size wn wr := by rw [hwr]; exact hbo.alloc hbo.size _
  have HXx : Hid (Box wr wo.heap.size 29 (.slice xp n xc)) := Lib.hid (by rw [hwr]; exact Box.new _ _ _)
  have HGx := Lib.hid (hgx.below (show Below wo.heap.size wo wr by rw [hwr]; exact below_alloc _ _))
  have HXp := Lib.hid (HXp.out.keep hbor)
  have HGp := Lib.hid (HGp.out.below hbor)
  have HXl := Lib.hid (HXl.out.keep hbor)
  have HGl := Lib.hid (HGl.out.below hbor)
  have HXt := Lib.hid (HXt.out.keep hbor)
  have HGt := Lib.hid (HGt.out.below hbor)
  have HTr := Lib.hid (HTn.out.keep hbor)
  have HWr := Lib.hid (HWn.out.trans (hbor.mono HWn.out.size))
  clear hwr hbo hbor hgx kw HTn HWn
  have kp := HXp.out.cell
  have kl := HXl.out.cell
  have kt := HXt.out.cell
  have kx := HXx.out.cell
  have hxp : (n2 : Int) = (n2 : Int) := rfl
  clear hxp
  go_wp2_with (first
    | (have X := E2; go_at_call 61; refine (PAR.out _ _ (HGt.out.below E2.out)).mono ?_; rintro e we3 ⟨ob, oc, rfl, hq3⟩; have E3 : Hid (Below wr.heap.size wr we3) := Lib.hid (E2.out.trans (hq3.mono E2.out.size)); clear hq3)
    | (have X := E1; go_at_call 60; refine (SAM.out _ _ _ (HGx.out.below E1.out) (HGl.out.below E1.out)).mono ?_; rintro e we2 ⟨rfl, hq2⟩; have E2 : Hid (Below wr.heap.size wr we2) := Lib.hid (E1.out.trans (hq2.mono E1.out.size)); have kt := hq2.at' kt; clear hq2)
    | (have X := E0; go_at_call 59; refine (SYP.out _ _ (HGp.out.below E0.out) (HTr.out.keep E0.out)).mono ?_; rintro e we1 ⟨rfl, hq1⟩; have E1 : Hid (Below wr.heap.size wr we1) := Lib.hid (E0.out.trans (hq1.mono E0.out.size)); have kt := hq1.at' kt; have kl := hq1.at' kl; have kx := hq1.at' kx; clear hq1)
    | (go_at_call 59; refine (SYL.out _ _ HGl.out HTr.out).mono ?_; rintro e we0 ⟨rfl, hq0⟩; have E0 : Hid (Below wr.heap.size wr we0) := Lib.hid hq0; have kt := hq0.at' kt; have kl := hq0.at' kl; have kx := hq0.at' kx; have kp := hq0.at' kp; clear hq0))
  go_ret
  exact ⟨rfl, HWr.out.trans (E3.out.mono HWr.out.size)⟩

end Go.Proofs.YtkppbmfliejnmaaDoor
