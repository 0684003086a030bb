/- Walk: the law FnCanon. -/
import Derived.Test.YtkppbmfliejnmaaDoorCaQ44
import Derived.Test.YtkppbmfliejnmaaDoorCaQ38
import Derived.Test.YtkppbmfliejnmaaDoorCaQ43
import Derived.Test.YtkppbmfliejnmaaDoorCaQ3
import Derived.Test.YtkppbmfliejnmaaDoorCards
import Derived.Test.YtkppbmfliejnmaaDoorTie
import Derived.ProofKit
import Derived.OpenShut
import Derived.Below
import Derived.ChangeSlices
import Derived.ChangeSame
import Derived.WideKeyArgs
import Derived.Deep.DeepHandedRow
import Derived.Deep.Matrix
import Derived.Lib.LaidTab
import Derived.Test.YtkppbmfliejnmaaDoorCaQ31
namespace Go.Proofs.YtkppbmfliejnmaaDoor
open Go.RowKit

set_option maxRecDepth 100000 in
set_option maxHeartbeats 8000000 in
theorem lawCanon_any (v0 : Value) (bs : List Int) (W : World) (ha : ArgB W v0 bs) (hT : Tab W) :
    Calls Tryd.prog 6 #[v0] W fun e w' => e = .returned (.bool true) ∧ Below W.heap.size W w' := by
  obtain ⟨p, c, e0, _⟩ := id ha
  subst e0
  have HA := Lib.hid ha
  have HT := Lib.hid hT
  clear ha hT
  go_enter Tryd.func6, Tryd.ntmps6
  by_cases hbig : 4096 < bs.length
  · have hd := decide_eq_true hbig
    go_wp2_with (go_at_call 11; refine (big_any _ bs _ HA.out).mono ?_; rintro e w2 ⟨he, rfl⟩; rw [hd] at he; subst he)
    go_ret
    exact ⟨rfl, Below.refl _ _⟩
  have hd := decide_eq_false hbig
  have hl : bs.length ≤ 4096 := by omega
  clear hbig
  go_upto_region 4 with (first
    | (go_at_call 43; refine (drawAlikeIn_any _ bs hl _ HA.out).mono ?_; rintro e w2 ⟨ap, bq, ac, bc, a, b, rfl, hga, hgb, hb2⟩)
    | (go_at_call 11; refine (big_any _ bs _ HA.out).mono ?_; rintro e w1 ⟨he, rfl⟩; rw [hd] at he; subst he))
  obtain ⟨x, l, hcx⟩ := canS_ex a
  obtain ⟨y, m, hcy⟩ := canS_ex b
  obtain ⟨mp, is, hak⟩ := alkS_ex a b
  have HCX := Lib.hid hcx
  have HCY := Lib.hid hcy
  have HAK := Lib.hid hak
  have HLAW := Lib.hid (canon_law hcx hcy hak)
  clear hcx hcy hak hd
  obtain ⟨W3, hW3, hb23, SZ3, B3, B4⟩ := two_boxesC w2 (.slice ap a.length ac) (.slice bq b.length bc) 29 29
  have HB3 := Lib.hid (hb2.trans (hb23.mono hb2.size))
  have HGA := Lib.hid (hga.below hb23)
  have HGB := Lib.hid (hgb.below hb23)
  have HX3 := Lib.hid B3
  have HX4 := Lib.hid B4
  have HT3 := Lib.hid (HT.out.keep HB3.out)
  have c3 := B3.cell
  have c4 := B4.cell
  try rw [← hW3]
  clear hW3 hb23 hga hgb hb2 B3 B4 SZ3
  go_upto_region 5 with (go_at_call 44; refine (canonOf_any HCX.out _ _ HGA.out HT3.out).mono ?_; rintro e w4 ⟨xp, lq, xc, ld, rfl, hgx, hnl, hb4⟩)
  have hs4 := hb4.size
  obtain ⟨W5, hW5⟩ : ∃ W5, W5 = w4.alloc (.cells #[.slice xp x.length xc] 29) := ⟨_, rfl⟩
  rw [← hW5]
  have hb35 : Below W3.heap.size W3 W5 := by rw [hW5]; exact hb4.alloc hs4 _
  have HX5 : Hid (Box W5 w4.heap.size 29 (.slice xp x.length xc)) := Lib.hid (by rw [hW5]; exact Box.new _ _ _)
  have HGX5 : Hid (Gr W5 (.agg #[.slice xp x.length xc]) x) := Lib.hid (by rw [hW5]; exact hgx.below (below_alloc _ _))
  have HL5 : Hid (Nums W5 2 .i64 (.slice lq l.length ld) l) := Lib.hid (by rw [hW5]; exact hnl.below (below_alloc _ _))
  have HGA5 := Lib.hid (HGA.out.below hb35)
  have HGB5 := Lib.hid (HGB.out.below hb35)
  have HX35 := Lib.hid (HX3.out.keep hb35)
  have HX45 := Lib.hid (HX4.out.keep hb35)
  have HB5 := Lib.hid (HB3.out.trans (hb35.mono HB3.out.size))
  have HT5 := Lib.hid (HT.out.keep HB5.out)
  have c3 := HX35.out.cell
  have c4 := HX45.out.cell
  have c5 := HX5.out.cell
  generalize w4.heap.size = bx at HX5 c5 ⊢
  clear hW5 hb35 hgx hnl hb4 hs4 HGA HGB HX3 HX4 HB3 HT3
  go_upto_region 6 with (go_at_call 44; refine (canonOf_any HCY.out _ _ HGB5.out HT5.out).mono ?_; rintro e w6 ⟨yp, mq, yc, md, rfl, hgy, hnm, hb6⟩)
  have hs6 := hb6.size
  obtain ⟨W7, hW7⟩ : ∃ W7, W7 = w6.alloc (.cells #[.slice yp y.length yc] 29) := ⟨_, rfl⟩
  rw [← hW7]
  have hb57 : Below W5.heap.size W5 W7 := by rw [hW7]; exact hb6.alloc hs6 _
  have HX7 : Hid (Box W7 w6.heap.size 29 (.slice yp y.length yc)) := Lib.hid (by rw [hW7]; exact Box.new _ _ _)
  have HGY7 : Hid (Gr W7 (.agg #[.slice yp y.length yc]) y) := Lib.hid (by rw [hW7]; exact hgy.below (below_alloc _ _))
  have HGX7 := Lib.hid (HGX5.out.below hb57)
  have HL7 := Lib.hid (HL5.out.below hb57)
  have HGA7 := Lib.hid (HGA5.out.below hb57)
  have HGB7 := Lib.hid (HGB5.out.below hb57)
  have HX37 := Lib.hid (HX35.out.keep hb57)
  have HX47 := Lib.hid (HX45.out.keep hb57)
  have HX57 := Lib.hid (HX5.out.keep hb57)
  have HB7 := Lib.hid (HB5.out.trans (hb57.mono HB5.out.size))
  have HT7 := Lib.hid (HT.out.keep HB7.out)
  have d3 := HX37.out.cell
  have d4 := HX47.out.cell
  generalize w6.heap.size = by7 at HX7 ⊢
  clear hW7 hb57 hgy hnm hb6 hs6 HGA5 HGB5 HX35 HX45 HX5 HGX5 HL5 HB5 HT5 c3 c4 c5
  go_upto_region 8 with (first
    | (go_at_call 45; refine (alikeS_any HAK.out _ _ _ (HGA7.out.below HB8.out) (HGB7.out.below HB8.out)).mono ?_; rintro e w9 ⟨oq, od, rfl, hno, hb9⟩; have HN9 := Lib.hid hno; have HB9 := Lib.hid (HB8.out.trans (hb9.mono HB8.out.size)); have HM9 := Lib.hid (HM8.out.below hb9); clear hno hb9)
    | (go_at_call 42; refine (alikeI_any HAK.out _ _ _ HGA7.out HGB7.out HT7.out).mono ?_; rintro e w8 ⟨nq, nd, rfl, hno, hb8⟩; have HM8 := Lib.hid hno; have HB8 := Lib.hid hb8; have e3 := hb8.at' d3; have e4 := hb8.at' d4; clear hno hb8))
  have HGX9 := Lib.hid (HGX7.out.below HB9.out)
  have HGY9 := Lib.hid (HGY7.out.below HB9.out)
  have HGA9 := Lib.hid (HGA7.out.below HB9.out)
  have HL9 := Lib.hid (HL7.out.below HB9.out)
  have HX39 := Lib.hid (HX37.out.keep HB9.out)
  have HX59 := Lib.hid (HX57.out.keep HB9.out)
  have HX79 := Lib.hid (HX7.out.keep HB9.out)
  have HBZ := Lib.hid (HB7.out.trans (HB9.out.mono HB7.out.size))
  clear HGX7 HGY7 HGA7 HGB7 HL7 HX37 HX47 HX57 HX7 HB7 HT7 d3 d4 e3 e4 HB8 HM8 HB9
  have hisb : (is != is) = false := by simp
  have LK : Hid (∀ wz, Nums wz 2 .i64 (.slice nq mp.length nd) mp → Nums wz 2 .i64 (.slice oq mp.length od) mp → Calls Tryd.prog 26 #[.slice nq mp.length nd, .slice oq mp.length od] wz fun e w' => e = .returned (.bool true) ∧ Below wz.heap.size wz w') := Lib.hid (fun wz h1 h2 => by
    have := likeInts_any _ _ mp mp wz h1 h2
    rwa [dec_true rfl] at this)
  by_cases hx0 : x.length = 0
  · have his := HLAW.out.1 hx0
    subst his
    have c5 := HX59.out.cell
    have hx0b : ((x.length : Int) == 0) = true := by simp [hx0]
    go_wp2_with (go_at_call 26; refine (LK.out _ HM9.out HN9.out).mono ?_; rintro e w10 ⟨rfl, hb10⟩; have c5 := hb10.at' c5)
    go_ret
    exact ⟨rfl, HBZ.out.trans (hb10.mono HBZ.out.size)⟩
  have hx0b : ((x.length : Int) == 0) = false := beq_eq_false_iff_ne.2 (by omega)
  by_cases hy0 : y.length = 0
  · have his := HLAW.out.2.1 hy0
    subst his
    have c5 := HX59.out.cell
    have c7 := HX79.out.cell
    have hy0b : ((y.length : Int) == 0) = true := by simp [hy0]
    go_wp2_with (go_at_call 26; refine (LK.out _ HM9.out HN9.out).mono ?_; rintro e w10 ⟨rfl, hb10⟩; have c5 := hb10.at' c5; have c7 := hb10.at' c7)
    go_ret
    exact ⟨rfl, HBZ.out.trans (hb10.mono HBZ.out.size)⟩
  have hy0b : ((y.length : Int) == 0) = false := beq_eq_false_iff_ne.2 (by omega)
  obtain ⟨hokx, hoky, hiff⟩ := HLAW.out.2.2 hx0 hy0
  have HOX := Lib.hid hokx
  have HOY := Lib.hid hoky
  have HIFF := Lib.hid hiff
  have HX0 := Lib.hid hx0
  clear hokx hoky hiff hx0 hy0
  have c3 := HX39.out.cell
  have c5 := HX59.out.cell
  have c7 := HX79.out.cell
  go_upto_region 13 with (first
    | (go_at_call 26; refine (LK.out _ HM9.out HN9.out).mono ?_; rintro e w10 ⟨rfl, hb10⟩; have c5 := hb10.at' c5; have c7 := hb10.at' c7; have c3 := hb10.at' c3; have HB10 := Lib.hid hb10; clear hb10)
    | (go_at_call 46; refine (renC_any HCX.out HX0.out _ _ _ (HGA9.out.below HB10.out) (HL9.out.below HB10.out)).mono ?_; rintro e w11 ⟨zp, zc, rfl, hgz, hb11⟩))
  have hs11 := hb11.size
  obtain ⟨W12, hW12⟩ : ∃ W12, W12 = w11.alloc (.cells #[.slice zp x.length zc] 29) := ⟨_, rfl⟩
  rw [← hW12]
  have hb12 : Below w10.heap.size w10 W12 := by rw [hW12]; exact hb11.alloc hs11 _
  have HX12 : Hid (Box W12 w11.heap.size 29 (.slice zp x.length zc)) := Lib.hid (by rw [hW12]; exact Box.new _ _ _)
  have HGZ : Hid (Gr W12 (.agg #[.slice zp x.length zc]) x) := Lib.hid (by rw [hW12]; exact hgz.below (below_alloc _ _))
  have hb912 := HB10.out.trans (hb12.mono HB10.out.size)
  have HGXz := Lib.hid (HGX9.out.below hb912)
  have HGYz := Lib.hid (HGY9.out.below hb912)
  have HBF := Lib.hid (HBZ.out.trans (hb912.mono HBZ.out.size))
  have q5 := (HX59.out.keep hb912).cell
  have q7 := (HX79.out.keep hb912).cell
  have q13 := HX12.out.cell
  generalize w11.heap.size = bz at HX12 q13 ⊢
  clear hW12 hb12 hgz hb11 hs11 hb912 HX39 HX59 HX79 HGX9 HGY9 HGA9 HL9 HBZ HN9 HM9 HB10 c3 c5 c7 LK HX12
  have SXZ : Hid (∀ wz (p q : Option Addr) (c d : Nat), Gr wz (.agg #[.slice p x.length c]) x → Gr wz (.agg #[.slice q x.length d]) x → Calls Tryd.prog 40 #[.agg #[.slice p x.length c], .agg #[.slice q x.length d]] wz fun e w' => e = .returned (.bool true) ∧ Below wz.heap.size wz w') := Lib.hid (fun wz p q c d h1 h2 => by
    have := implSameGraph_any _ _ x x wz h1 h2
    rwa [dec_true ⟨HOX.out, HOX.out, rfl⟩] at this)
  have SXY : Hid (∀ wz (p q : Option Addr) (c d : Nat), Gr wz (.agg #[.slice p x.length c]) x → Gr wz (.agg #[.slice q y.length d]) y → Calls Tryd.prog 40 #[.agg #[.slice p x.length c], .agg #[.slice q y.length d]] wz fun e w' => e = .returned (.bool is) ∧ Below wz.heap.size wz w') := Lib.hid (fun wz p q c d h1 h2 => by
    have := implSameGraph_any _ _ x y wz h1 h2
    have e : dec (GOk x ∧ GOk y ∧ x = y) = is := by
      cases hi : is
      · exact dec_false fun k => by have := HIFF.out.2 k.2.2; rw [hi] at this; cases this
      · exact dec_true ⟨HOX.out, HOY.out, HIFF.out.1 hi⟩
    rwa [e] at this)
  have CX : Hid (∀ wz (p : Option Addr) (c : Nat), Gr wz (.agg #[.slice p x.length c]) x → Calls Tryd.prog 47 #[.agg #[.slice p x.length c]] wz fun e w' => ∃ (q : Option Addr) (k d : Nat), e = .returned (.slice q k d) ∧ Nums w' 2 .i64 (.slice q k d) (natInts (cdTo (ofG x) x.length 0)) ∧ Below wz.heap.size wz w') := Lib.hid (fun wz p c h => by
    refine (implCodeOf_any _ x wz h HOX.out).mono ?_
    rintro e w' ⟨u, rfl, hn, hb⟩
    obtain ⟨q, d, rfl, _⟩ := id hn.shape
    exact ⟨_, _, _, rfl, hn, hb⟩)
  have CZ : Hid (∀ wz (p : Option Addr) (c : Nat), Gr wz (.agg #[.slice p x.length c]) x → Calls Tryd.prog 48 #[.agg #[.slice p x.length c]] wz fun e w' => ∃ (q : Option Addr) (k d : Nat), e = .returned (.slice q k d) ∧ Nums w' 2 .i64 (.slice q k d) (natInts (cdTo (ofG x) x.length 0)) ∧ Below wz.heap.size wz w') := Lib.hid (fun wz p c h => by
    refine (specCodeOf_any _ x wz h HOX.out).mono ?_
    rintro e w' ⟨u, rfl, hn, hb⟩
    obtain ⟨q, d, rfl, _⟩ := id hn.shape
    exact ⟨_, _, _, rfl, hn, hb⟩)
  have LC : Hid (∀ wz (p q : Option Addr) (n c k d : Nat), Nums wz 2 .i64 (.slice p n c) (natInts (cdTo (ofG x) x.length 0)) → Nums wz 2 .i64 (.slice q k d) (natInts (cdTo (ofG x) x.length 0)) → Calls Tryd.prog 26 #[.slice p n c, .slice q k d] wz fun e w' => e = .returned (.bool true) ∧ Below wz.heap.size wz w') := Lib.hid (fun wz p q n c k d h1 h2 => by
    have := likeInts_any _ _ _ _ wz h1 h2
    rwa [dec_true rfl] at this)
  clear HIFF HCX HCY HAK HLAW HX0 hx0b hy0b
  cases is
  all_goals
    go_region_held3 (fun w' => w'.cell? ⟨bx, 0, none⟩ = some (.slice xp x.length xc) ∧ w'.cell? ⟨by7, 0, none⟩ = some (.slice yp y.length yc) ∧ w'.cell? ⟨bz, 0, none⟩ = some (.slice zp x.length zc))
      (first | exact ⟨q5, q7, q13⟩ | exact ⟨BW5.at' q5, BW5.at' q7, BW5.at' q13⟩ | exact ⟨BW4.at' q5, BW4.at' q7, BW4.at' q13⟩ | exact ⟨BW3.at' q5, BW3.at' q7, BW3.at' q13⟩ | exact ⟨BW2.at' q5, BW2.at' q7, BW2.at' q13⟩ | exact ⟨BW1.at' q5, BW1.at' q7, BW1.at' q13⟩ | go_keep)
      (first
        | (have X := BW4; go_at_call 26; refine (LC.out _ _ _ _ _ _ _ (by first | exact HCI.out.below HB34.out | exact HCI.out.below (below_dN HB34.out 1)) (by first | exact HCS.out | exact HCS.out.below (below_dN (Below.refl _ _) 1))).mono ?_; rintro e v5 ⟨rfl, hb⟩; have BW5 : Below W12.heap.size W12 v5 := (by first | exact BW4.trans (hb.mono BW4.size) | exact (below_dN BW4 1).trans (hb.mono (below_dN BW4 1).size)); clear hb)
        | (have X := BW3; go_at_call 48; refine (CZ.out _ _ _ (by first | exact HGZ.out.below BW3 | exact HGZ.out.below (below_dN BW3 1))).mono ?_; rintro e v4 ⟨q4, k4, d4, rfl, hn4, hb⟩; have BW4 : Below W12.heap.size W12 v4 := (by first | exact BW3.trans (hb.mono BW3.size) | exact (below_dN BW3 1).trans (hb.mono (below_dN BW3 1).size)); have HCS := Lib.hid hn4; have HB34 : Hid (Below v3.heap.size v3 v4) := Lib.hid (by first | exact hb | exact (below_dN (Below.refl _ _) 1).trans hb); clear hb hn4)
        | (have X := BW2; go_at_call 47; refine (CX.out _ _ _ (by first | exact HGXz.out.below BW2 | exact HGXz.out.below (below_dN BW2 1))).mono ?_; rintro e v3 ⟨q3, k3, d3, rfl, hn3, hb⟩; have BW3 : Below W12.heap.size W12 v3 := (by first | exact BW2.trans (hb.mono BW2.size) | exact (below_dN BW2 1).trans (hb.mono (below_dN BW2 1).size)); have HCI := Lib.hid hn3; clear hb hn3)
        | (have X := BW1; go_at_call 40; refine (SXY.out _ _ _ _ _ (by first | exact HGXz.out.below BW1 | exact HGXz.out.below (below_dN BW1 1)) (by first | exact HGYz.out.below BW1 | exact HGYz.out.below (below_dN BW1 1))).mono ?_; rintro e v2 ⟨rfl, hb⟩; have BW2 : Below W12.heap.size W12 v2 := (by first | exact BW1.trans (hb.mono BW1.size) | exact (below_dN BW1 1).trans (hb.mono (below_dN BW1 1).size)); clear hb)
        | (go_at_call 40; refine (SXZ.out _ _ _ _ _ (by first | exact HGXz.out | exact HGXz.out.below (below_dN (Below.refl _ _) 1)) (by first | exact HGZ.out | exact HGZ.out.below (below_dN (Below.refl _ _) 1))).mono ?_; rintro e v1 ⟨rfl, hb⟩; have BW1 : Below W12.heap.size W12 v1 := (by first | exact hb | exact (below_dN (Below.refl _ _) 1).trans hb); clear hb))
    all_goals
      go_wp2
      go_ret
      exact ⟨rfl, HBF.out.trans (BW5.mono HBF.out.size)⟩

end Go.Proofs.YtkppbmfliejnmaaDoor

/- The argument of a law over one graph, opened; the table; the row's last step. -/
namespace Go.Proofs.YtkppbmfliejnmaaDoor
open Go.ChangeShapes Go.WideShapes Go.ChangeAt Go.RowKit Go.Deep

theorem own : ownKnob Tryd.prog.godebug = none := by kernel_rfl
theorem laidOut : laidOutB Tryd.prog = true := by kernel_rfl
theorem gTab : Tryd.prog.globalNamed "math/bits.deBruijn32tab" = some 0 := by kernel_rfl
theorem gTabType : (Tryd.prog.globals[0]?).map (·.type) = some 187 := by kernel_rfl
theorem cellsTab : Tryd.prog.cellsOf 187 = 32 := by kernel_rfl
theorem cellsByte : Tryd.prog.cellsOf 5 = 1 := by kernel_rfl
theorem cellsRows : Tryd.prog.cellsOf 27 = 1 := by kernel_rfl
theorem cellsRow : Tryd.prog.cellsOf 33 = 1 := by kernel_rfl
theorem cellsInt : Tryd.prog.cellsOf 2 = 1 := by kernel_rfl
theorem maxLen_eq : maxLen = 9223372036854775807 := rfl

set_option maxRecDepth 100000 in
theorem tab_of_laid {W : World} {rest : List (String × DataW Unit)} (h : laidMet Tryd.prog (("math/bits.deBruijn32tab", Rows.laid_math_bits_deBruijn32tab) :: rest) W) : Tab W := by
  have t : Lib.TabIs Tryd.prog W "math/bits.deBruijn32tab" .u8 (Lib.deBruijn32tab.map fun (n : Nat) => (n : Int)) :=
    Lib.tabIs_of_head (rest := rest) gTab gTabType Tryd.underlying187 Tryd.underlying5 cellsByte cellsTab h
  intro j hj
  rw [t.cell gTab j (by simpa using hj)]
  simp [List.getD, hj]

theorem spot_of {w : World} {a : Addr} {u : Value} (h : w.cell? a = some u) : a.spot = none := by
  unfold World.cell? at h
  split at h
  · cases e : a.spot with
    | none => rfl
    | some x => simp [e] at h
  · cases h
theorem cell_add {w : World} {a : Addr} {r : Nat} {u : Value} (h : w.cell? (a.add r) = some u) (hs : a.spot = none) : w.cell? ⟨a.block, a.off + r, none⟩ = some u := by
  obtain ⟨b, o, s⟩ := a
  simp only at hs
  subst hs
  unfold Addr.add at h
  split at h
  · rename_i e; subst e; exact h
  · exact h

variable {H : Type} {enc : TypeId × Value → H}

theorem open_row {w : World} {A : Option Addr} {L C : Nat} {zs : List Int} (hLC : L ≤ C) (hC : C ≤ maxLen) (hz : zs.length = C) (hn : A = none → C = 0)
    (hc : ∀ a', A = some a' → 0 ≤ a'.block ∧ ∀ c, c < C → w.cell? (a'.add c) = some (.int .i64 (zs.getD c 0))) : ArgN w (.slice A L C) (zs.take L) := by
  have hl : (zs.take L).length = L := by rw [List.length_take]; omega
  rw [maxLen_eq] at hC
  refine ⟨A, C, by rw [hl], by omega, ?_⟩
  by_cases h0 : L = 0
  · subst h0; exact .inl (by simp)
  · cases A with
    | none => have := hn rfl; omega
    | some a =>
      obtain ⟨_, hc⟩ := hc a rfl
      have hs := spot_of (show w.cell? a = some _ from hc 0 (by omega))
      refine .inr ⟨a.block, a.off, ?_, fun j u hu => ?_⟩
      · obtain ⟨b, o, s⟩ := a; simp only at hs; subst hs; rfl
      · have hj : j < L := by
          have := (List.getElem?_eq_some_iff.1 hu).1
          rw [List.length_map, hl] at this; exact this
        have h1 := cell_add (hc j (by omega)) hs
        rw [h1]
        rw [List.getElem?_map, List.getElem?_take, if_pos hj] at hu
        rw [← hu]
        simp [List.getD, List.getElem?_eq_getElem (show j < zs.length by omega)]

set_option maxRecDepth 100000 in
theorem open_nums {W : World} {sp : Nat → Bool} {held : Bool} {b0 : Nat} {v : Value} {d : DataW H} {p : List MemPlace} (hv : Value.okWide Tryd.prog W .any b0 33 v)
    (h : DataW.Trod enc Tryd.prog W 0 (fun _ => true) held 33 v d p) : ∃ xs, ArgN W v xs := by
  obtain ⟨a0, len, cap, rfl⟩ := okWide_slice Tryd.underlying33 hv
  obtain ⟨fuel, hf⟩ := h
  rcases open_ints Tryd.underlying33 Tryd.underlying2 cellsInt hf with ⟨hc, _⟩ | ⟨a, len', cap', zs, hc, _, hl, hm, hz, _, hcell, _⟩
  · obtain ⟨rfl, rfl, rfl⟩ : a0 = none ∧ len = 0 ∧ cap = 0 := by simpa [Value.cells] using hc
    exact ⟨[], none, 0, rfl, by simp, .inl rfl⟩
  · obtain ⟨rfl, rfl, rfl⟩ : a0 = some a ∧ len = len' ∧ cap = cap' := by simpa [Value.cells] using hc
    simp only [if_true] at hz
    exact ⟨_, open_row hl hm hz (fun e => by cases e) (fun a' e => by cases e; exact ⟨Nat.zero_le _, fun c hc => hcell c (by omega)⟩)⟩

theorem same_of_below {W W' : World} (hb : Below W.heap.size W W') {x : MemPlace} (hx : x.block < W.heap.size) : W.sameAt W' x := by
  cases x with
  | cell b off => exact hb.cell (p := ⟨b, off, none⟩) hx
  | map b => exact hb.block b hx

section
variable {P : Program}
theorem post_of_below {f : Func} {s : ChangeSpec} {apart fresh handsOn again : Bool} {W W' : World} {args : Array Value} {v : Value} {ds gs : List (DataW H)} {before pa pv : List MemPlace}
    (hW : DataW.Whole enc P f.params.toList s.vars apart W args.toList ds gs before)
    (hres : ∀ (b : Nat) (sp : Nat → Bool) (hd : Bool), DataW.TrodAll enc P W' b sp hd f.resultTypes.toList (v.resultList f.resultTypes.size) (s.fn H (ds ++ gs)).results [])
    (hargs : ∀ sp : Nat → Bool, (∀ p ∈ before, sp p.block = true) → DataW.TrodAll enc P W' 0 sp true f.params.toList args.toList (s.fn H (ds ++ gs)).args pa)
    (hvars : ∀ sp : Nat → Bool, (∀ p ∈ before, sp p.block = true) → DataW.TrodVars enc P W' sp s.vars (s.fn H (ds ++ gs)).vars pv)
    (hps : before = pa ++ pv) (hb : Below W.heap.size W W')
    (hok : ∀ (j : Nat) (t : TypeId) (r : Value), f.resultTypes[j]? = some t → (v.resultList f.resultTypes.size)[j]? = some r → Value.okWide P W' .any 0 t r) :
    s.post enc P f apart fresh handsOn again W args v W' := by
  have hlt : ∀ p ∈ before, p.block < W.heap.size := fun p hp => hW.lt p hp
  have hold : ∀ p ∈ before, (fun b => decide (b < W.heap.size)) p.block = true := fun p hp => by simpa using hlt p hp
  refine ⟨ds, gs, before, [], pa, pv, hW, hres _ _ _, hargs _ hold, hvars _ hold, World.keptBut_mono (fun p hp => ⟨hp, ?_⟩) (hb.frame (· ∈ before)), fun _ => ?_⟩
  · rw [hps, List.mem_append] at hp
    exact Or.inr hp
  · obtain ⟨_, _, _, _, _, hz, hn⟩ := hW
    refine ⟨hok, _, _, ([] ++ pa) ++ pv, ⟨[] ++ pa, pv, trodAll_append (hargs _ (fun _ _ => rfl)) (hres _ _ _), hvars _ (fun _ _ => rfl), rfl, ?_, ?_⟩, ?_⟩
    · intro b off hp
      have hin : MemPlace.cell b off ∈ before := by rw [hps]; simpa using hp
      rw [hb.frozen (hlt _ hin)]
      exact hz b off hin
    · intro ha
      have := hn ha
      rw [hps] at this
      simpa using this
    · intro p hp _
      rw [hps]
      simpa using hp
end

end Go.Proofs.YtkppbmfliejnmaaDoor

/- The argument of a law over bytes, opened. -/
namespace Go.Proofs.YtkppbmfliejnmaaDoor
open Go.ChangeShapes Go.WideShapes Go.ChangeAt Go.RowKit Go.Deep

variable {H : Type} {enc : TypeId × Value → H}
set_option maxRecDepth 100000 in
theorem open_bytesB {W : World} {sp : Nat → Bool} {held : Bool} {b0 : Nat} {v : Value} {d : DataW H} {p : List MemPlace} (hv : Value.okWide Tryd.prog W .any b0 22 v)
    (h : DataW.Trod enc Tryd.prog W 0 (fun _ => true) held 22 v d p) : ∃ xs, ArgB W v xs := by
  obtain ⟨a0, len, cap, rfl⟩ := okWide_slice Tryd.underlying22 hv
  obtain ⟨fuel, hf⟩ := h
  rcases open_ints Tryd.underlying22 Tryd.underlying5 cellsByte hf with ⟨hc, _⟩ | ⟨a, len', cap', zs, hc, _, hl, hm, hz, _, hcell, hwz⟩
  · obtain ⟨rfl, rfl, rfl⟩ : a0 = none ∧ len = 0 ∧ cap = 0 := by simpa [Value.cells] using hc
    exact ⟨[], none, 0, rfl, by simp, by simp, .inl rfl⟩
  · obtain ⟨rfl, rfl, rfl⟩ : a0 = some a ∧ len = len' ∧ cap = cap' := by simpa [Value.cells] using hc
    simp only [if_true] at hz
    have hll : (zs.take len).length = len := by rw [List.length_take]; omega
    have hm' := hm
    rw [maxLen_eq] at hm'
    refine ⟨zs.take len, some a, cap, by rw [hll], by rw [hll]; omega, fun x hx => ?_, ?_⟩
    · obtain ⟨j, hj, rfl⟩ := List.getElem_of_mem hx
      rw [hll] at hj
      have := range_u8 hwz j
      have hjz : j < zs.length := by omega
      simpa [hjz] using this
    · by_cases h0 : len = 0
      · subst h0; exact .inl (by simp)
      · have hs := spot_of (show W.cell? a = some _ from hcell 0 (by omega))
        refine .inr ⟨a.block, a.off, ?_, fun j u hu => ?_⟩
        · obtain ⟨b, o, s⟩ := a; simp only at hs; subst hs; rfl
        · have hj : j < len := by
            have := (List.getElem?_eq_some_iff.1 hu).1
            rw [List.length_map, hll] at this; exact this
          have h1 := cell_add (hcell j (by omega)) hs
          rw [h1]
          rw [List.getElem?_map, List.getElem?_take, if_pos hj] at hu
          rw [← hu]
          simp [List.getD, List.getElem?_eq_getElem (show j < zs.length by omega)]

end Go.Proofs.YtkppbmfliejnmaaDoor
