/- Walk: a right trail is found right (the reference's TrailOk). -/
import Derived.Test.YtjdlmjmhlbpooaaDoorTlQQ28
import Derived.Test.YtjdlmjmhlbpooaaDoorTlQQ18
import Derived.Test.YtjdlmjmhlbpooaaDoorTlQQ29
import Derived.Test.YtjdlmjmhlbpooaaDoorTlQQ30
namespace Go.Proofs.YtjdlmjmhlbpooaaDoor
open Go.RowKit

theorem gok_rowsT {g : List (List Int)} (hok : GOk g) (j : Nat) : (row g j).length ≤ 16 := by
  have h16 := hok.le
  by_cases hj : j < g.length
  · have h1 := setIn_length (by omega) (hok.sets j hj).1; omega
  · rw [row_out hj]; simp

theorem specManyEdgesT_any (v : Value) (g : List (List Int)) (hok : GOk g) (w : World) (hg : Gr w v g) :
    Calls Tryd.prog 50 #[v] w fun e w' => e = .returned (.int .i64 (cntE g g.length : Nat)) ∧ Below w.heap.size w w' := by
  have hg0 := hg
  obtain ⟨u, rfl, hr⟩ := hg
  obtain ⟨p, c, rfl, _⟩ := hr.shape
  have hbA := Lib.hid (below_alloc w (.cells #[.slice p g.length c] 29))
  have BX := Lib.hid (Box.new w (.slice p g.length c) 29)
  have HG := Lib.hid (hg0.below hbA.out)
  have hd := dec_true hok
  have Hok := Lib.hid hok
  have h16 := hok.le
  clear hr hg0 hok
  go_enter Tryd.func50, Tryd.ntmps50
  go_wp2_with (first
    | (go_at_call 29; refine (specGraphOk_any _ g _ HG.out).mono ?_; rintro e w2 ⟨rfl, hb2⟩; have hbx := (BX.out.keep hb2).cell)
    | (go_at_call 93; refine (l1Edges_any _ g h16 (gok_rowsT Hok.out) _ (HG.out.below hb2)).mono ?_; rintro e w3 ⟨u3, vals, rfl, ho3, hb3⟩; obtain ⟨p3, c3, rfl⟩ := owns_shape ho3))
  go_ret
  exact ⟨rfl, (hbA.out.trans (hb2.mono hbA.out.size)).trans (hb3.mono (Nat.le_trans hbA.out.size hb2.size))⟩

set_option maxRecDepth 100000 in
theorem l1ThereT_any (v : Value) (g : List (List Int)) (x : Int) (w : World) (hg : Gr w v g) (hn : g.length ≤ 1000000000) :
    Calls Tryd.prog 75 #[v, .int .i64 x] w fun e w' => e = .returned (.bool (dec (0 ≤ x ∧ x < g.length))) ∧ Below w.heap.size w w' := by
  have hg0 := hg
  obtain ⟨u, rfl, hr⟩ := hg
  obtain ⟨p, c, rfl, _⟩ := hr.shape
  have hbA := Lib.hid (below_alloc w (.cells #[.slice p g.length c] 29))
  have HG := Lib.hid (hg0.below hbA.out)
  clear hr hg0
  go_enter Tryd.func75, Tryd.ntmps75
  go_wp2_with (first
    | (go_at_call 74; refine (l1In_any _ _ _ _).mono ?_; rintro e w3 ⟨rfl, rfl⟩)
    | (go_at_call 53; refine (l1Size_any _ g _ HG.out).mono ?_; rintro e w2 ⟨rfl, hb2⟩))
  go_ret
  exact ⟨ret_bool (dec_congr (by omega)), hbA.out.trans (hb2.mono hbA.out.size)⟩

set_option maxRecDepth 100000 in
set_option maxHeartbeats 4000000 in
theorem specTrailOk_yes (v lv : Value) (g : List (List Int)) (x : Nat) (l : List Nat) (hok : GOk g) (hT : TrlOk g.length (ofG g) x l) (hl : l.length ≤ 120) (w : World) (hg : Gr w v g) (hn : Nums w 2 .i64 lv (natInts (x :: l))) :
    Calls Tryd.prog 22 #[v, lv] w fun e w' => e = .returned (.bool true) ∧ Below w.heap.size w w' := by
  obtain ⟨hin, hof, hno⟩ := hT
  have hmany : cntE g g.length = l.length := by
    have h1 := trl_many (n := g.length) l (ofG g) x (ofG_irr hok) (ofG_sym hok) (hin x (by simp)) (fun y hy => hin y (by simp [hy])) hof
    have h2 := two_cntE hok
    have h3 : totN g.length (cutAll (ofG g) (stepsL x l)) = 0 := by
      unfold totN
      have : ∀ m : List Nat, (∀ y ∈ m, y < g.length) → (m.map (degN g.length (cutAll (ofG g) (stepsL x l)))).sum = 0 := by
        intro m
        induction m with
        | nil => intro _; rfl
        | cons a m ih =>
          intro hm
          rw [List.map_cons, List.sum_cons, ih fun y hy => hm y (by simp [hy]), hno a (hm a (by simp))]
      exact this _ fun y hy => List.mem_range.1 hy
    omega
  have HAT := Lib.hid (okF_at _ _ hof)
  have HGT := Lib.hid (stepsL_get l x)
  have HSL : Hid ((stepsL x l).length = l.length) := Lib.hid (stepsL_length x l)
  have hlen : (x :: l).length = l.length + 1 := rfl
  obtain ⟨es, hes⟩ : ∃ es, es = stepsL x l := ⟨_, rfl⟩
  obtain ⟨L, hL⟩ : ∃ L, L = x :: l := ⟨_, rfl⟩
  have HES : Hid (es.length + 1 = L.length) := Lib.hid (by rw [hes, hL, HSL.out]; rfl)
  rw [← hes] at HAT
  have HGL : Hid (∀ t (h : t < es.length), es[t] = (L.getD t 0, L.getD (t + 1) 0)) := Lib.hid (by subst hes; subst hL; exact HGT.out)
  rw [← hL] at hn hin hlen
  have hL1 : 1 ≤ L.length := by omega
  have hL2 : L.length ≤ 121 := by omega
  obtain ⟨m, hm⟩ : ∃ m, m = cntE g g.length := ⟨_, rfl⟩
  have hml : (L.length : Int) - 1 = (m : Int) := by omega
  have HM := Lib.hid hm
  have HML := Lib.hid hml
  clear hof HGT HSL hes hL hlen hl hmany hm hno hml
  obtain ⟨lp, lc, rfl, _⟩ := id hn.shape
  rw [natInts_length] at hn ⊢
  have hg0 := hg
  obtain ⟨u, rfl, hr⟩ := hg
  obtain ⟨p, c, rfl, _⟩ := hr.shape
  have hbA := Lib.hid (below_alloc w (.cells #[.slice p g.length c] 29))
  have HG := Lib.hid (hg0.below hbA.out)
  have BX := Lib.hid (Box.new w (.slice p g.length c) 29)
  have HN := Lib.hid (hn.below hbA.out)
  have hd := Lib.hid (dec_true hok)
  have h16 := hok.le
  have HOK := Lib.hid hok
  have HIN := Lib.hid hin
  have HSN := Lib.hid (cutAll_irr (ofG_irr hok))
  clear hr hg0 hn hok hin
  go_enter Tryd.func22, Tryd.ntmps22
  go_upto_region 1 with fail
  obtain ⟨w1, hw1⟩ : ∃ w1, w1 = w.alloc (.cells #[.slice p g.length c] 29) := ⟨_, rfl⟩
  rw [← hw1] at hbA HG BX HN ⊢
  have hbx := BX.out.cell
  clear hw1
  obtain ⟨lb, lo, hlp, hc0⟩ := HN.out.get (k := 0) (by rw [natInts_length]; omega)
  subst hlp
  have n0 : (natInts L)[0]'(by rw [natInts_length]; omega) = ((L[0]'(by omega) : Nat) : Int) := by simp [natInts]
  rw [n0] at hc0
  have hx0 := HIN.out _ (List.getElem_mem (show 0 < L.length by omega))
  generalize L[0]'(by omega) = x0 at hc0 hx0 n0
  have HT0 := Lib.hid (dec_true (show (0 : Int) ≤ (x0 : Int) ∧ (x0 : Int) < g.length from ⟨by omega, by omega⟩))
  have HIL := Lib.hid (dec_true (show (1 : Int) ≤ (L.length : Int) ∧ (L.length : Int) ≤ 121 from ⟨by omega, by omega⟩))
  have hml := HML.out
  have hmw : IntKind.i64.wrap ((L.length : Int) - 1) = (m : Int) := by rw [IntKind.wrap_i64]; omega
  have hmw3 : IntKind.i64.wrap (m : Int) = (m : Int) := by rw [IntKind.wrap_i64]; omega
  have hlp0 : 0 < L.length := by omega
  have hlpi : (0 : Int) < (L.length : Int) := by omega
  have hmw2 : wrap64 ((L.length : Int) - 1) = (m : Int) := by unfold wrap64; omega
  simp only [Nat.add_zero] at hc0
  clear n0
  go_upto_region 1 with fail
  go_cut [33] (fun s wx => s = .bool false ∧ Below w1.heap.size w1 wx)
  case first =>
    go_region_held3 (fun w' => w'.cell? ⟨w.heap.size, 0, none⟩ = some (.slice p g.length c) ∧ w'.cell? ⟨lb, lo, none⟩ = some (.int .i64 (x0 : Int)))
      (first | go_keep | exact ⟨hbx, hc0⟩ | exact ⟨BWC.at' hbx, BWC.at' hc0⟩ | exact ⟨BWB.at' hbx, BWB.at' hc0⟩ | exact ⟨BWA.at' hbx, BWA.at' hc0⟩)
      (first
        | (go_at_call 50; refine (specManyEdgesT_any _ g HOK.out _ (HG.out.below BWB)).mono ?_; rintro e w5 ⟨he, hb5⟩; rw [← HM.out] at he; subst he; have BWC : Below w1.heap.size w1 w5 := BWB.trans (hb5.mono BWB.size))
        | (go_at_call 75; refine (l1ThereT_any _ g _ _ (HG.out.below BWA) (by omega)).mono ?_; rintro e w4 ⟨he, hb4⟩; rw [HT0.out] at he; subst he; have BWB : Below w1.heap.size w1 w4 := BWA.trans (hb4.mono BWA.size))
        | (go_at_call 74; refine (l1In_any _ _ _ _).mono ?_; rintro e w3 ⟨he, rfl⟩; rw [HIL.out] at he; subst he)
        | (go_at_call 29; refine (specGraphOk_any _ g _ (by first | exact HG.out.below (below_dN (Below.refl _ _) 1))).mono ?_; rintro e w2 ⟨he, hb2⟩; rw [hd.out] at he; subst he; have BWA : Below w1.heap.size w1 w2 := (below_dN (Below.refl _ _) 1).trans hb2))
    all_goals go_wp2
    all_goals go_meet
    all_goals exact ⟨rfl, BWC⟩
  case rest =>
    obtain ⟨rfl, hbc⟩ := hcut
    have HBC := Lib.hid (hbA.out.trans (hbc.mono hbA.out.size))
    have HNc := Lib.hid (HN.out.below hbc)
    have HGc := Lib.hid (HG.out.below hbc)
    have HBXc := Lib.hid (BX.out.keep hbc)
    have hbx2 := HBXc.out.cell
    clear hbc hc0 hbx hml hmw hmw2 hmw3 HN HG BX hbA
    go_upto_region 4 with (go_at_call 52; refine (l25Bits_any _ g _ HGc.out HOK.out).mono ?_; rintro e w4 ⟨xv, rfl, hown4, hb4⟩)
    obtain ⟨tb, tc, rfl⟩ := owns_someT hown4 (by have := HOK.out.pos; omega)
    rw [← indN_ofG HOK.out] at hown4
    have HO4 := Lib.hid hown4
    have HB4 := Lib.hid hb4
    have hsc := HBC.out.size
    clear hown4 hb4 hbx2
    go_wp2
    go_loopw [6] (fun i wr => ∃ t k : Nat, Hid (k = t + 1) ∧ i = .int .i64 (k : Int) ∧ t < L.length ∧ Hid (wr.ownsRow wc.heap.size 2 1 (.slice (some ⟨tb, 0, none⟩) g.length tc) g.length ((indN g.length (cutAll (ofG g) (es.take t))).map i64v)) ∧ Hid (Below wc.heap.size wc wr)) (fun i _ => L.length + 1 - (intOf i).toNat)
    case atStart => exact ⟨0, 1, Lib.hid rfl, rfl, hL1, Lib.hid (by rw [List.take_zero]; exact HO4.out), HB4⟩
    case round =>
      clear HO4 HB4
      obtain ⟨t, k, HK, rfl, ht, HO, HBW⟩ := hrel
      by_cases hlt : k < L.length
      · have hte : t < es.length := by have := HES.out; have := HK.out; omega
        have HE := Lib.hid (HAT.out t hte)
        have HG2 := HGL.out t hte
        have htk := Lib.hid (take_snoc es t hte)
        have hNw := HNc.out.below HBW.out
        obtain ⟨_, _, hlp, hc0⟩ := hNw.get (k := t) (by rw [natInts_length]; omega)
        cases hlp
        obtain ⟨_, _, hlp, hc1⟩ := hNw.get (k := k) (by rw [natInts_length]; omega)
        cases hlp
        have n0 : (natInts L)[t]'(by rw [natInts_length]; omega) = ((L[t]'(by omega) : Nat) : Int) := by simp [natInts]
        have n1 : (natInts L)[k]'(by rw [natInts_length]; omega) = ((L[k]'hlt : Nat) : Int) := by simp [natInts]
        rw [n0] at hc0
        rw [n1] at hc1
        have d0 : L.getD t 0 = L[t]'(by omega) := by simp [show t < L.length by omega]
        have d1 : L.getD k 0 = L[k]'hlt := by simp [hlt]
        rw [← HK.out, d0, d1] at HG2
        have ha := HIN.out _ (List.getElem_mem (show t < L.length by omega))
        have hb := HIN.out _ (List.getElem_mem hlt)
        clear d0 d1 n0 n1 hNw
        generalize L[t]'(by omega) = a at hc0 HG2 ha
        generalize L[k]'hlt = b at hc1 HG2 hb
        have hE := HE.out
        rw [HG2] at hE htk
        simp only at hE
        generalize hF : cutAll (ofG g) (es.take t) = F at HO hE htk
        have hFi : ∀ r, F r r = false := fun r => by rw [← hF]; exact HSN.out _ r
        have hab : a ≠ b := fun e => by
          subst e
          rw [hFi] at hE
          exact absurd hE (by decide)
        have hal : (indN g.length F).length = g.length := indN_length _ _
        have hwb := wrap_pow b (by omega)
        have hwa := wrap_pow a (by omega)
        have hb16 := pow_lt16 b (by omega)
        have ha16 := pow_lt16 a (by omega)
        obtain ⟨qb, hqb⟩ : ∃ q, q = 2 ^ b := ⟨_, rfl⟩
        obtain ⟨qa, hqa⟩ : ∃ q, q = 2 ^ a := ⟨_, rfl⟩
        rw [← hqb] at hwb hb16
        rw [← hqa] at hwa ha16
        have hs16 := getD_lt16 (E := F) h16 ha
        have hr16 := getD_lt16 (E := F) h16 hb
        have hsb : ((indN g.length F).getD a 0).testBit b = true := by rw [indN_bit ha]; simp [hb, hE]
        obtain ⟨s, hs⟩ : ∃ s, s = (indN g.length F).getD a 0 := ⟨_, rfl⟩
        obtain ⟨r, hr⟩ : ∃ r, r = (indN g.length F).getD b 0 := ⟨_, rfl⟩
        rw [← hs] at hs16 hsb
        rw [← hr] at hr16
        have hbit := shrB_bit s b hs16
        rw [hsb] at hbit
        simp only [if_true, Int.natCast_one] at hbit
        have hn1 := i64_andNot_nat s qb (Nat.lt_trans hs16 (by decide)) (Nat.lt_trans hb16 (by decide))
        have hn2 := i64_andNot_nat r qa (Nat.lt_trans hr16 (by decide)) (Nat.lt_trans ha16 (by decide))
        obtain ⟨X, hX⟩ : ∃ X, X = sub s qb := ⟨_, rfl⟩
        obtain ⟨Y, hY⟩ : ∃ Y, Y = sub r qa := ⟨_, rfl⟩
        rw [← hX] at hn1
        rw [← hY] at hn2
        have hpart : ((indN g.length F).set a X).set b Y = indN g.length (cutE F a b) := by
          rw [← partN_indN h16 ha hb hab]
          have e1 : ((indN g.length F).set a X).getD b 0 = r := by rw [getD_set_ne hab, hr]
          simp only [partN, ← hs, ← hqb, ← hX, e1, ← hqa, ← hY]
        have HTWO : Hid (∀ w5, Below wr.heap.size wr w5 → w5.cell? ⟨tb, a, none⟩ = some (.int .i64 (s : Int)) ∧ w5.frozen? ⟨tb, a, none⟩ = false ∧ (w5.setCell ⟨tb, a, none⟩ (.int .i64 (X : Int))).cell? ⟨tb, b, none⟩ = some (.int .i64 (r : Int)) ∧ (w5.setCell ⟨tb, a, none⟩ (.int .i64 (X : Int))).frozen? ⟨tb, b, none⟩ = false ∧
            Hid (((w5.setCell ⟨tb, a, none⟩ (.int .i64 (X : Int))).setCell ⟨tb, b, none⟩ (.int .i64 (Y : Int))).ownsRow wc.heap.size 2 1 (.slice (some ⟨tb, 0, none⟩) g.length tc) g.length ((indN g.length (cutAll (ofG g) (es.take (t + 1)))).map i64v)) ∧
            Hid (Below wc.heap.size wc ((w5.setCell ⟨tb, a, none⟩ (.int .i64 (X : Int))).setCell ⟨tb, b, none⟩ (.int .i64 (Y : Int))))) := Lib.hid (by
          intro w5 h5
          have ho5 := ownsRow_below HO.out h5
          have hb5 := HBW.out.trans (h5.mono HBW.out.size)
          obtain ⟨f1, f2, f3, f4, f5, f6⟩ := i64_two (a := indN g.length F) (by rw [hal]; exact ho5) (by omega : a < (indN g.length F).length) (by omega : b < (indN g.length F).length) hab X Y
          rw [← hs] at f1
          rw [← hr] at f3
          rw [hpart, hal] at f5
          rw [htk.out, cutAll_snoc, hF]
          exact ⟨f1, f2, f3, f4, Lib.hid f5, Lib.hid (below_grown hb5 ho5 f6 (Nat.le_refl _) hb5.size)⟩)
        have HTB := Lib.hid (dec_true (show (0 : Int) ≤ (b : Int) ∧ (b : Int) < g.length from ⟨by omega, by omega⟩))
        have hbx3 := (HBXc.out.keep HBW.out).cell
        have HGw := Lib.hid (HGc.out.below HBW.out)
        have hwr : IntKind.i64.wrap ((k : Int) - 1) = (t : Int) := by have := HK.out; rw [IntKind.wrap_i64]; omega
        have hw64 : wrap64 ((k : Int) - 1) = (t : Int) := by have := HK.out; unfold wrap64; omega
        have hkp : 1 ≤ k := by have := HK.out; omega
        have hkt : k - 1 = t := by have := HK.out; omega
        have e0 : (0 : Int) ≤ (t : Int) := by omega
        have e1 : (t : Int) < (L.length : Int) := by omega
        have e4 : (0 : Int) ≤ (k : Int) - 1 := by omega
        have e5 : (k : Int) - 1 < (L.length : Int) := by omega
        have e6 : ((k : Int) - 1).toNat = t := by omega
        clear hE HG2 hF hFi hal hqa hqb hs hr hX hY hpart hsb
        go_wp2_with (go_at_call 75; refine (l1ThereT_any _ g _ _ HGw.out (by omega)).mono ?_; rintro e w5 ⟨he, hb5⟩; rw [HTB.out] at he; subst he; obtain ⟨f1, f2, f3, f4, F5, F6⟩ := HTWO.out w5 hb5; have hc0' := hb5.at' hc0; have hc1' := hb5.at' hc1)
        go_roundw
        case rel => exact ⟨t + 1, k + 1, Lib.hid (by rw [HK.out]), by go_num, by have := HK.out; omega, F5, F6⟩
        case measure => simp [intOf]; omega
      · go_wp2
        go_ret
        exact ⟨rfl, HBC.out.trans (HBW.out.mono HBC.out.size)⟩

end Go.Proofs.YtjdlmjmhlbpooaaDoor
