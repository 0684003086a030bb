/- Walk: the law FnContracted. -/
import Derived.Test.YtjdlmjmhlbpooaaDoorCoQ31
import Derived.Test.YtjdlmjmhlbpooaaDoorCoQ36
import Derived.Test.YtjdlmjmhlbpooaaDoorCoQ41
import Derived.Test.YtjdlmjmhlbpooaaDoorCoQ20
import Derived.Test.YtjdlmjmhlbpooaaDoorCoQ43
namespace Go.Proofs.YtjdlmjmhlbpooaaDoor
open Go.RowKit

theorem parts_exC (E : Nat → Nat → Bool) : ∀ (n : Nat) (L : List Nat), L.length ≤ n → ∃ ps, Parts E L ps
  | _, [], _ => ⟨[], .done⟩
  | 0, _ :: _, h => by simp at h
  | n + 1, u :: L, h => by
    have h1 := restL_lt (E := E) (List.mem_cons_self (a := u) (l := L))
    obtain ⟨ps, hp⟩ := parts_exC E n (restL E (u :: L) u) (by omega)
    exact ⟨_, .step u L ps hp⟩

set_option maxRecDepth 100000 in
set_option maxHeartbeats 8000000 in
theorem lawContracted_any (v0 : Value) (bs : List Int) (W : World) (ha : ArgB W v0 bs) (hT : Tab W) :
    Calls Tryd.prog 8 #[v0] W fun e w' => e = .returned (.bool true) ∧ Below W.heap.size W w' := by
  obtain ⟨p, c, e0, _⟩ := id ha
  subst e0
  have HA := Lib.hid ha
  have HT := Lib.hid hT
  clear ha hT
  go_enter Tryd.func8, Tryd.ntmps8
  by_cases hbig : 4096 < bs.length
  · have hd := decide_eq_true hbig
    go_wp2_with (go_at_call 18; refine (big_any _ bs _ HA.out).mono ?_; rintro e w2 ⟨he, rfl⟩; rw [hd] at he; subst he)
    go_ret
    exact ⟨rfl, Below.refl _ _⟩
  have hd := decide_eq_false hbig
  have hl : bs.length ≤ 4096 := by omega
  clear hbig
  go_upto_region 4 with (first
    | (go_at_call 47; refine (drawContracted_any _ bs hl _ HA.out).mono ?_; rintro e w2 ⟨gp, gc, g, x, y, rfl, hg, hgl, hgr, hb2⟩)
    | (go_at_call 18; refine (big_any _ bs _ HA.out).mono ?_; rintro e w1 ⟨he, rfl⟩; rw [hd] at he; subst he))
  obtain ⟨w3, hw3⟩ : ∃ w3, w3 = w2.alloc (.cells #[.slice gp g.length gc] 29) := ⟨_, rfl⟩
  rw [← hw3]
  have hb23 : Below w2.heap.size w2 w3 := by rw [hw3]; exact below_alloc _ _
  have HX3 : Hid (Box w3 w2.heap.size 29 (.slice gp g.length gc)) := Lib.hid (by rw [hw3]; exact Box.new _ _ _)
  have HG3 : Hid (Gr w3 (.agg #[.slice gp g.length gc]) g) := Lib.hid (hg.below hb23)
  have HW3 := Lib.hid (hb2.trans (hb23.mono hb2.size))
  have HT3 := Lib.hid (HT.out.keep HW3.out)
  have c3 := HX3.out.cell
  generalize w2.heap.size = bx at *
  clear hw3 hb23 hb2 hg hd
  by_cases hE : EdgP g x y
  case neg =>
    have HE := Lib.hid hE
    have HDE := Lib.hid (dec_false hE)
    clear hE
    go_upto_region 5 with (go_at_call 48; refine (implContracted_no _ g x y HE.out _ HG3.out).mono ?_; rintro e w4 ⟨rfl, hb4⟩)
    obtain ⟨w5, hw5⟩ : ∃ w5, w5 = w4.alloc (.cells #[.slice none 0 0] 29) := ⟨_, rfl⟩
    rw [← hw5]
    have hb45 : Below w4.heap.size w4 w5 := by rw [hw5]; exact below_alloc _ _
    have HX5 : Hid (Box w5 w4.heap.size 29 (.slice none 0 0)) := Lib.hid (by rw [hw5]; exact Box.new _ _ _)
    have HB5 := Lib.hid (hb4.trans (hb45.mono hb4.size))
    have HG5 := Lib.hid (HG3.out.below HB5.out)
    have c5 := HB5.out.at' c3
    generalize w4.heap.size = bz at *
    clear hw5 hb45 hb4 c3
    go_wp2_with (go_at_call 49; refine (specEdgeInC_any _ g x y _ HG5.out).mono ?_; rintro e w6 ⟨he, hb6⟩; rw [HDE.out] at he; subst he; have cz := (HX5.out.keep hb6).cell)
    go_ret
    exact ⟨rfl, HW3.out.trans ((HB5.out.trans (hb6.mono HB5.out.size)).mono HW3.out.size)⟩
  have HE := Lib.hid hE
  have HDE := Lib.hid (dec_true hE)
  have HOK := Lib.hid hE.1
  obtain ⟨xk, hxk⟩ : ∃ xk, xk = g.length - 1 := ⟨_, rfl⟩
  have h16 := hE.1.le
  obtain ⟨lo, hi, hlh, hin, HLO, HHI, HLO2, HHI2, HOF⟩ : ∃ lo hi : Nat, lo < hi ∧ hi < g.length ∧ Hid ((if y < x then y else x) = (lo : Int)) ∧ Hid ((if x < y then y else x) = (hi : Int)) ∧ Hid ((if x < y then x else y) = (lo : Int)) ∧ Hid ((if y < x then x else y) = (hi : Int)) ∧ Hid (ofG g lo hi = true) := by
    obtain ⟨a, b, rfl, rfl, h1, h2, h3, h4⟩ := hE.nat
    rcases Nat.lt_or_gt_of_ne h3 with h | h
    · refine ⟨a, b, h, h2, Lib.hid ?_, Lib.hid ?_, Lib.hid ?_, Lib.hid ?_, Lib.hid h4⟩
      · rw [if_neg (by omega)]
      · rw [if_pos (by omega)]
      · rw [if_pos (by omega)]
      · rw [if_neg (by omega)]
    · refine ⟨b, a, h, h1, Lib.hid ?_, Lib.hid ?_, Lib.hid ?_, Lib.hid ?_, Lib.hid (ofG_sym hE.1 _ _ h4)⟩
      · rw [if_pos (by omega)]
      · rw [if_neg (by omega)]
      · rw [if_neg (by omega)]
      · rw [if_pos (by omega)]
  have HE2 : Hid (EdgP g y x) := Lib.hid (by
    obtain ⟨a, b, rfl, rfl, h1, h2, h3, h4⟩ := hE.nat
    refine ⟨hE.1, ⟨by omega, by omega⟩, ?_⟩
    have := ofG_sym hE.1 _ _ h4
    rw [Int.toNat_natCast]
    simpa [ofG] using this)
  obtain ⟨H, hH⟩ : ∃ H, H = conG g lo hi := ⟨_, rfl⟩
  have HHOK : Hid (GOk H) := Lib.hid (by rw [hH]; exact conG_gok hE.1 hlh hin)
  have hHl : H.length = xk := by rw [hH, hxk]; exact conG_length hin
  have HHL := Lib.hid hHl
  have HDH := Lib.hid (dec_true HHOK.out)
  have SAME : Hid (∀ wz (u v : Value), Gr wz u H → Gr wz v H → Calls Tryd.prog 38 #[u, v] wz fun e w' => e = .returned (.bool true) ∧ Below wz.heap.size wz w') := Lib.hid (fun wz u v hu hv => by
    refine (implSameGraph_any u v H H wz hu hv).mono ?_
    rintro e w' ⟨rfl, hb⟩
    exact ⟨ret_bool (dec_true ⟨HHOK.out, HHOK.out, rfl⟩), hb⟩)
  obtain ⟨cx, cg, hcc, HCX, HCG⟩ : ∃ cx cg : Nat, (cx : Int) < (cg : Int) ∧ Hid (cntE H H.length = cx) ∧ Hid (cntE g g.length = cg) := ⟨_, _, by
    have := conG_less hE.1 hlh hin HOF.out
    rw [← hH] at this
    omega, Lib.hid rfl, Lib.hid rfl⟩
  obtain ⟨K, HPX, HPG⟩ : ∃ K : Nat, Hid (∀ gg, PtS H gg → gg.length = K) ∧ Hid (∀ gg, PtS g gg → gg.length = K) := by
    obtain ⟨ps, hp⟩ := parts_exC (ofG g) g.length (List.range g.length) (by simp)
    refine ⟨ps.length, Lib.hid fun gg h => ?_, Lib.hid fun gg h => ?_⟩
    · rcases h with ⟨_, rs, h1, rfl⟩ | ⟨h1, _⟩
      · rw [List.length_map]
        rw [hH] at h1
        exact conG_parts hE.1 hlh hin HOF.out hp h1
      · exact absurd HHOK.out h1
    · rcases h with ⟨_, rs, h1, rfl⟩ | ⟨h1, _⟩
      · rw [List.length_map, parts_det h1 hp]
      · exact absurd hE.1 h1
  have hwr : IntKind.i64.wrap ((g.length : Int) - 1) = (xk : Int) := by rw [IntKind.wrap_i64]; omega
  have CON : Hid (∀ wz, Gr wz (.agg #[.slice gp g.length gc]) g → Tab wz → Calls Tryd.prog 48 #[.agg #[.slice gp g.length gc], .int .i64 x, .int .i64 y] wz fun e w' => ∃ (p : Option Addr) (c : Nat), e = .returned (.tuple #[.agg #[.slice p xk c], .bool true]) ∧ Gr w' (.agg #[.slice p xk c]) H ∧ Below wz.heap.size wz w') := Lib.hid (fun wz hz ht => by
    refine (implContracted_at _ g x y lo hi HE.out HLO.out HHI.out hlh hin wz hz ht).mono ?_
    rintro e w' ⟨p, c, rfl, hd, hb⟩
    rw [← hxk, ← hH] at hd
    exact ⟨p, c, by rw [hxk], hd.gr (by omega) (fun j _ => by rw [hH]; exact Nat.le_trans (matG_row_le j) (by rw [natInts_length, restN_length hin]; omega)), hb⟩)
  have CON2 : Hid (∀ wz, Gr wz (.agg #[.slice gp g.length gc]) g → Tab wz → Calls Tryd.prog 48 #[.agg #[.slice gp g.length gc], .int .i64 y, .int .i64 x] wz fun e w' => ∃ (p : Option Addr) (c : Nat), e = .returned (.tuple #[.agg #[.slice p xk c], .bool true]) ∧ Gr w' (.agg #[.slice p xk c]) H ∧ Below wz.heap.size wz w') := Lib.hid (fun wz hz ht => by
    refine (implContracted_at _ g y x lo hi HE2.out HLO2.out HHI2.out hlh hin wz hz ht).mono ?_
    rintro e w' ⟨p, c, rfl, hd, hb⟩
    rw [← hxk, ← hH] at hd
    exact ⟨p, c, by rw [hxk], hd.gr (by omega) (fun j _ => by rw [hH]; exact Nat.le_trans (matG_row_le j) (by rw [natInts_length, restN_length hin]; omega)), hb⟩)
  have PX : Hid (∀ wz (v : Value), Gr wz v H → Tab wz → Calls Tryd.prog 25 #[v] wz fun e w' => ∃ p c, e = .returned (.slice p K c) ∧ Below wz.heap.size wz w') := Lib.hid (fun wz v hz ht => by
    refine (implPartsOf_any _ H wz hz ht).mono ?_
    rintro e w' ⟨u, gg, rfl, hp, hd, _, _, hb⟩
    obtain ⟨q, d, e1⟩ := hd.shape
    simp only [Value.agg.injEq, Array.mk.injEq, List.cons.injEq, and_true] at e1
    rw [HPX.out gg hp] at e1
    exact ⟨q, d, by rw [e1], hb⟩)
  have PG : Hid (∀ wz (v : Value), Gr wz v g → Calls Tryd.prog 21 #[v] wz fun e w' => ∃ p c, e = .returned (.slice p K c) ∧ Below wz.heap.size wz w') := Lib.hid (fun wz v hz => by
    refine (specPartsOf_any _ g wz hz).mono ?_
    rintro e w' ⟨u, gg, rfl, hp, hd, _, _, hb⟩
    obtain ⟨q, d, e1⟩ := hd.shape
    simp only [Value.agg.injEq, Array.mk.injEq, List.cons.injEq, and_true] at e1
    rw [HPG.out gg hp] at e1
    exact ⟨q, d, by rw [e1], hb⟩)
  have MX : Hid (∀ wz (v : Value), Gr wz v H → Calls Tryd.prog 33 #[v] wz fun e w' => e = .returned (.int .i64 (cx : Int)) ∧ Below wz.heap.size wz w') := Lib.hid (fun wz v hz => by
    have := implManyN_any v H HHOK.out wz hz
    rw [HCX.out] at this
    exact this)
  have MG : Hid (∀ wz (v : Value), Gr wz v g → Calls Tryd.prog 50 #[v] wz fun e w' => e = .returned (.int .i64 (cg : Int)) ∧ Below wz.heap.size wz w') := Lib.hid (fun wz v hz => by
    have := specManyN_any v g HOK.out wz hz
    rw [HCG.out] at this
    exact this)
  clear hE hxk hH hHl HLO HHI HLO2 HHI2 HE2 HE HHL HCX HCG HPX HPG HOF
  go_upto_region 5 with (go_at_call 48; refine (CON.out _ HG3.out HT3.out).mono ?_; rintro e w4 ⟨xp, xc, rfl, hx4, hb4⟩)
  obtain ⟨w5, hw5⟩ : ∃ w5, w5 = w4.alloc (.cells #[.slice xp xk xc] 29) := ⟨_, rfl⟩
  rw [← hw5]
  have hb45 : Below w4.heap.size w4 w5 := by rw [hw5]; exact below_alloc _ _
  have HX5 : Hid (Box w5 w4.heap.size 29 (.slice xp xk xc)) := Lib.hid (by rw [hw5]; exact Box.new _ _ _)
  have HGX5 := Lib.hid (hx4.below hb45)
  have HB5 := Lib.hid (hb4.trans (hb45.mono hb4.size))
  have HG5 := Lib.hid (HG3.out.below HB5.out)
  have HT5 := Lib.hid (HT3.out.keep HB5.out)
  have HW5 := Lib.hid (HW3.out.trans (HB5.out.mono HW3.out.size))
  have c5 := HB5.out.at' c3
  generalize w4.heap.size = bz at *
  clear hw5 hb45 hb4 c3 hx4 HX3 HG3 HT3 HW3 HB5 CON
  go_upto_region 10 with (first
    | (go_at_call 49; refine (specEdgeInC_any _ g x y _ HG5.out).mono ?_; rintro e w6 ⟨he, hb6⟩; rw [HDE.out] at he; subst he; have cx6 := (HX5.out.keep hb6).cell; have c6 := hb6.at' c5)
    | (go_at_call 48; refine (CON2.out _ (HG5.out.below hb6) (HT5.out.keep hb6)).mono ?_; rintro e w7 ⟨yp, yc, rfl, hy7, hb7⟩))
  obtain ⟨w8, hw8⟩ : ∃ w8, w8 = w7.alloc (.cells #[.slice yp xk yc] 29) := ⟨_, rfl⟩
  rw [← hw8]
  have hb78 : Below w7.heap.size w7 w8 := by rw [hw8]; exact below_alloc _ _
  have HY8 : Hid (Box w8 w7.heap.size 29 (.slice yp xk yc)) := Lib.hid (by rw [hw8]; exact Box.new _ _ _)
  have HGY8 := Lib.hid (hy7.below hb78)
  have HB8 := Lib.hid ((hb6.trans (hb7.mono hb6.size)).trans (hb78.mono (Nat.le_trans hb6.size hb7.size)))
  have HG8 := Lib.hid (HG5.out.below HB8.out)
  have HGX8 := Lib.hid (HGX5.out.below HB8.out)
  have HT8 := Lib.hid (HT5.out.keep HB8.out)
  have HW8 := Lib.hid (HW5.out.trans (HB8.out.mono HW5.out.size))
  have c8 := HB8.out.at' c5
  have x8 := (HX5.out.keep HB8.out).cell
  have y8 := HY8.out.cell
  generalize w7.heap.size = by' at *
  clear hw8 hb78 hb7 hb6 c5 c6 cx6 hy7 HX5 HG5 HGX5 HT5 HW5 HB8 CON2 HY8 HDE
  go_region_held3 (fun w' => w'.cell? ⟨bx, 0, none⟩ = some (.slice gp g.length gc) ∧ w'.cell? ⟨bz, 0, none⟩ = some (.slice xp xk xc) ∧ w'.cell? ⟨by', 0, none⟩ = some (.slice yp xk yc))
    (first | exact ⟨c8, x8, y8⟩ | go_keep | exact ⟨BWF.at' c8, BWF.at' x8, BWF.at' y8⟩ | exact ⟨BWE.at' c8, BWE.at' x8, BWE.at' y8⟩ | exact ⟨BWD.at' c8, BWD.at' x8, BWD.at' y8⟩ | exact ⟨BWC.at' c8, BWC.at' x8, BWC.at' y8⟩ | exact ⟨BWB.at' c8, BWB.at' x8, BWB.at' y8⟩ | exact ⟨BWA.at' c8, BWA.at' x8, BWA.at' y8⟩)
    (first
      | (go_at_call 50; refine (MG.out _ _ (HG8.out.below BWE)).mono ?_; rintro e wf ⟨rfl, hbq⟩; have BWF : Below w8.heap.size w8 wf := BWE.trans (hbq.mono BWE.size); clear hbq)
      | (go_at_call 33; refine (MX.out _ _ (HGX8.out.below BWD)).mono ?_; rintro e we ⟨rfl, hbq⟩; have BWE : Below w8.heap.size w8 we := BWD.trans (hbq.mono BWD.size); clear hbq)
      | (go_at_call 21; refine (PG.out _ _ (HG8.out.below BWC)).mono ?_; rintro e wd ⟨q1, d1, rfl, hbq⟩; have BWD : Below w8.heap.size w8 wd := BWC.trans (hbq.mono BWC.size); clear hbq)
      | (go_at_call 25; refine (PX.out _ _ (HGX8.out.below BWB) (HT8.out.keep BWB)).mono ?_; rintro e wc ⟨q2, d2, rfl, hbq⟩; have BWC : Below w8.heap.size w8 wc := BWB.trans (hbq.mono BWB.size); clear hbq)
      | (go_at_call 32; refine (implGraphOk_any _ H _ (HGX8.out.below BWA)).mono ?_; rintro e wb ⟨he, hbq⟩; rw [HDH.out] at he; subst he; have BWB : Below w8.heap.size w8 wb := BWA.trans (hbq.mono BWA.size); clear hbq)
      | (go_at_call 38; refine (SAME.out _ _ _ (HGX8.out.below (below_dN (Below.refl _ _) 1)) (HGY8.out.below (below_dN (Below.refl _ _) 1))).mono ?_; rintro e wa ⟨rfl, hbq⟩; have BWA : Below w8.heap.size w8 wa := (below_dN (Below.refl _ _) 1).trans hbq; clear hbq))
  all_goals go_wp2
  all_goals go_ret
  all_goals exact ⟨rfl, HW8.out.trans (BWF.mono HW8.out.size)⟩

end Go.Proofs.YtjdlmjmhlbpooaaDoor
