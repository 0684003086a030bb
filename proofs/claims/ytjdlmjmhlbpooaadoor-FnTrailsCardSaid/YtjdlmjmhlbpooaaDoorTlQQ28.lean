/- Walk: a right trail is found right (the program's TrailOk). -/
import Derived.Test.YtjdlmjmhlbpooaaDoorTlQQ27
import Derived.Test.YtjdlmjmhlbpooaaDoorTlQQ14
import Derived.Deep.DeepCutAuto
import Derived.Deep.RegionHeld3
namespace Go.Proofs.YtjdlmjmhlbpooaaDoor
open Go.RowKit

theorem okF_at : ∀ (es : List (Nat × Nat)) (E : Nat → Nat → Bool), OkF E es → ∀ t (h : t < es.length), cutAll E (es.take t) es[t].1 es[t].2 = true
  | [], _, _, t, h => by simp at h
  | e :: es, E, hk, 0, _ => hk.1
  | e :: es, E, hk, t + 1, h => by
    simp only [List.length_cons] at h
    have := okF_at es (cutE E e.1 e.2) hk.2 t (by omega)
    simpa [cutAll_cons] using this
theorem stepsL_get : ∀ (l : List Nat) (x t : Nat) (h : t < (stepsL x l).length), (stepsL x l)[t] = ((x :: l).getD t 0, (x :: l).getD (t + 1) 0)
  | [], _, t, h => by simp [stepsL] at h
  | u :: l, x, 0, _ => by simp [stepsL]
  | u :: l, x, t + 1, h => by
    have h' : t < (stepsL u l).length := by simpa [stepsL] using h
    have := stepsL_get l u t h'
    simp only [stepsL, List.getElem_cons_succ, this]
    simp

set_option maxRecDepth 100000 in
set_option maxHeartbeats 1000000 in
theorem isVertexT_any (v : Value) (g : List (List Int)) (x : Int) (w : World) (hg : Gr w v g) (hgl : g.length ≤ 1000000000) :
    Calls Tryd.prog 78 #[v, .int .i64 x] w fun e w' => e = .returned (.bool (dec (GOk g ∧ 0 ≤ x ∧ x < g.length))) ∧ Below w.heap.size w w' := by
  have hg0 := hg
  obtain ⟨u, rfl, hr⟩ := hg
  obtain ⟨p, c, rfl, _⟩ := hr.shape
  have hbA := Lib.hid (below_alloc w (.cells #[.slice p g.length c] 29))
  have BX := Lib.hid (Box.new w (.slice p g.length c) 29)
  have HG := Lib.hid (hg0.below hbA.out)
  have hwr : IntKind.i64.wrap ((g.length : Int) - 1) = (g.length : Int) - 1 := by rw [IntKind.wrap_i64]; omega
  clear hr hg0
  by_cases hok : GOk g
  case neg =>
    have hd := dec_false hok
    have Hok := Lib.hid hok
    clear hok
    go_enter Tryd.func78, Tryd.ntmps78
    go_wp2_with (go_at_call 32; refine (implGraphOk_any _ g _ HG.out).mono ?_; rintro e w2 ⟨he, hb2⟩; rw [hd] at he; subst he)
    go_ret
    exact ⟨ret_bool (false_dec fun h => Hok.out h.1), hbA.out.trans (hb2.mono hbA.out.size)⟩
  have hd := dec_true hok
  have Hok := Lib.hid hok
  clear hok
  go_enter Tryd.func78, Tryd.ntmps78
  go_wp2_with (first
    | (go_at_call 94; refine (inRange_any _ _ _ _).mono ?_; rintro e w3 ⟨rfl, rfl⟩)
    | (go_at_call 32; refine (implGraphOk_any _ g _ HG.out).mono ?_; rintro e w2 ⟨he, hb2⟩; rw [hd] at he; subst he; have hbx := (BX.out.keep hb2).cell))
  go_ret
  exact ⟨ret_bool (dec_congr ⟨fun h => ⟨Hok.out, by omega⟩, fun h => by have := h.2; omega⟩), hbA.out.trans (hb2.mono hbA.out.size)⟩

set_option maxRecDepth 100000 in
set_option maxHeartbeats 1000000 in
theorem notVertex_any (z : Int) (x gb : Nat) (g : List (List Int)) (p : Option Addr) (c : Nat) (hz : z = x) (hok : GOk g) (hx : x < g.length) (w : World) (hB : Box w gb 29 (.slice p g.length c)) (hg : Gr w (.agg #[.slice p g.length c]) g) :
    Calls Tryd.prog 77 #[.int .i64 z, .pointer (some ⟨gb, 0, none⟩)] w fun e w' => e = .returned (.bool false) ∧ Below w.heap.size w w' := by
  subst hz
  have hc := hB.cell
  have HG := Lib.hid hg
  have HD := Lib.hid (dec_true (show GOk g ∧ (0 : Int) ≤ (x : Int) ∧ (x : Int) < g.length from ⟨hok, by omega, by omega⟩))
  have h16 := hok.le
  clear hB hg hok
  go_enter Tryd.func77, Tryd.ntmps77
  go_wp2_with (go_at_call 78; refine (isVertexT_any _ g (x : Int) _ HG.out (by omega)).mono ?_; rintro e w2 ⟨he, hb2⟩; rw [HD.out] at he; subst he)
  go_ret
  exact ⟨rfl, hb2⟩

set_option maxRecDepth 100000 in
set_option maxHeartbeats 2000000 in
theorem indexVx_any (lv : Value) (L : List Nat) (gb : Nat) (g : List (List Int)) (p : Option Addr) (c : Nat) (hok : GOk g) (hL : ∀ x ∈ L, x < g.length) (hl200 : L.length ≤ 200) (w : World) (hl : Nums w 2 .i64 lv (natInts L)) (hB : Box w gb 29 (.slice p g.length c)) (hg : Gr w (.agg #[.slice p g.length c]) g) :
    Calls Tryd.prog 122 #[lv, .func (.func 77) #[] #[.pointer (some ⟨gb, 0, none⟩)]] w fun e w' => e = .returned (.int .i64 (-1)) ∧ Below w.heap.size w w' := by
  obtain ⟨lp, lc, rfl, _⟩ := id hl.shape
  rw [natInts_length]
  have HL := Lib.hid hl
  have HB := Lib.hid hB
  have HG := Lib.hid hg
  have HOK := Lib.hid hok
  have HIN := Lib.hid hL
  clear hl hB hg hok hL
  go_enter Tryd.func122, Tryd.ntmps122
  go_wp2
  go_loopw [8] (fun i wr => ∃ k : Nat, k ≤ L.length ∧ i = .int .i64 k ∧ Below w.heap.size w wr) (fun i _ => L.length - (intOf i).toNat)
  case atStart => exact ⟨0, Nat.zero_le _, rfl, Below.refl _ _⟩
  case round =>
    obtain ⟨k, hk, rfl, hbel⟩ := hrel
    have HBW := Lib.hid hbel
    clear hbel
    by_cases hlt : k < L.length
    · have hlr := HL.out.below HBW.out
      rw [natInts_length] at hlr
      obtain ⟨qb, qo, rfl, hq⟩ := hlr.get (k := k) (by rw [natInts_length]; exact hlt)
      have hx := HIN.out _ (List.getElem_mem hlt)
      have e1 : (natInts L)[k]'(by rw [natInts_length]; exact hlt) = ((L[k] : Nat) : Int) := by simp [natInts]
      rw [e1] at hq
      generalize L[k] = x at hq hx
      clear hlr e1
      go_wp2_with (go_at_call 77; refine (notVertex_any _ x gb g p c rfl HOK.out hx _ (HB.out.keep HBW.out) (HG.out.below HBW.out)).mono ?_; rintro e w2 ⟨rfl, hb2⟩)
      go_roundw
      case rel => exact ⟨k + 1, by omega, by go_num, HBW.out.trans (hb2.mono HBW.out.size)⟩
      case measure => simp [intOf]; omega
    · obtain rfl : k = L.length := by omega
      go_wp2
      go_ret
      exact ⟨rfl, HBW.out⟩

set_option maxRecDepth 100000 in
set_option maxHeartbeats 1000000 in
theorem useEdge_yes (x : Value) (y z : Int) (n : Nat) (E : Nat → Nat → Bool) (u v base : Nat) (hy : y = u) (hz : z = v) (hn : n ≤ 16) (hu : u < n) (hv : v < n) (huv : u ≠ v) (hE : E u v = true) (w : World) (ho : w.ownsRow base 69 1 x n ((indN n E).map u32v)) :
    Calls Tryd.prog 79 #[x, .int .i64 y, .int .i64 z] w fun e w' => e = .returned (.bool true) ∧ w'.ownsRow base 69 1 x n ((indN n (cutE E u v)).map u32v) ∧ w.grownBy w' x.ownBlock := by
  subst hy; subst hz
  have hne : NE w x n E := ⟨hn, Sl.of_owns ho (by omega)⟩
  obtain ⟨xp, xc, rfl⟩ : ∃ p c, x = .slice p n c := by obtain ⟨p, c, e, _⟩ := hne.sl; exact ⟨p, c, e⟩
  obtain ⟨cb, co, s, hxp, hcell, hil, hib⟩ := hne.get hu
  subst hxp
  have hbit : s.testBit v = true := by rw [hib]; simp [hv, hE]
  have HBT := Lib.hid hbit
  have HPT : Hid (Calls Tryd.prog 66 #[.slice (some ⟨cb, co, none⟩) n xc, .int .i64 u, .int .i64 v] w fun e w' => e = .returned (.tuple #[]) ∧ w'.ownsRow base 69 1 (.slice (some ⟨cb, co, none⟩) n xc) n ((indN n (cutE E u v)).map u32v) ∧ w.grownBy w' (Value.slice (some ⟨cb, co, none⟩) n xc).ownBlock) := Lib.hid (by
    have h := part_any (.slice (some ⟨cb, co, none⟩) n xc) u v (indN n E) u v base rfl rfl (by rw [indN_length]; exact hu) (by rw [indN_length]; exact hv) huv (by rw [indN_length]; exact hn) (indN_lt16 hn) w (by rw [indN_length]; exact ho)
    rw [indN_length, partN_indN hn hu hv huv] at h
    exact h)
  have hv32 : v < 32 := by omega
  clear hbit hib hne ho hE
  go_enter Tryd.func79, Tryd.ntmps79
  go_wp2_with (first
    | (go_at_call 66; refine HPT.out.mono ?_; rintro e w3 ⟨rfl, ho3, hg3⟩)
    | (go_at_call 101; refine (has_any _ _ s v rfl rfl (by omega) hv32 _).mono ?_; rintro e w2 ⟨he, rfl⟩; rw [HBT.out] at he; subst he))
  go_ret
  exact ⟨rfl, ho3, hg3⟩

set_option maxRecDepth 100000 in
set_option maxHeartbeats 1000000 in
theorem containsVx_any (lv : Value) (L : List Nat) (gb : Nat) (g : List (List Int)) (p : Option Addr) (c : Nat) (hok : GOk g) (hL : ∀ x ∈ L, x < g.length) (hl200 : L.length ≤ 200) (w : World) (hl : Nums w 2 .i64 lv (natInts L)) (hB : Box w gb 29 (.slice p g.length c)) (hg : Gr w (.agg #[.slice p g.length c]) g) :
    Calls Tryd.prog 76 #[lv, .func (.func 77) #[] #[.pointer (some ⟨gb, 0, none⟩)]] w fun e w' => e = .returned (.bool false) ∧ Below w.heap.size w w' := by
  have HC := Lib.hid (indexVx_any lv L gb g p c hok hL hl200 w hl hB hg)
  obtain ⟨lp, lc, rfl, _⟩ := id hl.shape
  clear hl hB hg hok hL
  go_enter Tryd.func76, Tryd.ntmps76
  go_wp2_with (go_at_call 122; refine HC.out.mono ?_; rintro e w3 ⟨rfl, hb3⟩)
  go_ret
  exact ⟨rfl, hb3⟩

set_option maxRecDepth 100000 in
set_option maxHeartbeats 4000000 in
theorem implTrailOk_yes (v lv : Value) (g : List (List Int)) (x : Nat) (l : List Nat) (hok : GOk g) (hT : TrlOk g.length (ofG g) x l) (hl : l.length ≤ 120) (w : World) (hg : Gr w v g) (hn : Nums w 2 .i64 lv (natInts (x :: l))) :
    Calls Tryd.prog 23 #[v, lv] w fun e w' => e = .returned (.bool true) ∧ Below w.heap.size w w' := by
  obtain ⟨hin, hof, hno⟩ := hT
  have HAT := Lib.hid (okF_at _ _ hof)
  have HGT := Lib.hid (stepsL_get l x)
  have HSL : Hid ((stepsL x l).length = l.length) := Lib.hid (stepsL_length x l)
  have hlen : (x :: l).length = l.length + 1 := rfl
  obtain ⟨es, hes⟩ : ∃ es, es = stepsL x l := ⟨_, rfl⟩
  obtain ⟨L, hL⟩ : ∃ L, L = x :: l := ⟨_, rfl⟩
  have HES : Hid (es.length + 1 = L.length) := Lib.hid (by rw [hes, hL, HSL.out]; rfl)
  rw [← hes] at HAT hno
  have HGL : Hid (∀ t (h : t < es.length), es[t] = (L.getD t 0, L.getD (t + 1) 0)) := Lib.hid (by subst hes; subst hL; exact HGT.out)
  rw [← hL] at hn hin hlen
  have hL1 : 1 ≤ L.length := by omega
  have hL2 : L.length ≤ 121 := by omega
  clear hof HGT HSL hes hL hlen hl
  obtain ⟨lp, lc, rfl, _⟩ := id hn.shape
  rw [natInts_length] at hn ⊢
  have hg0 := hg
  obtain ⟨u, rfl, hr⟩ := hg
  obtain ⟨p, c, rfl, _⟩ := hr.shape
  have hbA := Lib.hid (below_alloc w (.cells #[.slice p g.length c] 29))
  have HG := Lib.hid (hg0.below hbA.out)
  have BX := Lib.hid (Box.new w (.slice p g.length c) 29)
  have HN := Lib.hid (hn.below hbA.out)
  have hd := Lib.hid (dec_true hok)
  have h16 := hok.le
  have HOK := Lib.hid hok
  have HIN := Lib.hid hin
  have HSN := Lib.hid (cutAll_irr (ofG_irr hok))
  have HNO := Lib.hid hno
  clear hr hg0 hn hok hin hno
  go_enter Tryd.func23, Tryd.ntmps23
  go_upto_region 4 with (first
    | (go_at_call 57; refine (netsOf_any _ g _ ((HG.out.below hb2).below hb3) HOK.out).mono ?_; rintro e w4 ⟨xv, rfl, hown4, hb4⟩; obtain ⟨xp, xc, rfl⟩ := owns_shapeA hown4)
    | (go_at_call 76; refine (containsVx_any _ L w.heap.size g p c HOK.out HIN.out (by omega) _ (HN.out.below hb2) (BX.out.keep hb2) (HG.out.below hb2)).mono ?_; rintro e w3 ⟨rfl, hb3⟩; have hbx := ((BX.out.keep hb2).keep hb3).cell)
    | (go_at_call 32; refine (implGraphOk_any _ g _ HG.out).mono ?_; rintro e w2 ⟨he, hb2⟩; rw [hd.out] at he; subst he))
  have hb23 := hb2.trans (hb3.mono hb2.size)
  have HB3 := Lib.hid (hbA.out.trans (hb23.mono hbA.out.size))
  have HB4 := Lib.hid (HB3.out.trans (hb4.mono HB3.out.size))
  have HN4 := Lib.hid (((HN.out.below hb2).below hb3).below hb4)
  rw [← indN_ofG HOK.out] at hown4
  have HO4 := Lib.hid hown4
  have hs3 := HB3.out.size
  clear hb2 hb3 hb4 hb23 hown4 hbx
  go_wp2
  go_loopw [6] (fun i wr => ∃ t k : Nat, Hid (k = t + 1) ∧ i = .int .i64 (k : Int) ∧ t < L.length ∧ Hid (wr.ownsRow w3.heap.size 69 1 (.slice xp g.length xc) g.length ((indN g.length (cutAll (ofG g) (es.take t))).map u32v)) ∧ Hid (Nums wr 2 .i64 (.slice lp L.length lc) (natInts L)) ∧ Hid (Below w.heap.size w wr)) (fun i _ => L.length + 1 - (intOf i).toNat)
  case atStart => exact ⟨0, 1, Lib.hid rfl, rfl, hL1, Lib.hid (by rw [List.take_zero]; exact HO4.out), HN4, HB4⟩
  case round =>
    clear HO4 HN4 HB4
    obtain ⟨t, k, HK, rfl, ht, HO, HNL, HBW⟩ := hrel
    by_cases hlt : k < L.length
    · have hte : t < es.length := by have := HES.out; have := HK.out; omega
      have HE := Lib.hid (HAT.out t hte)
      have HG2 := HGL.out t hte
      have htk := Lib.hid (take_snoc es t hte)
      obtain ⟨lb, lo, hlp, hc0⟩ := HNL.out.get (k := t) (by rw [natInts_length]; omega)
      obtain ⟨lb2, lo2, hlp2, hc1⟩ := HNL.out.get (k := k) (by rw [natInts_length]; omega)
      rw [hlp] at hlp2
      cases hlp2
      subst hlp
      have n0 : (natInts L)[t]'(by rw [natInts_length]; omega) = ((L[t]'(by omega) : Nat) : Int) := by simp [natInts]
      have n1 : (natInts L)[k]'(by rw [natInts_length]; omega) = ((L[k]'hlt : Nat) : Int) := by simp [natInts]
      rw [n0] at hc0
      rw [n1] at hc1
      have d0 : L.getD t 0 = L[t]'(by omega) := by simp [show t < L.length by omega]
      have d1 : L.getD k 0 = L[k]'hlt := by simp [hlt]
      rw [← HK.out, d0, d1] at HG2
      have ha := HIN.out _ (List.getElem_mem (show t < L.length by omega))
      have hb := HIN.out _ (List.getElem_mem hlt)
      clear d0 d1
      generalize L[t]'(by omega) = a at hc0 HG2 ha n0
      generalize L[k]'hlt = b at hc1 HG2 hb n1
      have N0 := Lib.hid n0
      have N1 := Lib.hid n1
      clear n0 n1
      have hE := HE.out
      rw [HG2] at hE htk
      have hab : a ≠ b := fun e => by
        subst e
        have := HSN.out (es.take t) a
        simp only at hE
        rw [this] at hE
        exact absurd hE (by decide)
      have HUE : Hid (∀ wz, Below wr.heap.size wr wz → Calls Tryd.prog 79 #[.slice xp g.length xc, .int .i64 (a : Int), .int .i64 (b : Int)] wz fun e w' => e = .returned (.bool true) ∧ w'.ownsRow w3.heap.size 69 1 (.slice xp g.length xc) g.length ((indN g.length (cutAll (ofG g) (es.take (t + 1)))).map u32v) ∧ Nums w' 2 .i64 (.slice (some ⟨lb, lo, none⟩) L.length lc) (natInts L) ∧ Below w.heap.size w w' ∧ w'.cell? ⟨lb, lo + t, none⟩ = some (.int .i64 (a : Int)) ∧ w'.cell? ⟨lb, lo + k, none⟩ = some (.int .i64 (b : Int))) := Lib.hid (by
        intro wz hz
        have ho := ownsRow_below HO.out hz
        have hz2 := HBW.out.trans (hz.mono HBW.out.size)
        refine (useEdge_yes _ _ _ g.length (cutAll (ofG g) (es.take t)) a b w3.heap.size rfl rfl h16 ha hb hab hE wz ho).mono fun e w' ⟨h1, h2, h3⟩ => ?_
        have hN := (HNL.out.below hz).other ho h3 (by decide)
        obtain ⟨_, _, e1, q0⟩ := hN.get (k := t) (by rw [natInts_length]; omega)
        cases e1
        obtain ⟨_, _, e1, q1⟩ := hN.get (k := k) (by rw [natInts_length]; omega)
        cases e1
        rw [N0.out] at q0
        rw [N1.out] at q1
        refine ⟨h1, ?_, hN, below_grown hz2 ho h3 (by omega) hz2.size, q0, q1⟩
        rw [htk.out, cutAll_snoc]
        exact h2)
      have hwr : IntKind.i64.wrap ((k : Int) - 1) = (t : Int) := by have := HK.out; rw [IntKind.wrap_i64]; omega
      have hw64 : wrap64 ((k : Int) - 1) = (t : Int) := by have := HK.out; unfold wrap64; omega
      have hkp : 1 ≤ k := by have := HK.out; omega
      have hkt : k - 1 = t := by have := HK.out; omega
      have e0 : (0 : Int) ≤ (t : Int) := by omega
      have e1 : (t : Int) < (L.length : Int) := by omega
      have e4 : (0 : Int) ≤ (k : Int) - 1 := by omega
      have e5 : (k : Int) - 1 < (L.length : Int) := by omega
      have e6 : ((k : Int) - 1).toNat = t := by omega
      have e2 : (k : Int) < (L.length : Int) := by omega
      have e3 : (0 : Int) ≤ (k : Int) := by omega
      clear hE HG2
      go_upto_region 7 with fail
      go_cut [44] (fun s wx => s = .bool false ∧ Hid (wx.ownsRow w3.heap.size 69 1 (.slice xp g.length xc) g.length ((indN g.length (cutAll (ofG g) (es.take (t + 1)))).map u32v)) ∧ Hid (Nums wx 2 .i64 (.slice (some ⟨lb, lo, none⟩) L.length lc) (natInts L)) ∧ Hid (Below w.heap.size w wx))
      case first =>
        go_region_held3 (fun w' => w'.cell? ⟨lb, lo + t, none⟩ = some (.int .i64 (a : Int)) ∧ w'.cell? ⟨lb, lo + k, none⟩ = some (.int .i64 (b : Int)))
          (first | go_keep | exact ⟨hc0, hc1⟩ | exact ⟨hq0, hq1⟩)
          (first | (go_at_call 79; refine (HUE.out _ (below_dN (Below.refl _ _) 1)).mono ?_; rintro e w5 ⟨rfl, ho5, hn5, hb5, hq0, hq1⟩; have HO5 := Lib.hid ho5; have HN5 := Lib.hid hn5; have HB5 := Lib.hid hb5; clear ho5 hn5 hb5))
        all_goals go_wp2
        all_goals go_meet
        all_goals exact ⟨rfl, HO5, HN5, HB5⟩
      case rest =>
        obtain ⟨rfl, HO5, HN5, HB5⟩ := hcut
        go_wp2
        go_roundw
        case rel => exact ⟨t + 1, k + 1, Lib.hid (by rw [HK.out]), by go_num, by have := HK.out; omega, HO5, HN5, HB5⟩
        case measure => simp [intOf]; omega
    · have hte : t = es.length := by have := HES.out; have := HK.out; omega
      have HF : Hid (dec (∃ j, j < g.length ∧ 0 < degN g.length (cutAll (ofG g) (es.take t)) j) = false) := Lib.hid (dec_false (by
        rw [hte, List.take_length]
        rintro ⟨j, hj, h⟩
        have := HNO.out j hj
        omega))
      clear hte
      go_wp2_with (go_at_call 64; refine (edgesLeft_any _ g.length (cutAll (ofG g) (es.take t)) _ ⟨h16, Sl.of_owns HO.out (by omega)⟩).mono ?_; rintro e w6 ⟨he, rfl⟩; rw [HF.out] at he; subst he)
      go_ret
      exact ⟨rfl, HBW.out⟩

end Go.Proofs.YtjdlmjmhlbpooaaDoor
