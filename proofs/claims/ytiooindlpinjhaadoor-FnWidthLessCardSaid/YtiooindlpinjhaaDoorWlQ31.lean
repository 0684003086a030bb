/- Walks: TreeWidth, WidthFrom, BehindOf of the program; BehindOf of the reference (one vertex gone). -/
import Derived.Test.YtiooindlpinjhaaDoorWlQ21
import Derived.Test.YtiooindlpinjhaaDoorWlQ26
import Derived.Test.YtiooindlpinjhaaDoorWlQ28
import Derived.Test.YtiooindlpinjhaaDoorWlQ30
import Derived.Test.YtiooindlpinjhaaDoorWlQ22
import Derived.Test.YtiooindlpinjhaaDoorWlQ13
namespace Go.Proofs.YtiooindlpinjhaaDoor
open Go.RowKit

theorem neOfWl {g : List (List Int)} (hok : GOk g) {w : World} {base : Nat} {x : Value} (h : w.ownsRow base 71 1 x g.length ((netL g).map u32v)) : NE w x g.length (ofG g) :=
  ⟨hok.le, by rw [indN_ofG hok]; exact Sl.of_owns h (by have := hok.le; omega)⟩
theorem ofG_lt {g : List (List Int)} (hok : GOk g) : ∀ x y, ofG g x y = true → y < g.length := fun x y e => by
  refine Classical.byContradiction fun hn => ?_
  have e2 := ofG_sym hok _ _ e
  unfold ofG at e2
  rw [row_out hn] at e2
  simp at e2
theorem mask_oneWl (u : Nat) : mask [(u : Int)] = 2 ^ u := by
  have := mask_snoc [] (u : Int)
  rw [List.nil_append] at this
  rw [this]
  exact Nat.zero_or _
theorem bit_oneWl (u j : Nat) : (2 ^ u).testBit j = decide (u = j) := testBit_pow u j
theorem own_self {w : World} {base gb : Nat} {E : TypeId} {n m c : Nat} {xs : List Value} (h : w.ownsRow base E 1 (.slice (some ⟨gb, 0, none⟩) n c) m xs) : w.ownsRow gb E 1 (.slice (some ⟨gb, 0, none⟩) n c) m xs := by
  refine ⟨h.1, ?_⟩
  rcases h.2 with h2 | ⟨g, cap, cur, e, h2, h3, h4, h5, h6⟩
  · exact .inl h2
  · have e2 := e
    simp only [Value.slice.injEq, Option.some.injEq, Addr.mk.injEq] at e2
    exact .inr ⟨g, cap, cur, e, by omega, h3, h4, h5, h6⟩
theorem setIn_one {n u : Nat} (h : u < n) : SetIn n [(u : Int)] := ⟨fun x hx => by rw [List.mem_singleton] at hx; omega, by simp⟩

set_option maxRecDepth 100000 in
set_option maxHeartbeats 1000000 in
theorem isWide_yes (v : Value) (g : List (List Int)) (hok : GOk g) (h10 : g.length ≤ 10) (w : World) (hg : Gr w v g) :
    Calls Tryd.prog 100 #[v] w fun e w' => e = .returned (.bool true) ∧ Below w.heap.size w w' := by
  have hg0 := hg
  obtain ⟨u, rfl, hr⟩ := hg
  obtain ⟨p, c, rfl, _, _, _⟩ := hr.shape
  have hbA := Lib.hid (below_alloc w (.cells #[.slice p g.length c] 28))
  have HG := Lib.hid (hg0.below hbA.out)
  have BX := Lib.hid (Box.new w (.slice p g.length c) 28)
  have hd := Lib.hid (dec_true hok)
  have hi : (g.length : Int) ≤ 10 := by omega
  clear hr hg0 hok
  go_enter Tryd.func100, Tryd.ntmps100
  go_wp2_with (go_at_call 53; refine (implGraphOk_any _ g _ HG.out).mono ?_; rintro e w2 ⟨he, hb2⟩; rw [hd.out] at he; subst he; have hbx := (BX.out.keep hb2).cell)
  go_ret
  exact ⟨by first | rfl | (simp; omega), hbA.out.trans (hb2.mono hbA.out.size)⟩

set_option maxRecDepth 100000 in
set_option maxHeartbeats 2000000 in
theorem implTreeWidth_any (v : Value) (g : List (List Int)) (hok : GOk g) (h10 : g.length ≤ 10) (w : World) (hg : Gr w v g) (hT : Tab w) :
    Calls Tryd.prog 36 #[v] w fun e w' => e = .returned (.int .i64 (twS g.length (ofG g) 0 : Int)) ∧ Below w.heap.size w w' := by
  have hg0 := Lib.hid hg
  obtain ⟨_, rfl, hr⟩ := hg
  obtain ⟨ga, gc, rfl, _⟩ := hr.shape
  obtain ⟨w1, hw1⟩ : ∃ w1, w1 = w.alloc (.cells #[.slice ga g.length gc] 28) := ⟨_, rfl⟩
  have HX : Hid (Box w1 w.heap.size 28 (.slice ga g.length gc)) := Lib.hid (by rw [hw1]; exact Box.new _ _ _)
  have HB1 : Hid (Below w.heap.size w w1) := Lib.hid (by rw [hw1]; exact below_alloc _ _)
  have HG1 := Lib.hid (hg0.out.below HB1.out)
  have HT1 := Lib.hid (hT.keep HB1.out)
  have HOK := Lib.hid hok
  have s1 := HB1.out.size
  have AFT : Hid (∀ (w3 w4 : World) (xp : Option Addr) (xc : Nat), NE w3 (.slice xp g.length xc) g.length (ofG g) → Tab w3 → WthI w3 w4 g.length (ofG g) xp xc (w3.heap.size + 1) w3.heap.size 0 (.map []) → Calls Tryd.prog 91 #[.pointer (some ⟨w3.heap.size + 1, 0, none⟩), .int .u32 0] w4 fun e w' => e = .returned (.int .i64 (twS g.length (ofG g) 0 : Int)) ∧ Below w3.heap.size w3 w') := Lib.hid fun w3 w4 xp xc h1 h2 h3 => by
    refine (widthsAfter_any w3 g.length (ofG g) xp xc _ _ (ofG_lt HOK.out) h1 h2 _ 0 rfl (Nat.two_pow_pos _) w4 0 _ h3).mono ?_
    rintro e w' ⟨he, hp⟩
    obtain ⟨c', D', hI, _⟩ := hp.st
    exact ⟨he, hI.bel⟩
  clear hr hT hg0 hok
  go_enter Tryd.func36, Tryd.ntmps36
  go_upto_region 1 with fail
  rw [← hw1]
  clear hw1
  have c1 := HX.out.cell
  go_wp2_with (first
    | (go_at_call 91; refine (AFT.out w3 _ xp xc HNE3.out (HT1.out.keep HB3.out) HI4.out).mono ?_; rintro e w5 ⟨rfl, hb5⟩; have HB5 := Lib.hid (HB3.out.trans (hb5.mono HB3.out.size)); clear hb5)
    | (go_at_call 90; refine (newWidths_any xp xc g.length (ofG g) _).mono ?_; rintro e w4 ⟨rfl, hI4⟩; have HI4 := Lib.hid hI4; clear hI4)
    | (go_at_call 54; refine (netsOf_any _ g _ (HG1.out.below hb2) HOK.out).mono ?_; rintro e w3 ⟨xv, rfl, ho3, hb3⟩; obtain ⟨xp, xc, rfl⟩ := owns_shapeWd ho3; have HNE3 := Lib.hid (neOfWl HOK.out ho3); have HB3 : Hid (Below w1.heap.size w1 w3) := Lib.hid (hb2.trans (hb3.mono hb2.size)); clear ho3 hb3)
    | (go_at_call 100; refine (isWide_yes _ g HOK.out h10 _ HG1.out).mono ?_; rintro e w2 ⟨rfl, hb2⟩; have c2 := hb2.at' c1))
  go_ret
  exact ⟨rfl, HB1.out.trans (HB5.out.mono s1)⟩

set_option maxRecDepth 100000 in
set_option maxHeartbeats 2000000 in
theorem implWidthFrom_one (v lv : Value) (g : List (List Int)) (u : Nat) (hok : GOk g) (h10 : g.length ≤ 10) (hu : u < g.length) (w : World) (hg : Gr w v g) (hn : Nums w 2 .i64 lv [(u : Int)]) (hT : Tab w) :
    Calls Tryd.prog 43 #[v, lv] w fun e w' => e = .returned (.int .i64 (twS g.length (ofG g) (2 ^ u) : Int)) ∧ Below w.heap.size w w' := by
  have hg0 := Lib.hid hg
  obtain ⟨_, rfl, hr⟩ := hg
  obtain ⟨ga, gc, rfl, _⟩ := hr.shape
  obtain ⟨w1, hw1⟩ : ∃ w1, w1 = w.alloc (.cells #[.slice ga g.length gc] 28) := ⟨_, rfl⟩
  have HX : Hid (Box w1 w.heap.size 28 (.slice ga g.length gc)) := Lib.hid (by rw [hw1]; exact Box.new _ _ _)
  have HB1 : Hid (Below w.heap.size w w1) := Lib.hid (by rw [hw1]; exact below_alloc _ _)
  have HG1 := Lib.hid (hg0.out.below HB1.out)
  have HN1 := Lib.hid (hn.below HB1.out)
  have HT1 := Lib.hid (hT.keep HB1.out)
  have HOK := Lib.hid hok
  have HD := Lib.hid (dec_true (show GOk g ∧ SetIn g.length [(u : Int)] from ⟨hok, setIn_one hu⟩))
  have s1 := HB1.out.size
  have h16 := hok.le
  obtain ⟨pu, hpu⟩ : ∃ pu, pu = 2 ^ u := ⟨_, rfl⟩
  have hpl : pu < 2 ^ g.length := by rw [hpu]; exact Nat.pow_lt_pow_right (by decide) hu
  have MSK : Hid (∀ wz, Nums wz 2 .i64 lv [(u : Int)] → Calls Tryd.prog 65 #[lv] wz fun e w' => e = .returned (.int .u32 (pu : Int)) ∧ wz = w') := Lib.hid fun wz h => by
    have := maskOf_any lv [(u : Int)] (fun x hx => by rw [List.mem_singleton] at hx; omega) wz h
    rw [mask_oneWl, ← hpu] at this
    exact this
  have AFT : Hid (∀ (w3 w4 : World) (xp : Option Addr) (xc : Nat), NE w3 (.slice xp g.length xc) g.length (ofG g) → Tab w3 → WthI w3 w4 g.length (ofG g) xp xc (w3.heap.size + 1) w3.heap.size 0 (.map []) → Calls Tryd.prog 91 #[.pointer (some ⟨w3.heap.size + 1, 0, none⟩), .int .u32 (pu : Int)] w4 fun e w' => e = .returned (.int .i64 (twS g.length (ofG g) pu : Int)) ∧ Below w3.heap.size w3 w') := Lib.hid fun w3 w4 xp xc h1 h2 h3 => by
    refine (widthsAfter_any w3 g.length (ofG g) xp xc _ _ (ofG_lt HOK.out) h1 h2 _ pu rfl hpl w4 0 _ h3).mono ?_
    rintro e w' ⟨he, hp⟩
    obtain ⟨c', D', hI, _⟩ := hp.st
    exact ⟨he, hI.bel⟩
  rw [← hpu]
  clear hr hT hg0 hok hn hpu
  go_enter Tryd.func43, Tryd.ntmps43
  go_upto_region 1 with fail
  rw [← hw1]
  clear hw1
  have c1 := HX.out.cell
  go_wp2_with (first
    | (go_at_call 91; refine (AFT.out w4 _ xp xc HNE4.out (HT1.out.keep HB4.out) HI5.out).mono ?_; rintro e w6 ⟨rfl, hb6⟩; have HB6 := Lib.hid (HB4.out.trans (hb6.mono HB4.out.size)); clear hb6)
    | (go_at_call 65; refine (MSK.out _ (HN1.out.below (HB4.out.trans (HI5.out.bel.mono HB4.out.size)))).mono ?_; rintro e w9 ⟨rfl, hw⟩; subst hw)
    | (go_at_call 90; refine (newWidths_any xp xc g.length (ofG g) _).mono ?_; rintro e w5 ⟨rfl, hI5⟩; have HI5 := Lib.hid hI5; clear hI5)
    | (go_at_call 54; refine (netsOf_any _ g _ (HG1.out.below HB3.out) HOK.out).mono ?_; rintro e w4 ⟨xv, rfl, ho4, hb4⟩; obtain ⟨xp, xc, rfl⟩ := owns_shapeWd ho4; have HNE4 := Lib.hid (neOfWl HOK.out ho4); have HB4 : Hid (Below w1.heap.size w1 w4) := Lib.hid (HB3.out.trans (hb4.mono HB3.out.size)); clear ho4 hb4)
    | (go_at_call 76; refine (implSetOk_any _ _ g [(u : Int)] (by omega) _ (HG1.out.below hb2) (HN1.out.below hb2)).mono ?_; rintro e w3 ⟨he, hb3⟩; rw [HD.out] at he; subst he; have HB3 := Lib.hid (hb2.trans (hb3.mono hb2.size)); have c3 := hb3.at' c2; clear hb3)
    | (go_at_call 100; refine (isWide_yes _ g HOK.out h10 _ HG1.out).mono ?_; rintro e w2 ⟨rfl, hb2⟩; have c2 := hb2.at' c1))
  go_ret
  exact ⟨rfl, HB1.out.trans (HB6.out.mono s1)⟩

set_option maxRecDepth 100000 in
set_option maxHeartbeats 2000000 in
theorem implBehindOf_one (v lv : Value) (z : Int) (g : List (List Int)) (u a : Nat) (hz : z = a) (hok : GOk g) (hu : u < g.length) (ha : a < g.length) (hua : u ≠ a) (w : World) (hg : Gr w v g) (hn : Nums w 2 .i64 lv [(u : Int)]) (hT : Tab w) :
    Calls Tryd.prog 41 #[v, lv, .int .i64 z] w fun e w' => ∃ ov, e = .returned ov ∧ Nums w' 2 .i64 ov (natInts (behS g.length (ofG g) (2 ^ u) a)) ∧ Below w.heap.size w w' := by
  subst hz
  have hg0 := Lib.hid hg
  obtain ⟨_, rfl, hr⟩ := hg
  obtain ⟨ga, gc, rfl, _⟩ := hr.shape
  obtain ⟨w1, hw1⟩ : ∃ w1, w1 = w.alloc (.cells #[.slice ga g.length gc] 28) := ⟨_, rfl⟩
  have HX : Hid (Box w1 w.heap.size 28 (.slice ga g.length gc)) := Lib.hid (by rw [hw1]; exact Box.new _ _ _)
  have HB1 : Hid (Below w.heap.size w w1) := Lib.hid (by rw [hw1]; exact below_alloc _ _)
  have HG1 := Lib.hid (hg0.out.below HB1.out)
  have HN1 := Lib.hid (hn.below HB1.out)
  have HT1 := Lib.hid (hT.keep HB1.out)
  have HOK := Lib.hid hok
  have HD := Lib.hid (dec_true (show GOk g ∧ SetIn g.length [(u : Int)] from ⟨hok, setIn_one hu⟩))
  have HV := Lib.hid (dec_true (show VtxP g (a : Int) from ⟨hok, by omega, by omega⟩))
  have s1 := HB1.out.size
  have h16 := hok.le
  obtain ⟨pu, hpu⟩ : ∃ pu, pu = 2 ^ u := ⟨_, rfl⟩
  have hp16 : pu < 65536 := by rw [hpu]; exact pow_lt16 u (by omega)
  have HPB : Hid (pu.testBit a = false) := Lib.hid (by rw [hpu, bit_oneWl]; simp [hua])
  have HPN : Hid (∀ i, pu.testBit i = true → i < g.length) := Lib.hid fun i hi => by
    rw [hpu, bit_oneWl, decide_eq_true_eq] at hi
    omega
  have MSK : Hid (∀ wz, Nums wz 2 .i64 lv [(u : Int)] → Calls Tryd.prog 65 #[lv] wz fun e w' => e = .returned (.int .u32 (pu : Int)) ∧ wz = w') := Lib.hid fun wz h => by
    have := maskOf_any lv [(u : Int)] (fun x hx => by rw [List.mem_singleton] at hx; omega) wz h
    rw [mask_oneWl, ← hpu] at this
    exact this
  have hp32 : pu < 4294967296 := by omega
  have ha32 : a < 32 := by omega
  rw [← hpu]
  clear hr hT hg0 hok hn hpu
  go_enter Tryd.func41, Tryd.ntmps41
  go_upto_region 1 with fail
  rw [← hw1]
  clear hw1
  have c1 := HX.out.cell
  go_wp2_with (first
    | (go_at_call 61; refine (numbers_any _ m rfl (by omega) _ (HT1.out.keep HB5.out)).mono ?_; rintro e w6 ⟨ov, rfl, ho6, hb6⟩; rw [HBM.out] at ho6; have HO6 := Lib.hid ho6; have HB6 := Lib.hid (HB5.out.trans (hb6.mono HB5.out.size)); clear ho6 hb6)
    | (go_at_call 112; refine (behind_any xp xc _ _ g.length (ofG g) pu a rfl rfl (ofG_lt HOK.out) hp16 HPN.out ha _ HNE4.out (HT1.out.keep HB4.out)).mono ?_; rintro e w5 ⟨m, rfl, hm16, hbm, hb5⟩; have HBM := Lib.hid hbm; have HB5 := Lib.hid (HB4.out.trans (hb5.mono HB4.out.size)); clear hbm hb5)
    | (go_at_call 65; refine (MSK.out _ (HN1.out.below HB4.out)).mono ?_; rintro e w9 ⟨rfl, hw⟩; subst hw)
    | (go_at_call 54; refine (netsOf_any _ g _ (HG1.out.below HB3.out) HOK.out).mono ?_; rintro e w4 ⟨xv, rfl, ho4, hb4⟩; obtain ⟨xp, xc, rfl⟩ := owns_shapeWd ho4; have HNE4 := Lib.hid (neOfWl HOK.out ho4); have HB4 : Hid (Below w1.heap.size w1 w4) := Lib.hid (HB3.out.trans (hb4.mono HB3.out.size)); clear ho4 hb4)
    | (go_at_call 111; refine (has_any _ _ pu a rfl rfl hp32 ha32 _).mono ?_; rintro e w9 ⟨he, hw⟩; rw [HPB.out] at he; subst he; subst hw)
    | (go_at_call 65; refine (MSK.out _ (HN1.out.below HB3.out)).mono ?_; rintro e w9 ⟨rfl, hw⟩; subst hw)
    | (go_at_call 76; refine (implSetOk_any _ _ g [(u : Int)] (by omega) _ (HG1.out.below hb2) (HN1.out.below hb2)).mono ?_; rintro e w3 ⟨he, hb3⟩; rw [HD.out] at he; subst he; have HB3 := Lib.hid (hb2.trans (hb3.mono hb2.size)); have c3 := hb3.at' c2; clear hb3)
    | (go_at_call 110; refine (isVertexC_any _ g _ _ HG1.out).mono ?_; rintro e w2 ⟨he, hb2⟩; rw [HV.out] at he; subst he; have c2 := hb2.at' c1))
  go_ret
  exact ⟨_, rfl, Nums.of_owns HO6.out (natInts_length _).symm (by have := behS_le g.length (ofG g) pu a; omega), HB1.out.trans (HB6.out.mono s1)⟩

set_option maxRecDepth 100000 in
set_option maxHeartbeats 1000000 in
theorem specSetOkW_any (v lv : Value) (g : List (List Int)) (l : List Int) (hgl : g.length ≤ 1000000000) (w : World) (hg : Gr w v g) (hn : Nums w 2 .i64 lv l) :
    Calls Tryd.prog 73 #[v, lv] w fun e w' => e = .returned (.bool (dec (GOk g ∧ SetIn g.length l))) ∧ Below w.heap.size w w' := by
  have hg0 := hg
  obtain ⟨u, rfl, hr⟩ := hg
  obtain ⟨gp, gc, rfl, _⟩ := hr.shape
  have hbA := Lib.hid (below_alloc w (.cells #[.slice gp g.length gc] 28))
  have BX := Lib.hid (Box.new w (.slice gp g.length gc) 28)
  have HG := Lib.hid (hg0.below hbA.out)
  have HN := Lib.hid (hn.below hbA.out)
  clear hr hg0 hn
  by_cases hok : GOk g
  case neg =>
    have hd := dec_false hok
    have Hok := Lib.hid hok
    clear hok
    go_enter Tryd.func73, Tryd.ntmps73
    go_wp2_with (go_at_call 45; refine (specGraphOk_any _ g _ HG.out).mono ?_; rintro e w2 ⟨rfl, hb2⟩)
    go_ret
    exact ⟨ret_bool (false_dec fun h => Hok.out h.1), hbA.out.trans (hb2.mono hbA.out.size)⟩
  have hd := dec_true hok
  have Hok := Lib.hid hok
  clear hok
  go_enter Tryd.func73, Tryd.ntmps73
  go_wp2_with (first
    | (go_at_call 117; refine (l1Set_any _ l g.length (by omega) (by omega) _ ((HN.out.below hb2).below hb3)).mono ?_; rintro e w4 ⟨rfl, hb4⟩)
    | (go_at_call 75; refine (l1Size_any _ g _ (HG.out.below hb2)).mono ?_; rintro e w3 ⟨rfl, hb3⟩)
    | (go_at_call 45; refine (specGraphOk_any _ g _ HG.out).mono ?_; rintro e w2 ⟨rfl, hb2⟩; have hbx := (BX.out.keep hb2).cell))
  go_ret
  refine ⟨ret_bool (dec_congr ⟨fun h => ⟨Hok.out, h⟩, fun h => h.2⟩), ((hbA.out.trans (hb2.mono hbA.out.size)).trans (hb3.mono (Nat.le_trans hbA.out.size hb2.size))).trans (hb4.mono (Nat.le_trans (Nat.le_trans hbA.out.size hb2.size) hb3.size))⟩


set_option maxRecDepth 100000 in
set_option maxHeartbeats 1000000 in
theorem l10Marks_one (v : Value) (lb lo lc : Nat) (g : List (List Int)) (u : Nat) (hok : GOk g) (hu : u < g.length) (w : World) (hg : Gr w v g) (hn : w.cell? ⟨lb, lo, none⟩ = some (.int .i64 (u : Int))) :
    Calls Tryd.prog 114 #[v, .slice (some ⟨lb, lo, none⟩) 1 lc] w fun e w' => ∃ gb, e = .returned (.slice (some ⟨gb, 0, none⟩) g.length g.length) ∧ w'.ownsRow w.heap.size 4 1 (.slice (some ⟨gb, 0, none⟩) g.length g.length) g.length (boolsOf g.length (Nat.testBit (2 ^ u))) ∧ Below w.heap.size w w' := by
  have h16 := hok.le
  have hg0 := hg
  obtain ⟨gu, rfl, hr⟩ := hg
  obtain ⟨p, c, rfl, _⟩ := hr.shape
  obtain ⟨W0, hW0⟩ : ∃ W0, W0 = w.alloc (.cells #[.slice p g.length c] 28) := ⟨_, rfl⟩
  have HB0 : Hid (Below w.heap.size w W0) := Lib.hid (by rw [hW0]; exact below_alloc _ _)
  have HBG : Hid (Box W0 w.heap.size 28 (.slice p g.length c)) := Lib.hid (by rw [hW0]; exact Box.new _ _ _)
  have HG := Lib.hid (hg0.below HB0.out)
  have hcg := HBG.out.cell
  have hcu := HB0.out.at' hn
  have e0 : List.replicate g.length (Value.bool false) = boolsOf g.length (Nat.testBit 0) := List.ext_getElem (by simp [boolsOf]) fun j h1 h2 => by simp [boolsOf]
  have E0 := Lib.hid e0
  have E1 : Hid ((boolsOf g.length (Nat.testBit 0)).set u (.bool true) = boolsOf g.length (Nat.testBit (2 ^ u))) := Lib.hid (by
    have := boolsOf_put g.length 0 u
    rw [Nat.zero_or] at this
    exact this)
  clear hr hg0 hok e0 hn
  go_enter Tryd.func114, Tryd.ntmps114
  go_upto_region 1 with fail
  rw [← hW0]
  clear hW0
  go_upto_region 2 with (first
    | (go_at_call 75; refine (l1Size_any _ g _ HG.out).mono ?_; rintro e w2 ⟨rfl, hb2⟩; have HB2 := Lib.hid hb2; have hcu2 := hb2.at' hcu; clear hb2)
    | (at_make; refine wpList_mk ty_bool rfl rfl rfl g.length rfl rfl rfl rfl (by omega) ?_; intro w3 hown3 hg3; have HO3 := Lib.hid hown3; have hcu3 := (grown_below hg3).at' hcu2; have HB3 := Lib.hid (HB2.out.trans ((grown_below hg3).mono HB2.out.size)); clear hown3 hg3))
  have s2 := HB2.out.size
  have s0 := HB0.out.size
  have hck : w3.cell? ⟨w2.heap.size, u, none⟩ = some (.bool false) := by
    rw [HO3.out.cellAt u (by omega)]
    simp [hu]
  have hfk := HO3.out.frozenAt u
  have HS3 : Hid ((w3.setCell ⟨w2.heap.size, u, none⟩ (.bool true)).ownsRow w2.heap.size 4 1 (.slice (some ⟨w2.heap.size, 0, none⟩) g.length g.length) g.length (boolsOf g.length (Nat.testBit (2 ^ u)))) := Lib.hid (by
    have := (HO3.out.stored u (.bool true)).1
    rw [E0.out, E1.out] at this
    exact this)
  have HB4 : Hid (Below W0.heap.size W0 (w3.setCell ⟨w2.heap.size, u, none⟩ (.bool true))) := Lib.hid (HB3.out.setCell (p := ⟨w2.heap.size, u, none⟩) s2 _)
  have hui : (u : Int) < (g.length : Int) := by omega
  have hu0 : (0 : Int) ≤ (u : Int) := by omega
  clear hcu hcu2
  go_wp2_with fail
  refine wp_loop_rounds 2 ?_
  rw [rounds_succ]
  go_wp2_with fail
  rw [rounds_succ]
  go_wp2_with fail
  go_ret
  exact ⟨_, rfl, ownsRow_base HS3.out (by omega), HB0.out.trans (HB4.out.mono s0)⟩

set_option maxRecDepth 100000 in
set_option maxHeartbeats 2000000 in
theorem specBehindOf_one (v lv : Value) (z : Int) (g : List (List Int)) (u a : Nat) (hz : z = a) (hok : GOk g) (hu : u < g.length) (ha : a < g.length) (hua : u ≠ a) (w : World) (hg : Gr w v g) (hn : Nums w 2 .i64 lv [(u : Int)]) :
    Calls Tryd.prog 42 #[v, lv, .int .i64 z] w fun e w' => ∃ ov, e = .returned ov ∧ Nums w' 2 .i64 ov (natInts (behS g.length (ofG g) (2 ^ u) a)) ∧ Below w.heap.size w w' := by
  subst hz
  have hg0 := Lib.hid hg
  obtain ⟨_, rfl, hr⟩ := hg
  obtain ⟨ga, gc, rfl, _⟩ := hr.shape
  obtain ⟨lp, lc, rfl, _⟩ := id hn.shape
  obtain ⟨w1, hw1⟩ : ∃ w1, w1 = w.alloc (.cells #[.slice ga g.length gc] 28) := ⟨_, rfl⟩
  have HX : Hid (Box w1 w.heap.size 28 (.slice ga g.length gc)) := Lib.hid (by rw [hw1]; exact Box.new _ _ _)
  have HB1 : Hid (Below w.heap.size w w1) := Lib.hid (by rw [hw1]; exact below_alloc _ _)
  have HG1 := Lib.hid (hg0.out.below HB1.out)
  have HN1 := Lib.hid (hn.below HB1.out)
  have HOK := Lib.hid hok
  have HD := Lib.hid (dec_true (show GOk g ∧ SetIn g.length [(u : Int)] from ⟨hok, setIn_one hu⟩))
  have HV := Lib.hid (dec_true (show (0 : Int) ≤ (a : Int) ∧ (a : Int) < (g.length : Int) from ⟨by omega, by omega⟩))
  have HH := Lib.hid (dec_false (show ¬ (a : Int) ∈ [(u : Int)] by rw [List.mem_singleton]; omega))
  have s1 := HB1.out.size
  have h16 := hok.le
  obtain ⟨lb, lo, hlp, hcu⟩ := HN1.out.get (k := 0) (by simp)
  subst hlp
  rw [Nat.add_zero] at hcu
  change w1.cell? _ = some (.int .i64 (u : Int)) at hcu
  change Hid (Nums w1 2 .i64 (.slice (some ⟨lb, lo, none⟩) 1 lc) [(u : Int)]) at HN1
  have HPB : Hid ((2 ^ u).testBit a = false) := Lib.hid (by rw [bit_oneWl]; simp [hua])
  obtain ⟨B, hB⟩ : ∃ B, B = behS g.length (ofG g) (2 ^ u) a := ⟨_, rfl⟩
  have hB16 : B.length ≤ 16 := by rw [hB]; exact Nat.le_trans (behS_le _ _ _ _) h16
  have BEH : Hid (∀ wz gb, Gr wz (.agg #[.slice ga g.length gc]) g → wz.ownsRow gb 4 1 (.slice (some ⟨gb, 0, none⟩) g.length g.length) g.length (boolsOf g.length (Nat.testBit (2 ^ u))) → Calls Tryd.prog 113 #[.agg #[.slice ga g.length gc], .slice (some ⟨gb, 0, none⟩) g.length g.length, .int .i64 (a : Int)] wz fun e w' => ∃ p c, e = .returned (.slice p B.length c) ∧ w'.ownsRow wz.heap.size 2 1 (.slice p B.length c) B.length ((natInts B).map (Value.int .i64)) ∧ Below wz.heap.size wz w') := Lib.hid fun wz gb h1 h2 => by
    have := l10BehindC_any (.agg #[.slice ga g.length gc]) (.slice (some ⟨gb, 0, none⟩) g.length g.length) (a : Int) g (2 ^ u) a rfl HOK.out ha HPB.out wz h1 (Sl.of_owns h2 (by omega))
    rw [← hB] at this
    exact this
  rw [← hB]
  have MRK : Hid (∀ wz, Below w1.heap.size w1 wz → Calls Tryd.prog 114 #[.agg #[.slice ga g.length gc], .slice (some ⟨lb, lo, none⟩) 1 lc] wz fun e w' => ∃ gb, e = .returned (.slice (some ⟨gb, 0, none⟩) g.length g.length) ∧ w'.ownsRow wz.heap.size 4 1 (.slice (some ⟨gb, 0, none⟩) g.length g.length) g.length (boolsOf g.length (Nat.testBit (2 ^ u))) ∧ Below wz.heap.size wz w') := Lib.hid fun wz hb => l10Marks_one _ lb lo lc g u HOK.out hu wz (HG1.out.below hb) (hb.at' hcu)
  clear hr hg0 hok hn hB hcu
  go_enter Tryd.func42, Tryd.ntmps42
  go_upto_region 1 with fail
  rw [← hw1]
  clear hw1
  have c1 := HX.out.cell
  go_upto_region 3 with (first
    | (go_at_call 72; refine (l1Has_any _ [(u : Int)] (a : Int) _ (HN1.out.below HB3.out)).mono ?_; rintro e w9 ⟨he, hw⟩; rw [HH.out] at he; subst he; subst hw)
    | (go_at_call 98; refine (l1ThereC_any _ g (a : Int) _ (HG1.out.below hb2) (by omega)).mono ?_; rintro e w3 ⟨he, hb3⟩; rw [HV.out] at he; subst he; have HB3 := Lib.hid (hb2.trans (hb3.mono hb2.size)); have c3 := hb3.at' c2; clear hb3)
    | (go_at_call 73; refine (specSetOkW_any _ _ g [(u : Int)] (by omega) _ HG1.out HN1.out).mono ?_; rintro e w2 ⟨he, hb2⟩; rw [HD.out] at he; subst he; have c2 := hb2.at' c1))
  have s3 := HB3.out.size
  go_cut [6] (fun sv wx => ∃ p c, sv = .slice p B.length c ∧ wx.ownsRow w3.heap.size 2 1 sv B.length ((natInts B).map (Value.int .i64)) ∧ Below w3.heap.size w3 wx)
  case first =>
    go_region_held3 (fun Z => Z.cell? ⟨w.heap.size, 0, none⟩ = some (.slice ga g.length gc))
      (first | exact c3 | go_keep | exact BWB.at' c3 | exact BWA.at' c3)
      (first
        | (go_at_call 113; refine (BEH.out _ gb (HG1.out.below (HB3.out.trans (BWA.mono s3))) HOA.out).mono ?_; rintro e wb ⟨p, c, rfl, ho, hb⟩; have HOB := Lib.hid (ownsRow_base ho BWA.size); have BWB : Below w3.heap.size w3 wb := BWA.trans (hb.mono BWA.size); clear ho hb)
        | (go_at_call 114; refine (MRK.out _ (HB3.out.trans ((below_dN (Below.refl _ _) 1).mono s3))).mono ?_; rintro e wa ⟨gb, rfl, ho, hb⟩; have HOA := Lib.hid (own_self ho); have BWA : Below w3.heap.size w3 wa := (below_dN (Below.refl _ _) 1).trans hb; clear ho hb))
    all_goals go_wp2
    all_goals go_meet
    all_goals exact ⟨p, c, rfl, HOB.out, BWB⟩
  case rest =>
  obtain ⟨p, c, rfl, ho, hb⟩ := hcut
  have HO := Lib.hid ho
  have HBX := Lib.hid (HB3.out.trans (hb.mono s3))
  clear ho hb
  go_wp2_with fail
  go_ret
  exact ⟨_, rfl, Nums.of_owns HO.out (natInts_length _).symm (by omega), HB1.out.trans (HBX.out.mono s1)⟩

end Go.Proofs.YtiooindlpinjhaaDoor
