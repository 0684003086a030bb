/- Walk: the program's contraction of an edge. -/
import Derived.Test.YtjdlmjmhlbpooaaDoorBwQ26
namespace Go.Proofs.YtjdlmjmhlbpooaaDoor
open Go.RowKit

theorem two_boxesC (w : World) (a b : Value) (T1 T2 : TypeId) : ∃ W, W = (w.alloc (.cells #[a] T1)).alloc (.cells #[b] T2) ∧ Below w.heap.size w W ∧ W.heap.size = w.heap.size + 2 ∧ Box W w.heap.size T1 a ∧ Box W (w.heap.size + 1) T2 b := by
  have h2 := Box.new (w.alloc (.cells #[a] T1)) b T2
  rw [size_alloc] at h2
  exact ⟨_, rfl, below_alloc2 _ _ _, by rw [size_alloc, size_alloc], (Box.new w a T1).alloc _, h2⟩

theorem own_shapeC {w : World} {base n : Nat} {E : TypeId} {v : Value} {xs : List Value} (h : w.ownsRow base E 1 v n xs) (hn : 0 < n) : ∃ b c, v = .slice (some ⟨b, 0, none⟩) n c := by
  rcases h.2 with ⟨rfl, rfl⟩ | ⟨g, cap, cur, rfl, _⟩
  · omega
  · exact ⟨g, cap, rfl⟩
theorem mem_nbL {n a b j : Nat} {E : Nat → Nat → Bool} : j ∈ nbL n E a b ↔ j < n ∧ E b j = true ∧ j ≠ a := by simp [nbL]
theorem nbL_bits {g : List (List Int)} (hg : GOk g) {a b : Nat} (ha : a < g.length) (hb : b < g.length) : bitsOf (sub ((netL g).getD b 0) (2 ^ a)) = nbL g.length (ofG g) a b := by
  have h16 := hg.le
  have hnl : (netL g).getD b 0 < 4294967296 := by
    rw [← indN_ofG hg, indN_get hb]
    have := mask_lt16 (natInts ((List.range g.length).filter (ofG g b))) (fun x hx => by
      obtain ⟨i, hi, rfl⟩ := mem_natInts.1 hx
      have := List.mem_range.1 (List.mem_filter.1 hi).1
      omega)
    omega
  have hp := pow_lt32 a (by omega)
  refine rising_ext _ _ (bitsOf_rising _) (List.Pairwise.filter _ List.pairwise_lt_range) fun j => ?_
  rw [mem_bitsOf' (sub_lt32 _ _ hnl), testBit_sub _ _ hnl hp, ← indN_ofG hg, indN_bit hb, testBit_pow]
  have : j ∈ nbL g.length (ofG g) a b ↔ j < g.length ∧ ofG g b j = true ∧ j ≠ a := mem_nbL
  rw [this]
  simp only [Bool.and_eq_true, decide_eq_true_eq, Bool.not_eq_true', decide_eq_false_iff_not]
  constructor
  · exact fun h => ⟨h.1.1, h.1.2, fun e => h.2 e.symm⟩
  · exact fun h => ⟨⟨h.1, h.2.1⟩, fun e => h.2.2 e.symm⟩
theorem restN_bits {n b : Nat} (hn : n ≤ 16) (hb : b < n) : bitsOf (sub (2 ^ n - 1) (2 ^ b)) = restN n b := by
  have h1 : 2 ^ n - 1 < 4294967296 := by
    have := Nat.pow_le_pow_right (n := 2) (by decide) hn
    omega
  have hp := pow_lt32 b (by omega)
  refine rising_ext _ _ (bitsOf_rising _) (restN_rising _ _) fun j => ?_
  rw [mem_bitsOf' (sub_lt32 _ _ h1), testBit_sub _ _ h1 hp, testBit_firstOf, testBit_pow, mem_restN]
  simp only [Bool.and_eq_true, decide_eq_true_eq, Bool.not_eq_true', decide_eq_false_iff_not]
  exact ⟨fun h => ⟨h.1, fun e => h.2 e.symm⟩, fun h => ⟨h.1, fun e => h.2 e.symm⟩⟩
theorem conG_rows {g : List (List Int)} (hg : GOk g) {a b : Nat} (hb : b < g.length) : rowsOf (indN (restN g.length b).length (bitE (indN g.length (conE (ofG g) a b)) (restN g.length b))) = conG g a b := by
  have h16 := hg.le
  have hc : GOk (matG g.length (conE (ofG g) a b)) := gok_matG hg.pos h16 (conE_sym (ofG_sym hg) a b) (conE_irr (ofG_irr hg) a b)
  have e1 : netL (matG g.length (conE (ofG g) a b)) = indN g.length (conE (ofG g) a b) := by
    rw [← indN_ofG hc, matG_length]
    exact indN_congr fun r j hr hj => ofG_matG hr hj
  rw [rowsOf_indN (by rw [restN_length hb]; omega)]
  unfold conG
  rw [bitE_netL hc (fun v hv => by rw [matG_length]; exact (mem_restN.1 hv).1), e1]

set_option maxRecDepth 100000 in
set_option maxHeartbeats 1000000 in
theorem implContracted_no (v : Value) (g : List (List Int)) (y z : Int) (hno : ¬ EdgP g y z) (w : World) (hg : Gr w v g) :
    Calls Tryd.prog 48 #[v, .int .i64 y, .int .i64 z] w fun e w' => e = .returned (.tuple #[.agg #[.slice none 0 0], .bool false]) ∧ Below w.heap.size w w' := by
  have hg0 := hg
  obtain ⟨u, rfl, hr⟩ := hg
  obtain ⟨p, c, rfl, _⟩ := hr.shape
  obtain ⟨W0, hW0, hbA, SZ0, B0, B1⟩ := two_boxesC w (.slice p g.length c) (.slice none 0 0) 29 29
  have HBA := Lib.hid hbA
  have HG := Lib.hid (hg0.below hbA)
  have HX0 := Lib.hid B0
  have HX1 := Lib.hid B1
  have hne : w.heap.size ≠ w.heap.size + 1 := by omega
  clear hr hg0 hbA B0 B1 SZ0
  by_cases hp : VtxP g y ∧ VtxP g z
  · have HP := Lib.hid (dec_true hp)
    have HE := Lib.hid (dec_false hno)
    clear hp hno
    go_enter Tryd.func48, Tryd.ntmps48
    go_upto_region 1 with fail
    rw [← hW0]
    clear hW0
    have c0 := HX0.out.cell
    go_wp2_with (first
      | (go_at_call 99; refine (isPairC_any _ g y z _ HG.out).mono ?_; rintro e w2 ⟨he, hb2⟩; rw [HP.out] at he; subst he; have c2 := hb2.at' c0)
      | (go_at_call 37; refine (implEdgeInC_any _ g y z _ (HG.out.below hb2)).mono ?_; rintro e w3 ⟨he, hb3⟩; rw [HE.out] at he; subst he; obtain ⟨nc, nf, nl, nB⟩ := (HX1.out.keep hb2).keep hb3))
    refine bodyPost_ret (v := .tuple #[.agg #[.slice none 0 0], .bool false]) (by simp [results, Tryd.results48, go_sem, nc]) rfl ⟨rfl, ?_⟩
    exact ((HBA.out.trans (hb2.mono HBA.out.size)).trans (hb3.mono (Nat.le_trans HBA.out.size hb2.size))).setCell (by show w.heap.size ≤ w.heap.size + 1; omega) _
  · have HP := Lib.hid (dec_false hp)
    clear hp hno
    go_enter Tryd.func48, Tryd.ntmps48
    go_upto_region 1 with fail
    rw [← hW0]
    clear hW0
    have c0 := HX0.out.cell
    go_wp2_with (go_at_call 99; refine (isPairC_any _ g y z _ HG.out).mono ?_; rintro e w2 ⟨he, hb2⟩; rw [HP.out] at he; subst he; obtain ⟨nc, nf, nl, nB⟩ := HX1.out.keep hb2)
    refine bodyPost_ret (v := .tuple #[.agg #[.slice none 0 0], .bool false]) (by simp [results, Tryd.results48, go_sem, nc]) rfl ⟨rfl, ?_⟩
    exact (HBA.out.trans (hb2.mono HBA.out.size)).setCell (by show w.heap.size ≤ w.heap.size + 1; omega) _

set_option maxRecDepth 100000 in
set_option maxHeartbeats 8000000 in
theorem implContracted_at (v : Value) (g : List (List Int)) (y z : Int) (lo hi : Nat) (hyz : EdgP g y z) (hlo : (if z < y then z else y) = (lo : Int)) (hhi : (if y < z then z else y) = (hi : Int)) (hlh : lo < hi) (hin : hi < g.length) (w : World) (hg : Gr w v g) (hT : Tab w) :
    Calls Tryd.prog 48 #[v, .int .i64 y, .int .i64 z] w fun e w' => ∃ (p : Option Addr) (c : Nat), e = .returned (.tuple #[.agg #[.slice p (g.length - 1) c], .bool true]) ∧ DG w' w.heap.size (.agg #[.slice p (g.length - 1) c]) (conG g lo hi) ∧ Below w.heap.size w w' := by
  have hg0 := hg
  obtain ⟨u, rfl, hr⟩ := hg
  obtain ⟨gp, gc, rfl, _⟩ := hr.shape
  obtain ⟨W0, hW0, hbA, SZ0, B0, B1⟩ := two_boxesC w (.slice gp g.length gc) (.slice none 0 0) 29 29
  have HBA := Lib.hid hbA
  have HG := Lib.hid (hg0.below hbA)
  have HX0 := Lib.hid B0
  have HX1 := Lib.hid B1
  have HT := Lib.hid (hT.keep hbA)
  have HSZ := Lib.hid SZ0
  have hok := hyz.1
  have h16 := hok.le
  have hg1 : 0 < g.length := by omega
  have HOK := Lib.hid hok
  have HE := Lib.hid (dec_true hyz)
  have HP : Hid (dec (VtxP g y ∧ VtxP g z) = true) := Lib.hid (dec_true (by
    obtain ⟨a, b, rfl, rfl, h1, h2, _⟩ := hyz.nat
    exact ⟨⟨hok, by omega, by omega⟩, ⟨hok, by omega, by omega⟩⟩))
  have hne : w.heap.size ≠ w.heap.size + 1 := by omega
  have hloL : lo < g.length := by omega
  obtain ⟨L, hL⟩ : ∃ L, L = nbL g.length (ofG g) lo hi := ⟨_, rfl⟩
  obtain ⟨NH, hNH⟩ : ∃ NH, NH = (netL g).getD hi 0 := ⟨_, rfl⟩
  have hnl : NH < 65536 := by
    rw [hNH, List.getD_eq_getElem?_getD, List.getElem?_eq_getElem (show hi < (netL g).length by simp [netL]; exact hin)]
    exact netL_lt hok _ (List.getElem_mem _)
  have HLB : Hid (bitsOf (sub NH (2 ^ lo)) = L) := Lib.hid (by rw [hL, hNH]; exact nbL_bits hok hloL hin)
  have HNC : Hid (((netL g).map u32v)[hi]? = some (.int .u32 (NH : Int))) := Lib.hid (by
    rw [List.getElem?_map, hNH, List.getD_eq_getElem?_getD, List.getElem?_eq_getElem (show hi < (netL g).length by simp [netL]; exact hin)]
    rfl)
  have HIN : Hid (∀ i ∈ L, i < g.length ∧ i ≠ lo) := Lib.hid (fun i h => by rw [hL] at h; have := mem_nbL.1 h; exact ⟨this.1, this.2.2⟩)
  have hLl : L.length ≤ 16 := by
    rw [hL]
    refine Nat.le_trans (List.length_filter_le _ _) ?_
    rw [List.length_range]; exact h16
  have HEND : Hid (indN g.length (conF (ofG g) lo L) = indN g.length (conE (ofG g) lo hi)) := Lib.hid (by rw [hL]; exact conF_all)
  have HST : Hid (netL g = indN g.length (conF (ofG g) lo [])) := Lib.hid (by rw [conF_nil, indN_ofG hok])
  have hpl := pow_lt32 lo (by omega)
  obtain ⟨pl, hplE⟩ : ∃ pl, pl = 2 ^ lo := ⟨_, rfl⟩
  have C1 : Hid (∀ w, Calls Tryd.prog 102 #[.int .i64 (lo : Int)] w fun e w' => e = .returned (.int .u32 (pl : Int)) ∧ w = w') := Lib.hid (by rw [hplE]; exact fun w => one_any (lo : Int) lo rfl (by omega) w)
  have hpl2 : pl < 4294967296 := by rw [hplE]; exact hpl
  have HAN : Hid (bits BinOp.andNot IntKind.u32 (NH : Int) (pl : Int) = ((sub NH pl : Nat) : Int)) := Lib.hid (u32_andNot_nat NH pl (by omega) hpl2)
  have LIST : Hid (∀ (w : World), Tab w → Calls Tryd.prog 65 #[.int .u32 (bits BinOp.andNot IntKind.u32 (NH : Int) (pl : Int))] w fun e w' => ∃ v, e = .returned v ∧ w'.ownsRow w.heap.size 3 1 v L.length ((natInts L).map (Value.int .i64)) ∧ Below w.heap.size w w') := Lib.hid (fun w hT => by
    have := list_any _ _ HAN.out (sub_lt32 NH pl (by omega)) w hT
    rw [hplE, HLB.out] at this
    rw [hplE]
    exact this)
  obtain ⟨R, hR⟩ : ∃ R, R = restN g.length hi := ⟨_, rfl⟩
  have hRl : R.length = g.length - 1 := by rw [hR]; exact restN_length hin
  have HRL := Lib.hid hRl
  have hR16 : R.length ≤ 16 := by omega
  obtain ⟨al, halE⟩ : ∃ al, al = 2 ^ g.length - 1 := ⟨_, rfl⟩
  have hal32 : al < 4294967296 := by
    rw [halE]
    have := Nat.pow_le_pow_right (n := 2) (by decide) h16
    omega
  obtain ⟨ph, hphE⟩ : ∃ ph, ph = 2 ^ hi := ⟨_, rfl⟩
  have hph2 : ph < 4294967296 := by rw [hphE]; exact pow_lt32 hi (by omega)
  have CALL : Hid (∀ (p : Option Addr) (c : Nat) w, Calls Tryd.prog 60 #[.slice p g.length c] w fun e w' => e = .returned (.int .u32 (al : Int)) ∧ w = w') := Lib.hid (by rw [halE]; exact fun p c w => all_any p g.length c (by omega) w)
  have C2 : Hid (∀ w, Calls Tryd.prog 102 #[.int .i64 (hi : Int)] w fun e w' => e = .returned (.int .u32 (ph : Int)) ∧ w = w') := Lib.hid (by rw [hphE]; exact fun w => one_any (hi : Int) hi rfl (by omega) w)
  have LIST2 : Hid (∀ (w : World), Tab w → Calls Tryd.prog 65 #[.int .u32 (bits BinOp.andNot IntKind.u32 (al : Int) (ph : Int))] w fun e w' => ∃ v, e = .returned v ∧ w'.ownsRow w.heap.size 3 1 v R.length ((natInts R).map (Value.int .i64)) ∧ Below w.heap.size w w') := Lib.hid (fun w hT => by
    have h1 : bits BinOp.andNot IntKind.u32 (al : Int) (ph : Int) = ((sub al ph : Nat) : Int) := u32_andNot_nat al ph hal32 hph2
    have := list_any _ _ h1 (sub_lt32 al ph hal32) w hT
    rw [halE, hphE, restN_bits h16 hin, ← hR] at this
    rw [halE, hphE]
    exact this)
  have HRIN : Hid (∀ v ∈ R, v < (indN g.length (conE (ofG g) lo hi)).length) := Lib.hid (fun v hv => by rw [indN_length]; rw [hR] at hv; exact (mem_restN.1 hv).1)
  have HROWS : Hid (rowsOf (indN R.length (bitE (indN g.length (conE (ofG g) lo hi)) R)) = conG g lo hi) := Lib.hid (by rw [hR]; exact conG_rows hok hin)
  have HCL : Hid ((conG g lo hi).length = g.length - 1) := Lib.hid (conG_length hin)
  have HSL : Hid (∀ E : Nat → Nat → Bool, (indN g.length E).length = g.length) := Lib.hid (fun E => indN_length _ E)
  have HE16 : Hid (∀ E : Nat → Nat → Bool, ∀ s ∈ indN g.length E, s < 65536) := Lib.hid (fun E => indN_lt16 h16)
  have HB16 : Hid (∀ E : Nat → Nat → Bool, ∀ s ∈ indN R.length E, s < 65536) := Lib.hid (fun E => indN_lt16 hR16)
  have HBL : Hid (∀ E : Nat → Nat → Bool, (indN R.length E).length = R.length) := Lib.hid (fun E => indN_length _ E)
  clear hr hg0 hbA B0 B1 SZ0 hyz hok hL hNH hR hRl halE hphE hplE hpl hT
  go_enter Tryd.func48, Tryd.ntmps48
  go_upto_region 1 with fail
  rw [← hW0]
  clear hW0
  have c0 := HX0.out.cell
  go_upto_region 4 with (first
    | (go_at_call 99; refine (isPairC_any _ g y z _ HG.out).mono ?_; rintro e w2 ⟨he, hb2⟩; rw [HP.out] at he; subst he; have c2 := hb2.at' c0)
    | (go_at_call 37; refine (implEdgeInC_any _ g y z _ (HG.out.below hb2)).mono ?_; rintro e w3 ⟨he, hb3⟩; rw [HE.out] at he; subst he; have c3 := hb3.at' c2)
    | (go_at_call 57; refine (netsOf_any _ g _ ((HG.out.below hb2).below hb3) HOK.out).mono ?_; rintro e w4 ⟨x, rfl, hown4, hb4⟩; have HO4 := Lib.hid hown4; obtain ⟨ob, xc, rfl⟩ := own_shapeC hown4 hg1; clear hown4))
  have HB4 : Hid (Below W0.heap.size W0 w4) := Lib.hid ((hb2.trans (hb3.mono hb2.size)).trans (hb4.mono (Nat.le_trans hb2.size hb3.size)))
  have HB3 : Hid (Below W0.heap.size W0 w3) := Lib.hid (hb2.trans (hb3.mono hb2.size))
  have HT4 := Lib.hid (HT.out.keep HB4.out)
  have HX4 := Lib.hid (HX1.out.keep HB4.out)
  have hcell := HO4.out.cellAt hi (show hi < g.length * 1 by omega)
  rw [HNC.out] at hcell
  change w4.cell? ⟨ob, hi, none⟩ = some (.int .u32 (NH : Int)) at hcell
  have HW3 := Lib.hid (HBA.out.trans (HB3.out.mono HBA.out.size))
  have s34 := hb4.size
  have s3 := HW3.out.size
  have s3b := HB3.out.size
  clear hb2 hb3 c0 c2 c3 HX0 HP HE hlo hhi HG
  have HB34 := Lib.hid hb4
  clear hb4
  go_cut [41, 42, 43] (fun s24 s25 s26 wx => s25 = .int .i64 L.length ∧ s26 = .int .i64 (0 : Nat) ∧ Below w4.heap.size w4 wx ∧ Nums wx 3 .i64 s24 (natInts L))
  case first =>
    go_region_held3 (fun w' => w'.cell? ⟨ob, hi, none⟩ = some (.int .u32 (NH : Int)))
      (first | exact hcell | exact BWA.at' hcell | go_keep)
      (first
        | (go_at_call 102; refine (C1.out _).mono ?_; rintro e w5 ⟨rfl, rfl⟩)
        | (go_at_call 65; refine (LIST.out _ (HT4.out.keep (below_dN (Below.refl _ _) 1))).mono ?_; rintro e w5 ⟨lv, rfl, hown2, hb2⟩; have HNL := Lib.hid (Nums.of_owns hown2 (natInts_length _).symm (by omega)); obtain ⟨lp, lc, rfl, _⟩ := id HNL.out; have BWA : Below w4.heap.size w4 w5 := (below_dN (Below.refl _ _) 1).trans hb2; clear hown2 hb2))
    all_goals go_wp2
    all_goals go_meet
    all_goals exact ⟨by rw [natInts_length], rfl, BWA, HNL.out⟩
  case rest =>
    obtain ⟨rfl, rfl, hbc, hnl'⟩ := hcut
    have HNL := Lib.hid hnl'
    rename_i w5
    have HOC := Lib.hid (ownsRow_below HO4.out hbc)
    have HBC := Lib.hid (HB34.out.trans (hbc.mono s34))
    obtain ⟨lp, lc, rfl, _⟩ := id hnl'
    have hnll := natInts_length L
    rw [hnll]
    clear hbc hnl' hcell LIST C1 HAN hnl hpl2 HB34 HO4 HT4
    go_wp2_with fail
    go_loopw [43] (fun i wr => ∃ k : Nat, k ≤ L.length ∧ i = .int .i64 k ∧ wr.ownsRow w3.heap.size 69 1 (.slice (some ⟨ob, 0, none⟩) g.length xc) g.length ((indN g.length (conF (ofG g) lo (L.take k))).map u32v) ∧ Below w3.heap.size w3 wr ∧ Nums wr 3 .i64 (.slice lp L.length lc) (natInts L)) (fun i _ => L.length - (intOf i).toNat)
    case atStart => exact ⟨0, Nat.zero_le _, rfl, by have := HOC.out; rw [HST.out] at this; exact this, HBC.out, by have := HNL.out; rw [natInts_length] at this; exact this⟩
    case round =>
      clear HNL HOC HBC
      obtain ⟨k, hk, rfl, ho, hb, hn⟩ := hrel
      have HO := Lib.hid ho
      have HB := Lib.hid hb
      have HN := Lib.hid hn
      clear ho hb
      by_cases hlt : k < L.length
      · obtain ⟨q, hq⟩ : ∃ q, q = L[k] := ⟨_, rfl⟩
        obtain ⟨hqa, hqu⟩ := HIN.out L[k] (List.getElem_mem hlt)
        rw [← hq] at hqa hqu
        have HQ := Lib.hid hq
        have hlt' : k < (natInts L).length := by rw [natInts_length]; exact hlt
        obtain ⟨eb, eo, rfl, hce⟩ := hn.get hlt'
        have e1 : (natInts L)[k] = (q : Int) := by rw [hq]; simp [natInts]
        rw [e1] at hce
        have JOIN : Calls Tryd.prog 67 #[.slice (some ⟨ob, 0, none⟩) g.length xc, .int .i64 (lo : Int), .int .i64 (q : Int)] wr fun e w'' => e = .returned (.tuple #[]) ∧
            w''.ownsRow w3.heap.size 69 1 (.slice (some ⟨ob, 0, none⟩) g.length xc) g.length ((indN g.length (conF (ofG g) lo (L.take (k + 1)))).map u32v) ∧ wr.grownBy w'' (some ob) := by
          have := join_any (.slice (some ⟨ob, 0, none⟩) g.length xc) (lo : Int) (q : Int) (indN g.length (conF (ofG g) lo (L.take k))) lo q w3.heap.size rfl rfl (by rw [HSL.out]; exact hloL) (by rw [HSL.out]; exact hqa) (fun e => hqu e.symm) (by rw [HSL.out]; exact h16) (HE16.out _) wr (by rw [HSL.out]; exact HO.out)
          rw [HSL.out, conF_snoc hloL hqa (fun e => hqu e.symm), HQ.out, ← take_snoc' L k hlt] at this
          rw [HQ.out]
          exact this
        have HJ := Lib.hid JOIN
        clear hn e1 hlt' hq JOIN
        go_wp2_with (go_at_call 67; refine HJ.out.mono ?_; rintro e w6 ⟨rfl, ho3, hg3⟩)
        go_roundw
        case rel => exact ⟨k + 1, by omega, by go_num, ho3, HB.out.grown hg3 HB.out.size (fun b hb => by have := (HO.out.lt b hb).1; exact this), HN.out.other HO.out hg3 (by decide)⟩
        case measure => simp [intOf]; omega
      · obtain rfl : k = L.length := by omega
        rw [List.take_length, HEND.out] at HO
        have HX : Hid (Sl wr 69 (.slice (some ⟨ob, 0, none⟩) g.length xc) (indN g.length (conE (ofG g) lo hi)).length ((indN g.length (conE (ofG g) lo hi)).map u32v)) := Lib.hid (by rw [HSL.out]; exact Sl.of_owns HO.out (by omega))
        have HTr := Lib.hid ((HT.out.keep HB3.out).keep HB.out)
        have HBox := Lib.hid ((HX1.out.keep HB3.out).keep HB.out)
        clear hn
        go_wp2_with (first
          | (go_at_call 60; refine (CALL.out _ _ _).mono ?_; rintro e wa ⟨rfl, rfl⟩)
          | (go_at_call 102; refine (C2.out _).mono ?_; rintro e wa ⟨rfl, rfl⟩)
          | (go_at_call 65; refine (LIST2.out _ HTr.out).mono ?_; rintro e wb ⟨lv, rfl, hown2, hbb⟩; have HNR : Hid (Nums wb 3 .i64 lv (natInts R)) := Lib.hid (Nums.of_owns hown2 (natInts_length _).symm (by omega)); clear hown2)
          | (go_at_call 108; refine (induced_any _ _ (indN g.length (conE (ofG g) lo hi)) R (by rw [HSL.out]; exact h16) (HE16.out _) HRIN.out hR16 _ (HX.out.below hbb) HNR.out).mono ?_; rintro e wc ⟨uc, rfl, hoc, hbc⟩; have HXC : Hid (Sl wc 69 uc (indN R.length (bitE (indN g.length (conE (ofG g) lo hi)) R)).length ((indN R.length (bitE (indN g.length (conE (ofG g) lo hi)) R)).map u32v)) := Lib.hid (by rw [HBL.out]; exact Sl.of_owns hoc (by omega)); clear hoc)
          | (go_at_call 95; refine (graph_any _ (indN R.length (bitE (indN g.length (conE (ofG g) lo hi)) R)) (HB16.out _) (by rw [HBL.out]; omega) _ HXC.out ((HTr.out.keep hbb).keep hbc)).mono ?_; rintro e wd ⟨ud, rfl, hdd, hbd⟩; rw [HROWS.out] at hdd; obtain ⟨p8, c8, e8⟩ := hdd.shape; rw [HCL.out] at e8; subst e8; obtain ⟨mc, mf, ml, mB⟩ := ((HBox.out.keep hbb).keep hbc).keep hbd))
        have sr := HB.out.size
        have sb := hbb.size
        have sc := hbc.size
        refine bodyPost_ret (v := .tuple #[.agg #[.slice p8 (g.length - 1) c8], .bool true]) (by simp [results, Tryd.results48, go_sem, mc]) rfl ⟨_, _, rfl, (hdd.setBox ⟨mc, mf, ml, mB⟩ _).base (by omega), ?_⟩
        exact (HW3.out.trans (((HB.out.trans (hbb.mono (by omega))).trans ((hbc.mono (by omega)).trans (hbd.mono (by omega)))).mono (by omega))).setCell (by show w.heap.size ≤ w.heap.size + 1; omega) _

end Go.Proofs.YtjdlmjmhlbpooaaDoor
