/- Walk: FourModel of the program. -/
import Derived.Test.YtfokiijcpkhllaaDoorFmQ41
import Derived.Test.YtfokiijcpkhllaaDoorFmQ14
import Derived.Test.YtfokiijcpkhllaaDoorFmQ25
namespace Go.Proofs.YtfokiijcpkhllaaDoor
open Go.RowKit

theorem ty_vsetsF : SlTy Tryd.prog 60 64 (.int .u32 0) 1 4 := ⟨Tryd.underlying60, by kernel_rfl, rfl, by decide, by decide⟩

/-- One bit alone in each set. -/
def onesL (n : Nat) : List Nat := (List.range n).map fun i => 2 ^ i
theorem onesL_length (n : Nat) : (onesL n).length = n := by simp [onesL]
theorem onesL_succ (n : Nat) : onesL (n + 1) = onesL n ++ [2 ^ n] := by simp [onesL, List.range_succ]
theorem onesL_lt {n : Nat} (h : n ≤ 16) : ∀ s ∈ onesL n, s < 65536 := by
  intro s hs
  obtain ⟨i, hi, rfl⟩ := List.mem_map.1 hs
  exact pow_lt16 i (by have := List.mem_range.1 hi; omega)
theorem natInts_pow {i : Nat} (h : i < 32) : natInts (bitsOf (2 ^ i)) = [(i : Int)] := by
  refine rising_ext_int _ _ (natInts_rising (bitsOf_rising _)) (by simp) fun x => ?_
  rw [mem_natInts]
  constructor
  · rintro ⟨j, hj, rfl⟩
    rw [mem_bitsOf' (pow_lt32 i h), testBit_pow, decide_eq_true_eq] at hj
    simp [hj]
  · intro hx
    have hx : x = (i : Int) := by simpa using hx
    exact ⟨i, by rw [mem_bitsOf' (pow_lt32 i h), testBit_pow]; simp, hx.symm⟩
theorem rowsOf_ones {n : Nat} (h : n ≤ 16) : rowsOf (onesL n) = aloneL n := by
  unfold rowsOf onesL aloneL
  rw [List.map_map]
  refine List.map_congr_left fun i hi => ?_
  exact natInts_pow (by have := List.mem_range.1 hi; omega)
theorem rowsOf_set (ms : List Nat) (u s : Nat) : rowsOf (ms.set u s) = (rowsOf ms).set u (natInts (bitsOf s)) := by simp [rowsOf, List.map_set]
theorem row_rowsOf' (ms : List Nat) (j : Nat) : row (rowsOf ms) j = natInts (bitsOf (ms.getD j 0)) := by
  by_cases h : j < ms.length
  · rw [row_rowsOf h]; simp [h]
  · rw [row_over (by rw [rowsOf_length]; omega)]
    simp [h, bitsOf_zero, natInts]
theorem getD_lt16 {ms : List Nat} (h : ∀ s ∈ ms, s < 65536) (i : Nat) : ms.getD i 0 < 65536 := lt16_getD h i
theorem bit_16 {s i : Nat} (h : s < 65536) (hi : s.testBit i = true) : i < 16 := by
  by_cases h16 : i < 16
  · exact h16
  · have h2 : 2 ^ 16 ≤ 2 ^ i := Nat.pow_le_pow_right (by decide) (by omega)
    rw [Nat.testBit_lt_two_pow (Nat.lt_of_lt_of_le h h2)] at hi
    cases hi
theorem bits_16 {s : Nat} (h : s < 65536) : (bitsOf s).length ≤ 16 := by
  have h1 : SetIn 16 (natInts (bitsOf s)) := by
    refine ⟨fun x hx => ?_, natInts_rising (bitsOf_rising _)⟩
    obtain ⟨i, hi, rfl⟩ := mem_natInts.1 hx
    rw [mem_bitsOf' (by omega)] at hi
    have := bit_16 h hi
    omega
  have := setIn_length (by omega) h1
  rw [natInts_length] at this
  omega

/-- What the loop carries. -/
structure FnI (w wr : World) (n sb sc : Nat) (gg : List (List Int)) (L : List Int) (a ms : List Nat) (left : Nat) (xv : Value) : Prop where
  bel : Below w.heap.size w wr
  sz : w.heap.size + 2 ≤ wr.heap.size
  res : Box wr (w.heap.size + 1) 49 (.slice none 0 0)
  nets : Sl wr 64 xv a.length (a.map u32v)
  sets : wr.ownsRow (w.heap.size + 2) 64 1 (.slice (some ⟨sb, 0, none⟩) n sc) n (ms.map u32v)
  al : a.length = n
  ml : ms.length = n
  m16 : ∀ s ∈ ms, s < 65536
  same : Same gg L a left
  rg : RG gg
  tab : Tab wr

theorem sub_fewer {left v : Nat} (h : left < 65536) (hv : left.testBit v = true) : (bitsOf (sub left (2 ^ v))).length < (bitsOf left).length := by
  have hv16 := bit_16 h hv
  exact bits_sub_lt h hv hv16

theorem FnI.next {w wr wx : World} {n sb sc : Nat} {gg : List (List Int)} {L : List Int} {a ms : List Nat} {left : Nat} {xv : Value} (h : FnI w wr n sb sc gg L a ms left xv) (hb : Below wr.heap.size wr wx) : FnI w wx n sb sc gg L a ms left xv :=
  { bel := h.bel.trans (hb.mono h.bel.size), sz := Nat.le_trans h.sz hb.size, res := h.res.keep hb, nets := h.nets.below hb, sets := ownsRow_below h.sets hb, al := h.al, ml := h.ml, m16 := h.m16, same := h.same, rg := h.rg, tab := h.tab.keep hb }

/-- One step of the loop. -/
theorem FnI.step {w wr w' : World} {n sb sc : Nat} {g0 S0 gg : List (List Int)} {L0 L : List Int} {a ms : List Nat} {left l' : Nat} {xv r : Value} {ok : Bool} (h : FnI w wr n sb sc gg L a ms left xv) (hT : Tab w)
    (hon : FoursOn g0 L0 S0 gg L (rowsOf ms)) (hs : ShrS gg L a ms left (w.heap.size + 2) xv (.slice (some ⟨sb, 0, none⟩) n sc) wr w' r l' ok) :
    ∃ g1 L1 a1 ms1, FnI w w' n sb sc g1 L1 a1 ms1 l' r ∧ FoursOn g0 L0 S0 g1 L1 (rowsOf ms1) ∧ (ok = false → lessOf g1 L1 = none ∧ edgeOf g1 L1 = none) ∧ (bitsOf l').length * 2 + (if ok then 1 else 0) < (bitsOf left).length * 2 + 1 := by
  have hsb := h.sets.lt sb rfl
  have hpos := hT.pos
  cases hs with
  | stop h1 h2 h3 h4 h5 h6 =>
    subst h1; subst h2; subst h3
    exact ⟨gg, L, a, ms, { bel := h.bel.trans (h6.mono h.bel.size), sz := Nat.le_trans h.sz h6.size, res := h.res.keep h6, nets := h.nets.below h6, sets := ownsRow_below h.sets h6, al := h.al, ml := h.ml, m16 := h.m16, same := h.same, rg := h.rg, tab := h.tab.keep h6 }, hon, fun _ => ⟨h4, h5⟩, by simp⟩
  | less h1 h2 z h3 hz h4 h6 =>
    subst h1; subst h2; subst h4
    refine ⟨freeG gg z, lessL L z, a, ms, { bel := h.bel.trans (h6.mono h.bel.size), sz := Nat.le_trans h.sz h6.size, res := h.res.keep h6, nets := h.nets.below h6, sets := ownsRow_below h.sets h6, al := h.al, ml := h.ml, m16 := h.m16, same := h.same.free hz, rg := h.rg.free _, tab := h.tab.keep h6 }, fun _ _ k => hon _ _ (.less h3 k), (fun e => nomatch e), ?_⟩
    have := sub_fewer h.same.left16 hz
    simp; omega
  | edge h1 u v h2 h3 hu hv huv h4 h5 h6 h7 =>
    subst h1; subst h4
    have hul := h.same.inn u hu
    have hvl := h.same.inn v hv
    have hal := h.al
    have hml := h.ml
    have hlen := h.same.len
    obtain ⟨k1, k2⟩ := joinG_mem (v := (v : Int)) h.rg (by omega : (0 : Int) ≤ (u : Int)) (by omega : (u : Int) < gg.length)
    have hcl : (contrL a left u v).length = a.length := by rw [contrL, tieN_length]
    have hm1 := getD_lt16 h.m16 u
    have hm2 := getD_lt16 h.m16 v
    refine ⟨joinG gg u v, lessL L v, contrL a left u v, ms.set u (ms.getD u 0 ||| ms.getD v 0), { bel := h.bel.grown h7 h.bel.size (fun k hk => ?_), sz := Nat.le_trans h.sz h7.size, res := h.res.grown h7 (fun e => ?_), nets := ?_, sets := ?_, al := by rw [hcl]; exact h.al, ml := by simp [h.ml], m16 := fun s hs => ?_, same := h.same.join h.rg hu hv huv, rg := k1, tab := h.tab.grown h7 (fun e => ?_) }, fun _ _ k => hon _ _ (.edge h2 h3 ?_), (fun e => nomatch e), ?_⟩
    · have := (h.sets.lt k hk).1; omega
    · have := (h.sets.lt _ e.symm).1; omega
    · rw [hcl]; exact Sl.of_owns h5 (by have := h.same.le; omega)
    · rw [← h.ml]; rw [h.ml] at h6 ⊢; exact h6
    · rcases List.mem_or_eq_of_mem_set hs with e | e
      · exact h.m16 s e
      · subst e; exact or_lt16 _ _ hm1 hm2
    · have := (h.sets.lt _ e.symm).1; omega
    · rw [Int.toNat_natCast, Int.toNat_natCast, row_rowsOf', row_rowsOf', intoAll_bits _ _ hm1 hm2, ← rowsOf_set]; exact k
    · have := sub_fewer h.same.left16 hv
      simp; omega

end Go.Proofs.YtfokiijcpkhllaaDoor

/- Walk: FourModel of the program. -/
namespace Go.Proofs.YtfokiijcpkhllaaDoor
open Go.RowKit

theorem dg_nilF (w : World) (base : Nat) : DG w base (.agg #[.slice none 0 0]) [] := ⟨_, [], rfl, rfl, World.ownsRow_nil _ _ _ _, ⟨fun j hj => by simp at hj, fun i j hi => by simp at hi⟩⟩
theorem DG.setM {w : World} {base b : Nat} {v x : Value} {g : List (List Int)} (h : DG w base v g) (hb : Box w b 49 x) (u : Value) : DG (w.setCell ⟨b, 0, none⟩ u) base v g := by
  obtain ⟨u0, vals, h1, h2, h3, h4⟩ := h
  exact ⟨u0, vals, h1, h2, ownsRow_setBox h3 hb (by decide) _, ⟨fun j hj => ownsRow_setBox (h4.rows j hj) hb (by decide) _, h4.dis⟩⟩

set_option maxRecDepth 100000 in
set_option maxHeartbeats 4000000 in
theorem implFourModel_any (v : Value) (g : List (List Int)) (w : World) (hg : Gr w v g) (hT : Tab w) :
    Calls Tryd.prog 29 #[v] w fun e w' => ∃ (u : Value) (out : List (List Int)) (ok : Bool), e = .returned (.tuple #[u, .bool ok]) ∧ FourS g out ok ∧ DG w' w.heap.size u out ∧ out.length ≤ 16 ∧ (∀ j, (row out j).length ≤ 16) ∧ Below w.heap.size w w' := by
  have hg0 := hg
  obtain ⟨u, rfl, hr⟩ := hg
  obtain ⟨gp, gc, rfl, _, _, _⟩ := hr.shape
  obtain ⟨W0, hW0, hb0, hbg, hbn, sz0⟩ : ∃ W0, W0 = (w.alloc (.cells #[.slice gp g.length gc] 29)).alloc (.cells #[.slice none 0 0] 49) ∧ Below w.heap.size w W0 ∧ Box W0 w.heap.size 29 (.slice gp g.length gc) ∧ Box W0 (w.heap.size + 1) 49 (.slice none 0 0) ∧ W0.heap.size = w.heap.size + 2 := by
    refine ⟨_, rfl, below_alloc2 _ _ _, (Box.new _ _ _).alloc _, ?_, by rw [size_alloc, size_alloc]⟩
    have := Box.new (w.alloc (.cells #[.slice gp g.length gc] 29)) (.slice none 0 0) 49
    rw [size_alloc] at this
    exact this
  have HB0 := Lib.hid hb0
  have HBG := Lib.hid hbg
  have HBN := Lib.hid hbn
  have HG := Lib.hid (hg0.below hb0)
  have HT := Lib.hid hT
  have HT0 := Lib.hid (hT.keep hb0)
  clear hr hg0 hb0 hbg hbn hT
  by_cases hok : GOk g
  case neg =>
    have hd := dec_false hok
    have Hok := Lib.hid hok
    clear hok
    have hcg := HBG.out.cell
    go_enter Tryd.func29, Tryd.ntmps29
    go_upto_region 1 with fail
    rw [← hW0]
    clear hW0
    go_wp2_with (go_at_call 38; refine (implGraphOk_any _ g _ HG.out).mono ?_; rintro e w2 ⟨rfl, hb2⟩; have HB2 := Lib.hid hb2; have HX2 := Lib.hid (HBN.out.keep hb2); have hx2 := HX2.out.cell; have hf2 := HX2.out.free; clear hb2)
    refine bodyPost_ret (v := .tuple #[.agg #[.slice none 0 0], .bool false]) (by simp [results, Tryd.results29, go_sem, hx2]) rfl ⟨_, [], false, rfl, .inl ⟨rfl, rfl, fun h => Hok.out h.1⟩, dg_nilF _ _, by simp, fun j => by simp [row], ?_⟩
    exact (HB0.out.trans (HB2.out.mono HB0.out.size)).setCell (by show w.heap.size ≤ w.heap.size + 1; omega) _
  have hd := dec_true hok
  have Hok := Lib.hid hok
  have h16 := hok.le
  have hpos := hok.pos
  clear hok
  by_cases hse : SerS g
  case pos =>
    have hd2 := dec_true hse
    have Hse := Lib.hid hse
    clear hse
    have hcg := HBG.out.cell
    go_enter Tryd.func29, Tryd.ntmps29
    go_upto_region 1 with fail
    rw [← hW0]
    clear hW0
    go_wp2_with (first
      | (go_at_call 19; refine (implSeriesIn_any _ g _ (HG.out.below HB2.out) (HT0.out.keep HB2.out)).mono ?_; rintro e w3 ⟨rfl, hb3⟩; have HB3 := Lib.hid (HB2.out.trans (hb3.mono HB2.out.size)); have HX2 := Lib.hid (HBN.out.keep HB3.out); have hx2 := HX2.out.cell; have hf2 := HX2.out.free; clear hb3)
      | (go_at_call 38; refine (implGraphOk_any _ g _ HG.out).mono ?_; rintro e w2 ⟨rfl, hb2⟩; have HB2 := Lib.hid hb2; have hcg2 := hb2.at' hcg; clear hb2))
    refine bodyPost_ret (v := .tuple #[.agg #[.slice none 0 0], .bool false]) (by simp [results, Tryd.results29, go_sem, hx2]) rfl ⟨_, [], false, rfl, .inl ⟨rfl, rfl, fun h => h.2 Hse.out⟩, dg_nilF _ _, by simp, fun j => by simp [row], ?_⟩
    exact (HB0.out.trans (HB3.out.mono HB0.out.size)).setCell (by show w.heap.size ≤ w.heap.size + 1; omega) _
  have hd2 := dec_false hse
  have Hse := Lib.hid hse
  clear hse
  have hcg := HBG.out.cell
  obtain ⟨M, hM⟩ : ∃ M, M = 2 ^ g.length - 1 := ⟨_, rfl⟩
  have HM := Lib.hid hM
  have HSAME : Hid (Same g (allL g.length) (netL g) M) := Lib.hid (by rw [hM]; exact same_start Hok.out)
  have HNL := Lib.hid (show (netL g).length = g.length by simp [netL])
  clear hM
  go_enter Tryd.func29, Tryd.ntmps29
  go_upto_region 1 with fail
  rw [← hW0]
  clear hW0
  go_wp2_with (first
    | (go_at_call 46; refine (all_any' _ _ _ M (by omega) HM.out _).mono ?_; rintro e w5 ⟨rfl, rfl⟩)
    | (go_at_call 41; refine (netsOf_any _ g _ (HG.out.below HB3.out) Hok.out).mono ?_; rintro e w4 ⟨x, rfl, hown4, hb4⟩; have HO4 := Lib.hid hown4; have HX4 := Lib.hid (Sl.of_owns hown4 (by omega)); obtain ⟨xp, xc, rfl⟩ := own_shapeN hown4; have HB4 := Lib.hid (HB3.out.trans (hb4.mono HB3.out.size)); clear hown4 hb4)
    | (go_at_call 19; refine (implSeriesIn_any _ g _ (HG.out.below HB2.out) (HT0.out.keep HB2.out)).mono ?_; rintro e w3 ⟨rfl, hb3⟩; have HB3 := Lib.hid (HB2.out.trans (hb3.mono HB2.out.size)); have hcg3 := HB3.out.at' hcg; clear hb3)
    | (go_at_call 38; refine (implGraphOk_any _ g _ HG.out).mono ?_; rintro e w2 ⟨rfl, hb2⟩; have HB2 := Lib.hid hb2; have hcg2 := hb2.at' hcg; clear hb2))
  have hsz4 := HB4.out.size
  clear hcg hcg2 hcg3
  go_loopw [6, 27] (fun sv i wr => ∃ k : Nat, k ≤ g.length ∧ i = .int .i64 k ∧ wr.ownsRow w4.heap.size 64 1 sv k ((onesL k).map u32v) ∧ Below w4.heap.size w4 wr) (fun _ i _ => g.length - (intOf i).toNat)
  case atStart => exact ⟨0, Nat.zero_le _, rfl, ownsRow_empty _ _ _, below_alloc _ _⟩
  case round =>
    obtain ⟨k, hk, rfl, ho, hb⟩ := hrel
    have HO := Lib.hid ho
    have HB := Lib.hid hb
    have hsr := hb.size
    clear ho hb
    by_cases hlt : k < g.length
    · obtain ⟨pk, hpk⟩ : ∃ pk, pk = 2 ^ k := ⟨_, rfl⟩
      have ONE : Hid (∀ w, Calls Tryd.prog 74 #[.int .i64 (k : Int)] w fun e w' => e = .returned (.int .u32 (pk : Int)) ∧ w = w') := Lib.hid (fun w => by rw [hpk]; exact one_any (k : Int) k rfl (by omega) w)
      have HPK := Lib.hid hpk
      clear hpk
      go_wp2_with (first
        | (go_at_call 74; refine (ONE.out _).mono ?_; rintro e w2 ⟨rfl, rfl⟩)
        | (at_builtin; refine wpList_app1 ty_vsetsF rfl rfl rfl HO.out rfl rfl (by omega) hsr ?_; intro v' w7 hown7 hg7 _))
      go_roundw
      case rel => exact ⟨k + 1, by omega, by go_num, by rw [onesL_succ, List.map_append, ← HPK.out]; exact hown7, HB.out.trans (below_grown (Below.refl w4.heap.size wr) HO.out hg7 (Nat.le_refl _) hsr)⟩
      case measure => simp [intOf]; omega
    · obtain rfl : k = g.length := by omega
      obtain ⟨sb, sc, rfl⟩ : ∃ sb sc, u6 = .slice (some ⟨sb, 0, none⟩) g.length sc := by
        rcases HO.out.2 with ⟨_, h0⟩ | ⟨b, c, _, rfl, _⟩
        · omega
        · exact ⟨b, c, rfl⟩
      have START : Hid (FnI w wr g.length sb sc g (allL g.length) (netL g) (onesL g.length) M (.slice xp g.length xc)) := Lib.hid
        { bel := HB0.out.trans ((HB4.out.trans (HB.out.mono hsz4)).mono HB0.out.size), sz := by omega, res := HBN.out.keep (HB4.out.trans (HB.out.mono hsz4)), nets := by have := HX4.out.below HB.out; rw [HNL.out]; exact this
          sets := ownsRow_base HO.out (by omega), al := HNL.out, ml := onesL_length _, m16 := onesL_lt h16, same := HSAME.out, rg := RG.of_ok Hok.out, tab := HT0.out.keep (HB4.out.trans (HB.out.mono hsz4)) }
      have HON0 : Hid (FoursOn g (allL g.length) (aloneL g.length) g (allL g.length) (rowsOf (onesL g.length))) := Lib.hid (by rw [rowsOf_ones h16]; exact fun _ _ h => h)
      clear HB HO HG HBG HBN HX4 HO4 hsr HB0 HB4 HT0
      go_wp2_with fail
      go_loopw [4, 5, 8] (fun xv lv mv wr => ∃ gg L a ms left more xp xc, xv = .slice xp g.length xc ∧ lv = .int .u32 ((left : Nat) : Int) ∧ mv = .bool more ∧ FnI w wr g.length sb sc gg L a ms left (.slice xp g.length xc) ∧ Hid (FoursOn g (allL g.length) (aloneL g.length) gg L (rowsOf ms)) ∧ Hid (more = false → lessOf gg L = none ∧ edgeOf gg L = none))
        (fun _ lv mv _ => (bitsOf (intOf lv).toNat).length * 2 + (match mv with | .bool true => 1 | _ => 0))
      case atStart => exact ⟨g, allL g.length, netL g, onesL g.length, M, true, xp, xc, rfl, rfl, rfl, START.out, HON0.out, Lib.hid (fun e => nomatch e)⟩
      case round =>
        clear START HON0
        obtain ⟨gg, L, a, ms, left, more, xp', xc', rfl, rfl, rfl, hI, HON, HST⟩ := hrel
        have HI := Lib.hid hI
        clear hI
        cases more with
        | true =>
          have SHR : Hid (Calls Tryd.prog 82 #[.slice xp' g.length xc', .int .u32 (left : Int), .slice (some ⟨sb, 0, none⟩) g.length sc] wr fun e w' => ∃ (p c l' : Nat) (q : Option Addr) (ok : Bool) (gg : List (List Int)) (L : List Int) (a ms : List Nat), e = .returned (.tuple #[.slice q g.length c, .int .u32 (l' : Int), .bool ok]) ∧
              FnI w w' g.length sb sc gg L a ms l' (.slice q g.length c) ∧ FoursOn g (allL g.length) (aloneL g.length) gg L (rowsOf ms) ∧ (ok = false → lessOf gg L = none ∧ edgeOf gg L = none) ∧ (bitsOf l').length * 2 + (if ok then 1 else 0) < (bitsOf left).length * 2 + 1) := Lib.hid (by
            have hI := HI.out
            refine (shrink_any _ _ _ gg L a ms left (w.heap.size + 2) rfl hI.same hI.rg (by rw [hI.ml, hI.al]) hI.m16 _ hI.nets (by rw [hI.ml]; exact hI.sets) hI.tab).mono ?_
            rintro e w5 ⟨r, l', ok, rfl, hs5⟩
            obtain ⟨g1, L1, a1, ms1, hI1, hon1, hst1, hm1⟩ := hI.step HT.out HON.out hs5
            obtain ⟨q, c, rfl⟩ := hI1.nets.shape
            rw [hI1.al] at hI1 ⊢
            exact ⟨0, c, l', q, ok, g1, L1, a1, ms1, rfl, hI1, hon1, hst1, hm1⟩)
          go_wp2_with (go_at_call 82; refine SHR.out.mono ?_; rintro e w5 ⟨_, c5, l5, q5, ok5, g5, L5, a5, ms5, rfl, hI5, hon5, hst5, hm5⟩; have HI5 := Lib.hid hI5; have HON5 := Lib.hid hon5; have HST5 := Lib.hid hst5; have HM5 := Lib.hid hm5; clear hI5 hon5 hst5 hm5)
          go_roundw
          case rel => exact ⟨g5, L5, a5, ms5, l5, ok5, q5, c5, rfl, rfl, rfl, HI5.out, HON5, HST5⟩
          case measure =>
            have := HM5.out
            cases ok5 <;> simp [intOf] at this ⊢ <;> omega
        | false =>
          obtain ⟨hn1, hn2⟩ := HST.out rfl
          have HFO := Lib.hid (HON.out _ _ (.stop hn1 hn2))
          have hl65 := HI.out.same.left16
          obtain ⟨ls, hls⟩ : ∃ ls, ls = bitsOf left := ⟨_, rfl⟩
          have HLS := Lib.hid hls
          have hcnt : ls.length ≤ 16 := by rw [hls]; exact HI.out.same.cnt
          have HLI : Hid (∀ i ∈ ls, i < g.length) := Lib.hid (fun i hi => by have := HI.out.same.inn i ((mem_left hl65).1 (hls ▸ hi)); have := HI.out.al; omega)
          have LIST : Hid (∀ (w : World) (_ : Tab w), Calls Tryd.prog 48 #[.int .u32 (left : Int)] w fun e w' => ∃ v, e = .returned v ∧ w'.ownsRow w.heap.size 3 1 v ls.length ((natInts ls).map (Value.int .i64)) ∧ Below w.heap.size w w') := Lib.hid (fun w hT => by rw [hls]; exact list_any _ left rfl (by omega) w hT)
          have hbA := below_alloc wr (.cells #[] 64)
          have hTA := Lib.hid (HI.out.tab.keep hbA)
          have hsA : (wr.alloc (.cells #[] 64)).heap.size = wr.heap.size + 1 := size_alloc _ _
          have HBA := Lib.hid hbA
          clear hn1 hn2 hls hbA
          go_wp2_with (go_at_call 48; refine (LIST.out _ hTA.out).mono ?_; rintro e w2 ⟨lv, rfl, ho2, hb2⟩; have hn2 := Nums.of_owns ho2 (natInts_length _).symm (by omega); obtain ⟨lp, lc, rfl, _⟩ := id hn2; rw [natInts_length] at hn2 ⊢; have HN2 := Lib.hid hn2; have HB2 := Lib.hid (HBA.out.trans (hb2.mono (by omega))); have HO2 := Lib.hid (ownsRow_below (ownsRow_empty wr 64 1) hb2); clear ho2 hb2 hn2)
          go_loopw [9, 49] (fun ov i wx => ∃ k : Nat, k ≤ ls.length ∧ i = .int .i64 k ∧ wx.ownsRow wr.heap.size 64 1 ov k (((ls.take k).map fun i => ms.getD i 0).map u32v) ∧ Below wr.heap.size wr wx ∧ Nums wx 3 .i64 (.slice lp ls.length lc) (natInts ls)) (fun _ i _ => ls.length - (intOf i).toNat)
          case atStart => exact ⟨0, Nat.zero_le _, rfl, HO2.out, HB2.out, HN2.out⟩
          case round =>
            clear HN2 HB2 HO2
            obtain ⟨k, hk, rfl, ho, hb, hn⟩ := hrel
            have HO := Lib.hid ho
            have HB := Lib.hid hb
            have HN := Lib.hid hn
            have HIk := Lib.hid (HI.out.next hb)
            have hsr := hb.size
            clear ho hb
            by_cases hlt : k < ls.length
            · obtain ⟨m, hm⟩ : ∃ m, m = ls[k] := ⟨_, rfl⟩
              have hmn : m < g.length := HLI.out m (by rw [hm]; exact List.getElem_mem hlt)
              have hmm : m < ms.length := by rw [HI.out.ml]; exact hmn
              have hlt' : k < (natInts ls).length := by rw [natInts_length]; exact hlt
              obtain ⟨eb, eo, rfl, hce⟩ := hn.get hlt'
              rw [bits_get hlt', ← hm] at hce
              have hcm := HIk.out.sets.cellAt m (show m < g.length * 1 by omega)
              rw [List.getElem?_map, List.getElem?_eq_getElem hmm] at hcm
              change World.cell? _ ⟨sb, m, none⟩ = some (.int .u32 (ms[m] : Int)) at hcm
              have HMM := Lib.hid hm
              clear hn hlt' hm
              go_wp2_with (at_builtin; refine wpList_app1 ty_vsetsF rfl rfl rfl HO.out rfl rfl (by omega) hsr ?_; intro v' w7 hown7 hg7 _)
              go_roundw
              case rel => exact ⟨k + 1, by omega, by go_num, by rw [take_snoc' ls k hlt, List.map_append, List.map_append, ← HMM.out]; simp only [List.map_cons, List.map_nil]; rw [show ms.getD m 0 = ms[m] by simp [hmm]]; exact hown7, HB.out.trans (below_grown (Below.refl _ _) HO.out hg7 (Nat.le_refl _) hsr), HN.out.other HO.out hg7 (by decide)⟩
              case measure => simp [intOf]; omega
            · obtain rfl : k = ls.length := by omega
              clear hn
              rw [List.take_length] at HO
              obtain ⟨os, hos⟩ : ∃ os, os = ls.map fun i => ms.getD i 0 := ⟨_, rfl⟩
              have HOS := Lib.hid hos
              have hosl : os.length = ls.length := by rw [hos, List.length_map]
              have HOL := Lib.hid hosl
              have H16 : Hid (∀ s ∈ os, s < 65536) := Lib.hid (fun s hs => by
                rw [hos] at hs
                obtain ⟨i, _, rfl⟩ := List.mem_map.1 hs
                exact getD_lt16 HI.out.m16 i)
              have HSL : Hid (Sl _ 64 u9 os.length (os.map u32v)) := Lib.hid (by rw [hosl, hos]; exact Sl.of_owns HO.out (by omega))
              clear hos hosl
              go_wp2_with (go_at_call 83; refine (results_any _ os (fun s hs => by have := H16.out s hs; omega) (by rw [HOL.out]; omega) _ HSL.out HIk.out.tab).mono ?_; rintro e w7 ⟨u7, rfl, hd7, hb7⟩; have HD7 := Lib.hid hd7; obtain ⟨p7, c7, h7⟩ := hd7.shape; cases h7; have HRX := Lib.hid (HIk.out.res.keep hb7); have hrc := HRX.out.cell; have hrf := HRX.out.free; have HB7 := Lib.hid (HIk.out.bel.trans (hb7.mono HIk.out.bel.size)); have HS7 := Lib.hid HIk.out.bel.size; clear hd7 hb7)
              have hl := rowsOf_length os
              rw [hl]
              refine bodyPost_ret (v := .tuple #[.agg #[.slice p7 os.length c7], .bool true]) (by simp [results, Tryd.results29, go_sem, hrc]) rfl ⟨_, rowsOf os, true, rfl, .inr ⟨rfl, Hok.out, Hse.out, _, _, HFO.out, ?_⟩, ?_, by rw [rowsOf_length, HOL.out]; exact hcnt, fun j => ?_, ?_⟩
              · rw [HI.out.same.list, ← HLS.out, HOS.out]
                unfold rowsOf natInts
                rw [List.map_map, List.map_map]
                refine List.map_congr_left fun i _ => ?_
                have := row_rowsOf' ms i
                simp only [Function.comp, Int.toNat_natCast]
                exact this.symm
              · have := DG.base (DG.setM HD7.out HRX.out (.slice p7 (rowsOf os).length c7)) HS7.out
                rw [hl] at this
                exact this
              · rw [row_rowsOf', natInts_length]
                exact bits_16 (getD_lt16 H16.out j)
              · exact HB7.out.setCell (by show w.heap.size ≤ w.heap.size + 1; omega) _

end Go.Proofs.YtfokiijcpkhllaaDoor

/- Walks: the reference's search of a model: going on from the beginning of a word. -/
namespace Go.Proofs.YtfokiijcpkhllaaDoor
open Go.RowKit

/-- What the search returns. -/
def FndR (w' : World) (u : Value) (ok : Bool) (o : Option (List Nat)) : Prop :=
  match o with
  | some x => ok = true ∧ Nums w' 2 .i64 u (natInts x)
  | none => ok = false

def FndE (e : Ending) (w' : World) (o : Option (List Nat)) : Prop := ∃ (u : Value) (ok : Bool), e = .returned (.tuple #[u, .bool ok]) ∧ FndR w' u ok o
theorem grown_dNK {w w' : World} {r : Option Nat} {n : Nat} (h : (w.drewN n).grownBy w' r) : w.grownBy w' r := ⟨h.os, h.tape, h.output, h.size, h.block⟩
theorem grown_transK {w w1 w2 : World} {r : Option Nat} (h : w.grownBy w1 r) (h2 : w1.grownBy w2 r) : w.grownBy w2 r :=
  ⟨h2.os.trans h.os, h2.tape.trans h.tape, h2.output.trans h.output, Nat.le_trans h.size h2.size, fun k hk hne => (h2.block k (Nat.lt_of_lt_of_le hk h.size) hne).trans (h.block k hk hne)⟩
/-- Behind a second step too all but one block is as it was. -/
theorem grown_transB {w0 w w' : World} {rb r : Option Nat} (h : w0.grownBy w rb) (h2 : w.grownBy w' r) (hr : ∀ k, r = some k → rb = some k ∨ w0.heap.size ≤ k) : w0.grownBy w' rb :=
  ⟨h2.os.trans h.os, h2.tape.trans h.tape, h2.output.trans h.output, Nat.le_trans h.size h2.size, fun k hk hne => (h2.block k (Nat.lt_of_lt_of_le hk h.size) fun e => by
    rcases hr k e.symm with h5 | h5
    · exact hne h5.symm
    · omega).trans (h.block k hk hne)⟩
theorem own_newK {w0 : World} {n b m c : Nat} {v : Value} {rb : Option Nat} (hs : w0.heap.size ≤ n) (h : ∀ k, v.ownBlock = some k → rb = some k ∨ w0.heap.size ≤ k) (hb : v.ownBlock = some b ∨ n ≤ b) : ∀ q, (Value.slice (some ⟨b, 0, none⟩) m c).ownBlock = some q → rb = some q ∨ w0.heap.size ≤ q := fun q hq => by
  simp only [Value.ownBlock, Option.some.injEq] at hq
  subst hq
  rcases hb with hb | hb
  · exact h _ hb
  · exact .inr (by omega)
theorem one_ints {K : IntKind} (l : List Int) : ∀ x ∈ l.map (Value.int K), x.oneCell' = true := fun x hx => by
  obtain ⟨y, _, rfl⟩ := List.mem_map.1 hx
  rfl

set_option maxRecDepth 100000 in
set_option maxHeartbeats 4000000 in
theorem l21Find_any (v pv : Value) (g p : List (List Int)) (hok : GOk g) (hp : GOk p) (w0 : World) (rb : Option Nat) (hro : ∀ w', w0.grownBy w' rb → Nums w' 2 .i64 v (natInts (netL g)) ∧ Gr w' pv p) :
    ∀ (r : Nat) (wd : List Nat) (xv : Value) (w : World), wd.length + r = g.length → (∀ x ∈ wd, x ≤ p.length) → w0.grownBy w rb → (∀ k, xv.ownBlock = some k → rb = some k ∨ w0.heap.size ≤ k) → w.ownsRow 0 2 1 xv wd.length ((natInts wd).map (Value.int .i64)) →
    Calls Tryd.prog 85 #[v, pv, xv] w fun e w' => FndE e w' (findN p.length (FitW p.length (ofG g) (ofG p)) r wd) ∧ w'.ownsRow 0 2 1 xv wd.length ((natInts wd).map (Value.int .i64)) ∧ w.grownBy w' xv.ownBlock := by
  have h16 := hok.le
  have hm16 := hp.le
  have HOK := Lib.hid hok
  have HP := Lib.hid hp
  obtain ⟨hn, hg⟩ := hro w0 (World.grownBy.refl _ _)
  have HNL : Hid ((natInts (netL g)).length = g.length) := Lib.hid (by rw [natInts_length]; simp [netL])
  obtain ⟨np, nc, rfl, _⟩ := id hn.shape
  obtain ⟨pu, rfl, hr⟩ := hg
  obtain ⟨pp, pc, rfl, _⟩ := hr.shape
  have HRO := Lib.hid hro
  rw [HNL.out] at HRO ⊢
  clear hn hr hok hp hro
  intro r
  induction r with
  | zero =>
    intro wd xv w hl hm hb hbk hown
    obtain ⟨xp, xc, rfl⟩ := owns_shapeK hown
    obtain ⟨W1, hW1⟩ : ∃ W1, W1 = w.alloc (.cells #[.slice pp p.length pc] 29) := ⟨_, rfl⟩
    have HBA : Hid (Below w.heap.size w W1) := Lib.hid (by rw [hW1]; exact below_alloc _ _)
    have BX : Hid (Box W1 w.heap.size 29 (.slice pp p.length pc)) := Lib.hid (by rw [hW1]; exact Box.new _ _ _)
    have HB1 : Hid (w0.grownBy W1 rb) := Lib.hid (grown_transB hb (grown_of_below HBA.out none) (fun k hk => by cases hk))
    have HN := Lib.hid (HRO.out W1 HB1.out).1
    have HG := Lib.hid (HRO.out W1 HB1.out).2
    have HOW := Lib.hid hown
    have HXS : Hid (Sl W1 2 (.slice xp wd.length xc) wd.length ((natInts wd).map (Value.int .i64))) := Lib.hid (Sl.of_owns (ownsRow_below hown HBA.out) (by omega))
    have HX : Hid (Nums W1 2 .i64 (.slice xp wd.length xc) (natInts wd)) := Lib.hid (Nums.of_owns (ownsRow_below hown HBA.out) (by rw [natInts_length]) (by omega))
    have HM := Lib.hid hm
    have hw16 : wd.length ≤ 16 := by omega
    have HWL : Hid (wd.length = g.length) := Lib.hid (by omega)
    have hcx := BX.out.cell
    rw [← HWL.out] at HN ⊢
    have HL1 := Lib.hid (l21Lacks_any (.slice xp wd.length xc) wd p.length p.length rfl (by omega) W1 HX.out)
    have hlkm := lackW_le p.length wd
    clear hown hb hm hl hbk
    by_cases hlk : 0 < lackW p.length wd
    · have HF := Lib.hid (findN_lack (Fit := FitW p.length (ofG g) (ofG p)) hlk)
      generalize lackW p.length wd = lk at hlk HL1 hlkm
      have hlki : (0 : Int) < (lk : Int) := by omega
      go_enter Tryd.func85, Tryd.ntmps85
      go_upto_region 1 with fail
      rw [← hW1]
      clear hW1
      go_wp2_with (go_at_call 126; refine HL1.out.mono ?_; rintro e w5 ⟨rfl, hw5⟩; subst hw5)
      go_ret2
      refine ⟨⟨_, false, rfl, by rw [HF.out]; rfl⟩, ?_, ?_⟩
      · exact (ownsRow_below HOW.out HBA.out).alloc _
      · exact grown_of_below (HBA.out.alloc HBA.out.size _) _
    · have HF := Lib.hid (findN_leaf (Fit := FitW p.length (ofG g) (ofG p)) hlk)
      generalize lackW p.length wd = lk at hlk HL1 hlkm
      have hlki : ¬ (0 : Int) < (lk : Int) := by omega
      go_enter Tryd.func85, Tryd.ntmps85
      go_upto_region 1 with fail
      rw [← hW1]
      clear hW1
      go_upto_region 5 with (go_at_call 126; refine HL1.out.mono ?_; rintro e w5 ⟨rfl, hw5⟩; subst hw5)
      obtain ⟨fb, hfb⟩ : ∃ fb, fb = dec (FitW p.length (ofG g) (ofG p) wd) := ⟨_, rfl⟩
      have HFB := Lib.hid hfb
      have ONE := Lib.hid (one_ints (K := .i64) (natInts wd))
      have LEN : Hid (((natInts wd).map (Value.int .i64)).length = wd.length) := Lib.hid (by simp [natInts])
      clear hfb
      go_cut [6, 7] (fun s6 s7 wx => Nums wx 2 .i64 s6 (natInts wd) ∧ s7 = .bool fb ∧ Below W1.heap.size W1 wx)
      case first =>
        go_region_held3 (fun w' => w'.cell? ⟨w.heap.size, 0, none⟩ = some (.slice pp p.length pc))
          (first | exact hcx | exact BWB.at' hcx | exact BWA.at' hcx | go_keep)
          (first
            | (go_at_call 127; refine (l1Copy_any _ wd.length _ ONE.out LEN.out _ (by first | exact HXS.out.below BWB | exact HXS.out.below (below_dN (Below.refl _ _) 1))).mono ?_; rintro e w3 ⟨u3, rfl, ho3, hb3⟩; have BWA : Below W1.heap.size W1 w3 := (by first | exact BWB.trans (hb3.mono BWB.size) | exact (below_dN (Below.refl _ _) 1).trans hb3); have HU3 : Hid (Nums w3 2 .i64 u3 (natInts wd)) := Lib.hid (Nums.of_owns ho3 (by rw [natInts_length]) (by omega)); clear ho3 hb3)
            | (go_at_call 128; refine (l21Fits_any _ _ _ g p HOK.out HP.out wd HWL.out HM.out _ (HN.out.below (by first | exact BWA | exact below_dN (Below.refl _ _) 1)) (HG.out.below (by first | exact BWA | exact below_dN (Below.refl _ _) 1)) (HX.out.below (by first | exact BWA | exact below_dN (Below.refl _ _) 1))).mono ?_; rintro e w4 ⟨he4, hb4⟩; rw [← HFB.out] at he4; subst he4; have BWB : Below W1.heap.size W1 w4 := (by first | exact BWA.trans (hb4.mono BWA.size) | exact (below_dN (Below.refl _ _) 1).trans hb4)))
        all_goals go_wp2
        all_goals go_meet
        all_goals first
          | exact ⟨HU3.out, rfl, BWA⟩
          | exact ⟨HU3.out.below hb4, rfl, BWB⟩
      case rest =>
      obtain ⟨hu, rfl, hbx⟩ := hcut
      have HU := Lib.hid hu
      have HBX := Lib.hid hbx
      clear hu hbx
      go_wp2_with fail
      go_ret2
      refine ⟨⟨_, fb, rfl, ?_⟩, ?_, ?_⟩
      · rw [HF.out, ← HFB.out]
        cases fb
        · exact rfl
        · exact ⟨rfl, HU.out⟩
      · exact ownsRow_below HOW.out (HBA.out.trans (HBX.out.mono HBA.out.size))
      · exact grown_of_below (HBA.out.trans (HBX.out.mono HBA.out.size)) _
  | succ r ih =>
    have HIH := Lib.hid ih
    clear ih
    intro wd xv w hl hm hb hbk hown
    obtain ⟨xp, xc, rfl⟩ := owns_shapeK hown
    obtain ⟨W1, hW1⟩ : ∃ W1, W1 = w.alloc (.cells #[.slice pp p.length pc] 29) := ⟨_, rfl⟩
    have HBA : Hid (Below w.heap.size w W1) := Lib.hid (by rw [hW1]; exact below_alloc _ _)
    have BX : Hid (Box W1 w.heap.size 29 (.slice pp p.length pc)) := Lib.hid (by rw [hW1]; exact Box.new _ _ _)
    have HB1 : Hid (w0.grownBy W1 rb) := Lib.hid (grown_transB hb (grown_of_below HBA.out none) (fun k hk => by cases hk))
    have HBK := Lib.hid hbk
    have HOW := Lib.hid hown
    have HOW1 := Lib.hid (ownsRow_below hown HBA.out)
    have HX : Hid (Nums W1 2 .i64 (.slice xp wd.length xc) (natInts wd)) := Lib.hid (Nums.of_owns (ownsRow_below hown HBA.out) (by rw [natInts_length]) (by omega))
    have HM := Lib.hid hm
    have HWL := Lib.hid hl
    have hcx := BX.out.cell
    have HNE : Hid (some w.heap.size ≠ (Value.slice xp wd.length xc).ownBlock) := Lib.hid (fun e => by have := (hown.lt _ e.symm).2; omega)
    have HL1 := Lib.hid (l21Lacks_any (.slice xp wd.length xc) wd p.length p.length rfl (by omega) W1 HX.out)
    have hlkm := lackW_le p.length wd
    have hws : IntKind.i64.wrap ((g.length : Int) - (wd.length : Int)) = (r : Int) + 1 := by rw [IntKind.wrap_i64]; omega
    have hwlt : wd.length < g.length := by omega
    clear hown hb hm hl hbk
    by_cases hlk : r + 1 < lackW p.length wd
    · have HF := Lib.hid (findN_lack (Fit := FitW p.length (ofG g) (ofG p)) hlk)
      generalize lackW p.length wd = lk at hlk HL1 hlkm
      have hlki : (r : Int) + 1 < (lk : Int) := by omega
      go_enter Tryd.func85, Tryd.ntmps85
      go_upto_region 1 with fail
      rw [← hW1]
      clear hW1
      go_wp2_with (go_at_call 126; refine HL1.out.mono ?_; rintro e w5 ⟨rfl, hw5⟩; subst hw5)
      go_ret2
      refine ⟨⟨_, false, rfl, by rw [HF.out]; rfl⟩, ?_, ?_⟩
      · exact (ownsRow_below HOW.out HBA.out).alloc _
      · exact grown_of_below (HBA.out.alloc HBA.out.size _) _
    · have HF := Lib.hid (findN_node (Fit := FitW p.length (ofG g) (ofG p)) hlk)
      generalize lackW p.length wd = lk at hlk HL1 hlkm
      have hlki : ¬ (r : Int) + 1 < (lk : Int) := by omega
      have hwne : ((wd.length : Int) == (g.length : Int)) = false := beq_eq_false_iff_ne.2 (by omega)
      have hwne2 : ¬ wd.length = g.length := by omega
      go_enter Tryd.func85, Tryd.ntmps85
      go_upto_region 1 with fail
      rw [← hW1]
      clear hW1
      go_wp2_with (go_at_call 126; refine HL1.out.mono ?_; rintro e w5 ⟨rfl, hw5⟩; subst hw5)
      go_loopw [9] (fun iv wr => ∃ k : Nat, k ≤ p.length + 1 ∧ iv = .int .i64 k ∧ Hid ((List.range k).findSome? (fun c => findN p.length (FitW p.length (ofG g) (ofG p)) r (wd ++ [c])) = none) ∧ Hid (wr.ownsRow 0 2 1 (.slice xp wd.length xc) wd.length ((natInts wd).map (Value.int .i64))) ∧ Hid (W1.grownBy wr (Value.slice xp wd.length xc).ownBlock)) (fun iv _ => p.length + 1 - (intOf iv).toNat)
      case atStart => exact ⟨0, Nat.zero_le _, rfl, Lib.hid (by simp), HOW1, Lib.hid (World.grownBy.refl _ _)⟩
      case round =>
        obtain ⟨k, hk, rfl, HSK, HOR, HGR⟩ := hrel
        have hcx := (BX.out.grown HGR.out HNE.out).cell
        have hsr : 0 ≤ wr.heap.size := Nat.zero_le _
        have HBR : Hid (w0.grownBy wr rb) := Lib.hid (grown_transB HB1.out HGR.out HBK.out)
        have BXR := Lib.hid (BX.out.grown HGR.out HNE.out)
        by_cases hlt : k ≤ p.length
        · have hlti : (k : Int) ≤ (p.length : Int) := by omega
          have HLN : Hid ((wd ++ [k]).length + r = g.length) := Lib.hid (by have := HWL.out; rw [List.length_append, List.length_singleton]; omega)
          have HMN : Hid (∀ x ∈ wd ++ [k], x ≤ p.length) := Lib.hid (fun x hx => by
            rcases List.mem_append.1 hx with h | h
            · exact HM.out x h
            · rw [List.mem_singleton.1 h]; exact hlt)
          have HRW : Hid ((natInts (wd ++ [k])).map (Value.int .i64) = (natInts wd).map (Value.int .i64) ++ [Value.int .i64 k] ∧ (wd ++ [k]).length = wd.length + 1) := Lib.hid ⟨by simp [natInts], by simp⟩
          have hw15 : wd.length < 1000000000 := by omega
          clear hlk hlki hws hwne hwne2
          go_upto_region 9 with fail
          go_cut [10, 11] (fun s10 s11 wx => FndE (.returned (.tuple #[s10, s11])) wx (findN p.length (FitW p.length (ofG g) (ofG p)) r (wd ++ [k])) ∧ Hid (wx.ownsRow 0 2 1 (.slice xp wd.length xc) wd.length ((natInts wd).map (Value.int .i64))) ∧ Hid (W1.grownBy wx (Value.slice xp wd.length xc).ownBlock))
          case first =>
            go_region_held3 (fun w' => w'.cell? ⟨w.heap.size, 0, none⟩ = some (.slice pp p.length pc))
              (first | exact hcx | exact hx8 | exact hx7 | go_keep)
              (first
                | (refine step_app1K (w := wr.drewN 1) (s := .tmp 44) (x := .tmp 46) ty_i64 rfl rfl rfl HOR.out rfl rfl hw15 hsr ?_; intro b7 c8 w7 hown7 hg7 hk7 hb7; have HOK7 := Lib.hid hk7; have HG7 := Lib.hid (grown_dNK hg7); have hx7 := (BXR.out.grown HG7.out HNE.out).cell; have HB7 : Hid (w0.grownBy w7 rb) := Lib.hid (grown_transB HBR.out HG7.out HBK.out); have HBK7 : Hid (∀ q, (Value.slice (some ⟨b7, 0, none⟩) (wd.length + 1) c8).ownBlock = some q → rb = some q ∨ w0.heap.size ≤ q) := Lib.hid (own_newK HBR.out.size HBK.out hb7); have HO7 := Lib.hid hown7; have BX7 := Lib.hid (BXR.out.grown HG7.out HNE.out); clear hown7 hg7 hk7 hb7)
                | (go_at_call 85; refine (HIH.out (wd ++ [k]) _ _ HLN.out HMN.out HB7.out HBK7.out (by rw [HRW.out.1, HRW.out.2]; exact HO7.out)).mono ?_; rintro e w8 ⟨⟨u8, ok8, rfl, hf8⟩, ho8, hg8⟩; have HF8 := Lib.hid hf8; have HK8 := Lib.hid (HOK7.out w8 hg8 (by rw [HRW.out.1, HRW.out.2] at ho8; exact ho8)); have hx8 := (BXR.out.grown (grown_dNK HK8.out.2) HNE.out).cell; clear hf8 ho8 hg8))
            all_goals go_wp2
            all_goals go_meet
            all_goals exact ⟨⟨_, _, rfl, HF8.out⟩, Lib.hid HK8.out.1, Lib.hid (grown_transK HGR.out (grown_dNK HK8.out.2))⟩
          case rest =>
          obtain ⟨⟨u9, ok, he9, hfr⟩, HOC, HGC⟩ := hcut
          simp only [Ending.returned.injEq, Value.tuple.injEq, Array.mk.injEq, List.cons.injEq, and_true] at he9
          obtain ⟨rfl, rfl⟩ := he9
          have HFR := Lib.hid hfr
          clear hfr
          cases hfo : findN p.length (FitW p.length (ofG g) (ofG p)) r (wd ++ [k]) with
          | none =>
            rw [hfo] at HFR
            obtain rfl : ok = false := HFR.out
            have HSN : Hid ((List.range (k + 1)).findSome? (fun c => findN p.length (FitW p.length (ofG g) (ofG p)) r (wd ++ [c])) = none) := Lib.hid (fsome_skip HSK.out hfo)
            clear hfo
            go_wp2_with fail
            go_roundw
            case rel => exact ⟨k + 1, by omega, by go_num, HSN, HOC, HGC⟩
            case measure => simp [intOf]; omega
          | some x =>
            rw [hfo] at HFR
            obtain ⟨hok1, hnx⟩ := HFR.out
            subst hok1
            have HFX : Hid (findN p.length (FitW p.length (ofG g) (ofG p)) (r + 1) wd = some x) := Lib.hid (by rw [HF.out]; exact fsome_stop HSK.out (by omega) hfo)
            have HNX := Lib.hid hnx
            clear hfo hnx
            go_wp2_with fail
            go_ret2
            exact ⟨⟨_, true, rfl, by rw [HFX.out]; exact ⟨rfl, HNX.out⟩⟩, HOC.out, grown_transK (grown_of_below HBA.out _) HGC.out⟩
        · obtain rfl : k = p.length + 1 := by omega
          have hlti : ¬ (p.length : Int) + 1 ≤ (p.length : Int) := by omega
          have HFX : Hid (findN p.length (FitW p.length (ofG g) (ofG p)) (r + 1) wd = none) := Lib.hid (by rw [HF.out]; exact HSK.out)
          clear hlk hlki hws hwne hwne2
          go_wp2_with fail
          go_ret2
          refine ⟨⟨_, false, rfl, by rw [HFX.out]; rfl⟩, HOR.out.alloc _, ?_⟩
          exact grown_transK (grown_of_below HBA.out _) (grown_transK HGR.out (grown_of_below (below_alloc _ _) _))

end Go.Proofs.YtfokiijcpkhllaaDoor
