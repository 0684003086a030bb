/- Walks: the program's isSeries, SeriesIn, FoldedOf, TwoOrder. -/
import Derived.Test.YtfokiijcpkhllaaDoorFmQ40
namespace Go.Proofs.YtfokiijcpkhllaaDoor
open Go.RowKit

theorem all_any' (p : Option Addr) (n c M : Nat) (hn : n < 32) (hM : M = 2 ^ n - 1) (w : World) :
    Calls Tryd.prog 46 #[.slice p n c] w fun e w' => e = .returned (.int .u32 (M : Int)) ∧ w = w' := by
  subst hM; exact all_any p n c hn w

theorem bits_nil {l : Nat} (h : l < 65536) : (bitsOf l).length = 0 ↔ l = 0 := by
  constructor
  · intro e
    by_cases h0 : l = 0
    · exact h0
    · have := bitsOf_step l h0 (by omega)
      rw [this] at e
      simp at e
  · rintro rfl; rw [bitsOf_zero]; rfl

theorem nOk_start {g : List (List Int)} (h : GOk g) {M : Nat} (hM : M = 2 ^ g.length - 1) : NOk (netL g) M ∧ (bitsOf M).length ≤ 16 ∧ (netL g).length = g.length := by
  subst hM
  have hs := same_start h
  refine ⟨⟨hs.le, hs.lt, hs.left16, hs.inn⟩, ?_, hs.len.symm⟩
  have := natInts_range g.length h.le
  rw [← natInts_length, this, allL_length]
  exact h.le

theorem foldsN_S {g : List (List Int)} (h : GOk g) {M : Nat} (hM : M = 2 ^ g.length - 1) {fs : List Fd} {l : Nat} {a' : List Nat} (hf : FoldsN (netL g) M fs l a') : ∃ g', Folds g (allL g.length) fs (natInts (bitsOf l)) g' := by
  subst hM
  obtain ⟨g', h1, _⟩ := hf.same (same_start h)
  exact ⟨g', h1⟩

set_option maxRecDepth 100000 in
set_option maxHeartbeats 2000000 in
theorem isSeries_any (x : Value) (y : Int) (a : List Nat) (s : Nat) (hy : y = s) (hok : NOk a s) (hcnt : (bitsOf s).length ≤ 16) (w : World) (hx : Sl w 64 x a.length (a.map u32v)) (hT : Tab w) :
    Calls Tryd.prog 64 #[x, .int .u32 y] w fun e w' => ∃ (fs : List Fd) (l : Nat) (a' : List Nat), e = .returned (.bool (dec (l = 0))) ∧ FoldsN a s fs l a' ∧ l < 65536 ∧ Below w.heap.size w w' := by
  subst hy
  have hbA := below_alloc w (.cells #[] 64)
  have hx1 := hx.below hbA
  have ho := ownsRow_empty w 64 1
  have hT1 := hT.keep hbA
  have hle := hok.le
  have hpos := hT.pos
  have hsz := hbA.size
  have h1 : ∀ v ∈ a.map u32v, v.oneCell' = true := by
    intro v hv
    obtain ⟨i, _, rfl⟩ := List.mem_map.1 hv
    rfl
  obtain ⟨p, c, rfl⟩ := hx.shape
  have HOK := Lib.hid hok
  have HC := Lib.hid hcnt
  clear hok hx hT hcnt
  go_enter Tryd.func64, Tryd.ntmps64
  go_wp2_with (first
    | (at_builtin; refine wpList_app ty_nets rfl rfl rfl ho rfl hx1 (by simp) h1 (by omega) hsz ?_; intro v' w1 hown1 hg1 _; simp only [Nat.zero_add, List.nil_append] at hown1; have HB1 := Lib.hid (below_grown hbA ho hg1 (Nat.le_refl _) hsz); have HT1 := Lib.hid (hT1.grown hg1 (fun e => by have := (ho.lt _ e.symm).1; omega)))
    | (go_at_call 63; refine (foldedOf_any _ _ a s w.heap.size rfl HOK.out HC.out _ hown1 HT1.out hpos).mono ?_; rintro e w2 ⟨ov, fs, l, a', rfl, hF, _, _, _, hok2, _, hg2⟩; have HF := Lib.hid hF; have HB2 := Lib.hid (below_grown HB1.out hown1 hg2 (Nat.le_refl _) HB1.out.size); have hl := hok2.left16; clear hF hok2))
  by_cases hz : l = 0
  · subst hz
    go_wp2
    go_ret
    exact ⟨fs, 0, a', by rw [dec_true rfl]; rfl, HF.out, hl, HB2.out⟩
  · have hz2 : ((l : Int) == 0) = false := by simpa using hz
    go_wp2
    go_ret
    exact ⟨fs, l, a', by rw [dec_false hz, ← hz2]; rfl, HF.out, hl, HB2.out⟩

set_option maxRecDepth 100000 in
set_option maxHeartbeats 2000000 in
theorem implSeriesIn_any (v : Value) (g : List (List Int)) (w : World) (hg : Gr w v g) (hT : Tab w) :
    Calls Tryd.prog 19 #[v] w fun e w' => e = .returned (.bool (dec (SerS g))) ∧ Below w.heap.size w w' := by
  have hg0 := hg
  obtain ⟨u, rfl, hr⟩ := hg
  obtain ⟨p, c, rfl, _, _, _⟩ := hr.shape
  have hbA := Lib.hid (below_alloc w (.cells #[.slice p g.length c] 29))
  have HG := Lib.hid (hg0.below hbA.out)
  have BX := Lib.hid (Box.new w (.slice p g.length c) 29)
  have HT := Lib.hid (hT.keep hbA.out)
  have hpos := hT.pos
  clear hr hg0 hT
  by_cases hok : GOk g
  case neg =>
    have hd := dec_false hok
    have Hok := Lib.hid hok
    clear hok
    go_enter Tryd.func19, Tryd.ntmps19
    go_wp2_with (go_at_call 38; refine (implGraphOk_any _ g _ HG.out).mono ?_; rintro e w2 ⟨rfl, hb2⟩)
    go_ret
    exact ⟨by rw [dec_false (fun h => Hok.out h.1)]; rfl, hbA.out.trans (hb2.mono hbA.out.size)⟩
  have hd := dec_true hok
  obtain ⟨M, hM⟩ : ∃ M, M = 2 ^ g.length - 1 := ⟨_, rfl⟩
  obtain ⟨hn1, hn2, hn3⟩ := nOk_start hok hM
  have hle := hok.le
  have HM := Lib.hid hM
  have N1 := Lib.hid hn1
  have N2 := Lib.hid hn2
  have N3 := Lib.hid hn3
  have Hok := Lib.hid hok
  clear hok hM hn1 hn2 hn3
  go_enter Tryd.func19, Tryd.ntmps19
  go_wp2_with (first
    | (go_at_call 38; refine (implGraphOk_any _ g _ HG.out).mono ?_; rintro e w2 ⟨rfl, hb2⟩; have hbx := (BX.out.keep hb2).cell; have s2 := hb2.size)
    | (go_at_call 41; refine (netsOf_any _ g _ (HG.out.below hb2) Hok.out).mono ?_; rintro e w3 ⟨x, rfl, hown3, hb3⟩; have hx3 := Sl.of_owns hown3 (by omega); obtain ⟨xp, xc, rfl⟩ := hx3.shape; have HX3 := Lib.hid hx3; have HT3 := Lib.hid ((HT.out.keep hb2).keep hb3); clear hx3 hown3)
    | (go_at_call 46; refine (all_any' _ _ _ M (by omega) HM.out _).mono ?_; rintro e w4 ⟨rfl, rfl⟩)
    | (go_at_call 64; refine (isSeries_any _ _ (netL g) M rfl N1.out N2.out _ (by rw [N3.out]; exact HX3.out) HT3.out).mono ?_; rintro e w5 ⟨fs, l, a', rfl, hF, hl65, hb5⟩; have HF := Lib.hid hF; clear hF))
  go_ret
  have hb := ((hbA.out.trans (hb2.mono hbA.out.size)).trans (hb3.mono (by have := hbA.out.size; omega))).trans (hb5.mono (by have := hbA.out.size; have := hb3.size; omega))
  obtain ⟨g', hF⟩ := foldsN_S Hok.out HM.out HF.out
  refine ⟨?_, hb⟩
  have e : dec (l = 0) = dec (SerS g) := dec_congr (by rw [serS_iff Hok.out hF, natInts_length]; exact (bits_nil (by omega)).symm)
  rw [← e]; rfl

set_option maxRecDepth 100000 in
set_option maxHeartbeats 2000000 in
theorem implFoldedOf_any (v : Value) (g : List (List Int)) (w : World) (hg : Gr w v g) (hT : Tab w) :
    Calls Tryd.prog 18 #[v] w fun e w' => ∃ (ov lv : Value) (fs : List Fd) (l : List Int), e = .returned (.tuple #[ov, lv]) ∧ FoldedS g fs l ∧
      w'.ownsRow w.heap.size 89 3 ov fs.length (fdCells fs) ∧ w'.ownsRow w.heap.size 2 1 lv l.length (l.map (Value.int .i64)) ∧ fs.length ≤ 16 ∧ l.length ≤ 16 ∧ Below w.heap.size w w' := by
  have hg0 := hg
  obtain ⟨u, rfl, hr⟩ := hg
  obtain ⟨p, c, rfl, _, _, _⟩ := hr.shape
  have hbA := Lib.hid (below_alloc w (.cells #[.slice p g.length c] 29))
  have HG := Lib.hid (hg0.below hbA.out)
  have BX := Lib.hid (Box.new w (.slice p g.length c) 29)
  have HT := Lib.hid (hT.keep hbA.out)
  have hpos := hT.pos
  clear hr hg0 hT
  by_cases hok : GOk g
  case neg =>
    have hd := dec_false hok
    have Hok := Lib.hid hok
    clear hok
    go_enter Tryd.func18, Tryd.ntmps18
    go_wp2_with (go_at_call 38; refine (implGraphOk_any _ g _ HG.out).mono ?_; rintro e w2 ⟨rfl, hb2⟩)
    go_ret2
    exact ⟨_, _, [], [], rfl, .inr ⟨Hok.out, rfl, rfl⟩, ⟨rfl, .inl ⟨rfl, rfl⟩⟩, ⟨rfl, .inl ⟨rfl, rfl⟩⟩, by simp, by simp, hbA.out.trans (hb2.mono hbA.out.size)⟩
  have hd := dec_true hok
  obtain ⟨M, hM⟩ : ∃ M, M = 2 ^ g.length - 1 := ⟨_, rfl⟩
  obtain ⟨hn1, hn2, hn3⟩ := nOk_start hok hM
  have hle := hok.le
  have HM := Lib.hid hM
  have N1 := Lib.hid hn1
  have N2 := Lib.hid hn2
  have N3 := Lib.hid hn3
  have Hok := Lib.hid hok
  clear hok hM hn1 hn2 hn3
  go_enter Tryd.func18, Tryd.ntmps18
  go_wp2_with (first
    | (go_at_call 38; refine (implGraphOk_any _ g _ HG.out).mono ?_; rintro e w2 ⟨rfl, hb2⟩; have hbx := (BX.out.keep hb2).cell; have s2 := hb2.size)
    | (go_at_call 41; refine (netsOf_any _ g _ (HG.out.below hb2) Hok.out).mono ?_; rintro e w3 ⟨x, rfl, hown3, hb3⟩; have hx3 := Sl.of_owns hown3 (by omega); obtain ⟨xp, xc, rfl⟩ := hx3.shape; have HX3 := Lib.hid hown3; have HT3 := Lib.hid ((HT.out.keep hb2).keep hb3); clear hx3 hown3)
    | (go_at_call 46; refine (all_any' _ _ _ M (by omega) HM.out _).mono ?_; rintro e w4 ⟨rfl, rfl⟩)
    | (go_at_call 63; refine (foldedOf_any _ _ (netL g) M w2.heap.size rfl N1.out N2.out _ (by rw [N3.out]; exact HX3.out) HT3.out (by rw [size_alloc] at s2; omega)).mono ?_; rintro e w5 ⟨ov, fs, l, a', rfl, hF, ho5, _, _, hok5, hcnt5, hg5⟩; have HF := Lib.hid hF; have HO5 := Lib.hid ho5; have hl16 := hok5.left16; have HB5 := Lib.hid (below_grown (Below.refl w2.heap.size w3) HX3.out hg5 (Nat.le_refl _) hb3.size); have HT5 := Lib.hid (HT3.out.below HB5.out (by rw [size_alloc] at s2; omega)); have hl32 : l < 4294967296 := (by omega); clear hF ho5 hok5)
    | (go_at_call 45; refine (numbers_any _ l rfl hl32 _ HT5.out).mono ?_; rintro e w6 ⟨lv, rfl, ho6, hb6⟩; have HO6 := Lib.hid ho6; clear ho6))
  go_ret2
  have s3 := hb3.size
  have s5 := HB5.out.size
  have sA := hbA.out.size
  have s5' := hg5.size
  have hb := ((hbA.out.trans (hb2.mono sA)).trans (hb3.mono (by omega))).trans (HB5.out.mono (by omega))
  have hb' := hb.trans (hb6.mono (by omega))
  obtain ⟨g', hF⟩ := foldsN_S Hok.out HM.out HF.out
  exact ⟨_, _, fs, natInts (bitsOf l), rfl, .inl ⟨Hok.out, g', hF⟩, ownsRow_below (ownsRow_base HO5.out (by omega)) hb6, by rw [natInts_length]; exact ownsRow_base HO6.out (by omega), by omega, by rw [natInts_length]; omega, hb'⟩

end Go.Proofs.YtfokiijcpkhllaaDoor

/- Walk: contracting an edge, as the program does it. -/
namespace Go.Proofs.YtfokiijcpkhllaaDoor
open Go.RowKit

theorem own_shapeN {w : World} {base n : Nat} {E : TypeId} {v : Value} {xs : List Value} (h : w.ownsRow base E 1 v n xs) : ∃ p c, v = .slice p n c := by
  rcases h.2 with ⟨rfl, h0⟩ | ⟨b, c, _, rfl, _⟩
  · exact ⟨none, 0, by rw [h0]⟩
  · exact ⟨_, _, rfl⟩
theorem tie_take {a : List Nat} {u : Nat} {l : List Nat} {k : Nat} (h : k < l.length) : tieN a u (l.take (k + 1)) = joinL (tieN a u (l.take k)) u l[k] := by
  rw [take_snoc' l k h, tieN_snoc]

set_option maxRecDepth 100000 in
set_option maxHeartbeats 4000000 in
theorem contracted_any (x : Value) (a : List Nat) (left u v : Nat) (y z t : Int) (hy : y = left) (hz : z = u) (ht : t = v) (h16 : a.length ≤ 16) (ha : ∀ s ∈ a, s < 65536) (hl : left < 65536) (hu : u < a.length) (hv : v < a.length)
    (hin : ∀ i ∈ toTie a left u v, i < a.length) (w : World) (hx : Sl w 64 x a.length (a.map u32v)) (hT : Tab w) :
    Calls Tryd.prog 125 #[x, .int .u32 y, .int .i64 z, .int .i64 t] w fun e w' => ∃ r, e = .returned r ∧ w'.ownsRow w.heap.size 64 1 r a.length ((contrL a left u v).map u32v) ∧ Below w.heap.size w w' := by
  subst hy; subst hz; subst ht
  have hbA := below_alloc w (.cells #[] 64)
  have hx1 := hx.below hbA
  have ho := ownsRow_empty w 64 1
  have hT1 := hT.keep hbA
  have hpos := hT.pos
  have hsz := hbA.size
  have h1 : ∀ v ∈ a.map u32v, v.oneCell' = true := by
    intro v hv
    obtain ⟨i, _, rfl⟩ := List.mem_map.1 hv
    rfl
  obtain ⟨xp, xc, rfl⟩ := hx.shape
  obtain ⟨l, hl0⟩ : ∃ l, l = toTie a left u v := ⟨_, rfl⟩
  have HL := Lib.hid hl0
  obtain ⟨pu, hpu⟩ : ∃ pu, pu = 2 ^ u := ⟨_, rfl⟩
  have hu32 : u < 32 := by omega
  have c1 := Lib.hid (fun w => one_any (u : Int) u rfl hu32 w)
  have hpl : pu < 4294967296 := by rw [hpu]; exact pow_lt32 u hu32
  have hand := Lib.hid (and_near ha hv hl)
  have hnl : a.getD v 0 &&& left < 4294967296 := Nat.lt_of_le_of_lt Nat.and_le_right (by omega)
  have hand2 := Lib.hid (u32_andNot_nat (a.getD v 0 &&& left) pu hnl hpl)
  have hand3 : Hid (bits BinOp.andNot IntKind.u32 (bits BinOp.and IntKind.u32 (a[v] : Int) (left : Int)) (pu : Int) = ((sub (a.getD v 0 &&& left) pu : Nat) : Int)) := Lib.hid (by rw [hand.out]; exact hand2.out)
  have hsub : Hid (bitsOf (sub (a.getD v 0 &&& left) pu) = l) := Lib.hid (by rw [hl0, hpu]; rfl)
  have HSL := Lib.hid (sub_lt32 (a.getD v 0 &&& left) pu hnl)
  have HIN := Lib.hid (show ∀ i ∈ l, i < a.length ∧ i ≠ u from fun i hi => ⟨hin i (hl0 ▸ hi), ((mem_toTie hl (by omega)).1 (hl0 ▸ hi)).2.2⟩)
  have hll : l.length ≤ 32 := by rw [← hsub.out]; exact bitsOf_length _
  have HA := Lib.hid ha
  have C1 : Hid (∀ w, Calls Tryd.prog 74 #[.int .i64 (u : Int)] w fun e w' => e = .returned (.int .u32 (pu : Int)) ∧ w = w') := Lib.hid (by rw [hpu]; exact c1.out)
  have LIST := Lib.hid (fun (w : World) (hT : Tab w) => list_any _ _ hand3.out HSL.out w hT)
  rw [hsub.out] at LIST
  clear hx hT hl0 hpu c1 hin ha
  go_enter Tryd.func125, Tryd.ntmps125
  go_upto_region 2 with (first
    | (at_builtin; refine wpList_app ty_nets rfl rfl rfl ho rfl hx1 (by simp) h1 (by omega) hsz ?_; intro v' w1 hown1 hg1 _; simp only [Nat.zero_add, List.nil_append] at hown1; have HB1 := Lib.hid (below_grown hbA ho hg1 (Nat.le_refl _) hsz); have HT1 := Lib.hid (hT1.grown hg1 (fun e => by have := (ho.lt _ e.symm).1; omega)); obtain ⟨p, c, rfl⟩ := own_shapeN hown1))
  obtain ⟨ob, rfl⟩ : ∃ ob, p = some ⟨ob, 0, none⟩ := by
    rcases hown1.2 with ⟨_, h0⟩ | ⟨b, cc, _, h1, _⟩
    · omega
    · simp only [Value.slice.injEq] at h1
      exact ⟨b, h1.1⟩
  have hcell := hown1.cellAt v (show v < a.length * 1 by omega)
  rw [List.getElem?_map, List.getElem?_eq_getElem hv] at hcell
  change w1.cell? ⟨ob, v, none⟩ = some (.int .u32 (a[v] : Int)) at hcell
  have HO1 := Lib.hid hown1
  clear hown1 ho hx1 hbA hT1 hsz h1
  go_cut [24, 25, 26] (fun s24 s25 s26 wx => s25 = .int .i64 l.length ∧ s26 = .int .i64 (0 : Nat) ∧ Below w1.heap.size w1 wx ∧ Nums wx 3 .i64 s24 (natInts l))
  case first =>
    go_region_held3 (fun w' => w'.cell? ⟨ob, v, none⟩ = some (.int .u32 (a[v] : Int)))
      (first | exact hcell | exact BWA.at' hcell | go_keep)
      (first
        | (go_at_call 74; refine (C1.out _).mono ?_; rintro e w2 ⟨rfl, rfl⟩)
        | (go_at_call 48; refine (LIST.out _ (HT1.out.keep (below_dN (Below.refl _ _) 1))).mono ?_; rintro e w2 ⟨lv, rfl, hown2, hb2⟩; have HNL := Lib.hid (Nums.of_owns hown2 (natInts_length _).symm (by omega)); obtain ⟨lp, lc, rfl, _⟩ := id HNL.out; have BWA : Below w1.heap.size w1 w2 := (below_dN (Below.refl _ _) 1).trans hb2; clear hown2 hb2))
    all_goals go_wp2
    all_goals go_meet
    all_goals exact ⟨by rw [natInts_length], rfl, BWA, HNL.out⟩
  case rest =>
    obtain ⟨rfl, rfl, hbc, hnl'⟩ := hcut
    have HNL := Lib.hid hnl'
    have HOC := Lib.hid (ownsRow_below HO1.out hbc)
    have HBC := Lib.hid (HB1.out.trans (hbc.mono HB1.out.size))
    obtain ⟨lp, lc, rfl, _⟩ := id hnl'
    have hnll := natInts_length l
    rw [hnll]
    clear hbc hnl' hcell LIST C1 hand hand2 hand3 hsub HSL hnl hpl
    go_wp2_with fail
    go_loopw [26] (fun i wr => ∃ k : Nat, k ≤ l.length ∧ i = .int .i64 k ∧ wr.ownsRow w.heap.size 64 1 (.slice (some ⟨ob, 0, none⟩) a.length c) a.length ((tieN a u (l.take k)).map u32v) ∧ Below w.heap.size w wr ∧ Nums wr 3 .i64 (.slice lp l.length lc) (natInts l)) (fun i _ => l.length - (intOf i).toNat)
    case atStart => exact ⟨0, Nat.zero_le _, rfl, HOC.out, HBC.out, by have := HNL.out; rw [natInts_length] at this; exact this⟩
    case round =>
      clear HNL HOC HBC
      obtain ⟨k, hk, rfl, ho, hb, hn⟩ := hrel
      have HO := Lib.hid ho
      have HB := Lib.hid hb
      have HN := Lib.hid hn
      clear ho hb
      by_cases hlt : k < l.length
      · obtain ⟨y, hy⟩ : ∃ y, y = l[k] := ⟨_, rfl⟩
        obtain ⟨hya, hyu⟩ := HIN.out l[k] (List.getElem_mem hlt)
        rw [← hy] at hya hyu
        have HY := Lib.hid hy
        have hlt' : k < (natInts l).length := by rw [natInts_length]; exact hlt
        obtain ⟨eb, eo, rfl, hce⟩ := hn.get hlt'
        have e1 : (natInts l)[k] = (y : Int) := by rw [hy]; simp [natInts]
        rw [e1] at hce
        obtain ⟨q1, _⟩ := tieN_bits (u := u) (l.take k) a h16 HA.out hu (fun x hx => HIN.out x (List.mem_of_mem_take hx))
        have Q1 := Lib.hid q1
        have Q2 := Lib.hid (tieN_length u (l.take k) a)
        have JOIN : ∀ w', w'.ownsRow w.heap.size 64 1 (.slice (some ⟨ob, 0, none⟩) a.length c) a.length ((tieN a u (l.take k)).map u32v) → Calls Tryd.prog 122 #[.slice (some ⟨ob, 0, none⟩) a.length c, .int .i64 (u : Int), .int .i64 (y : Int)] w' fun e w'' => e = .returned (.tuple #[]) ∧
            w''.ownsRow w.heap.size 64 1 (.slice (some ⟨ob, 0, none⟩) a.length c) a.length ((tieN a u (l.take (k + 1))).map u32v) ∧ w'.grownBy w'' (some ob) := by
          intro w' ho
          rw [tie_take hlt, ← HY.out]
          have := join_any (.slice (some ⟨ob, 0, none⟩) a.length c) u y (tieN a u (l.take k)) u y w.heap.size rfl rfl (by rw [Q2.out]; exact hu) (by rw [Q2.out]; exact hya) (fun e => hyu e.symm) (by rw [Q2.out]; exact h16) Q1.out w' (by rw [Q2.out]; exact ho)
          rw [Q2.out] at this
          exact this
        have HJ := Lib.hid JOIN
        clear hn e1 hlt' q1 hy JOIN
        go_wp2_with (go_at_call 122; refine (HJ.out _ HO.out).mono ?_; rintro e w3 ⟨rfl, ho3, hg3⟩)
        go_roundw
        case rel => exact ⟨k + 1, by omega, by go_num, ho3, HB.out.grown hg3 HB.out.size (fun b hb => by have := (HO.out.lt b hb).1; exact this), HN.out.other HO.out hg3 (by decide)⟩
        case measure => simp [intOf]; omega
      · obtain rfl : k = l.length := by omega
        rw [List.take_length] at HO
        clear hn
        go_wp2
        go_ret
        exact ⟨_, rfl, by rw [contrL, ← HL.out]; exact HO.out, HB.out⟩

end Go.Proofs.YtfokiijcpkhllaaDoor

/- Walk: cutting or contracting once, as the program does it. -/
namespace Go.Proofs.YtfokiijcpkhllaaDoor
open Go.RowKit

theorem Same.nok {g : List (List Int)} {L : List Int} {a : List Nat} {left : Nat} (h : Same g L a left) : NOk a left := ⟨h.le, h.lt, h.left16, h.inn⟩
theorem bits_get {l : List Nat} {k : Nat} (h : k < (natInts l).length) : (natInts l)[k] = ((l[k]'(by rw [natInts_length] at h; exact h) : Nat) : Int) := by simp [natInts]

/-- What one step of the program's shrinking comes to. -/
inductive ShrS (g : List (List Int)) (L : List Int) (a ms : List Nat) (left : Nat) (base : Nat) (x sv : Value) (w w' : World) (r : Value) (l' : Nat) (ok : Bool) : Prop
  | stop (h1 : ok = false) (h2 : r = x) (h3 : l' = left) (h4 : lessOf g L = none) (h5 : edgeOf g L = none) (h6 : Below w.heap.size w w')
  | less (h1 : ok = true) (h2 : r = x) (z : Nat) (h3 : lessOf g L = some (z : Int)) (hz : left.testBit z = true) (h4 : l' = sub left (2 ^ z)) (h6 : Below w.heap.size w w')
  | edge (h1 : ok = true) (u v : Nat) (h2 : lessOf g L = none) (h3 : edgeOf g L = some ((u : Int), (v : Int))) (hu : left.testBit u = true) (hv : left.testBit v = true) (huv : u ≠ v) (h4 : l' = sub left (2 ^ v))
      (h5 : w'.ownsRow w.heap.size 64 1 r a.length ((contrL a left u v).map u32v)) (h6 : w'.ownsRow base 64 1 sv ms.length ((ms.set u (ms.getD u 0 ||| ms.getD v 0)).map u32v)) (h7 : w.grownBy w' sv.ownBlock)

set_option maxRecDepth 100000 in
set_option maxHeartbeats 4000000 in
theorem shrink_any (x sv : Value) (y : Int) (g : List (List Int)) (L : List Int) (a ms : List Nat) (left base : Nat) (hy : y = left) (hS : Same g L a left) (hr : RG g) (hml : ms.length = a.length) (hms : ∀ s ∈ ms, s < 65536) (w : World)
    (hx : Sl w 64 x a.length (a.map u32v)) (hs : w.ownsRow base 64 1 sv ms.length (ms.map u32v)) (hT : Tab w) :
    Calls Tryd.prog 82 #[x, .int .u32 y, sv] w fun e w' => ∃ (r : Value) (l' : Nat) (ok : Bool), e = .returned (.tuple #[r, .int .u32 (l' : Int), .bool ok]) ∧ ShrS g L a ms left base x sv w w' r l' ok := by
  subst hy
  have HS := Lib.hid hS
  have HX := Lib.hid hx
  have HSV := Lib.hid hs
  have HT := Lib.hid hT
  have HR := Lib.hid hr
  obtain ⟨xp, xc, rfl⟩ := hx.shape
  obtain ⟨svp, svc, rfl⟩ := own_shapeN hs
  have h16 := hS.le
  have hl65 := hS.left16
  have hl32 : left < 4294967296 := by omega
  obtain ⟨ls, hls⟩ : ∃ ls, ls = bitsOf left := ⟨_, rfl⟩
  have HLS := Lib.hid hls
  have HLL : Hid (L = natInts ls) := Lib.hid (by rw [hS.list, hls])
  have hcnt : ls.length ≤ 16 := by rw [hls]; exact hS.cnt
  have HML := Lib.hid hml
  have HMS := Lib.hid hms
  have LIST : Hid (∀ (w : World) (_ : Tab w), Calls Tryd.prog 48 #[.int .u32 (left : Int)] w fun e w' => ∃ v, e = .returned v ∧ w'.ownsRow w.heap.size 3 1 v ls.length ((natInts ls).map (Value.int .i64)) ∧ Below w.heap.size w w') := Lib.hid (fun w hT => by rw [hls]; exact list_any _ left rfl hl32 w hT)
  clear hS hx hs hT hr hls hml hms
  go_enter Tryd.func82, Tryd.ntmps82
  go_wp2_with (go_at_call 48; refine (LIST.out _ HT.out).mono ?_; rintro e w1 ⟨lv, rfl, ho1, hb1⟩; have hn1 := Nums.of_owns ho1 (natInts_length _).symm (by omega); obtain ⟨lp, lc, rfl, _⟩ := id hn1; rw [natInts_length] at hn1 ⊢; have HN1 := Lib.hid hn1; have HB1 := Lib.hid hb1; clear ho1 hb1 hn1)
  go_loopw [19] (fun i wr => ∃ k : Nat, k ≤ ls.length ∧ i = .int .i64 k ∧ Below w.heap.size w wr ∧ Nums wr 3 .i64 (.slice lp ls.length lc) (natInts ls) ∧ Hid (lessOf g L = (L.drop k).find? (fun v => dec (HardS (freeG g v) (lessL L v))))) (fun i _ => ls.length - (intOf i).toNat)
  case atStart => exact ⟨0, Nat.zero_le _, rfl, HB1.out, HN1.out, Lib.hid rfl⟩
  case round =>
    clear HN1 HB1
    obtain ⟨k, hk, rfl, hb, hn, HE⟩ := hrel
    have HB := Lib.hid hb
    have HN := Lib.hid hn
    clear hb
    by_cases hlt : k < ls.length
    · obtain ⟨m, hm⟩ : ∃ m, m = ls[k] := ⟨_, rfl⟩
      have hmb : left.testBit m = true := (mem_left hl65).1 (by rw [← HLS.out, hm]; exact List.getElem_mem hlt)
      have hma : m < a.length := HS.out.inn m hmb
      have hlt' : k < (natInts ls).length := by rw [natInts_length]; exact hlt
      obtain ⟨eb, eo, rfl, hce⟩ := hn.get hlt'
      rw [bits_get hlt', ← hm] at hce
      obtain ⟨pm, hpm⟩ : ∃ pm, pm = 2 ^ m := ⟨_, rfl⟩
      have hpl : pm < 4294967296 := by rw [hpm]; exact pow_lt32 m (by omega)
      have ONE : Hid (∀ w, Calls Tryd.prog 74 #[.int .i64 (m : Int)] w fun e w' => e = .returned (.int .u32 (pm : Int)) ∧ w = w') := Lib.hid (fun w => by rw [hpm]; exact one_any (m : Int) m rfl (by omega) w)
      have hand := u32_andNot_nat left pm hl32 hpl
      have HAND := Lib.hid hand
      have HFS : Hid (Same (freeG g m) (lessL L m) a (sub left pm)) := Lib.hid (by rw [hpm]; exact HS.out.free hmb)
      have HFi : Hid ((L.drop k).find? (fun v => dec (HardS (freeG g v) (lessL L v))) = if dec (HardS (freeG g m) (lessL L m)) = true then some (m : Int) else (L.drop (k + 1)).find? (fun v => dec (HardS (freeG g v) (lessL L v)))) := Lib.hid (by
        have e : L[k]'(by rw [HLL.out]; exact hlt') = (m : Int) := by
          have := bits_get hlt'
          rw [← hm] at this
          rw [← this]
          congr 1
        rw [find_drop (by rw [HLL.out]; exact hlt'), e])
      have HMB := Lib.hid hmb
      have HPM := Lib.hid hpm
      clear hn hand hlt' hm hmb hpm hpl
      by_cases hh : HardS (freeG g m) (lessL L m)
      · have HH := Lib.hid hh
        clear hh
        go_wp2_with (first
          | (go_at_call 74; refine (ONE.out _).mono ?_; rintro e w2 ⟨rfl, rfl⟩)
          | (go_at_call 64; refine (isSeries_any _ _ a (sub left pm) HAND.out HFS.out.nok HFS.out.cnt _ (HX.out.below HB.out) (HT.out.keep HB.out)).mono ?_; rintro e w5 ⟨fs, l', a', he, hF, hl6, hb5⟩; rw [dec_false ((HFS.out.hard hF hl6).1 HH.out)] at he; subst he; have HB5 := Lib.hid (HB.out.trans (hb5.mono HB.out.size)); clear hF hb5 hl6))
        go_ret3
        exact ⟨.slice xp a.length xc, sub left pm, true, congrArg (fun z : Int => Ending.returned (Value.tuple #[Value.slice xp a.length xc, Value.int .u32 z, Value.bool true])) HAND.out, .less rfl rfl m (by rw [HE.out, HFi.out, if_pos (dec_true HH.out)]) HMB.out (by rw [HPM.out]) HB5.out⟩
      · have HH := Lib.hid hh
        clear hh
        go_wp2_with (first
          | (go_at_call 74; refine (ONE.out _).mono ?_; rintro e w2 ⟨rfl, rfl⟩)
          | (go_at_call 64; refine (isSeries_any _ _ a (sub left pm) HAND.out HFS.out.nok HFS.out.cnt _ (HX.out.below HB.out) (HT.out.keep HB.out)).mono ?_; rintro e w5 ⟨fs, l', a', he, hF, hl6, hb5⟩; rw [dec_true (Classical.byContradiction fun c => HH.out ((HFS.out.hard hF hl6).2 c))] at he; subst he; have HB5 := Lib.hid (HB.out.trans (hb5.mono HB.out.size)); have HN5 := Lib.hid (HN.out.below hb5); clear hF hb5 hl6))
        go_roundw
        case rel => exact ⟨k + 1, by omega, by go_num, HB5.out, HN5.out, Lib.hid (by rw [HE.out, HFi.out, if_neg (by rw [dec_false HH.out]; decide)])⟩
        case measure => simp [intOf]; omega
    · obtain rfl : k = ls.length := by omega
      have HNO : Hid (lessOf g L = none) := Lib.hid (by rw [HE.out]; exact find_stop (by rw [HLL.out, natInts_length]; exact Nat.le_refl _))
      clear hn HN HE
      go_wp2_with (go_at_call 48; refine (LIST.out _ (HT.out.keep HB.out)).mono ?_; rintro e w2 ⟨lv2, rfl, ho2, hb2⟩; have hn2 := Nums.of_owns ho2 (natInts_length _).symm (by omega); obtain ⟨lp2, lc2, rfl, _⟩ := id hn2; rw [natInts_length] at hn2 ⊢; have HN2 := Lib.hid hn2; have HB2 := Lib.hid (HB.out.trans (hb2.mono HB.out.size)); clear ho2 hb2 hn2)
      go_loopw [39] (fun i wr => ∃ k : Nat, k ≤ ls.length ∧ i = .int .i64 k ∧ Below w.heap.size w wr ∧ Nums wr 3 .i64 (.slice lp2 ls.length lc2) (natInts ls) ∧ Hid (edgeOf g L = (L.drop k).findSome? (edgeF g L))) (fun i _ => ls.length - (intOf i).toNat)
      case atStart => exact ⟨0, Nat.zero_le _, rfl, HB2.out, HN2.out, Lib.hid rfl⟩
      case round =>
        clear HN2 HB2 HB
        obtain ⟨k, hk, rfl, hb, hn, HE⟩ := hrel
        have HB := Lib.hid hb
        have HN := Lib.hid hn
        by_cases hlt : k < ls.length
        · obtain ⟨m, hm⟩ : ∃ m, m = ls[k] := ⟨_, rfl⟩
          have hmb : left.testBit m = true := (mem_left hl65).1 (by rw [← HLS.out, hm]; exact List.getElem_mem hlt)
          have hma : m < a.length := HS.out.inn m hmb
          have hlt' : k < (natInts ls).length := by rw [natInts_length]; exact hlt
          obtain ⟨eb, eo, rfl, hce⟩ := hn.get hlt'
          rw [bits_get hlt', ← hm] at hce
          obtain ⟨ab, ao, hax, hca⟩ := nets_cell (HX.out.below hb) hma
          subst hax
          have hand := and_near HS.out.lt hma hl65
          have hnl : a.getD m 0 &&& left < 4294967296 := Nat.lt_of_le_of_lt Nat.and_le_right (by omega)
          have hp : 2 ^ (m + 1) - 1 < 4294967296 := by
            have : 2 ^ (m + 1) ≤ 2 ^ 16 := Nat.pow_le_pow_right (by decide) (by omega)
            have : (2 : Nat) ^ 16 = 65536 := by decide
            omega
          obtain ⟨fm, hfm⟩ : ∃ fm, fm = 2 ^ (m + 1) - 1 := ⟨_, rfl⟩
          rw [← hfm] at hp
          have hand3 : bits BinOp.andNot IntKind.u32 (bits BinOp.and IntKind.u32 (a[m] : Int) (left : Int)) (fm : Int) = ((sub (a.getD m 0 &&& left) fm : Nat) : Int) := by rw [hand]; exact u32_andNot_nat _ fm hnl hp
          have FIRST : Hid (∀ (z : Int), z = (m : Int) + 1 → ∀ w, Calls Tryd.prog 112 #[.int .i64 z] w fun e w' => e = .returned (.int .u32 (fm : Int)) ∧ w = w') := Lib.hid (fun z hz w => by rw [hfm]; exact firstOf_any z (m + 1) (by omega) (by omega) w)
          have WR : IntKind.i64.wrap ((m : Int) + 1) = (m : Int) + 1 := by rw [IntKind.wrap_i64]; omega
          obtain ⟨ns, hns⟩ : ∃ ns, ns = aboveN a left m := ⟨_, rfl⟩
          have LIST2 : Hid (∀ (w : World) (_ : Tab w), Calls Tryd.prog 48 #[.int .u32 (bits BinOp.andNot IntKind.u32 (bits BinOp.and IntKind.u32 (a[m] : Int) (left : Int)) (fm : Int))] w fun e w' => ∃ v, e = .returned v ∧ w'.ownsRow w.heap.size 3 1 v ns.length ((natInts ns).map (Value.int .i64)) ∧ Below w.heap.size w w') :=
            Lib.hid (fun w hT => by rw [hns, aboveN, ← hfm]; exact list_any _ _ hand3 (sub_lt32 _ _ hnl) w hT)
          have HER := Lib.hid (edgeRow_above HS.out hmb)
          rw [← hns] at HER
          have hnsl : ns.length ≤ 32 := by rw [hns]; exact bitsOf_length _
          have HNS : Hid (∀ v ∈ ns, left.testBit v = true ∧ m < v) := Lib.hid (by
            intro v hv
            have h1 : (v : Int) ∈ natInts (aboveN a left m) := by rw [← hns]; exact mem_natInts.2 ⟨v, hv, rfl⟩
            rw [above_rows HS.out hmb, List.mem_filter, HS.out.rows m hmb, mem_near hl65] at h1
            obtain ⟨⟨i, e, _, h2⟩, h3⟩ := h1
            have h3 := of_decide_eq_true h3
            exact ⟨by rw [← show i = v by omega]; exact h2, by omega⟩)
          have HMB := Lib.hid hmb
          have HSF : Hid ((L.drop k).findSome? (edgeF g L) = (edgeF g L m).or ((L.drop (k + 1)).findSome? (edgeF g L))) := Lib.hid (by
            have e : L[k]'(by rw [HLL.out]; exact hlt') = (m : Int) := by
              have := bits_get hlt'
              rw [← hm] at this
              rw [← this]
              congr 1
            rw [some_drop (by rw [HLL.out]; exact hlt'), e])
          have hma1 : (m : Int) + 1 < 9223372036854775807 := by omega
          clear hn hb hlt' hm hmb hand hand3 hnl hp hfm hns
          go_upto_region 10 with fail
          go_cut [53, 54, 55] (fun s53 s54 s55 wx => s54 = .int .i64 ns.length ∧ s55 = .int .i64 (0 : Nat) ∧ Below wr.heap.size wr wx ∧ Nums wx 3 .i64 s53 (natInts ns))
          case first =>
            go_region_held3 (fun w' => w'.cell? ⟨ab, ao + m, none⟩ = some (.int .u32 (a[m] : Int)))
              (first | exact hca | exact BWA.at' hca | go_keep)
              (first
                | (go_at_call 112; refine (FIRST.out _ (by first | rfl | exact WR | (rw [IntKind.wrap_i64]; omega)) _).mono ?_; rintro e w2 ⟨rfl, rfl⟩)
                | (go_at_call 48; refine (LIST2.out _ ((HT.out.keep HB.out).keep (below_dN (Below.refl _ _) 1))).mono ?_; rintro e w2 ⟨lv, rfl, hown2, hb2⟩; have HNL := Lib.hid (Nums.of_owns hown2 (natInts_length _).symm (by omega)); obtain ⟨lp3, lc3, rfl, _⟩ := id HNL.out; have BWA : Below wr.heap.size wr w2 := (below_dN (Below.refl _ _) 1).trans hb2; clear hown2 hb2))
            all_goals go_wp2
            all_goals go_meet
            all_goals exact ⟨by rw [natInts_length], rfl, BWA, HNL.out⟩
          case rest =>
            obtain ⟨rfl, rfl, hbc, hnl⟩ := hcut
            obtain ⟨lp3, lc3, rfl, _⟩ := id hnl
            rw [natInts_length] at hnl ⊢
            have HBC := Lib.hid (HB.out.trans (hbc.mono HB.out.size))
            have HNC := Lib.hid (HN.out.below hbc)
            have HNN := Lib.hid hnl
            clear hbc hnl hca hce FIRST LIST2 HB HN
            go_wp2_with fail
            go_loopw [55] (fun i wr => ∃ j : Nat, j ≤ ns.length ∧ i = .int .i64 j ∧ Below w.heap.size w wr ∧ Nums wr 3 .i64 (.slice (some ⟨eb, eo, none⟩) ls.length lc2) (natInts ls) ∧ Nums wr 3 .i64 (.slice lp3 ns.length lc3) (natInts ns) ∧ Hid (edgeRow g L m = ((natInts ns).drop j).find? (fun v => dec (HardS (joinG g m v) (lessL L v))))) (fun i _ => ns.length - (intOf i).toNat)
            case atStart => exact ⟨0, Nat.zero_le _, rfl, HBC.out, HNC.out, HNN.out, Lib.hid HER.out⟩
            case round =>
              clear HBC HNC HNN
              obtain ⟨j, hj, rfl, hb, hn1, hn, HEJ⟩ := hrel
              have HB := Lib.hid hb
              have HN1 := Lib.hid hn1
              have HN := Lib.hid hn
              clear hn1 hb
              by_cases hltj : j < ns.length
              · obtain ⟨q, hq⟩ : ∃ q, q = ns[j] := ⟨_, rfl⟩
                obtain ⟨hqb, hmq⟩ := HNS.out q (by rw [hq]; exact List.getElem_mem hltj)
                have hqa : q < a.length := HS.out.inn q hqb
                have hltj' : j < (natInts ns).length := by rw [natInts_length]; exact hltj
                obtain ⟨fb, fo, rfl, hcf⟩ := hn.get hltj'
                rw [bits_get hltj', ← hq] at hcf
                obtain ⟨pq, hpq⟩ : ∃ pq, pq = 2 ^ q := ⟨_, rfl⟩
                have hpl : pq < 4294967296 := by rw [hpq]; exact pow_lt32 q (by omega)
                have ONE : Hid (∀ w, Calls Tryd.prog 74 #[.int .i64 (q : Int)] w fun e w' => e = .returned (.int .u32 (pq : Int)) ∧ w = w') := Lib.hid (fun w => by rw [hpq]; exact one_any (q : Int) q rfl (by omega) w)
                have HAND := Lib.hid (u32_andNot_nat left pq hl32 hpl)
                have SJ : Hid (Same (joinG g m q) (lessL L q) (contrL a left m q) (sub left pq)) := Lib.hid (by rw [hpq]; exact HS.out.join HR.out HMB.out hqb (by omega))
                have HCL := Lib.hid (show (contrL a left m q).length = a.length by rw [contrL, tieN_length])
                have HTI : Hid (∀ i ∈ toTie a left m q, i < a.length) := Lib.hid (fun i hi => HS.out.inn i ((mem_toTie hl65 (by omega)).1 hi).2.1)
                have HFi : Hid (((natInts ns).drop j).find? (fun v => dec (HardS (joinG g m v) (lessL L v))) = if dec (HardS (joinG g m q) (lessL L q)) = true then some (q : Int) else ((natInts ns).drop (j + 1)).find? (fun v => dec (HardS (joinG g m v) (lessL L v)))) := Lib.hid (by
                  rw [find_drop hltj', bits_get hltj', ← hq])
                have HQB := Lib.hid hqb
                have HPQ := Lib.hid hpq
                have HSLT := Lib.hid HS.out.lt
                clear hn hltj' hq hqb hpq hpl
                by_cases hh : HardS (joinG g m q) (lessL L q)
                · have HH := Lib.hid hh
                  clear hh
                  go_upto_region 15 with (first
                    | (go_at_call 74; refine (ONE.out _).mono ?_; rintro e w2 ⟨rfl, rfl⟩)
                    | (go_at_call 125; refine (contracted_any _ a left m q _ _ _ rfl rfl rfl h16 HSLT.out hl65 hma hqa HTI.out _ (HX.out.below HB.out) (HT.out.keep HB.out)).mono ?_; rintro e w5 ⟨r5, rfl, ho5, hb5⟩; obtain ⟨p5, c5, rfl⟩ := own_shapeN ho5; have HO5 := Lib.hid (ownsRow_base ho5 HB.out.size); have HSL5 := Lib.hid (Sl.of_owns ho5 (by omega)); have HB5 := Lib.hid (HB.out.trans (hb5.mono HB.out.size)); clear ho5 hb5)
                    | (go_at_call 64; refine (isSeries_any _ _ (contrL a left m q) (sub left pq) HAND.out SJ.out.nok SJ.out.cnt _ (by rw [HCL.out]; exact HSL5.out) (HT.out.keep HB5.out)).mono ?_; rintro e w6 ⟨fs, l', a', he, hF, hl6, hb6⟩; rw [dec_false ((SJ.out.hard hF hl6).1 HH.out)] at he; subst he; have HB6 := Lib.hid (HB5.out.trans (hb6.mono HB5.out.size)); have HO6 := Lib.hid (ownsRow_below HO5.out hb6); clear hF hb6 hl6))
                  have hmm : m < ms.length := by rw [HML.out]; exact hma
                  have hqm : q < ms.length := by rw [HML.out]; exact hqa
                  obtain ⟨sb, rfl⟩ : ∃ sb, svp = some ⟨sb, 0, none⟩ := by
                    rcases HSV.out.2 with ⟨_, h0⟩ | ⟨b, cc, _, h1, _⟩
                    · omega
                    · simp only [Value.slice.injEq] at h1
                      exact ⟨b, h1.1⟩
                  have hsbl := HSV.out.lt sb rfl
                  have HSV6 := Lib.hid (ownsRow_below HSV.out HB6.out)
                  have hc1 := HSV6.out.cellAt m (show m < ms.length * 1 by omega)
                  have hc2 := HSV6.out.cellAt q (show q < ms.length * 1 by omega)
                  have hf1 := HSV6.out.frozenAt m
                  rw [List.getElem?_map, List.getElem?_eq_getElem hmm] at hc1
                  rw [List.getElem?_map, List.getElem?_eq_getElem hqm] at hc2
                  change w6.cell? ⟨sb, m, none⟩ = some (.int .u32 (ms[m] : Int)) at hc1
                  change w6.cell? ⟨sb, q, none⟩ = some (.int .u32 (ms[q] : Int)) at hc2
                  have HOR := Lib.hid (or_u32 ms[m] ms[q] (HMS.out _ (List.getElem_mem hmm)) (HMS.out _ (List.getElem_mem hqm)))
                  have HB60 := Lib.hid (HB6.out.size)
                  go_region
                  all_goals go_wp2_with (go_at_call 74; refine (ONE.out _).mono ?_; rintro e w2 ⟨rfl, rfl⟩)
                  all_goals
                    rw [HOR.out]
                    go_ret3
                    obtain ⟨ho2, hg2⟩ := HSV6.out.stored m (.int .u32 ((ms[m] ||| ms[q] : Nat) : Int))
                    have hrow : edgeRow g L m = some (q : Int) := by rw [HEJ.out, HFi.out, if_pos (dec_true HH.out)]
                    have hset : (ms.map u32v).set m (.int .u32 ((ms[m] ||| ms[q] : Nat) : Int)) = (ms.set m (ms.getD m 0 ||| ms.getD q 0)).map u32v := by
                      rw [List.map_set, show ms.getD m 0 = ms[m] by simp [hmm], show ms.getD q 0 = ms[q] by simp [hqm]]; rfl
                    rw [hset] at ho2
                    have hg3 := grown_trans (grown_of_below HB6.out (some sb)) hg2
                    have ho5 := ownsRow_setCell_other HO6.out (a := ⟨sb, m, none⟩) (fun e => by have := (HO6.out.lt sb e).1; omega) (.int .u32 ((ms[m] ||| ms[q] : Nat) : Int))
                    exact ⟨.slice p5 a.length c5, sub left pq, true, congrArg (fun z : Int => Ending.returned (Value.tuple #[Value.slice p5 a.length c5, Value.int .u32 z, Value.bool true])) HAND.out,
                      .edge rfl m q HNO.out (by rw [HE.out, HSF.out, edgeF, hrow]; rfl) HMB.out HQB.out (by omega) (by rw [HPQ.out]) ho5 ho2 ⟨hg3.os, hg3.tape, hg3.output, hg3.size, hg3.block⟩⟩
                · have HH := Lib.hid hh
                  clear hh
                  go_wp2_with (first
                    | (go_at_call 74; refine (ONE.out _).mono ?_; rintro e w2 ⟨rfl, rfl⟩)
                    | (go_at_call 125; refine (contracted_any _ a left m q _ _ _ rfl rfl rfl h16 HSLT.out hl65 hma hqa HTI.out _ (HX.out.below HB.out) (HT.out.keep HB.out)).mono ?_; rintro e w5 ⟨r5, rfl, ho5, hb5⟩; obtain ⟨p5, c5, rfl⟩ := own_shapeN ho5; have HSL5 := Lib.hid (Sl.of_owns ho5 (by omega)); have HB5 := Lib.hid (HB.out.trans (hb5.mono HB.out.size)); have HN5 := Lib.hid (HN.out.below hb5); have HN15 := Lib.hid (HN1.out.below hb5); clear ho5 hb5)
                    | (go_at_call 64; refine (isSeries_any _ _ (contrL a left m q) (sub left pq) HAND.out SJ.out.nok SJ.out.cnt _ (by rw [HCL.out]; exact HSL5.out) (HT.out.keep HB5.out)).mono ?_; rintro e w6 ⟨fs, l', a', he, hF, hl6, hb6⟩; rw [dec_true (Classical.byContradiction fun c => HH.out ((SJ.out.hard hF hl6).2 c))] at he; subst he; have HB6 := Lib.hid (HB5.out.trans (hb6.mono HB5.out.size)); have HN6 := Lib.hid (HN5.out.below hb6); have HN16 := Lib.hid (HN15.out.below hb6); clear hF hb6 hl6))
                  go_roundw
                  case rel => exact ⟨j + 1, by omega, by go_num, HB6.out, HN16.out, HN6.out, Lib.hid (by rw [HEJ.out, HFi.out, if_neg (by rw [dec_false HH.out]; decide)])⟩
                  case measure => simp [intOf]; omega
              · obtain rfl : j = ns.length := by omega
                have hnone : Hid (edgeF g L m = none) := Lib.hid (by rw [edgeF, HEJ.out, find_stop (by rw [natInts_length]; exact Nat.le_refl _)]; rfl)
                clear hn
                go_wp2_with fail
                go_roundw
                case rel => exact ⟨k + 1, by omega, by go_num, HB.out, HN1.out, Lib.hid (by rw [HE.out, HSF.out, hnone.out]; rfl)⟩
                case measure => simp [intOf]; omega
        · obtain rfl : k = ls.length := by omega
          clear hn hb
          go_wp2_with fail
          go_ret3
          exact ⟨.slice xp a.length xc, left, false, rfl, .stop rfl rfl rfl HNO.out (by rw [HE.out]; exact some_stop (by rw [HLL.out, natInts_length]; exact Nat.le_refl _)) HB.out⟩

end Go.Proofs.YtfokiijcpkhllaaDoor
