/- Walk: the program's EdgeParts. -/
import Derived.Test.YtfokiijcpkhllaaDoorFuQ15
import Derived.Test.YtfokiijcpkhllaaDoorFuQ41
import Derived.Test.YtfokiijcpkhllaaDoorFuQ39
import Derived.Test.YtfokiijcpkhllaaDoorFuQ36
import Derived.Test.YtfokiijcpkhllaaDoorFuQ31
import Derived.Test.YtfokiijcpkhllaaDoorFuQ32
import Derived.Test.YtfokiijcpkhllaaDoorFuQ24
import Derived.Test.YtfokiijcpkhllaaDoorFuQ3
import Derived.Test.YtfokiijcpkhllaaDoorFuQ40
namespace Go.Proofs.YtfokiijcpkhllaaDoor
open Go.RowKit

theorem mskL_lt {n : Nat} (hn : n ≤ 16) {ps : List (List Nat)} (h : ∀ l ∈ ps, l.Pairwise (· < ·) ∧ ∀ i ∈ l, i < n) : ∀ s ∈ mskL ps, s < 65536 := by
  intro s hs
  obtain ⟨l, hl, rfl⟩ := List.mem_map.1 hs
  exact mask_nat_lt16 fun i hi => by have := (h l hl).2 i hi; omega
theorem rowsOf_mskL {n : Nat} (hn : n ≤ 16) {ps : List (List Nat)} (h : ∀ l ∈ ps, l.Pairwise (· < ·) ∧ ∀ i ∈ l, i < n) : rowsOf (mskL ps) = ps.map natInts := by
  unfold rowsOf mskL
  rw [List.map_map]
  refine List.map_congr_left fun l hl => ?_
  show natInts (bitsOf (mask (natInts l))) = natInts l
  congr 1
  refine rising_ext _ _ (bitsOf_rising _) (h l hl).1 fun i => ?_
  rw [mem_left (mask_nat_lt16 fun i hi => by have := (h l hl).2 i hi; omega), mask_bit, decide_eq_true_eq]

/-- What the loop over the bridges carries. -/
structure EpI (w wr : World) (x ev : Value) (Bx Be n : Nat) (brs : List (Nat × Nat)) (F : Nat → Nat → Bool) : Prop where
  net : wr.ownsRow Bx 64 1 x n ((indN n F).map u32v)
  edg : PrsO wr Be ev brs
  bel : Below w.heap.size w wr
  tab : Tab wr
  tpos : 0 < w.heap.size
  b2 : w.heap.size ≤ Bx
theorem EpI.next {w wr wx : World} {x ev : Value} {Bx Be n : Nat} {brs : List (Nat × Nat)} {F : Nat → Nat → Bool} (h : EpI w wr x ev Bx Be n brs F) (hb : Below wr.heap.size wr wx) : EpI w wx x ev Bx Be n brs F :=
  ⟨ownsRow_below h.net hb, h.edg.below hb, h.bel.trans (hb.mono h.bel.size), h.tab.keep hb, h.tpos, h.b2⟩
theorem EpI.turn {w wr wx : World} {x ev : Value} {Bx Be n : Nat} {brs : List (Nat × Nat)} {F F' : Nat → Nat → Bool} (h : EpI w wr x ev Bx Be n brs F) (ho : wx.ownsRow Bx 64 1 x n ((indN n F').map u32v)) (hg : wr.grownBy wx x.ownBlock) : EpI w wx x ev Bx Be n brs F' :=
  ⟨ho, h.edg.otherT h.net hg, below_grown h.bel h.net hg h.b2 h.bel.size, h.tab.grownP hg (fun e => by
    have e' : x.ownBlock = some 0 := e.symm
    have := (h.net.lt _ e').1
    have := h.b2
    have := h.tpos
    omega), h.tpos, h.b2⟩

end Go.Proofs.YtfokiijcpkhllaaDoor

/- Walks: the program's cut vertices, what is between two, bridges. -/
namespace Go.Proofs.YtfokiijcpkhllaaDoor
open Go.RowKit

theorem bits_less {W v : Nat} (hW : W < 65536) (hv : v < 16) : bitsOf (sub W (2 ^ v)) = (bitsOf W).filter fun x => x != v := by
  have hp := pow_lt32 v (by omega)
  refine rising_ext _ _ (bitsOf_rising _) (List.Pairwise.filter _ (bitsOf_rising _)) fun j => ?_
  rw [mem_bitsOf' (sub_lt32 _ _ (by omega)), testBit_sub _ _ (by omega) hp, testBit_pow, List.mem_filter, mem_bitsOf' (by omega)]
  simp only [Bool.and_eq_true, Bool.not_eq_true', decide_eq_false_iff_not, bne_iff_ne]
  exact ⟨fun h => ⟨h.1, fun e => h.2 e.symm⟩, fun h => ⟨h.1, fun e => h.2 e.symm⟩⟩
theorem or_bit (m v i : Nat) : (m ||| 2 ^ v).testBit i = true ↔ m.testBit i = true ∨ i = v := by
  rw [Nat.testBit_or, testBit_pow, Bool.or_eq_true, decide_eq_true_eq]
  exact or_congr_right eq_comm

theorem own_shapeW {w : World} {base n : Nat} {E : TypeId} {v : Value} {xs : List Value} (h : w.ownsRow base E 1 v n xs) : ∃ p c, v = .slice p n c := by
  rcases h.2 with ⟨h1, h0⟩ | ⟨g, cap, cur, h1, _⟩
  · exact ⟨none, 0, by rw [h1, h0]⟩
  · exact ⟨_, _, h1⟩

theorem neOf {g : List (List Int)} (hok : GOk g) {w : World} {base : Nat} {x : Value} (h : w.ownsRow base 64 1 x g.length ((netL g).map u32v)) : NE w x g.length (ofG g) :=
  ⟨hok.le, by rw [indN_ofG hok]; exact Sl.of_owns h (by have := hok.le; omega)⟩

end Go.Proofs.YtfokiijcpkhllaaDoor

/- Walk: the program's FullMinor. -/
namespace Go.Proofs.YtfokiijcpkhllaaDoor
open Go.RowKit

def noE : Nat → Nat → Bool := fun _ _ => false
theorem noE_joins {m : Nat} : ∀ i k, i < m → k < m → (compE noE i k = true ↔ i ≠ k) := fun i k _ _ => by unfold compE noE; simp
theorem ne_made (w w' : World) (m : Nat) (hm : m ≤ 16) {b : Nat} (h : w'.ownsRow b 64 1 (.slice (some ⟨w.heap.size, 0, none⟩) m m) m (List.replicate m (.int .u32 0))) : NE w' (.slice (some ⟨w.heap.size, 0, none⟩) m m) m noE := by
  have e : (indN m noE).map u32v = List.replicate m (.int .u32 0) := by
    rw [indN_none m (E := noE) fun _ _ _ _ => rfl]; simp [u32v]
  exact ⟨hm, by rw [e]; exact Sl.of_owns h (by omega)⟩
set_option maxRecDepth 100000 in
set_option maxHeartbeats 4000000 in
theorem implFullMinor_any (v : Value) (g : List (List Int)) (w : World) (hok : GOk g) (h8 : g.length ≤ 8) (hg : Gr w v g) (hT : Tab w) :
    Calls Tryd.prog 33 #[v] w fun e w' => ∃ k : Nat, e = .returned (.int .i64 (k : Int)) ∧ FuS g k ∧ Below w.heap.size w w' := by
  have hg0 := Lib.hid hg
  obtain ⟨_, rfl, hr⟩ := hg
  obtain ⟨ga, gc, rfl, _⟩ := hr.shape
  obtain ⟨w1, hw1⟩ : ∃ w1, w1 = w.alloc (.cells #[.slice ga g.length gc] 29) := ⟨_, rfl⟩
  have HX : Hid (Box w1 w.heap.size 29 (.slice ga g.length gc)) := Lib.hid (by rw [hw1]; exact Box.new _ _ _)
  have HB1 : Hid (Below w.heap.size w w1) := Lib.hid (by rw [hw1]; exact below_alloc _ _)
  have HG1 := Lib.hid (hg0.out.below HB1.out)
  have HT1 := Lib.hid (hT.keep HB1.out)
  have HD := Lib.hid (dec_true hok)
  have HOK := Lib.hid hok
  have hgt : ¬ (8 : Int) < (g.length : Int) := by omega
  have hp1 := hok.pos
  clear hok hr hT hg0
  go_enter Tryd.func33, Tryd.ntmps33
  go_upto_region 1 with fail
  rw [← hw1]
  clear hw1
  have c1 := HX.out.cell
  go_upto_region 3 with (go_at_call 38; refine (implGraphOk_any _ g _ HG1.out).mono ?_; rintro e w2 ⟨he, hb2⟩; rw [HD.out] at he; subst he; have c2 := hb2.at' c1)
  have HB2 : Hid (Below w.heap.size w w2) := Lib.hid (HB1.out.trans (hb2.mono HB1.out.size))
  have HG2 := Lib.hid (HG1.out.below hb2)
  have HT2 := Lib.hid (HT1.out.keep hb2)
  have HX2 := Lib.hid (HX.out.keep hb2)
  clear c1 c2 hb2 HX HG1 HT1 HB1
  go_wp2_with fail
  go_loopw [3] (fun iv wr => ∃ m : Nat, 1 ≤ m ∧ m ≤ 5 ∧ iv = .int .i64 (m : Int) ∧ Hid (∀ k, m < k → k ≤ 5 → ¬ HasK g k) ∧ Hid (Below w2.heap.size w2 wr)) (fun iv _ => (intOf iv).toNat)
  case atStart => exact ⟨5, by omega, by omega, rfl, Lib.hid (fun k h1 h2 => by omega), Lib.hid (Below.refl _ _)⟩
  case round =>
    obtain ⟨m, hm1, hm5, rfl, HN, HBR⟩ := hrel
    by_cases hlt : 1 < m
    · have hmi : (1 : Int) < (m : Int) := by omega
      have HXr := Lib.hid (HX2.out.keep HBR.out)
      have cx := HXr.out.cell
      have HGr := Lib.hid (HG2.out.below HBR.out)
      have HTr := Lib.hid (HT2.out.keep HBR.out)
      have hmk := run_mk_nets m (by omega)
      obtain ⟨fb, hfb⟩ : ∃ fb, fb = (findN m (FitW m (ofG g) (compE noE)) g.length []).isSome := ⟨_, rfl⟩
      have HF : Hid (fb = true ↔ HasK g m) := Lib.hid (by rw [hfb, Option.isSome_iff_exists]; exact found_iff HOK.out noE_joins)
      have CALL : Hid (∀ (hv pv : Value) (wz : World), NE wz hv g.length (ofG g) → NE wz pv m (compE noE) → Tab wz → Calls Tryd.prog 97 #[hv, pv] wz fun e w' => ∃ (q : Option Addr) (l c : Nat), e = .returned (.slice q l c) ∧ (∀ w, Sem.run Tryd.prog (binOp BinOp.neq 60 (.slice q l c) (.slice none 0 0)) w = .ok (.bool fb) w) ∧ Below wz.heap.size wz w') := Lib.hid (fun hv pv wz a b c => by
        refine (minorIn_any hv pv g.length m (ofG g) (compE noE) h8 (by omega) (ofG_sym HOK.out) (ofG_to HOK.out) (fun i k => by unfold compE noE; simp [Bool.beq_comm]) (fun i => by unfold compE; simp) wz a b c).mono ?_
        rintro e w' ⟨u, rfl, hend, hb⟩
        rw [hfb]
        rcases hend with ⟨hf, rfl⟩ | ⟨x, b, hf, rfl, _⟩
        · exact ⟨_, _, _, rfl, fun w => by rw [hf]; rfl, hb⟩
        · exact ⟨_, _, _, rfl, fun w => by rw [hf]; rfl, hb⟩)
      clear hfb
      go_upto_region 6 with fail
      go_cut [23] (fun s23 wx => s23 = .bool fb ∧ Below wr.heap.size wr wx)
      case first =>
        go_region_held3 (fun W => W.cell? ⟨w.heap.size, 0, none⟩ = some (.slice ga g.length gc))
          (first | exact cx | go_keep | exact BWC.at' cx | exact (below_alloc _ _).at' (BWB.at' cx) | exact BWB.at' cx | exact (below_alloc _ _).at' (BWA.at' cx) | exact BWA.at' cx | exact (below_alloc _ _).at' cx)
          (first
            | (go_at_call 97; refine (CALL.out _ _ _ HNX.out HPX.out (HTr.out.keep BWB)).mono ?_; rintro e w6 ⟨q6, l6, c6, rfl, hnl, hb6⟩; have BWC : Below wr.heap.size wr w6 := BWB.trans (hb6.mono BWB.size); clear hb6)
            | (go_at_call 98; have HNA1 := HNA; have BWZ1 := BWZ; refine (complement_any _ _ m noE _ (by first | exact (ne_made _ _ m (by omega) HZ.out) | exact (ne_made _ _ m (by omega) (owns_made _ m (by omega))))).mono ?_; rintro e w5 ⟨u5, rfl, ho5, hb5⟩; have BWB : Below wr.heap.size wr w5 := (by first | exact BWA.trans (hb5.mono BWA.size) | exact (BWA.alloc BWA.size _).trans (hb5.mono (BWA.alloc BWA.size _).size)); have HPX : Hid (NE w5 u5 m (compE noE)) := Lib.hid ⟨by omega, Sl.of_owns ho5 (by omega)⟩; have HNX : Hid (NE w5 x4 g.length (ofG g)) := Lib.hid (by first | exact HNA.out.next hb5 | exact (HNA.out.next (below_alloc _ _)).next hb5); clear ho5 hb5)
            | (go_at_call 41; have HPB1 := HPB; refine (netsOf_any _ g _ (HGr.out.below (by first | exact BWA | exact BWA.trans (below_dN (Below.refl _ _) 1))) HOK.out).mono ?_; rintro e w5 ⟨x5, rfl, ho5, hb5⟩; have BWB : Below wr.heap.size wr w5 := BWA.trans (hb5.mono BWA.size); have HPX : Hid (NE w5 u4 m (compE noE)) := Lib.hid (HPB.out.next hb5); have HNX : Hid (NE w5 x5 g.length (ofG g)) := Lib.hid (neOf HOK.out ho5); clear ho5 hb5)
            | (go_at_call 98; refine (complement_any _ _ m noE _ (ne_made wr _ m (by omega) (World.ownsRow.drew (owns_made wr m (by omega))))).mono ?_; rintro e w4 ⟨u4, rfl, ho4, hb4⟩; have BWA : Below wr.heap.size wr w4 := (below_dN (below_alloc wr _) 1).trans (hb4.mono (below_alloc wr _).size); have HPB : Hid (NE w4 u4 m (compE noE)) := Lib.hid ⟨by omega, Sl.of_owns ho4 (by omega)⟩; clear ho4 hb4)
            | (go_at_call 41; refine (netsOf_any _ g _ (HGr.out.below (below_dN (Below.refl _ _) 1)) HOK.out).mono ?_; rintro e w4 ⟨x4, rfl, ho4, hb4⟩; have BWA : Below wr.heap.size wr w4 := (below_dN (Below.refl _ _) 1).trans hb4; have HNA : Hid (NE w4 x4 g.length (ofG g)) := Lib.hid (neOf HOK.out ho4); have BWZ := Lib.hid (show True from trivial); clear ho4 hb4)
            | (go_at_call 41; refine (netsOf_any _ g _ (HGr.out.below (below_dN (below_alloc wr _) 1)) HOK.out).mono ?_; rintro e w4 ⟨x4, rfl, ho4, hb4⟩; have BWA : Below wr.heap.size wr w4 := (below_dN (below_alloc wr _) 1).trans (hb4.mono (below_alloc wr _).size); have HNA : Hid (NE w4 x4 g.length (ofG g)) := Lib.hid (neOf HOK.out ho4); have HZ := Lib.hid (ownsRow_below (World.ownsRow.drew (owns_made wr m (by omega))) hb4); have BWZ := Lib.hid (show True from trivial); clear ho4 hb4))
        all_goals go_wp2
        all_goals go_meet
        all_goals exact ⟨rfl, BWC⟩
      case rest =>
      obtain ⟨rfl, hbc⟩ := hcut
      have HBC := Lib.hid (HBR.out.trans (hbc.mono HBR.out.size))
      clear hbc cx hmk
      cases fb with
      | true =>
        go_wp2_with fail
        go_ret
        exact ⟨m, rfl, ⟨by omega, hm5, HF.out.1 (by first | rfl | trivial), HN.out⟩, HB2.out.trans (HBC.out.mono HB2.out.size)⟩
      | false =>
        go_wp2_with fail
        go_roundw
        case rel => exact ⟨m - 1, by omega, by omega, by first | go_num | (congr 1; omega), Lib.hid (fun k h1 h2 hk => by
          by_cases e : k = m
          · subst e; have := HF.out.2 hk; cases this
          · exact HN.out k (by omega) h2 hk), HBC⟩
        case measure => simp [intOf]; omega
    · obtain rfl : m = 1 := by omega
      go_wp2_with fail
      go_ret
      exact ⟨1, rfl, ⟨by omega, by omega, hasK_one HOK.out, HN.out⟩, HB2.out.trans (HBR.out.mono HB2.out.size)⟩

end Go.Proofs.YtfokiijcpkhllaaDoor

/- Plain: what CliquesOf returns. -/
namespace Go.Proofs.YtfokiijcpkhllaaDoor

def adG (g : List (List Int)) : Nat → Nat → Bool := fun r j => decide ((j : Int) ∈ row g r)
theorem adG_irr {g : List (List Int)} (hg : GOk g) {v : Nat} (hv : v < g.length) : adG g v v = false := by
  rw [adG, decide_eq_false_iff_not]
  exact (hg.sets v hv).2
/-- What CliquesOf returns. -/
def ClsS (g gg : List (List Int)) : Prop := (GOk g ∧ gg = (clsP g.length (adG g)).map natInts) ∨ (¬ GOk g ∧ gg = [])
theorem clsS_det {g gg hh : List (List Int)} (h : ClsS g gg) (k : ClsS g hh) : gg = hh := by
  rcases h with ⟨h1, rfl⟩ | ⟨h1, rfl⟩ <;> rcases k with ⟨k1, rfl⟩ | ⟨k1, rfl⟩
  · rfl
  · exact absurd h1 k1
  · exact absurd k1 h1
  · rfl
theorem cls_len {g : List (List Int)} (h : GOk g) : ((clsP g.length (adG g)).map natInts).length ≤ 65536 := by
  rw [List.length_map]
  exact Nat.le_trans (clsP_len _ _) (Nat.le_trans (Nat.pow_le_pow_right (by decide) h.le) (by decide))
theorem cls_row {g : List (List Int)} (h : GOk g) (j : Nat) : (row ((clsP g.length (adG g)).map natInts) j).length ≤ 32 := by
  by_cases hj : j < (clsP g.length (adG g)).length
  · have e : row ((clsP g.length (adG g)).map natInts) j = natInts (clsP g.length (adG g))[j] := by simp [row, hj]
    rw [e, natInts_length]
    obtain ⟨h1, h2⟩ := clsP_mem (List.getElem_mem hj)
    have := h.le
    by_cases he : (clsP g.length (adG g))[j] = []
    · rw [he]; simp
    · have := rising_room (lo := 0) (n := g.length) h1 (fun x hx => ⟨Nat.zero_le _, h2 x hx⟩) he
      omega
  · simp [row, hj]

end Go.Proofs.YtfokiijcpkhllaaDoor

/- Walks: CliquesOf of the reference. -/
namespace Go.Proofs.YtfokiijcpkhllaaDoor
open Go.RowKit

theorem nums_nilC (w : World) (E : TypeId) (a : Addr) : Nums w E .i64 (.slice (some a) 0 0) (natInts []) := ⟨_, 0, rfl, (fun e => by cases e), by simp [natInts], by simp [natInts], .inl rfl⟩

set_option maxRecDepth 100000 in
set_option maxHeartbeats 4000000 in
theorem specCliquesOf_any (v : Value) (g : List (List Int)) (w : World) (hg : Gr w v g) :
    Calls Tryd.prog 99 #[v] w fun e w' => ∃ (u : Value) (gg : List (List Int)), e = .returned u ∧ ClsS g gg ∧ SG w' w.heap.size (.agg #[u]) gg ∧ gg.length ≤ 65536 ∧ (∀ j, (row gg j).length ≤ 32) ∧ Below w.heap.size w w' := by
  have hg0 := hg
  obtain ⟨u, rfl, hr⟩ := hg
  obtain ⟨p, c, rfl, _⟩ := hr.shape
  have hbA := Lib.hid (below_alloc w (.cells #[.slice p g.length c] 29))
  have HG := Lib.hid (hg0.below hbA.out)
  have BX := Lib.hid (Box.new w (.slice p g.length c) 29)
  clear hr hg0
  by_cases hok : GOk g
  case neg =>
    have hd := dec_false hok
    have Hok := Lib.hid hok
    clear hok
    go_enter Tryd.func99, Tryd.ntmps99
    go_wp2_with (go_at_call 50; refine (specGraphOk_any _ g _ HG.out).mono ?_; rintro e w2 ⟨he, hb2⟩; rw [hd] at he; subst he)
    go_ret
    have s0 := hbA.out.size
    have s2 := hb2.size
    exact ⟨_, [], rfl, .inr ⟨Hok.out, rfl⟩, ⟨_, [], rfl, rfl, ownsRow_base (ownsRow_empty w2 _ _) (by omega), fun j hj => by simp at hj⟩, by simp, fun j => by simp [row], (hbA.out.trans (hb2.mono hbA.out.size)).alloc (by omega) _⟩
  have hd := dec_true hok
  have HOK := Lib.hid hok
  have h16 := hok.le
  clear hok
  go_enter Tryd.func99, Tryd.ntmps99
  go_upto_region 3 with (go_at_call 50; refine (specGraphOk_any _ g _ HG.out).mono ?_; rintro e w2 ⟨he, hb2⟩; rw [hd] at he; subst he; have hbx := (BX.out.keep hb2).cell)
  have s0 := hbA.out.size
  have s2 := hb2.size
  rw [size_alloc] at s2
  have HG2 := Lib.hid (HG.out.below hb2)
  have HB2 := Lib.hid (hbA.out.trans (hb2.mono s0))
  have T1 : Hid (∀ j ∈ List.range g.length, j < g.length) := Lib.hid (fun j hj => List.mem_range.1 hj)
  have T2 : Hid ((List.range g.length).length < g.length + 1) := Lib.hid (by rw [List.length_range]; omega)
  have T3 : Hid ((List.range g.length).length ≤ 16) := Lib.hid (by rw [List.length_range]; omega)
  have T4 : Hid (([] : List Nat).length + (List.range g.length).length ≤ 100) := Lib.hid (by rw [List.length_range]; simp; omega)
  have T5 : Hid (g.length ≤ 1000) := Lib.hid (by omega)
  clear hb2
  go_region_held3 (fun w' => w'.cell? ⟨w.heap.size, 0, none⟩ = some (.slice p g.length c) ∧ Below w2.heap.size w2 w')
    (first
      | exact ⟨hbx, below_dN (Below.refl _ _) 1⟩
      | exact ⟨(below_dN (below_alloc w2 (.cells #[] 2)) 1).at' hbx, below_dN (below_alloc w2 (.cells #[] 2)) 1⟩
      | exact ⟨(below_dN (below_alloc2 w2 (.cells #[] 2) (.cells #[] 2)) 1).at' hbx, below_dN (below_alloc2 w2 (.cells #[] 2) (.cells #[] 2)) 1⟩
      | exact ⟨BWC.at' hbx, BWC⟩
      | exact ⟨BWB.at' hbx, BWB⟩
      | exact ⟨BWA.at' hbx, BWA⟩
      | exact ⟨Below.at' (Below.alloc (by first | assumption | exact And.right (by assumption)) (Below.size (by first | assumption | exact And.right (by assumption))) _) hbx, Below.alloc (by first | assumption | exact And.right (by assumption)) (Below.size (by first | assumption | exact And.right (by assumption))) _⟩)
    (first
      | (go_at_call 136; refine (l8Cliques_any g HOK.out (g.length + 1) [] (List.range g.length) [] _ _ _ _ T1.out T2.out T3.out T4.out T4.out _ (HG2.out.below (by first | assumption | exact And.right (by assumption))) (nums_nilC _ _ _) (HN.out.below (by first | exact Below.refl _ _ | exact below_alloc _ _ | exact below_alloc2 _ _ _)) (nums_nilC _ _ _)).mono ?_; rintro e w8 ⟨rv, rfl, hs8, hb8⟩; have BWC : Below w2.heap.size w2 w8 := Below.trans (by first | assumption | exact And.right (by assumption)) (hb8.mono (Below.size (by first | assumption | exact And.right (by assumption)))); have HS8 : Hid (SG w8 w2.heap.size (.agg #[rv]) ((clsP g.length (adG g)).map natInts)) := Lib.hid (sg_baseC hs8 (Below.size (by first | assumption | exact And.right (by assumption)))); clear hs8 hb8)
      | (go_at_call 62; refine (l1All_any _ g.length rfl T5.out _).mono ?_; rintro e wb ⟨av, rfl, hob, hbb⟩; obtain ⟨ap, ac, rfl⟩ := owns_shapeT hob; have BWB : Below w2.heap.size w2 wb := Below.trans (by first | assumption | exact And.right (by assumption)) (hbb.mono (Below.size (by first | assumption | exact And.right (by assumption)))); have HN := Lib.hid (Nums.of_owns (xs := natInts (List.range g.length)) hob (by rw [natInts_length, List.length_range]) (by have := T5.out; omega)); clear hob hbb)
      | (go_at_call 60; refine (l1Size_any _ g _ (HG2.out.below (by first | assumption | exact And.right (by assumption)))).mono ?_; rintro e wa ⟨rfl, hba⟩; have BWA : Below w2.heap.size w2 wa := Below.trans (by first | assumption | exact And.right (by assumption)) (hba.mono (Below.size (by first | assumption | exact And.right (by assumption)))); clear hba))
  all_goals go_wp2
  all_goals go_ret
  all_goals exact ⟨_, _, rfl, .inl ⟨HOK.out, rfl⟩, sg_baseC HS8.out (by omega), cls_len HOK.out, cls_row HOK.out, HB2.out.trans (BWC.mono (by omega))⟩

end Go.Proofs.YtfokiijcpkhllaaDoor

/- Walk: the law's own greatest clique of FnFullMinors. -/
namespace Go.Proofs.YtfokiijcpkhllaaDoor
open Go.RowKit

theorem cls_has {g gg : List (List Int)} (hok : GOk g) (h : ClsS g gg) {j : Nat} (hj : j < gg.length) : HasK g (row gg j).length := by
  rcases h with ⟨_, rfl⟩ | ⟨h, _⟩
  case inr => exact absurd hok h
  rw [List.length_map] at hj
  have hm := List.getElem_mem hj
  obtain ⟨T, hT, hC⟩ := clF_sound _ _ _ _ _ hm
  rw [List.nil_append] at hT
  have e : row ((clsP g.length (adG g)).map natInts) j = natInts T := by
    rw [← hT]
    simp [row, hj]
  rw [e, natInts_length]
  have hp := (clsP_mem hm).1
  rw [hT] at hp
  refine hasK_clique (hp.imp fun h => by omega) (fun x hx => List.mem_range.1 (hC.inl x hx)) fun x hx y hy hxy => ?_
  have hsym : ∀ a b, adG g a b = true → adG g b a = true := fun a b => ofG_sym hok a b
  obtain ⟨i, hi, rfl⟩ := List.getElem_of_mem hx
  obtain ⟨k, hk, rfl⟩ := List.getElem_of_mem hy
  have hik : i ≠ k := fun e => hxy (by subst e; rfl)
  show adG g T[i] T[k] = true
  rcases Nat.lt_or_gt_of_ne hik with h | h
  · exact List.pairwise_iff_getElem.1 hC.clq i k hi hk h
  · exact hsym _ _ (List.pairwise_iff_getElem.1 hC.clq k i hk hi h)
set_option maxRecDepth 100000 in
set_option maxHeartbeats 4000000 in
theorem w9Clique_any (v : Value) (g : List (List Int)) (w : World) (hok : GOk g) (hg : Gr w v g) :
    Calls Tryd.prog 34 #[v] w fun e w' => ∃ k : Nat, e = .returned (.int .i64 (k : Int)) ∧ k ≤ 32 ∧ (k = 0 ∨ HasK g k) ∧ Below w.heap.size w w' := by
  have hg0 := Lib.hid hg
  obtain ⟨_, rfl, hr⟩ := hg
  obtain ⟨ga, gc, rfl, _⟩ := hr.shape
  obtain ⟨w1, hw1⟩ : ∃ w1, w1 = w.alloc (.cells #[.slice ga g.length gc] 29) := ⟨_, rfl⟩
  have HX : Hid (Box w1 w.heap.size 29 (.slice ga g.length gc)) := Lib.hid (by rw [hw1]; exact Box.new _ _ _)
  have HB1 : Hid (Below w.heap.size w w1) := Lib.hid (by rw [hw1]; exact below_alloc _ _)
  have HG1 := Lib.hid (hg0.out.below HB1.out)
  have HOK := Lib.hid hok
  clear hok hr hg0
  go_enter Tryd.func34, Tryd.ntmps34
  go_upto_region 1 with fail
  rw [← hw1]
  clear hw1
  have c1 := HX.out.cell
  go_upto_region 3 with (go_at_call 99; refine (specCliquesOf_any _ g _ HG1.out).mono ?_; rintro e w2 ⟨u, gg, rfl, hcl, hs, hlen, hrow, hb2⟩; have HC := Lib.hid hcl; have HGR := Lib.hid (hs.gr (by omega)); have HROW := Lib.hid hrow; have HB2 : Hid (Below w.heap.size w w2) := Lib.hid (HB1.out.trans (hb2.mono HB1.out.size)); clear hcl hs hrow hb2)
  have hrw : Rws w2 32 2 u gg := by obtain ⟨_, e, h⟩ := HGR.out; cases e; exact h
  obtain ⟨lp, lc, rfl, _⟩ := hrw.shape
  have HRW := Lib.hid hrw
  clear hrw c1 HGR HX HG1 HB1
  obtain ⟨N, hN⟩ : ∃ N, N = gg.length := ⟨_, rfl⟩
  have HN := Lib.hid hN
  rw [← hN] at hlen HRW ⊢
  clear hN
  go_wp2_with fail
  go_loopw [3, 5] (fun bv iv wr => ∃ i k : Nat, i ≤ N ∧ iv = .int .i64 (i : Int) ∧ bv = .int .i64 (k : Int) ∧ k ≤ 32 ∧ Hid (k = 0 ∨ HasK g k) ∧ wr = w2) (fun _ iv _ => N - (intOf iv).toNat)
  case atStart => exact ⟨0, 0, Nat.zero_le _, rfl, rfl, by omega, Lib.hid (.inl rfl), rfl⟩
  case round =>
    obtain ⟨i, k, hi, rfl, rfl, hk, HK, rfl⟩ := hrel
    by_cases hlt : i < N
    · obtain ⟨b, o, rp, rc, rfl, hc, _⟩ := HRW.out.get (k := i) (by rw [← HN.out]; exact hlt)
      have h0 : (0 : Int) ≤ (i : Int) := by omega
      have h1 : (i : Int) < (N : Int) := by omega
      obtain ⟨m, hm⟩ : ∃ m, m = (gg.getD i []).length := ⟨_, rfl⟩
      have HM : Hid (m = (row gg i).length) := Lib.hid hm
      have hm32 : m ≤ 32 := by rw [HM.out]; exact HROW.out i
      rw [← hm] at hc
      clear hm
      by_cases hgt : k < m
      · have hgi : (k : Int) < (m : Int) := by omega
        go_wp2_with fail
        go_roundw
        case rel => exact ⟨i + 1, m, by omega, by go_num, by first | rfl | go_num, hm32, Lib.hid (.inr (by rw [HM.out]; exact cls_has HOK.out HC.out (by rw [← HN.out]; exact hlt))), by first | rfl | trivial⟩
        case measure => simp [intOf]; omega
      · have hgi : ¬ (k : Int) < (m : Int) := by omega
        go_wp2_with fail
        go_roundw
        case rel => exact ⟨i + 1, k, by omega, by go_num, by first | rfl | go_num, hk, HK, by first | rfl | trivial⟩
        case measure => simp [intOf]; omega
    · obtain rfl : i = N := by omega
      go_wp2_with fail
      go_ret
      exact ⟨k, rfl, hk, HK.out, HB2.out⟩

end Go.Proofs.YtfokiijcpkhllaaDoor
