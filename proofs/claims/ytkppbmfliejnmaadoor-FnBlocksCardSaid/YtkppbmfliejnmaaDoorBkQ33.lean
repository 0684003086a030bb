/- Walks: growCliques. -/
import Derived.Test.YtkppbmfliejnmaaDoorBkQ32
import Derived.Test.YtkppbmfliejnmaaDoorBkQ9
import Derived.Test.YtkppbmfliejnmaaDoorBkQ12
import Derived.Deep.RegionHeld3
import Derived.Deep.DeepCutAuto
namespace Go.Proofs.YtkppbmfliejnmaaDoor
open Go.RowKit

def adG (g : List (List Int)) : Nat → Nat → Bool := fun r j => decide ((j : Int) ∈ row g r)
/-- What stands below: the nets of a right graph. -/
structure ClBase (wB : World) (g : List (List Int)) (xp : Option Addr) (xc : Nat) : Prop where
  ok : GOk g
  sl : Sl wB 70 (.slice xp g.length xc) g.length ((netL g).map u32v)
  tab : Tab wB

theorem tyC_vsets : SlTy Tryd.prog 72 70 (.int .u32 0) 1 4 := ⟨Tryd.underlying72, by kernel_rfl, rfl, by decide, by decide⟩
def mskC (ps : List (List Nat)) : List Nat := ps.map fun l => mask (natInts l)
def mskV (L : List (List Nat)) : List Value := (mskC L).map u32v
theorem mskV_app (L M : List (List Nat)) : mskV (L ++ M) = mskV L ++ mskV M := by simp [mskV, mskC]
theorem mskV_length (L : List (List Nat)) : (mskV L).length = L.length := by simp [mskV, mskC]

theorem owns_shapeC {w : World} {base : Nat} {E : TypeId} {size n : Nat} {v : Value} {xs : List Value} (h : w.ownsRow base E size v n xs) : ∃ p c, v = .slice p n c := by
  rcases h.2 with ⟨rfl, h0⟩ | ⟨b, c, _, rfl, _⟩
  · exact ⟨none, 0, by rw [h0]⟩
  · exact ⟨_, _, rfl⟩
theorem left16 {n o : Nat} (hn : n ≤ 16) {left : List Nat} (h : left = bitsOf o) (hl : ∀ j ∈ left, j < n) : left.length ≤ 16 := by
  by_cases he : left = []
  · rw [he]; simp
  · have := rising_room (lo := 0) (n := n) (h ▸ bitsOf_rising o) (fun x hx => ⟨Nat.zero_le _, hl x hx⟩) he
    omega
theorem grown_comp {a b c : World} {r0 : Option Nat} {so : Value} (h : a.grownBy b r0) (hf : ∀ x, so.ownBlock = some x → r0 = some x ∨ a.heap.size ≤ x) (k : b.grownBy c so.ownBlock) : a.grownBy c r0 :=
  ⟨k.os.trans h.os, k.tape.trans h.tape, k.output.trans h.output, Nat.le_trans h.size k.size, fun i hi hr => (k.block i (Nat.lt_of_lt_of_le hi h.size) fun e => by
    rcases hf i e.symm with h1 | h1
    · exact hr h1.symm
    · omega).trans (h.block i hi hr)⟩
theorem grown_of_belowC {a b : World} (h : Below a.heap.size a b) (r : Option Nat) : a.grownBy b r := ⟨h.os, h.tape, h.output, h.size, fun k hk _ => h.block k hk⟩
theorem adG_bit {g : List (List Int)} (hg : GOk g) {v : Nat} (hv : v < g.length) (j : Nat) : ((netL g).getD v 0).testBit j = true ↔ adG g v j = true := by
  rw [netL_getD, testBit_row hg hv, adG, decide_eq_true_iff]
theorem adG_irr {g : List (List Int)} (hg : GOk g) {v : Nat} (hv : v < g.length) : adG g v v = false := by
  rw [adG, decide_eq_false_iff_not]
  exact (hg.sets v hv).2
/-- What growCliques leaves. -/
def ClR (wB : World) (L : List (List Nat)) (w : World) (ov : Value) (e : Ending) (w' : World) : Prop :=
  ∃ v', e = .returned v' ∧ w'.ownsRow wB.heap.size 70 1 v' L.length (mskV L) ∧ w.grownBy w' ov.ownBlock ∧ ∀ b, v'.ownBlock = some b → ov.ownBlock = some b ∨ w.heap.size ≤ b

set_option maxRecDepth 100000 in
set_option maxHeartbeats 4000000 in
theorem growCliques_any (g : List (List Int)) (xp : Option Addr) (xc : Nat) (wB : World) (hB : ClBase wB g xp xc) : ∀ (k : Nat) (set left out : List Nat) (yc yo ys : Int) (c o s : Nat), yc = c → yo = o → ys = s → c < 65536 → o < 65536 → s < 65536 →
    (∀ j, c.testBit j = true ↔ j ∈ set) → left = bitsOf o → (∀ j ∈ left, j < g.length) → (∀ j, s.testBit j = true ↔ j ∈ out) → left.length < k →
    ∀ (w : World) (ov : Value) (L0 : List (List Nat)), Below wB.heap.size wB w → w.ownsRow wB.heap.size 70 1 ov L0.length (mskV L0) → L0.length + 2 ^ left.length ≤ 1000000 →
    Calls Tryd.prog 187 #[.slice xp g.length xc, .int .u32 yc, .int .u32 yo, .int .u32 ys, ov] w fun e w' => ClR wB (L0 ++ clF (adG g) k set left out) w ov e w' := by
  intro k
  have HB := Lib.hid hB
  have h16 := hB.ok.le
  clear hB
  induction k with
  | zero => intro _ _ _ _ _ _ _ _ _ _ _ _ _ _ _ _ _ _ _ h; exact absurd h (Nat.not_lt_zero _)
  | succ k ih =>
    rintro set left out _ _ _ c o s rfl rfl rfl hc16 ho16 hs16 hcs hle hlt hso hk w ov L0 hbel hown hcap
    have IH := Lib.hid ih
    have HCS := Lib.hid hcs
    have HLE := Lib.hid hle
    have HLT := Lib.hid hlt
    have HSO := Lib.hid hso
    have HBEL := Lib.hid hbel
    have HOWN := Lib.hid hown
    have hsz := hbel.size
    clear ih hcs hle hlt hso hbel hown
    by_cases h0 : o = 0
    · have hl0 : Hid (left = []) := Lib.hid (by rw [HLE.out, h0, bitsOf_zero])
      by_cases hs0 : s = 0
      · have ho0 : Hid (out = []) := Lib.hid (by
          refine List.eq_nil_iff_forall_not_mem.2 fun j hj => ?_
          have := (HSO.out j).2 hj
          rw [hs0] at this
          simp at this)
        subst h0 hs0
        have HC : Hid (mask (natInts set) = c) := Lib.hid (Nat.eq_of_testBit_eq fun j => by rw [mask_bit, Bool.eq_iff_iff, decide_eq_true_iff, HCS.out])
        have hown := HOWN.out
        have hcap2 : L0.length < 1000000000 := by have := Nat.two_pow_pos left.length; omega
        go_enter Tryd.func187, Tryd.ntmps187
        go_wp2_with (at_builtin; refine wpList_app1 tyC_vsets rfl rfl rfl hown rfl rfl hcap2 hsz ?_; intro v' w1 hown' hg hfr)
        go_ret
        refine ⟨v', rfl, ?_, hg, fun b hb => (hfr b hb).imp id fun h => by omega⟩
        rw [hl0.out, ho0.out, clF_one, mskV_app, List.length_append]
        have e : mskV [set] = [.int .u32 (c : Int)] := by simp [mskV, mskC, HC.out, u32v]
        rw [e]
        exact hown'
      · have ho0 : Hid (out ≠ []) := Lib.hid (fun h => by
          refine hs0 (Nat.eq_of_testBit_eq fun j => ?_)
          rw [Nat.zero_testBit]
          refine Decidable.byContradiction fun hb => ?_
          have := (HSO.out j).1 (by simpa using hb)
          rw [h] at this
          simp at this)
        subst h0
        go_enter Tryd.func187, Tryd.ntmps187
        go_wp2
        go_ret
        refine ⟨_, rfl, ?_, World.grownBy.refl _ _, fun b hb => .inl hb⟩
        rw [hl0.out, clF_none _ _ _ _ ho0.out, List.append_nil]
        exact HOWN.out
    · have HNE : Hid (left ≠ []) := Lib.hid (fun h => h0 (by
        rw [← mask_bitsOf ho16, ← HLE.out, h]
        rfl))
      have hl32 := Lib.hid (left16 h16 HLE.out HLT.out)
      have hT := HB.out.tab.below HBEL.out HB.out.tab.pos
      have HT := Lib.hid hT
      clear hT
      go_enter Tryd.func187, Tryd.ntmps187
      go_wp2_with (go_at_call 180; refine (list_any _ o rfl (by omega) _ HT.out).mono ?_; rintro e w1 ⟨lv, rfl, ho1, hb1⟩; rw [← HLE.out] at ho1; obtain ⟨lp, lc, rfl⟩ := owns_shapeC ho1)
      have HL1 := Lib.hid (show Nums w1 3 .i64 (.slice lp left.length lc) (natInts left) from numsInt_of _ _ _ _ ho1 (by have := hl32.out; omega))
      have HG1 := Lib.hid (grown_of_belowC hb1 ov.ownBlock)
      have HO1 := Lib.hid (ownsRow_below HOWN.out hb1)
      clear ho1 hb1
      go_loopw [2, 3, 4, 25] (fun so ss sr i wr => ∃ (m oN sN : Nat), m ≤ left.length ∧ i = .int .i64 m ∧ so = .int .u32 oN ∧ ss = .int .u32 sN ∧ oN < 65536 ∧ sN < 65536 ∧ (∀ j, oN.testBit j = true ↔ j ∈ left.drop m) ∧ (∀ j, sN.testBit j = true ↔ j ∈ out ++ left.take m) ∧
        wr.ownsRow wB.heap.size 70 1 sr (L0 ++ clTo (adG g) k set left out m).length (mskV (L0 ++ clTo (adG g) k set left out m)) ∧ w.grownBy wr ov.ownBlock ∧ (∀ b, sr.ownBlock = some b → ov.ownBlock = some b ∨ w.heap.size ≤ b) ∧ Nums wr 3 .i64 (.slice lp left.length lc) (natInts left)) (fun _ _ _ i _ => left.length - (intOf i).toNat)
      case atStart =>
        refine ⟨0, o, s, Nat.zero_le _, rfl, rfl, rfl, ho16, hs16, fun j => ?_, fun j => ?_, ?_, HG1.out, fun b hb => .inl hb, HL1.out⟩
        · rw [List.drop_zero, HLE.out, mem_bitsOf' (by omega)]
        · rw [List.take_zero, List.append_nil, HSO.out]
        · rw [clTo_zero, List.append_nil]
          exact HO1.out
      case round =>
        obtain ⟨m, oN, sN, hm, rfl, rfl, rfl, hoN, hsN, hob, hsb, hown, hgr, hfr, hL⟩ := hrel
        have HOB := Lib.hid hob
        have HSB := Lib.hid hsb
        have HOW := Lib.hid hown
        have HGR := Lib.hid hgr
        have HFR := Lib.hid hfr
        have HL := Lib.hid hL
        have hszr := hgr.size
        have HBR := Lib.hid (below_grown HBEL.out HOWN.out hgr (Nat.le_refl _) hsz)
        clear hob hsb hown hgr hfr hL
        by_cases hlt : m < left.length
        · obtain ⟨_, _, e1, _, _, _, hat⟩ := HL.out.shape
          simp only [Value.slice.injEq] at e1
          obtain ⟨e1a, -, e1c⟩ := e1
          subst e1a e1c
          obtain ⟨b, o1, rfl, hcell⟩ := hat.num (k := m) (by rw [natInts_length]; exact hlt)
          rw [natInts_atL hlt] at hcell
          have HLTm := Lib.hid hlt
          have hvg := HLT.out _ (List.getElem_mem hlt)
          have hgd : Hid (left.getD m 0 = left[m]'hlt) := Lib.hid (by rw [List.getD_eq_getElem?_getD, List.getElem?_eq_getElem hlt]; rfl)
          have hdr : Hid (left.drop m = left[m]'hlt :: left.drop (m + 1)) := Lib.hid (List.drop_eq_getElem_cons hlt)
          have hris : Hid (left.Pairwise (· < ·)) := Lib.hid (HLE.out ▸ bitsOf_rising o)
          generalize hV : left[m]'hlt = v at hcell hvg
          have HV := Lib.hid hV
          clear hV hat
          obtain ⟨nb, no, rfl, hncB⟩ := nets_cell (a := netL g) (by rw [netL_lenP]; exact HB.out.sl) (v := v) (by rw [netL_lenP]; exact hvg)
          have hnc := HBR.out.at' hncB
          have hnv : Hid ((netL g).getD v 0 = (netL g)[v]'(by rw [netL_lenP]; exact hvg)) := Lib.hid (by rw [List.getD_eq_getElem?_getD, List.getElem?_eq_getElem (by rw [netL_lenP]; exact hvg)]; rfl)
          have hn16 := netL_lt HB.out.ok _ (List.getElem_mem (l := netL g) (by rw [netL_lenP]; exact hvg))
          generalize hNV : (netL g)[v]'(by rw [netL_lenP]; exact hvg) = nv at hnc hncB hn16
          have HNB := Lib.hid hncB
          have HNV := Lib.hid hNV
          obtain ⟨t, ht⟩ : ∃ t, t = 2 ^ v := ⟨_, rfl⟩
          have ht16 : t < 65536 := by rw [ht]; exact pow_lt16 v (by omega)
          have HTT := Lib.hid ht
          have hOr := Lib.hid (u32_or_nat c t (by omega) (by omega))
          have hA1 := Lib.hid (u32_and_nat oN nv (by omega) (by omega))
          have hA2 := Lib.hid (u32_and_nat sN nv (by omega) (by omega))
          have hN1 := Lib.hid (u32_andNot_nat oN t (by omega) (by omega))
          have hN2 := Lib.hid (u32_or_nat sN t (by omega) (by omega))
          clear hNV ht hncB
          have e0 : (0 : Int) ≤ (v : Int) := by omega
          have e1 : (v : Int) < (g.length : Int) := by omega
          go_upto_region 8 with fail
          go_cut [4] (fun s4 wx => wx.ownsRow wB.heap.size 70 1 s4 (L0 ++ clTo (adG g) k set left out (m + 1)).length (mskV (L0 ++ clTo (adG g) k set left out (m + 1))) ∧ wr.grownBy wx u4.ownBlock ∧ (∀ b, s4.ownBlock = some b → u4.ownBlock = some b ∨ wr.heap.size ≤ b))
          case first =>
            have hgv : Hid (left.getD m 0 = v) := Lib.hid (hgd.out.trans HV.out)
            have hbc : c ||| t < 65536 := or_lt16 _ _ hc16 ht16
            have hba1 : oN &&& nv < 65536 := and_lt16 _ _ hoN
            have hba2 : sN &&& nv < 65536 := and_lt16 _ _ hsN
            have hnb : ∀ j, nv.testBit j = true ↔ adG g v j = true := fun j => by rw [← HNV.out, ← hnv.out]; exact adG_bit HB.out.ok hvg j
            have HA : Hid (∀ j, (c ||| t).testBit j = true ↔ j ∈ set ++ [left.getD m 0]) := Lib.hid (fun j => by
              rw [Nat.testBit_or, Bool.or_eq_true, HCS.out, HTT.out, Nat.testBit_two_pow, decide_eq_true_iff, hgv.out, List.mem_append, List.mem_singleton]
              exact or_congr Iff.rfl ⟨fun h => h.symm, fun h => h.symm⟩)
            have HBB : Hid ((left.drop (m + 1)).filter (adG g (left.getD m 0)) = bitsOf (oN &&& nv)) := Lib.hid (by
              refine rising_ext _ _ ((hris.out.sublist (List.drop_sublist _ _)).filter _) (bitsOf_rising _) fun j => ?_
              rw [mem_bitsOf' (by omega), Nat.testBit_and, Bool.and_eq_true, HOB.out, hnb, List.mem_filter, hgv.out, hdr.out, List.mem_cons, HV.out]
              constructor
              · rintro ⟨h1, h2⟩
                exact ⟨.inr h1, h2⟩
              · rintro ⟨rfl | h1, h2⟩
                · rw [adG_irr HB.out.ok hvg] at h2
                  exact nomatch h2
                · exact ⟨h1, h2⟩)
            have HCC : Hid (∀ j, (sN &&& nv).testBit j = true ↔ j ∈ (out ++ left.take m).filter (adG g (left.getD m 0))) := Lib.hid (fun j => by
              rw [Nat.testBit_and, Bool.and_eq_true, HSB.out, hnb, List.mem_filter, hgv.out])
            have hflen : Hid (((left.drop (m + 1)).filter (adG g (left.getD m 0))).length ≤ left.length - (m + 1)) := Lib.hid (Nat.le_trans (List.length_filter_le _ _) (by rw [List.length_drop]; omega))
            have HCAP : Hid ((L0 ++ clTo (adG g) k set left out m).length + 2 ^ ((left.drop (m + 1)).filter (adG g (left.getD m 0))).length ≤ 1000000) := Lib.hid (by
              have h1 := clTo_len (E := adG g) (k := k) (set := set) (left := left) (out := out) (i := m) (by omega)
              have h2 := Nat.pow_le_pow_right (show 0 < 2 by decide) (show ((left.drop (m + 1)).filter (adG g (left.getD m 0))).length ≤ left.length - m by have := hflen.out; omega)
              rw [List.length_append]
              omega)
            have HSUB : Hid (∀ j ∈ (left.drop (m + 1)).filter (adG g (left.getD m 0)), j < g.length) := Lib.hid (fun j hj => HLT.out j (List.mem_of_mem_drop (List.mem_filter.1 hj).1))
            clear hnb
            go_region_held3 (fun w' => w'.cell? ⟨nb, no + v, none⟩ = some (.int .u32 nv))
              (first | go_keep | exact hnc | exact hnc4)
              (first
                | (go_at_call 187; refine (IH.out (set ++ [left.getD m 0]) ((left.drop (m + 1)).filter (adG g (left.getD m 0))) ((out ++ left.take m).filter (adG g (left.getD m 0))) _ _ _ (c ||| t) (oN &&& nv) (sN &&& nv) hOr.out hA1.out hA2.out hbc hba1 hba2 HA.out HBB.out HSUB.out HCC.out (by have := hflen.out; omega) _ u4 (L0 ++ clTo (adG g) k set left out m) (below_dN HBR.out 1) (ownsRow_below HOW.out (below_dN (Below.refl _ _) 1)) HCAP.out).mono ?_; rintro e w4 ⟨v4, rfl, ho4, hg4, hf4⟩; have BW4 : Below wB.heap.size wB w4 := below_grown (below_dN HBR.out 1) (ownsRow_below HOW.out (below_dN (Below.refl _ _) 1)) hg4 (Nat.le_refl _) (below_dN HBR.out 1).size; have hnc4 := BW4.at' HNB.out; have HO4 := Lib.hid ho4; have HG4 := Lib.hid hg4; have HF4 := Lib.hid hf4; clear ho4 hg4 hf4)
                | (go_at_call 156; refine (one_any _ v rfl (by omega) _).mono ?_; rintro e w2 ⟨he2, hw2⟩; rw [← HTT.out] at he2; subst he2; subst hw2))
            all_goals go_wp2
            all_goals go_meet
            all_goals exact ⟨by rw [clTo_succ, ← List.append_assoc]; exact HO4.out, ⟨HG4.out.os, HG4.out.tape, HG4.out.output, HG4.out.size, HG4.out.block⟩, HF4.out⟩
          case rest =>
            obtain ⟨ho4, hg4, hf4⟩ := hcut
            have HL4 := Lib.hid (Sl.other HL.out HOW.out hg4 (by decide))
            have HO4 := Lib.hid ho4
            have HG4 := Lib.hid (grown_comp HGR.out HFR.out hg4)
            have HF4 := Lib.hid (show ∀ b, _ → ov.ownBlock = some b ∨ w.heap.size ≤ b from fun b hb => (hf4 b hb).elim (HFR.out b) fun h => .inr (by omega))
            clear ho4 hg4 hf4
            have h16m := hl32.out
            go_wp2_with (go_at_call 156; refine (one_any _ v rfl (by omega) _).mono ?_; rintro e w2 ⟨he2, hw2⟩; rw [← HTT.out] at he2; subst he2; subst hw2)
            go_roundw
            case rel =>
              refine ⟨m + 1, sub oN t, sN ||| t, by omega, by go_num, by rw [hN1.out]; rfl, by rw [hN2.out], sub_lt16 _ _ hoN, or_lt16 _ _ hsN ht16, fun j => ?_, fun j => ?_, HO4.out, HG4.out, HF4.out, HL4.out⟩
              · have hdr2 := hdr.out
                rw [HV.out] at hdr2
                have hnd := (hris.out.sublist (List.drop_sublist m left))
                rw [hdr2] at hnd
                rw [testBit_sub _ _ (by omega) (by omega), Bool.and_eq_true, HOB.out, hdr2, HTT.out, Nat.testBit_two_pow, List.mem_cons]
                constructor
                · rintro ⟨h1 | h1, h2⟩
                  · rw [h1] at h2
                    simp at h2
                  · exact h1
                · intro h1
                  refine ⟨.inr h1, ?_⟩
                  have := (List.pairwise_cons.1 hnd).1 j h1
                  simp
                  omega
              · rw [Nat.testBit_or, Bool.or_eq_true, HSB.out, HTT.out, Nat.testBit_two_pow, decide_eq_true_iff, take_snoc left m HLTm.out, ← List.append_assoc, List.mem_append (t := [_]), List.mem_singleton, HV.out]
                exact or_congr Iff.rfl ⟨fun h => h.symm, fun h => h.symm⟩
            case measure => simp [intOf]; omega
        · obtain rfl : m = left.length := by omega
          go_wp2
          go_ret
          refine ⟨_, rfl, ?_, HGR.out, HFR.out⟩
          rw [clF_more _ _ _ _ _ (fun h => HNE.out h.1)]
          exact HOW.out

end Go.Proofs.YtkppbmfliejnmaaDoor
