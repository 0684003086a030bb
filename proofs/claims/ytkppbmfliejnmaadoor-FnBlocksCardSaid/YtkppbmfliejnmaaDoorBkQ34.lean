/- Walks: addBlocks. -/
import Derived.Test.YtkppbmfliejnmaaDoorBkQ21
import Derived.Test.YtkppbmfliejnmaaDoorBkQ30
import Derived.Test.YtkppbmfliejnmaaDoorBkQ33
namespace Go.Proofs.YtkppbmfliejnmaaDoor
open Go.RowKit

theorem bits_rise {l : List Nat} {s : Nat} (h : l.Pairwise (· < ·)) (hs : s < 65536) (k : ∀ x, s.testBit x = true ↔ x ∈ l) : bitsOf s = l :=
  rising_ext _ _ (bitsOf_rising _) h fun x => by rw [mem_left hs, k]
/-- The blocks of the first m parts. -/
noncomputable def blkTo (E : Nat → Nat → Bool) (k : Nat) (L : List Nat) (v m : Nat) : List (List Nat) := ((ptsOf E (L.filter fun x => x != v)).take m).flatMap fun p => blkF E k (insV L v p)
theorem blkTo_succ {E : Nat → Nat → Bool} {k : Nat} {L : List Nat} {v m : Nat} {p : List Nat} (hm : m < (ptsOf E (L.filter fun x => x != v)).length) (hp : p = (ptsOf E (L.filter fun x => x != v))[m]) : blkTo E k L v (m + 1) = blkTo E k L v m ++ blkF E k (insV L v p) := by
  unfold blkTo
  rw [take_snoc' _ m hm, List.flatMap_append, ← hp]
  simp
theorem blkTo_all (E : Nat → Nat → Bool) (k : Nat) (L : List Nat) (v : Nat) : blkTo E k L v (ptsOf E (L.filter fun x => x != v)).length = (ptsOf E (L.filter fun x => x != v)).flatMap fun p => blkF E k (insV L v p) := by
  unfold blkTo
  rw [List.take_length]
theorem blkTo_len {E : Nat → Nat → Bool} (hs : ∀ r j, E r j = true → E j r = true) (hirr : ∀ r, E r r = false) {k : Nat} {L : List Nat} (hk : L.length ≤ k + 1) (hr : L.Pairwise (· < ·)) (hc : ConnA E L) {v : Nat} {r : List Nat} (hcut : cutsL E L = v :: r) (m : Nat) : (blkTo E k L v m).length ≤ L.length := by
  have h1 := (blk_ok hs hirr (k + 1) L hk hr hc).len
  rw [blkF_cut hcut] at h1
  have h2 : (blkTo E k L v m).length ≤ ((ptsOf E (L.filter fun x => x != v)).flatMap fun p => blkF E k (insV L v p)).length := by
    have e : (ptsOf E (L.filter fun x => x != v)).flatMap (fun p => blkF E k (insV L v p)) = blkTo E k L v m ++ ((ptsOf E (L.filter fun x => x != v)).drop m).flatMap fun p => blkF E k (insV L v p) := by
      unfold blkTo
      rw [← List.flatMap_append, List.take_append_drop]
    rw [e, List.length_append]
    omega
  omega
theorem blk_step {E : Nat → Nat → Bool} (hs : ∀ r j, E r j = true → E j r = true) {L : List Nat} (hr : L.Pairwise (· < ·)) (hc : ConnA E L) {v : Nat} {r : List Nat} (hcut : cutsL E L = v :: r) : ∀ p ∈ ptsOf E (L.filter fun x => x != v), ConnA E (insV L v p) ∧ (insV L v p).length + 1 ≤ L.length := fun p hpm => by
  have hvc : CutV E L v := mem_cutsL.1 (by rw [hcut]; exact List.mem_cons_self)
  have hp := ptsOf_ok E (L.filter fun x => x != v)
  have h2 := two_parts hc.1 hvc hp
  have hone := oneC_of hs hvc.1 hp hpm
  refine ⟨hone.conn hs hc, ?_⟩
  obtain ⟨q, hqm, hne⟩ : ∃ q ∈ ptsOf E (L.filter fun x => x != v), q ≠ p := Classical.byContradiction fun k => by
    have := nodup_sub _ [p] (parts_nodup hs hp) fun q hq => List.mem_singleton.2 (Classical.byContradiction fun e => k ⟨q, hq, e⟩)
    simp only [List.length_singleton] at this
    omega
  obtain ⟨y, hy⟩ := List.exists_mem_of_ne_nil _ (parts_nil hp q hqm)
  have hyL := (oneC_of hs hvc.1 hp hqm).pin y hy
  have hn : y ∉ insV L v p := fun k => by
    rcases (mem_insV.1 k).2 with k | k
    · exact hyL.2 k
    · exact hne ((parts_at hs hp hqm hy).1.trans (parts_at hs hp hpm k).1.symm)
  have := nodup_sub (y :: insV L v p) L (List.nodup_cons.2 ⟨hn, (hr.imp fun h => Nat.ne_of_lt h).sublist List.filter_sublist⟩) fun x hx => by
    rcases List.mem_cons.1 hx with rfl | hx
    · exact hyL.1
    · exact (mem_insV.1 hx).1
  simpa using this

set_option maxRecDepth 100000 in
set_option maxHeartbeats 4000000 in
theorem addBlocks_any (n : Nat) (E : Nat → Nat → Bool) (hs : ∀ r j, E r j = true → E j r = true) (hirr : ∀ r, E r r = false) (xp : Option Addr) (xc : Nat) (wB : World) (hNE : NE wB (.slice xp n xc) n E) (hT : Tab wB) : ∀ (k : Nat) (L : List Nat) (ys : Int) (s : Nat), ys = s → s < 65536 → L = bitsOf s → (∀ i ∈ L, i < n) → L.length ≤ k → ConnA E L →
    ∀ (w : World) (ov : Value) (L0 : List (List Nat)), Below wB.heap.size wB w → w.ownsRow wB.heap.size 70 1 ov L0.length (mskV L0) → L0.length + 40 * L.length ≤ 1000000 →
    Calls Tryd.prog 218 #[.slice xp n xc, .int .u32 ys, ov] w fun e w' => ClR wB (L0 ++ blkF E k L) w ov e w' := by
  intro k
  have HNE := Lib.hid hNE
  have HT := Lib.hid hT
  have n16 := hNE.le
  have HS := Lib.hid hs
  have HIR := Lib.hid hirr
  clear hNE hT hs hirr
  induction k with
  | zero => intro L _ _ _ _ _ _ h hc; exact absurd (List.eq_nil_of_length_eq_zero (Nat.le_zero.1 h)) hc.1
  | succ k ih =>
    rintro L _ s rfl hs16 hle hlt hk hc w ov L0 hbel hown hcap
    have IH := Lib.hid ih
    have hr : L.Pairwise (· < ·) := by rw [hle]; exact bitsOf_rising s
    have HR := Lib.hid hr
    have HC := Lib.hid hc
    have HLE := Lib.hid hle
    have HLT := Lib.hid hlt
    have HBEL := Lib.hid hbel
    have HOWN := Lib.hid hown
    have hsz := hbel.size
    have hl16 : L.length ≤ 16 := by rw [hle]; exact left16 (n := 16) (Nat.le_refl _) rfl (fun j hj => by have := hlt j (hle ▸ hj); omega)
    have HSN : Hid (∀ i, s.testBit i = true → i < n) := Lib.hid fun i hi => hlt i (by rw [hle]; exact (mem_left hs16).2 hi)
    have CUTS : Hid (∀ wz, Below wB.heap.size wB wz → Calls Tryd.prog 173 #[.slice xp n xc, .int .u32 (s : Int)] wz fun e w' => ∃ m : Nat, e = .returned (.int .u32 (m : Int)) ∧ m < 65536 ∧ bitsOf m = cutsL E L ∧ Below wz.heap.size wz w') := Lib.hid fun wz hz => by
      refine (cutVertices_any (.slice xp n xc) _ n E s rfl hs16 HSN.out wz (HNE.out.next hz) (HT.out.keep hz)).mono ?_
      rintro e w' ⟨m, rfl, hm, hb, _, hbw⟩
      refine ⟨m, rfl, hm, ?_, hbw⟩
      refine bits_rise (List.Pairwise.filter _ HR.out) hm fun x => ?_
      rw [hb, mem_cutsL, HLE.out]
    clear ih hr hc hbel hown
    cases hcut : cutsL E L with
    | nil =>
      have HCUT := Lib.hid hcut
      have hownZ := HOWN.out
      have hcap2 : L0.length < 1000000000 := by omega
      have HMS : Hid (mask (natInts L) = s) := Lib.hid (by rw [hle, mask_bitsOf hs16])
      have CUT0 : Hid (∀ wz, Below wB.heap.size wB wz → Calls Tryd.prog 173 #[.slice xp n xc, .int .u32 (s : Int)] wz fun e w' => e = .returned (.int .u32 0) ∧ Below wz.heap.size wz w') := Lib.hid fun wz hz => by
        refine (CUTS.out wz hz).mono ?_
        rintro e w' ⟨m, rfl, hm, hb, hbw⟩
        rw [HCUT.out] at hb
        have : m = 0 := by rw [← mask_bitsOf hm, hb]; rfl
        rw [this]
        exact ⟨rfl, hbw⟩
      clear hcut hle hlt CUTS hownZ
      go_enter Tryd.func218, Tryd.ntmps218
      go_wp2_with (first
        | (go_at_call 173; refine (CUT0.out _ HBEL.out).mono ?_; rintro e w2 ⟨rfl, hb2⟩; have hown2 := ownsRow_below HOWN.out hb2; have hsz2 := Nat.le_trans hsz hb2.size)
        | (at_builtin; refine wpList_app1 tyC_vsets rfl rfl rfl hown2 rfl rfl hcap2 hsz2 ?_; intro v' w1 hown' hg hfr))
      go_ret
      have hs2 := hb2.size
      refine ⟨v', rfl, ?_, grown_comp (grown_of_belowC hb2 ov.ownBlock) (fun b hb => .inl hb) hg, fun b hb => (hfr b hb).imp id fun h => by omega⟩
      rw [blkF_none HCUT.out, mskV_app, List.length_append]
      have e : mskV [L] = [.int .u32 (s : Int)] := by simp [mskV, mskC, HMS.out, u32v]
      rw [e]
      exact hown'
    | cons v r =>
      have HCUT := Lib.hid hcut
      have hvL : v ∈ L := (mem_cutsL.1 (by rw [hcut]; exact List.mem_cons_self)).1
      have hvn := hlt v hvL
      obtain ⟨t, ht⟩ : ∃ t, t = 2 ^ v := ⟨_, rfl⟩
      have ht16 : t < 65536 := by rw [ht]; exact pow_lt16 v (by omega)
      have HTT := Lib.hid ht
      obtain ⟨ps, hps⟩ : ∃ ps, ps = ptsOf E (L.filter fun x => x != v) := ⟨_, rfl⟩
      have HPS := Lib.hid hps
      have HSTEP := Lib.hid (blk_step HS.out HR.out HC.out hcut)
      have HTL : Hid (∀ m, (blkTo E k L v m).length ≤ 16) := Lib.hid fun m => Nat.le_trans (blkTo_len HS.out HIR.out hk HR.out HC.out hcut m) hl16
      obtain ⟨q, hq⟩ : ∃ q, q = sub s t := ⟨_, rfl⟩
      have hq16 : q < 65536 := by rw [hq]; exact sub_lt16 _ _ hs16
      have hand : bits BinOp.andNot IntKind.u32 (s : Int) (t : Int) = (q : Int) := by rw [hq]; exact u32_andNot_nat s t (by omega) (by omega)
      have hqb : bitsOf q = L.filter fun x => x != v := bits_rise (List.Pairwise.filter _ HR.out) hq16 fun x => by
        rw [hq, testBit_sub _ _ (by omega) (by omega), ht, Nat.testBit_two_pow, List.mem_filter, HLE.out, mem_left hs16]
        simp only [Bool.and_eq_true, Bool.not_eq_true', decide_eq_false_iff_not, bne_iff_ne, ne_eq]
        exact and_congr Iff.rfl ⟨fun h e => h e.symm, fun h e => h e.symm⟩
      have PRTS : Hid (∀ wz, Below wB.heap.size wB wz → Calls Tryd.prog 212 #[.slice xp n xc, .int .u32 (q : Int)] wz fun e w' => ∃ pp pc, e = .returned (.slice pp ps.length pc) ∧ w'.ownsRow wz.heap.size 70 1 (.slice pp ps.length pc) ps.length ((mskL ps).map u32v) ∧ ps.length ≤ 32 ∧ Below wz.heap.size wz w') := Lib.hid fun wz hz => by
        refine (partsOf_any (.slice xp n xc) _ n E q rfl hq16 (fun i hi => by
          have h1 := (mem_left hq16).2 hi
          rw [hqb] at h1
          exact hlt i (List.mem_filter.1 h1).1) wz (HNE.out.next hz) (HT.out.keep hz)).mono ?_
        rintro e w' ⟨ovp, ps', rfl, hp, ho, h32, _, _, hbw⟩
        rw [hqb] at hp
        obtain rfl : ps' = ps := by rw [hps]; exact parts_det hp (ptsOf_ok _ _)
        obtain ⟨pp, pc, rfl⟩ := owns_shapeC ho
        exact ⟨pp, pc, rfl, ho, h32, hbw⟩
      have CUT0 : Hid (∀ wz, Below wB.heap.size wB wz → Calls Tryd.prog 173 #[.slice xp n xc, .int .u32 (s : Int)] wz fun e w' => ∃ m : Nat, e = .returned (.int .u32 (m : Int)) ∧ m < 65536 ∧ m ≠ 0 ∧ Lib.ctz 32 m = v ∧ Below wz.heap.size wz w') := Lib.hid fun wz hz => by
        refine (CUTS.out wz hz).mono ?_
        rintro e w' ⟨m, rfl, hm, hb, hbw⟩
        rw [HCUT.out] at hb
        have h0 : m ≠ 0 := fun e => by rw [e, bitsOf_zero] at hb; cases hb
        have := bitsOf_step m h0 (by omega)
        rw [hb] at this
        simp only [List.cons.injEq] at this
        exact ⟨m, rfl, hm, h0, this.1.symm, hbw⟩
      have PONE : Hid (∀ w, Calls Tryd.prog 156 #[.int .i64 (v : Int)] w fun e w' => e = .returned (.int .u32 (t : Int)) ∧ w = w') := Lib.hid (fun w => by rw [ht]; exact one_any (v : Int) v rfl (by omega) w)
      clear hcut hle hlt CUTS ht hps hq hqb hvL
      go_enter Tryd.func218, Tryd.ntmps218
      go_wp2_with (first
        | (go_at_call 212; refine (PRTS.out _ (HBEL.out.trans (HB2.out.mono hsz))).mono ?_; rintro e w1 ⟨pp, pc, rfl, hop, hp32, hbp⟩; have HOP := Lib.hid hop; have HBP := Lib.hid hbp; clear hop hbp)
        | (go_at_call 156; refine (PONE.out _).mono ?_; rintro e w4 ⟨rfl, rfl⟩)
        | (go_at_call 185; refine (least_any _ m rfl hm0 (by omega) _ (HT.out.keep (HBEL.out.trans (HB2.out.mono hsz)))).mono ?_; rintro e w3 ⟨he, rfl⟩; rw [HMV.out] at he; subst he)
        | (go_at_call 173; refine (CUT0.out _ HBEL.out).mono ?_; rintro e w2 ⟨m, rfl, hm16, hm0, hmv, hb2⟩; have HMV := Lib.hid hmv; have HB2 := Lib.hid hb2; have hmz : ((m : Int) == 0) = false := (by simp; omega); clear hmv hb2))
      have hs2 := HB2.out.size
      have hs1 := HBP.out.size
      have HG1 : Hid (w.grownBy w1 ov.ownBlock) := Lib.hid (grown_of_belowC (HB2.out.trans (HBP.out.mono hs2)) ov.ownBlock)
      have HO1 := Lib.hid (ownsRow_below (ownsRow_below HOWN.out HB2.out) HBP.out)
      have HPL : Hid (∀ x, Value.ownBlock (.slice pp ps.length pc) = some x → w.heap.size ≤ x ∧ x < w1.heap.size) := Lib.hid fun x hx => by have := HOP.out.lt x hx; omega
      go_loopw [2, 10, 29] (fun sr _ i wr => ∃ m : Nat, m ≤ ps.length ∧ i = .int .i64 (m : Int) ∧ Hid (wr.ownsRow wB.heap.size 70 1 sr (L0 ++ blkTo E k L v m).length (mskV (L0 ++ blkTo E k L v m))) ∧ Hid (w.grownBy wr ov.ownBlock) ∧ Hid (∀ b, sr.ownBlock = some b → ov.ownBlock = some b ∨ w1.heap.size ≤ b) ∧ Hid (wr.ownsRow w2.heap.size 70 1 (.slice pp ps.length pc) ps.length ((mskL ps).map u32v)) ∧ w1.heap.size ≤ wr.heap.size) (fun _ _ i _ => ps.length - (intOf i).toNat)
      case atStart => exact ⟨0, Nat.zero_le _, rfl, Lib.hid (by rw [show blkTo E k L v 0 = [] by simp [blkTo], List.append_nil]; exact HO1.out), HG1, Lib.hid fun b hb => .inl hb, HOP, Nat.le_refl _⟩
      case round =>
        clear HG1 HO1
        obtain ⟨m', hm', rfl, HOW, HGR, HFR, HPR, hsw⟩ := hrel
        have hszr := HGR.out.size
        have HBR := Lib.hid (below_grown HBEL.out HOWN.out HGR.out (Nat.le_refl _) hsz)
        by_cases hlt : m' < ps.length
        · have hki : (m' : Int) < (ps.length : Int) := by omega
          obtain ⟨p, hp⟩ : ∃ p, p = ps[m'] := ⟨_, rfl⟩
          have hpm : p ∈ ps := by rw [hp]; exact List.getElem_mem hlt
          have hpt := HPS.out ▸ hpm
          obtain ⟨hcp, hlp⟩ := HSTEP.out p hpt
          have hpin : ∀ x ∈ p, x ∈ L := fun x hx => (List.mem_filter.1 (parts_in (ptsOf_ok _ _) p hpt x hx)).1
          obtain ⟨nb, no, epp, hcell⟩ := nets_cell (a := mskL ps) (by rw [mskL_length]; exact Sl.of_owns HPR.out (by omega)) (v := m') (by rw [mskL_length]; exact hlt)
          have e1 : (mskL ps)[m']'(by rw [mskL_length]; exact hlt) = mask (natInts p) := by simp [mskL, hp]
          rw [e1] at hcell
          obtain ⟨mp, hmp⟩ : ∃ mp, mp = mask (natInts p) := ⟨_, rfl⟩
          rw [← hmp] at hcell
          have hmp16 : mp < 65536 := by rw [hmp]; exact mask_nat_lt16 fun i hi => by have := HLT.out i (hpin i hi); omega
          have hor := u32_or_nat mp t (by omega) (by omega)
          obtain ⟨z, hz⟩ : ∃ z, z = mp ||| t := ⟨_, rfl⟩
          rw [← hz] at hor
          have hz16 : z < 65536 := by rw [hz]; exact or_lt16 _ _ hmp16 ht16
          have hzb : insV L v p = bitsOf z := (bits_rise (l := insV L v p) (List.Pairwise.filter _ HR.out) hz16 fun x => by
            rw [hz, Nat.testBit_or, Bool.or_eq_true, hmp, mask_bit, decide_eq_true_iff, HTT.out, Nat.testBit_two_pow, decide_eq_true_iff, mem_insV]
            constructor
            · rintro (h | h)
              · exact ⟨hpin x h, .inr h⟩
              · have hvm : v ∈ L := (mem_cutsL.1 (by rw [HCUT.out]; exact List.mem_cons_self)).1
                exact ⟨h ▸ hvm, .inl h.symm⟩
            · rintro ⟨_, h | h⟩
              · exact .inr h.symm
              · exact .inl h).symm
          have HIN : Hid (∀ i ∈ insV L v p, i < n) := Lib.hid fun i hi => HLT.out i (mem_insV.1 hi).1
          have HZB := Lib.hid hzb
          have HCP := Lib.hid hcp
          have HOR := Lib.hid hor
          have HPM : Hid (p = ps[m']) := Lib.hid hp
          have HTO : Hid (blkTo E k L v (m' + 1) = blkTo E k L v m' ++ blkF E k (insV L v p)) := Lib.hid (by
            refine blkTo_succ (by rw [← HPS.out]; exact hlt) ?_
            rw [hp]
            congr 1)
          have htl := HTL.out m'
          have HCAP : Hid ((L0 ++ blkTo E k L v m').length + 40 * (insV L v p).length ≤ 1000000) := Lib.hid (by rw [List.length_append]; omega)
          have hlk : (insV L v p).length ≤ k := by omega
          have HLK := Lib.hid hlk
          have hpp := epp
          subst hpp
          clear hp hpm hpt hcp hpin e1 hmp hz hzb hlk hlp htl epp hor
          go_wp2_with (go_at_call 218; refine (IH.out (insV L v p) _ z HOR.out hz16 HZB.out HIN.out HLK.out HCP.out _ _ (L0 ++ blkTo E k L v m') HBR.out HOW.out HCAP.out).mono ?_; rintro e w5 ⟨v5, rfl, ho5, hg5, hf5⟩; have HO5 := Lib.hid ho5; have HG5 := Lib.hid hg5; have HF5 := Lib.hid hf5; clear ho5 hg5 hf5)
          have hs5 := HG5.out.size
          have HPR5 := Lib.hid (HPR.out.kept HG5.out (.inr fun e => by
            obtain ⟨x, hx⟩ : ∃ x, Value.ownBlock (.slice (some ⟨nb, no, none⟩) ps.length pc) = some x := ⟨_, rfl⟩
            have h1 := HPL.out x hx
            rw [hx] at e
            rcases HFR.out x e.symm with h2 | h2
            · have := (HOWN.out.lt x h2).2
              omega
            · omega))
          go_roundw
          case rel => exact ⟨m' + 1, by omega, by go_num, Lib.hid (by rw [HTO.out, ← List.append_assoc]; exact HO5.out), Lib.hid (grown_comp HGR.out (fun x hx => (HFR.out x hx).imp (fun h => h) fun h => by omega) HG5.out), Lib.hid (fun b hb => (HF5.out b hb).elim (HFR.out b) fun h => .inr (by omega)), HPR5, by omega⟩
          case measure => simp [intOf]; omega
        · obtain rfl : m' = ps.length := by omega
          go_wp2_with fail
          go_ret
          refine ⟨_, rfl, ?_, HGR.out, fun b hb => (HFR.out b hb).imp id fun h => by omega⟩
          have e := blkTo_all E k L v
          rw [← HPS.out] at e
          rw [blkF_cut HCUT.out, ← HPS.out, ← e]
          exact HOW.out

end Go.Proofs.YtkppbmfliejnmaaDoor
