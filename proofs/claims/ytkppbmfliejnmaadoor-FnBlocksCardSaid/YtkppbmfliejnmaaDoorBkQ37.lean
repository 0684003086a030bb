/- Walks: blocksOf, BlocksOf, BlocksAt, TwoConnectedIn. -/
import Derived.Test.YtkppbmfliejnmaaDoorBkQ34
import Derived.Test.YtkppbmfliejnmaaDoorBkQ36
import Derived.Test.YtkppbmfliejnmaaDoorBkQ25
namespace Go.Proofs.YtkppbmfliejnmaaDoor
open Go.RowKit Go.Sort

theorem toF_bits {L : List (List Nat)} (h : ∀ l ∈ L, l.Pairwise (· < ·) ∧ ∀ y ∈ l, y < 16) : ((toF L).map fun x => bitsOf x.val) = L := by
  unfold toF
  rw [List.map_map]
  conv => rhs; rw [← List.map_id L]
  refine List.map_congr_left fun l hl => ?_
  have h1 := h l hl
  simp only [Function.comp, Nat.mod_eq_of_lt (mask_nat_lt16 h1.2), id]
  exact bitsOf_maskN h1.1 h1.2
theorem encF_bits (S : List (Fin 65536)) : S.map encF = mskV (S.map fun x => bitsOf x.val) := by
  unfold mskV mskC
  rw [List.map_map, List.map_map]
  refine List.map_congr_left fun x _ => ?_
  simp only [Function.comp, encF, u32v, mask_bitsOf x.isLt]
/-- The blocks of the first m parts of a graph. -/
noncomputable def blkAT (E : Nat → Nat → Bool) (n m : Nat) : List (List Nat) := ((ptsOf E (List.range n)).take m).flatMap fun p => blkF E n p
theorem blkAT_succ {E : Nat → Nat → Bool} {n m : Nat} {p : List Nat} (hm : m < (ptsOf E (List.range n)).length) (hp : p = (ptsOf E (List.range n))[m]) : blkAT E n (m + 1) = blkAT E n m ++ blkF E n p := by
  unfold blkAT
  rw [take_snoc' _ m hm, List.flatMap_append, ← hp]
  simp
theorem blkAT_all (E : Nat → Nat → Bool) (n : Nat) : blkAT E n (ptsOf E (List.range n)).length = blkA E n := by
  unfold blkAT blkA
  rw [List.take_length]
theorem blkAT_len {E : Nat → Nat → Bool} (hs : ∀ r j, E r j = true → E j r = true) (hirr : ∀ r, E r r = false) {n : Nat} (hn : 1 ≤ n) (m : Nat) : (blkAT E n m).length ≤ n := by
  have h1 := (blkA_ok hs hirr hn).len
  have e : blkA E n = blkAT E n m ++ ((ptsOf E (List.range n)).drop m).flatMap fun p => blkF E n p := by
    unfold blkA blkAT
    rw [← List.flatMap_append, List.take_append_drop]
  rw [e, List.length_append] at h1
  omega

set_option maxRecDepth 100000 in
set_option maxHeartbeats 4000000 in
theorem blocksOf_any (n : Nat) (E : Nat → Nat → Bool) (hs : ∀ r j, E r j = true → E j r = true) (hirr : ∀ r, E r r = false) (hn1 : 1 ≤ n) (xp : Option Addr) (xc : Nat) (w : World) (hNE : NE w (.slice xp n xc) n E) (hT : Tab w) :
    Calls Tryd.prog 172 #[.slice xp n xc] w fun e w' => ∃ (u : Value) (B : List (List Nat)), e = .returned u ∧ B.Perm (blkA E n) ∧ w'.ownsRow w.heap.size 70 1 u B.length (mskV B) ∧ Below w.heap.size w w' := by
  have HNE := Lib.hid hNE
  have HT := Lib.hid hT
  have HTP := Lib.hid hT.pos
  have n16 := hNE.le
  have HS := Lib.hid hs
  have HIR := Lib.hid hirr
  obtain ⟨M, hM⟩ : ∃ M, M = 2 ^ n - 1 := ⟨_, rfl⟩
  have hM16 : M < 65536 := by
    have h2 : 2 ^ n ≤ 2 ^ 16 := Nat.pow_le_pow_right (by decide) n16
    have h3 : (2 : Nat) ^ 16 = 65536 := by decide
    have h4 : 0 < 2 ^ n := Nat.pow_pos (by decide)
    omega
  have hMb : bitsOf M = List.range n := bits_rise List.pairwise_lt_range hM16 fun x => by rw [hM, testBit_firstOf, List.mem_range, decide_eq_true_eq]
  have ALL : Hid (∀ (wz : World), Calls Tryd.prog 106 #[.slice xp n xc] wz fun e w' => e = .returned (.int .u32 (M : Int)) ∧ wz = w') := Lib.hid fun wz => by rw [hM]; exact all_any xp n xc (by omega) wz
  obtain ⟨ps, hps⟩ : ∃ ps, ps = ptsOf E (List.range n) := ⟨_, rfl⟩
  have HPS := Lib.hid hps
  have PRTS : Hid (∀ wz, Below w.heap.size w wz → Calls Tryd.prog 212 #[.slice xp n xc, .int .u32 (M : Int)] wz fun e w' => ∃ pp pc, e = .returned (.slice pp ps.length pc) ∧ w'.ownsRow wz.heap.size 70 1 (.slice pp ps.length pc) ps.length ((mskL ps).map u32v) ∧ ps.length ≤ 32 ∧ Below wz.heap.size wz w') := Lib.hid fun wz hz => by
    refine (partsOf_any (.slice xp n xc) _ n E M rfl hM16 (fun i hi => by rw [hM, testBit_firstOf, decide_eq_true_eq] at hi; exact hi) wz (HNE.out.next hz) (HT.out.keep hz)).mono ?_
    rintro e w' ⟨ovp, ps', rfl, hp, ho, h32, _, _, hbw⟩
    rw [hMb] at hp
    obtain rfl : ps' = ps := by rw [hps]; exact parts_det hp (ptsOf_ok _ _)
    obtain ⟨pp, pc, rfl⟩ := owns_shapeC ho
    exact ⟨pp, pc, rfl, ho, h32, hbw⟩
  have HTL : Hid (∀ m, (blkAT E n m).length ≤ 16) := Lib.hid fun m => Nat.le_trans (blkAT_len hs hirr hn1 m) n16
  have HG := Lib.hid (blkA_ok hs hirr hn1)
  obtain ⟨W0, hW0⟩ : ∃ W0, W0 = w.alloc (.cells #[] 70) := ⟨_, rfl⟩
  have hb0 : Below w.heap.size w W0 := by rw [hW0]; exact below_alloc _ _
  have sz0 : W0.heap.size = w.heap.size + 1 := by rw [hW0, size_alloc]
  have HO0 : Hid (W0.ownsRow w.heap.size 70 1 (.slice (some ⟨w.heap.size, 0, none⟩) 0 0) 0 []) := Lib.hid (by rw [hW0]; exact ownsRow_empty _ _ _)
  have HB0 := Lib.hid hb0
  have heg : Hid (∀ args w, (callFunc 188 args).run Tryd.prog w = .ok (.enter 188 args) w) := Lib.hid (enters_of Tryd.func188 (by kernel_rfl) rfl)
  have h16 : ∀ l ∈ blkA E n, l.Pairwise (· < ·) ∧ ∀ y ∈ l, y < 16 := fun l hl => ⟨HG.out.ris l hl, fun y hy => by have := HG.out.sub l hl y hy; omega⟩
  obtain ⟨TT, hTT⟩ : ∃ TT, TT = toF (blkA E n) := ⟨_, rfl⟩
  have hTl : TT.length = (blkA E n).length := by rw [hTT]; simp [toF]
  have HTE : Hid (TT.map encF = mskV (blkA E n)) := Lib.hid (by rw [hTT]; exact toF_enc fun l hl => mask_nat_lt16 (h16 l hl).2)
  have HTB : Hid ((TT.map fun x => bitsOf x.val) = blkA E n) := Lib.hid (by rw [hTT]; exact toF_bits h16)
  obtain ⟨SS, hSS⟩ : ∃ SS, SS = TT.mergeSort fun x y => !ltOf cmpF y x := ⟨_, rfl⟩
  have HSP : Hid (SS.Perm TT) := Lib.hid (by rw [hSS]; exact List.mergeSort_perm _ _)
  have hTl16 : TT.length ≤ 16 := by rw [hTl]; exact Nat.le_trans HG.out.len n16
  have HTL2 := Lib.hid hTl
  have SRT : Hid (∀ (wz : World) (xv : Value), wz.ownsRow w.heap.size 70 1 xv TT.length (TT.map encF) → Tab wz → Calls Tryd.prog 111 #[xv, .func (.func 188) #[] #[]] wz fun e w' => e = .returned (.tuple #[]) ∧ w'.ownsRow w.heap.size 70 1 xv TT.length (SS.map encF) ∧ wz.grownBy w' xv.ownBlock) := Lib.hid fun wz xv h1 h2 => by
    have := sortF_any 188 heg.out cmpF swoF totF cmpOkF xv TT w.heap.size wz h1 h2 HTP.out (by omega)
    rw [hSS]
    exact this
  clear hNE hT hs hirr hM hMb hps hb0 h16 hTT hTl hSS
  go_enter Tryd.func172, Tryd.ntmps172
  go_upto_region 2 with fail
  rw [← hW0]
  clear hW0
  go_wp2_with (first
    | (go_at_call 212; refine (PRTS.out _ HB0.out).mono ?_; rintro e w1 ⟨pp, pc, rfl, hop, hp32, hbp⟩; have HOP := Lib.hid hop; have HBP := Lib.hid hbp; clear hop hbp)
    | (go_at_call 106; refine (ALL.out _).mono ?_; rintro e w2 ⟨rfl, rfl⟩))
  have hs1 := HBP.out.size
  have HB1 := Lib.hid (HB0.out.trans (HBP.out.mono HB0.out.size))
  have HO1 := Lib.hid (ownsRow_below HO0.out HBP.out)
  have HPL : Hid (∀ x, Value.ownBlock (.slice pp ps.length pc) = some x → W0.heap.size ≤ x ∧ x < w1.heap.size) := Lib.hid fun x hx => by have := HOP.out.lt x hx; omega
  go_loopw [3, 5, 12] (fun sr _ i wr => ∃ m : Nat, m ≤ ps.length ∧ i = .int .i64 (m : Int) ∧ Hid (wr.ownsRow w.heap.size 70 1 sr (blkAT E n m).length (mskV (blkAT E n m))) ∧ Hid (Below w.heap.size w wr) ∧ Hid (∀ b, sr.ownBlock = some b → b = w.heap.size ∨ w1.heap.size ≤ b) ∧ Hid (wr.ownsRow W0.heap.size 70 1 (.slice pp ps.length pc) ps.length ((mskL ps).map u32v)) ∧ w1.heap.size ≤ wr.heap.size) (fun _ _ i _ => ps.length - (intOf i).toNat)
  case atStart => exact ⟨0, Nat.zero_le _, rfl, Lib.hid (by rw [show blkAT E n 0 = [] by simp [blkAT]]; exact HO1.out), HB1, Lib.hid (fun b hb => .inl (by simpa [Value.ownBlock] using hb.symm)), HOP, Nat.le_refl _⟩
  case round =>
    clear HB1 HO1
    obtain ⟨m', hm', rfl, HOW, HBR, HFR, HPR, hsw⟩ := hrel
    by_cases hlt : m' < ps.length
    · have hki : (m' : Int) < (ps.length : Int) := by omega
      obtain ⟨p, hp⟩ : ∃ p, p = ps[m'] := ⟨_, rfl⟩
      have hpm : p ∈ ps := by rw [hp]; exact List.getElem_mem hlt
      have hpt := HPS.out ▸ hpm
      have hcp : ConnA E p := (connA_iff HS.out).2 (parts_conn (ptsOf_ok _ _) p hpt)
      have hpn : ∀ x ∈ p, x < n := fun x hx => List.mem_range.1 (parts_in (ptsOf_ok _ _) p hpt x hx)
      have hpr : p.Pairwise (· < ·) := parts_ris (ptsOf_ok _ _) List.pairwise_lt_range p hpt
      have hpl : p.length ≤ n := nodup_le n p (hpr.imp fun h => Nat.ne_of_lt h) hpn
      obtain ⟨nb, no, epp, hcell⟩ := nets_cell (a := mskL ps) (by rw [mskL_length]; exact Sl.of_owns HPR.out (by omega)) (v := m') (by rw [mskL_length]; exact hlt)
      have e1 : (mskL ps)[m']'(by rw [mskL_length]; exact hlt) = mask (natInts p) := by simp [mskL, hp]
      rw [e1] at hcell
      obtain ⟨mp, hmp⟩ : ∃ mp, mp = mask (natInts p) := ⟨_, rfl⟩
      rw [← hmp] at hcell
      have hmp16 : mp < 65536 := by rw [hmp]; exact mask_nat_lt16 fun i hi => by have := hpn i hi; omega
      have HZB : Hid (p = bitsOf mp) := Lib.hid (by rw [hmp]; exact (bitsOf_maskN hpr fun x hx => by have := hpn x hx; omega).symm)
      have HTO : Hid (blkAT E n (m' + 1) = blkAT E n m' ++ blkF E n p) := Lib.hid (by
        refine blkAT_succ (by rw [← HPS.out]; exact hlt) ?_
        rw [hp]
        congr 1)
      have htl := HTL.out m'
      have HCAP : Hid ((blkAT E n m').length + 40 * p.length ≤ 1000000) := Lib.hid (by omega)
      have ADD := Lib.hid (addBlocks_any n E HS.out HIR.out xp xc w HNE.out HT.out n p _ mp rfl hmp16 HZB.out hpn hpl hcp _ _ (blkAT E n m') HBR.out HOW.out HCAP.out)
      have hszr := HBR.out.size
      subst epp
      clear hp hpm hpt hcp hpn hpr hpl e1 hmp htl
      go_wp2_with (go_at_call 218; refine ADD.out.mono ?_; rintro e w5 ⟨v5, rfl, ho5, hg5, hf5⟩; have HO5 := Lib.hid ho5; have HG5 := Lib.hid hg5; have HF5 := Lib.hid hf5; clear ho5 hg5 hf5)
      have hs5 := HG5.out.size
      have HB5 := Lib.hid (below_grown HBR.out HOW.out HG5.out (Nat.le_refl _) hszr)
      have HPR5 := Lib.hid (HPR.out.kept HG5.out (.inr fun e => by
        obtain ⟨x, hx⟩ : ∃ x, Value.ownBlock (.slice (some ⟨nb, no, none⟩) ps.length pc) = some x := ⟨_, rfl⟩
        have h1 := HPL.out x hx
        rw [hx] at e
        rcases HFR.out x e.symm with h2 | h2 <;> omega))
      go_roundw
      case rel => exact ⟨m' + 1, by omega, by go_num, Lib.hid (by rw [HTO.out]; exact HO5.out), HB5, Lib.hid (fun b hb => (HF5.out b hb).elim (HFR.out b) fun h => .inr (by omega)), HPR5, by omega⟩
      case measure => simp [intOf]; omega
    · obtain rfl : m' = ps.length := by omega
      have e := blkAT_all E n
      rw [← HPS.out] at e
      rw [e, ← HTE.out, ← HTL2.out] at HOW
      clear e
      go_wp2_with (go_at_call 111; refine (SRT.out _ _ HOW.out (HT.out.keep HBR.out)).mono ?_; rintro e w6 ⟨rfl, ho6, hg6⟩; have HO6 := Lib.hid ho6; have HB6 := Lib.hid (below_grown HBR.out HOW.out hg6 (Nat.le_refl _) HBR.out.size); clear ho6 hg6)
      go_ret
      refine ⟨_, SS.map fun x => bitsOf x.val, rfl, ?_, ?_, HB6.out⟩
      · have := HSP.out.map fun x => bitsOf x.val
        rw [HTB.out] at this
        exact this
      · rw [← encF_bits, List.length_map, HSP.out.length_eq]
        exact HO6.out

end Go.Proofs.YtkppbmfliejnmaaDoor
