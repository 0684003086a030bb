/- Walks: the reference's least width of taking away what is left, from a table of what is known. -/
import Derived.Test.YtiooindlpinjhaaDoorBbQ39
import Derived.Test.YtiooindlpinjhaaDoorBbQ4
import Derived.Test.YtiooindlpinjhaaDoorBbQ8
import Derived.Test.YtiooindlpinjhaaDoorBbQ24
namespace Go.Proofs.YtiooindlpinjhaaDoor
open Go.RowKit

theorem maxTw_any (x y : Int) (w : World) : Calls Tryd.prog 105 #[.int .i64 x, .int .i64 y] w fun e w' => e = .returned (.int .i64 (max x y)) ∧ w = w' := by
  by_cases h : y < x
  · have hm : Hid (max x y = x) := Lib.hid (by omega)
    go_enter Tryd.func105, Tryd.ntmps105
    go_wp2
    go_ret
    exact ⟨by rw [hm.out]; rfl, rfl⟩
  · have hm : Hid (max x y = y) := Lib.hid (by omega)
    go_enter Tryd.func105, Tryd.ntmps105
    go_wp2
    go_ret
    exact ⟨by rw [hm.out]; rfl, rfl⟩

theorem Apart.setCell {lo hi : Nat} (w : World) {b i : Nat} (h1 : lo ≤ b) (h2 : b < hi) (u : Value) : Apart lo hi w (w.setCell ⟨b, i, none⟩ u) :=
  have h := (Below.refl b w).setCell (p := ⟨b, i, none⟩) (Nat.le_refl _) u
  ⟨h.os, h.tape, h.output, h.size, fun c _ hc => Below.heap_setCell _ _ _ _ (by show c ≠ b; omega)⟩

theorem boolsOf_put (n s k : Nat) : (boolsOf n s.testBit).set k (.bool true) = boolsOf n (s ||| 2 ^ k).testBit := by
  refine List.ext_getElem (by simp [boolsOf]) fun j h1 h2 => ?_
  rw [List.getElem_set]
  by_cases e : k = j
  · rw [if_pos e]
    simp [boolsOf, testBit_put, e]
  · rw [if_neg e]
    simp [boolsOf, testBit_put, e]
theorem boolsOf_back (n : Nat) {s k : Nat} (h : s.testBit k = false) : (boolsOf n (s ||| 2 ^ k).testBit).set k (.bool false) = boolsOf n s.testBit := by
  refine List.ext_getElem (by simp [boolsOf]) fun j h1 h2 => ?_
  rw [List.getElem_set]
  by_cases e : k = j
  · rw [if_pos e]
    simp [boolsOf, ← e, h]
  · rw [if_neg e]
    simp [boolsOf, testBit_put, e]
theorem bits_half (s j : Nat) : s / 2 ^ j = 2 * (s / 2 ^ (j + 1)) + (if s.testBit j = true then 1 else 0 : Nat) := by
  rw [Nat.testBit_eq_decide_div_mod_eq, Nat.pow_succ, ← Nat.div_div_eq_div_mul]
  by_cases h : s / 2 ^ j % 2 = 1
  · rw [if_pos (by simpa using h)]; omega
  · rw [if_neg (by simpa using h)]; omega

set_option maxRecDepth 100000 in
set_option maxHeartbeats 1000000 in
theorem l10Code_any (v : Value) (n s : Nat) (hn : n ≤ 16) (hs : s < 2 ^ n) (w : World) (hg : Sl w 4 v n (boolsOf n s.testBit)) :
    Calls Tryd.prog 163 #[v] w fun e w' => e = .returned (.int .i64 (s : Int)) ∧ w = w' := by
  obtain ⟨p, c, rfl, _, _, _, hat⟩ := hg
  have HAT := Lib.hid hat
  have h16 : s < 65536 := Nat.lt_of_lt_of_le hs (Nat.pow_le_pow_right (by omega) hn)
  have H0 : Hid (s / 2 ^ n = 0) := Lib.hid (Nat.div_eq_of_lt hs)
  clear hs hat
  go_enter Tryd.func163, Tryd.ntmps163
  have hw1 : IntKind.i64.wrap ((n : Int) - 1) = (n : Int) - 1 := by rw [IntKind.wrap_i64]; omega
  go_wp2_with fail
  go_loop [3, 4] (fun q v => ∃ j : Nat, j ≤ n ∧ v = .int .i64 ((j : Int) - 1) ∧ Hid (q = .int .i64 ((s / 2 ^ j : Nat) : Int))) (fun _ v => (intOf v + 1).toNat)
  case atStart => exact ⟨n, Nat.le_refl _, rfl, Lib.hid (by rw [H0.out]; rfl)⟩
  case round =>
    clear hw1
    obtain ⟨j, hj, rfl, hq⟩ := hrel
    obtain ⟨q, hqe⟩ : ∃ q, q = s / 2 ^ j := ⟨_, rfl⟩
    have hq' := hq.out
    rw [← hqe] at hq'
    subst hq'
    have hq16 : q ≤ s := by rw [hqe]; exact Nat.div_le_self _ _
    by_cases hlt : 0 < j
    · obtain ⟨i, rfl⟩ : ∃ i, j = i + 1 := ⟨j - 1, by omega⟩
      have e1 : ((i + 1 : Nat) : Int) - 1 = (i : Int) := by omega
      rw [e1]
      obtain ⟨b, o, rfl, hc⟩ := HAT.out.cells (k := i) (by simp [boolsOf]; omega)
      have hcell : w.cell? ⟨b, o + i, none⟩ = some (.bool (s.testBit i)) := hc _ _ (boolsOf_get (by omega))
      obtain ⟨fl, hfl⟩ : ∃ fl, fl = (if s.testBit i = true then 1 else 0 : Nat) := ⟨_, rfl⟩
      have hfl1 : fl ≤ 1 := by rw [hfl]; split <;> omega
      have hst : s / 2 ^ i = 2 * q + fl := by rw [bits_half s i, hqe, hfl]
      have HST := Lib.hid hst
      have HFL := Lib.hid hfl
      have hw2 : IntKind.i64.wrap (2 * (q : Int)) = 2 * (q : Int) := by rw [IntKind.wrap_i64]; omega
      have hw3 : IntKind.i64.wrap (2 * (q : Int) + (fl : Int)) = ((2 * q + fl : Nat) : Int) := by rw [IntKind.wrap_i64]; omega
      have hw4 : IntKind.i64.wrap ((i : Int) - 1) = (i : Int) - 1 := by rw [IntKind.wrap_i64]; omega
      have FLAG : Hid (∀ w, Calls Tryd.prog 164 #[.bool (s.testBit i)] w fun e w' => e = .returned (.int .i64 (fl : Int)) ∧ w = w') := Lib.hid (fun w => by rw [hfl]; exact l1Flag_any _ w)
      generalize s.testBit i = bt at hcell FLAG
      clear hst hfl hqe hq hc HAT
      go_wp2_with (go_at_call 164; refine (FLAG.out _).mono ?_; rintro e w4 ⟨rfl, rfl⟩)
      go_round
      case rel => exact ⟨i, by omega, rfl, Lib.hid (by rw [HST.out]; congr 1)⟩
      case measure => first | (simp [intOf]; done) | (simp [intOf]; omega)
    · obtain rfl : j = 0 := by omega
      have e0 : q = s := by rw [hqe]; simp
      clear hqe hq
      subst e0
      go_wp2_with fail
      go_ret
      exact ⟨rfl, rfl⟩

/-- The table knows widths. -/
def KOk (n : Nat) (E : Nat → Nat → Bool) (N : Nat) (K : List Int) : Prop := K.length = N ∧ N = 2 ^ n ∧ ∀ c, c < N → K.getD c 0 = -1 ∨ K.getD c 0 = (twS n E c : Int)
theorem KOk.put {n N : Nat} {E : Nat → Nat → Bool} {K : List Int} (h : KOk n E N K) (c : Nat) : KOk n E N (K.set c (twS n E c : Int)) := by
  refine ⟨by rw [List.length_set]; exact h.1, h.2.1, fun d hd => ?_⟩
  by_cases e : c = d
  · subst e
    right
    have := h.1
    rw [List.getD_eq_getElem?_getD, List.getElem?_set_self (by omega)]; rfl
  · rw [List.getD_eq_getElem?_getD, List.getElem?_set_ne e, ← List.getD_eq_getElem?_getD]
    exact h.2.2 d hd
/-- The rows of those who are gone and of what is known. -/
structure LfR (w : World) (lo hi gb kb n N s : Nat) (K : List Int) : Prop where
  gone : w.ownsRow lo 4 1 (.slice (some ⟨gb, 0, none⟩) n n) n (boolsOf n s.testBit)
  known : w.ownsRow lo 2 1 (.slice (some ⟨kb, 0, none⟩) N N) N (K.map (Value.int .i64))
  ne : gb ≠ kb
  hg : gb < hi
  hk : kb < hi
  hw : hi ≤ w.heap.size
section
variable {w : World} {lo hi gb kb n N s : Nat} {K : List Int}
theorem LfR.next (h : LfR w lo hi gb kb n N s K) {w' : World} (hb : Below w.heap.size w w') : LfR w' lo hi gb kb n N s K :=
  ⟨ownsRow_below h.gone hb, ownsRow_below h.known hb, h.ne, h.hg, h.hk, Nat.le_trans h.hw hb.size⟩
theorem LfR.lows (h : LfR w lo hi gb kb n N s K) : lo ≤ gb ∧ lo ≤ kb := ⟨(h.gone.lt gb rfl).1, (h.known.lt kb rfl).1⟩
theorem LfR.mark (h : LfR w lo hi gb kb n N s K) (k : Nat) : LfR (w.setCell ⟨gb, k, none⟩ (.bool true)) lo hi gb kb n N (s ||| 2 ^ k) K := by
  refine ⟨?_, ownsRow_setCell_other h.known (a := ⟨gb, k, none⟩) (fun e => h.ne (by simpa [Value.ownBlock] using e.symm)) _, h.ne, h.hg, h.hk, by rw [World.size_setCell]; exact h.hw⟩
  have := (h.gone.stored k (.bool true)).1
  rwa [boolsOf_put] at this
theorem LfR.unmark {k : Nat} (hs : s.testBit k = false) (h : LfR w lo hi gb kb n N (s ||| 2 ^ k) K) : LfR (w.setCell ⟨gb, k, none⟩ (.bool false)) lo hi gb kb n N s K := by
  refine ⟨?_, ownsRow_setCell_other h.known (a := ⟨gb, k, none⟩) (fun e => h.ne (by simpa [Value.ownBlock] using e.symm)) _, h.ne, h.hg, h.hk, by rw [World.size_setCell]; exact h.hw⟩
  have := (h.gone.stored k (.bool false)).1
  rwa [boolsOf_back n hs] at this
theorem LfR.put (h : LfR w lo hi gb kb n N s K) (c : Nat) (z : Int) : LfR (w.setCell ⟨kb, c, none⟩ (.int .i64 z)) lo hi gb kb n N s (K.set c z) := by
  refine ⟨ownsRow_setCell_other h.gone (a := ⟨kb, c, none⟩) (fun e => h.ne (by simpa [Value.ownBlock] using e)) _, ?_, h.ne, h.hg, h.hk, by rw [World.size_setCell]; exact h.hw⟩
  rw [List.map_set]
  exact (h.known.stored c (.int .i64 z)).1
theorem LfR.sl (h : LfR w lo hi gb kb n N s K) (hn : n ≤ 16) : Sl w 4 (.slice (some ⟨gb, 0, none⟩) n n) n (boolsOf n s.testBit) := Sl.of_owns h.gone (by omega)
end

/-- What l10From hands back. -/
def LfEnd (w w' : World) (lo hi gb kb n N s : Nat) (E : Nat → Nat → Bool) : Prop := ∃ K', KOk n E N K' ∧ LfR w' lo hi gb kb n N s K' ∧ Apart lo hi w w'
set_option maxRecDepth 100000 in
set_option maxHeartbeats 8000000 in
theorem l10From_any (v : Value) (g : List (List Int)) (hok : GOk g) (lo hi gb kb N : Nat) (hN : N = 2 ^ g.length) (W : World) (hWs : W.heap.size ≤ lo) (hg : Gr W v g) : ∀ (r s : Nat) (K : List Int) (w : World), (freeS g.length s).length = r → s < N →
    KOk g.length (ofG g) N K → LfR w lo hi gb kb g.length N s K → Below W.heap.size W w →
    Calls Tryd.prog 151 #[v, .slice (some ⟨gb, 0, none⟩) g.length g.length, .slice (some ⟨kb, 0, none⟩) N N] w fun e w' => e = .returned (.int .i64 (twS g.length (ofG g) s : Int)) ∧ LfEnd w w' lo hi gb kb g.length N s (ofG g) := by
  have h16 := hok.le
  have HG := Lib.hid hg
  have HOK := Lib.hid hok
  obtain ⟨gu, rfl, hr⟩ := hg
  obtain ⟨p, c, rfl, _⟩ := hr.shape
  have hN16 : N ≤ 65536 := by rw [hN]; exact Nat.le_trans (Nat.pow_le_pow_right (by omega) h16) (Nat.le_refl _)
  have HN := Lib.hid hN
  clear hr hN hok
  intro r
  induction r using Nat.strongRecOn with
  | ind r IH =>
  intro s K w hfr hs hK hR hB
  have IH := Lib.hid IH
  have HFR := Lib.hid hfr
  have HK := Lib.hid hK
  obtain ⟨W0, hW0⟩ : ∃ W0, W0 = w.alloc (.cells #[.slice p g.length c] 28) := ⟨_, rfl⟩
  have hb0 : Below w.heap.size w W0 := by rw [hW0]; exact below_alloc _ _
  have HB0 := Lib.hid hb0
  have HBG : Hid (Box W0 w.heap.size 28 (.slice p g.length c)) := Lib.hid (by rw [hW0]; exact Box.new _ _ _)
  have SZ0 : Hid (W0.heap.size = w.heap.size + 1) := Lib.hid (by rw [hW0, size_alloc])
  have HR0 := Lib.hid (hR.next hb0)
  have HBW : Hid (Below W.heap.size W W0) := Lib.hid (hB.trans (hb0.mono hB.size))
  have hiw := hR.hw
  have hcell : W0.cell? ⟨kb, s, none⟩ = some (.int .i64 (K.getD s 0)) := by
    have h1 := hK.1
    rw [HR0.out.known.cellAt s (by omega)]
    simp [h1, hs]
  have HKS := Lib.hid (hK.2.2 s hs)
  have HSN : Hid (s < 2 ^ g.length) := Lib.hid (by rw [← HN.out]; exact hs)
  clear hfr hK hR hB hb0
  go_enter Tryd.func151, Tryd.ntmps151
  go_upto_region 1 with fail
  rw [← hW0]
  clear hW0
  go_upto_region 2 with (go_at_call 163; refine (l10Code_any _ g.length s h16 HSN.out _ (HR0.out.sl h16)).mono ?_; rintro e w1 ⟨rfl, rfl⟩)
  by_cases hkn : 0 ≤ K.getD s 0
  · have HV : Hid (K.getD s 0 = (twS g.length (ofG g) s : Int)) := Lib.hid (HKS.out.resolve_left (by omega))
    generalize K.getD s 0 = ks at hcell hkn HV
    go_wp2_with fail
    go_ret
    exact ⟨by rw [← HV.out]; rfl, K, HK.out, HR0.out, Apart.of_below HB0.out⟩
  · generalize K.getD s 0 = ks at hcell hkn
    clear HKS
    go_wp2_with fail
    go_loopw [8, 9] (fun bv kv wr => ∃ (k : Nat) (K : List Int) (mo : Int), k ≤ g.length ∧ kv = .int .i64 k ∧ bv = .int .i64 mo ∧ Hid (mo = minO (((List.range k).filter fun v => !s.testBit v).map (valS g.length (ofG g) s))) ∧ -1 ≤ mo ∧ mo ≤ 16 ∧
      Hid (KOk g.length (ofG g) N K) ∧ Hid (LfR wr lo hi gb kb g.length N s K) ∧ Hid (Apart lo hi W0 wr)) (fun _ kv _ => g.length - (intOf kv).toNat)
    case atStart => exact ⟨0, K, -1, Nat.zero_le _, rfl, rfl, Lib.hid rfl, by omega, by omega, HK, HR0, Lib.hid (Apart.refl _ _ _)⟩
    case round =>
      clear hcell hkn HK HR0
      obtain ⟨k, K, mo, hk, rfl, rfl, HMO, hmo1, hmo2, HK, HR, HAP⟩ := hrel
      have HBr := Lib.hid (HBG.out.apart HAP.out (by omega))
      have hcg := HBr.out.cell
      have HBWr : Hid (Below W.heap.size W wr) := Lib.hid (HBW.out.trans ((HAP.out.below (by have := SZ0.out; have := HR.out.lows; have := HR.out.hg; omega)).mono hWs))
      have HGr := Lib.hid (HG.out.below HBWr.out)
      by_cases hlt : k < g.length
      · have hcb : wr.cell? ⟨gb, k, none⟩ = some (.bool (s.testBit k)) := by
          rw [HR.out.gone.cellAt k (by omega)]; exact boolsOf_get hlt
        have hfz := HR.out.gone.frozenAt k
        cases hsk : s.testBit k with
        | true =>
          have HFL : Hid (((List.range (k + 1)).filter fun v => !s.testBit v) = (List.range k).filter fun v => !s.testBit v) := Lib.hid (by rw [List.range_succ, List.filter_append]; simp [hsk])
          rw [hsk] at hcb
          clear hsk
          go_wp2_with (go_at_call 75; refine (l1Size_any _ g _ HGr.out).mono ?_; rintro e w2 ⟨rfl, hb2⟩; have hcb2 := hb2.at' hcb; have HR2 := Lib.hid (HR.out.next hb2); have HAP2 := Lib.hid (HAP.out.trans (Apart.of_below hb2)); clear hb2)
          go_roundw
          case rel => exact ⟨k + 1, K, mo, by omega, by go_num, rfl, Lib.hid (by rw [HFL.out]; exact HMO.out), hmo1, hmo2, HK, HR2, HAP2⟩
          case measure => simp [intOf]; omega
        | false =>
          have HSK := Lib.hid hsk
          have hkf : k ∈ freeS g.length s := mem_freeS.2 ⟨hlt, hsk⟩
          have hput := freeS_put hkf
          have HVAL : Hid (minO (((List.range (k + 1)).filter fun v => !s.testBit v).map (valS g.length (ofG g) s)) = stepO mo (valS g.length (ofG g) s k)) := Lib.hid (by
            rw [List.range_succ, List.filter_append, HMO.out]
            have : ([k].filter fun v => !s.testBit v) = [k] := by simp [hsk]
            rw [this, List.map_append, List.map_singleton, minO_snoc])
          obtain ⟨bl, hbl⟩ : ∃ bl, bl = (behS g.length (ofG g) s k).length := ⟨_, rfl⟩
          obtain ⟨tw, htw⟩ : ∃ tw, tw = twS g.length (ofG g) (s ||| 2 ^ k) := ⟨_, rfl⟩
          have HVL : Hid (valS g.length (ofG g) s k = max bl tw) := Lib.hid (by unfold valS; rw [hbl, htw])
          have hbl16 : bl ≤ 16 := by rw [hbl]; exact Nat.le_trans (behS_le _ _ _ _) h16
          have htw16 : tw ≤ 16 := by rw [htw]; exact Nat.le_trans (twS_le _ _ _ _ rfl) h16
          have hs2 : s ||| 2 ^ k < N := by rw [HN.out]; exact Nat.or_lt_two_pow HSN.out (Nat.pow_lt_pow_right (by omega) hlt)
          have HS2 := Lib.hid hs2
          have hcall : ∀ (K : List Int) (w : World), KOk g.length (ofG g) N K → LfR w lo hi gb kb g.length N (s ||| 2 ^ k) K → Below W.heap.size W w →
              Calls Tryd.prog 151 #[.agg #[.slice p g.length c], .slice (some ⟨gb, 0, none⟩) g.length g.length, .slice (some ⟨kb, 0, none⟩) N N] w fun e w' => e = .returned (.int .i64 (tw : Int)) ∧ LfEnd w w' lo hi gb kb g.length N (s ||| 2 ^ k) (ofG g) := fun K w h1 h2 h3 => by
            rw [htw]
            exact IH.out _ (by have := HFR.out; omega) _ K w rfl hs2 h1 h2 h3
          have HCALL := Lib.hid hcall
          have hbeh : ∀ w, Below W.heap.size W w → (∀ K, LfR w lo hi gb kb g.length N s K → Calls Tryd.prog 113 #[.agg #[.slice p g.length c], .slice (some ⟨gb, 0, none⟩) g.length g.length, .int .i64 (k : Int)] w fun e w' => ∃ p c, e = .returned (.slice p bl c) ∧ Below w.heap.size w w') := fun w h1 K h2 => by
            rw [hbl]
            exact l10Behind_any _ _ _ g s k rfl HOK.out hlt hsk w (HG.out.below h1) (h2.sl h16)
          have HBEH := Lib.hid hbeh
          rw [hsk] at hcb
          clear hsk hkf hput hbl htw hcall hbeh hs2
          go_upto_region 10 with (first
            | (go_at_call 113; refine (HBEH.out _ (HBWr.out.trans (HB2.out.mono HBWr.out.size)) K (HR.out.next HB2.out)).mono ?_; rintro e w3 ⟨bp, bc, rfl, hb3⟩; have HB3 := Lib.hid (HB2.out.trans (hb3.mono HB2.out.size)); have hcb3 := hb3.at' hcb2; clear hb3 hcb2)
            | (go_at_call 75; refine (l1Size_any _ g _ HGr.out).mono ?_; rintro e w2 ⟨rfl, hb2⟩; have hcb2 := hb2.at' hcb; have hcg2 := hb2.at' hcg; have HB2 := Lib.hid hb2; clear hb2))
          have HR3 := Lib.hid (HR.out.next HB3.out)
          have hfz3 := HR3.out.gone.frozenAt k
          clear hfz hcb hcg hcg2
          go_upto_region 11 with fail
          obtain ⟨w4, hw4⟩ : ∃ W', W' = w3.setCell ⟨gb, k, none⟩ (.bool true) := ⟨_, rfl⟩
          rw [← hw4]
          have HR4 : Hid (LfR w4 lo hi gb kb g.length N (s ||| 2 ^ k) K) := Lib.hid (by rw [hw4]; exact HR3.out.mark k)
          have HAP4 : Hid (Apart lo hi W0 w4) := Lib.hid (HAP.out.trans ((Apart.of_below HB3.out).trans (by rw [hw4]; exact Apart.setCell _ HR3.out.lows.1 HR3.out.hg _)))
          have HBr4 := Lib.hid (HBG.out.apart HAP4.out (by omega))
          have hcg4 := HBr4.out.cell
          have HBW4 : Hid (Below W.heap.size W w4) := Lib.hid (HBW.out.trans ((HAP4.out.below (by have := SZ0.out; have := HR3.out.lows; have := HR3.out.hg; omega)).mono hWs))
          clear hw4 hcb3 hfz3 HR3 HR
          go_upto_region 12 with (first
            | (go_at_call 151; refine (HCALL.out K _ HK.out HR4.out HBW4.out).mono ?_; rintro e w5 ⟨rfl, K5, hK5, hR5, hA5⟩; have HK5 := Lib.hid hK5; have HR5 := Lib.hid hR5; have HA5 := Lib.hid hA5; clear hK5 hR5 hA5)
            | (go_at_call 105; refine (maxTw_any _ _ _).mono ?_; rintro e w6 ⟨rfl, rfl⟩))
          have hcb5 : w5.cell? ⟨gb, k, none⟩ = some (.bool true) := by
            rw [HR5.out.gone.cellAt k (by omega), boolsOf_get hlt, testBit_put]; simp
          have hfz5 := HR5.out.gone.frozenAt k
          go_upto_region 13 with fail
          obtain ⟨w6, hw6⟩ : ∃ W', W' = w5.setCell ⟨gb, k, none⟩ (.bool false) := ⟨_, rfl⟩
          rw [← hw6]
          have HR6 : Hid (LfR w6 lo hi gb kb g.length N s K5) := Lib.hid (by rw [hw6]; exact HR5.out.unmark HSK.out)
          have HAP6 : Hid (Apart lo hi W0 w6) := Lib.hid (HAP4.out.trans (HA5.out.trans (by rw [hw6]; exact Apart.setCell _ HR5.out.lows.1 HR5.out.hg _)))
          obtain ⟨z, hz⟩ : ∃ z : Nat, z = max bl tw := ⟨_, rfl⟩
          have hzi : max (bl : Int) (tw : Int) = (z : Int) := by omega
          rw [hzi]
          have hz16 : z ≤ 16 := by omega
          have HZ := Lib.hid hz
          clear hw6 hcb5 hfz5 HR5 HA5 HR4 HAP4 hcg4 HBr4 HBW4 HCALL HBEH hz hzi HB3 hbl16 htw16 HK
          by_cases c1 : mo < 0
          · go_wp2_with fail
            go_roundw
            case rel => exact ⟨k + 1, K5, z, by omega, by go_num, rfl, Lib.hid (by rw [HVAL.out, HVL.out, ← HZ.out]; unfold stepO; rw [if_pos (.inl c1)]), by omega, by omega, HK5, HR6, HAP6⟩
            case measure => simp [intOf]; omega
          · by_cases c2 : (z : Int) < mo
            · go_wp2_with fail
              go_roundw
              case rel => exact ⟨k + 1, K5, z, by omega, by go_num, rfl, Lib.hid (by rw [HVAL.out, HVL.out, ← HZ.out]; unfold stepO; rw [if_pos (.inr c2)]), by omega, by omega, HK5, HR6, HAP6⟩
              case measure => simp [intOf]; omega
            · go_wp2_with fail
              go_roundw
              case rel => exact ⟨k + 1, K5, mo, by omega, by go_num, rfl, Lib.hid (by rw [HVAL.out, HVL.out, ← HZ.out]; unfold stepO; rw [if_neg (fun h => h.elim c1 c2)]), by omega, by omega, HK5, HR6, HAP6⟩
              case measure => simp [intOf]; omega
      · obtain rfl : k = g.length := by omega
        have htwe := twS_eq g.length (ofG g) s
        have HTW : Hid (max mo 0 = (twS g.length (ofG g) s : Int)) := Lib.hid (by rw [htwe, HMO.out]; rfl)
        obtain ⟨tw, htw⟩ : ∃ tw, tw = twS g.length (ofG g) s := ⟨_, rfl⟩
        have HPUT : Hid (KOk g.length (ofG g) N (K.set s (tw : Int))) := Lib.hid (by rw [htw]; exact HK.out.put s)
        have HT := Lib.hid htw
        have hmx : max mo 0 = (tw : Int) := by rw [HTW.out, htw]
        clear htwe htw
        go_upto_region 15 with (go_at_call 75; refine (l1Size_any _ g _ HGr.out).mono ?_; rintro e w2 ⟨rfl, hb2⟩; have HR2 := Lib.hid (HR.out.next hb2); have HAP2 := Lib.hid (HAP.out.trans (Apart.of_below hb2)); clear hb2)
        have hfk := HR2.out.known.frozenAt s
        have hck : w2.cell? ⟨kb, s, none⟩ = some (.int .i64 (K.getD s 0)) := by
          have h1 := HK.out.1
          rw [HR2.out.known.cellAt s (by omega)]
          simp [h1, hs]
        have hck2 : (w2.setCell ⟨kb, s, none⟩ (.int .i64 (tw : Int))).cell? ⟨kb, s, none⟩ = some (.int .i64 (tw : Int)) := by
          have h1 := HK.out.1
          rw [(HR2.out.put s tw).known.cellAt s (by omega)]
          simp [h1, hs]
        generalize K.getD s 0 = kk at hck
        go_wp2_with (go_at_call 105; refine (maxTw_any _ _ _).mono ?_; rintro e w6 ⟨rfl, rfl⟩; rw [hmx])
        go_ret
        exact ⟨by rw [← HT.out]; rfl, _, HPUT.out, HR2.out.put s tw, (Apart.of_below HB0.out).trans (HAP2.out.trans (Apart.setCell _ HR2.out.lows.2 HR2.out.hk _))⟩

end Go.Proofs.YtiooindlpinjhaaDoor
