/- Walks: the reference's search of a model: whether a word is that of a model. -/
import Derived.Test.YtfokiijcpkhllaaDoorFuQ22
import Derived.Test.YtfokiijcpkhllaaDoorFuQ13
import Derived.Test.YtfokiijcpkhllaaDoorFuQ21
namespace Go.Proofs.YtfokiijcpkhllaaDoor
open Go.RowKit

/-- The sets of a word so far, as numbers. -/
structure NumW (wd : List Nat) (m v : Nat) (S : List Nat) : Prop where
  len : S.length = m + 1
  bit : ∀ k j, (S.getD k 0).testBit j = true ↔ k ≤ m ∧ j < v ∧ wd.getD j 0 = k
theorem NumW.start (wd : List Nat) (m : Nat) : NumW wd m 0 (List.replicate (m + 1) 0) where
  len := by simp
  bit := fun k j => by
    rw [List.getD_eq_getElem?_getD, List.getElem?_replicate]
    by_cases h : k < m + 1 <;> simp [h]
theorem NumW.lt {wd : List Nat} {m v : Nat} {S : List Nat} (h : NumW wd m v S) (k : Nat) : S.getD k 0 < 2 ^ v := by
  refine Nat.lt_of_not_le fun hge => ?_
  obtain ⟨j, hj, hb⟩ := Nat.exists_ge_and_testBit_of_ge_two_pow hge
  have := ((h.bit k j).1 hb).2.1
  omega
theorem NumW.step {wd : List Nat} {m v : Nat} {S : List Nat} (h : NumW wd m v S) {x : Nat} (hx : wd.getD v 0 = x) (hm : x ≤ m) : NumW wd m (v + 1) (S.set x (S.getD x 0 + 2 ^ v)) where
  len := by rw [List.length_set, h.len]
  bit := fun k j => by
    by_cases e : x = k
    · subst e
      rw [getD_set_self _ _ _ _ (by have := h.len; omega), add_or (h.lt x), Nat.testBit_or, Nat.testBit_two_pow, Bool.or_eq_true, h.bit, decide_eq_true_eq]
      constructor
      · rintro (h1 | rfl)
        · exact ⟨h1.1, by omega, h1.2.2⟩
        · exact ⟨hm, by omega, hx⟩
      · rintro ⟨h1, h2, h3⟩
        by_cases e : v = j
        · exact .inr e
        · exact .inl ⟨h1, by omega, h3⟩
    · rw [getD_set_other _ _ _ _ _ e, h.bit]
      constructor
      · rintro ⟨h1, h2, h3⟩; exact ⟨h1, by omega, h3⟩
      · rintro ⟨h1, h2, h3⟩
        refine ⟨h1, ?_, h3⟩
        by_cases e2 : j = v
        · subst e2; exact absurd (hx.symm.trans h3) e
        · omega
theorem NumW.set {wd : List Nat} {m : Nat} {S : List Nat} (h : NumW wd m wd.length S) (h16 : wd.length ≤ 16) {k : Nat} (hk : k < m) : bitsOf (S.getD (k + 1) 0) = setW wd k := by
  have hl := h.lt (k + 1)
  have : 2 ^ wd.length ≤ 2 ^ 16 := Nat.pow_le_pow_right (by decide) h16
  refine rising_ext _ _ (bitsOf_rising _) (setW_rising _ _) fun x => ?_
  rw [mem_left (by omega), h.bit, mem_setW]
  constructor
  · rintro ⟨_, h2, h3⟩; exact ⟨h2, h3⟩
  · rintro ⟨h2, h3⟩; exact ⟨by omega, h2, h3⟩

/-- A set of the word and another, joined. -/
def JnW (E : Nat → Nat → Bool) (w : List Nat) (i : Nat) (y : Int) : Prop := ∃ x ∈ setW w i, ∃ z ∈ setW w y.toNat, E x z = true
def FitTo (E : Nat → Nat → Bool) (p : List (List Int)) (w : List Nat) (i : Nat) : Prop := ∀ a, a < i → ConnL E (setW w a) ∧ ∀ y ∈ row p a, JnW E w a y
theorem FitTo.zero (E : Nat → Nat → Bool) (p : List (List Int)) (w : List Nat) : FitTo E p w 0 := fun _ h => absurd h (by omega)
theorem FitTo.snoc {E : Nat → Nat → Bool} {p : List (List Int)} {w : List Nat} {i : Nat} (h : FitTo E p w i) (h1 : ConnL E (setW w i)) (h2 : ∀ y ∈ row p i, JnW E w i y) : FitTo E p w (i + 1) := fun a ha => by
  by_cases e : a = i
  · subst e; exact ⟨h1, h2⟩
  · exact h a (by omega)
theorem fit_iff {E : Nat → Nat → Bool} {p : List (List Int)} (hp : GOk p) {w : List Nat} : FitTo E p w p.length ↔ FitW p.length E (ofG p) w := by
  constructor
  · intro h
    refine ⟨fun k hk => (h k hk).1, fun i hi k hk hF => ?_⟩
    have := (h i hi).2 (k : Int) (by simpa [ofG] using hF)
    simpa [JnW] using this
  · intro h i hi
    refine ⟨h.1 i hi, fun y hy => ?_⟩
    have hy2 := (hp.sets i hi).1.1 y hy
    have := h.2 i hi y.toNat (by omega) (by
      simp only [ofG, decide_eq_true_eq]
      rw [show ((y.toNat : Nat) : Int) = y by omega]; exact hy)
    exact this
theorem jn_and {g : List (List Int)} {s t r n : Nat} (hn : n = g.length) (hr : AroP g s r) {A B : List Nat} (hA : bitsOf s = A) (hB : bitsOf t = B) (hs : s < 2 ^ n) (ht : t < 65536) (h16 : n ≤ 16) : (((r &&& t : Nat) : Int) == 0) = !dec (∃ x ∈ A, ∃ z ∈ B, ofG g x z = true) := by
  subst hn; subst hA; subst hB
  have : 2 ^ g.length ≤ 2 ^ 16 := Nat.pow_le_pow_right (by decide) h16
  have hi : (r &&& t) ≠ 0 ↔ ∃ x ∈ bitsOf s, ∃ z ∈ bitsOf t, ofG g x z = true := by
    constructor
    · intro h
      obtain ⟨j, hj⟩ := Nat.exists_testBit_of_ne_zero h
      rw [Nat.testBit_and, Bool.and_eq_true] at hj
      obtain ⟨v, _, h2, h3⟩ := (hr.2 j).1 hj.1
      exact ⟨v, (mem_left (by omega)).2 h2, j, (mem_left ht).2 hj.2, h3⟩
    · rintro ⟨x, hx, z, hz, hE⟩ e
      have hx2 := (mem_left (by omega)).1 hx
      have h1 : r.testBit z = true := (hr.2 z).2 ⟨x, by have := sub_full hs x hx2; rwa [full_bit, decide_eq_true_eq] at this, hx2, hE⟩
      have h2 : (r &&& t).testBit z = true := by rw [Nat.testBit_and, h1, (mem_left ht).1 hz]; rfl
      rw [e] at h2
      simp at h2
  by_cases h : r &&& t = 0
  · rw [dec_false (fun k => hi.2 k h), h]; rfl
  · rw [dec_true (hi.1 h)]
    exact beq_eq_false_iff_ne.2 (by omega)

set_option maxRecDepth 100000 in
set_option maxHeartbeats 4000000 in
theorem l21Fits_any (v pv xv : Value) (g p : List (List Int)) (hok : GOk g) (hp : GOk p) (wd : List Nat) (hwl : wd.length = g.length) (hwm : ∀ x ∈ wd, x ≤ p.length) (w : World)
    (hn : Nums w 2 .i64 v (natInts (netL g))) (hg : Gr w pv p) (hx : Nums w 2 .i64 xv (natInts wd)) :
    Calls Tryd.prog 128 #[v, pv, xv] w fun e w' => e = .returned (.bool (dec (FitW p.length (ofG g) (ofG p) wd))) ∧ Below w.heap.size w w' := by
  obtain ⟨pu, rfl, hr⟩ := hg
  obtain ⟨pp, pc, rfl, _⟩ := hr.shape
  obtain ⟨xp, xc, rfl, _⟩ := id hx.shape
  have h16 := hok.le
  have hm16 := hp.le
  have hw16 : wd.length ≤ 16 := by omega
  obtain ⟨W0, hW0⟩ : ∃ W0, W0 = w.alloc (.cells #[.slice pp p.length pc] 29) := ⟨_, rfl⟩
  have hbA : Hid (Below w.heap.size w W0) := Lib.hid (by rw [hW0]; exact below_alloc _ _)
  have HN := Lib.hid (hn.below hbA.out)
  have HX := Lib.hid (hx.below hbA.out)
  have HR := Lib.hid (hr.below hbA.out)
  have BX : Hid (Box W0 w.heap.size 29 (.slice pp p.length pc)) := Lib.hid (by rw [hW0]; exact Box.new _ _ _)
  have SZ0 := Lib.hid (show W0.heap.size = w.heap.size + 1 by rw [hW0, size_alloc])
  have HOK := Lib.hid hok
  have HP := Lib.hid hp
  have HWM := Lib.hid hwm
  have HWL := Lib.hid hwl
  have HFI := Lib.hid (fit_iff (E := ofG g) hp (w := wd))
  rw [natInts_length] at HX ⊢
  obtain ⟨wl, hwl2⟩ : ∃ wl, wl = wd.length := ⟨_, rfl⟩
  rw [← hwl2] at HX hw16 ⊢
  have HL := Lib.hid hwl2
  have hwr : IntKind.i64.wrap ((p.length : Int) + 1) = (p.length : Int) + 1 := by rw [IntKind.wrap_i64]; omega
  clear hn hx hr hok hp hwm hwl hwl2
  go_enter Tryd.func128, Tryd.ntmps128
  go_upto_region 1 with fail
  rw [← hW0]
  clear hW0
  have hcx := BX.out.cell
  go_upto_region 2 with (at_make; refine wpList_mk ty_i64 rfl rfl rfl (p.length + 1) rfl rfl (by first | rfl | exact hwr | (rw [hwr]; rfl)) (by first | rfl | exact hwr | (rw [hwr]; rfl)) (by omega) ?_; intro w4 hown4 hg4)
  have hb4 := grown_below hg4
  have HB4 := Lib.hid hb4
  have HO4 := Lib.hid hown4
  obtain ⟨ob, hob⟩ : ∃ ob, ob = W0.heap.size := ⟨_, rfl⟩
  have HOB := Lib.hid hob
  rw [← hob] at HO4 ⊢
  clear hb4 hg4 hown4 hcx hob hwr
  go_wp2_with fail
  go_loopw [8] (fun iv wr => ∃ (k : Nat) (S : List Nat), k ≤ wl ∧ iv = .int .i64 k ∧ Hid (NumW wd p.length k S) ∧ wr.ownsRow ob 2 1 (.slice (some ⟨ob, 0, none⟩) (p.length + 1) (p.length + 1)) (p.length + 1) ((natInts S).map (Value.int .i64)) ∧ Below W0.heap.size W0 wr) (fun iv _ => wl - (intOf iv).toNat)
  case atStart => exact ⟨0, _, Nat.zero_le _, rfl, Lib.hid (NumW.start wd p.length), by have := HO4.out; simpa [natInts] using this, HB4.out⟩
  case round =>
    clear HO4 HB4
    obtain ⟨k, S, hk, rfl, HS, hown, hb⟩ := hrel
    have HB := Lib.hid hb
    have HO := Lib.hid hown
    by_cases hlt : k < wl
    · have hltw : k < wd.length := by rw [← HL.out]; exact hlt
      obtain ⟨qb, qo, hq1, hq⟩ := (HX.out.below hb).get (k := k) (by rw [natInts_length]; exact hltw)
      subst hq1
      obtain ⟨x, hx⟩ : ∃ x, x = wd.getD k 0 := ⟨_, rfl⟩
      have hxk : wd[k]'hltw = x := by rw [hx, List.getD_eq_getElem?_getD, List.getElem?_eq_getElem hltw]; rfl
      have hq2 : (natInts wd)[k]'(by rw [natInts_length]; exact hltw) = (x : Int) := by simp [natInts, hxk]
      rw [hq2] at hq
      have hxm : x ≤ p.length := by rw [← hxk]; exact HWM.out _ (List.getElem_mem hltw)
      have hsl := HS.out.len
      obtain ⟨z, hz⟩ : ∃ z, z = S.getD x 0 := ⟨_, rfl⟩
      have hxc : wr.cell? ⟨ob, x, none⟩ = some (.int .i64 (z : Int)) := by rw [hown.cellAt x (by omega), hz]; simp [natInts, List.getD_eq_getElem?_getD, hsl, show x < p.length + 1 by omega]
      have hfx := hown.frozenAt x
      have hz16 : z < 65536 := by
        have h1 := HS.out.lt x
        have : 2 ^ k ≤ 2 ^ 16 := Nat.pow_le_pow_right (by decide) (by omega)
        omega
      have HST := Lib.hid (HS.out.step hx.symm hxm)
      rw [← hz] at HST
      have hp32 := pow_lt32 k (by omega)
      clear hq2 hxk hsl hz hx hown
      obtain ⟨t, ht⟩ : ∃ t, t = 2 ^ k := ⟨_, rfl⟩
      have HT := Lib.hid ht
      rw [← ht] at HST hp32
      clear ht
      have hwz : IntKind.i64.wrap ((z : Int) + (t : Int)) = (z : Int) + (t : Int) := by rw [IntKind.wrap_i64]; omega
      have hx1 : (x : Int) < (p.length : Int) + 1 := by omega
      go_upto_region 4 with fail
      have HBX : Hid (Below W0.heap.size W0 (wr.setCell ⟨ob, x, none⟩ (.int .i64 ((z : Int) + (t : Int)))).drew) := Lib.hid (below_dN (HB.out.setCell (p := ⟨ob, x, none⟩) (show W0.heap.size ≤ ob by have := HOB.out; omega) _) 1)
      have HOX : Hid ((wr.setCell ⟨ob, x, none⟩ (.int .i64 ((z : Int) + (t : Int)))).drew.ownsRow ob 2 1 (.slice (some ⟨ob, 0, none⟩) (p.length + 1) (p.length + 1)) (p.length + 1) ((natInts (S.set x (z + t))).map (Value.int .i64))) := Lib.hid (by
        have h := (HO.out.stored x (.int .i64 ((z : Int) + (t : Int)))).1
        rw [show (natInts (S.set x (z + t))).map (Value.int .i64) = ((natInts S).map (Value.int .i64)).set x (.int .i64 ((z : Int) + (t : Int))) from by simp [natInts, List.map_set]]
        exact h)
      go_region_law (first | (go_simp; go_at_call 51; refine (l12Bit_any _ k rfl (by omega) _).mono ?_; rintro e w5 ⟨he5, hw5⟩; rw [← HT.out] at he5; subst he5; subst hw5))
      all_goals go_wp2
      all_goals go_roundw
      all_goals first
        | exact ⟨k + 1, _, by omega, by go_num, HST, HOX.out, HBX.out⟩
        | (simp [intOf]; omega)
    · obtain rfl : k = wl := by omega
      have hsl := HS.out.len
      have HS2 : Hid (NumW wd p.length wd.length S) := Lib.hid (by have := HS.out; rwa [HL.out] at this)
      have HSET : Hid (∀ a, a < p.length → bitsOf (S.getD (a + 1) 0) = setW wd a) := Lib.hid (fun a ha => HS2.out.set (by rw [← HL.out]; exact hw16) ha)
      have HLTS : Hid (∀ a, S.getD a 0 < 2 ^ g.length) := Lib.hid (fun a => by have := HS2.out.lt a; rwa [HWL.out] at this)
      have HLTT : Hid (∀ a, S.getD a 0 < 65536) := Lib.hid (fun a => by
        have h1 := HLTS.out a
        have : 2 ^ g.length ≤ 2 ^ 16 := Nat.pow_le_pow_right (by decide) h16
        omega)
      have hcx := hb.at (by have := SZ0.out; omega) BX.out.cell
      have HNo := Lib.hid (HN.out.below hb)
      have HRo := Lib.hid (HR.out.below hb)
      have HCS : Hid (∀ a, a ≤ p.length → wr.cell? ⟨ob, a, none⟩ = some (.int .i64 (S.getD a 0 : Nat))) := Lib.hid (fun a ha => by rw [HO.out.cellAt a (by omega)]; simp [natInts, List.getD_eq_getElem?_getD, HS2.out.len, show a < p.length + 1 by omega])
      have HEND := Lib.hid (hbA.out.trans (hb.mono hbA.out.size))
      obtain ⟨wo, rfl⟩ : ∃ wo, wo = wr := ⟨_, rfl⟩
      clear hown hb HS HB HO hsl
      go_wp2_with fail
      go_loopw [9] (fun iv wr => ∃ i : Nat, i ≤ p.length ∧ iv = .int .i64 i ∧ Hid (FitTo (ofG g) p wd i) ∧ wr = wo) (fun iv _ => p.length - (intOf iv).toNat)
      case atStart => exact ⟨0, Nat.zero_le _, rfl, Lib.hid (FitTo.zero _ _ _), rfl⟩
      case round =>
        obtain ⟨i, hi, rfl, HF, rfl⟩ := hrel
        obtain ⟨wo, rfl⟩ : ∃ wo, wo = wr := ⟨_, rfl⟩
        by_cases hlt : i < p.length
        · have hsc := HCS.out (i + 1) (by omega)
          have hslt := HLTS.out (i + 1)
          have hst16 := HLTT.out (i + 1)
          have HSI := Lib.hid (HSET.out i hlt)
          generalize S.getD (i + 1) 0 = s at hsc hslt hst16 HSI
          have HSLT := Lib.hid hslt
          have hwi : IntKind.i64.wrap ((i : Int) + 1) = (i : Int) + 1 := by rw [IntKind.wrap_i64]; omega
          have hi1 : (i : Int) + 1 < (p.length : Int) + 1 := by omega
          have hi0 : (0 : Int) ≤ (i : Int) + 1 := by omega
          clear hslt
          by_cases hc : ConnL (ofG g) (setW wd i)
          case neg =>
            have HD : Hid (dec (ConnL (ofG g) (bitsOf s)) = false) := Lib.hid (by rw [HSI.out]; exact dec_false hc)
            have HNF := Lib.hid (dec_false (show ¬ FitW p.length (ofG g) (ofG p) wd from fun h => hc ((HFI.out.2 h) i hlt).1))
            clear hc
            go_wp2_with (go_at_call 145; refine (l21Whole_any _ g HOK.out _ s rfl HSLT.out _ HNo.out).mono ?_; rintro e w5 ⟨he5, hw5⟩; rw [HD.out] at he5; subst he5; subst hw5)
            go_ret
            exact ⟨ret_bool HNF.out.symm, HEND.out⟩
          have HD : Hid (dec (ConnL (ofG g) (bitsOf s)) = true) := Lib.hid (by rw [HSI.out]; exact dec_true hc)
          have HC := Lib.hid hc
          clear hc
          go_upto_region 12 with (first
            | (go_at_call 145; refine (l21Whole_any _ g HOK.out _ s rfl HSLT.out _ HNo.out).mono ?_; rintro e w5 ⟨he5, hw5⟩; rw [HD.out] at he5; subst he5; subst hw5)
            | (go_at_call 146; refine (l21Around_any _ g HOK.out _ s rfl hst16 _ HNo.out).mono ?_; rintro e w5 ⟨⟨r, rfl, hr⟩, hw5⟩; subst hw5; have HRA := Lib.hid hr; have hr16 := hr.1; clear hr))
          go_wp2_with fail
          go_loopw [11] (fun kv wr => ∃ k : Nat, k ≤ (row p i).length ∧ kv = .int .i64 k ∧ Hid (∀ y ∈ (row p i).take k, JnW (ofG g) wd i y) ∧ wr = wo) (fun kv _ => (row p i).length - (intOf kv).toNat)
          case atStart => exact ⟨0, Nat.zero_le _, rfl, Lib.hid (fun y hy => by simp at hy), rfl⟩
          case round =>
            obtain ⟨k, hk, rfl, HJ, rfl⟩ := hrel
            obtain ⟨b, o, rp, rc, hgp, hcell, hne⟩ := HRo.out.get hlt
            subst hgp
            replace hcell : World.cell? _ ⟨b, o + i, none⟩ = some (.slice rp (row p i).length rc) := hcell
            replace hne : Nums _ 2 .i64 (.slice rp (row p i).length rc) (row p i) := hne
            have hrl := (HP.out.sets i hlt).1
            by_cases hltk : k < (row p i).length
            · obtain ⟨qb, qo, rfl, hq⟩ := hne.get (k := k) hltk
              have hyr := hrl.1 _ (List.getElem_mem hltk)
              obtain ⟨y, hy⟩ : ∃ y : Nat, (row p i)[k] = (y : Int) := ⟨(row p i)[k].toNat, by omega⟩
              have hyn : y < p.length := by omega
              rw [hy] at hq
              have hyc := HCS.out (y + 1) (by omega)
              have hyt := HLTT.out (y + 1)
              have HSY := Lib.hid (HSET.out y hyn)
              generalize S.getD (y + 1) 0 = t at hyc hyt HSY
              have hj := jn_and rfl HRA.out HSI.out HSY.out HSLT.out hyt h16
              have hand := i64_and_nat r t (by omega) (by omega)
              rw [← hand] at hj
              have hwy : IntKind.i64.wrap ((y : Int) + 1) = (y : Int) + 1 := by rw [IntKind.wrap_i64]; omega
              have hy1 : (y : Int) + 1 < (p.length : Int) + 1 := by omega
              have hy0 : (0 : Int) ≤ (y : Int) + 1 := by omega
              have hrl16 := setIn_length (by omega) hrl
              have HYM : Hid ((y : Int) ∈ row p i) := Lib.hid (hy ▸ List.getElem_mem hltk)
              have HTK : Hid ((row p i).take (k + 1) = (row p i).take k ++ [(y : Int)]) := Lib.hid (by rw [take_snoc' _ k hltk, hy])
              obtain ⟨rl, hrl2⟩ : ∃ rl, rl = (row p i).length := ⟨_, rfl⟩
              rw [← hrl2] at hcell hltk hk hrl16
              have HRL := Lib.hid hrl2
              clear hne hyr hy hand hrl hrl2
              by_cases hJ : JnW (ofG g) wd i (y : Int)
              · have hz : (bits BinOp.and IntKind.i64 (r : Int) (t : Int) == 0) = false := by
                  rw [hj, dec_true (show ∃ x ∈ setW wd i, ∃ z ∈ setW wd y, ofG g x z = true by simpa [JnW] using hJ)]; rfl
                have HJ2 : Hid (∀ x ∈ (row p i).take (k + 1), JnW (ofG g) wd i x) := Lib.hid (fun x hx => by
                  rw [HTK.out] at hx
                  rcases List.mem_append.1 hx with h | h
                  · exact HJ.out x h
                  · rw [List.mem_singleton.1 h]; exact hJ)
                clear hj hJ
                go_wp2_with fail
                go_roundw
                case rel => exact ⟨k + 1, by have := HRL.out; omega, by go_num, HJ2, trivial⟩
                case measure => have := HRL.out; simp [intOf]; omega
              · have hz : (bits BinOp.and IntKind.i64 (r : Int) (t : Int) == 0) = true := by
                  rw [hj, dec_false (show ¬ ∃ x ∈ setW wd i, ∃ z ∈ setW wd y, ofG g x z = true from fun h => hJ (by simpa [JnW] using h))]; rfl
                have HNF := Lib.hid (dec_false (show ¬ FitW p.length (ofG g) (ofG p) wd from fun h => hJ (((HFI.out.2 h) i hlt).2 _ HYM.out)))
                clear hj hJ
                go_wp2_with fail
                go_ret
                exact ⟨ret_bool HNF.out.symm, HEND.out⟩
            · obtain rfl : k = (row p i).length := by omega
              have HFS : Hid (FitTo (ofG g) p wd (i + 1)) := Lib.hid (HF.out.snoc HC.out (by have := HJ.out; rwa [List.take_length] at this))
              clear hne hrl
              go_wp2_with fail
              go_roundw
              case rel => exact ⟨i + 1, by omega, by go_num, HFS, trivial⟩
              case measure => simp [intOf]; omega
        · obtain rfl : i = p.length := by omega
          have HNF := Lib.hid (dec_true (HFI.out.1 HF.out))
          go_wp2_with fail
          go_ret
          exact ⟨ret_bool HNF.out.symm, HEND.out⟩

end Go.Proofs.YtfokiijcpkhllaaDoor

/- Plain: the sets of a word as masks, as the program's search keeps them. -/
namespace Go.Proofs.YtfokiijcpkhllaaDoor

/-- The sets of a word, as masks. -/
def mskW (m : Nat) (w : List Nat) : List Nat := (List.range m).map fun k => mask (natInts (setW w k))
theorem mskW_length (m : Nat) (w : List Nat) : (mskW m w).length = m := by simp [mskW]
theorem mskW_at {m k : Nat} (w : List Nat) (h : k < m) : (mskW m w).getD k 0 = mask (natInts (setW w k)) := by simp [mskW, List.getD_eq_getElem?_getD, h]
theorem mskW_bit {m k : Nat} (w : List Nat) (h : k < m) (j : Nat) : ((mskW m w).getD k 0).testBit j = true ↔ j < w.length ∧ w.getD j 0 = k + 1 := by
  rw [mskW_at w h, bit_maskM (fun x hx => by
    obtain ⟨i, _, rfl⟩ := mem_natInts.1 hx
    omega), mem_natInts, ← mem_setW]
  constructor
  · rintro ⟨i, hi, e⟩
    obtain rfl : j = i := by omega
    exact hi
  · exact fun h => ⟨j, h, rfl⟩
theorem mskW_zero {m k : Nat} (w : List Nat) (h : k < m) : (mskW m w).getD k 0 = 0 ↔ k + 1 ∉ w := by
  constructor
  · intro e hm
    obtain ⟨j, hj, ej⟩ := List.mem_iff_getElem.1 hm
    have := (mskW_bit w h j).2 ⟨hj, by rw [List.getD_eq_getElem?_getD, List.getElem?_eq_getElem hj]; exact ej⟩
    rw [e] at this
    simp at this
  · intro hn
    refine Nat.eq_of_testBit_eq fun j => ?_
    rw [Nat.zero_testBit]
    cases hb : ((mskW m w).getD k 0).testBit j with
    | false => rfl
    | true =>
      obtain ⟨h1, h2⟩ := (mskW_bit w h j).1 hb
      rw [List.getD_eq_getElem?_getD, List.getElem?_eq_getElem h1] at h2
      exact absurd (h2 ▸ List.getElem_mem h1) hn
theorem mskW_snoc_zero (m : Nat) (w : List Nat) : mskW m (w ++ [0]) = mskW m w := by
  unfold mskW
  refine List.map_congr_left fun k _ => ?_
  rw [setW_snoc, if_neg (by omega)]
theorem mskW_nil (m : Nat) : mskW m [] = List.replicate m 0 := by
  refine List.ext_getElem (by simp [mskW]) fun k h1 h2 => ?_
  simp [mskW, setW, natInts, mask]
/-- Half of the edges is enough. -/
theorem fitW_half {m : Nat} {E F : Nat → Nat → Bool} (hE : ∀ x y, E x y = true → E y x = true) (hF : ∀ i k, F i k = F k i) (hi : ∀ i, F i i = false) {w : List Nat} :
    FitW m E F w ↔ (∀ k, k < m → ConnL E (setW w k)) ∧ ∀ i, i < m → ∀ k, k < i → F i k = true → ∃ x ∈ setW w i, ∃ y ∈ setW w k, E x y = true := by
  constructor
  · exact fun h => ⟨h.1, fun i him k hk => h.2 i him k (by omega)⟩
  · refine fun h => ⟨h.1, fun i him k hkm hik => ?_⟩
    rcases Nat.lt_trichotomy k i with hlt | rfl | hgt
    · exact h.2 i him k hlt hik
    · rw [hi] at hik; cases hik
    · obtain ⟨x, hx, y, hy, e⟩ := h.2 k hkm i hgt (by rw [hF]; exact hik)
      exact ⟨y, hy, x, hx, hE _ _ e⟩

end Go.Proofs.YtfokiijcpkhllaaDoor

/- The state of the program's search of a model: the block of the search, the row of masks that changes. Plain: what a letter more does to the masks. -/
namespace Go.Proofs.YtfokiijcpkhllaaDoor
open Go.RowKit

theorem mskW_lt {m k : Nat} (w : List Nat) : (mskW m w).getD k 0 < 2 ^ w.length := by
  by_cases h : k < m
  · refine Nat.lt_of_not_le fun hge => ?_
    obtain ⟨j, hj, hb⟩ := Nat.exists_ge_and_testBit_of_ge_two_pow hge
    have := ((mskW_bit w h j).1 hb).1
    omega
  · rw [List.getD_eq_getElem?_getD, List.getElem?_eq_none (by rw [mskW_length]; omega)]
    exact Nat.two_pow_pos _
theorem mskW_lt16 {m k : Nat} {w : List Nat} (h : w.length ≤ 16) : (mskW m w).getD k 0 < 65536 := by
  have h1 := mskW_lt (m := m) (k := k) w
  have : 2 ^ w.length ≤ 2 ^ 16 := Nat.pow_le_pow_right (by decide) h
  omega
theorem mskW_put {m i : Nat} (w : List Nat) (h : i < m) : mskW m (w ++ [i + 1]) = (mskW m w).set i ((mskW m w).getD i 0 ||| 2 ^ w.length) := by
  refine List.ext_getElem (by simp [mskW]) fun k h1 h2 => ?_
  rw [mskW_length] at h1
  have e1 : (mskW m (w ++ [i + 1]))[k]'(by rw [mskW_length]; exact h1) = (mskW m (w ++ [i + 1])).getD k 0 := by simp [List.getD_eq_getElem?_getD, mskW_length, h1]
  have e2 : ((mskW m w).set i ((mskW m w).getD i 0 ||| 2 ^ w.length))[k]'h2 = if i = k then (mskW m w).getD i 0 ||| 2 ^ w.length else (mskW m w).getD k 0 := by
    rw [List.getElem_set]
    by_cases e : i = k
    · rw [if_pos e, if_pos e]
    · rw [if_neg e, if_neg e]; simp [List.getD_eq_getElem?_getD, mskW_length, h1]
  rw [e1, e2]
  refine Nat.eq_of_testBit_eq fun j => ?_
  rw [Bool.eq_iff_iff, mskW_bit _ h1, List.length_append, List.length_singleton]
  have hold : ∀ j, j < w.length → (w ++ [i + 1]).getD j 0 = w.getD j 0 := fun j hj => by rw [List.getD_eq_getElem?_getD, List.getD_eq_getElem?_getD, List.getElem?_append_left hj]
  have hnew : (w ++ [i + 1]).getD w.length 0 = i + 1 := by simp
  by_cases e : i = k
  · subst e
    rw [if_pos rfl, Nat.testBit_or, Bool.or_eq_true, mskW_bit _ h, Nat.testBit_two_pow, decide_eq_true_eq]
    constructor
    · rintro ⟨h3, h4⟩
      by_cases e : j < w.length
      · exact .inl ⟨e, by rw [← hold j e]; exact h4⟩
      · exact .inr (by omega)
    · rintro (⟨h3, h4⟩ | rfl)
      · exact ⟨by omega, by rw [hold j h3]; exact h4⟩
      · exact ⟨by omega, hnew⟩
  · rw [if_neg e, mskW_bit _ h1]
    constructor
    · rintro ⟨h3, h4⟩
      by_cases e2 : j < w.length
      · exact ⟨e2, by rw [← hold j e2]; exact h4⟩
      · obtain rfl : j = w.length := by omega
        rw [hnew] at h4
        omega
    · rintro ⟨h3, h4⟩
      exact ⟨by omega, by rw [hold j h3]; exact h4⟩
theorem set_back {α : Type} (l : List α) (i : Nat) (x d : α) (h : i < l.length) : (l.set i x).set i (l.getD i d) = l := by
  rw [List.set_set]
  refine List.ext_getElem (by simp) fun k h1 h2 => ?_
  rw [List.getElem_set]
  by_cases e : i = k
  · subst e; rw [if_pos rfl]; simp [List.getD_eq_getElem?_getD, h]
  · rw [if_neg e]
/-- What of a word's sets is still empty. -/
theorem lackW_put {m i : Nat} (w : List Nat) (h : i < m) : ((mskW m w).getD i 0 = 0 → lackW m (w ++ [i + 1]) + 1 = lackW m w) ∧ ((mskW m w).getD i 0 ≠ 0 → lackW m (w ++ [i + 1]) = lackW m w) :=
  ⟨fun e => lackW_new h ((mskW_zero w h).1 e), fun e => lackW_old (.inr (Classical.byContradiction fun k => e ((mskW_zero w h).2 k)))⟩

/-! ### The block of the search -/
structure MsB (w : World) (xb : Nat) (v0 v1 v2 v3 v4 : Value) : Prop where
  blk : w.heap[xb]? = some (.cells #[v0, v1, v2, v3, v4] 150 (0, 0))
section
variable {w w' : World} {xb : Nat} {v0 v1 v2 v3 v4 : Value}
theorem MsB.c0 (h : MsB w xb v0 v1 v2 v3 v4) : w.cell? ⟨xb, 0, none⟩ = some v0 := by unfold World.cell?; rw [h.blk]; rfl
theorem MsB.c1 (h : MsB w xb v0 v1 v2 v3 v4) : w.cell? ⟨xb, 1, none⟩ = some v1 := by unfold World.cell?; rw [h.blk]; rfl
theorem MsB.c2 (h : MsB w xb v0 v1 v2 v3 v4) : w.cell? ⟨xb, 2, none⟩ = some v2 := by unfold World.cell?; rw [h.blk]; rfl
theorem MsB.c3 (h : MsB w xb v0 v1 v2 v3 v4) : w.cell? ⟨xb, 3, none⟩ = some v3 := by unfold World.cell?; rw [h.blk]; rfl
theorem MsB.c4 (h : MsB w xb v0 v1 v2 v3 v4) : w.cell? ⟨xb, 4, none⟩ = some v4 := by unfold World.cell?; rw [h.blk]; rfl
theorem MsB.free (h : MsB w xb v0 v1 v2 v3 v4) (i : Nat) : w.frozen? ⟨xb, i, none⟩ = false := by simp [World.frozen?, h.blk]
theorem MsB.lt (h : MsB w xb v0 v1 v2 v3 v4) : xb < w.heap.size := lt_of_block h.blk
theorem MsB.to (h : MsB w xb v0 v1 v2 v3 v4) (hk : w'.heap[xb]? = w.heap[xb]?) : MsB w' xb v0 v1 v2 v3 v4 := ⟨hk.trans h.blk⟩
theorem MsB.new (w : World) : MsB (w.alloc (.cells #[v0, v1, v2, v3, v4] 150)) w.heap.size v0 v1 v2 v3 v4 := ⟨heap_alloc_new w _⟩
theorem MsB.s2 (h : MsB w xb v0 v1 v2 v3 v4) (u : Value) : MsB (w.setCell ⟨xb, 2, none⟩ u) xb v0 v1 u v3 v4 := ⟨by have := heap_setCell_same w xb 2 _ _ u h.blk; simpa using this⟩
theorem MsB.s3 (h : MsB w xb v0 v1 v2 v3 v4) (u : Value) : MsB (w.setCell ⟨xb, 3, none⟩ u) xb v0 v1 v2 u v4 := ⟨by have := heap_setCell_same w xb 3 _ _ u h.blk; simpa using this⟩
end
theorem grown_setMs (w : World) (b i : Nat) (u : Value) : w.grownBy (w.setCell ⟨b, i, none⟩ u) (some b) :=
  ⟨rfl, rfl, rfl, by rw [World.size_setCell]; exact Nat.le_refl _, fun k _ hne => Below.heap_setCell _ _ _ _ (fun e => hne (by simp only at e; rw [e]))⟩

/-- Behind the world w0 only the block sb has changed; it holds the masks S. -/
structure MsI (w0 : World) (sb : Nat) (m : Nat) (w : World) (S : List Nat) : Prop where
  grw : w0.grownBy w (some sb)
  own : w.ownsRow sb 64 1 (.slice (some ⟨sb, 0, none⟩) m m) m (S.map u32v)
theorem MsI.next {w0 w w' : World} {sb m : Nat} {S : List Nat} (h : MsI w0 sb m w S) (hb : Below w.heap.size w w') : MsI w0 sb m w' S :=
  ⟨grown_trans h.grw (grown_of_below hb _), ownsRow_below h.own hb⟩
theorem MsI.put {w0 w : World} {sb m : Nat} {S : List Nat} (h : MsI w0 sb m w S) (i x : Nat) : MsI w0 sb m (w.setCell ⟨sb, i, none⟩ (.int .u32 (x : Int))) (S.set i x) := by
  refine ⟨grown_trans h.grw (grown_setMs _ _ _ _), ?_⟩
  have := (h.own.stored i (.int .u32 (x : Int))).1
  rw [show (S.set i x).map u32v = (S.map u32v).set i (.int .u32 (x : Int)) from by simp [u32v, List.map_set]]
  exact this
theorem MsI.cell {w0 w : World} {sb m : Nat} {S : List Nat} (h : MsI w0 sb m w S) {i : Nat} (hi : i < m) : w.cell? ⟨sb, i, none⟩ = some (.int .u32 (S.getD i 0 : Nat)) := by
  have hl : S.length = m := by have := h.own.1; simpa using this
  rw [h.own.cellAt i (by omega)]
  simp [u32v, List.getD_eq_getElem?_getD, hl, hi]
theorem MsI.frz {w0 w : World} {sb m : Nat} {S : List Nat} (h : MsI w0 sb m w S) (i : Nat) : w.frozen? ⟨sb, i, none⟩ = false := h.own.frozenAt i
theorem MsI.block {w0 w : World} {sb m k : Nat} {S : List Nat} (h : MsI w0 sb m w S) (hk : k < w0.heap.size) (hne : k ≠ sb) : w.heap[k]? = w0.heap[k]? := h.grw.block k hk (by simpa using hne)

/-- What the search reads: the block, and the rows that it does not change, in every world in which only the block sb has changed. -/
structure MsH (w0 : World) (xb sb n m : Nat) (hv : Value) (pp wp np : Option Addr) (pc wc nc nN : Nat) (E F : Nat → Nat → Bool) (NR : List Nat) : Prop where
  blk : MsB w0 xb hv (.slice pp m pc) (.slice wp nN wc) (.slice np nN nc) (.slice (some ⟨sb, 0, none⟩) m m)
  ne : xb ≠ sb
  hl : ∃ hp hc, hv = .slice hp n hc
  n8 : n ≤ 8
  m8 : m ≤ 8
  many : nN = 2 ^ n
  pat : ∀ w', w0.grownBy w' (some sb) → NE w' (.slice pp m pc) m F
  whl : ∀ w', w0.grownBy w' (some sb) → Sl w' 4 (.slice wp nN wc) nN ((List.range nN).map fun s => .bool (dec (ConnL E (bitsOf s))))
  ner : ∀ w', w0.grownBy w' (some sb) → Sl w' 64 (.slice np nN nc) nN (NR.map u32v)
  nrl : NR.length = nN
  nrb : ∀ s, s < nN → NR.getD s 0 < 65536 ∧ ∀ j, (NR.getD s 0).testBit j = true ↔ ∃ v, s.testBit v = true ∧ E v j = true

end Go.Proofs.YtfokiijcpkhllaaDoor
