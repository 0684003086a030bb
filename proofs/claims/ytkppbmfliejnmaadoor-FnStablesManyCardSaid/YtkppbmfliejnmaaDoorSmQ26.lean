/- Walks: the complement of sets of neighbours; what a set rules. -/
import Derived.Test.YtkppbmfliejnmaaDoorSmQ22
import Derived.Test.YtkppbmfliejnmaaDoorSmQ10
import Derived.Test.YtkppbmfliejnmaaDoorSmQ25
import Derived.Test.YtkppbmfliejnmaaDoorSmQ13
import Derived.Test.YtkppbmfliejnmaaDoorSmQ7
import Derived.Test.YtkppbmfliejnmaaDoorSmQ8
import Derived.Test.YtkppbmfliejnmaaDoorSmQ3
import Derived.Deep.RegionHeld3
import Derived.Deep.DeepCutAuto
import Derived.Test.YtkppbmfliejnmaaDoorSmQ6
import Derived.Test.YtkppbmfliejnmaaDoorSmQ15
namespace Go.Proofs.YtkppbmfliejnmaaDoor
open Go.RowKit

theorem compRow {n : Nat} {E : Nat → Nat → Bool} {r a M : Nat} (hn : n ≤ 16) (hr : r < n) (hM : M = 2 ^ n - 1) (hM16 : M < 65536) (ha : a < 65536) (hab : ∀ j, a.testBit j = (decide (j < n) && E r j)) : sub (sub M a) (2 ^ r) = (indN n (compE E)).getD r 0 := by
  refine Nat.eq_of_testBit_eq fun j => ?_
  have h1 := sub_lt16 M a hM16
  have h2 := pow_lt16 r (by omega)
  rw [indN_bit hr, testBit_sub _ _ (by omega) (by omega), testBit_sub _ _ (by omega) (by omega), hM, testBit_firstOf, hab j, Nat.testBit_two_pow]
  unfold compE
  by_cases h : j < n <;> by_cases h2 : r = j <;> simp [h, h2]

theorem ty_netsS : SlTy Tryd.prog 73 70 (.int .u32 0) 1 4 := ⟨Tryd.underlying73, by kernel_rfl, rfl, by decide, by decide⟩
set_option maxRecDepth 100000 in
set_option maxHeartbeats 4000000 in
theorem complement_any (hp : Option Addr) (hc n : Nat) (E : Nat → Nat → Bool) (w : World) (hH : NE w (.slice hp n hc) n E) :
    Calls Tryd.prog 94 #[.slice hp n hc] w fun e w' => ∃ u, e = .returned u ∧ w'.ownsRow w.heap.size 70 1 u n ((indN n (compE E)).map u32v) ∧ Below w.heap.size w w' := by
  have n16 := hH.le
  have HH := Lib.hid hH
  have HO := Lib.hid (ownsRow_empty w 70 1)
  have HB := Lib.hid (below_alloc w (.cells #[] 70))
  obtain ⟨M, hM⟩ : ∃ M, M = 2 ^ n - 1 := ⟨_, rfl⟩
  have hM16 : M < 65536 := by
    have h2 : 2 ^ n ≤ 2 ^ 16 := Nat.pow_le_pow_right (by decide) n16
    have h3 : (2 : Nat) ^ 16 = 65536 := by decide
    have h4 : 0 < 2 ^ n := Nat.pow_pos (by decide)
    omega
  have ALL : Hid (∀ (wz : World), Calls Tryd.prog 106 #[.slice hp n hc] wz fun e w' => e = .returned (.int .u32 (M : Int)) ∧ wz = w') := Lib.hid fun wz => by rw [hM]; exact all_any hp n hc (by omega) wz
  have HM := Lib.hid hM
  obtain ⟨L, hL⟩ : ∃ L, L = indN n (compE E) := ⟨_, rfl⟩
  have hLl : L.length = n := by rw [hL, indN_length]
  have HL := Lib.hid hL
  have HLl := Lib.hid hLl
  rw [← hL]
  clear hH hM hL hLl
  go_enter Tryd.func94, Tryd.ntmps94
  go_wp2
  go_loopw [3, 9] (fun ov iv wr => ∃ v : Nat, v ≤ n ∧ iv = .int .i64 (v : Int) ∧ Hid (wr.ownsRow w.heap.size 70 1 ov v ((L.take v).map u32v)) ∧ Hid (Below w.heap.size w wr)) (fun _ iv _ => n - (intOf iv).toNat)
  case atStart => exact ⟨0, Nat.zero_le _, rfl, HO, HB⟩
  case round =>
    clear HO HB
    obtain ⟨v, hv, rfl, HO, HB⟩ := hrel
    obtain ⟨op, oc, rfl, _⟩ := owns_capL HO.out
    by_cases hlt : v < n
    · have hvi : (v : Int) < (n : Int) := by omega
      obtain ⟨xb, xo, a, rfl, hca, ha16, hab⟩ := (HH.out.next HB.out).get hlt
      have hrow := compRow n16 hlt HM.out hM16 ha16 hab
      obtain ⟨d, hd⟩ : ∃ d, d = sub M a := ⟨_, rfl⟩
      have hd16 : d < 65536 := by rw [hd]; exact sub_lt16 _ _ hM16
      have PONE : Hid (∀ w, Calls Tryd.prog 156 #[.int .i64 (v : Int)] w fun e w' => e = .returned (.int .u32 ((2 ^ v : Nat) : Int)) ∧ w = w') := Lib.hid (fun w => one_any (v : Int) v rfl (by omega) w)
      obtain ⟨pv, hpv⟩ : ∃ pv, pv = 2 ^ v := ⟨_, rfl⟩
      have hp16 : pv < 65536 := by rw [hpv]; exact pow_lt16 v (by omega)
      rw [← hd, ← hpv] at hrow
      rw [← hpv] at PONE
      obtain ⟨t, ht⟩ : ∃ t, t = sub d pv := ⟨_, rfl⟩
      have hand1 : bits BinOp.andNot IntKind.u32 (M : Int) (a : Int) = (d : Int) := by rw [hd]; exact u32_andNot_nat M a (by omega) (by omega)
      have hand2 : bits BinOp.andNot IntKind.u32 (d : Int) (pv : Int) = (t : Int) := by rw [ht]; exact u32_andNot_nat d pv (by omega) (by omega)
      have HS : Hid (L.take (v + 1) = L.take v ++ [t]) := Lib.hid (by
        have hvl : v < L.length := by rw [HLl.out]; exact hlt
        rw [take_snoc' L v hvl]
        congr 2
        have e : L.getD v 0 = L[v] := by rw [List.getD_eq_getElem?_getD, List.getElem?_eq_getElem hvl]; rfl
        rw [← e, HL.out, ← hrow, ht])
      have hown := HO.out
      have hsz := HB.out.size
      clear hab hrow hd ht hpv
      go_wp2_with (first
        | (go_at_call 106; refine (ALL.out _).mono ?_; rintro e w2 ⟨rfl, rfl⟩)
        | (go_at_call 156; refine (PONE.out _).mono ?_; rintro e w3 ⟨rfl, rfl⟩)
        | (at_builtin; refine wpList_app1 ty_netsS rfl rfl rfl hown rfl rfl (by omega) (by omega) ?_; intro v' w1 hown' hg _))
      have HO1 := Lib.hid hown'
      have HB1 := Lib.hid (below_grown HB.out hown hg (Nat.le_refl _) hsz)
      go_roundw
      case rel => exact ⟨v + 1, by omega, by go_num, Lib.hid (by rw [HS.out, List.map_append]; exact HO1.out), HB1⟩
      case measure => simp [intOf]; omega
    · obtain rfl : v = n := by omega
      rw [← HLl.out, List.take_length] at HO
      go_wp2_with fail
      go_ret
      exact ⟨_, rfl, by rw [HLl.out] at HO; exact HO.out, HB.out⟩

/-- What a set rules: each vertex is in it or beside one in it. -/
def RulB (n : Nat) (E : Nat → Nat → Bool) (s : Nat) : Prop := ∀ u, u < n → s.testBit u = true ∨ ∃ v, s.testBit v = true ∧ E v u = true

set_option maxRecDepth 100000 in
set_option maxHeartbeats 4000000 in
theorem rules_any (hp : Option Addr) (hc n : Nat) (E : Nat → Nat → Bool) (s : Nat) (hs : s < 65536) (hin : ∀ i, s.testBit i = true → i < n) (w : World) (hH : NE w (.slice hp n hc) n E) (hT : Tab w) :
    Calls Tryd.prog 114 #[.slice hp n hc, .int .u32 (s : Int)] w fun e w' => e = .returned (.bool (dec (RulB n E s))) ∧ Below w.heap.size w w' := by
  have n16 := hH.le
  have HH := Lib.hid hH
  have HT := Lib.hid hT
  have HIN := Lib.hid hin
  obtain ⟨M, hM⟩ : ∃ M, M = 2 ^ n - 1 := ⟨_, rfl⟩
  have hM16 : M < 65536 := by
    have h2 : 2 ^ n ≤ 2 ^ 16 := Nat.pow_le_pow_right (by decide) n16
    have h3 : (2 : Nat) ^ 16 = 65536 := by decide
    have h4 : 0 < 2 ^ n := Nat.pow_pos (by decide)
    omega
  have ALL : Hid (∀ (wz : World), Calls Tryd.prog 106 #[.slice hp n hc] wz fun e w' => e = .returned (.int .u32 (M : Int)) ∧ wz = w') := Lib.hid fun wz => by rw [hM]; exact all_any hp n hc (by omega) wz
  have HM := Lib.hid hM
  obtain ⟨l, hl⟩ : ∃ l, l = bitsOf s := ⟨_, rfl⟩
  have HL := Lib.hid hl
  have hll : l.length ≤ 32 := by rw [hl]; have := List.length_filter_le (fun i => s.testBit i) (List.range 32); rw [List.length_range] at this; exact this
  have LIST : Hid (∀ wz, Tab wz → Calls Tryd.prog 180 #[.int .u32 (s : Int)] wz fun e w' => ∃ v, e = .returned v ∧ w'.ownsRow wz.heap.size 3 1 v l.length ((natInts l).map (Value.int .i64)) ∧ Below wz.heap.size wz w') := Lib.hid fun wz ht => by rw [hl]; exact list_any _ s rfl (by omega) wz ht
  have HMEM : Hid (∀ v ∈ l, s.testBit v = true ∧ v < n) := Lib.hid fun v hv => by
    rw [hl, mem_bitsOf' (by omega)] at hv
    exact ⟨hv, hin v hv⟩
  clear hH hT hM hin hl
  go_enter Tryd.func114, Tryd.ntmps114
  go_wp2_with (go_at_call 180; refine (LIST.out _ HT.out).mono ?_; rintro e w2 ⟨lv, rfl, ho2, hb2⟩; have HNL := Lib.hid (Nums.of_owns ho2 (natInts_length _).symm (by omega)); obtain ⟨lp, lc, rfl, _⟩ := owns_capL ho2; have HB2 := Lib.hid hb2; clear ho2 hb2)
  go_loopw [5, 12] (fun mv iv wr => ∃ (k m : Nat), k ≤ l.length ∧ iv = .int .i64 (k : Int) ∧ mv = .int .u32 (m : Int) ∧ Hid (m < 65536) ∧ Hid (∀ j, m.testBit j = true ↔ s.testBit j = true ∨ (j < n ∧ ∃ v ∈ l.take k, E v j = true)) ∧ Hid (Below w2.heap.size w2 wr)) (fun _ iv _ => l.length - (intOf iv).toNat)
  case atStart => exact ⟨0, s, Nat.zero_le _, rfl, rfl, Lib.hid hs, Lib.hid fun j => by simp, Lib.hid (Below.refl _ _)⟩
  case round =>
    obtain ⟨k, m, hk, rfl, rfl, HM16, HJ, HB⟩ := hrel
    have hm16 := HM16.out
    by_cases hlt : k < l.length
    · have hki : (k : Int) < (l.length : Int) := by omega
      obtain ⟨qb, qo, rfl, hq⟩ := (HNL.out.below HB.out).get (k := k) (by rw [natInts_length]; exact hlt)
      rw [natInts_atL hlt] at hq
      obtain ⟨v, hv⟩ : ∃ v, v = l[k] := ⟨_, rfl⟩
      rw [← hv] at hq
      have hvn := (HMEM.out v (by rw [hv]; exact List.getElem_mem hlt)).2
      obtain ⟨xb, xo, a, rfl, hca, ha16, hab⟩ := (HH.out.next (HB2.out.trans (HB.out.mono HB2.out.size))).get hvn
      have hor : bits BinOp.or IntKind.u32 (m : Int) (a : Int) = ((m ||| a : Nat) : Int) := or_u32 m a hm16 ha16
      have hor16 := or_lt16 m a hm16 ha16
      have HJ2 : Hid (∀ j, (m ||| a).testBit j = true ↔ s.testBit j = true ∨ (j < n ∧ ∃ x ∈ l.take (k + 1), E x j = true)) := Lib.hid fun j => by
        rw [Nat.testBit_or, Bool.or_eq_true, HJ.out j, hab j, take_snoc' l k hlt, ← hv]
        constructor
        · rintro ((h | ⟨h, x, hx, he⟩) | h)
          · exact .inl h
          · exact .inr ⟨h, x, by simp [hx], he⟩
          · rw [Bool.and_eq_true, decide_eq_true_eq] at h
            exact .inr ⟨h.1, v, by simp, h.2⟩
        · rintro (h | ⟨h, x, hx, he⟩)
          · exact .inl (.inl h)
          · rcases List.mem_append.1 hx with h2 | h2
            · exact .inl (.inr ⟨h, x, h2, he⟩)
            · rw [List.mem_singleton] at h2
              subst h2
              exact .inr (by rw [he, decide_eq_true h]; rfl)
      generalize m ||| a = m2 at hor hor16 HJ2
      have HBR := HB
      clear hab hv
      go_wp2_with fail
      go_roundw
      case rel => exact ⟨k + 1, m2, by omega, by go_num, rfl, Lib.hid hor16, HJ2, HBR⟩
      case measure => simp [intOf]; omega
    · obtain rfl : k = l.length := by omega
      rw [List.take_length] at HJ
      have HEQ : Hid (((m : Int) == (M : Int)) = dec (RulB n E s)) := Lib.hid (by
        have key : m = M ↔ RulB n E s := by
          constructor
          · intro h u hu
            have h1 : m.testBit u = true := by rw [h, HM.out, testBit_firstOf, decide_eq_true_eq]; exact hu
            rcases (HJ.out u).1 h1 with h2 | ⟨_, v, hv, he⟩
            · exact .inl h2
            · exact .inr ⟨v, (HMEM.out v hv).1, he⟩
          · intro h
            refine Nat.eq_of_testBit_eq fun j => ?_
            rw [Bool.eq_iff_iff, HJ.out j, HM.out, testBit_firstOf, decide_eq_true_eq]
            constructor
            · rintro (h1 | ⟨h1, _⟩)
              · exact HIN.out j h1
              · exact h1
            · intro hj
              rcases h j hj with h1 | ⟨v, hv, he⟩
              · exact .inl h1
              · exact .inr ⟨hj, v, by rw [HL.out, mem_bitsOf' (by omega)]; exact hv, he⟩
        by_cases h : RulB n E s
        · rw [dec_true h, key.2 h]; simp
        · rw [dec_false h]
          exact beq_eq_false_iff_ne.2 fun e => h (key.1 (by omega)))
      go_wp2_with (go_at_call 106; refine (ALL.out _).mono ?_; rintro e w3 ⟨rfl, rfl⟩)
      go_ret
      exact ⟨ret_bool HEQ.out, HB2.out.trans (HB.out.mono HB2.out.size)⟩

def RulS (g : List (List Int)) (s : List Int) : Prop := GOk g ∧ SetIn g.length s ∧ RulB g.length (ofG g) (mask s)
set_option maxRecDepth 100000 in
set_option maxHeartbeats 4000000 in
theorem implRuleIn_any (v lv : Value) (g : List (List Int)) (s : List Int) (hgl : g.length ≤ 1000000000) (w : World) (hg : Gr w v g) (hn : Nums w 2 .i64 lv s) (hT : Tab w) :
    Calls Tryd.prog 33 #[v, lv] w fun e w' => e = .returned (.bool (dec (RulS g s))) ∧ Below w.heap.size w w' := by
  have hg0 := hg
  obtain ⟨u, rfl, hr⟩ := hg
  obtain ⟨p, c, rfl, _⟩ := hr.shape
  obtain ⟨lp, lc, rfl, _⟩ := id hn.shape
  obtain ⟨W0, hW0⟩ : ∃ W0, W0 = w.alloc (.cells #[.slice p g.length c] 29) := ⟨_, rfl⟩
  have hb0 : Below w.heap.size w W0 := by rw [hW0]; exact below_alloc _ _
  have HBX : Hid (Box W0 w.heap.size 29 (.slice p g.length c)) := Lib.hid (by rw [hW0]; exact Box.new _ _ _)
  have HG := Lib.hid (hg0.below hb0)
  have HN := Lib.hid (hn.below hb0)
  have HB0 := Lib.hid hb0
  have HT := Lib.hid (hT.keep hb0)
  have c0 := HBX.out.cell
  clear hr hg0 hn hb0 hT
  by_cases hset : GOk g ∧ SetIn g.length s
  case neg =>
    have HD := Lib.hid (dec_false hset)
    have HNO : Hid (¬ RulS g s) := Lib.hid fun k => hset ⟨k.1, k.2.1⟩
    clear hset
    go_enter Tryd.func33, Tryd.ntmps33
    go_upto_region 1 with fail
    rw [← hW0]
    clear hW0
    go_wp2_with (go_at_call 95; refine (implSetOk_any _ _ g s hgl _ HG.out HN.out).mono ?_; rintro e w3 ⟨he, hb3⟩; rw [HD.out] at he; subst he)
    go_ret
    exact ⟨ret_bool (false_dec HNO.out), HB0.out.trans (hb3.mono HB0.out.size)⟩
  have HD := Lib.hid (dec_true hset)
  have hok := hset.1
  have h16 := hok.le
  have HIN : Hid (∀ x ∈ s, 0 ≤ x ∧ x < 16) := Lib.hid fun x hx => by have := hset.2.1 x hx; omega
  have hm16 : mask s < 65536 := by
    have := mask_take_lt16 HIN.out s.length
    rwa [List.take_length] at this
  have hmn : ∀ i, (mask s).testBit i = true → i < g.length := fun i hi => by
    rw [testBit_mask, List.any_eq_true] at hi
    obtain ⟨x, hx, he⟩ := hi
    have h1 := hset.2.1 x hx
    have h2 : x.toNat = i := by simpa using he
    omega
  have HIFF : Hid (dec (RulB g.length (ofG g) (mask s)) = dec (RulS g s)) := Lib.hid (by
    by_cases h : RulB g.length (ofG g) (mask s)
    · rw [dec_true h, dec_true ⟨hok, hset.2, h⟩]
    · rw [dec_false h, dec_false fun k => h k.2.2])
  have HOK := Lib.hid hok
  obtain ⟨b, hb⟩ : ∃ b, b = mask s := ⟨_, rfl⟩
  have HMB := Lib.hid hb
  rw [← hb] at hm16 HIFF hmn
  have RUL : Hid (∀ (wz : World) (q : Option Addr) (d : Nat), NE wz (.slice q g.length d) g.length (ofG g) → Tab wz → Calls Tryd.prog 114 #[.slice q g.length d, .int .u32 (b : Int)] wz fun e w' => e = .returned (.bool (dec (RulS g s))) ∧ Below wz.heap.size wz w') := Lib.hid fun wz q d h ht => by
    have := rules_any q d g.length (ofG g) b hm16 hmn wz h ht
    rw [HIFF.out] at this
    exact this
  clear hok hset hb hmn
  go_enter Tryd.func33, Tryd.ntmps33
  go_upto_region 1 with fail
  rw [← hW0]
  clear hW0
  go_wp2_with (first
    | (go_at_call 114; refine (RUL.out _ _ _ HNA.out (HT.out.keep HB4.out)).mono ?_; rintro e w6 ⟨rfl, hb6⟩)
    | (have X := HB4; go_at_call 97; refine (maskOf_any _ s HIN.out _ (HN.out.below HB4.out)).mono ?_; rintro e w5 ⟨he, rfl⟩; rw [← HMB.out] at he; subst he)
    | (have X := HB3; go_at_call 89; refine (netsOf_any _ g _ (HG.out.below HB3.out) HOK.out).mono ?_; rintro e w4 ⟨x, rfl, ho, hb4⟩; have HNA := Lib.hid (neOfF HOK.out ho); obtain ⟨xp, xc, rfl, _⟩ := owns_capL ho; have HB4 := Lib.hid (HB3.out.trans (hb4.mono HB3.out.size)); clear ho hb4)
    | (go_at_call 95; refine (implSetOk_any _ _ g s hgl _ HG.out HN.out).mono ?_; rintro e w3 ⟨he, hb3⟩; rw [HD.out] at he; subst he; have HB3 := Lib.hid hb3; have e0 := hb3.at' c0))
  go_ret
  exact ⟨rfl, HB0.out.trans ((HB4.out.trans (hb6.mono HB4.out.size)).mono HB0.out.size)⟩

end Go.Proofs.YtkppbmfliejnmaaDoor

/- Plain facts: the greatest cliques are cliques that can not be made greater, and all of them are found. -/
namespace Go.Proofs.YtkppbmfliejnmaaDoor

/-- A clique within left, to which nothing of left or out can be put. -/
structure ClqM (E : Nat → Nat → Bool) (left out T : List Nat) : Prop where
  inl : ∀ y ∈ T, y ∈ left
  clq : T.Pairwise fun a b => E a b = true
  most : ∀ y, y ∈ left ∨ y ∈ out → y ∉ T → ∃ t ∈ T, E t y = false
theorem clF_sound {E : Nat → Nat → Bool} : ∀ (k : Nat) (set left out : List Nat), ∀ x ∈ clF E k set left out, ∃ T, x = set ++ T ∧ ClqM E left out T
  | 0, _, _, _, _, h => by simp [clF] at h
  | k + 1, set, left, out, x, h => by
    by_cases hh : left = [] ∧ out = []
    · obtain ⟨rfl, rfl⟩ := hh
      rw [clF_one] at h
      obtain rfl : x = set := by simpa using h
      exact ⟨[], by simp, ⟨by simp, by simp, by simp⟩⟩
    · rw [clF_more E k set left out hh, clTo, List.mem_flatMap] at h
      obtain ⟨i, hi, h⟩ := h
      rw [List.mem_range] at hi
      have hg : left.getD i 0 = left[i] := by simp [hi]
      rw [hg] at h
      obtain ⟨T, rfl, hT⟩ := clF_sound k _ _ _ x h
      refine ⟨left[i] :: T, by simp, ⟨fun y hy => ?_, List.pairwise_cons.2 ⟨fun y hy => (List.mem_filter.1 (hT.inl y hy)).2, hT.clq⟩, fun y hy hn => ?_⟩⟩
      · rcases List.mem_cons.1 hy with rfl | hy
        · exact List.getElem_mem hi
        · exact List.mem_of_mem_drop (List.mem_filter.1 (hT.inl y hy)).1
      · cases hE : E left[i] y
        · exact ⟨_, List.mem_cons_self .., hE⟩
        · have hne : y ≠ left[i] := fun e => hn (by rw [e]; exact List.mem_cons_self ..)
          have hnT : y ∉ T := fun e => hn (List.mem_cons_of_mem _ e)
          have hy2 : y ∈ (left.drop (i + 1)).filter (E left[i]) ∨ y ∈ (out ++ left.take i).filter (E left[i]) := by
            rcases hy with hy | hy
            · obtain ⟨j, hj, rfl⟩ := List.getElem_of_mem hy
              by_cases h1 : j < i
              · refine .inr (List.mem_filter.2 ⟨List.mem_append_right _ ?_, hE⟩)
                have := List.getElem_mem (l := left.take i) (n := j) (by rw [List.length_take]; omega)
                rwa [List.getElem_take] at this
              · by_cases h2 : j = i
                · subst h2; exact absurd rfl hne
                · refine .inl (List.mem_filter.2 ⟨?_, hE⟩)
                  have := List.getElem_mem (l := left.drop (i + 1)) (n := j - (i + 1)) (by rw [List.length_drop]; omega)
                  rw [List.getElem_drop] at this
                  have e : i + 1 + (j - (i + 1)) = j := by omega
                  simpa [e] using this
            · exact .inr (List.mem_filter.2 ⟨List.mem_append_left _ hy, hE⟩)
          obtain ⟨t, ht, he⟩ := hT.most y hy2 hnT
          exact ⟨t, List.mem_cons_of_mem _ ht, he⟩
theorem clF_all {E : Nat → Nat → Bool} (hirr : ∀ v, E v v = false) : ∀ (k : Nat) (set left out T : List Nat), left.length < k → left.Pairwise (· < ·) → T.Pairwise (· < ·) → ClqM E left out T → set ++ T ∈ clF E k set left out
  | 0, _, _, _, _, h, _, _, _ => absurd h (Nat.not_lt_zero _)
  | k + 1, set, left, out, [], _, _, _, hT => by
    have h1 : left = [] := List.eq_nil_iff_forall_not_mem.2 fun y hy => by
      obtain ⟨t, ht, _⟩ := hT.most y (.inl hy) (by simp)
      cases ht
    have h2 : out = [] := List.eq_nil_iff_forall_not_mem.2 fun y hy => by
      obtain ⟨t, ht, _⟩ := hT.most y (.inr hy) (by simp)
      cases ht
    subst h1 h2
    rw [clF_one]
    simp
  | k + 1, set, left, out, v :: T, hk, hl, hs, hT => by
    have hv := hT.inl v (List.mem_cons_self ..)
    obtain ⟨i, hi, rfl⟩ := List.getElem_of_mem hv
    have hne : ¬ (left = [] ∧ out = []) := fun h => by rw [h.1] at hi; simp at hi
    rw [clF_more E k set left out hne, clTo, List.mem_flatMap]
    refine ⟨i, List.mem_range.2 hi, ?_⟩
    have hg : left.getD i 0 = left[i] := by simp [hi]
    rw [hg]
    have hs1 := List.pairwise_cons.1 hs
    have hc1 := List.pairwise_cons.1 hT.clq
    have hlen : ((left.drop (i + 1)).filter (E left[i])).length < k := by
      have := List.length_filter_le (E left[i]) (left.drop (i + 1))
      rw [List.length_drop] at this
      omega
    have key : ClqM E ((left.drop (i + 1)).filter (E left[i])) ((out ++ left.take i).filter (E left[i])) T := by
      refine ⟨fun y hy => ?_, hc1.2, fun y hy hn => ?_⟩
      · obtain ⟨j, hj, rfl⟩ := List.getElem_of_mem (hT.inl y (List.mem_cons_of_mem _ hy))
        have hij : i < j := Decidable.byContradiction fun h => by
          have h3 := hs1.1 _ hy
          by_cases e : j = i
          · subst e; omega
          · have := List.pairwise_iff_getElem.1 hl j i hj hi (by omega)
            omega
        refine List.mem_filter.2 ⟨?_, hc1.1 _ hy⟩
        have := List.getElem_mem (l := left.drop (i + 1)) (n := j - (i + 1)) (by rw [List.length_drop]; omega)
        rw [List.getElem_drop] at this
        have e : i + 1 + (j - (i + 1)) = j := by omega
        simpa [e] using this
      · have hE : E left[i] y = true := by
          rcases hy with hy | hy
          · exact (List.mem_filter.1 hy).2
          · exact (List.mem_filter.1 hy).2
        have hy2 : y ∈ left ∨ y ∈ out := by
          rcases hy with hy | hy
          · exact .inl (List.mem_of_mem_drop (List.mem_filter.1 hy).1)
          · rcases List.mem_append.1 (List.mem_filter.1 hy).1 with h | h
            · exact .inr h
            · exact .inl (List.mem_of_mem_take h)
        have hyn : y ∉ left[i] :: T := fun h => by
          rcases List.mem_cons.1 h with e | h
          · rw [e, hirr] at hE; cases hE
          · exact hn h
        obtain ⟨t, ht, he⟩ := hT.most y hy2 hyn
        rcases List.mem_cons.1 ht with rfl | ht
        · rw [hE] at he; cases he
        · exact ⟨t, ht, he⟩
    have := clF_all hirr k (set ++ [left[i]]) _ ((out ++ left.take i).filter (E left[i])) T hlen ((hl.sublist (List.drop_sublist _ _)).filter _) hs1.2 key
    simpa using this

end Go.Proofs.YtkppbmfliejnmaaDoor

/- Walk: the program says whether a vertex may be pruned so. -/
namespace Go.Proofs.YtkppbmfliejnmaaDoor
open Go.RowKit

theorem netL_lenP (g : List (List Int)) : (netL g).length = g.length := by simp [netL]

/-- What the walk needs of the sets. -/
structure NetI (w : World) (x : Value) (g : List (List Int)) (s : Nat) : Prop where
  ok : LOk g s
  sl : Sl w 70 x g.length ((netL g).map u32v)
theorem NetI.next {w w' : World} {x : Value} {g : List (List Int)} {s : Nat} (h : NetI w x g s) (hb : Below w.heap.size w w') : NetI w' x g s := ⟨h.ok, h.sl.below hb⟩
theorem NetI.get {w : World} {p : Option Addr} {n c : Nat} {g : List (List Int)} {s : Nat} (h : NetI w (.slice p n c) g s) {v : Nat} (hv : v < g.length) :
    ∃ (b o : Nat) (a : Int), p = some ⟨b, o, none⟩ ∧ w.cell? ⟨b, o + v, none⟩ = some (.int .u32 a) ∧ bits BinOp.and IntKind.u32 a (s : Int) = ((mask (row g v) &&& s : Nat) : Int) := by
  have hvl : v < (netL g).length := by rw [netL_lenP]; exact hv
  obtain ⟨b, o, h1, h2⟩ := nets_cell (a := netL g) (by rw [netL_lenP]; exact h.sl) hvl
  have h3 := and_near (netL_lt h.ok.ok) hvl h.ok.s16
  rw [netL_getD] at h3
  exact ⟨b, o, _, h1, h2, h3⟩

theorem goP_aloneN {g : List (List Int)} {s : Nat} (h : LOk g s) {v : Nat} (hv : v < g.length) : GoP g (natInts (bitsOf s)) v (-1) 1 ↔ mask (row g v) &&& s = 0 := by
  rw [alone_mask h hv]
  constructor
  · rintro (⟨_, _, h1⟩ | ⟨h1, _⟩)
    · rwa [Int.toNat_natCast] at h1
    · obtain ⟨i, e, _⟩ := (mem_bitsZ h.s16).1 h1
      omega
  · intro h1
    exact .inl ⟨rfl, rfl, by rw [Int.toNat_natCast]; exact h1⟩
theorem goP_oneN {g : List (List Int)} {L : List Int} {v b : Int} (hb : b ≠ -1) : ¬ GoP g L v b 1 := by
  rintro (⟨_, h, _⟩ | ⟨_, _, h⟩)
  · exact hb h
  · have := condP_kind h; omega
theorem goP_outN {g : List (List Int)} {L : List Int} {v b k : Int} (hk : 2 ≤ k) (hb : ¬ (b ∈ L ∧ b ≠ v)) : ¬ GoP g L v b k := by
  rintro (⟨h, _⟩ | ⟨h1, h2, _⟩)
  · omega
  · exact hb ⟨h1, h2⟩
theorem goP_twoN {g : List (List Int)} {s : Nat} (h : LOk g s) {v b : Nat} (hv : v < g.length) (hb : s.testBit b = true) (hvb : b ≠ v) : GoP g (natInts (bitsOf s)) v b 2 ↔ mask (row g v) &&& s = 2 ^ b := by
  rw [pend_mask h hv hb]
  constructor
  · rintro (⟨h1, _⟩ | ⟨_, _, h1⟩)
    · omega
    · rcases h1 with ⟨_, h1⟩ | ⟨h1, _⟩ | ⟨h1, _⟩
      · simpa only [Int.toNat_natCast] using h1
      · omega
      · omega
  · intro h1
    exact .inr ⟨(mem_bitsI h.s16).2 hb, by omega, .inl ⟨rfl, by simpa only [Int.toNat_natCast] using h1⟩⟩
theorem goP_threeN {g : List (List Int)} {s : Nat} (h : LOk g s) {v b : Nat} (hv : s.testBit v = true) (hb : s.testBit b = true) (hvb : b ≠ v) : GoP g (natInts (bitsOf s)) v b 3 ↔ mask (row g v) &&& s = mask (row g b) &&& s := by
  rw [false_mask h hv hb (fun e => hvb e.symm)]
  constructor
  · rintro (⟨h1, _⟩ | ⟨_, _, h1⟩)
    · omega
    · rcases h1 with ⟨h1, _⟩ | ⟨_, h1⟩ | ⟨h1, _⟩
      · omega
      · simpa only [Int.toNat_natCast] using h1
      · omega
  · intro h1
    exact .inr ⟨(mem_bitsI h.s16).2 hb, by omega, .inr (.inl ⟨rfl, by simpa only [Int.toNat_natCast] using h1⟩)⟩
theorem goP_fourN {g : List (List Int)} {s : Nat} (h : LOk g s) {v b : Nat} (hv : s.testBit v = true) (hb : s.testBit b = true) (hvb : b ≠ v) :
    GoP g (natInts (bitsOf s)) v b 4 ↔ ((mask (row g v) &&& s).testBit b = true ∧ sub (mask (row g v) &&& s) (2 ^ b) = sub (mask (row g b) &&& s) (2 ^ v)) := by
  rw [true_mask h hv hb (fun e => hvb e.symm)]
  constructor
  · rintro (⟨h1, _⟩ | ⟨_, _, h1⟩)
    · omega
    · rcases h1 with ⟨h1, _⟩ | ⟨h1, _⟩ | ⟨_, h1⟩
      · omega
      · omega
      · simpa only [Int.toNat_natCast] using h1
  · intro h1
    exact .inr ⟨(mem_bitsI h.s16).2 hb, by omega, .inr (.inr ⟨rfl, by simpa only [Int.toNat_natCast] using h1⟩)⟩

end Go.Proofs.YtkppbmfliejnmaaDoor

/- Walks: growCliques. -/
namespace Go.Proofs.YtkppbmfliejnmaaDoor
open Go.RowKit

def adG (g : List (List Int)) : Nat → Nat → Bool := fun r j => decide ((j : Int) ∈ row g r)
/-- What stands below: the nets of a right graph. -/
structure ClBase (wB : World) (g : List (List Int)) (xp : Option Addr) (xc : Nat) : Prop where
  ok : GOk g
  sl : Sl wB 70 (.slice xp g.length xc) g.length ((netL g).map u32v)
  tab : Tab wB

theorem tyC_vsets : SlTy Tryd.prog 72 70 (.int .u32 0) 1 4 := ⟨Tryd.underlying72, by kernel_rfl, rfl, by decide, by decide⟩
def mskC (ps : List (List Nat)) : List Nat := ps.map fun l => mask (natInts l)
def mskV (L : List (List Nat)) : List Value := (mskC L).map u32v
theorem mskV_app (L M : List (List Nat)) : mskV (L ++ M) = mskV L ++ mskV M := by simp [mskV, mskC]
theorem mskV_length (L : List (List Nat)) : (mskV L).length = L.length := by simp [mskV, mskC]

theorem owns_shapeC {w : World} {base : Nat} {E : TypeId} {size n : Nat} {v : Value} {xs : List Value} (h : w.ownsRow base E size v n xs) : ∃ p c, v = .slice p n c := by
  rcases h.2 with ⟨rfl, h0⟩ | ⟨b, c, _, rfl, _⟩
  · exact ⟨none, 0, by rw [h0]⟩
  · exact ⟨_, _, rfl⟩
theorem left16 {n o : Nat} (hn : n ≤ 16) {left : List Nat} (h : left = bitsOf o) (hl : ∀ j ∈ left, j < n) : left.length ≤ 16 := by
  by_cases he : left = []
  · rw [he]; simp
  · have := rising_room (lo := 0) (n := n) (h ▸ bitsOf_rising o) (fun x hx => ⟨Nat.zero_le _, hl x hx⟩) he
    omega
theorem grown_comp {a b c : World} {r0 : Option Nat} {so : Value} (h : a.grownBy b r0) (hf : ∀ x, so.ownBlock = some x → r0 = some x ∨ a.heap.size ≤ x) (k : b.grownBy c so.ownBlock) : a.grownBy c r0 :=
  ⟨k.os.trans h.os, k.tape.trans h.tape, k.output.trans h.output, Nat.le_trans h.size k.size, fun i hi hr => (k.block i (Nat.lt_of_lt_of_le hi h.size) fun e => by
    rcases hf i e.symm with h1 | h1
    · exact hr h1.symm
    · omega).trans (h.block i hi hr)⟩
theorem grown_of_belowC {a b : World} (h : Below a.heap.size a b) (r : Option Nat) : a.grownBy b r := ⟨h.os, h.tape, h.output, h.size, fun k hk _ => h.block k hk⟩
theorem adG_bit {g : List (List Int)} (hg : GOk g) {v : Nat} (hv : v < g.length) (j : Nat) : ((netL g).getD v 0).testBit j = true ↔ adG g v j = true := by
  rw [netL_getD, testBit_row hg hv, adG, decide_eq_true_iff]
theorem adG_irr {g : List (List Int)} (hg : GOk g) {v : Nat} (hv : v < g.length) : adG g v v = false := by
  rw [adG, decide_eq_false_iff_not]
  exact (hg.sets v hv).2
/-- What growCliques leaves. -/
def ClR (wB : World) (L : List (List Nat)) (w : World) (ov : Value) (e : Ending) (w' : World) : Prop :=
  ∃ v', e = .returned v' ∧ w'.ownsRow wB.heap.size 70 1 v' L.length (mskV L) ∧ w.grownBy w' ov.ownBlock ∧ ∀ b, v'.ownBlock = some b → ov.ownBlock = some b ∨ w.heap.size ≤ b

set_option maxRecDepth 100000 in
set_option maxHeartbeats 4000000 in
theorem growCliques_any (g : List (List Int)) (xp : Option Addr) (xc : Nat) (wB : World) (hB : ClBase wB g xp xc) : ∀ (k : Nat) (set left out : List Nat) (yc yo ys : Int) (c o s : Nat), yc = c → yo = o → ys = s → c < 65536 → o < 65536 → s < 65536 →
    (∀ j, c.testBit j = true ↔ j ∈ set) → left = bitsOf o → (∀ j ∈ left, j < g.length) → (∀ j, s.testBit j = true ↔ j ∈ out) → left.length < k →
    ∀ (w : World) (ov : Value) (L0 : List (List Nat)), Below wB.heap.size wB w → w.ownsRow wB.heap.size 70 1 ov L0.length (mskV L0) → L0.length + 2 ^ left.length ≤ 1000000 →
    Calls Tryd.prog 187 #[.slice xp g.length xc, .int .u32 yc, .int .u32 yo, .int .u32 ys, ov] w fun e w' => ClR wB (L0 ++ clF (adG g) k set left out) w ov e w' := by
  intro k
  have HB := Lib.hid hB
  have h16 := hB.ok.le
  clear hB
  induction k with
  | zero => intro _ _ _ _ _ _ _ _ _ _ _ _ _ _ _ _ _ _ _ h; exact absurd h (Nat.not_lt_zero _)
  | succ k ih =>
    rintro set left out _ _ _ c o s rfl rfl rfl hc16 ho16 hs16 hcs hle hlt hso hk w ov L0 hbel hown hcap
    have IH := Lib.hid ih
    have HCS := Lib.hid hcs
    have HLE := Lib.hid hle
    have HLT := Lib.hid hlt
    have HSO := Lib.hid hso
    have HBEL := Lib.hid hbel
    have HOWN := Lib.hid hown
    have hsz := hbel.size
    clear ih hcs hle hlt hso hbel hown
    by_cases h0 : o = 0
    · have hl0 : Hid (left = []) := Lib.hid (by rw [HLE.out, h0, bitsOf_zero])
      by_cases hs0 : s = 0
      · have ho0 : Hid (out = []) := Lib.hid (by
          refine List.eq_nil_iff_forall_not_mem.2 fun j hj => ?_
          have := (HSO.out j).2 hj
          rw [hs0] at this
          simp at this)
        subst h0 hs0
        have HC : Hid (mask (natInts set) = c) := Lib.hid (Nat.eq_of_testBit_eq fun j => by rw [mask_bit, Bool.eq_iff_iff, decide_eq_true_iff, HCS.out])
        have hown := HOWN.out
        have hcap2 : L0.length < 1000000000 := by have := Nat.two_pow_pos left.length; omega
        go_enter Tryd.func187, Tryd.ntmps187
        go_wp2_with (at_builtin; refine wpList_app1 tyC_vsets rfl rfl rfl hown rfl rfl hcap2 hsz ?_; intro v' w1 hown' hg hfr)
        go_ret
        refine ⟨v', rfl, ?_, hg, fun b hb => (hfr b hb).imp id fun h => by omega⟩
        rw [hl0.out, ho0.out, clF_one, mskV_app, List.length_append]
        have e : mskV [set] = [.int .u32 (c : Int)] := by simp [mskV, mskC, HC.out, u32v]
        rw [e]
        exact hown'
      · have ho0 : Hid (out ≠ []) := Lib.hid (fun h => by
          refine hs0 (Nat.eq_of_testBit_eq fun j => ?_)
          rw [Nat.zero_testBit]
          refine Decidable.byContradiction fun hb => ?_
          have := (HSO.out j).1 (by simpa using hb)
          rw [h] at this
          simp at this)
        subst h0
        go_enter Tryd.func187, Tryd.ntmps187
        go_wp2
        go_ret
        refine ⟨_, rfl, ?_, World.grownBy.refl _ _, fun b hb => .inl hb⟩
        rw [hl0.out, clF_none _ _ _ _ ho0.out, List.append_nil]
        exact HOWN.out
    · have HNE : Hid (left ≠ []) := Lib.hid (fun h => h0 (by
        rw [← mask_bitsOf ho16, ← HLE.out, h]
        rfl))
      have hl32 := Lib.hid (left16 h16 HLE.out HLT.out)
      have hT := HB.out.tab.below HBEL.out HB.out.tab.pos
      have HT := Lib.hid hT
      clear hT
      go_enter Tryd.func187, Tryd.ntmps187
      go_wp2_with (go_at_call 180; refine (list_any _ o rfl (by omega) _ HT.out).mono ?_; rintro e w1 ⟨lv, rfl, ho1, hb1⟩; rw [← HLE.out] at ho1; obtain ⟨lp, lc, rfl⟩ := owns_shapeC ho1)
      have HL1 := Lib.hid (show Nums w1 3 .i64 (.slice lp left.length lc) (natInts left) from numsInt_of _ _ _ _ ho1 (by have := hl32.out; omega))
      have HG1 := Lib.hid (grown_of_belowC hb1 ov.ownBlock)
      have HO1 := Lib.hid (ownsRow_below HOWN.out hb1)
      clear ho1 hb1
      go_loopw [2, 3, 4, 25] (fun so ss sr i wr => ∃ (m oN sN : Nat), m ≤ left.length ∧ i = .int .i64 m ∧ so = .int .u32 oN ∧ ss = .int .u32 sN ∧ oN < 65536 ∧ sN < 65536 ∧ (∀ j, oN.testBit j = true ↔ j ∈ left.drop m) ∧ (∀ j, sN.testBit j = true ↔ j ∈ out ++ left.take m) ∧
        wr.ownsRow wB.heap.size 70 1 sr (L0 ++ clTo (adG g) k set left out m).length (mskV (L0 ++ clTo (adG g) k set left out m)) ∧ w.grownBy wr ov.ownBlock ∧ (∀ b, sr.ownBlock = some b → ov.ownBlock = some b ∨ w.heap.size ≤ b) ∧ Nums wr 3 .i64 (.slice lp left.length lc) (natInts left)) (fun _ _ _ i _ => left.length - (intOf i).toNat)
      case atStart =>
        refine ⟨0, o, s, Nat.zero_le _, rfl, rfl, rfl, ho16, hs16, fun j => ?_, fun j => ?_, ?_, HG1.out, fun b hb => .inl hb, HL1.out⟩
        · rw [List.drop_zero, HLE.out, mem_bitsOf' (by omega)]
        · rw [List.take_zero, List.append_nil, HSO.out]
        · rw [clTo_zero, List.append_nil]
          exact HO1.out
      case round =>
        obtain ⟨m, oN, sN, hm, rfl, rfl, rfl, hoN, hsN, hob, hsb, hown, hgr, hfr, hL⟩ := hrel
        have HOB := Lib.hid hob
        have HSB := Lib.hid hsb
        have HOW := Lib.hid hown
        have HGR := Lib.hid hgr
        have HFR := Lib.hid hfr
        have HL := Lib.hid hL
        have hszr := hgr.size
        have HBR := Lib.hid (below_grown HBEL.out HOWN.out hgr (Nat.le_refl _) hsz)
        clear hob hsb hown hgr hfr hL
        by_cases hlt : m < left.length
        · obtain ⟨_, _, e1, _, _, _, hat⟩ := HL.out.shape
          simp only [Value.slice.injEq] at e1
          obtain ⟨e1a, -, e1c⟩ := e1
          subst e1a e1c
          obtain ⟨b, o1, rfl, hcell⟩ := hat.num (k := m) (by rw [natInts_length]; exact hlt)
          rw [natInts_atL hlt] at hcell
          have HLTm := Lib.hid hlt
          have hvg := HLT.out _ (List.getElem_mem hlt)
          have hgd : Hid (left.getD m 0 = left[m]'hlt) := Lib.hid (by rw [List.getD_eq_getElem?_getD, List.getElem?_eq_getElem hlt]; rfl)
          have hdr : Hid (left.drop m = left[m]'hlt :: left.drop (m + 1)) := Lib.hid (List.drop_eq_getElem_cons hlt)
          have hris : Hid (left.Pairwise (· < ·)) := Lib.hid (HLE.out ▸ bitsOf_rising o)
          generalize hV : left[m]'hlt = v at hcell hvg
          have HV := Lib.hid hV
          clear hV hat
          obtain ⟨nb, no, rfl, hncB⟩ := nets_cell (a := netL g) (by rw [netL_lenP]; exact HB.out.sl) (v := v) (by rw [netL_lenP]; exact hvg)
          have hnc := HBR.out.at' hncB
          have hnv : Hid ((netL g).getD v 0 = (netL g)[v]'(by rw [netL_lenP]; exact hvg)) := Lib.hid (by rw [List.getD_eq_getElem?_getD, List.getElem?_eq_getElem (by rw [netL_lenP]; exact hvg)]; rfl)
          have hn16 := netL_lt HB.out.ok _ (List.getElem_mem (l := netL g) (by rw [netL_lenP]; exact hvg))
          generalize hNV : (netL g)[v]'(by rw [netL_lenP]; exact hvg) = nv at hnc hncB hn16
          have HNB := Lib.hid hncB
          have HNV := Lib.hid hNV
          obtain ⟨t, ht⟩ : ∃ t, t = 2 ^ v := ⟨_, rfl⟩
          have ht16 : t < 65536 := by rw [ht]; exact pow_lt16 v (by omega)
          have HTT := Lib.hid ht
          have hOr := Lib.hid (u32_or_nat c t (by omega) (by omega))
          have hA1 := Lib.hid (u32_and_nat oN nv (by omega) (by omega))
          have hA2 := Lib.hid (u32_and_nat sN nv (by omega) (by omega))
          have hN1 := Lib.hid (u32_andNot_nat oN t (by omega) (by omega))
          have hN2 := Lib.hid (u32_or_nat sN t (by omega) (by omega))
          clear hNV ht hncB
          have e0 : (0 : Int) ≤ (v : Int) := by omega
          have e1 : (v : Int) < (g.length : Int) := by omega
          go_upto_region 8 with fail
          go_cut [4] (fun s4 wx => wx.ownsRow wB.heap.size 70 1 s4 (L0 ++ clTo (adG g) k set left out (m + 1)).length (mskV (L0 ++ clTo (adG g) k set left out (m + 1))) ∧ wr.grownBy wx u4.ownBlock ∧ (∀ b, s4.ownBlock = some b → u4.ownBlock = some b ∨ wr.heap.size ≤ b))
          case first =>
            have hgv : Hid (left.getD m 0 = v) := Lib.hid (hgd.out.trans HV.out)
            have hbc : c ||| t < 65536 := or_lt16 _ _ hc16 ht16
            have hba1 : oN &&& nv < 65536 := and_lt16 _ _ hoN
            have hba2 : sN &&& nv < 65536 := and_lt16 _ _ hsN
            have hnb : ∀ j, nv.testBit j = true ↔ adG g v j = true := fun j => by rw [← HNV.out, ← hnv.out]; exact adG_bit HB.out.ok hvg j
            have HA : Hid (∀ j, (c ||| t).testBit j = true ↔ j ∈ set ++ [left.getD m 0]) := Lib.hid (fun j => by
              rw [Nat.testBit_or, Bool.or_eq_true, HCS.out, HTT.out, Nat.testBit_two_pow, decide_eq_true_iff, hgv.out, List.mem_append, List.mem_singleton]
              exact or_congr Iff.rfl ⟨fun h => h.symm, fun h => h.symm⟩)
            have HBB : Hid ((left.drop (m + 1)).filter (adG g (left.getD m 0)) = bitsOf (oN &&& nv)) := Lib.hid (by
              refine rising_ext _ _ ((hris.out.sublist (List.drop_sublist _ _)).filter _) (bitsOf_rising _) fun j => ?_
              rw [mem_bitsOf' (by omega), Nat.testBit_and, Bool.and_eq_true, HOB.out, hnb, List.mem_filter, hgv.out, hdr.out, List.mem_cons, HV.out]
              constructor
              · rintro ⟨h1, h2⟩
                exact ⟨.inr h1, h2⟩
              · rintro ⟨rfl | h1, h2⟩
                · rw [adG_irr HB.out.ok hvg] at h2
                  exact nomatch h2
                · exact ⟨h1, h2⟩)
            have HCC : Hid (∀ j, (sN &&& nv).testBit j = true ↔ j ∈ (out ++ left.take m).filter (adG g (left.getD m 0))) := Lib.hid (fun j => by
              rw [Nat.testBit_and, Bool.and_eq_true, HSB.out, hnb, List.mem_filter, hgv.out])
            have hflen : Hid (((left.drop (m + 1)).filter (adG g (left.getD m 0))).length ≤ left.length - (m + 1)) := Lib.hid (Nat.le_trans (List.length_filter_le _ _) (by rw [List.length_drop]; omega))
            have HCAP : Hid ((L0 ++ clTo (adG g) k set left out m).length + 2 ^ ((left.drop (m + 1)).filter (adG g (left.getD m 0))).length ≤ 1000000) := Lib.hid (by
              have h1 := clTo_len (E := adG g) (k := k) (set := set) (left := left) (out := out) (i := m) (by omega)
              have h2 := Nat.pow_le_pow_right (show 0 < 2 by decide) (show ((left.drop (m + 1)).filter (adG g (left.getD m 0))).length ≤ left.length - m by have := hflen.out; omega)
              rw [List.length_append]
              omega)
            have HSUB : Hid (∀ j ∈ (left.drop (m + 1)).filter (adG g (left.getD m 0)), j < g.length) := Lib.hid (fun j hj => HLT.out j (List.mem_of_mem_drop (List.mem_filter.1 hj).1))
            clear hnb
            go_region_held3 (fun w' => w'.cell? ⟨nb, no + v, none⟩ = some (.int .u32 nv))
              (first | go_keep | exact hnc | exact hnc4)
              (first
                | (go_at_call 187; refine (IH.out (set ++ [left.getD m 0]) ((left.drop (m + 1)).filter (adG g (left.getD m 0))) ((out ++ left.take m).filter (adG g (left.getD m 0))) _ _ _ (c ||| t) (oN &&& nv) (sN &&& nv) hOr.out hA1.out hA2.out hbc hba1 hba2 HA.out HBB.out HSUB.out HCC.out (by have := hflen.out; omega) _ u4 (L0 ++ clTo (adG g) k set left out m) (below_dN HBR.out 1) (ownsRow_below HOW.out (below_dN (Below.refl _ _) 1)) HCAP.out).mono ?_; rintro e w4 ⟨v4, rfl, ho4, hg4, hf4⟩; have BW4 : Below wB.heap.size wB w4 := below_grown (below_dN HBR.out 1) (ownsRow_below HOW.out (below_dN (Below.refl _ _) 1)) hg4 (Nat.le_refl _) (below_dN HBR.out 1).size; have hnc4 := BW4.at' HNB.out; have HO4 := Lib.hid ho4; have HG4 := Lib.hid hg4; have HF4 := Lib.hid hf4; clear ho4 hg4 hf4)
                | (go_at_call 156; refine (one_any _ v rfl (by omega) _).mono ?_; rintro e w2 ⟨he2, hw2⟩; rw [← HTT.out] at he2; subst he2; subst hw2))
            all_goals go_wp2
            all_goals go_meet
            all_goals exact ⟨by rw [clTo_succ, ← List.append_assoc]; exact HO4.out, ⟨HG4.out.os, HG4.out.tape, HG4.out.output, HG4.out.size, HG4.out.block⟩, HF4.out⟩
          case rest =>
            obtain ⟨ho4, hg4, hf4⟩ := hcut
            have HL4 := Lib.hid (Sl.other HL.out HOW.out hg4 (by decide))
            have HO4 := Lib.hid ho4
            have HG4 := Lib.hid (grown_comp HGR.out HFR.out hg4)
            have HF4 := Lib.hid (show ∀ b, _ → ov.ownBlock = some b ∨ w.heap.size ≤ b from fun b hb => (hf4 b hb).elim (HFR.out b) fun h => .inr (by omega))
            clear ho4 hg4 hf4
            have h16m := hl32.out
            go_wp2_with (go_at_call 156; refine (one_any _ v rfl (by omega) _).mono ?_; rintro e w2 ⟨he2, hw2⟩; rw [← HTT.out] at he2; subst he2; subst hw2)
            go_roundw
            case rel =>
              refine ⟨m + 1, sub oN t, sN ||| t, by omega, by go_num, by rw [hN1.out]; rfl, by rw [hN2.out], sub_lt16 _ _ hoN, or_lt16 _ _ hsN ht16, fun j => ?_, fun j => ?_, HO4.out, HG4.out, HF4.out, HL4.out⟩
              · have hdr2 := hdr.out
                rw [HV.out] at hdr2
                have hnd := (hris.out.sublist (List.drop_sublist m left))
                rw [hdr2] at hnd
                rw [testBit_sub _ _ (by omega) (by omega), Bool.and_eq_true, HOB.out, hdr2, HTT.out, Nat.testBit_two_pow, List.mem_cons]
                constructor
                · rintro ⟨h1 | h1, h2⟩
                  · rw [h1] at h2
                    simp at h2
                  · exact h1
                · intro h1
                  refine ⟨.inr h1, ?_⟩
                  have := (List.pairwise_cons.1 hnd).1 j h1
                  simp
                  omega
              · rw [Nat.testBit_or, Bool.or_eq_true, HSB.out, HTT.out, Nat.testBit_two_pow, decide_eq_true_iff, take_snoc left m HLTm.out, ← List.append_assoc, List.mem_append (t := [_]), List.mem_singleton, HV.out]
                exact or_congr Iff.rfl ⟨fun h => h.symm, fun h => h.symm⟩
            case measure => simp [intOf]; omega
        · obtain rfl : m = left.length := by omega
          go_wp2
          go_ret
          refine ⟨_, rfl, ?_, HGR.out, HFR.out⟩
          rw [clF_more _ _ _ _ _ (fun h => HNE.out h.1)]
          exact HOW.out

end Go.Proofs.YtkppbmfliejnmaaDoor
