/- Walks: slices.Compare at numbers; compareSets. -/
import Derived.Test.YtmakhapdlkbbnaaDoorMlQ31
import Derived.Test.YtmakhapdlkbbnaaDoorMlQ14
import Derived.Deep.RegionHeld3
import Derived.Deep.DeepCutAuto
namespace Go.Proofs.YtmakhapdlkbbnaaDoor
open Go.RowKit Go.Sort

set_option maxHeartbeats 400000 in
theorem isNaN_int (x : Int) (w : World) : Calls Tryd.prog 251 #[.int .i64 x] w fun e w' => e = .returned (.bool false) ∧ w = w' := by
  go_enter Tryd.func251, Tryd.ntmps251
  go_wp2
  go_ret
  exact ⟨ret_bool (by simp), rfl⟩
set_option maxHeartbeats 400000 in
theorem cmp_less (x y : Int) (h : x < y) (w : World) : Calls Tryd.prog 236 #[.int .i64 x, .int .i64 y] w fun e w' => e = .returned (.int .i64 (-1)) ∧ w = w' := by
  go_enter Tryd.func236, Tryd.ntmps236
  go_wp2_with (go_at_call 251; refine (isNaN_int _ _).mono ?_; rintro e w' ⟨rfl, rfl⟩)
  go_ret
  exact ⟨rfl, rfl⟩
set_option maxHeartbeats 400000 in
theorem cmp_more (x y : Int) (h : y < x) (w : World) : Calls Tryd.prog 236 #[.int .i64 x, .int .i64 y] w fun e w' => e = .returned (.int .i64 1) ∧ w = w' := by
  have h2 : ¬ x < y := by omega
  go_enter Tryd.func236, Tryd.ntmps236
  go_wp2_with (go_at_call 251; refine (isNaN_int _ _).mono ?_; rintro e w' ⟨rfl, rfl⟩)
  go_ret
  exact ⟨rfl, rfl⟩
set_option maxHeartbeats 400000 in
theorem cmp_same (x y : Int) (h : x = y) (w : World) : Calls Tryd.prog 236 #[.int .i64 x, .int .i64 y] w fun e w' => e = .returned (.int .i64 0) ∧ w = w' := by
  subst h
  have h2 : ¬ x < x := by omega
  go_enter Tryd.func236, Tryd.ntmps236
  go_wp2_with (go_at_call 251; refine (isNaN_int _ _).mono ?_; rintro e w' ⟨rfl, rfl⟩)
  go_ret
  exact ⟨rfl, rfl⟩

theorem cmpL_neg {a b : List Nat} (h : lexL a b) : cmpL a b = -1 := if_pos h
theorem cmpL_pos {a b : List Nat} (h : lexL b a) : cmpL a b = 1 := by
  unfold cmpL
  rw [if_neg fun k => lexL_irrefl a (lexL_trans k h), if_pos h]
theorem cmpL_zero {a b : List Nat} (h : a = b) : cmpL a b = 0 := by
  subst h
  unfold cmpL
  rw [if_neg (lexL_irrefl a), if_neg (lexL_irrefl a)]
theorem lexL_pre : ∀ {a b : List Nat}, a.length < b.length → a = b.take a.length → lexL a b
  | [], [], h, _ => absurd h (by simp)
  | [], _ :: _, _, _ => trivial
  | _ :: _, [], h, _ => absurd h (by simp)
  | x :: a, y :: b, h, k => by
    simp only [List.length_cons, List.take_succ_cons, List.cons.injEq] at k
    simp only [List.length_cons] at h
    exact .inr ⟨k.1, lexL_pre (by omega) k.2⟩

set_option maxRecDepth 100000 in
set_option maxHeartbeats 2000000 in
theorem slCompare_any (u v : Value) (xs ys : List Nat) (w : World) (hx : Nums w 3 .i64 u (natInts xs)) (hy : Nums w 3 .i64 v (natInts ys)) :
    Calls Tryd.prog 222 #[u, v] w fun e w' => e = .returned (.int .i64 (cmpL xs ys)) ∧ ∃ q, w' = w.drewN q := by
  obtain ⟨p, c, rfl, hp, _, hn, hat⟩ := hx
  obtain ⟨p', c', rfl, hp', _, hn', hat'⟩ := hy
  rw [natInts_length] at hn hn'
  have Hat := Lib.hid hat
  have Hat' := Lib.hid hat'
  clear hat hat'
  simp only [natInts_length] at *
  go_enter Tryd.func222, Tryd.ntmps222
  go_wp2
  go_loopw [11] (fun i wr => ∃ k : Nat, k ≤ xs.length ∧ i = .int .i64 k ∧ k ≤ ys.length ∧ xs.take k = ys.take k ∧ ∃ q, wr = w.drewN q) (fun i _ => xs.length - (intOf i).toNat)
  case atStart => exact ⟨0, Nat.zero_le _, rfl, Nat.zero_le _, by simp, 0, rfl⟩
  case round =>
    obtain ⟨k, hk, rfl, hky, heq, q, rfl⟩ := hrel
    have Heq := Lib.hid heq
    clear heq
    by_cases hlt : k < xs.length
    · obtain ⟨b, o, rfl, hcell⟩ := Hat.out.num (k := k) (by rw [natInts_length]; exact hlt)
      rw [natInts_atL hlt] at hcell
      have e0 : (0 : Int) ≤ (k : Int) := by omega
      have e1 : (k : Int) < (xs.length : Int) := by omega
      have HLT := Lib.hid hlt
      by_cases hlt' : k < ys.length
      · obtain ⟨b', o', rfl, hcell'⟩ := Hat'.out.num (k := k) (by rw [natInts_length]; exact hlt')
        rw [natInts_atL hlt'] at hcell'
        have e2 : (k : Int) < (ys.length : Int) := by omega
        have HLT' := Lib.hid hlt'
        have H1 := Lib.hid (lexL_at k xs ys hlt hlt' Heq.out)
        have H2 := Lib.hid (lexL_at k ys xs hlt' hlt Heq.out.symm)
        generalize hX : xs[k]'hlt = x at hcell
        generalize hY : ys[k]'hlt' = y at hcell'
        have HX := Lib.hid hX
        have HY := Lib.hid hY
        clear hX hY
        rcases Nat.lt_trichotomy x y with h | h | h
        · have hi : (x : Int) < (y : Int) := by omega
          have HL : Hid (lexL xs ys) := Lib.hid ((H1.out (by rw [HX.out, HY.out]; omega)).2 (by rw [HX.out, HY.out]; exact h))
          clear h
          go_wp2_with (go_at_call 236; refine (cmp_less _ _ hi _).mono ?_; rintro e w' ⟨rfl, rfl⟩)
          go_ret
          exact ⟨by rw [cmpL_neg HL.out]; rfl, _, rfl⟩
        · subst h
          go_wp2_with (go_at_call 236; refine (cmp_same _ _ rfl _).mono ?_; rintro e w' ⟨rfl, rfl⟩)
          go_roundw
          case rel => exact ⟨k + 1, by omega, by go_num, by omega, by rw [take_snoc xs k HLT.out, take_snoc ys k HLT'.out, Heq.out]; exact congrArg (fun z => _ ++ [z]) (HX.out.trans HY.out.symm), _, rfl⟩
          case measure => simp [intOf]; omega
        · have hi : (y : Int) < (x : Int) := by omega
          have HL : Hid (lexL ys xs) := Lib.hid ((H2.out (by rw [HX.out, HY.out]; omega)).2 (by rw [HX.out, HY.out]; exact h))
          clear h
          go_wp2_with (go_at_call 236; refine (cmp_more _ _ hi _).mono ?_; rintro e w' ⟨rfl, rfl⟩)
          go_ret
          exact ⟨by rw [cmpL_pos HL.out]; rfl, _, rfl⟩
      · have e2 : (ys.length : Int) ≤ (k : Int) := by omega
        have HL : Hid (lexL ys xs) := Lib.hid (lexL_pre (by omega) (by
          have h := Heq.out
          obtain rfl : k = ys.length := by omega
          rw [List.take_length] at h
          exact h.symm))
        go_wp2
        go_ret
        exact ⟨by rw [cmpL_pos HL.out]; rfl, _, rfl⟩
    · obtain rfl : k = xs.length := by omega
      by_cases hlt' : xs.length < ys.length
      · have e2 : (xs.length : Int) < (ys.length : Int) := by omega
        have HL : Hid (lexL xs ys) := Lib.hid (lexL_pre hlt' (by
          have h := Heq.out
          rwa [List.take_length] at h))
        go_wp2
        go_ret
        exact ⟨by rw [cmpL_neg HL.out]; rfl, _, rfl⟩
      · have e2 : ¬ (xs.length : Int) < (ys.length : Int) := by omega
        have HL : Hid (xs = ys) := Lib.hid (by
          have h := Heq.out
          rw [List.take_length, List.take_of_length_le (by omega)] at h
          exact h)
        go_wp2
        go_ret
        exact ⟨by rw [cmpL_zero HL.out]; rfl, _, rfl⟩


set_option maxRecDepth 100000 in
set_option maxHeartbeats 1000000 in
theorem compareSets_any (s t : Nat) (hs : s < 4294967296) (ht : t < 4294967296) (w : World) (hT : Tab w) :
    Calls Tryd.prog 206 #[.int .u32 s, .int .u32 t] w fun e w' => e = .returned (.int .i64 (cmpL (bitsOf s) (bitsOf t))) ∧ Below w.heap.size w w' ∧ w.drawn ≤ w'.drawn := by
  have HT := Lib.hid hT
  have h1 := bitsOf_length s
  have h2 := bitsOf_length t
  clear hT
  go_enter Tryd.func206, Tryd.ntmps206
  go_wp2_with (first
    | (go_at_call 222; refine (slCompare_any _ _ (bitsOf s) (bitsOf t) _ (HN2.out.below hb3) (numsInt_of _ _ _ _ ho3 (by omega))).mono ?_; rintro e w4 ⟨rfl, q4, rfl⟩)
    | (go_at_call 130; refine (list_anyD _ t rfl ht _ (HT.out.keep hb2)).mono ?_; rintro e w3 ⟨v3, rfl, ho3, hb3, hd3⟩)
    | (go_at_call 130; refine (list_anyD _ s rfl hs _ HT.out).mono ?_; rintro e w2 ⟨v2, rfl, ho2, hb2, hd2⟩; have HN2 := Lib.hid (numsInt_of _ _ _ _ ho2 (by omega)); clear ho2))
  go_ret
  exact ⟨rfl, below_dN (hb2.trans (hb3.mono hb2.size)) _, by show w.drawn ≤ w3.drawn + q4; omega⟩

end Go.Proofs.YtmakhapdlkbbnaaDoor
