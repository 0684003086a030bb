/- Walks: how many degrees there are; numbers drawn for the graphs by dice and of pairs. -/
import Derived.Test.YtkppbmfliejnmaaDoorKnQ41
import Derived.Test.YtkppbmfliejnmaaDoorKnQ28
import Derived.Test.YtkppbmfliejnmaaDoorKnQ36
namespace Go.Proofs.YtkppbmfliejnmaaDoor
open Go.RowKit

/-- How many vertices have d neighbours, among the first k. -/
def degC (g : List (List Int)) (d k : Nat) : Nat := (List.range k).countP fun v => decide ((row g v).length = d)
theorem degC_succ (g : List (List Int)) (d k : Nat) : degC g d (k + 1) = degC g d k + if (row g k).length = d then 1 else 0 := by
  unfold degC
  rw [List.range_succ, List.countP_append]
  by_cases h : (row g k).length = d <;> simp [h]
/-- How many have fewer than d. -/
def degU (g : List (List Int)) (d : Nat) : Nat := (List.range g.length).countP fun v => decide ((row g v).length < d)
theorem degU_succ (g : List (List Int)) (d : Nat) : degU g (d + 1) = degU g d + degC g d g.length := by
  unfold degU degC
  induction (List.range g.length) with
  | nil => rfl
  | cons x l ih =>
    rw [List.countP_cons, List.countP_cons, List.countP_cons, ih]
    by_cases h1 : (row g x).length < d
    · have h2 : (row g x).length < d + 1 := by omega
      have h3 : ¬ (row g x).length = d := by omega
      simp [h1, h2, h3]; omega
    · by_cases h3 : (row g x).length = d
      · have h2 : (row g x).length < d + 1 := by omega
        simp [h2, h3]; omega
      · have h2 : ¬ (row g x).length < d + 1 := by omega
        simp [h1, h2, h3]
theorem degU_zero (g : List (List Int)) : degU g 0 = 0 := by unfold degU; simp
theorem degC_le (g : List (List Int)) (d k : Nat) : degC g d k ≤ k := by
  unfold degC
  refine Nat.le_trans (List.countP_le_length) ?_
  rw [List.length_range]; exact Nat.le_refl _
theorem degU_le (g : List (List Int)) (d : Nat) : degU g d ≤ g.length := by
  unfold degU
  refine Nat.le_trans (List.countP_le_length) ?_
  rw [List.length_range]; exact Nat.le_refl _
theorem degU_all {g : List (List Int)} (hg : GOk g) : degU g g.length = g.length := by
  unfold degU
  rw [List.countP_eq_length.2, List.length_range]
  intro v hv
  have hv := List.mem_range.1 hv
  rw [decide_eq_true_eq, row_degE hg hv]
  unfold degN
  have h3 := List.length_eq_countP_add_countP (p := ofG g v) (l := List.range g.length)
  have h4 : 0 < (List.range g.length).countP (fun a => ¬ (ofG g v a = true)) := List.countP_pos_iff.2 ⟨v, List.mem_range.2 hv, by simp [ofG_irr hg]⟩
  rw [List.length_range] at h3
  omega

set_option maxRecDepth 100000 in
set_option maxHeartbeats 4000000 in
theorem specDegreesOf_len (v : Value) (g : List (List Int)) (hok : GOk g) (w : World) (hg : Gr w v g) :
    Calls Tryd.prog 68 #[v] w fun e w' => ∃ (p : Option Addr) (c : Nat), e = .returned (.slice p g.length c) ∧ Below w.heap.size w w' := by
  have hg0 := hg
  obtain ⟨u, rfl, hr⟩ := hg
  obtain ⟨gp, gc, rfl, _⟩ := hr.shape
  obtain ⟨W0, hW0⟩ : ∃ W0, W0 = w.alloc (.cells #[.slice gp g.length gc] 29) := ⟨_, rfl⟩
  have HB0 : Hid (Below w.heap.size w W0) := Lib.hid (by rw [hW0]; exact below_alloc _ _)
  have HBG : Hid (Box W0 w.heap.size 29 (.slice gp g.length gc)) := Lib.hid (by rw [hW0]; exact Box.new _ _ _)
  have HG := Lib.hid (hg0.below HB0.out)
  have HRW := Lib.hid (hr.below HB0.out)
  have HD := Lib.hid (dec_true hok)
  have h16 := hok.le
  have HALL := Lib.hid (degU_all hok)
  have HRL : Hid (∀ j, (row g j).length ≤ 16) := Lib.hid (fun j => by
    by_cases hj : j < g.length
    · have := setIn_length (by omega) (hok.sets j hj).1
      omega
    · have : row g j = [] := by simp [row, List.getElem?_eq_none (show g.length ≤ j by omega)]
      rw [this]; exact Nat.zero_le _)
  clear hr hg0 hok
  go_enter Tryd.func68, Tryd.ntmps68
  go_upto_region 1 with fail
  rw [← hW0]
  clear hW0
  go_wp2_with fail
  go_loopw [3, 4, 5] (fun ov iv _ wr => ∃ (d L : Nat) (vals : List Value), d ≤ g.length ∧ iv = .int .i64 (d : Int) ∧ L ≤ 16 ∧ Hid (L = degU g d) ∧ wr.ownsRow W0.heap.size 2 1 ov L vals ∧ Below W0.heap.size W0 wr) (fun _ iv _ _ => g.length - (intOf iv).toNat)
  case atStart => exact ⟨0, 0, [], Nat.zero_le _, rfl, by omega, Lib.hid (degU_zero g).symm, ownsRow_empty _ _ _, below_alloc _ _⟩
  case round =>
    obtain ⟨d, L, vals, hdl, rfl, hL16, HL, hown, hb⟩ := hrel
    have cg := (HBG.out.keep hb).cell
    have HBB := Lib.hid hb
    have HO := Lib.hid hown
    clear hown
    by_cases hlt : d < g.length
    · have hdi : (d : Int) < (g.length : Int) := by omega
      clear hb
      go_wp2_with (go_at_call 73; refine (specGraphOk_any _ g _ (HG.out.below HBB.out)).mono ?_; rintro e w2 ⟨he, hb2⟩; rw [HD.out] at he; subst he; have HO2 := Lib.hid (ownsRow_below HO.out hb2); have HB2 := Lib.hid (HBB.out.trans (hb2.mono HBB.out.size)); clear hb2)
      clear cg
      go_loopw [3, 5] (fun ov iv wx => ∃ (k M : Nat) (vals : List Value), k ≤ g.length ∧ iv = .int .i64 (k : Int) ∧ M ≤ 32 ∧ Hid (M = degU g d + degC g d k) ∧ wx.ownsRow W0.heap.size 2 1 ov M vals ∧ Below W0.heap.size W0 wx) (fun _ iv _ => g.length - (intOf iv).toNat)
      case atStart => exact ⟨0, L, vals, Nat.zero_le _, rfl, by omega, Lib.hid (by rw [HL.out]; simp [degC]), HO2.out, HB2.out⟩
      case round =>
        clear HO HO2 HB2 HBB HL
        obtain ⟨k, M, vals, hk, rfl, hM32, HM, hown, hb⟩ := hrel
        have cg := (HBG.out.keep hb).cell
        have HBB := Lib.hid hb
        have hsz := hb.size
        by_cases hkl : k < g.length
        · obtain ⟨rb, ro, rp, rc, hgp, hcr, _⟩ := (HRW.out.below hb).get hkl
          subst hgp
          replace hcr : wr.cell? _ = some (.slice rp (row g k).length rc) := hcr
          have HS := Lib.hid (degC_succ g d k)
          have hl16 := HRL.out k
          have HU := Lib.hid (degU_le g d)
          have HC := Lib.hid (degC_le g d (k + 1))
          obtain ⟨rl, hrl⟩ : ∃ rl, rl = (row g k).length := ⟨_, rfl⟩
          rw [← hrl] at hcr HS hl16
          have hki : (k : Int) < (g.length : Int) := by omega
          clear hrl hb
          by_cases hrd : rl = d
          · have hre : ((rl : Int) == (d : Int)) = true := by simp [hrd]
            have HS2 : Hid (degC g d (k + 1) = degC g d k + 1) := Lib.hid (by rw [HS.out, if_pos hrd])
            clear hrd
            go_wp2_with (at_builtin; refine wpList_app1 ty_i64 rfl rfl rfl hown rfl rfl (by omega) hsz ?_; intro v7 w7 hown7 hg7 _)
            go_roundw
            case rel => exact ⟨k + 1, M + 1, _, by omega, by go_num, by have h1 := HM.out; have h2 := HS2.out; have h3 := HU.out; have h4 := HC.out; omega, Lib.hid (by have h1 := HM.out; have h2 := HS2.out; omega), hown7, below_grown HBB.out hown hg7 (Nat.le_refl _) hsz⟩
            case measure => simp [intOf]; omega
          · have hre : ((rl : Int) == (d : Int)) = false := beq_eq_false_iff_ne.2 (by omega)
            have HS2 : Hid (degC g d (k + 1) = degC g d k) := Lib.hid (by rw [HS.out, if_neg hrd]; rfl)
            clear hrd
            go_wp2_with fail
            go_roundw
            case rel => exact ⟨k + 1, M, vals, by omega, by go_num, hM32, Lib.hid (by rw [HS2.out]; exact HM.out), hown, HBB.out⟩
            case measure => simp [intOf]; omega
        · obtain rfl : k = g.length := by omega
          have HUS := Lib.hid (degU_succ g d)
          have HU := Lib.hid (degU_le g (d + 1))
          clear hb
          go_wp2_with fail
          go_roundw
          case rel => exact ⟨d + 1, M, vals, by omega, by go_num, by have h1 := HM.out; have h2 := HUS.out; have h3 := HU.out; omega, Lib.hid (by rw [HUS.out]; exact HM.out), hown, HBB.out⟩
          case measure => simp [intOf]; omega
    · obtain rfl : d = g.length := by omega
      obtain ⟨op, oc, rfl⟩ : ∃ p c, u3 = .slice p g.length c := by
        have h1 := HL.out
        rw [HALL.out] at h1
        subst h1
        rcases HO.out.2 with ⟨h1, h0⟩ | ⟨q, cap, cur, h1, _⟩
        · exact ⟨none, 0, by rw [h1, h0]⟩
        · exact ⟨_, _, h1⟩
      clear hb
      go_wp2_with fail
      go_ret
      exact ⟨_, _, rfl, HB0.out.trans (HBB.out.mono HB0.out.size)⟩

set_option maxRecDepth 100000 in
set_option maxHeartbeats 1000000 in
theorem l1FromK_any (w0 : World) (cb : Nat) (bs : List Int) (lo hi : Int) (hl0 : 0 ≤ lo) (hlh : lo ≤ hi) (h1 : hi ≤ 1000) (w : World) (hc : Cur w0 w cb bs) :
    Calls Tryd.prog 155 #[.pointer (some ⟨cb, 0, none⟩), .int .i64 lo, .int .i64 hi] w fun e w' => ∃ z : Int, e = .returned (.int .i64 z) ∧ Cur w0 w' cb bs ∧ w.grownBy w' (some cb) := by
  have HC := Lib.hid hc
  have hwr : IntKind.i64.wrap (hi - lo) = hi - lo := by rw [IntKind.wrap_i64]; omega
  have hwr2 : IntKind.i64.wrap (hi - lo + 1) = hi - lo + 1 := by rw [IntKind.wrap_i64]; omega
  clear hc
  go_enter Tryd.func155, Tryd.ntmps155
  go_wp2_with (go_at_call 148; refine (l1Below_any w0 cb bs (hi - lo + 1) (by omega) _ HC.out).mono ?_; rintro e w2 ⟨r, rfl, _, _, hc2, hg2⟩; have HC2 := Lib.hid hc2; have HG2 := Lib.hid hg2; clear hc2 hg2)
  go_ret
  exact ⟨_, rfl, HC2.out, HG2.out⟩

set_option maxRecDepth 100000 in
set_option maxHeartbeats 1000000 in
theorem drawKneser_any (v : Value) (bs : List Int) (hl : bs.length ≤ 4096) (w : World) (ha : ArgB w v bs) :
    Calls Tryd.prog 65 #[v] w fun e w' => ∃ z : Int, e = .returned (.int .i64 z) ∧ Below w.heap.size w w' := by
  have HA := Lib.hid ha
  obtain ⟨p, c, e0, _⟩ := id ha
  subst e0
  clear ha
  go_enter Tryd.func65, Tryd.ntmps65
  go_wp2_with (first
    | (go_at_call 126; refine (l1New_any _ bs hl _ HA.out).mono ?_; rintro e w1 ⟨cb, rfl, hc1, hb1⟩; have HC1 := Lib.hid hc1; clear hc1)
    | (go_at_call 155; refine (l1FromK_any _ cb bs 2 8 (by decide) (by decide) (by decide) _ HC1.out).mono ?_; rintro e w2 ⟨z, rfl, hc2, hg2⟩; have HC2 := Lib.hid hc2; clear hc2))
  go_ret
  exact ⟨_, rfl, HC2.out.bel⟩

set_option maxRecDepth 100000 in
set_option maxHeartbeats 1000000 in
theorem l6Draw_any (w0 : World) (cb : Nat) (bs : List Int) (w : World) (hc : Cur w0 w cb bs) :
    Calls Tryd.prog 150 #[.pointer (some ⟨cb, 0, none⟩)] w fun e w' => ∃ z : Int, e = .returned (.int .i64 z) ∧ Cur w0 w' cb bs ∧ w.grownBy w' (some cb) := by
  have HC := Lib.hid hc
  clear hc
  go_enter Tryd.func150, Tryd.ntmps150
  go_upto_region 1 with fail
  go_cut [4] (fun s wx => ∃ b : Bool, s = .bool b ∧ Cur w0 wx cb bs ∧ w.grownBy wx (some cb))
  case first =>
    go_wp2_with (go_at_call 129; refine (l1Once_any w0 cb bs 4 (by decide) _ HC.out).mono ?_; rintro e w2 ⟨b, rfl, hc2, hg2⟩; have HC2 := Lib.hid hc2; have HG2 := Lib.hid hg2; clear hc2 hg2)
    go_meet
    exact ⟨_, rfl, HC2.out, HG2.out⟩
  case rest =>
  obtain ⟨b, rfl, hc2, hg2⟩ := hcut
  have HC2 := Lib.hid hc2
  have HG2 := Lib.hid hg2
  clear hc2 hg2
  cases b
  · go_wp2_with (go_at_call 155; refine (l1FromK_any w0 cb bs 0 8 (by decide) (by decide) (by decide) _ HC2.out).mono ?_; rintro e w3 ⟨z, rfl, hc3, hg3⟩; have HC3 := Lib.hid hc3; have HG3 := Lib.hid hg3; clear hc3 hg3)
    go_ret
    exact ⟨_, rfl, HC3.out, grown_trans HG2.out HG3.out⟩
  · go_wp2_with (go_at_call 151; refine (l1Num_any w0 cb bs 16 (by decide) (by decide) _ HC2.out).mono ?_; rintro e w3 ⟨z, rfl, hc3, hg3⟩; have HC3 := Lib.hid hc3; have HG3 := Lib.hid hg3; clear hc3 hg3)
    go_ret
    exact ⟨_, rfl, HC3.out, grown_trans HG2.out HG3.out⟩

set_option maxRecDepth 100000 in
set_option maxHeartbeats 2000000 in
theorem drawDice_any (v : Value) (bs : List Int) (hl : bs.length ≤ 4096) (w : World) (ha : ArgB w v bs) :
    Calls Tryd.prog 62 #[v] w fun e w' => ∃ x y z : Int, e = .returned (.tuple #[.int .i64 x, .int .i64 y, .int .i64 z]) ∧ Below w.heap.size w w' := by
  have HA := Lib.hid ha
  obtain ⟨p, c, e0, _⟩ := id ha
  subst e0
  clear ha
  go_enter Tryd.func62, Tryd.ntmps62
  go_upto_region 3 with (first
    | (go_at_call 126; refine (l1New_any _ bs hl _ HA.out).mono ?_; rintro e w1 ⟨cb, rfl, hc1, hb1⟩; have HC1 := Lib.hid hc1; clear hc1)
    | (go_at_call 148; refine (l1Below_any _ cb bs 1000 (by decide) _ HC1.out).mono ?_; rintro e w2 ⟨r, rfl, _, _, hc2, hg2⟩; have HC2 := Lib.hid hc2; clear hc2))
  go_cut [13] (fun s wx => ∃ b : Bool, s = .bool b ∧ Cur w wx cb bs)
  case first =>
    go_wp2_with (go_at_call 129; refine (l1Once_any w cb bs 3 (by decide) _ HC2.out).mono ?_; rintro e w3 ⟨b, rfl, hc3, hg3⟩; have HC3 := Lib.hid hc3; clear hc3)
    go_meet
    exact ⟨_, rfl, HC3.out⟩
  case rest =>
  obtain ⟨b, rfl, hc3⟩ := hcut
  have HC3 := Lib.hid hc3
  clear hc3
  cases b
  · go_wp2_with (first
      | (go_at_call 150; refine (l6Draw_any w cb bs _ HC3.out).mono ?_; rintro e w5 ⟨y, rfl, hc5, hg5⟩; have HC5 := Lib.hid hc5; clear hc5)
      | (go_at_call 151; refine (l1Num_any w cb bs 100 (by decide) (by decide) _ HC5.out).mono ?_; rintro e w6 ⟨z, rfl, hc6, hg6⟩; have HC6 := Lib.hid hc6; clear hc6))
    go_ret3
    exact ⟨_, _, _, rfl, HC6.out.bel⟩
  · go_wp2_with (first
      | (go_at_call 149; refine (l1Odd_any w cb bs _ HC3.out).mono ?_; rintro e w4 ⟨x, rfl, hc4, hg4⟩; have HC4 := Lib.hid hc4; clear hc4)
      | (go_at_call 150; refine (l6Draw_any w cb bs _ HC4.out).mono ?_; rintro e w5 ⟨y, rfl, hc5, hg5⟩; have HC5 := Lib.hid hc5; clear hc5)
      | (go_at_call 151; refine (l1Num_any w cb bs 100 (by decide) (by decide) _ HC5.out).mono ?_; rintro e w6 ⟨z, rfl, hc6, hg6⟩; have HC6 := Lib.hid hc6; clear hc6))
    go_ret3
    exact ⟨_, _, _, rfl, HC6.out.bel⟩

end Go.Proofs.YtkppbmfliejnmaaDoor
