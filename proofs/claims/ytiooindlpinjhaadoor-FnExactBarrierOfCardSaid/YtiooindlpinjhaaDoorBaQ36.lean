/- Walk: what is reached among sets (the reference's l27Part). -/
import Derived.Test.YtiooindlpinjhaaDoorBaQ35
namespace Go.Proofs.YtiooindlpinjhaaDoor
open Go.RowKit

/-- Reached among W, and closed for the first k. -/
structure PtJ (n : Nat) (E : Nat → Nat → Bool) (W v a : Nat) : Prop where
  lt : a < 65536
  frm : a.testBit v = true
  rch : ∀ j, a.testBit j = true → Rch E (· ∈ bitsOf W) v j
def ClTo (E : Nat → Nat → Bool) (W a k : Nat) : Prop := ∀ r j, r < k → a.testBit r = true → j ∈ bitsOf W → E r j = true → a.testBit j = true
theorem ClTo.no {E : Nat → Nat → Bool} {W a k : Nat} (h : ClTo E W a k) (hk : a.testBit k = false) : ClTo E W a (k + 1) := by
  intro r j hr ha hj hE
  by_cases e : r = k
  · subst e; rw [hk] at ha; exact absurd ha (by decide)
  · exact h r j (by omega) ha hj hE
theorem PtJ.end {n : Nat} {E : Nat → Nat → Bool} {W v a : Nat} (h : PtJ n E W v a) (hc : ClTo E W a n) (hv : v < n) (hW : ∀ i, i ∈ bitsOf W → i < n) : ∀ i, a.testBit i = true ↔ Rch E (· ∈ bitsOf W) v i := by
  intro i
  refine ⟨h.rch i, fun hr => ?_⟩
  refine rch_closed (T := fun i => i < n ∧ a.testBit i = true) ⟨hv, h.frm⟩ (fun x y hx hE hy => ⟨hW y hy, hc x y hx.1 hx.2 hy hE⟩) i hr |>.2
theorem nearP_bit {n : Nat} {E : Nat → Nat → Bool} {s W k : Nat} (hb : ∀ j, s.testBit j = (decide (j < n) && E k j)) (hW16 : W < 65536) (hW : ∀ i, i ∈ bitsOf W → i < n) (j : Nat) : (s &&& W).testBit j = true ↔ j ∈ bitsOf W ∧ E k j = true := by
  rw [Nat.testBit_and, hb, mem_left hW16]
  constructor
  · intro h
    simp only [Bool.and_eq_true, decide_eq_true_eq] at h
    exact ⟨h.2, h.1.2⟩
  · rintro ⟨h1, h2⟩
    have := hW j ((mem_left hW16).2 h1)
    simp [h1, h2, this]

def flagV (m : Value) : Nat := match m with | .bool true => 1 | _ => 0

set_option maxRecDepth 100000 in
set_option maxHeartbeats 4000000 in
theorem l27Part_any (x : Value) (y z : Int) (n : Nat) (E : Nat → Nat → Bool) (v W : Nat) (hy : y = v) (hz : z = W) (hn : n ≤ 16) (hv : v < n) (hW : W < 65536) (hWn : ∀ i, i ∈ bitsOf W → i < n) (w : World) (hx : Sl w 2 x n ((indN n E).map i64v)) :
    Calls Tryd.prog 118 #[x, .int .i64 y, .int .i64 z] w fun e w' => ∃ m : Nat, e = .returned (.int .i64 (m : Int)) ∧ m < 65536 ∧ (∀ i, m.testBit i = true ↔ Rch E (· ∈ bitsOf W) v i) ∧ w = w' := by
  subst hy; subst hz
  obtain ⟨xp, xc, rfl⟩ : ∃ p c, x = .slice p n c := by obtain ⟨p, c, e, _⟩ := hx; exact ⟨p, c, e⟩
  have hwp := wrap_pow v (by omega)
  have hp16 := pow_lt16 v (by omega)
  have hpt : ∀ j, (2 ^ v).testBit j = decide (v = j) := testBit_pow v
  have START : Hid (PtJ n E W v (2 ^ v)) := Lib.hid ⟨hp16, by rw [hpt]; simp, fun j hj => by
    rw [hpt] at hj
    have : v = j := by simpa using hj
    subst this
    exact .base⟩
  obtain ⟨q, hq⟩ : ∃ q, q = 2 ^ v := ⟨_, rfl⟩
  rw [← hq] at hwp START
  have HX := Lib.hid hx
  have HWN := Lib.hid hWn
  clear hp16 hpt hq hx hWn
  go_enter Tryd.func118, Tryd.ntmps118
  go_wp2
  go_loopw [7, 8] (fun p m wr => ∃ (a : Nat) (b : Bool), p = .int .i64 a ∧ m = .bool b ∧ Hid (PtJ n E W v a) ∧ Hid (b = false → ClTo E W a n) ∧ wr = w)
    (fun p m _ => 2 * (40 - (bitsOf (intOf p).toNat).length) + flagV m)
  case atStart => exact ⟨q, true, by rw [hwp], rfl, START, Lib.hid (fun h => by cases h), rfl⟩
  case round =>
    clear START hwp
    obtain ⟨a0, b0, rfl, rfl, HP0, HC0, rfl⟩ := hrel
    cases b0
    · go_wp2
      go_ret
      exact ⟨a0, rfl, HP0.out.lt, HP0.out.end (HC0.out trivial) hv HWN.out, rfl⟩
    · clear HC0
      obtain ⟨wo, rfl⟩ : ∃ wo, wo = wr := ⟨_, rfl⟩
      go_wp2
      go_loopw [7, 8, 9] (fun p m i wx => ∃ (a k : Nat) (b : Bool), p = .int .i64 a ∧ m = .bool b ∧ i = .int .i64 k ∧ k ≤ n ∧ Hid (PtJ n E W v a) ∧ Hid (b = false → a = a0 ∧ ClTo E W a k) ∧ Hid (b = true → (bitsOf a0).length < (bitsOf a).length) ∧ Hid (∀ i, a0.testBit i = true → a.testBit i = true) ∧ wx = wo)
        (fun _ _ i _ => n - (intOf i).toNat)
      case atStart => exact ⟨a0, 0, false, rfl, rfl, rfl, Nat.zero_le _, HP0, Lib.hid (fun _ => ⟨rfl, fun r j hr => absurd hr (Nat.not_lt_zero _)⟩), Lib.hid (fun h => by cases h), Lib.hid (fun _ h => h), rfl⟩
      case round =>
        obtain ⟨a, k, b, rfl, rfl, rfl, hk, HP, HF, HT, HS, rfl⟩ := hrel
        by_cases hlt : k < n
        · have hbit := shrB_bit a k HP.out.lt
          have hkl : k < (indN n E).length := by rw [indN_length]; exact hlt
          obtain ⟨cb, co, rfl, hcell⟩ := i64_cell (a := indN n E) (by rw [indN_length]; exact HX.out) hkl
          have hib := indN_bit (E := E) hlt
          have hil := indN_lt16 (E := E) hn _ (List.getElem_mem hkl)
          have e : (indN n E).getD k 0 = (indN n E)[k] := by simp [hkl]
          rw [e] at hib
          generalize (indN n E)[k] = s at hcell hib hil
          have HNB := Lib.hid (nearP_bit (k := k) hib hW HWN.out)
          have HX' := HX
          clear e hib
          cases hab : a.testBit k
          · rw [hab] at hbit
            simp only [Bool.false_eq_true, if_false, Int.natCast_zero] at hbit
            have HAB := Lib.hid hab
            clear hab
            go_wp2
            go_roundw
            case rel => exact ⟨a, k + 1, b, rfl, rfl, by go_num, by omega, HP, Lib.hid (fun h => ⟨(HF.out h).1, (HF.out h).2.no HAB.out⟩), HT, HS, trivial⟩
            case measure => simp [intOf]; omega
          · rw [hab] at hbit
            simp only [if_true, Int.natCast_one] at hbit
            have HAB := Lib.hid hab
            clear hab
            have ha16 := HP.out.lt
            have hand := i64_and_nat s W (Nat.lt_trans hil (by decide)) (Nat.lt_trans hW (by decide))
            have hx16 := and_lt16 s W hil
            generalize hxx : s &&& W = t at hand hx16 HNB
            have hnot := i64_andNot_nat t a (Nat.lt_trans hx16 (by decide)) (Nat.lt_trans ha16 (by decide))
            have hst := testBit_sub t a (Nat.lt_trans hx16 (by decide)) (Nat.lt_trans ha16 (by decide))
            generalize hyy : sub t a = d at hnot hst
            have HST := Lib.hid hst
            clear hxx hyy hst
            by_cases hd : d = 0
            · subst hd
              have HCL : Hid (∀ j, j ∈ bitsOf W → E k j = true → a.testBit j = true) := Lib.hid (fun j hj hE => by
                have h1 := (HNB.out j).2 ⟨hj, hE⟩
                have h2 := HST.out j
                rw [h1] at h2
                simpa using h2)
              go_wp2
              go_roundw
              case rel => exact ⟨a, k + 1, b, rfl, rfl, by go_num, by omega, HP, Lib.hid (fun h => ⟨(HF.out h).1, fun r j hr ha hj hE => by
                  by_cases e : r = k
                  · subst e; exact HCL.out j hj hE
                  · exact (HF.out h).2 r j (by omega) ha hj hE⟩), HT, HS, trivial⟩
              case measure => simp [intOf]; omega
            · have hd' : ((d : Int) != 0) = true := by simp; omega
              have hor := i64_or_nat a t (Nat.lt_trans ha16 (by decide)) (Nat.lt_trans hx16 (by decide))
              have hor16 := or_lt16 a t ha16 hx16
              have hot : ∀ j, (a ||| t).testBit j = (a.testBit j || t.testBit j) := fun j => Nat.testBit_or ..
              generalize a ||| t = r at hor hor16 hot
              have HOT := Lib.hid hot
              have HPR : Hid (PtJ n E W v r) := Lib.hid ⟨hor16, by rw [hot, HP.out.frm]; rfl, fun j hj => by
                rw [HOT.out] at hj
                rcases Bool.or_eq_true_iff.1 hj with h | h
                · exact HP.out.rch j h
                · obtain ⟨h1, h2⟩ := (HNB.out j).1 h
                  exact .step (HP.out.rch k HAB.out) h2 h1⟩
              have HGR : Hid ((bitsOf a).length < (bitsOf r).length) := Lib.hid (by
                refine bits_len_lt ha16 hor16 (fun i hi => by rw [HOT.out, hi]; rfl) fun e => hd ?_
                refine Nat.eq_of_testBit_eq fun j => ?_
                have h1 := HOT.out j
                rw [← e] at h1
                rw [HST.out, Nat.zero_testBit]
                clear HST HOT
                revert h1
                generalize a.testBit j = b1
                generalize t.testBit j = b2
                cases b1 <;> cases b2 <;> decide)
              have HGE : Hid ((bitsOf a0).length ≤ (bitsOf a).length) := Lib.hid (by
                cases b
                · rw [(HF.out rfl).1]; exact Nat.le_refl _
                · exact Nat.le_of_lt (HT.out rfl))
              clear hot hd
              go_wp2
              go_roundw
              case rel => exact ⟨r, k + 1, true, rfl, rfl, by go_num, by omega, HPR, Lib.hid (fun h => by cases h), Lib.hid (fun _ => Nat.lt_of_le_of_lt HGE.out HGR.out), Lib.hid (fun i hi => by rw [HOT.out, HS.out i hi]; rfl), trivial⟩
              case measure => simp [intOf]; omega
        · obtain rfl : k = n := by omega
          go_wp2
          go_roundw
          case rel => exact ⟨a, b, rfl, rfl, HP, Lib.hid (fun h => (HF.out h).2), trivial⟩
          case measure =>
            have h32 := bitsOf_length a
            cases b
            · have := (HF.out rfl).1
              subst this
              simp [intOf, flagV]
            · have := HT.out rfl
              simp [intOf, flagV]
              omega

end Go.Proofs.YtiooindlpinjhaaDoor
