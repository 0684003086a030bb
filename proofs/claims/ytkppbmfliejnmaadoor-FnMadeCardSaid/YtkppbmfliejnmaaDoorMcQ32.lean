/- Walks: a graph by dice, the program's and the reference's. -/
import Derived.Test.YtkppbmfliejnmaaDoorMcQ28
import Derived.Test.YtkppbmfliejnmaaDoorMcQ31
import Derived.Test.YtkppbmfliejnmaaDoorMcQ12
import Derived.Test.YtkppbmfliejnmaaDoorMcQ13
import Derived.Test.YtkppbmfliejnmaaDoorMcQ23
namespace Go.Proofs.YtkppbmfliejnmaaDoor
open Go.RowKit

theorem symE_of {m : Nat} {E : Nat → Nat → Bool} (hs : ∀ r j, E r j = true → E j r = true) (hi : ∀ r, E r r = false) : SymE m E :=
  ⟨fun r j _ _ => by rw [Bool.eq_iff_iff]; exact ⟨hs r j, hs j r⟩, fun r _ => hi r⟩
theorem upto_new1 {E : Nat → Nat → Bool} {v u : Nat} (h : u < v) : uptoE E v u u v = false := by
  unfold uptoE
  rw [Nat.max_eq_right (by omega), Nat.min_eq_left (by omega)]
  simp
theorem upto_new2 {E : Nat → Nat → Bool} {v u : Nat} (h : u < v) : uptoE E v u v u = false := by
  unfold uptoE
  rw [Nat.max_eq_left (by omega), Nat.min_eq_right (by omega)]
  simp
/-- What a graph by dice wants. -/
def DcOk (n o : Int) : Prop := (1 ≤ n ∧ n ≤ 16) ∧ 0 ≤ o ∧ o ≤ 100

set_option maxRecDepth 100000 in
set_option maxHeartbeats 4000000 in
theorem implDice_no (s n o : Int) (hno : ¬ DcOk n o) (w : World) :
    Calls Tryd.prog 63 #[.int .i64 s, .int .i64 n, .int .i64 o] w fun e w' => e = .returned (.tuple #[.agg #[.slice none 0 0], .bool false]) ∧ Below w.heap.size w w' := by
  have HB := Lib.hid (below_alloc w (.cells #[.slice none 0 0] 29))
  have HX := Lib.hid (Box.new w (.slice none 0 0) 29)
  obtain ⟨nc, nf, nl, nB⟩ := id HX.out
  by_cases h1 : 1 ≤ n ∧ n ≤ 16
  · have HD1 := Lib.hid (dec_true h1)
    have HD2 := Lib.hid (dec_false (show ¬ (0 ≤ o ∧ o ≤ 100) from fun h => hno ⟨h1, h⟩))
    clear h1 hno
    go_enter Tryd.func63, Tryd.ntmps63
    go_wp2_with (first
      | (have X1 := MK1; go_at_call 137; refine (inRange_any _ _ _ _).mono ?_; rintro e w2 ⟨he, rfl⟩; rw [HD2.out] at he; subst he)
      | (go_at_call 137; refine (inRange_any _ _ _ _).mono ?_; rintro e w2 ⟨he, rfl⟩; rw [HD1.out] at he; subst he; have MK1 := trivial))
    exact bodyPost_ret (v := .tuple #[.agg #[.slice none 0 0], .bool false]) (by simp [results, Tryd.results63, go_sem, nc]) rfl ⟨rfl, by first | exact HB.out | exact HB.out.setCell (by show w.heap.size ≤ w.heap.size; omega) _⟩
  · have HD1 := Lib.hid (dec_false h1)
    clear h1 hno
    go_enter Tryd.func63, Tryd.ntmps63
    go_wp2_with (go_at_call 137; refine (inRange_any _ _ _ _).mono ?_; rintro e w2 ⟨he, rfl⟩; rw [HD1.out] at he; subst he)
    exact bodyPost_ret (v := .tuple #[.agg #[.slice none 0 0], .bool false]) (by simp [results, Tryd.results63, go_sem, nc]) rfl ⟨rfl, by first | exact HB.out | exact HB.out.setCell (by show w.heap.size ≤ w.heap.size; omega) _⟩

set_option maxRecDepth 100000 in
set_option maxHeartbeats 8000000 in
theorem implDice_yes (s : Int) (n : Nat) (o : Int) (hok : DcOk n o) (w : World) (hT : Tab w) :
    Calls Tryd.prog 63 #[.int .i64 s, .int .i64 n, .int .i64 o] w fun e w' => ∃ (p : Option Addr) (c : Nat), e = .returned (.tuple #[.agg #[.slice p n c], .bool true]) ∧ DG w' w.heap.size (.agg #[.slice p n c]) (matG n (dcE s o)) ∧ Below w.heap.size w w' := by
  have hn1 : 1 ≤ n := by have := hok.1.1; omega
  have hn16 : n ≤ 16 := by have := hok.1.2; omega
  obtain ⟨w1, hw1⟩ : ∃ w1, w1 = w.alloc (.cells #[.slice none 0 0] 29) := ⟨_, rfl⟩
  have HR : Hid (Box w1 w.heap.size 29 (.slice none 0 0)) := Lib.hid (by rw [hw1]; exact Box.new _ _ _)
  have HB : Hid (Below w.heap.size w w1) := Lib.hid (by rw [hw1]; exact below_alloc _ _)
  have HD1 := Lib.hid (dec_true hok.1)
  have HD2 := Lib.hid (dec_true hok.2)
  have HT := Lib.hid (hT.keep HB.out)
  obtain ⟨d1, d2, d3, _⟩ := dc_seed s
  obtain ⟨t, ht⟩ : ∃ t, t = Int.tmod s 999999937 := ⟨_, rfl⟩
  rw [← ht] at d1 d2 d3
  have hr1 : Int.tmod s 999999937 = t := ht.symm
  have hwr1 : IntKind.i64.wrap (t + 999999937) = t + 999999937 := by rw [IntKind.wrap_i64]; omega
  obtain ⟨st0, hst0⟩ : ∃ st0, st0 = s % 999999937 := ⟨_, rfl⟩
  rw [← hst0] at d1
  have HST0 := Lib.hid (show st0 = dcIt s (triN 0 + 0) from hst0)
  have HSY := Lib.hid (symE_of (m := n) (dcE_sym s o) (dcE_irr s o))
  have HSL : Hid (∀ E : Nat → Nat → Bool, (indN n E).length = n) := Lib.hid (fun E => indN_length _ E)
  have HE16 : Hid (∀ E : Nat → Nat → Bool, ∀ s ∈ indN n E, s < 65536) := Lib.hid (fun E => indN_lt16 hn16)
  clear hok hT ht hst0
  go_enter Tryd.func63, Tryd.ntmps63
  go_upto_region 1 with fail
  rw [← hw1]
  clear hw1
  go_wp2_with (first
    | (have X1 := MK1; go_at_call 137; refine (inRange_any _ _ _ _).mono ?_; rintro e w2 ⟨he, rfl⟩; rw [HD2.out] at he; subst he)
    | (go_at_call 137; refine (inRange_any _ _ _ _).mono ?_; rintro e w2 ⟨he, rfl⟩; rw [HD1.out] at he; subst he; have MK1 := trivial)
    | (at_make; refine wpList_mk ty_nets rfl rfl rfl n rfl rfl rfl rfl (by omega) ?_; intro w3 hown3 hg3))
  have hb3 := grown_below hg3
  have START : Hid (w3.ownsRow w1.heap.size 70 1 (.slice (some ⟨w1.heap.size, 0, none⟩) n n) n ((indN n (uptoE (dcE s o) 0 0)).map u32v)) := Lib.hid (by
    rw [uptoN_start, List.map_replicate]
    exact hown3)
  have START2 := Lib.hid hb3
  clear hown3 hg3 hb3 hr1 hwr1 d1 d2 d3
  go_loopw [8, 29] (fun sv iv wr => ∃ v : Nat, v ≤ n ∧ iv = .int .i64 (v : Int) ∧ (∃ st : Int, sv = .int .i64 st ∧ Hid (st = dcIt s (triN v))) ∧ wr.ownsRow w1.heap.size 70 1 (.slice (some ⟨w1.heap.size, 0, none⟩) n n) n ((indN n (uptoE (dcE s o) v 0)).map u32v) ∧ Below w1.heap.size w1 wr) (fun _ iv _ => n - (intOf iv).toNat)
  case atStart => exact ⟨0, Nat.zero_le _, rfl, ⟨_, rfl, HST0⟩, START.out, START2.out⟩
  case round =>
    clear START START2 HST0
    obtain ⟨v, hv, rfl, ⟨st, rfl, HST⟩, hown, hb⟩ := hrel
    have HO := Lib.hid hown
    have HBB := Lib.hid hb
    clear hown hb
    by_cases hlt : v < n
    · have hvi : (v : Int) < (n : Int) := by omega
      go_wp2_with fail
      go_loopw [8, 33] (fun sv iv wx => ∃ u : Nat, u ≤ v ∧ iv = .int .i64 (u : Int) ∧ (∃ st : Int, sv = .int .i64 st ∧ Hid (st = dcIt s (triN v + u))) ∧ wx.ownsRow w1.heap.size 70 1 (.slice (some ⟨w1.heap.size, 0, none⟩) n n) n ((indN n (uptoE (dcE s o) v u)).map u32v) ∧ Below w1.heap.size w1 wx) (fun _ iv _ => v - (intOf iv).toNat)
      case atStart => exact ⟨0, Nat.zero_le _, rfl, ⟨_, rfl, HST⟩, HO.out, HBB.out⟩
      case round =>
        clear HO HBB HST
        obtain ⟨u, hu, rfl, ⟨a, rfl, HA⟩, hown, hb⟩ := hrel
        have HO := Lib.hid hown
        have HBB := Lib.hid hb
        clear hown hb
        by_cases hul : u < v
        · obtain ⟨ha0, ha1⟩ := dcIt_bd s (triN v + u)
          rw [← HA.out] at ha0 ha1
          obtain ⟨b, hbdef⟩ : ∃ b, b = dcNext a := ⟨_, rfl⟩
          have hb0 := dcIt_bd s (triN v + u + 1)
          have e1 : dcIt s (triN v + u + 1) = b := by rw [hbdef, HA.out]; rfl
          rw [e1] at hb0
          have HBN : Hid (b = dcIt s (triN v + (u + 1))) := Lib.hid e1.symm
          have hw1 : IntKind.i64.wrap (48271 * a) = 48271 * a := by rw [IntKind.wrap_i64]; omega
          have hw2 : IntKind.i64.wrap (48271 * a + 11) = 48271 * a + 11 := by rw [IntKind.wrap_i64]; omega
          have ht1 : Int.tmod (48271 * a + 11) 999999937 = b := by rw [hbdef]; exact dc_tmod a ha0
          obtain ⟨cc, hcc⟩ : ∃ cc, cc = b % 100 := ⟨_, rfl⟩
          have ht2 : Int.tmod b 100 = cc := by rw [hcc]; exact tmod_nn hb0.1
          have HE : Hid (dcE s o v u = decide (cc < o)) := Lib.hid (by rw [dcE_at s o hul, e1, hcc])
          have hui : (u : Int) < (v : Int) := by omega
          clear hbdef e1 hcc
          by_cases hco : cc < o
          · have HEY : Hid (dcE s o v u = true) := Lib.hid (by rw [HE.out]; exact decide_eq_true hco)
            have hjj := join_any (.slice (some ⟨w1.heap.size, 0, none⟩) n n) (u : Int) (v : Int) (indN n (uptoE (dcE s o) v u)) u v w1.heap.size rfl rfl (by rw [HSL.out]; omega) (by rw [HSL.out]; omega) (by omega) (by rw [HSL.out]; omega) (HE16.out _) wr (by rw [HSL.out]; exact HO.out)
            rw [HSL.out, joinL_comm (by omega), uptoN_yes HSY.out hlt hul HEY.out] at hjj
            have HJ := Lib.hid hjj
            clear hjj
            go_wp2_with (go_at_call 139; refine HJ.out.mono ?_; rintro e w6 ⟨rfl, ho6, hg6⟩)
            go_roundw
            case rel => exact ⟨u + 1, by omega, by go_num, ⟨_, rfl, HBN⟩, ho6, below_grown HBB.out HO.out hg6 (Nat.le_refl _) HBB.out.size⟩
            case measure => simp [intOf]; omega
          · have HEN : Hid (dcE s o v u = false) := Lib.hid (by rw [HE.out]; exact decide_eq_false hco)
            have HNX := Lib.hid (uptoN_no HSY.out hlt hul HEN.out)
            go_wp2_with fail
            go_roundw
            case rel => exact ⟨u + 1, by omega, by go_num, ⟨_, rfl, HBN⟩, by rw [← HNX.out]; exact HO.out, HBB.out⟩
            case measure => simp [intOf]; omega
        · obtain rfl : u = v := by omega
          have HNX := Lib.hid (uptoN_row HSY.out (i := u))
          go_wp2_with fail
          go_roundw
          case rel => exact ⟨u + 1, by omega, by go_num, ⟨_, rfl, HA⟩, by rw [← HNX.out]; exact HO.out, HBB.out⟩
          case measure => simp [intOf]; omega
    · obtain rfl : v = n := by omega
      have HX : Hid (Sl wr 70 (.slice (some ⟨w1.heap.size, 0, none⟩) v v) (indN v (dcE s o)).length ((indN v (dcE s o)).map u32v)) := Lib.hid (by
        have := HO.out
        rw [uptoN_end] at this
        rw [HSL.out]
        exact Sl.of_owns this (by omega))
      have HTr := Lib.hid (HT.out.keep HBB.out)
      have HBX := Lib.hid (HR.out.keep HBB.out)
      go_wp2_with (go_at_call 118; refine (graph_any _ (indN v (dcE s o)) (HE16.out _) (by rw [HSL.out]; omega) _ HX.out HTr.out).mono ?_; rintro e w8 ⟨u8, rfl, hd8, hb8⟩; rw [rowsOf_indN (by omega)] at hd8; obtain ⟨p8, c8, rfl⟩ := hd8.shape; obtain ⟨mc, mf, ml, mB⟩ := HBX.out.keep hb8)
      have s8 := HBB.out.size
      have s0 := HB.out.size
      have e8 := matG_length v (dcE s o)
      rw [e8] at hd8
      refine bodyPost_ret (v := .tuple #[.agg #[.slice p8 v c8], .bool true]) (by simp [results, Tryd.results63, go_sem, mc, e8]) rfl ⟨p8, c8, rfl, ?_, ?_⟩
      · exact (hd8.setBox ⟨mc, mf, ml, mB⟩ _).base (by omega)
      · exact (HB.out.trans ((HBB.out.trans (hb8.mono (by omega))).mono (by omega))).setCell (by show w.heap.size ≤ w.heap.size; omega) _

set_option maxRecDepth 100000 in
set_option maxHeartbeats 4000000 in
theorem l6Of_no (z : Int) (h : ¬ (1 ≤ z ∧ z ≤ 16)) (w : World) :
    Calls Tryd.prog 152 #[.int .i64 z] w fun e w' => e = .returned (.tuple #[.agg #[.slice none 0 0], .bool false]) ∧ Below w.heap.size w w' := by
  have HB := Lib.hid (below_alloc w (.cells #[.slice none 0 0] 29))
  have HX := Lib.hid (Box.new w (.slice none 0 0) 29)
  obtain ⟨nc, nf, nl, nB⟩ := id HX.out
  have HD := Lib.hid (dec_false h)
  clear h
  go_enter Tryd.func152, Tryd.ntmps152
  go_wp2_with (go_at_call 153; refine (l1In_any _ _ _ _).mono ?_; rintro e w1 ⟨he, rfl⟩; rw [HD.out] at he; subst he)
  exact bodyPost_ret (v := .tuple #[.agg #[.slice none 0 0], .bool false]) (by simp [results, Tryd.results152, go_sem, nc]) rfl ⟨rfl, by first | exact HB.out | exact HB.out.setCell (by show w.heap.size ≤ w.heap.size; omega) _⟩

set_option maxRecDepth 100000 in
set_option maxHeartbeats 4000000 in
theorem specDice_no (s n o : Int) (hno : ¬ DcOk n o) (w : World) :
    Calls Tryd.prog 64 #[.int .i64 s, .int .i64 n, .int .i64 o] w fun e w' => ∃ (p : Option Addr) (k c : Nat), e = .returned (.tuple #[.agg #[.slice p k c], .bool false]) ∧ Below w.heap.size w w' := by
  obtain ⟨w1, hw1⟩ : ∃ w1, w1 = w.alloc (.cells #[.slice none 0 0] 29) := ⟨_, rfl⟩
  have HR : Hid (Box w1 w.heap.size 29 (.slice none 0 0)) := Lib.hid (by rw [hw1]; exact Box.new _ _ _)
  have HB : Hid (Below w.heap.size w w1) := Lib.hid (by rw [hw1]; exact below_alloc _ _)
  by_cases h1 : 1 ≤ n ∧ n ≤ 16
  · obtain ⟨m, hm⟩ : ∃ m : Nat, n = m := ⟨n.toNat, by omega⟩
    subst hm
    have HD2 := Lib.hid (dec_false (show ¬ (0 ≤ o ∧ o ≤ 100) from fun h => hno ⟨h1, h⟩))
    have g1 : 1 ≤ m := by omega
    have g2 : m ≤ 16 := by omega
    clear h1 hno
    go_enter Tryd.func64, Tryd.ntmps64
    go_upto_region 1 with fail
    rw [← hw1]
    clear hw1
    go_upto_region 2 with (go_at_call 152; refine (l6Of_yes _ m rfl g1 g2 _).mono ?_; rintro e w2 ⟨u, rfl, hs2, hb2⟩; obtain ⟨p, c, rfl⟩ := hs2.shape; rw [List.length_replicate] at hs2 ⊢; obtain ⟨nc, nf, nl, nB⟩ := (HR.out.keep hb2).alloc (.cells #[.slice p m c] 29))
    have HB2 := Lib.hid (HB.out.trans ((hb2.alloc hb2.size (.cells #[.slice p m c] 29)).mono HB.out.size))
    clear hs2 hb2
    go_wp2_with (go_at_call 153; refine (l1In_any _ _ _ _).mono ?_; rintro e w3 ⟨he, rfl⟩; rw [HD2.out] at he; subst he)
    exact bodyPost_ret (v := .tuple #[.agg #[.slice none 0 0], .bool false]) (by simp [results, Tryd.results64, go_sem, nc]) rfl ⟨none, 0, 0, rfl, by first | exact HB2.out | exact HB2.out.setCell (by show w.heap.size ≤ w.heap.size; omega) _⟩
  · have HN := Lib.hid h1
    clear h1 hno
    go_enter Tryd.func64, Tryd.ntmps64
    go_upto_region 1 with fail
    rw [← hw1]
    clear hw1
    go_upto_region 2 with (go_at_call 152; refine (l6Of_no n HN.out _).mono ?_; rintro e w2 ⟨rfl, hb2⟩; obtain ⟨nc, nf, nl, nB⟩ := (HR.out.keep hb2).alloc (.cells #[.slice none 0 0] 29))
    have HB2 := Lib.hid (HB.out.trans ((hb2.alloc hb2.size (.cells #[.slice none 0 0] 29)).mono HB.out.size))
    clear hb2
    go_wp2_with fail
    exact bodyPost_ret (v := .tuple #[.agg #[.slice none 0 0], .bool false]) (by simp [results, Tryd.results64, go_sem, nc]) rfl ⟨none, 0, 0, rfl, by first | exact HB2.out | exact HB2.out.setCell (by show w.heap.size ≤ w.heap.size; omega) _⟩

set_option maxRecDepth 100000 in
set_option maxHeartbeats 8000000 in
theorem specDice_yes (s : Int) (n : Nat) (o : Int) (hok : DcOk n o) (w : World) :
    Calls Tryd.prog 64 #[.int .i64 s, .int .i64 n, .int .i64 o] w fun e w' => ∃ (p : Option Addr) (c : Nat), e = .returned (.tuple #[.agg #[.slice p n c], .bool true]) ∧ DG w' w.heap.size (.agg #[.slice p n c]) (matG n (dcE s o)) ∧ Below w.heap.size w w' := by
  have hn1 : 1 ≤ n := by have := hok.1.1; omega
  have hn16 : n ≤ 16 := by have := hok.1.2; omega
  obtain ⟨w1, hw1⟩ : ∃ w1, w1 = w.alloc (.cells #[.slice none 0 0] 29) := ⟨_, rfl⟩
  have HR : Hid (Box w1 w.heap.size 29 (.slice none 0 0)) := Lib.hid (by rw [hw1]; exact Box.new _ _ _)
  have HB : Hid (Below w.heap.size w w1) := Lib.hid (by rw [hw1]; exact below_alloc _ _)
  have s1 : w1.heap.size = w.heap.size + 1 := by rw [hw1, size_alloc]
  have HD2 := Lib.hid (dec_true hok.2)
  obtain ⟨_, d2, d3, d4⟩ := dc_seed s
  obtain ⟨t, ht⟩ : ∃ t, t = Int.tmod s 999999937 := ⟨_, rfl⟩
  rw [← ht] at d2 d3 d4
  have hr1 : Int.tmod s 999999937 = t := ht.symm
  have hwr1 : IntKind.i64.wrap (t + 999999937) = t + 999999937 := by rw [IntKind.wrap_i64]; omega
  have HD4 := Lib.hid d4
  have HSY := Lib.hid (symE_of (m := n) (dcE_sym s o) (dcE_irr s o))
  clear hok ht d4
  go_enter Tryd.func64, Tryd.ntmps64
  go_upto_region 1 with fail
  rw [← hw1]
  clear hw1
  go_upto_region 2 with (go_at_call 152; refine (l6Of_yes _ n rfl hn1 hn16 _).mono ?_; rintro e w2 ⟨u, rfl, hs2, hb2⟩; obtain ⟨p, c, rfl⟩ := hs2.shape; rw [List.length_replicate] at hs2 ⊢)
  have START : Hid (LdI w1 (w2.alloc (.cells #[.slice p n c] 29)) w1.heap.size w2.heap.size p c n (matG n (uptoE (dcE s o) 1 0))) := Lib.hid
    ⟨by rw [← upto_row HSY.out (i := 0), upto_start]; exact hs2.below (below_alloc _ _), hb2.alloc hb2.size _, Box.new _ _ _, hs2.lt, Nat.le_refl _, hb2.size⟩
  generalize w2.alloc (.cells #[.slice p n c] 29) = w3 at START ⊢
  generalize w2.heap.size = b5 at START ⊢
  clear hs2 hb2
  obtain ⟨st0, hst0⟩ : ∃ st0, st0 = s % 999999937 := ⟨_, rfl⟩
  have HST0 := Lib.hid (show st0 = dcIt s (triN 1) from hst0)
  rw [← hst0] at HD4
  clear hst0
  by_cases hneg : t < 0
  · have hst : t + 999999937 = st0 := by have := HD4.out; rw [if_pos hneg] at this; exact this
    replace HST0 : Hid (t + 999999937 = dcIt s (triN 1)) := Lib.hid (hst.trans HST0.out)
    clear hst
    go_wp2_with (go_at_call 153; refine (l1In_any _ _ _ _).mono ?_; rintro e w4 ⟨he, rfl⟩; rw [HD2.out] at he; subst he)
    go_loopw [10, 11, 12] (fun sv iv _ wr => ∃ v : Nat, 1 ≤ v ∧ v ≤ n ∧ iv = .int .i64 (v : Int) ∧ (∃ st : Int, sv = .int .i64 st ∧ Hid (st = dcIt s (triN v))) ∧ Hid (LdI w1 wr w1.heap.size b5 p c n (matG n (uptoE (dcE s o) v 0)))) (fun _ iv _ _ => n - (intOf iv).toNat)
    case atStart => exact ⟨1, Nat.le_refl _, hn1, rfl, ⟨_, rfl, HST0⟩, START⟩
    case round =>
      clear START HST0
      obtain ⟨v, hv1, hv, rfl, ⟨st, rfl, HST⟩, HI⟩ := hrel
      by_cases hlt : v < n
      · have hvi : (v : Int) < (n : Int) := by omega
        go_wp2_with fail
        go_loopw [10, 12] (fun sv iv wx => ∃ u : Nat, u ≤ v ∧ iv = .int .i64 (u : Int) ∧ (∃ st : Int, sv = .int .i64 st ∧ Hid (st = dcIt s (triN v + u))) ∧ Hid (LdI w1 wx w1.heap.size b5 p c n (matG n (uptoE (dcE s o) v u)))) (fun _ iv _ => v - (intOf iv).toNat)
        case atStart => exact ⟨0, Nat.zero_le _, rfl, ⟨_, rfl, HST⟩, HI⟩
        case round =>
          clear HI HST
          obtain ⟨u, hu, rfl, ⟨a, rfl, HA⟩, HI⟩ := hrel
          have cb := HI.out.box.cell
          have fb := HI.out.box.free
          by_cases hul : u < v
          · obtain ⟨ha0, ha1⟩ := dcIt_bd s (triN v + u)
            rw [← HA.out] at ha0 ha1
            obtain ⟨b, hbdef⟩ : ∃ b, b = dcNext a := ⟨_, rfl⟩
            have hb0 := dcIt_bd s (triN v + u + 1)
            have e1 : dcIt s (triN v + u + 1) = b := by rw [hbdef, HA.out]; rfl
            rw [e1] at hb0
            have HBN : Hid (b = dcIt s (triN v + (u + 1))) := Lib.hid e1.symm
            have hw1 : IntKind.i64.wrap (a * 48271) = 48271 * a := by rw [IntKind.wrap_i64]; omega
            have hw2 : IntKind.i64.wrap (48271 * a + 11) = 48271 * a + 11 := by rw [IntKind.wrap_i64]; omega
            have ht1 : Int.tmod (48271 * a + 11) 999999937 = b := by rw [hbdef]; exact dc_tmod a ha0
            obtain ⟨cc, hcc⟩ : ∃ cc, cc = b % 100 := ⟨_, rfl⟩
            have ht2 : Int.tmod b 100 = cc := by rw [hcc]; exact tmod_nn hb0.1
            have HE : Hid (dcE s o v u = decide (cc < o)) := Lib.hid (by rw [dcE_at s o hul, e1, hcc])
            have hui : (u : Int) < (v : Int) := by omega
            clear hbdef e1 hcc
            by_cases hco : cc < o
            · have HEY : Hid (dcE s o v u = true) := Lib.hid (by rw [HE.out]; exact decide_eq_true hco)
              have hlk := l1LinkD_any p c (matG n (uptoE (dcE s o) v u)) (u : Int) (v : Int) u v w1.heap.size rfl rfl (by rw [matG_length]; omega) (by rw [matG_length]; omega) (by omega) (not_mem_matG (by omega) (upto_new1 hul)) (not_mem_matG hlt (upto_new2 hul)) (fun j _ => Nat.le_trans (matG_row_le j) (by omega)) wr (by rw [matG_length]; exact HI.out.dg)
              rw [matG_length, upto_yes HSY.out hlt hul HEY.out] at hlk
              have HLK := Lib.hid hlk
              clear hlk
              go_wp2_with (go_at_call 154; refine HLK.out.mono ?_; rintro e w6 ⟨rfl, hs6, hg6⟩; have hbx := HI.out.box.grown hg6 (fun e => by have := (HI.out.own _ e.symm).2; omega); have hc6 := hbx.cell; have hf6 := hbx.free)
              go_roundw
              case rel => exact ⟨u + 1, by omega, by go_num, ⟨_, rfl, HBN⟩, Lib.hid (HI.out.link hs6 hg6)⟩
              case measure => simp [intOf]; omega
            · have HEN : Hid (dcE s o v u = false) := Lib.hid (by rw [HE.out]; exact decide_eq_false hco)
              have HNX := Lib.hid (upto_no HSY.out hlt hul HEN.out)
              go_wp2_with fail
              go_roundw
              case rel => exact ⟨u + 1, by omega, by go_num, ⟨_, rfl, HBN⟩, by rw [← HNX.out]; exact HI⟩
              case measure => simp [intOf]; omega
          · obtain rfl : u = v := by omega
            have HNX := Lib.hid (upto_row HSY.out (i := u))
            go_wp2_with fail
            go_roundw
            case rel => exact ⟨u + 1, by omega, by omega, by go_num, ⟨_, rfl, HA⟩, by rw [← HNX.out]; exact HI⟩
            case measure => simp [intOf]; omega
      · obtain rfl : v = n := by omega
        have HR5 := HR.out.keep HI.out.bel
        have cb := HI.out.box.cell
        obtain ⟨nc, nf, nl, nB⟩ := id HR5
        go_wp2_with fail
        refine bodyPost_ret (v := .tuple #[.agg #[.slice p v c], .bool true]) (by simp [results, Tryd.results64, go_sem, nc]) rfl ⟨p, c, rfl, ?_, ?_⟩
        · have := (HI.out.dg.setBox HR5 (.slice p v c)).base (base' := w.heap.size) (by omega)
          rw [upto_end] at this
          exact this
        · exact (HB.out.trans (HI.out.bel.mono HB.out.size)).setCell (by show w.heap.size ≤ w.heap.size; omega) _
  · have hst : t = st0 := by have := HD4.out; rw [if_neg hneg] at this; exact this
    subst hst
    go_wp2_with (go_at_call 153; refine (l1In_any _ _ _ _).mono ?_; rintro e w4 ⟨he, rfl⟩; rw [HD2.out] at he; subst he)
    go_loopw [10, 11, 12] (fun sv iv _ wr => ∃ v : Nat, 1 ≤ v ∧ v ≤ n ∧ iv = .int .i64 (v : Int) ∧ (∃ st : Int, sv = .int .i64 st ∧ Hid (st = dcIt s (triN v))) ∧ Hid (LdI w1 wr w1.heap.size b5 p c n (matG n (uptoE (dcE s o) v 0)))) (fun _ iv _ _ => n - (intOf iv).toNat)
    case atStart => exact ⟨1, Nat.le_refl _, hn1, rfl, ⟨_, rfl, HST0⟩, START⟩
    case round =>
      clear START HST0
      obtain ⟨v, hv1, hv, rfl, ⟨st, rfl, HST⟩, HI⟩ := hrel
      by_cases hlt : v < n
      · have hvi : (v : Int) < (n : Int) := by omega
        go_wp2_with fail
        go_loopw [10, 12] (fun sv iv wx => ∃ u : Nat, u ≤ v ∧ iv = .int .i64 (u : Int) ∧ (∃ st : Int, sv = .int .i64 st ∧ Hid (st = dcIt s (triN v + u))) ∧ Hid (LdI w1 wx w1.heap.size b5 p c n (matG n (uptoE (dcE s o) v u)))) (fun _ iv _ => v - (intOf iv).toNat)
        case atStart => exact ⟨0, Nat.zero_le _, rfl, ⟨_, rfl, HST⟩, HI⟩
        case round =>
          clear HI HST
          obtain ⟨u, hu, rfl, ⟨a, rfl, HA⟩, HI⟩ := hrel
          have cb := HI.out.box.cell
          have fb := HI.out.box.free
          by_cases hul : u < v
          · obtain ⟨ha0, ha1⟩ := dcIt_bd s (triN v + u)
            rw [← HA.out] at ha0 ha1
            obtain ⟨b, hbdef⟩ : ∃ b, b = dcNext a := ⟨_, rfl⟩
            have hb0 := dcIt_bd s (triN v + u + 1)
            have e1 : dcIt s (triN v + u + 1) = b := by rw [hbdef, HA.out]; rfl
            rw [e1] at hb0
            have HBN : Hid (b = dcIt s (triN v + (u + 1))) := Lib.hid e1.symm
            have hw1 : IntKind.i64.wrap (a * 48271) = 48271 * a := by rw [IntKind.wrap_i64]; omega
            have hw2 : IntKind.i64.wrap (48271 * a + 11) = 48271 * a + 11 := by rw [IntKind.wrap_i64]; omega
            have ht1 : Int.tmod (48271 * a + 11) 999999937 = b := by rw [hbdef]; exact dc_tmod a ha0
            obtain ⟨cc, hcc⟩ : ∃ cc, cc = b % 100 := ⟨_, rfl⟩
            have ht2 : Int.tmod b 100 = cc := by rw [hcc]; exact tmod_nn hb0.1
            have HE : Hid (dcE s o v u = decide (cc < o)) := Lib.hid (by rw [dcE_at s o hul, e1, hcc])
            have hui : (u : Int) < (v : Int) := by omega
            clear hbdef e1 hcc
            by_cases hco : cc < o
            · have HEY : Hid (dcE s o v u = true) := Lib.hid (by rw [HE.out]; exact decide_eq_true hco)
              have hlk := l1LinkD_any p c (matG n (uptoE (dcE s o) v u)) (u : Int) (v : Int) u v w1.heap.size rfl rfl (by rw [matG_length]; omega) (by rw [matG_length]; omega) (by omega) (not_mem_matG (by omega) (upto_new1 hul)) (not_mem_matG hlt (upto_new2 hul)) (fun j _ => Nat.le_trans (matG_row_le j) (by omega)) wr (by rw [matG_length]; exact HI.out.dg)
              rw [matG_length, upto_yes HSY.out hlt hul HEY.out] at hlk
              have HLK := Lib.hid hlk
              clear hlk
              go_wp2_with (go_at_call 154; refine HLK.out.mono ?_; rintro e w6 ⟨rfl, hs6, hg6⟩; have hbx := HI.out.box.grown hg6 (fun e => by have := (HI.out.own _ e.symm).2; omega); have hc6 := hbx.cell; have hf6 := hbx.free)
              go_roundw
              case rel => exact ⟨u + 1, by omega, by go_num, ⟨_, rfl, HBN⟩, Lib.hid (HI.out.link hs6 hg6)⟩
              case measure => simp [intOf]; omega
            · have HEN : Hid (dcE s o v u = false) := Lib.hid (by rw [HE.out]; exact decide_eq_false hco)
              have HNX := Lib.hid (upto_no HSY.out hlt hul HEN.out)
              go_wp2_with fail
              go_roundw
              case rel => exact ⟨u + 1, by omega, by go_num, ⟨_, rfl, HBN⟩, by rw [← HNX.out]; exact HI⟩
              case measure => simp [intOf]; omega
          · obtain rfl : u = v := by omega
            have HNX := Lib.hid (upto_row HSY.out (i := u))
            go_wp2_with fail
            go_roundw
            case rel => exact ⟨u + 1, by omega, by omega, by go_num, ⟨_, rfl, HA⟩, by rw [← HNX.out]; exact HI⟩
            case measure => simp [intOf]; omega
      · obtain rfl : v = n := by omega
        have HR5 := HR.out.keep HI.out.bel
        have cb := HI.out.box.cell
        obtain ⟨nc, nf, nl, nB⟩ := id HR5
        go_wp2_with fail
        refine bodyPost_ret (v := .tuple #[.agg #[.slice p v c], .bool true]) (by simp [results, Tryd.results64, go_sem, nc]) rfl ⟨p, c, rfl, ?_, ?_⟩
        · have := (HI.out.dg.setBox HR5 (.slice p v c)).base (base' := w.heap.size) (by omega)
          rw [upto_end] at this
          exact this
        · exact (HB.out.trans (HI.out.bel.mono HB.out.size)).setCell (by show w.heap.size ≤ w.heap.size; omega) _

end Go.Proofs.YtkppbmfliejnmaaDoor
