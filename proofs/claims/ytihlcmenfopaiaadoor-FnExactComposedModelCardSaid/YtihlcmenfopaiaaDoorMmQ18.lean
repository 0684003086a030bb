/- Walks: the program's tests of a set, and of a connected one; the masks of several sets. -/
import Derived.Test.YtihlcmenfopaiaaDoorMmQ13
import Derived.Test.YtihlcmenfopaiaaDoorMmQ14
import Derived.Test.YtihlcmenfopaiaaDoorMmQ15
import Derived.Test.YtihlcmenfopaiaaDoorMmQ6
import Derived.Test.YtihlcmenfopaiaaDoorMmQ17
namespace Go.Proofs.YtihlcmenfopaiaaDoor
open Go.RowKit

set_option maxRecDepth 100000 in
set_option maxHeartbeats 1000000 in
theorem implSetOk_any (v lv : Value) (g : List (List Int)) (s : List Int) (hgl : g.length ≤ 1000000000) (w : World) (hg : Gr w v g) (hn : Nums w 2 .i64 lv s) :
    Calls Tryd.prog 155 #[v, lv] w fun e w' => e = .returned (.bool (dec (GOk g ∧ SetIn g.length s))) ∧ Below w.heap.size w w' := by
  have hg0 := hg
  obtain ⟨u, rfl, hr⟩ := hg
  obtain ⟨p, c, rfl, _⟩ := hr.shape
  have hbA := Lib.hid (below_alloc w (.cells #[.slice p g.length c] 29))
  have HG := Lib.hid (hg0.below hbA.out)
  have HN := Lib.hid (hn.below hbA.out)
  have BX := Lib.hid (Box.new w (.slice p g.length c) 29)
  clear hr hg0 hn
  by_cases hok : GOk g
  · have hd := Lib.hid (dec_true hok)
    have HD : Hid (dec (SetIn g.length s) = dec (GOk g ∧ SetIn g.length s)) := Lib.hid (dec_congr ⟨fun h => ⟨hok, h⟩, fun h => h.2⟩)
    clear hok
    go_enter Tryd.func155, Tryd.ntmps155
    go_wp2_with (first
      | (go_at_call 72; refine (implGraphOk_any _ g _ HG.out).mono ?_; rintro e w2 ⟨he, hb2⟩; rw [hd.out] at he; subst he; have hbx := (BX.out.keep hb2).cell)
      | (go_at_call 128; refine (increasing_any _ s g.length (by omega) (by omega) _ (HN.out.below hb2)).mono ?_; rintro e w3 ⟨he3, hw3⟩; rw [HD.out] at he3; subst he3; subst hw3))
    go_ret
    exact ⟨rfl, hbA.out.trans (hb2.mono hbA.out.size)⟩
  · have hd := Lib.hid (dec_false hok)
    have HD := Lib.hid (dec_false (show ¬ (GOk g ∧ SetIn g.length s) from fun h => hok h.1))
    clear hok
    go_enter Tryd.func155, Tryd.ntmps155
    go_wp2_with (go_at_call 72; refine (implGraphOk_any _ g _ HG.out).mono ?_; rintro e w2 ⟨he, hb2⟩; rw [hd.out] at he; subst he)
    go_ret
    exact ⟨by rw [HD.out]; rfl, hbA.out.trans (hb2.mono hbA.out.size)⟩

set_option maxRecDepth 100000 in
set_option maxHeartbeats 1000000 in
theorem connected_any (x : Value) (z : Int) (n : Nat) (E : Nat → Nat → Bool) (W : Nat) (hz : z = W) (hW : W < 65536) (hWn : ∀ i, W.testBit i = true → i < n) (w : World) (hx : NE w x n E) (hT : Tab w) :
    Calls Tryd.prog 117 #[x, .int .u32 z] w fun e w' => e = .returned (.bool (dec (ConnL E (bitsOf W)))) ∧ Below w.heap.size w w' := by
  subst hz
  by_cases h0 : W = 0
  · subst h0
    have HD := Lib.hid (dec_false (show ¬ ConnL E (bitsOf 0) by rw [bitsOf_zero]; exact not_connL_nil E))
    go_enter Tryd.func117, Tryd.ntmps117
    go_wp2
    go_ret
    exact ⟨by rw [HD.out]; rfl, Below.refl _ _⟩
  · have h0' : ((W : Int) != 0) = true := by simp; omega
    have hst := bitsOf_step W h0 (by omega)
    obtain ⟨hub, _, _⟩ := testBit_ctz W h0 (by omega)
    obtain ⟨u, hu⟩ : ∃ u, u = Lib.ctz 32 W := ⟨_, rfl⟩
    rw [← hu] at hst hub
    have HU := Lib.hid hu
    have HUB := Lib.hid hub
    have H0 := Lib.hid h0
    have HX := Lib.hid hx
    have HT := Lib.hid hT
    have HWN := Lib.hid hWn
    have HEQ : Hid (∀ m : Nat, m < 65536 → (∀ i, m.testBit i = true ↔ i ∈ partL E (bitsOf W) u) → ((m : Int) == (W : Int)) = dec (ConnL E (bitsOf W))) := Lib.hid (fun m hm hmb => by
      have hi : ConnL E (bitsOf W) ↔ m = W := by
        rw [hst, connL_part, ← hst]
        constructor
        · intro e
          refine Nat.eq_of_testBit_eq fun i => ?_
          rw [Bool.eq_iff_iff, hmb i, e, mem_left hW]
        · rintro rfl
          refine rising_ext _ _ (partL_rising (bitsOf_rising _) u) (bitsOf_rising _) fun i => ?_
          rw [← hmb i, mem_left hW]
      by_cases e : m = W
      · rw [dec_true (hi.2 e), e]; simp
      · rw [dec_false (fun k => e (hi.1 k))]
        simp
        omega)
    clear hu hub h0 hst hx hT hWn
    go_enter Tryd.func117, Tryd.ntmps117
    go_wp2_with (first
      | (go_at_call 159; refine (reach_any _ _ _ n E u W rfl rfl hW HWN.out HUB.out _ HX.out HT.out).mono ?_; rintro e w4 ⟨m, rfl, hm16, hmb, hb4⟩; have hme := HEQ.out m hm16 hmb; clear hmb)
      | (go_at_call 75; refine (least_any _ W rfl H0.out (by omega) _ HT.out).mono ?_; rintro e w3 ⟨he3, rfl⟩; rw [← HU.out] at he3; subst he3))
    go_ret
    exact ⟨ret_bool (by first | exact hme | rfl | (rw [hme])), hb4⟩

/-- A connected set of a right graph. -/
def ConnS (g : List (List Int)) (s : List Int) : Prop := (GOk g ∧ SetIn g.length s) ∧ ConnL (ofG g) (s.map Int.toNat)
theorem setIn_nats {n : Nat} {s : List Int} (h : SetIn n s) : natInts (s.map Int.toNat) = s ∧ (s.map Int.toNat).Pairwise (· < ·) ∧ ∀ x ∈ s.map Int.toNat, x < n := by
  refine ⟨?_, ?_, ?_⟩
  · unfold natInts
    rw [List.map_map]
    conv => rhs; rw [← List.map_id s]
    exact List.map_congr_left fun x hx => Int.toNat_of_nonneg (h.1 x hx).1
  · refine List.pairwise_map.2 (h.2.imp_of_mem fun {a b} ha hb k => ?_)
    have := (h.1 a ha).1
    have := (h.1 b hb).1
    omega
  · intro x hx
    obtain ⟨y, hy, rfl⟩ := List.mem_map.1 hx
    have := h.1 y hy
    omega
theorem bits_maskS {n : Nat} {s : List Int} (hn : n ≤ 16) (h : SetIn n s) : bitsOf (mask s) = s.map Int.toNat := by
  obtain ⟨h1, h2, h3⟩ := setIn_nats h
  conv => lhs; rw [← h1]
  exact bitsOf_maskN h2 fun x hx => by have := h3 x hx; omega

set_option maxRecDepth 100000 in
set_option maxHeartbeats 1000000 in
theorem implConnectedIn_any (v lv : Value) (g : List (List Int)) (s : List Int) (hgl : g.length ≤ 1000000000) (w : World) (hg : Gr w v g) (hn : Nums w 2 .i64 lv s) (hT : Tab w) :
    Calls Tryd.prog 105 #[v, lv] w fun e w' => e = .returned (.bool (dec (ConnS g s))) ∧ Below w.heap.size w w' := by
  have hg0 := hg
  obtain ⟨u, rfl, hr⟩ := hg
  obtain ⟨p, c, rfl, _⟩ := hr.shape
  have hbA := Lib.hid (below_alloc w (.cells #[.slice p g.length c] 29))
  have HG := Lib.hid (hg0.below hbA.out)
  have HN := Lib.hid (hn.below hbA.out)
  have HT := Lib.hid (hT.keep hbA.out)
  have BX := Lib.hid (Box.new w (.slice p g.length c) 29)
  clear hr hg0 hn hT
  by_cases hok : GOk g ∧ SetIn g.length s
  · have hd := Lib.hid (dec_true hok)
    have hle := hok.1.le
    have HD : Hid (dec (ConnL (ofG g) (bitsOf (mask s))) = dec (ConnS g s)) := Lib.hid (by
      rw [bits_maskS hle hok.2]
      exact dec_congr ⟨fun h => ⟨hok, h⟩, fun h => h.2⟩)
    have h16 : mask s < 65536 := mask_lt16 s fun x hx => by have := hok.2.1 x hx; omega
    have HS : Hid (∀ x ∈ s, 0 ≤ x ∧ x < 16) := Lib.hid (fun x hx => by have := hok.2.1 x hx; omega)
    have HW : Hid (∀ i, (mask s).testBit i = true → i < g.length) := Lib.hid (fun i hi => by
      obtain ⟨_, _, h3⟩ := setIn_nats hok.2
      have := (mem_left h16).2 hi
      rw [bits_maskS hle hok.2] at this
      exact h3 i this)
    have Hok := Lib.hid hok
    obtain ⟨m, hm⟩ : ∃ m, m = mask s := ⟨_, rfl⟩
    rw [← hm] at HD h16 HW
    have HM := Lib.hid hm
    clear hok hm
    go_enter Tryd.func105, Tryd.ntmps105
    go_wp2_with (first
      | (go_at_call 155; refine (implSetOk_any _ _ g s hgl _ HG.out HN.out).mono ?_; rintro e w2 ⟨he, hb2⟩; rw [hd.out] at he; subst he; have hbx := (BX.out.keep hb2).cell)
      | (go_at_call 77; refine (netsOf_any _ g _ (HG.out.below hb2) Hok.out.1).mono ?_; rintro e w3 ⟨x, rfl, hown3, hb3⟩; have HX3 : Hid (NE w3 x g.length (ofG g)) := Lib.hid ⟨hle, by rw [indN_ofG Hok.out.1]; exact Sl.of_owns hown3 (by omega)⟩; clear hown3)
      | (go_at_call 107; refine (maskOf_any _ s HS.out _ ((HN.out.below hb2).below hb3)).mono ?_; rintro e w4 ⟨he4, hw4⟩; rw [← HM.out] at he4; subst he4; subst hw4)
      | (go_at_call 117; refine (connected_any _ _ g.length (ofG g) m rfl h16 HW.out _ HX3.out ((HT.out.keep hb2).keep hb3)).mono ?_; rintro e w5 ⟨he5, hb5⟩; rw [HD.out] at he5; subst he5))
    go_ret
    exact ⟨rfl, ((hbA.out.trans (hb2.mono hbA.out.size)).trans (hb3.mono (Nat.le_trans hbA.out.size hb2.size))).trans (hb5.mono (Nat.le_trans (Nat.le_trans hbA.out.size hb2.size) hb3.size))⟩
  · have hd := Lib.hid (dec_false hok)
    have HD := Lib.hid (dec_false (show ¬ ConnS g s from fun h => hok h.1))
    clear hok
    go_enter Tryd.func105, Tryd.ntmps105
    go_wp2_with (go_at_call 155; refine (implSetOk_any _ _ g s hgl _ HG.out HN.out).mono ?_; rintro e w2 ⟨he, hb2⟩; rw [hd.out] at he; subst he)
    go_ret
    exact ⟨by rw [HD.out]; rfl, hbA.out.trans (hb2.mono hbA.out.size)⟩

theorem ty_vsets' : SlTy Tryd.prog 78 76 (.int .u32 0) 1 4 := ⟨Tryd.underlying78, by kernel_rfl, rfl, by decide, by decide⟩
set_option maxRecDepth 100000 in
set_option maxHeartbeats 1000000 in
theorem bagMasks_any (v : Value) (S : List (List Int)) (hS : ∀ j, j < S.length → ∀ x ∈ row S j, 0 ≤ x ∧ x < 16) (hl : S.length ≤ 1000000) (w : World) (hr : Rws w 27 2 v S) :
    Calls Tryd.prog 59 #[v] w fun e w' => ∃ u, e = .returned u ∧ w'.ownsRow w.heap.size 76 1 u S.length ((S.map mask).map u32v) ∧ Below w.heap.size w w' := by
  obtain ⟨p, c, rfl, _⟩ := hr.shape
  have HR := Lib.hid hr
  have HS := Lib.hid hS
  have START := Lib.hid (ownsRow_empty w 76 1)
  clear hr hS
  go_enter Tryd.func59, Tryd.ntmps59
  go_wp2
  go_loopw [3, 9] (fun ov i wr => ∃ k : Nat, k ≤ S.length ∧ i = .int .i64 k ∧ wr.ownsRow w.heap.size 76 1 ov k (((S.take k).map mask).map u32v) ∧ Below w.heap.size w wr) (fun _ i _ => S.length - (intOf i).toNat)
  case atStart => exact ⟨0, Nat.zero_le _, rfl, START.out, below_alloc _ _⟩
  case round =>
    clear START
    obtain ⟨k, hk, rfl, hown, hb⟩ := hrel
    have HO := Lib.hid hown
    have HB := Lib.hid hb
    by_cases hlt : k < S.length
    · obtain ⟨eb, eo, rp, rc, rfl, hce, hne⟩ := (HR.out.below hb).get hlt
      obtain ⟨m, hm⟩ : ∃ m, m = mask (row S k) := ⟨_, rfl⟩
      have HM := Lib.hid hm
      have HNE : Hid (Nums wr 2 .i64 (.slice rp (row S k).length rc) (row S k)) := Lib.hid hne
      have HT : Hid ((S.take (k + 1)).map mask = (S.take k).map mask ++ [m]) := Lib.hid (by rw [take_snoc' S k hlt, List.map_append, hm]; simp [row, hlt])
      have hks : k < 1000000000 := by omega
      have hce' : wr.cell? ⟨eb, eo + k, none⟩ = some (.slice rp (row S k).length rc) := hce
      generalize (row S k).length = rl at hce' HNE
      clear hown hb hne hm hce
      go_wp2_with (first
        | (go_at_call 107; refine (maskOf_any _ (row S k) (HS.out k hlt) _ HNE.out).mono ?_; rintro e w4 ⟨he4, hw4⟩; rw [← HM.out] at he4; subst he4; subst hw4; have ho4 := HO.out)
        | (at_builtin; refine wpList_app1s ty_vsets' rfl rfl rfl ho4 rfl rfl hks HB.out.size ?_; intro b7 c8 w7 hown7 hg7 _))
      go_roundw
      case rel => exact ⟨k + 1, by omega, by go_num, by rw [HT.out, List.map_append]; exact hown7, below_grown HB.out ho4 hg7 (Nat.le_refl _) HB.out.size⟩
      case measure => simp [intOf]; omega
    · obtain rfl : k = S.length := by omega
      rw [List.take_length] at HO
      go_wp2
      go_ret
      exact ⟨_, rfl, HO.out, HB.out⟩

end Go.Proofs.YtihlcmenfopaiaaDoor

/- Plain: edges cut; bridges; the parts without them. -/
namespace Go.Proofs.YtihlcmenfopaiaaDoor

def cutE (E : Nat → Nat → Bool) (p q : Nat) : Nat → Nat → Bool := fun r j => E r j && !((r == p && j == q) || (r == q && j == p))
theorem cutE_sym {E : Nat → Nat → Bool} (h : ∀ r j, E r j = true → E j r = true) (p q : Nat) (r j : Nat) (he : cutE E p q r j = true) : cutE E p q j r = true := by
  simp only [cutE, Bool.and_eq_true, Bool.not_eq_true', Bool.or_eq_false_iff, Bool.and_eq_false_iff, beq_eq_false_iff_ne] at he ⊢
  obtain ⟨h1, h2, h3⟩ := he
  refine ⟨h _ _ h1, ?_, ?_⟩
  · rcases h3 with h3 | h3
    · exact .inr h3
    · exact .inl h3
  · rcases h2 with h2 | h2
    · exact .inr h2
    · exact .inl h2
theorem cutE_irr {E : Nat → Nat → Bool} (h : ∀ r, E r r = false) (p q r : Nat) : cutE E p q r r = false := by simp [cutE, h r]

/-- Two vertices are made no neighbours. -/
def partN (a : List Nat) (u v : Nat) : List Nat := let b := a.set u (sub (a.getD u 0) (2 ^ v)); b.set v (sub (b.getD v 0) (2 ^ u))
theorem partN_length (a : List Nat) (u v : Nat) : (partN a u v).length = a.length := by simp [partN]
theorem partN_indN {n : Nat} (hn : n ≤ 16) {E : Nat → Nat → Bool} {u v : Nat} (hu : u < n) (hv : v < n) (huv : u ≠ v) : partN (indN n E) u v = indN n (cutE E u v) := by
  have hl := indN_length n E
  have h16 := indN_lt16 (E := E) hn
  refine natList_ext (by rw [partN_length, hl, indN_length]) fun r hr => ?_
  rw [partN_length, hl] at hr
  have e : (partN (indN n E) u v).getD r 0 = if r = v then sub ((indN n E).getD v 0) (2 ^ u) else if r = u then sub ((indN n E).getD u 0) (2 ^ v) else (indN n E).getD r 0 := by
    unfold partN
    rw [getD_set _ _ _ _ (by rw [List.length_set, hl]; exact hv)]
    by_cases e : r = v
    · subst e
      rw [if_pos rfl, if_pos rfl, getD_set _ _ _ _ (by rw [hl]; exact hu), if_neg (fun q => huv q.symm)]
    · rw [if_neg e, if_neg e, getD_set _ _ _ _ (by rw [hl]; exact hu)]
  rw [e]
  refine Nat.eq_of_testBit_eq fun j => ?_
  rw [Bool.eq_iff_iff, indN_bit hr]
  by_cases e1 : r = v
  · subst e1
    rw [if_pos rfl, testBit_sub1 (lt16_getD h16 _) (by omega), indN_bit hr]
    simp only [cutE, Bool.and_eq_true, decide_eq_true_eq, Bool.not_eq_true', Bool.or_eq_false_iff, Bool.and_eq_false_iff, beq_eq_false_iff_ne, ne_eq]
    constructor
    · rintro ⟨⟨h1, h2⟩, h3⟩; exact ⟨h1, h2, .inl (fun q => huv q.symm), .inr h3⟩
    · rintro ⟨h1, h2, _, h3⟩
      exact ⟨⟨h1, h2⟩, fun q => by rcases h3 with h3 | h3; exact h3 trivial; exact h3 q⟩
  · rw [if_neg e1]
    by_cases e2 : r = u
    · subst e2
      rw [if_pos rfl, testBit_sub1 (lt16_getD h16 _) (by omega), indN_bit hr]
      simp only [cutE, Bool.and_eq_true, decide_eq_true_eq, Bool.not_eq_true', Bool.or_eq_false_iff, Bool.and_eq_false_iff, beq_eq_false_iff_ne, ne_eq]
      constructor
      · rintro ⟨⟨h1, h2⟩, h3⟩; exact ⟨h1, h2, .inr h3, .inl e1⟩
      · rintro ⟨h1, h2, h3, _⟩
        exact ⟨⟨h1, h2⟩, fun q => by rcases h3 with h3 | h3; exact h3 trivial; exact h3 q⟩
    · rw [if_neg e2, indN_bit hr]
      have a1 : (r == u) = false := by simpa using e2
      have a2 : (r == v) = false := by simpa using e1
      simp [cutE, a1, a2]
theorem joinL_cut {n : Nat} {E : Nat → Nat → Bool} {u v : Nat} (hu : u < n) (hv : v < n) (huv : u ≠ v) (h1 : E u v = true) (h2 : E v u = true) : joinL (indN n (cutE E u v)) u v = indN n E := by
  refine natList_ext (by rw [joinL_length, indN_length, indN_length]) fun r hr => ?_
  rw [joinL_length, indN_length] at hr
  refine Nat.eq_of_testBit_eq fun j => ?_
  rw [Bool.eq_iff_iff, joinL_testBit (by rw [indN_length]; exact hu) (by rw [indN_length]; exact hv) huv, indN_bit hr, indN_bit hr]
  simp only [cutE, Bool.and_eq_true, decide_eq_true_eq, Bool.not_eq_true', Bool.or_eq_false_iff, Bool.and_eq_false_iff, beq_eq_false_iff_ne, ne_eq]
  constructor
  · rintro (⟨a, b, _⟩ | ⟨rfl, rfl⟩ | ⟨rfl, rfl⟩)
    · exact ⟨a, b⟩
    · exact ⟨hv, h1⟩
    · exact ⟨hu, h2⟩
  · rintro ⟨a, b⟩
    by_cases c1 : r = u ∧ j = v
    · exact .inr (.inl c1)
    · by_cases c2 : r = v ∧ j = u
      · exact .inr (.inr c2)
      · refine .inl ⟨a, b, ?_, ?_⟩
        · by_cases q : r = u
          · exact .inr fun q2 => c1 ⟨q, q2⟩
          · exact .inl q
        · by_cases q : r = v
          · exact .inr fun q2 => c2 ⟨q, q2⟩
          · exact .inl q

/-- The edges, in order. -/
def edRow (n : Nat) (E : Nat → Nat → Bool) (u : Nat) : List (Nat × Nat) := ((List.range n).filter fun v => decide (u < v) && E u v).map fun v => (u, v)
def edN (n : Nat) (E : Nat → Nat → Bool) (k : Nat) : List (Nat × Nat) := (List.range k).flatMap (edRow n E)
theorem edN_succ (n : Nat) (E : Nat → Nat → Bool) (k : Nat) : edN n E (k + 1) = edN n E k ++ edRow n E k := by simp [edN, List.range_succ, List.flatMap_append]
theorem mem_edN {n : Nat} {E : Nat → Nat → Bool} {k : Nat} (hk : k ≤ n) {e : Nat × Nat} (h : e ∈ edN n E k) : e.1 < n ∧ e.2 < n ∧ e.1 < e.2 ∧ E e.1 e.2 = true := by
  simp only [edN, edRow, List.mem_flatMap, List.mem_range, List.mem_map, List.mem_filter, Bool.and_eq_true, decide_eq_true_eq] at h
  obtain ⟨u, hu, v, ⟨hv, h1, h2⟩, rfl⟩ := h
  exact ⟨by show u < n; omega, hv, h1, h2⟩
theorem edRow_length (n : Nat) (E : Nat → Nat → Bool) (u : Nat) : (edRow n E u).length ≤ n := by
  simp only [edRow, List.length_map]
  exact Nat.le_trans (List.length_filter_le _ _) (by simp)
theorem edN_length (n : Nat) (E : Nat → Nat → Bool) : ∀ k, (edN n E k).length ≤ k * n
  | 0 => by simp [edN]
  | k + 1 => by
    rw [edN_succ, List.length_append]
    have h1 := edN_length n E k
    have h2 := edRow_length n E k
    have : (k + 1) * n = k * n + n := Nat.succ_mul k n
    omega

/-- No way between the ends of an edge without it. -/
def Brd (n : Nat) (E : Nat → Nat → Bool) (e : Nat × Nat) : Prop := ¬ Rch (cutE E e.1 e.2) (· ∈ List.range n) e.1 e.2
noncomputable def brdL (n : Nat) (E : Nat → Nat → Bool) (l : List (Nat × Nat)) : List (Nat × Nat) := l.filter fun e => dec (Brd n E e)
theorem brdL_snoc (n : Nat) (E : Nat → Nat → Bool) (l : List (Nat × Nat)) (e : Nat × Nat) : brdL n E (l ++ [e]) = if dec (Brd n E e) = true then brdL n E l ++ [e] else brdL n E l := by
  unfold brdL
  rw [List.filter_append]
  by_cases h : dec (Brd n E e) = true
  · rw [if_pos h]; simp [List.filter_cons, h]
  · rw [if_neg h]; simp [List.filter_cons, h]
theorem brdL_length (n : Nat) (E : Nat → Nat → Bool) (l : List (Nat × Nat)) : (brdL n E l).length ≤ l.length := List.length_filter_le _ _
theorem mem_brdL {n : Nat} {E : Nat → Nat → Bool} {l : List (Nat × Nat)} {e : Nat × Nat} (h : e ∈ brdL n E l) : e ∈ l := (List.mem_filter.1 h).1
def cutAll (E : Nat → Nat → Bool) (l : List (Nat × Nat)) : Nat → Nat → Bool := l.foldl (fun E e => cutE E e.1 e.2) E
theorem cutAll_snoc (E : Nat → Nat → Bool) (l : List (Nat × Nat)) (e : Nat × Nat) : cutAll E (l ++ [e]) = cutE (cutAll E l) e.1 e.2 := by simp [cutAll]
theorem cutAll_sym {E : Nat → Nat → Bool} (h : ∀ r j, E r j = true → E j r = true) (l : List (Nat × Nat)) : ∀ r j, cutAll E l r j = true → cutAll E l j r = true := by
  induction l generalizing E with
  | nil => exact h
  | cons e l ih => exact ih (cutE_sym h _ _)
theorem cutAll_irr {E : Nat → Nat → Bool} (h : ∀ r, E r r = false) (l : List (Nat × Nat)) : ∀ r, cutAll E l r r = false := by
  induction l generalizing E with
  | nil => exact h
  | cons e l ih => exact ih (cutE_irr h _ _)

/-- Pairs, as rows. -/
def prsL (l : List (Nat × Nat)) : List (List Int) := l.map fun e => [(e.1 : Int), (e.2 : Int)]
theorem prsL_length (l : List (Nat × Nat)) : (prsL l).length = l.length := by simp [prsL]
theorem prsL_snoc (l : List (Nat × Nat)) (e : Nat × Nat) : prsL (l ++ [e]) = prsL l ++ [[(e.1 : Int), (e.2 : Int)]] := by simp [prsL]

/-- What EdgeParts returns. -/
def EpS (g : List (List Int)) (gg : List (List Int)) : Prop :=
  (GOk g ∧ ∃ ps, Parts (cutAll (ofG g) (brdL g.length (ofG g) (edN g.length (ofG g) g.length))) (List.range g.length) ps ∧ gg = ps.map natInts) ∨ (¬ GOk g ∧ gg = [])
theorem epS_det {g gg hh : List (List Int)} (h : EpS g gg) (h2 : EpS g hh) : gg = hh := by
  rcases h with ⟨hg, ps, h, rfl⟩ | ⟨hg, rfl⟩ <;> rcases h2 with ⟨hg2, qs, h2, rfl⟩ | ⟨hg2, rfl⟩
  · rw [parts_det h h2]
  · exact absurd hg hg2
  · exact absurd hg2 hg
  · rfl

end Go.Proofs.YtihlcmenfopaiaaDoor
