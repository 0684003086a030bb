/- Walks: l1Less, l12Bit, l12Set. -/
import Derived.Test.YtfokiijcpkhllaaDoorFmQ18
import Derived.Test.YtfokiijcpkhllaaDoorFmQ2
import Derived.Deep.RegionHeld3
import Derived.Deep.DeepCutAuto
import Derived.Test.YtfokiijcpkhllaaDoorFmQ14
import Derived.Test.YtfokiijcpkhllaaDoorFmQ17
import Derived.Test.YtfokiijcpkhllaaDoorFmQ22
namespace Go.Proofs.YtfokiijcpkhllaaDoor
open Go.RowKit

theorem natInts_atL {l : List Nat} {k : Nat} (h : k < l.length) {h' : k < (natInts l).length} : (natInts l)[k] = ((l[k] : Nat) : Int) := by simp [natInts]
theorem lexL_at : ∀ (i : Nat) (a b : List Nat) (ha : i < a.length) (hb : i < b.length), a.take i = b.take i → a[i] ≠ b[i] → (lexL a b ↔ a[i] < b[i])
  | _, [], _, ha, _, _, _ => by simp at ha
  | _, _ :: _, [], _, hb, _, _ => by simp at hb
  | 0, x :: a, y :: b, _, _, _, hne => by
    simp only [List.getElem_cons_zero] at hne ⊢
    simp only [lexL]
    exact ⟨fun h => h.elim id fun h => absurd h.1 hne, .inl⟩
  | i + 1, x :: a, y :: b, ha, hb, ht, hne => by
    simp only [List.take_succ_cons, List.cons.injEq] at ht
    obtain ⟨rfl, ht⟩ := ht
    simp only [List.getElem_cons_succ] at hne ⊢
    simp only [lexL]
    rw [← lexL_at i a b (by simpa using ha) (by simpa using hb) ht hne]
    exact ⟨fun h => h.elim (fun h => absurd h (Nat.lt_irrefl _)) fun h => h.2, fun h => .inr ⟨trivial, h⟩⟩


theorem i64_and_nat (a b : Nat) (ha : a < 4294967296) (hb : b < 4294967296) : bits BinOp.and IntKind.i64 (a : Int) (b : Int) = ((a &&& b : Nat) : Int) :=
  (bits_nat .i64 32 (by decide) (fun n h1 h2 => by rw [IntKind.wrap_i64]; omega) a b (by omega) (by omega)).1

theorem wrap_pow (v : Nat) (hv : v < 32) : wrap64 (2 ^ v) = ((2 ^ v : Nat) : Int) := by
  have h1 := pow_lt32 v hv
  have e : (2 ^ v : Int) = ((2 ^ v : Nat) : Int) := by simp
  rw [e]
  generalize (2 ^ v : Nat) = t at *
  unfold wrap64
  omega
set_option maxHeartbeats 400000 in
theorem l12Bit_any (z : Int) (v : Nat) (hz : z = v) (hv : v < 32) (w : World) :
    Calls Tryd.prog 51 #[.int .i64 z] w fun e w' => e = .returned (.int .i64 ((2 ^ v : Nat) : Int)) ∧ w = w' := by
  subst hz
  have HB : Hid (wrap64 (2 ^ v) = ((2 ^ v : Nat) : Int)) := Lib.hid (wrap_pow v hv)
  go_enter Tryd.func51, Tryd.ntmps51
  go_wp2
  go_ret
  refine ⟨?_, rfl⟩
  rw [← HB.out]
  rfl

theorem bit_ne (s k : Nat) (hs : s < 65536) (hk : k < 17) : (bits BinOp.and IntKind.i64 (s : Int) ((2 ^ k : Nat) : Int) != 0) = s.testBit k := by
  have h1 := pow_lt32 k (by omega)
  rw [i64_and_nat _ _ (by omega) h1, Bool.eq_iff_iff]
  constructor
  · intro h
    refine Decidable.byContradiction fun hn => ?_
    have h0 : s &&& 2 ^ k = 0 := Nat.eq_of_testBit_eq fun j => by
      rw [Nat.testBit_and, Nat.testBit_two_pow, Nat.zero_testBit]
      by_cases hj : k = j
      · subst hj
        simpa using hn
      · simp [hj]
    rw [h0] at h
    simp at h
  · intro h
    have h0 : s &&& 2 ^ k ≠ 0 := fun h0 => by
      have := congrArg (fun z => z.testBit k) h0
      simp [h] at this
    simp only [bne_iff_ne, ne_eq]
    omega



def lowB (s k : Nat) : List Nat := (List.range k).filter fun i => s.testBit i
theorem lowB_len (s k : Nat) : (lowB s k).length ≤ k := Nat.le_trans (List.length_filter_le _ _) (by simp)
theorem lowB_yes {s k : Nat} (h : s.testBit k = true) : lowB s (k + 1) = lowB s k ++ [k] := by simp [lowB, List.range_succ, h]
theorem lowB_no {s k : Nat} (h : s.testBit k = false) : lowB s (k + 1) = lowB s k := by simp [lowB, List.range_succ, h]
theorem lowB_end {s k : Nat} (hs : s < 2 ^ k) (hk : k ≤ 32) : lowB s k = bitsOf s :=
  rising_ext _ _ (List.Pairwise.filter _ List.pairwise_lt_range) (bitsOf_rising s) fun x => by
    rw [mem_bitsOf, lowB, List.mem_filter, List.mem_range]
    constructor
    · rintro ⟨a, b⟩
      exact ⟨by omega, b⟩
    · rintro ⟨a, b⟩
      refine ⟨Nat.lt_of_not_le fun hge => ?_, b⟩
      have := Nat.testBit_lt_two_pow (Nat.lt_of_lt_of_le hs (Nat.pow_le_pow_right (by decide) hge) : s < 2 ^ x)
      rw [this] at b
      exact nomatch b

set_option maxRecDepth 100000 in
set_option maxHeartbeats 1000000 in
theorem l12Set_any (z : Int) (s : Nat) (hz : z = s) (hs : s < 65536) (w : World) :
    Calls Tryd.prog 52 #[.int .i64 z] w fun e w' => ∃ ov, e = .returned ov ∧ w'.ownsRow w.heap.size 2 1 ov (bitsOf s).length ((natInts (bitsOf s)).map (Value.int .i64)) ∧ Below w.heap.size w w' := by
  subst hz
  have HO := Lib.hid (ownsRow_empty w 2 1)
  have HB := Lib.hid (below_alloc w (.cells #[] 2))
  have HS := Lib.hid hs
  clear hs
  go_enter Tryd.func52, Tryd.ntmps52
  go_wp2
  go_loopw [3, 4] (fun o i wr => ∃ k : Nat, k ≤ 16 ∧ i = .int .i64 k ∧ wr.ownsRow w.heap.size 2 1 o (lowB s k).length ((natInts (lowB s k)).map (Value.int .i64)) ∧ Below w.heap.size w wr) (fun _ i _ => 16 - (intOf i).toNat)
  case atStart => exact ⟨0, Nat.zero_le _, rfl, HO.out, HB.out⟩
  case round =>
    obtain ⟨k, hk, rfl, hown, hbel⟩ := hrel
    have hsz := hbel.size
    have hll := lowB_len s k
    obtain ⟨t, ht⟩ : ∃ t, t = 2 ^ k := ⟨_, rfl⟩
    have HT := Lib.hid ht
    by_cases hle : t ≤ s
    · have hk16 : k < 16 := by
        refine Nat.lt_of_not_le fun h => ?_
        have h1 : 2 ^ 16 ≤ 2 ^ k := Nat.pow_le_pow_right (by decide) h
        have := HS.out
        omega
      have hbit := bit_ne s k HS.out (by omega)
      rw [← ht] at hbit
      clear ht
      have e1 : (t : Int) ≤ (s : Int) := by omega
      cases hb : s.testBit k
      · rw [hb] at hbit
        have Hb := Lib.hid hb
        clear hb
        go_wp2_with (go_at_call 51; refine (l12Bit_any _ k rfl (by omega) _).mono ?_; rintro e w4 ⟨he, hw4⟩; rw [← HT.out] at he; subst he; subst hw4)
        go_roundw
        case rel => exact ⟨k + 1, by omega, by go_num, by rw [lowB_no Hb.out]; exact hown, hbel⟩
        case measure => simp [intOf]; omega
      · rw [hb] at hbit
        have Hb := Lib.hid hb
        clear hb
        go_wp2_with (first
          | (go_at_call 51; refine (l12Bit_any _ k rfl (by omega) _).mono ?_; rintro e w4 ⟨he, hw4⟩; rw [← HT.out] at he; subst he; subst hw4)
          | (at_builtin; refine wpList_app1 ty_i64 rfl rfl rfl hown rfl rfl (by omega) (by omega) ?_; intro v' w1 hown' hg _))
        go_roundw
        case rel => exact ⟨k + 1, by omega, by go_num, by rw [lowB_yes Hb.out, show natInts (lowB s k ++ [k]) = natInts (lowB s k) ++ [(k : Int)] by simp [natInts], List.map_append, List.length_append]; exact hown', below_grown hbel hown hg (Nat.le_refl _) hsz⟩
        case measure => simp [intOf]; omega
    · have hend := Lib.hid (lowB_end (s := s) (k := k) (by omega) (by omega))
      clear ht
      go_wp2_with (go_at_call 51; refine (l12Bit_any _ k rfl (by omega) _).mono ?_; rintro e w4 ⟨he, hw4⟩; rw [← HT.out] at he; subst he; subst hw4)
      go_ret
      exact ⟨_, rfl, by rw [← hend.out]; exact hown, hbel⟩

end Go.Proofs.YtfokiijcpkhllaaDoor

/- Walks: sets as int64 (the reference's l25Bits, l25Many, l27Low, l27Part). -/
namespace Go.Proofs.YtfokiijcpkhllaaDoor
open Go.RowKit

def i64v (s : Nat) : Value := .int .i64 (s : Int)
theorem i64_or_nat (a b : Nat) (ha : a < 4294967296) (hb : b < 4294967296) : bits BinOp.or IntKind.i64 (a : Int) (b : Int) = ((a ||| b : Nat) : Int) :=
  (bits_nat .i64 32 (by decide) (fun n h1 h2 => by rw [IntKind.wrap_i64]; omega) a b (by omega) (by omega)).2
theorem i64_andNot_nat (a b : Nat) (ha : a < 4294967296) (hb : b < 4294967296) : bits BinOp.andNot IntKind.i64 (a : Int) (b : Int) = ((sub a b : Nat) : Int) := by
  have hx : sub a b < 2 ^ 32 := sub_lt32 _ _ ha
  show IntKind.i64.wrap ((BitVec.ofInt 64 (a : Int) &&& ~~~BitVec.ofInt 64 (b : Int)).toNat : Int) = _
  have e1 : (BitVec.ofInt 64 (a : Int)).toNat = a := by rw [BitVec.ofInt_natCast, BitVec.toNat_ofNat]; omega
  have e2 : (BitVec.ofInt 64 (b : Int)).toNat = b := by rw [BitVec.ofInt_natCast, BitVec.toNat_ofNat]; omega
  have e3 : a &&& (2 ^ 64 - 1 - b) = sub a b := Nat.eq_of_testBit_eq fun j => by
    rw [testBit_sub _ _ ha hb, Nat.testBit_and]
    have h64 : b < 2 ^ 64 := by omega
    rw [show 2 ^ 64 - 1 - b = 2 ^ 64 - (b + 1) by omega, Nat.testBit_two_pow_sub_succ h64]
    by_cases hj : j < 64
    · simp [hj]
    · have : a.testBit j = false := Nat.testBit_lt_two_pow (Nat.lt_of_lt_of_le (show a < 2 ^ 32 by omega) (Nat.pow_le_pow_right (by decide) (by omega)))
      simp [this]
  rw [BitVec.toNat_and, BitVec.toNat_not, e1, e2, e3, IntKind.wrap_i64]
  omega
theorem shrB_bit (s k : Nat) (hs : s < 65536) : bits BinOp.and IntKind.i64 ((s : Int) / 2 ^ k) 1 = ((if s.testBit k then 1 else 0 : Nat) : Int) := by
  have e : ((s : Int) / 2 ^ k) = ((s / 2 ^ k : Nat) : Int) := by simp
  rw [e]
  have h1 : s / 2 ^ k < 4294967296 := Nat.lt_of_le_of_lt (Nat.div_le_self _ _) (by omega)
  have := i64_and_nat (s / 2 ^ k) 1 h1 (by decide)
  rw [show ((1 : Nat) : Int) = 1 from rfl] at this
  rw [this, Nat.and_one_is_mod, Nat.testBit_eq_decide_div_mod_eq]
  by_cases h : s / 2 ^ k % 2 = 1
  · simp [h]
  · have : s / 2 ^ k % 2 = 0 := by omega
    simp [this]
theorem bits_deg {n : Nat} (hn : n ≤ 16) {E : Nat → Nat → Bool} {v s : Nat} (hs : s < 65536) (hb : ∀ j, s.testBit j = (decide (j < n) && E v j)) : (bitsOf s).length = degN n E v := by
  have : bitsOf s = (List.range n).filter (E v) := rising_ext _ _ (bitsOf_rising _) (List.Pairwise.filter _ List.pairwise_lt_range) fun x => by
    rw [mem_left hs, hb, List.mem_filter, List.mem_range]
    simp
  rw [this]
  unfold degN
  rw [List.countP_eq_length_filter]

end Go.Proofs.YtfokiijcpkhllaaDoor

/- Walks: the reference's search of a model: how many ends, the neighbours as numbers, what lies around, what is whole. -/
namespace Go.Proofs.YtfokiijcpkhllaaDoor
open Go.RowKit

theorem row_degM {g : List (List Int)} (hg : GOk g) {v : Nat} (hv : v < g.length) : (row g v).length = degN g.length (ofG g) v := by
  have h := row_matG (E := ofG g) hv
  rw [matG_ofG hg] at h
  rw [h, natInts_length]
  unfold degN
  rw [List.countP_eq_length_filter]
def sumD (n : Nat) (E : Nat → Nat → Bool) (k : Nat) : Nat := ((List.range k).map (degN n E)).sum
theorem sumD_succ (n : Nat) (E : Nat → Nat → Bool) (k : Nat) : sumD n E (k + 1) = sumD n E k + degN n E k := by
  unfold sumD
  rw [List.range_succ, List.map_append, List.sum_append]
  simp
theorem sumD_le {n : Nat} (hn : n ≤ 16) (E : Nat → Nat → Bool) : ∀ k, sumD n E k ≤ 16 * k
  | 0 => by simp [sumD]
  | k + 1 => by
    rw [sumD_succ]
    have := sumD_le hn E k
    have := degN_le n E k
    omega

set_option maxRecDepth 100000 in
set_option maxHeartbeats 2000000 in
theorem l19Ends_any (v : Value) (g : List (List Int)) (hok : GOk g) (w : World) (hg : Gr w v g) :
    Calls Tryd.prog 84 #[v] w fun e w' => e = .returned (.int .i64 (totN g.length (ofG g) : Nat)) ∧ Below w.heap.size w w' := by
  obtain ⟨u, rfl, hr⟩ := hg
  obtain ⟨p, c, rfl, _⟩ := hr.shape
  have hbA := Lib.hid (below_alloc w (.cells #[.slice p g.length c] 29))
  have BX := Lib.hid (Box.new w (.slice p g.length c) 29)
  have HR := Lib.hid (hr.below hbA.out)
  have HOK := Lib.hid hok
  have h16 := hok.le
  clear hr hok
  go_enter Tryd.func84, Tryd.ntmps84
  go_wp2
  go_loopw [3, 4] (fun m i wr => ∃ k : Nat, k ≤ g.length ∧ i = .int .i64 k ∧ m = .int .i64 (sumD g.length (ofG g) k : Nat) ∧ wr = w.alloc (.cells #[.slice p g.length c] 29)) (fun _ i _ => g.length - (intOf i).toNat)
  case atStart => exact ⟨0, Nat.zero_le _, rfl, rfl, rfl⟩
  case round =>
    obtain ⟨k, hk, rfl, rfl, rfl⟩ := hrel
    have hbx := BX.out.cell
    have hsl := sumD_le h16 (ofG g) k
    by_cases hlt : k < g.length
    · obtain ⟨b, o, rp, rc, hgp, hcell, _⟩ := HR.out.get hlt
      subst hgp
      change World.cell? _ _ = some (.slice rp (row g k).length rc) at hcell
      have HSS := Lib.hid (sumD_succ g.length (ofG g) k)
      have hdl := degN_le g.length (ofG g) k
      rw [row_degM HOK.out hlt] at hcell
      generalize degN g.length (ofG g) k = d at hcell HSS hdl
      generalize sumD g.length (ofG g) k = sk at HSS hsl
      go_wp2
      go_roundw
      case rel => exact ⟨k + 1, by omega, by go_num, by rw [HSS.out]; exact val_int (by omega), trivial⟩
      case measure => simp [intOf]; omega
    · obtain rfl : k = g.length := by omega
      go_wp2
      go_ret
      exact ⟨rfl, hbA.out⟩

theorem bit_maskM {s : List Int} (h : ∀ x ∈ s, 0 ≤ x) (i : Nat) : (mask s).testBit i = true ↔ (i : Int) ∈ s := by
  rw [testBit_mask, List.any_eq_true]
  constructor
  · rintro ⟨x, hx, e⟩
    have h1 := h x hx
    have h2 : x.toNat = i := by simpa using e
    have : (i : Int) = x := by omega
    rw [this]; exact hx
  · intro k
    exact ⟨_, k, by simp⟩
theorem add_or {a k : Nat} (h : a < 2 ^ k) : a + 2 ^ k = a ||| 2 ^ k := by
  have := Nat.two_pow_add_eq_or_of_lt h 1
  rw [Nat.mul_one] at this
  rw [Nat.add_comm, this, Nat.or_comm]
theorem mask_take_lt {xs : List Int} (hr : xs.Pairwise (· < ·)) (h0 : ∀ x ∈ xs, 0 ≤ x) {k : Nat} (hk : k < xs.length) : mask (xs.take k) < 2 ^ xs[k].toNat := by
  refine Nat.lt_of_not_le fun hge => ?_
  obtain ⟨v, hv, hb⟩ := Nat.exists_ge_and_testBit_of_ge_two_pow hge
  have hm : ((v : Nat) : Int) ∈ xs.take k := (bit_maskM (fun x hx => h0 x (List.mem_of_mem_take hx)) v).1 hb
  obtain ⟨i, hi, e⟩ := List.getElem_of_mem hm
  rw [List.length_take] at hi
  rw [List.getElem_take] at e
  have := List.pairwise_iff_getElem.1 hr i k (by omega) hk (by omega)
  have := h0 _ (List.getElem_mem hk)
  omega

set_option maxRecDepth 100000 in
set_option maxHeartbeats 4000000 in
theorem l21Near_any (v : Value) (g : List (List Int)) (hok : GOk g) (w : World) (hg : Gr w v g) :
    Calls Tryd.prog 86 #[v] w fun e w' => ∃ u, e = .returned u ∧ w'.ownsRow w.heap.size 2 1 u g.length ((natInts (netL g)).map (Value.int .i64)) ∧ Below w.heap.size w w' := by
  obtain ⟨u, rfl, hr⟩ := hg
  obtain ⟨p, c, rfl, _⟩ := hr.shape
  obtain ⟨w1, hw1⟩ : ∃ w1, w1 = w.alloc (.cells #[.slice p g.length c] 29) := ⟨_, rfl⟩
  have hbA : Hid (Below w.heap.size w w1) := Lib.hid (by rw [hw1]; exact below_alloc _ _)
  have BX : Hid (Box w1 w.heap.size 29 (.slice p g.length c)) := Lib.hid (by rw [hw1]; exact Box.new _ _ _)
  have HR := Lib.hid (hr.below hbA.out)
  have HOK := Lib.hid hok
  have h16 := hok.le
  have S1 : Hid (w1.heap.size = w.heap.size + 1) := Lib.hid (by rw [hw1, size_alloc])
  have HNL : Hid (∀ k, k < g.length → (netL g).take (k + 1) = (netL g).take k ++ [mask (row g k)]) := Lib.hid (fun k hk => by
    have hl : k < (netL g).length := by simp [netL]; omega
    rw [take_snoc (netL g) k hl]
    congr 2
    simp [netL, row, hk])
  have HLl : Hid ((netL g).length = g.length) := Lib.hid (by simp [netL])
  clear hr hok
  go_enter Tryd.func86, Tryd.ntmps86
  go_upto_region 1 with fail
  rw [← hw1]
  clear hw1
  go_wp2
  go_loopw [3, 4, 5, 6] (fun o i _ _ wr => ∃ k : Nat, k ≤ g.length ∧ i = .int .i64 k ∧ Hid (wr.ownsRow w1.heap.size 2 1 o k ((natInts ((netL g).take k)).map (Value.int .i64))) ∧ Hid (Below w1.heap.size w1 wr)) (fun _ i _ _ _ => g.length - (intOf i).toNat)
  case atStart => exact ⟨0, Nat.zero_le _, rfl, Lib.hid (ownsRow_empty _ _ _), Lib.hid (below_alloc _ _)⟩
  case round =>
    obtain ⟨k, hk, rfl, HO, HB⟩ := hrel
    have cbx := (BX.out.keep HB.out).cell
    by_cases hlt : k < g.length
    · obtain ⟨b, o, rp, rc, hgp, hcell, hnums⟩ := (HR.out.below HB.out).get hlt
      subst hgp
      change World.cell? _ _ = some (.slice rp (row g k).length rc) at hcell
      change Nums wr _ _ (.slice rp (row g k).length rc) (row g k) at hnums
      have hset := (HOK.out.sets k hlt).1
      have hx16 := Lib.hid (fun x (hx : x ∈ row g k) => (show 0 ≤ x ∧ x < 16 from by have := hset.1 x hx; omega))
      have hris := Lib.hid hset.2
      have HTK := Lib.hid (HNL.out k hlt)
      have hml : mask (row g k) < 65536 := mask_lt16 _ fun x hx => (hx16.out x hx).2
      obtain ⟨xs, hxs⟩ : ∃ xs, xs = row g k := ⟨_, rfl⟩
      rw [← hxs] at hcell hnums hx16 hris HTK hml
      obtain ⟨_, _, _, _, _, hxl, _⟩ := id hnums.shape
      have HN := Lib.hid hnums
      clear hset hxs hnums
      go_wp2
      go_loopw [5, 6] (fun m i wx => ∃ t : Nat, t ≤ xs.length ∧ i = .int .i64 t ∧ m = .int .i64 (mask (xs.take t) : Nat) ∧ wx = wr) (fun _ i _ => xs.length - (intOf i).toNat)
      case atStart => exact ⟨0, Nat.zero_le _, rfl, rfl, rfl⟩
      case round =>
        obtain ⟨t, ht, rfl, rfl, hw⟩ := hrel
        subst hw
        by_cases htl : t < xs.length
        · obtain ⟨xb, xo, hrp, hcx⟩ := HN.out.get htl
          subst hrp
          have hx := hx16.out _ (List.getElem_mem htl)
          have hlow := mask_take_lt hris.out (fun x hx => (hx16.out x hx).1) htl
          have hsn : mask (xs.take (t + 1)) = mask (xs.take t) ||| 2 ^ xs[t].toNat := by rw [take_snoc' _ t htl, mask_snoc]
          rw [← add_or hlow] at hsn
          have HSN := Lib.hid hsn
          obtain ⟨x, hxn⟩ : ∃ x : Nat, xs[t] = (x : Int) := ⟨xs[t].toNat, by omega⟩
          rw [hxn, Int.toNat_natCast] at HSN hlow
          rw [hxn] at hcx hx
          have hp32 := pow_lt16 x (by omega)
          have hx32 : x < 32 := by omega
          obtain ⟨q, hq⟩ : ∃ q, q = 2 ^ x := ⟨_, rfl⟩
          have HQ := Lib.hid hq
          rw [← hq] at HSN hp32 hlow
          generalize mask (xs.take t) = M at HSN hlow
          clear hxn hsn hq hx
          go_wp2_with (go_at_call 51; refine (l12Bit_any _ x rfl hx32 _).mono ?_; rintro e w5 ⟨he5, hw5⟩; rw [← HQ.out] at he5; subst he5; subst hw5)
          go_roundw
          case rel => exact ⟨t + 1, by omega, by go_num, by rw [HSN.out]; exact val_int (by omega), trivial⟩
          case measure => simp [intOf]; omega
        · obtain rfl : t = xs.length := by omega
          have htx : xs.take xs.length = xs := List.take_length
          rw [htx]
          have hown := HO.out
          have hsz := HB.out.size
          generalize mask xs = M at HTK hml
          clear htx
          go_wp2_with (at_builtin; refine wpList_app1 ty_i64 rfl rfl rfl hown rfl rfl (by omega) hsz ?_; intro v' w5 hown' hg5 _)
          go_roundw
          case rel => exact ⟨k + 1, by omega, by go_num, Lib.hid (by rw [HTK.out]; simpa [natInts] using hown'), Lib.hid (below_grown HB.out hown hg5 (Nat.le_refl _) hsz)⟩
          case measure => simp [intOf]; omega
    · obtain rfl : k = g.length := by omega
      have htl : (netL g).take g.length = netL g := by rw [← HLl.out, List.take_length]
      have HO2 := HO.out
      rw [htl] at HO2
      have HO3 := Lib.hid HO2
      clear htl HO2
      go_wp2
      go_ret
      exact ⟨_, rfl, ownsRow_base HO3.out (by have := S1.out; omega), hbA.out.trans (HB.out.mono hbA.out.size)⟩

end Go.Proofs.YtfokiijcpkhllaaDoor
