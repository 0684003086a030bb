/- Walk: the laws' dice thrown (roll). -/
import Derived.Test.YtfokiijcpkhllaaDoorFmQ39
import Derived.Deep.RegionWith
import Derived.Test.YtfokiijcpkhllaaDoorFmQ20
import Derived.Test.YtfokiijcpkhllaaDoorFmQ12
namespace Go.Proofs.YtfokiijcpkhllaaDoor
open Go.RowKit

set_option maxRecDepth 100000 in
set_option maxHeartbeats 4000000 in
theorem roll_any (v : Value) (bs : List Int) (s : Int) (hl : bs.length ≤ 4096) (w : World) (ha : ArgB w v bs) :
    Calls Tryd.prog 8 #[v, .int .u64 s] w fun e w' => ∃ db : Nat, e = .returned (.pointer (some ⟨db, 0, none⟩)) ∧ Dice w w' db bs ∧ Below w.heap.size w w' := by
  obtain ⟨p, c, e, _⟩ := id ha
  subst e
  have HA := Lib.hid ha
  clear ha
  go_enter Tryd.func8, Tryd.ntmps8
  go_upto_region 1 with fail
  go_cut [5] (fun s5 wx => ∃ h : Int, s5 = .pointer (some ⟨w.heap.size, 0, none⟩) ∧ wx = w.alloc (.cells #[.slice p bs.length c, .int .i64 0, .int .u64 h] 55))
  case first =>
    go_wp2
    go_meet
    exact ⟨_, rfl, rfl⟩
  case rest =>
  obtain ⟨h, rfl, rfl⟩ := hcut
  go_wp2
  go_loopw [6] (fun i wr => ∃ (k : Nat) (z : Int), i = .int .i64 k ∧ k ≤ bs.length ∧ BoxD wr w.heap.size (.slice p bs.length c) (.int .i64 0) (.int .u64 z) ∧ Below w.heap.size w wr) (fun i _ => bs.length - (intOf i).toNat)
  case atStart => exact ⟨0, h, rfl, Nat.zero_le _, BoxD.new _ _ _ _, below_alloc _ _⟩
  case round =>
    obtain ⟨k, z, rfl, hk, hb, hbel⟩ := hrel
    have HB := Lib.hid hb
    have HBEL := Lib.hid hbel
    have c2 := hb.c2
    have f2 := hb.free 2
    clear hb hbel
    by_cases hlt : k < bs.length
    · obtain ⟨xb, xo, rfl, hcx, hx0, hx1⟩ := (HA.out.below HBEL.out).get hlt
      generalize bs[k] = x at hcx hx0 hx1
      go_upto_region 5 with fail
      go_region_with (fail)
      all_goals go_wp2
      all_goals go_roundw
      all_goals first
        | exact ⟨k + 1, _, by go_num, by omega, (HB.out.keep (below_dN (Below.refl _ _) _)).s2 _, (HBEL.out.trans ((below_dN (Below.refl wr.heap.size wr) _).mono HBEL.out.size)).setCell (p := ⟨w.heap.size, 2, none⟩) (Nat.le_refl _) _⟩
        | (simp [intOf]; omega)
    · obtain rfl : k = bs.length := by omega
      go_wp2
      go_ret
      exact ⟨_, rfl, ⟨⟨_, 0, z, HB.out, Nat.zero_le _, HA.out⟩, hl, Nat.le_refl _, HBEL.out⟩, HBEL.out⟩

end Go.Proofs.YtfokiijcpkhllaaDoor

/- Plain facts, with no program in sight: cutting and contracting on sets of bits is what the reference does on lists. -/
namespace Go.Proofs.YtfokiijcpkhllaaDoor

/-- The sets behind a contraction. -/
def toTie (a : List Nat) (left u v : Nat) : List Nat := bitsOf (sub (a.getD v 0 &&& left) (2 ^ u))
def tieN (a : List Nat) (u : Nat) (l : List Nat) : List Nat := l.foldl (fun a x => joinL a u x) a
def contrL (a : List Nat) (left u v : Nat) : List Nat := tieN a u (toTie a left u v)
theorem tieN_snoc (a : List Nat) (u : Nat) (l : List Nat) (x : Nat) : tieN a u (l ++ [x]) = joinL (tieN a u l) u x := by simp [tieN]
theorem tieN_length (u : Nat) (l : List Nat) : ∀ a : List Nat, (tieN a u l).length = a.length := by
  induction l with
  | nil => intro a; rfl
  | cons x l ih => intro a; show (tieN (joinL a u x) u l).length = _; rw [ih, joinL_length]
theorem tieN_bits {u : Nat} (l : List Nat) : ∀ a : List Nat, a.length ≤ 16 → (∀ s ∈ a, s < 65536) → u < a.length → (∀ x ∈ l, x < a.length ∧ x ≠ u) → (∀ s ∈ tieN a u l, s < 65536) ∧
    ∀ i j, ((tieN a u l).getD i 0).testBit j = true ↔ (a.getD i 0).testBit j = true ∨ ∃ x ∈ l, (i = x ∧ j = u) ∨ (i = u ∧ j = x) := by
  induction l with
  | nil => intro a _ ha _ _; exact ⟨ha, fun i j => by simp [tieN]⟩
  | cons x l ih =>
    intro a h16 ha hu hl
    obtain ⟨hx, hxu⟩ := hl x (by simp)
    obtain ⟨h1, h2⟩ := ih (joinL a u x) (by rw [joinL_length]; exact h16) (joinL_lt16 ha (by omega) (by omega)) (by rw [joinL_length]; exact hu) (fun y hy => by rw [joinL_length]; exact hl y (by simp [hy]))
    refine ⟨h1, fun i j => ?_⟩
    show ((tieN (joinL a u x) u l).getD i 0).testBit j = true ↔ _
    rw [h2 i j, joinL_testBit hu hx (Ne.symm hxu)]
    constructor
    · rintro ((h | h | h) | ⟨z, hz, h⟩)
      · exact .inl h
      · exact .inr ⟨x, by simp, .inr h⟩
      · exact .inr ⟨x, by simp, .inl h⟩
      · exact .inr ⟨z, by simp [hz], h⟩
    · rintro (h | ⟨z, hz, h⟩)
      · exact .inl (.inl h)
      · rcases List.mem_cons.1 hz with e | e
        · subst e
          rcases h with h | h
          · exact .inl (.inr (.inr h))
          · exact .inl (.inr (.inl h))
        · exact .inr ⟨z, e, h⟩

theorem mem_toTie {a : List Nat} {left u v x : Nat} (h : left < 65536) (hu : u < 16) : x ∈ toTie a left u v ↔ (a.getD v 0).testBit x = true ∧ left.testBit x = true ∧ x ≠ u := by
  have h1 : a.getD v 0 &&& left < 65536 := Nat.lt_of_le_of_lt Nat.and_le_right h
  unfold toTie
  rw [mem_bitsOf' (sub_lt32 _ _ (by omega)), testBit_sub1 h1 hu, Nat.testBit_and, Bool.and_eq_true, and_assoc]

theorem Same.free {g : List (List Int)} {L : List Int} {a : List Nat} {left v : Nat} (h : Same g L a left) (hv : left.testBit v = true) : Same (freeG g v) (lessL L v) a (sub left (2 ^ v)) := by
  have hvl := h.inn v hv
  have hle := h.le
  have hv16 : v < 16 := by omega
  have hL := h.left16
  have hsub : sub left (2 ^ v) < 65536 := Nat.lt_of_le_of_lt Nat.and_le_left hL
  refine ⟨by rw [freeG_length]; exact h.len, hle, h.lt, hsub, by rw [h.list]; exact list_sub hL hv16, fun w hw => h.inn w ((testBit_sub1 hL hv16 w).1 hw).1, fun w hw => h.irr w ((testBit_sub1 hL hv16 w).1 hw).1, fun w hw => ?_⟩
  obtain ⟨hw1, hwv⟩ := (testBit_sub1 hL hv16 w).1 hw
  rw [row_freeG g v (by rw [h.len]; exact h.inn w hw1), freeRow_no (by omega), h.rows w hw1]
  refine rising_ext_int _ _ (lessL_rising (near_rising ..) _) (near_rising ..) fun x => ?_
  rw [mem_lessL, mem_near hL, mem_near hsub]
  constructor
  · rintro ⟨⟨i, rfl, h1, h2⟩, hne⟩
    exact ⟨i, rfl, h1, (testBit_sub1 hL hv16 i).2 ⟨h2, by omega⟩⟩
  · rintro ⟨i, rfl, h1, h2⟩
    obtain ⟨h3, h4⟩ := (testBit_sub1 hL hv16 i).1 h2
    exact ⟨⟨i, rfl, h1, h3⟩, by omega⟩

theorem Same.join {g : List (List Int)} {L : List Int} {a : List Nat} {left u v : Nat} (h : Same g L a left) (hr : RG g) (hu : left.testBit u = true) (hv : left.testBit v = true) (huv : u ≠ v) :
    Same (joinG g u v) (lessL L v) (contrL a left u v) (sub left (2 ^ v)) := by
  have hvl := h.inn v hv
  have hul := h.inn u hu
  have hle := h.le
  have hlen := h.len
  have hv16 : v < 16 := by omega
  have hu16 : u < 16 := by omega
  have hL := h.left16
  have hsub : sub left (2 ^ v) < 65536 := Nat.lt_of_le_of_lt Nat.and_le_left hL
  obtain ⟨hrJ, hmJ⟩ := joinG_mem (v := (v : Int)) hr (by omega : (0 : Int) ≤ (u : Int)) (by omega : (u : Int) < g.length)
  obtain ⟨hb1, hb2⟩ := tieN_bits (u := u) (toTie a left u v) a hle h.lt hul (fun x hx => by
    obtain ⟨h1, h2, h3⟩ := (mem_toTie hL hu16).1 hx
    exact ⟨h.inn x h2, h3⟩)
  refine ⟨by rw [joinG_length, contrL, tieN_length]; exact h.len, by rw [contrL, tieN_length]; exact hle, hb1, hsub, by rw [h.list]; exact list_sub hL hv16, fun w hw => by rw [contrL, tieN_length]; exact h.inn w ((testBit_sub1 hL hv16 w).1 hw).1, fun w hw => ?_, fun w hw => ?_⟩
  · obtain ⟨hw1, hwv⟩ := (testBit_sub1 hL hv16 w).1 hw
    rw [Bool.eq_false_iff]
    intro hc
    rcases (hb2 w w).1 hc with hc | ⟨x, hx, ⟨h1, h2⟩ | ⟨h1, h2⟩⟩
    · rw [h.irr w hw1] at hc; cases hc
    · exact ((mem_toTie hL hu16).1 hx).2.2 (by omega)
    · exact ((mem_toTie hL hu16).1 hx).2.2 (by omega)
  · obtain ⟨hw1, hwv⟩ := (testBit_sub1 hL hv16 w).1 hw
    refine rising_ext_int _ _ (hrJ w).2 (near_rising ..) fun y => ?_
    rw [hmJ, mem_near hsub, row_freeG g v (by rw [hlen]; exact h.inn w hw1), freeRow_no (by omega), mem_lessL, h.rows w hw1, Int.toNat_natCast, h.rows v hv]
    constructor
    · rintro (⟨hy, hyv⟩ | ⟨x, hx, hxu, hxy⟩)
      · obtain ⟨i, rfl, h1, h2⟩ := (mem_near hL).1 hy
        exact ⟨i, rfl, (hb2 w i).2 (.inl h1), (testBit_sub1 hL hv16 i).2 ⟨h2, by omega⟩⟩
      · obtain ⟨i, rfl, h1, h2⟩ := (mem_near hL).1 hx
        have hiv : i ≠ v := fun e => by
          subst e
          rw [h.irr i hv] at h1; cases h1
        have hit : i ∈ toTie a left u v := (mem_toTie hL hu16).2 ⟨h1, h2, by omega⟩
        rcases hxy with ⟨e1, rfl⟩ | ⟨e1, rfl⟩
        · exact ⟨u, rfl, (hb2 w u).2 (.inr ⟨i, hit, .inl ⟨by omega, rfl⟩⟩), (testBit_sub1 hL hv16 u).2 ⟨hu, huv⟩⟩
        · exact ⟨i, rfl, (hb2 w i).2 (.inr ⟨i, hit, .inr ⟨by omega, rfl⟩⟩), (testBit_sub1 hL hv16 i).2 ⟨h2, hiv⟩⟩
    · rintro ⟨i, rfl, h1, h2⟩
      obtain ⟨h3, h4⟩ := (testBit_sub1 hL hv16 i).1 h2
      rcases (hb2 w i).1 h1 with h1 | ⟨x, hx, hxy⟩
      · exact .inl ⟨(mem_near hL).2 ⟨i, rfl, h1, h3⟩, by omega⟩
      · obtain ⟨k1, k2, k3⟩ := (mem_toTie hL hu16).1 hx
        refine .inr ⟨x, (mem_near hL).2 ⟨x, rfl, k1, k2⟩, by omega, ?_⟩
        rcases hxy with ⟨e1, e2⟩ | ⟨e1, e2⟩
        · exact .inl ⟨by omega, by omega⟩
        · exact .inr ⟨by omega, by omega⟩

/-- The vertices above u that u can be contracted with. -/
def aboveN (a : List Nat) (left u : Nat) : List Nat := bitsOf (sub (a.getD u 0 &&& left) (2 ^ (u + 1) - 1))
theorem above_rows {g : List (List Int)} {L : List Int} {a : List Nat} {left u : Nat} (h : Same g L a left) (hu : left.testBit u = true) : natInts (aboveN a left u) = (row g u).filter (fun v => decide ((u : Int) < v)) := by
  have hle := h.le
  have hul := h.inn u hu
  have hL := h.left16
  have h1 : a.getD u 0 &&& left < 65536 := Nat.lt_of_le_of_lt Nat.and_le_right hL
  have hp : 2 ^ (u + 1) ≤ 2 ^ 16 := Nat.pow_le_pow_right (by decide) (by omega)
  have h2 : 2 ^ (u + 1) - 1 < 4294967296 := by
    have : (2 : Nat) ^ 16 = 65536 := by decide
    omega
  rw [h.rows u hu]
  refine rising_ext_int _ _ (natInts_rising (bitsOf_rising _)) ((near_rising ..).filter _) fun x => ?_
  rw [mem_natInts, List.mem_filter, mem_near hL]
  constructor
  · rintro ⟨i, hi, rfl⟩
    rw [aboveN, mem_bitsOf' (sub_lt32 _ _ (by omega)), testBit_sub _ _ (by omega) h2, testBit_firstOf, Nat.testBit_and] at hi
    simp only [Bool.and_eq_true, Bool.not_eq_true', decide_eq_false_iff_not] at hi
    exact ⟨⟨i, rfl, hi.1.1, hi.1.2⟩, by simp; omega⟩
  · rintro ⟨⟨i, rfl, k1, k2⟩, k3⟩
    refine ⟨i, ?_, rfl⟩
    rw [aboveN, mem_bitsOf' (sub_lt32 _ _ (by omega)), testBit_sub _ _ (by omega) h2, testBit_firstOf, Nat.testBit_and]
    simp only [Bool.and_eq_true, Bool.not_eq_true', decide_eq_false_iff_not]
    simp at k3
    exact ⟨⟨k1, k2⟩, by omega⟩
theorem edgeRow_above {g : List (List Int)} {L : List Int} {a : List Nat} {left u : Nat} (h : Same g L a left) (hu : left.testBit u = true) :
    edgeRow g L u = (natInts (aboveN a left u)).find? (fun v => dec (HardS (joinG g u v) (lessL L v))) := by
  rw [above_rows h hu, List.find?_filter, edgeRow, Int.toNat_natCast]
  congr 1
  funext v
  by_cases h1 : (u : Int) < v
  · rw [dec_true h1, decide_eq_true h1]; simp
  · rw [dec_false h1, decide_eq_false h1]; simp

/-- A union of sets. -/
theorem intoAll_bits (m k : Nat) (hm : m < 65536) (hk : k < 65536) : intoAll (natInts (bitsOf m)) (natInts (bitsOf k)) = natInts (bitsOf (m ||| k)) := by
  have key : ∀ (l s : List Int), s.Pairwise (· < ·) → (l.foldl intoL s).Pairwise (· < ·) ∧ ∀ x, x ∈ l.foldl intoL s ↔ x ∈ s ∨ x ∈ l := by
    intro l
    induction l with
    | nil => intro s hs; exact ⟨hs, fun x => by simp⟩
    | cons y l ih =>
      intro s hs
      obtain ⟨h1, h2⟩ := ih (intoL s y) (intoL_rising hs)
      refine ⟨h1, fun x => ?_⟩
      rw [List.foldl_cons, h2, mem_intoL, List.mem_cons, or_assoc]
  obtain ⟨h1, h2⟩ := key (natInts (bitsOf k)) (natInts (bitsOf m)) (natInts_rising (bitsOf_rising _))
  have hor := or_lt16 m k hm hk
  refine rising_ext_int _ _ h1 (natInts_rising (bitsOf_rising _)) fun x => ?_
  rw [intoAll, h2, mem_natInts, mem_natInts, mem_natInts]
  constructor
  · rintro (⟨i, hi, rfl⟩ | ⟨i, hi, rfl⟩)
    · exact ⟨i, by rw [mem_bitsOf' (by omega)] at hi ⊢; rw [Nat.testBit_or, hi]; rfl, rfl⟩
    · exact ⟨i, by rw [mem_bitsOf' (by omega)] at hi ⊢; rw [Nat.testBit_or, hi, Bool.or_true], rfl⟩
  · rintro ⟨i, hi, rfl⟩
    rw [mem_bitsOf' (by omega), Nat.testBit_or, Bool.or_eq_true] at hi
    rcases hi with hi | hi
    · exact .inl ⟨i, (mem_bitsOf' (by omega)).2 hi, rfl⟩
    · exact .inr ⟨i, (mem_bitsOf' (by omega)).2 hi, rfl⟩

theorem Same.cnt {g : List (List Int)} {L : List Int} {a : List Nat} {left : Nat} (h : Same g L a left) : (bitsOf left).length ≤ 16 := by
  have h1 : SetIn 16 (natInts (bitsOf left)) := ⟨fun x hx => by
    obtain ⟨i, hi, rfl⟩ := mem_natInts.1 hx
    have := h.inn i ((mem_left h.left16).1 hi)
    have := h.le
    omega, natInts_rising (bitsOf_rising _)⟩
  have := setIn_length (by omega) h1
  rw [natInts_length] at this
  omega

theorem bits_nil' {l : Nat} (h : l < 65536) : 0 < (natInts (bitsOf l)).length ↔ l ≠ 0 := by
  rw [natInts_length]
  constructor
  · rintro h1 rfl
    rw [bitsOf_zero] at h1
    simp at h1
  · intro h0
    have := bitsOf_step l h0 (by omega)
    rw [this]
    simp
/-- The program's test says what the reference's does. -/
theorem Same.hard {g : List (List Int)} {L : List Int} {a : List Nat} {left : Nat} (h : Same g L a left) {fs : List Fd} {l : Nat} {a' : List Nat} (hf : FoldsN a left fs l a') (hl : l < 65536) : HardS g L ↔ l ≠ 0 := by
  obtain ⟨g', h1, _⟩ := hf.same h
  rw [hardS_iff h1]
  exact bits_nil' hl

end Go.Proofs.YtfokiijcpkhllaaDoor

/- Walk: the program folds. -/
namespace Go.Proofs.YtfokiijcpkhllaaDoor
open Go.RowKit

/-- Sets of neighbours that the walk can go on with. -/
structure NOk (a : List Nat) (left : Nat) : Prop where
  le : a.length ≤ 16
  lt : ∀ s ∈ a, s < 65536
  left16 : left < 65536
  inn : ∀ v, left.testBit v = true → v < a.length

theorem near_in {a : List Nat} {left v : Nat} (h : NOk a left) : ∀ x ∈ nearL a left v, ∃ i : Nat, x = (i : Int) ∧ i < a.length := by
  intro x hx
  obtain ⟨i, rfl, _, h2⟩ := (mem_near h.left16).1 hx
  exact ⟨i, rfl, h.inn i h2⟩

theorem NOk.pair {a : List Nat} {left v : Nat} (h : NOk a left) (h2 : (nearL a left v).length ≤ 2) {f : Fd} (hf : f = atRow v (nearL a left v)) (hB : 0 ≤ f.B) :
    ∃ p q : Nat, f.A = p ∧ f.B = q ∧ p < a.length ∧ q < a.length ∧ p ≠ q := by
  obtain ⟨_, hAB⟩ := atRow_cases (v : Int) (near_rising a left v) h2 (fun x hx => by obtain ⟨i, rfl, _⟩ := near_in h x hx; omega)
  rw [← hf] at hAB
  rcases hAB with ⟨k, _⟩ | ⟨hA, hB', h3, h4, h5⟩
  · omega
  · obtain ⟨p, hp, hpl⟩ := near_in h _ hA
    obtain ⟨q, hq, hql⟩ := near_in h _ hB'
    exact ⟨p, q, hp, hq, hpl, hql, by omega⟩

theorem NOk.away {a : List Nat} {left v : Nat} (h : NOk a left) (hv : left.testBit v = true) (h2 : (nearL a left v).length ≤ 2) {f : Fd} (hf : f = atRow v (nearL a left v)) : NOk (awayL a f) (sub left (2 ^ v)) := by
  have hle := h.le
  have hvl := h.inn v hv
  refine ⟨by rw [awayL_length]; exact hle, ?_, sub_lt16 _ _ h.left16, fun u hu => ?_⟩
  · by_cases hB : 0 ≤ f.B
    · obtain ⟨p, q, hp, hq, hpl, hql, _⟩ := h.pair h2 hf hB
      have e : awayL a f = joinL a p q := by
        show (if _ then _ else _) = _
        rw [if_pos hB, hp, hq, Int.toNat_natCast, Int.toNat_natCast]
      rw [e]
      exact joinL_lt16 h.lt (by omega) (by omega)
    · have e : awayL a f = a := if_neg hB
      rw [e]; exact h.lt
  · rw [awayL_length]
    exact h.inn u ((testBit_sub1 h.left16 (by omega) u).1 hu).1

theorem bits_sub_lt {left v : Nat} (h : left < 65536) (hv : left.testBit v = true) (h16 : v < 16) : (bitsOf (sub left (2 ^ v))).length < (bitsOf left).length := by
  have h1 := list_sub h h16
  have h2 : ((v : Nat) : Int) ∈ natInts (bitsOf left) := mem_natInts.2 ⟨v, (mem_left h).2 hv, rfl⟩
  have h3 := lessL_length_lt h2
  rw [h1, natInts_length, natInts_length] at h3
  exact h3

/-- What the loop of the program carries. -/
structure FInv (w wr : World) (base : Nat) (x ov : Value) (a0 : List Nat) (left0 : Nat) (a : List Nat) (lf : Nat) (os : List Fd) : Prop where
  ok : NOk a lf
  net : wr.ownsRow base 64 1 x a.length (a.map u32v)
  own : wr.ownsRow w.heap.size 89 3 ov os.length (fdCells os)
  gr : w.grownBy wr x.ownBlock
  on : FoldsOnN a0 left0 os lf a
  cnt : os.length + (bitsOf lf).length ≤ 16
  len : a.length = a0.length
  tab : Tab wr

theorem FInv.next {w wr W : World} {base : Nat} {x ov : Value} {a0 : List Nat} {left0 : Nat} {a : List Nat} {lf : Nat} {os : List Fd} (h : FInv w wr base x ov a0 left0 a lf os) (hb : Below wr.heap.size wr W) : FInv w W base x ov a0 left0 a lf os where
  ok := h.ok
  net := ownsRow_below h.net hb
  own := ownsRow_below h.own hb
  gr := grown_trans h.gr (grown_of_below hb _)
  on := h.on
  cnt := h.cnt
  len := h.len
  tab := h.tab.keep hb

theorem grown_own {w w' w'' : World} {E : TypeId} {size n : Nat} {v : Value} {xs : List Value} {r : Option Nat} (h : w.grownBy w' r) (ho : w'.ownsRow w.heap.size E size v n xs) (hg : w'.grownBy w'' v.ownBlock) : w.grownBy w'' r :=
  ⟨hg.os.trans h.os, hg.tape.trans h.tape, hg.output.trans h.output, Nat.le_trans h.size hg.size, fun k hk hne => (hg.block k (Nat.lt_of_lt_of_le hk h.size) (fun e => by have := (ho.lt k e.symm).1; omega)).trans (h.block k hk hne)⟩

theorem foldOf_yes' (p : Option Addr) (c n : Nat) (y z : Int) (a : List Nat) (left v : Nat) (hn : a.length = n) (hy : y = left) (hz : z = v) (hok : NOk a left) (hv : v < a.length) (w : World)
    (hx : Sl w 64 (.slice p n c) n (a.map u32v)) (hT : Tab w) (h2 : (nearL a left v).length ≤ 2) (V A B : Int) (hf : (⟨V, A, B⟩ : Fd) = atRow v (nearL a left v)) :
    Calls Tryd.prog 72 #[.slice p n c, .int .u32 y, .int .i64 z] w fun e w' => e = .returned (.tuple #[.agg #[.int .i64 V, .int .i64 A, .int .i64 B], .bool true]) ∧ Below w.heap.size w w' := by
  subst hn
  exact foldOf_yes p c y z a left v hy hz hv hok.le hok.lt hok.left16 w hx hT h2 V A B hf
theorem foldOf_no' (p : Option Addr) (c n : Nat) (y z : Int) (a : List Nat) (left v : Nat) (hn : a.length = n) (hy : y = left) (hz : z = v) (hok : NOk a left) (hv : v < a.length) (w : World)
    (hx : Sl w 64 (.slice p n c) n (a.map u32v)) (hT : Tab w) (h2 : ¬ (nearL a left v).length ≤ 2) :
    Calls Tryd.prog 72 #[.slice p n c, .int .u32 y, .int .i64 z] w fun e w' => e = .returned (.tuple #[.agg #[.int .i64 0, .int .i64 0, .int .i64 0], .bool false]) ∧ Below w.heap.size w w' := by
  subst hn
  exact foldOf_no p c y z a left v hy hz hv hok.le hok.lt hok.left16 w hx hT h2

theorem Tab.grown {w w' : World} {r : Option Nat} (h : Tab w) (hg : w.grownBy w' r) (hr : some 0 ≠ r) : Tab w' := fun j hj => hg.cell (a := ⟨_, j, none⟩) (h j hj) hr

theorem Sl.shape {w : World} {E : TypeId} {v : Value} {n : Nat} {vals : List Value} (h : Sl w E v n vals) : ∃ p c, v = .slice p n c := by
  obtain ⟨p, c, e, _⟩ := h
  exact ⟨p, c, e⟩

set_option maxRecDepth 100000 in
set_option maxHeartbeats 4000000 in
theorem foldedOf_any (x : Value) (y : Int) (a0 : List Nat) (left0 base : Nat) (hy : y = left0) (hok : NOk a0 left0) (hcnt : (bitsOf left0).length ≤ 16) (w : World)
    (ho : w.ownsRow base 64 1 x a0.length (a0.map u32v)) (hT : Tab w) (hbase : 0 < base) :
    Calls Tryd.prog 63 #[x, .int .u32 y] w fun e w' => ∃ (ov : Value) (fs : List Fd) (l : Nat) (a' : List Nat), e = .returned (.tuple #[ov, .int .u32 (l : Int)]) ∧ FoldsN a0 left0 fs l a' ∧
      w'.ownsRow w.heap.size 89 3 ov fs.length (fdCells fs) ∧ w'.ownsRow base 64 1 x a'.length (a'.map u32v) ∧ a'.length = a0.length ∧ NOk a' l ∧ fs.length + (bitsOf l).length ≤ 16 ∧ w.grownBy w' x.ownBlock := by
  subst hy
  have hsl := Sl.of_owns ho (by have := hok.le; omega)
  obtain ⟨xp, xc, rfl⟩ := hsl.shape
  have hxl : ∀ b, (Value.slice xp a0.length xc).ownBlock = some b → b < w.heap.size ∧ base ≤ b := fun b hb => ⟨(ho.lt b hb).2, (ho.lt b hb).1⟩
  have hbA := below_alloc w (.cells #[] 89)
  have START := Lib.hid (show FInv w (w.alloc (.cells #[] 89)) base (.slice xp a0.length xc) (.slice (some ⟨w.heap.size, 0, none⟩) 0 0) a0 left0 a0 left0 [] from
    { ok := hok, net := ownsRow_below ho hbA, own := ownsRow_empty _ _ _, gr := grown_of_below hbA _, on := foldsOnN_start _ _, cnt := by simpa using hcnt, len := rfl, tab := hT.keep hbA })
  have htb : some 0 ≠ (Value.slice xp a0.length xc).ownBlock := fun e => by have := (hxl _ e.symm).2; omega
  have HX := Lib.hid hxl
  have HTB := Lib.hid htb
  have START2 := Lib.hid (show 0 < w.heap.size from hT.pos)
  clear hbA hsl ho hok hT hxl htb hcnt
  go_enter Tryd.func63, Tryd.ntmps63
  go_wp2
  go_loopw [1, 6, 7] (fun s1 s6 s7 wr => ∃ (a : List Nat) (lf : Nat) (os : List Fd) (found : Bool), s1 = .int .u32 (lf : Int) ∧ s7 = .bool found ∧ FInv w wr base (.slice xp a0.length xc) s6 a0 left0 a lf os ∧ (found = false → ∀ j (hj : j < (bitsOf lf).length), 2 < (nearL a lf (bitsOf lf)[j]).length))
    (fun s1 _ s7 _ => (bitsOf (intOf s1).toNat).length * 2 + (match s7 with | .bool true => 1 | _ => 0))
  case atStart => exact ⟨a0, left0, [], true, rfl, rfl, START.out, fun e => nomatch e⟩
  case round =>
    obtain ⟨a, lf, os, found, rfl, rfl, hinv, hstop⟩ := hrel
    clear START
    have Hinv := Lib.hid hinv
    have Hstop := Lib.hid hstop
    clear hinv hstop
    cases found with
    | false =>
      go_wp2
      go_ret2
      have hinv := Hinv.out
      exact ⟨_, os, lf, rfl, a, foldsOnN_stop hinv.on (Hstop.out trivial), hinv.own, hinv.net, hinv.len, hinv.ok, hinv.cnt, hinv.gr⟩
    | true =>
      have htab := Hinv.out.tab
      have hlf := Hinv.out.ok.left16
      have hlf32 : lf < 4294967296 := by omega
      have hc16 := Hinv.out.cnt
      go_wp2_with (go_at_call 48; refine (list_any _ lf rfl hlf32 _ htab).mono ?_; rintro e w2 ⟨lv, rfl, hown2, hb2⟩; have hnl := Nums.of_owns hown2 (natInts_length _).symm (by omega); obtain ⟨lp, lc, rfl, _, _, _, hat⟩ := hnl.shape; rw [natInts_length])
      clear hc16 htab
      have hinv2 := Hinv.out
      obtain ⟨ov, hov⟩ : ∃ ov, ov = u6 := ⟨_, rfl⟩
      subst hov
      go_loopw [1, 6, 7, 9, 17] (fun s1 s6 s7 _ i wx => ∃ j : Nat, j ≤ (bitsOf lf).length ∧ i = .int .i64 j ∧ s1 = .int .u32 (lf : Int) ∧ s6 = ov ∧ s7 = .bool false ∧ (∀ i (hi : i < (bitsOf lf).length), i < j → 2 < (nearL a lf (bitsOf lf)[i]).length) ∧ Below w2.heap.size w2 wx) (fun _ _ _ _ i _ => (bitsOf lf).length - (intOf i).toNat)
      case atStart => exact ⟨0, Nat.zero_le _, rfl, rfl, rfl, rfl, fun i hi h => by omega, Below.refl _ _⟩
      case round =>
        obtain ⟨j, hj, rfl, rfl, rfl, rfl, hbad, hbx⟩ := hrel
        have hinvx := hinv2.next (hb2.trans (hbx.mono hb2.size))
        clear hinv2
        have HB := Lib.hid hbad
        clear hbad
        by_cases hlt : j < (bitsOf lf).length
        · obtain ⟨v, hv⟩ : ∃ v : Nat, v = (bitsOf lf)[j] := ⟨_, rfl⟩
          have hvb : lf.testBit v = true := (mem_left hlf).1 (hv ▸ List.getElem_mem hlt)
          have hvl := hinvx.ok.inn v hvb
          have hjl : j < (natInts (bitsOf lf)).length := by rw [natInts_length]; exact hlt
          obtain ⟨lb, lo, rfl, hcl⟩ := (hat.below hbx).num hjl
          have hval : (natInts (bitsOf lf))[j] = (v : Int) := by rw [hv]; simp [natInts]
          rw [hval] at hcl
          have hsl := hinvx.net
          have hle := hinvx.ok.le
          have hsl := Sl.of_owns hsl (by omega)
          rw [hinvx.len] at hsl
          have HV := Lib.hid hv
          have HI := Lib.hid hinvx
          have HS := Lib.hid hsl
          have hcnt := hinvx.cnt
          clear hval hv hinvx hsl hat
          by_cases h2 : (nearL a lf v).length ≤ 2
          · obtain ⟨⟨V, A, B⟩, hf⟩ : ∃ f : Fd, f = atRow (v : Int) (nearL a lf v) := ⟨_, rfl⟩
            have HF := Lib.hid hf
            have HP := Lib.hid (HI.out.ok.pair h2 hf)
            have HA := Lib.hid (HI.out.ok.away hvb h2 hf)
            have H2 := Lib.hid h2
            clear hf h2
            have hand := Lib.hid (u32_andNot_nat lf (2 ^ v) hlf32 (pow_lt32 v (by omega)))
            have hv32 : v < 32 := by omega
            have hos : os.length < 1000000000 := by omega
            go_wp2_with (first
              | (go_at_call 72; refine (foldOf_yes' _ _ _ _ _ a lf v HI.out.len rfl rfl HI.out.ok hvl _ HS.out HI.out.tab H2.out V A B HF.out).mono ?_; rintro e w4 ⟨rfl, hb4⟩; have s4 := hb4.size; have HI4 := Lib.hid ((HI.out.next hb4).next (below_alloc w4 (.cells #[.int .i64 V, .int .i64 A, .int .i64 B] 89))); have hne4 : some w4.heap.size ≠ (Value.slice xp a0.length xc).ownBlock := fun e => (by have := (HX.out _ e.symm).1; have := HI.out.gr.size; omega))
              | (go_at_call 73; refine (foldAway_any _ a ⟨V, A, B⟩ base HI.out.ok.le HI.out.ok.lt HP.out _ HI4.out.net).mono ?_; rintro e w6 ⟨rfl, hown6, hg6⟩; obtain ⟨z0, z1, z2⟩ := cell_new3 w4 (.int .i64 V) (.int .i64 A) (.int .i64 B) 89; have y0 := hg6.cell z0 hne4; have y1 := hg6.cell z1 hne4; have y2 := hg6.cell z2 hne4; have o6 := ownsRow_other HI4.out.own HI4.out.net hg6 (by decide))
              | (at_builtin; refine wpList_appE ty_folds rfl rfl rfl o6 rfl rfl (by simp [Value.oneCell']) hos (by have := HI4.out.gr.size; have := hg6.size; omega) ?_; intro b7 c7 w7 hown7 hg7 _ _)
              | (go_at_call 74; refine (one_any _ v rfl hv32 _).mono ?_; rintro e w8 ⟨rfl, rfl⟩))
            have h2p : (2 : Int) ^ v = ((2 ^ v : Nat) : Int) := by simp
            have hand' : bits BinOp.andNot IntKind.u32 (lf : Int) (2 ^ v) = ((sub lf (2 ^ v) : Nat) : Int) := by rw [h2p]; exact hand.out
            have hvv := HV.out
            have hf := HF.out
            go_roundw
            case rel =>
              have hon := foldsOnN_step HI.out.on hlt HB.out (by rw [← hvv]; exact H2.out)
              rw [← hvv, ← hf] at hon
              have hgr6 := grown_trans HI4.out.gr hg6
              have hl := bits_sub_lt hlf hvb (by omega)
              exact ⟨awayL a ⟨V, A, B⟩, sub lf (2 ^ v), os ++ [⟨V, A, B⟩], true, val_int hand', rfl,
                { ok := HA.out, net := ownsRow_other hown6 o6 hg7 (by decide), own := by rw [fdCells_snoc, List.length_append]; exact hown7, gr := grown_own hgr6 o6 hg7, on := hon
                  cnt := by rw [List.length_append]; simp; omega, len := by rw [awayL_length]; exact HI.out.len
                  tab := (HI4.out.tab.grown hg6 HTB.out).grown hg7 (fun e => by have := (o6.lt _ e.symm).1; have := START2.out; omega) }, fun e => nomatch e⟩
            case measure =>
              have hl := bits_sub_lt hlf hvb (by omega)
              rw [hand']
              simp [intOf]
              omega
          · have H2 := Lib.hid h2
            clear h2
            go_wp2_with (go_at_call 72; refine (foldOf_no' _ _ _ _ _ a lf v HI.out.len rfl rfl HI.out.ok hvl _ HS.out HI.out.tab H2.out).mono ?_; rintro e w4 ⟨rfl, hb4⟩)
            go_roundw
            case rel =>
              refine ⟨j + 1, by omega, by go_num, rfl, rfl, rfl, fun i hi h => ?_, hbx.trans ((hb4.alloc hb4.size _).mono hbx.size)⟩
              by_cases e : i = j
              · subst e; rw [← HV.out]; have := H2.out; omega
              · exact HB.out i hi (by omega)
            case measure => simp [intOf]; omega
        · obtain rfl : j = (bitsOf lf).length := by omega
          have HI := Lib.hid hinvx
          clear hinvx
          go_wp2
          go_roundw
          case rel => exact ⟨a, lf, os, false, rfl, rfl, HI.out, fun _ i hi => HB.out i hi hi⟩
          case measure => simp

end Go.Proofs.YtfokiijcpkhllaaDoor
