/- Plain facts, with no program in sight: cutting and contracting on sets of bits is what the reference does on lists. -/
import Derived.Test.YtiklocamfgopbaaDoorFoQ29
namespace Go.Proofs.YtiklocamfgopbaaDoor

/-- The sets behind a contraction. -/
def toTie (a : List Nat) (left u v : Nat) : List Nat := bitsOf (sub (a.getD v 0 &&& left) (2 ^ u))
def tieN (a : List Nat) (u : Nat) (l : List Nat) : List Nat := l.foldl (fun a x => joinL a u x) a
def contrL (a : List Nat) (left u v : Nat) : List Nat := tieN a u (toTie a left u v)
theorem tieN_snoc (a : List Nat) (u : Nat) (l : List Nat) (x : Nat) : tieN a u (l ++ [x]) = joinL (tieN a u l) u x := by simp [tieN]
theorem tieN_length (u : Nat) (l : List Nat) : ∀ a : List Nat, (tieN a u l).length = a.length := by
  induction l with
  | nil => intro a; rfl
  | cons x l ih => intro a; show (tieN (joinL a u x) u l).length = _; rw [ih, joinL_length]
theorem tieN_bits {u : Nat} (l : List Nat) : ∀ a : List Nat, a.length ≤ 16 → (∀ s ∈ a, s < 65536) → u < a.length → (∀ x ∈ l, x < a.length ∧ x ≠ u) → (∀ s ∈ tieN a u l, s < 65536) ∧
    ∀ i j, ((tieN a u l).getD i 0).testBit j = true ↔ (a.getD i 0).testBit j = true ∨ ∃ x ∈ l, (i = x ∧ j = u) ∨ (i = u ∧ j = x) := by
  induction l with
  | nil => intro a _ ha _ _; exact ⟨ha, fun i j => by simp [tieN]⟩
  | cons x l ih =>
    intro a h16 ha hu hl
    obtain ⟨hx, hxu⟩ := hl x (by simp)
    obtain ⟨h1, h2⟩ := ih (joinL a u x) (by rw [joinL_length]; exact h16) (joinL_lt16 ha (by omega) (by omega)) (by rw [joinL_length]; exact hu) (fun y hy => by rw [joinL_length]; exact hl y (by simp [hy]))
    refine ⟨h1, fun i j => ?_⟩
    show ((tieN (joinL a u x) u l).getD i 0).testBit j = true ↔ _
    rw [h2 i j, joinL_testBit hu hx (Ne.symm hxu)]
    constructor
    · rintro ((h | h | h) | ⟨z, hz, h⟩)
      · exact .inl h
      · exact .inr ⟨x, by simp, .inr h⟩
      · exact .inr ⟨x, by simp, .inl h⟩
      · exact .inr ⟨z, by simp [hz], h⟩
    · rintro (h | ⟨z, hz, h⟩)
      · exact .inl (.inl h)
      · rcases List.mem_cons.1 hz with e | e
        · subst e
          rcases h with h | h
          · exact .inl (.inr (.inr h))
          · exact .inl (.inr (.inl h))
        · exact .inr ⟨z, e, h⟩

theorem mem_toTie {a : List Nat} {left u v x : Nat} (h : left < 65536) (hu : u < 16) : x ∈ toTie a left u v ↔ (a.getD v 0).testBit x = true ∧ left.testBit x = true ∧ x ≠ u := by
  have h1 : a.getD v 0 &&& left < 65536 := Nat.lt_of_le_of_lt Nat.and_le_right h
  unfold toTie
  rw [mem_bitsOf' (sub_lt32 _ _ (by omega)), testBit_sub1 h1 hu, Nat.testBit_and, Bool.and_eq_true, and_assoc]

theorem Same.free {g : List (List Int)} {L : List Int} {a : List Nat} {left v : Nat} (h : Same g L a left) (hv : left.testBit v = true) : Same (freeG g v) (lessL L v) a (sub left (2 ^ v)) := by
  have hvl := h.inn v hv
  have hle := h.le
  have hv16 : v < 16 := by omega
  have hL := h.left16
  have hsub : sub left (2 ^ v) < 65536 := Nat.lt_of_le_of_lt Nat.and_le_left hL
  refine ⟨by rw [freeG_length]; exact h.len, hle, h.lt, hsub, by rw [h.list]; exact list_sub hL hv16, fun w hw => h.inn w ((testBit_sub1 hL hv16 w).1 hw).1, fun w hw => h.irr w ((testBit_sub1 hL hv16 w).1 hw).1, fun w hw => ?_⟩
  obtain ⟨hw1, hwv⟩ := (testBit_sub1 hL hv16 w).1 hw
  rw [row_freeG g v (by rw [h.len]; exact h.inn w hw1), freeRow_no (by omega), h.rows w hw1]
  refine rising_ext_int _ _ (lessL_rising (near_rising ..) _) (near_rising ..) fun x => ?_
  rw [mem_lessL, mem_near hL, mem_near hsub]
  constructor
  · rintro ⟨⟨i, rfl, h1, h2⟩, hne⟩
    exact ⟨i, rfl, h1, (testBit_sub1 hL hv16 i).2 ⟨h2, by omega⟩⟩
  · rintro ⟨i, rfl, h1, h2⟩
    obtain ⟨h3, h4⟩ := (testBit_sub1 hL hv16 i).1 h2
    exact ⟨⟨i, rfl, h1, h3⟩, by omega⟩

theorem Same.join {g : List (List Int)} {L : List Int} {a : List Nat} {left u v : Nat} (h : Same g L a left) (hr : RG g) (hu : left.testBit u = true) (hv : left.testBit v = true) (huv : u ≠ v) :
    Same (joinG g u v) (lessL L v) (contrL a left u v) (sub left (2 ^ v)) := by
  have hvl := h.inn v hv
  have hul := h.inn u hu
  have hle := h.le
  have hlen := h.len
  have hv16 : v < 16 := by omega
  have hu16 : u < 16 := by omega
  have hL := h.left16
  have hsub : sub left (2 ^ v) < 65536 := Nat.lt_of_le_of_lt Nat.and_le_left hL
  obtain ⟨hrJ, hmJ⟩ := joinG_mem (v := (v : Int)) hr (by omega : (0 : Int) ≤ (u : Int)) (by omega : (u : Int) < g.length)
  obtain ⟨hb1, hb2⟩ := tieN_bits (u := u) (toTie a left u v) a hle h.lt hul (fun x hx => by
    obtain ⟨h1, h2, h3⟩ := (mem_toTie hL hu16).1 hx
    exact ⟨h.inn x h2, h3⟩)
  refine ⟨by rw [joinG_length, contrL, tieN_length]; exact h.len, by rw [contrL, tieN_length]; exact hle, hb1, hsub, by rw [h.list]; exact list_sub hL hv16, fun w hw => by rw [contrL, tieN_length]; exact h.inn w ((testBit_sub1 hL hv16 w).1 hw).1, fun w hw => ?_, fun w hw => ?_⟩
  · obtain ⟨hw1, hwv⟩ := (testBit_sub1 hL hv16 w).1 hw
    rw [Bool.eq_false_iff]
    intro hc
    rcases (hb2 w w).1 hc with hc | ⟨x, hx, ⟨h1, h2⟩ | ⟨h1, h2⟩⟩
    · rw [h.irr w hw1] at hc; cases hc
    · exact ((mem_toTie hL hu16).1 hx).2.2 (by omega)
    · exact ((mem_toTie hL hu16).1 hx).2.2 (by omega)
  · obtain ⟨hw1, hwv⟩ := (testBit_sub1 hL hv16 w).1 hw
    refine rising_ext_int _ _ (hrJ w).2 (near_rising ..) fun y => ?_
    rw [hmJ, mem_near hsub, row_freeG g v (by rw [hlen]; exact h.inn w hw1), freeRow_no (by omega), mem_lessL, h.rows w hw1, Int.toNat_natCast, h.rows v hv]
    constructor
    · rintro (⟨hy, hyv⟩ | ⟨x, hx, hxu, hxy⟩)
      · obtain ⟨i, rfl, h1, h2⟩ := (mem_near hL).1 hy
        exact ⟨i, rfl, (hb2 w i).2 (.inl h1), (testBit_sub1 hL hv16 i).2 ⟨h2, by omega⟩⟩
      · obtain ⟨i, rfl, h1, h2⟩ := (mem_near hL).1 hx
        have hiv : i ≠ v := fun e => by
          subst e
          rw [h.irr i hv] at h1; cases h1
        have hit : i ∈ toTie a left u v := (mem_toTie hL hu16).2 ⟨h1, h2, by omega⟩
        rcases hxy with ⟨e1, rfl⟩ | ⟨e1, rfl⟩
        · exact ⟨u, rfl, (hb2 w u).2 (.inr ⟨i, hit, .inl ⟨by omega, rfl⟩⟩), (testBit_sub1 hL hv16 u).2 ⟨hu, huv⟩⟩
        · exact ⟨i, rfl, (hb2 w i).2 (.inr ⟨i, hit, .inr ⟨by omega, rfl⟩⟩), (testBit_sub1 hL hv16 i).2 ⟨h2, hiv⟩⟩
    · rintro ⟨i, rfl, h1, h2⟩
      obtain ⟨h3, h4⟩ := (testBit_sub1 hL hv16 i).1 h2
      rcases (hb2 w i).1 h1 with h1 | ⟨x, hx, hxy⟩
      · exact .inl ⟨(mem_near hL).2 ⟨i, rfl, h1, h3⟩, by omega⟩
      · obtain ⟨k1, k2, k3⟩ := (mem_toTie hL hu16).1 hx
        refine .inr ⟨x, (mem_near hL).2 ⟨x, rfl, k1, k2⟩, by omega, ?_⟩
        rcases hxy with ⟨e1, e2⟩ | ⟨e1, e2⟩
        · exact .inl ⟨by omega, by omega⟩
        · exact .inr ⟨by omega, by omega⟩

/-- The vertices above u that u can be contracted with. -/
def aboveN (a : List Nat) (left u : Nat) : List Nat := bitsOf (sub (a.getD u 0 &&& left) (2 ^ (u + 1) - 1))
theorem above_rows {g : List (List Int)} {L : List Int} {a : List Nat} {left u : Nat} (h : Same g L a left) (hu : left.testBit u = true) : natInts (aboveN a left u) = (row g u).filter (fun v => decide ((u : Int) < v)) := by
  have hle := h.le
  have hul := h.inn u hu
  have hL := h.left16
  have h1 : a.getD u 0 &&& left < 65536 := Nat.lt_of_le_of_lt Nat.and_le_right hL
  have hp : 2 ^ (u + 1) ≤ 2 ^ 16 := Nat.pow_le_pow_right (by decide) (by omega)
  have h2 : 2 ^ (u + 1) - 1 < 4294967296 := by
    have : (2 : Nat) ^ 16 = 65536 := by decide
    omega
  rw [h.rows u hu]
  refine rising_ext_int _ _ (natInts_rising (bitsOf_rising _)) ((near_rising ..).filter _) fun x => ?_
  rw [mem_natInts, List.mem_filter, mem_near hL]
  constructor
  · rintro ⟨i, hi, rfl⟩
    rw [aboveN, mem_bitsOf' (sub_lt32 _ _ (by omega)), testBit_sub _ _ (by omega) h2, testBit_firstOf, Nat.testBit_and] at hi
    simp only [Bool.and_eq_true, Bool.not_eq_true', decide_eq_false_iff_not] at hi
    exact ⟨⟨i, rfl, hi.1.1, hi.1.2⟩, by simp; omega⟩
  · rintro ⟨⟨i, rfl, k1, k2⟩, k3⟩
    refine ⟨i, ?_, rfl⟩
    rw [aboveN, mem_bitsOf' (sub_lt32 _ _ (by omega)), testBit_sub _ _ (by omega) h2, testBit_firstOf, Nat.testBit_and]
    simp only [Bool.and_eq_true, Bool.not_eq_true', decide_eq_false_iff_not]
    simp at k3
    exact ⟨⟨k1, k2⟩, by omega⟩
theorem edgeRow_above {g : List (List Int)} {L : List Int} {a : List Nat} {left u : Nat} (h : Same g L a left) (hu : left.testBit u = true) :
    edgeRow g L u = (natInts (aboveN a left u)).find? (fun v => dec (HardS (joinG g u v) (lessL L v))) := by
  rw [above_rows h hu, List.find?_filter, edgeRow, Int.toNat_natCast]
  congr 1
  funext v
  by_cases h1 : (u : Int) < v
  · rw [dec_true h1, decide_eq_true h1]; simp
  · rw [dec_false h1, decide_eq_false h1]; simp

/-- A union of sets. -/
theorem intoAll_bits (m k : Nat) (hm : m < 65536) (hk : k < 65536) : intoAll (natInts (bitsOf m)) (natInts (bitsOf k)) = natInts (bitsOf (m ||| k)) := by
  have key : ∀ (l s : List Int), s.Pairwise (· < ·) → (l.foldl intoL s).Pairwise (· < ·) ∧ ∀ x, x ∈ l.foldl intoL s ↔ x ∈ s ∨ x ∈ l := by
    intro l
    induction l with
    | nil => intro s hs; exact ⟨hs, fun x => by simp⟩
    | cons y l ih =>
      intro s hs
      obtain ⟨h1, h2⟩ := ih (intoL s y) (intoL_rising hs)
      refine ⟨h1, fun x => ?_⟩
      rw [List.foldl_cons, h2, mem_intoL, List.mem_cons, or_assoc]
  obtain ⟨h1, h2⟩ := key (natInts (bitsOf k)) (natInts (bitsOf m)) (natInts_rising (bitsOf_rising _))
  have hor := or_lt16 m k hm hk
  refine rising_ext_int _ _ h1 (natInts_rising (bitsOf_rising _)) fun x => ?_
  rw [intoAll, h2, mem_natInts, mem_natInts, mem_natInts]
  constructor
  · rintro (⟨i, hi, rfl⟩ | ⟨i, hi, rfl⟩)
    · exact ⟨i, by rw [mem_bitsOf' (by omega)] at hi ⊢; rw [Nat.testBit_or, hi]; rfl, rfl⟩
    · exact ⟨i, by rw [mem_bitsOf' (by omega)] at hi ⊢; rw [Nat.testBit_or, hi, Bool.or_true], rfl⟩
  · rintro ⟨i, hi, rfl⟩
    rw [mem_bitsOf' (by omega), Nat.testBit_or, Bool.or_eq_true] at hi
    rcases hi with hi | hi
    · exact .inl ⟨i, (mem_bitsOf' (by omega)).2 hi, rfl⟩
    · exact .inr ⟨i, (mem_bitsOf' (by omega)).2 hi, rfl⟩

theorem Same.cnt {g : List (List Int)} {L : List Int} {a : List Nat} {left : Nat} (h : Same g L a left) : (bitsOf left).length ≤ 16 := by
  have h1 : SetIn 16 (natInts (bitsOf left)) := ⟨fun x hx => by
    obtain ⟨i, hi, rfl⟩ := mem_natInts.1 hx
    have := h.inn i ((mem_left h.left16).1 hi)
    have := h.le
    omega, natInts_rising (bitsOf_rising _)⟩
  have := setIn_length (by omega) h1
  rw [natInts_length] at this
  omega

theorem bits_nil' {l : Nat} (h : l < 65536) : 0 < (natInts (bitsOf l)).length ↔ l ≠ 0 := by
  rw [natInts_length]
  constructor
  · rintro h1 rfl
    rw [bitsOf_zero] at h1
    simp at h1
  · intro h0
    have := bitsOf_step l h0 (by omega)
    rw [this]
    simp
/-- The program's test says what the reference's does. -/
theorem Same.hard {g : List (List Int)} {L : List Int} {a : List Nat} {left : Nat} (h : Same g L a left) {fs : List Fd} {l : Nat} {a' : List Nat} (hf : FoldsN a left fs l a') (hl : l < 65536) : HardS g L ↔ l ≠ 0 := by
  obtain ⟨g', h1, _⟩ := hf.same h
  rw [hardS_iff h1]
  exact bits_nil' hl

end Go.Proofs.YtiklocamfgopbaaDoor
