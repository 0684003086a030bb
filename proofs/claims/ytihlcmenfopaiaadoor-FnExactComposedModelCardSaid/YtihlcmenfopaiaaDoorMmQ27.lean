/- Plain: the sets of so many numbers in turn; the least set that meets all sets; sets that touch. -/
import Derived.Test.YtihlcmenfopaiaaDoorMmQ26
import Derived.Test.YtihlcmenfopaiaaDoorMmQ18
import Derived.Test.YtihlcmenfopaiaaDoorMmQ15
import Derived.Test.YtihlcmenfopaiaaDoorMmQ4
import Derived.Deep.RegionHeld3
import Derived.Deep.DeepCutAuto
import Derived.Test.YtihlcmenfopaiaaDoorMmQ16
namespace Go.Proofs.YtihlcmenfopaiaaDoor

def lastp (o : List Nat) : Nat := match o.getLast? with
  | none => 0
  | some x => x + 1
theorem lastp_snoc (o : List Nat) (x : Nat) : lastp (o ++ [x]) = x + 1 := by simp [lastp]
theorem snoc_or (o : List Nat) : o = [] ∨ ∃ o' x, o = o' ++ [x] := by
  rcases List.eq_nil_or_concat o with h | ⟨a, b, h⟩
  · exact .inl h
  · exact .inr ⟨a, b, by rw [h]; simp⟩
theorem lastp_le {o : List Nat} (h : o.Pairwise (· < ·)) {v : Nat} : (∀ a ∈ o, a < v) ↔ lastp o ≤ v := by
  rcases snoc_or o with rfl | ⟨o', x, rfl⟩
  · simp [lastp]
  · rw [lastp_snoc]
    rw [List.pairwise_append] at h
    constructor
    · intro k
      have := k x (by simp)
      omega
    · intro k a ha
      rcases List.mem_append.1 ha with e | e
      · have := h.2.2 a e x (by simp)
        omega
      · have : a = x := by simpa using e
        omega
def extS (n : Nat) (o : List Nat) : List (List Nat) := ((List.range n).filter fun v => decide (lastp o ≤ v)).map fun v => o ++ [v]
def setsL (n : Nat) : Nat → List (List Nat)
  | 0 => [[]]
  | k + 1 => (setsL n k).flatMap (extS n)
theorem cand_snoc {n k : Nat} {o : List Nat} {v : Nat} : Cand n 0 (k + 1) (o ++ [v]) ↔ Cand n 0 k o ∧ v < n ∧ lastp o ≤ v := by
  constructor
  · intro h
    have h1 := List.pairwise_append.1 h.ris
    refine ⟨⟨h1.1, fun x hx => h.inn x (by simp [hx]), by have := h.len; simp at this; omega⟩, (h.inn v (by simp)).2, (lastp_le h1.1).1 fun a ha => h1.2.2 a ha v (by simp)⟩
  · rintro ⟨h, h1, h2⟩
    refine ⟨List.pairwise_append.2 ⟨h.ris, by simp, fun a ha b hb => ?_⟩, fun x hx => ?_, by rw [List.length_append, h.len]; rfl⟩
    · have : b = v := by simpa using hb
      rw [this]
      exact (lastp_le h.ris).2 h2 a ha
    · rcases List.mem_append.1 hx with e | e
      · exact h.inn x e
      · have : x = v := by simpa using e
        omega
theorem mem_setsL {n : Nat} : ∀ (k : Nat) (T : List Nat), T ∈ setsL n k ↔ Cand n 0 k T
  | 0, T => by
    simp only [setsL, List.mem_singleton]
    exact ⟨fun h => h ▸ cand_nil n 0, fun h => cand_zero h⟩
  | k + 1, T => by
    simp only [setsL, List.mem_flatMap, extS, List.mem_map, List.mem_filter, List.mem_range, decide_eq_true_eq]
    constructor
    · rintro ⟨o, ho, v, ⟨h1, h2⟩, rfl⟩
      exact cand_snoc.2 ⟨(mem_setsL k o).1 ho, h1, h2⟩
    · intro h
      rcases snoc_or T with rfl | ⟨o, v, rfl⟩
      · have := h.len
        simp at this
      · obtain ⟨h1, h2, h3⟩ := cand_snoc.1 h
        exact ⟨o, (mem_setsL k o).2 h1, v, ⟨h2, h3⟩, rfl⟩
theorem lexL_longS : ∀ {a b : List Nat} (s t : List Nat), a.length = b.length → lexL a b → lexL (a ++ s) (b ++ t)
  | [], [], _, _, _, h => h.elim
  | a :: l, b :: m, s, t, e, h => by
    simp only [List.cons_append, lexL] at h ⊢
    rcases h with h | ⟨h1, h2⟩
    · exact .inl h
    · exact .inr ⟨h1, lexL_longS s t (by simpa using e) h2⟩
theorem setsL_sorted {n : Nat} : ∀ k, (setsL n k).Pairwise lexL
  | 0 => by simp [setsL]
  | k + 1 => by
    rw [setsL, List.pairwise_flatMap]
    refine ⟨fun o _ => ?_, ?_⟩
    · unfold extS
      rw [List.pairwise_map]
      refine List.Pairwise.imp (fun {v w} h => ?_) (List.Pairwise.filter _ List.pairwise_lt_range)
      rw [lexL_app]
      exact .inl h
    · refine (setsL_sorted k).imp_of_mem fun {a b} ha hb h x hx y hy => ?_
      obtain ⟨v, _, rfl⟩ := List.mem_map.1 hx
      obtain ⟨w, _, rfl⟩ := List.mem_map.1 hy
      exact lexL_longS _ _ (((mem_setsL k a).1 ha).len.trans ((mem_setsL k b).1 hb).len.symm) h
theorem cand_bitsM {n k : Nat} (hn : n ≤ 16) {T : List Nat} (h : Cand n 0 k T) : bitsOf (mask (natInts T)) = T := bitsOf_maskN h.ris fun x hx => by have := (h.inn x hx).2; omega
theorem setsL_len {n : Nat} (hn : n ≤ 16) (k : Nat) : (setsL n k).length ≤ 65536 := by
  have h1 : ((setsL n k).map fun T => mask (natInts T)).Nodup := by
    unfold List.Nodup
    rw [List.pairwise_map]
    refine (setsL_sorted k).imp_of_mem fun {a b} ha hb h e => ?_
    have h2 := cand_bitsM hn ((mem_setsL k a).1 ha)
    rw [e, cand_bitsM hn ((mem_setsL k b).1 hb)] at h2
    rw [h2] at h
    exact lexL_irrefl _ h
  have h2 := nodup_le (2 ^ n) _ h1 fun x hx => by
    obtain ⟨T, hT, rfl⟩ := List.mem_map.1 hx
    exact cand_lt ((mem_setsL k T).1 hT)
  rw [List.length_map] at h2
  have h3 : 2 ^ n ≤ 2 ^ 16 := Nat.pow_le_pow_right (by decide) hn
  have h4 : (2 : Nat) ^ 16 = 65536 := by decide
  omega
theorem cand_room {n k : Nat} {T : List Nat} (h : Cand n 0 k T) : k ≤ n := by
  have := nodup_le n T (h.ris.imp fun {a b} k => Nat.ne_of_lt k) fun x hx => (h.inn x hx).2
  rw [← h.len]; exact this
theorem lexL_asymS {a b : List Nat} (h : lexL a b) : ¬ lexL b a := fun k => lexL_irrefl _ (lexL_trans h k)
/-- The first one in turn is the least one. -/
theorem first_least {P : Nat → Prop} {n k i : Nat} (hn : n ≤ 16) (hno : ∀ m, m < k → ∀ T ∈ setsL n m, ¬ P (mask (natInts T))) (hi : i < (setsL n k).length) (hP : P (mask (natInts (setsL n k)[i])))
    (hb : ∀ j (hj : j < (setsL n k).length), j < i → ¬ P (mask (natInts (setsL n k)[j]))) : LeastP P n (mask (natInts (setsL n k)[i])) := by
  have hc := (mem_setsL k _).1 (List.getElem_mem hi)
  refine ⟨cand_lt hc, hP, fun t ht hPt hl => ?_⟩
  rw [cand_bitsM hn hc] at hl
  obtain ⟨hct, ht16⟩ := cand_bits hn ht
  have hmt := (mem_setsL _ _).2 hct
  have hPt' : P (mask (natInts (bitsOf t))) := by rw [mask_bitsOf ht16]; exact hPt
  rcases hl with hl | ⟨hl1, hl2⟩
  · exact hno _ (by rw [hc.len] at hl; exact hl) _ hmt hPt'
  · rw [hl1, hc.len] at hmt
    obtain ⟨j, hj, e⟩ := List.getElem_of_mem hmt
    rw [← e] at hl2 hPt'
    by_cases h1 : j < i
    · exact hb j hj h1 hPt'
    · by_cases h2 : j = i
      · subst h2
        exact lexL_irrefl _ hl2
      · exact lexL_asymS hl2 (List.pairwise_iff_getElem.1 (setsL_sorted k) i j hi hj (by omega))
theorem none_all {P : Nat → Prop} {n : Nat} (hn : n ≤ 16) (hno : ∀ m, m < n + 1 → ∀ T ∈ setsL n m, ¬ P (mask (natInts T))) : ∀ t, t < 2 ^ n → ¬ P t := fun t ht hP => by
  obtain ⟨hct, ht16⟩ := cand_bits hn ht
  have := cand_room hct
  refine hno _ (by omega) _ ((mem_setsL _ _).2 hct) ?_
  rw [mask_bitsOf ht16]; exact hP

/-- A set that meets all sets. -/
def CovN (S : List (List Int)) (s : Nat) : Prop := ∀ j, j < S.length → ∃ i, s.testBit i = true ∧ (i : Int) ∈ row S j
/-- Two sets touch. -/
def TouchP (g : List (List Int)) (A B : List Int) : Prop := ∃ x ∈ A, x ∈ B ∨ ∃ y ∈ B, x ∈ row g y.toNat
def BrTo (g S : List (List Int)) (i : Nat) : Prop := ∀ a, a < i → ConnS g (row S a) ∧ ∀ b, b < a → TouchP g (row S b) (row S a)
def BrS (g S : List (List Int)) : Prop := (GOk g ∧ S.length ≤ 80) ∧ BrTo g S S.length
theorem brTo_step {g S : List (List Int)} {i : Nat} (h : BrTo g S i) (h1 : ConnS g (row S i)) (h2 : ∀ b, b < i → TouchP g (row S b) (row S i)) : BrTo g S (i + 1) := fun a ha => by
  by_cases e : a < i
  · exact h a e
  · obtain rfl : a = i := by omega
    exact ⟨h1, h2⟩
def CvS (g S : List (List Int)) (ys : List Int) : Prop :=
  (BrS g S ∧ ((∃ s, LeastP (CovN S) g.length s ∧ ys = natInts (bitsOf s)) ∨ ((∀ t, t < 2 ^ g.length → ¬ CovN S t) ∧ ys = []))) ∨ (¬ BrS g S ∧ ys = [])
theorem cvS_det {g S : List (List Int)} {ys zs : List Int} (h : CvS g S ys) (k : CvS g S zs) : ys = zs := by
  rcases h with ⟨h, h2⟩ | ⟨h, rfl⟩ <;> rcases k with ⟨k, k2⟩ | ⟨k, rfl⟩
  · rcases h2 with ⟨s, h3, rfl⟩ | ⟨h3, rfl⟩ <;> rcases k2 with ⟨t, k3, rfl⟩ | ⟨k3, rfl⟩
    · rw [leastP_det h.1.1.le h3 k3]
    · exact absurd h3.2.1 (k3 _ h3.1)
    · exact absurd k3.2.1 (h3 _ k3.1)
    · rfl
  · exact absurd h k
  · exact absurd k h
  · rfl

end Go.Proofs.YtihlcmenfopaiaaDoor

/- Walks: l1Less, l12Bit, l12Set. -/
namespace Go.Proofs.YtihlcmenfopaiaaDoor
open Go.RowKit

theorem natInts_atL {l : List Nat} {k : Nat} (h : k < l.length) {h' : k < (natInts l).length} : (natInts l)[k] = ((l[k] : Nat) : Int) := by simp [natInts]
theorem lexL_at : ∀ (i : Nat) (a b : List Nat) (ha : i < a.length) (hb : i < b.length), a.take i = b.take i → a[i] ≠ b[i] → (lexL a b ↔ a[i] < b[i])
  | _, [], _, ha, _, _, _ => by simp at ha
  | _, _ :: _, [], _, hb, _, _ => by simp at hb
  | 0, x :: a, y :: b, _, _, _, hne => by
    simp only [List.getElem_cons_zero] at hne ⊢
    simp only [lexL]
    exact ⟨fun h => h.elim id fun h => absurd h.1 hne, .inl⟩
  | i + 1, x :: a, y :: b, ha, hb, ht, hne => by
    simp only [List.take_succ_cons, List.cons.injEq] at ht
    obtain ⟨rfl, ht⟩ := ht
    simp only [List.getElem_cons_succ] at hne ⊢
    simp only [lexL]
    rw [← lexL_at i a b (by simpa using ha) (by simpa using hb) ht hne]
    exact ⟨fun h => h.elim (fun h => absurd h (Nat.lt_irrefl _)) fun h => h.2, fun h => .inr ⟨trivial, h⟩⟩


theorem i64_and_nat (a b : Nat) (ha : a < 4294967296) (hb : b < 4294967296) : bits BinOp.and IntKind.i64 (a : Int) (b : Int) = ((a &&& b : Nat) : Int) :=
  (bits_nat .i64 32 (by decide) (fun n h1 h2 => by rw [IntKind.wrap_i64]; omega) a b (by omega) (by omega)).1

theorem wrap_pow (v : Nat) (hv : v < 32) : wrap64 (2 ^ v) = ((2 ^ v : Nat) : Int) := by
  have h1 := pow_lt32 v hv
  have e : (2 ^ v : Int) = ((2 ^ v : Nat) : Int) := by simp
  rw [e]
  generalize (2 ^ v : Nat) = t at *
  unfold wrap64
  omega
set_option maxHeartbeats 400000 in
theorem l12Bit_any (z : Int) (v : Nat) (hz : z = v) (hv : v < 32) (w : World) :
    Calls Tryd.prog 140 #[.int .i64 z] w fun e w' => e = .returned (.int .i64 ((2 ^ v : Nat) : Int)) ∧ w = w' := by
  subst hz
  have HB : Hid (wrap64 (2 ^ v) = ((2 ^ v : Nat) : Int)) := Lib.hid (wrap_pow v hv)
  go_enter Tryd.func140, Tryd.ntmps140
  go_wp2
  go_ret
  refine ⟨?_, rfl⟩
  rw [← HB.out]
  rfl

theorem bit_ne (s k : Nat) (hs : s < 65536) (hk : k < 17) : (bits BinOp.and IntKind.i64 (s : Int) ((2 ^ k : Nat) : Int) != 0) = s.testBit k := by
  have h1 := pow_lt32 k (by omega)
  rw [i64_and_nat _ _ (by omega) h1, Bool.eq_iff_iff]
  constructor
  · intro h
    refine Decidable.byContradiction fun hn => ?_
    have h0 : s &&& 2 ^ k = 0 := Nat.eq_of_testBit_eq fun j => by
      rw [Nat.testBit_and, Nat.testBit_two_pow, Nat.zero_testBit]
      by_cases hj : k = j
      · subst hj
        simpa using hn
      · simp [hj]
    rw [h0] at h
    simp at h
  · intro h
    have h0 : s &&& 2 ^ k ≠ 0 := fun h0 => by
      have := congrArg (fun z => z.testBit k) h0
      simp [h] at this
    simp only [bne_iff_ne, ne_eq]
    omega



def lowB (s k : Nat) : List Nat := (List.range k).filter fun i => s.testBit i
theorem lowB_len (s k : Nat) : (lowB s k).length ≤ k := Nat.le_trans (List.length_filter_le _ _) (by simp)
theorem lowB_yes {s k : Nat} (h : s.testBit k = true) : lowB s (k + 1) = lowB s k ++ [k] := by simp [lowB, List.range_succ, h]
theorem lowB_no {s k : Nat} (h : s.testBit k = false) : lowB s (k + 1) = lowB s k := by simp [lowB, List.range_succ, h]
theorem lowB_end {s k : Nat} (hs : s < 2 ^ k) (hk : k ≤ 32) : lowB s k = bitsOf s :=
  rising_ext _ _ (List.Pairwise.filter _ List.pairwise_lt_range) (bitsOf_rising s) fun x => by
    rw [mem_bitsOf, lowB, List.mem_filter, List.mem_range]
    constructor
    · rintro ⟨a, b⟩
      exact ⟨by omega, b⟩
    · rintro ⟨a, b⟩
      refine ⟨Nat.lt_of_not_le fun hge => ?_, b⟩
      have := Nat.testBit_lt_two_pow (Nat.lt_of_lt_of_le hs (Nat.pow_le_pow_right (by decide) hge) : s < 2 ^ x)
      rw [this] at b
      exact nomatch b


end Go.Proofs.YtihlcmenfopaiaaDoor

/- Walks: l8Meet, l1All (the reference's cliques). -/
namespace Go.Proofs.YtihlcmenfopaiaaDoor
open Go.RowKit


theorem nums_at {w : World} {E : TypeId} {p : Option Addr} {m c : Nat} {xs : List Int} (h : Nums w E .i64 (.slice p m c) xs) : At w E p (xs.map (Value.int .i64)) := by
  obtain ⟨p', c', e, _, _, _, hat⟩ := h
  simp only [Value.slice.injEq] at e
  obtain ⟨rfl, _, _⟩ := e
  exact hat
/-- Those of xs that are in ys, up to the k-th. -/
def meetL (xs : List Nat) (ys : List Int) (k : Nat) : List Nat := (xs.take k).filter fun j => decide ((j : Int) ∈ ys)
theorem meetL_succ {xs : List Nat} {ys : List Int} {k : Nat} (h : k < xs.length) : meetL xs ys (k + 1) = if ((xs[k] : Nat) : Int) ∈ ys then meetL xs ys k ++ [xs[k]] else meetL xs ys k := by
  unfold meetL
  rw [take_snoc _ k h, List.filter_append]
  by_cases hm : ((xs[k] : Nat) : Int) ∈ ys
  · rw [if_pos hm]; simp [hm]
  · rw [if_neg hm]; simp [hm]
theorem meetL_len (xs : List Nat) (ys : List Int) (k : Nat) : (meetL xs ys k).length ≤ xs.length := Nat.le_trans (List.length_filter_le _ _) (by rw [List.length_take]; omega)

set_option maxRecDepth 100000 in
set_option maxHeartbeats 1000000 in
theorem l8Meet_any (u v : Value) (xs : List Nat) (ys : List Int) (hl : xs.length ≤ 1000) (w : World) (hx : Nums w 2 .i64 u (natInts xs)) (hy : Nums w 2 .i64 v ys) :
    Calls Tryd.prog 104 #[u, v] w fun e w' => ∃ ov, e = .returned ov ∧ w'.ownsRow w.heap.size 2 1 ov (meetL xs ys xs.length).length ((natInts (meetL xs ys xs.length)).map (Value.int .i64)) ∧ Below w.heap.size w w' := by
  have HX := Lib.hid hx
  have HY := Lib.hid hy
  obtain ⟨p, c, rfl, hp, _, hn, _⟩ := hx
  rw [natInts_length] at hn
  have HO := Lib.hid (ownsRow_empty w 2 1)
  have HB := Lib.hid (below_alloc w (.cells #[] 2))
  clear hy
  simp only [natInts_length] at *
  go_enter Tryd.func104, Tryd.ntmps104
  go_wp2
  go_loopw [5, 6] (fun o i wr => ∃ k : Nat, k ≤ xs.length ∧ i = .int .i64 k ∧ wr.ownsRow w.heap.size 2 1 o (meetL xs ys k).length ((natInts (meetL xs ys k)).map (Value.int .i64)) ∧ Below w.heap.size w wr) (fun _ i _ => xs.length - (intOf i).toNat)
  case atStart => exact ⟨0, Nat.zero_le _, rfl, HO.out, HB.out⟩
  case round =>
    obtain ⟨k, hk, rfl, hown, hbel⟩ := hrel
    have hsz := hbel.size
    have hml := meetL_len xs ys k
    by_cases hlt : k < xs.length
    · have hms := Lib.hid (meetL_succ (ys := ys) hlt)
      obtain ⟨b, o1, rfl, hcell⟩ := (nums_at (HX.out.below hbel)).num (k := k) (by rw [natInts_length]; exact hlt)
      rw [natInts_atL hlt] at hcell
      have e0 : (0 : Int) ≤ (k : Int) := by omega
      have e1 : (k : Int) < (xs.length : Int) := by omega
      generalize hV : xs[k]'hlt = v at hcell hms
      clear hV
      have HC := Lib.hid hown
      by_cases hin : (v : Int) ∈ ys
      · have hd := dec_true hin
        have hms2 := Lib.hid (hms.out.trans (if_pos hin))
        clear hin
        go_wp2_with (first
          | (go_at_call 137; refine (l1Has_any _ ys _ _ (HY.out.below hbel)).mono ?_; rintro e w4 ⟨he4, hw4⟩; rw [hd] at he4; subst he4; subst hw4)
          | (at_builtin; refine wpList_app1 ty_i64 rfl rfl rfl HC.out rfl rfl (by omega) (by omega) ?_; intro v' w1 hown' hg _))
        go_roundw
        case rel => exact ⟨k + 1, by omega, by go_num, by rw [hms2.out, show natInts (meetL xs ys k ++ [v]) = natInts (meetL xs ys k) ++ [(v : Int)] by simp [natInts], List.map_append, List.length_append]; exact hown', below_grown hbel HC.out hg (Nat.le_refl _) hsz⟩
        case measure => simp [intOf]; omega
      · have hd := dec_false hin
        have hms2 := Lib.hid (hms.out.trans (if_neg hin))
        clear hin
        go_wp2_with (go_at_call 137; refine (l1Has_any _ ys _ _ (HY.out.below hbel)).mono ?_; rintro e w4 ⟨he4, hw4⟩; rw [hd] at he4; subst he4; subst hw4)
        go_roundw
        case rel => exact ⟨k + 1, by omega, by go_num, by rw [hms2.out]; exact HC.out, hbel⟩
        case measure => simp [intOf]; omega
    · obtain rfl : k = xs.length := by omega
      go_wp2
      go_ret
      exact ⟨_, rfl, hown, hbel⟩

end Go.Proofs.YtihlcmenfopaiaaDoor
