/- Walk: what splits a set (the program's splitters), by its members. -/
import Derived.Test.YtmakhapdlkbbnaaDoorMlQ19
import Derived.Test.YtmakhapdlkbbnaaDoorMlQ13
import Derived.Test.YtmakhapdlkbbnaaDoorMlQ10
import Derived.Test.YtmakhapdlkbbnaaDoorMlQ11
namespace Go.Proofs.YtmakhapdlkbbnaaDoor
open Go.RowKit

theorem or_two_bit {z v : Nat} {P : Nat → Prop} (h : ∀ x, z.testBit x = true ↔ P x) : ∀ x, (z ||| 2 ^ v).testBit x = true ↔ P x ∨ x = v := fun x => by
  rw [Nat.testBit_or, bit_one, Bool.or_eq_true, h, decide_eq_true_eq]
  exact ⟨fun h => h.imp_right Eq.symm, fun h => h.imp_right Eq.symm⟩
/-- The vertices outside a set that split it, as a mask. -/
def SplZ (g : List (List Int)) (s z : Nat) : Prop := z < 65536 ∧ ∀ x, z.testBit x = true ↔ x < g.length ∧ s.testBit x = false ∧ SplN g x s
theorem splZ_zero {g : List (List Int)} {s z : Nat} (h : SplZ g s z) : z = 0 ↔ ModN g s := by
  rw [mod_iff]
  constructor
  · intro e v hv hs
    have := (h.2 v).2 ⟨hv, hs.1, hs.2⟩
    rw [e] at this
    simp at this
  · intro hm
    refine Nat.eq_of_testBit_eq fun x => ?_
    rw [Nat.zero_testBit]
    cases hx : z.testBit x with
    | false => rfl
    | true => exact absurd ⟨((h.2 x).1 hx).2.1, ((h.2 x).1 hx).2.2⟩ (hm x ((h.2 x).1 hx).1)
set_option maxRecDepth 100000 in
set_option maxHeartbeats 2000000 in
theorem splittersB_any (g : List (List Int)) (xp : Option Addr) (xc : Nat) (yw ys : Int) (W s : Nat) (hyw : yw = W) (hys : ys = s) (hW : W = 2 ^ g.length - 1) (hs : s < 2 ^ g.length) (hok : GOk g) (w : World) (hx : Sl w 79 (.slice xp g.length xc) g.length ((netL g).map u32v)) (hT : Tab w) :
    Calls Tryd.prog 107 #[.slice xp g.length xc, .int .u32 yw, .int .u32 ys] w fun e w' => ∃ z : Nat, e = .returned (.int .u32 z) ∧ SplZ g s z ∧ Below w.heap.size w w' := by
  subst hyw hys
  have h16 := hok.le
  obtain ⟨_, hs16⟩ := cand_bits h16 hs
  have hW16 : W < 65536 := by
    have := Nat.pow_le_pow_right (show 0 < 2 by decide) h16
    have h2 : (2 : Nat) ^ 16 = 65536 := by decide
    have : 0 < 2 ^ g.length := Nat.two_pow_pos _
    omega
  have hand := Lib.hid (u32_andNot_nat W s (by omega) (by omega))
  obtain ⟨r, hr⟩ : ∃ r, r = sub W s := ⟨_, rfl⟩
  have hr16 : r < 65536 := by rw [hr]; exact sub_lt16 _ _ hW16
  have hrb : Hid (∀ v, v ∈ bitsOf r ↔ v < g.length ∧ s.testBit v = false) := Lib.hid (fun v => by
    rw [mem_bitsOf' (by omega), hr, testBit_sub _ _ (by omega) (by omega), hW, testBit_firstOf]
    simp)
  have HR := Lib.hid hr
  obtain ⟨L, hLe⟩ : ∃ L, bitsOf r = L := ⟨_, rfl⟩
  have HLe := Lib.hid hLe
  have hL32 : L.length ≤ 32 := by rw [← hLe]; exact bitsOf_length r
  rw [hLe] at hrb
  clear hLe
  have HX := Lib.hid hx
  have HT := Lib.hid hT
  have HOK := Lib.hid hok
  clear hx hT hr hW hok
  go_enter Tryd.func107, Tryd.ntmps107
  go_wp2_with (go_at_call 130; refine (list_any _ r (by rw [hand.out, HR.out]; rfl) (by omega) _ HT.out).mono ?_; rintro e w1 ⟨lv, rfl, ho1, hb1⟩; rw [HLe.out] at ho1; obtain ⟨lp, lc, rfl⟩ := owns_shapeA ho1)
  have HN1 := Lib.hid (numsInt_of _ _ _ _ ho1 (by omega))
  have HB1 := Lib.hid hb1
  clear ho1 hb1
  go_loopw [7, 16] (fun o i wr => ∃ (k z : Nat), k ≤ L.length ∧ i = .int .i64 k ∧ o = .int .u32 z ∧ z < 65536 ∧ (∀ x, z.testBit x = true ↔ (x ∈ L.take k ∧ SplN g x s)) ∧ wr = w1) (fun _ i _ => L.length - (intOf i).toNat)
  case atStart => exact ⟨0, 0, Nat.zero_le _, rfl, rfl, by decide, by simp, rfl⟩
  case round =>
    obtain ⟨k, z, hk, rfl, rfl, hz, hzi, rfl⟩ := hrel
    have HZ := Lib.hid hzi
    clear hzi
    by_cases hlt : k < L.length
    · obtain ⟨b, o1, rfl, hcell⟩ := (nums_atA HN1.out).num (k := k) (by rw [natInts_length]; exact hlt)
      rw [natInts_atL hlt] at hcell
      have htk := Lib.hid (take_snoc L k hlt)
      have hvg := ((hrb.out _).1 (List.getElem_mem hlt)).1
      generalize hV : L[k]'hlt = v at hcell hvg htk
      clear hV
      have e0 : (0 : Int) ≤ (v : Int) := by omega
      have e1 : (v : Int) < (g.length : Int) := by omega
      obtain ⟨nb, no, rfl, hnc⟩ := nets_cell (a := netL g) (by rw [netL_lenP]; exact HX.out.below HB1.out) (v := v) (by rw [netL_lenP]; exact hvg)
      have hn16 := netL_lt HOK.out _ (List.getElem_mem (l := netL g) (by rw [netL_lenP]; exact hvg))
      have hnv : Hid ((netL g)[v]'(by rw [netL_lenP]; exact hvg) = mask (row g v)) := Lib.hid (by
        rw [← netL_getD, List.getD_eq_getElem?_getD, List.getElem?_eq_getElem (by rw [netL_lenP]; exact hvg)]
        rfl)
      generalize hNV : (netL g)[v]'(by rw [netL_lenP]; exact hvg) = nv at hnc hn16 hnv
      clear hNV
      have hA := u32_and_nat nv s (by omega) (by omega)
      generalize hQ : nv &&& s = q at hA
      have HQ : Hid (mask (row g v) &&& s = q) := Lib.hid (by rw [← hnv.out]; exact hQ)
      clear hQ
      obtain ⟨t, ht⟩ : ∃ t, t = 2 ^ v := ⟨_, rfl⟩
      have ht16 : t < 65536 := by rw [ht]; exact pow_lt16 v (by omega)
      have ht0 : t ≠ 0 := by rw [ht]; exact Nat.ne_of_gt (Nat.two_pow_pos v)
      have HTT := Lib.hid ht
      have hOr := Lib.hid (u32_or_nat z t (by omega) (by omega))
      clear ht
      by_cases hsp : SplN g v s
      · have hq0 : ((q : Int) != 0) = true := by
          simp only [bne_iff_ne, ne_eq]
          intro h
          exact hsp (.inl (by rw [HQ.out]; omega))
        have hq1 : ((q : Int) != (s : Int)) = true := by
          simp only [bne_iff_ne, ne_eq]
          intro h
          exact hsp (.inr (by rw [HQ.out]; omega))
        have HS := Lib.hid hsp
        clear hsp
        go_wp2_with (go_at_call 135; refine (one_any _ v rfl (by omega) _).mono ?_; rintro e w2 ⟨he2, hw2⟩; rw [← HTT.out] at he2; subst he2; subst hw2)
        go_roundw
        case rel =>
          refine ⟨k + 1, z ||| t, by omega, by go_num, by rw [hOr.out], or_lt16 _ _ hz ht16, ?_, trivial⟩
          intro x
          rw [HTT.out, or_two_bit HZ.out, htk.out, List.mem_append, List.mem_singleton]
          constructor
          · rintro (h | rfl)
            · exact ⟨.inl h.1, h.2⟩
            · exact ⟨.inr rfl, HS.out⟩
          · rintro ⟨h | h, h2⟩
            · exact .inl ⟨h, h2⟩
            · exact .inr h
        case measure => simp [intOf]; omega
      · have hq : q = 0 ∨ q = s := by
          have := Decidable.not_not.1 hsp
          rwa [HQ.out] at this
        have HS := Lib.hid hsp
        clear hsp
        have HREL : Hid (∀ x, z.testBit x = true ↔ (x ∈ L.take (k + 1) ∧ SplN g x s)) := Lib.hid (fun x => by
          rw [HZ.out, htk.out, List.mem_append, List.mem_singleton]
          constructor
          · rintro ⟨h, h2⟩
            exact ⟨.inl h, h2⟩
          · rintro ⟨h | h, h2⟩
            · exact ⟨h, h2⟩
            · exact absurd (h ▸ h2) HS.out)
        by_cases h0 : q = 0
        · have hq0 : ((q : Int) != 0) = false := by simp [h0]
          clear hq h0
          go_wp2
          go_roundw
          case rel => exact ⟨k + 1, z, by omega, by go_num, rfl, hz, HREL.out, trivial⟩
          case measure => simp [intOf]; omega
        · have hq0 : ((q : Int) != 0) = true := by simp; omega
          have hq1 : ((q : Int) != (s : Int)) = false := by simp; omega
          clear hq h0
          go_wp2
          go_roundw
          case rel => exact ⟨k + 1, z, by omega, by go_num, rfl, hz, HREL.out, trivial⟩
          case measure => simp [intOf]; omega
    · obtain rfl : k = L.length := by omega
      go_wp2
      go_ret
      refine ⟨z, rfl, ⟨hz, fun x => ?_⟩, HB1.out⟩
      rw [HZ.out, List.take_length, hrb.out, and_assoc]

end Go.Proofs.YtmakhapdlkbbnaaDoor

/- Plain: orders of all vertices. -/
namespace Go.Proofs.YtmakhapdlkbbnaaDoor

/-- An order of the numbers below n. -/
def OrdOk (n : Nat) (l : List Int) : Prop := l.length = n ∧ (∀ x ∈ l, 0 ≤ x ∧ x < n) ∧ l.Nodup

theorem strict_of {l : List Int} (h : l.Pairwise (· ≤ ·)) (hn : l.Nodup) : l.Pairwise (· < ·) := by
  induction l with
  | nil => exact List.Pairwise.nil
  | cons x l ih =>
    rw [List.pairwise_cons] at h
    rw [List.nodup_cons] at hn
    rw [List.pairwise_cons]
    refine ⟨fun y hy => ?_, ih h.2 hn.2⟩
    have h1 := h.1 y hy
    by_cases e : x = y
    · subst e; exact absurd hy hn.1
    · omega
theorem nodup_of {l : List Int} (h : l.Pairwise (· < ·)) : l.Nodup := by
  unfold List.Nodup
  exact h.imp fun hx e => by omega

theorem setIn_sort {n : Int} {l : List Int} : SetIn n (l.mergeSort fun x y => decide (x ≤ y)) ↔ (∀ x ∈ l, 0 ≤ x ∧ x < n) ∧ l.Nodup := by
  have hp := List.mergeSort_perm l (fun x y => decide (x ≤ y))
  have hs : (l.mergeSort fun x y => decide (x ≤ y)).Pairwise (fun a b => decide (a ≤ b) = true) :=
    List.pairwise_mergeSort (fun a b c h1 h2 => by simp only [decide_eq_true_eq] at *; omega) (fun a b => by simp only [Bool.or_eq_true, decide_eq_true_eq]; omega) l
  have hs' : (l.mergeSort fun x y => decide (x ≤ y)).Pairwise (· ≤ ·) := hs.imp fun h => by simpa using h
  constructor
  · rintro ⟨h1, h2⟩
    exact ⟨fun x hx => h1 x (hp.mem_iff.2 hx), hp.nodup_iff.1 (nodup_of h2)⟩
  · rintro ⟨h1, h2⟩
    exact ⟨fun x hx => h1 x (hp.mem_iff.1 hx), strict_of hs' (hp.nodup_iff.2 h2)⟩

theorem ordOk_sort {n : Nat} {l : List Int} (hl : l.length = n) : SetIn n (l.mergeSort fun x y => decide (x ≤ y)) ↔ OrdOk n l := by
  rw [setIn_sort]
  exact ⟨fun h => ⟨hl, h.1, h.2⟩, fun h => ⟨h.2.1, h.2.2⟩⟩

theorem nodup_snoc {l : List Int} {x : Int} : (l ++ [x]).Nodup ↔ l.Nodup ∧ x ∉ l := by
  rw [List.nodup_append]
  constructor
  · rintro ⟨h1, _, h2⟩
    exact ⟨h1, fun h => h2 x h x (by simp) rfl⟩
  · rintro ⟨h1, h2⟩
    refine ⟨h1, by simp, fun a ha b hb e => ?_⟩
    simp only [List.mem_singleton] at hb
    subst hb; subst e
    exact h2 ha

theorem ordE_sym {g : List (List Int)} (hg : GOk g) {l : List Int} (hl : OrdOk g.length l) : SymE l.length (indE g l) := indE_sym hg hl.2.1

/-- What Renamed returns. -/
def RenS (g : List (List Int)) (l : List Int) (gg : List (List Int)) (ok : Bool) : Prop :=
  (ok = true ∧ GOk g ∧ OrdOk g.length l ∧ gg = indL g l) ∨ (ok = false ∧ gg = [] ∧ ¬ (GOk g ∧ OrdOk g.length l))
theorem renS_det {g gg hh : List (List Int)} {l : List Int} {ok ok' : Bool} (h : RenS g l gg ok) (h' : RenS g l hh ok') : gg = hh ∧ ok = ok' := by
  rcases h with ⟨rfl, h1, h2, rfl⟩ | ⟨rfl, rfl, h⟩ <;> rcases h' with ⟨rfl, h1', h2', rfl⟩ | ⟨rfl, rfl, h'⟩
  · exact ⟨rfl, rfl⟩
  · exact absurd ⟨h1, h2⟩ h'
  · exact absurd ⟨h1', h2'⟩ h
  · exact ⟨rfl, rfl⟩

/-- The edges among listed vertices, in masks. -/
theorem bitE_netL {g : List (List Int)} (hg : GOk g) {l : List Nat} (hl : ∀ v ∈ l, v < g.length) : indL g (natInts l) = matG l.length (bitE (netL g) l) := by
  unfold indL
  rw [natInts_length]
  refine matG_congr fun r j hr hj => ?_
  unfold indE bitE
  have e1 : (natInts l).getD r 0 = ((l[r] : Nat) : Int) := by simp [natInts, hr]
  have e2 : (natInts l).getD j 0 = ((l[j] : Nat) : Int) := by simp [natInts, hj]
  have f1 : l.getD r 0 = l[r] := by simp [hr]
  have f2 : l.getD j 0 = l[j] := by simp [hj]
  rw [e1, e2, f1, f2, Int.toNat_natCast, netL_getD, Bool.eq_iff_iff, decide_eq_true_eq]
  exact (testBit_row hg (hl _ (List.getElem_mem hr)) _).symm

end Go.Proofs.YtmakhapdlkbbnaaDoor

/- Plain: the graph that an elimination along an order fills. -/
namespace Go.Proofs.YtmakhapdlkbbnaaDoor

/-- The later neighbours are made neighbours of each other. -/
def elimE (E : Nat → Nat → Bool) (S : Nat → Bool) : Nat → Nat → Bool := fun r j => E r j || (S r && S j && decide (r ≠ j))
def laterE (E : Nat → Nat → Bool) (l : List Nat) (m : Nat) (v : Nat) : Nat → Bool := fun x => E v x && decide (x ∉ l.take (m + 1))
/-- The edges behind the first m eliminations. -/
def fillP (E : Nat → Nat → Bool) (l : List Nat) : Nat → Nat → Nat → Bool
  | 0 => E
  | m + 1 => elimE (fillP E l m) (laterE (fillP E l m) l m (l.getD m 0))
/-- The later neighbours, as a list. -/
def lateL (n : Nat) (E : Nat → Nat → Bool) (l : List Nat) (m : Nat) : List Nat := (List.range n).filter (laterE (fillP E l m) l m (l.getD m 0))

theorem mem_lateL {n : Nat} {E : Nat → Nat → Bool} {l : List Nat} {m x : Nat} : x ∈ lateL n E l m ↔ x < n ∧ laterE (fillP E l m) l m (l.getD m 0) x = true := by simp [lateL]
theorem lateL_rising (n : Nat) (E : Nat → Nat → Bool) (l : List Nat) (m : Nat) : (lateL n E l m).Pairwise (· < ·) := List.Pairwise.filter _ List.pairwise_lt_range
theorem elim_late {n : Nat} {E : Nat → Nat → Bool} {l : List Nat} {m r j : Nat} (hr : r < n) (hj : j < n) :
    fillP E l (m + 1) r j = (fillP E l m r j || (decide (r ∈ lateL n E l m) && decide (j ∈ lateL n E l m) && decide (r ≠ j))) := by
  show elimE _ _ r j = _
  unfold elimE
  have h1 : laterE (fillP E l m) l m (l.getD m 0) r = decide (r ∈ lateL n E l m) := by rw [Bool.eq_iff_iff]; simp [mem_lateL, hr]
  have h2 : laterE (fillP E l m) l m (l.getD m 0) j = decide (j ∈ lateL n E l m) := by rw [Bool.eq_iff_iff]; simp [mem_lateL, hj]
  rw [h1, h2]

/-- The reference's double loop, in its midst. -/
def cliqE (E : Nat → Nat → Bool) (L : List Nat) (i k : Nat) : Nat → Nat → Bool := fun r j =>
  E r j || decide ((r ≠ j ∧ r ∈ L.take i ∧ j ∈ L.take i) ∨ (r = L.getD i 0 ∧ j ∈ L.take k) ∨ (j = L.getD i 0 ∧ r ∈ L.take k))
theorem getD_nat {L : List Nat} {i : Nat} (h : i < L.length) : L.getD i 0 = L[i] := by simp [h]
theorem take_snoc_mem {L : List Nat} {k x : Nat} (h : k < L.length) : x ∈ L.take (k + 1) ↔ x ∈ L.take k ∨ x = L[k] := by
  rw [List.take_succ_eq_append_getElem h, List.mem_append, List.mem_singleton]
theorem not_mem_take {L : List Nat} (hs : L.Pairwise (· < ·)) {i : Nat} (h : i < L.length) : L[i] ∉ L.take i := by
  intro hm
  obtain ⟨j, hj, e⟩ := List.mem_iff_getElem.1 hm
  rw [List.length_take] at hj
  rw [List.getElem_take] at e
  have := List.pairwise_iff_getElem.1 hs j i (by omega) h (by omega)
  omega
theorem cliq_start (m : Nat) (E : Nat → Nat → Bool) (L : List Nat) : matG m (cliqE E L 0 0) = matG m E := matG_congr fun r j _ _ => by simp [cliqE]
theorem cliq_step {m : Nat} {E : Nat → Nat → Bool} {L : List Nat} (hs : L.Pairwise (· < ·)) (hL : ∀ x ∈ L, x < m) {i k : Nat} (hi : i < L.length) (hk : k < i) :
    linkL (matG m (cliqE E L i k)) L[k] L[i] = matG m (cliqE E L i (k + 1)) := by
  have hlt := List.pairwise_iff_getElem.1 hs k i (by omega) hi hk
  rw [link_matG (hL _ (List.getElem_mem _)) (hL _ (List.getElem_mem _)) (by omega)]
  refine matG_congr fun r j hr hj => ?_
  unfold cliqE
  rw [getD_nat hi, Bool.eq_iff_iff]
  simp only [Bool.or_eq_true, Bool.and_eq_true, beq_iff_eq, decide_eq_true_eq, take_snoc_mem (show k < L.length by omega)]
  constructor
  · rintro (((h | h) | ⟨h1, h2⟩) | ⟨h1, h2⟩)
    · exact .inl h
    · rcases h with h | ⟨h1, h2⟩ | ⟨h1, h2⟩
      · exact .inr (.inl h)
      · exact .inr (.inr (.inl ⟨h1, .inl h2⟩))
      · exact .inr (.inr (.inr ⟨h1, .inl h2⟩))
    · exact .inr (.inr (.inr ⟨h2, .inr h1⟩))
    · exact .inr (.inr (.inl ⟨h1, .inr h2⟩))
  · rintro (h | h | ⟨h1, h2 | h2⟩ | ⟨h1, h2 | h2⟩)
    · exact .inl (.inl (.inl h))
    · exact .inl (.inl (.inr (.inl h)))
    · exact .inl (.inl (.inr (.inr (.inl ⟨h1, h2⟩))))
    · exact .inr ⟨h1, h2⟩
    · exact .inl (.inl (.inr (.inr (.inr ⟨h1, h2⟩))))
    · exact .inl (.inr ⟨h2, h1⟩)
theorem cliq_row {m : Nat} {E : Nat → Nat → Bool} {L : List Nat} (hs : L.Pairwise (· < ·)) {i : Nat} (hi : i < L.length) : matG m (cliqE E L i i) = matG m (cliqE E L (i + 1) 0) := by
  refine matG_congr fun r j hr hj => ?_
  have hn := not_mem_take hs hi
  unfold cliqE
  rw [getD_nat hi, Bool.eq_iff_iff]
  simp only [Bool.or_eq_true, decide_eq_true_eq, take_snoc_mem hi, List.take_zero, List.not_mem_nil, and_false, or_false]
  constructor
  · rintro (h | ⟨h0, h1, h2⟩ | ⟨h1, h2⟩ | ⟨h1, h2⟩)
    · exact .inl h
    · exact .inr ⟨h0, .inl h1, .inl h2⟩
    · exact .inr ⟨fun e => hn (h1 ▸ e ▸ h2), .inr h1, .inl h2⟩
    · exact .inr ⟨fun e => hn (h1 ▸ e ▸ h2), .inl h2, .inr h1⟩
  · rintro (h | ⟨h0, h1 | h1, h2 | h2⟩)
    · exact .inl h
    · exact .inr (.inl ⟨h0, h1, h2⟩)
    · exact .inr (.inr (.inr ⟨h2, h1⟩))
    · exact .inr (.inr (.inl ⟨h1, h2⟩))
    · exact absurd (h1.trans h2.symm) h0
theorem cliq_end {m : Nat} {E : Nat → Nat → Bool} {l : List Nat} {k : Nat} : matG m (cliqE (fillP E l k) (lateL m E l k) (lateL m E l k).length 0) = matG m (fillP E l (k + 1)) := by
  refine matG_congr fun r j hr hj => ?_
  rw [elim_late hr hj]
  unfold cliqE
  rw [Bool.eq_iff_iff]
  simp only [List.take_length, List.take_zero, List.not_mem_nil, and_false, or_false, Bool.or_eq_true, Bool.and_eq_true, decide_eq_true_eq]
  constructor
  · rintro (h | ⟨h0, h1, h2⟩)
    · exact .inl h
    · exact .inr ⟨⟨h1, h2⟩, h0⟩
  · rintro (h | ⟨⟨h1, h2⟩, h0⟩)
    · exact .inl h
    · exact .inr ⟨h0, h1, h2⟩

/-- The program's loop, in its midst. -/
def wingE (E : Nat → Nat → Bool) (L : List Nat) (t : Nat) : Nat → Nat → Bool := fun r j => E r j || decide (r ∈ L.take t ∧ j ∈ L ∧ r ≠ j)
theorem wing_start (m : Nat) (E : Nat → Nat → Bool) (L : List Nat) : indN m (wingE E L 0) = indN m E := indN_congr fun r j _ _ => by simp [wingE]
theorem wing_end {m : Nat} {E : Nat → Nat → Bool} {l : List Nat} {k : Nat} : indN m (wingE (fillP E l k) (lateL m E l k) (lateL m E l k).length) = indN m (fillP E l (k + 1)) := by
  refine indN_congr fun r j hr hj => ?_
  rw [elim_late hr hj]
  unfold wingE
  rw [Bool.eq_iff_iff]
  simp only [List.take_length, Bool.or_eq_true, Bool.and_eq_true, decide_eq_true_eq, and_assoc]
theorem wing_step {m : Nat} (hm : m ≤ 16) {E : Nat → Nat → Bool} {L : List Nat} (hs : L.Pairwise (· < ·)) (hL : ∀ x ∈ L, x < m) {t : Nat} (ht : t < L.length) {s : Nat} (hs16 : s < 65536) (hsL : ∀ j, s.testBit j = decide (j ∈ L)) :
    (indN m (wingE E L t)).set L[t] ((indN m (wingE E L t)).getD L[t] 0 ||| sub s (2 ^ L[t])) = indN m (wingE E L (t + 1)) := by
  have hu := hL _ (List.getElem_mem ht)
  refine natList_ext (by simp [indN_length]) fun r hr => ?_
  rw [List.length_set, indN_length] at hr
  have hl := indN_length m (wingE E L t)
  rw [getD_set _ _ _ _ (by omega)]
  refine Nat.eq_of_testBit_eq fun j => ?_
  by_cases e : r = L[t]
  · subst e
    rw [if_pos rfl, Nat.testBit_or, indN_bit hr, indN_bit hr, testBit_sub _ _ (by omega) (by have := pow_lt32 L[t] (by omega); exact this), hsL, testBit_pow]
    unfold wingE
    rw [Bool.eq_iff_iff]
    simp only [Bool.or_eq_true, Bool.and_eq_true, decide_eq_true_eq, Bool.not_eq_true', decide_eq_false_iff_not, take_snoc_mem ht]
    constructor
    · rintro (⟨h0, h | ⟨h1, h2, h3⟩⟩ | ⟨h1, h2⟩)
      · exact ⟨h0, .inl h⟩
      · exact ⟨h0, .inr ⟨.inl h1, h2, h3⟩⟩
      · exact ⟨hL _ h1, .inr ⟨.inr trivial, h1, h2⟩⟩
    · rintro ⟨h0, h | ⟨_, h2, h3⟩⟩
      · exact .inl ⟨h0, .inl h⟩
      · exact .inr ⟨h2, h3⟩
  · rw [if_neg e, indN_bit hr, indN_bit hr]
    unfold wingE
    congr 2
    rw [Bool.eq_iff_iff]
    simp only [decide_eq_true_eq, take_snoc_mem ht, e, or_false]

/-- A right graph as a matrix. -/
def ofG (g : List (List Int)) : Nat → Nat → Bool := fun r j => decide ((j : Int) ∈ row g r)
theorem matG_ofG {g : List (List Int)} (hg : GOk g) : matG g.length (ofG g) = g := by
  refine graph_ext (matG_length _ _) fun r hr => ?_
  rw [matG_length] at hr
  refine rising_ext_int _ _ (matG_rising hr) (hg.sets r hr).1.2 fun x => ?_
  rw [mem_matG hr]
  constructor
  · rintro ⟨j, rfl, _, h⟩; simpa [ofG] using h
  · intro h
    have := (hg.sets r hr).1.1 x h
    obtain ⟨j, rfl⟩ := Int.eq_ofNat_of_zero_le this.1
    exact ⟨j, rfl, by omega, by simpa [ofG] using h⟩
theorem indN_ofG {g : List (List Int)} (hg : GOk g) : indN g.length (ofG g) = netL g := by
  refine natList_ext (by simp [indN_length, netL]) fun r hr => ?_
  rw [indN_length] at hr
  refine Nat.eq_of_testBit_eq fun j => ?_
  rw [indN_bit hr, netL_getD, Bool.eq_iff_iff, testBit_row hg hr]
  simp only [Bool.and_eq_true, decide_eq_true_eq, ofG]
  exact ⟨fun h => h.2, fun h => ⟨by have := (hg.sets r hr).1.1 _ h; omega, h⟩⟩

/-- What FillOf returns. -/
def FillS (g : List (List Int)) (l : List Int) (gg : List (List Int)) (ok : Bool) : Prop :=
  (ok = true ∧ GOk g ∧ OrdOk g.length l ∧ gg = matG g.length (fillP (ofG g) (l.map Int.toNat) l.length)) ∨ (ok = false ∧ gg = [] ∧ ¬ (GOk g ∧ OrdOk g.length l))
theorem fillS_det {g gg hh : List (List Int)} {l : List Int} {ok ok' : Bool} (h : FillS g l gg ok) (h' : FillS g l hh ok') : gg = hh ∧ ok = ok' := by
  rcases h with ⟨rfl, h1, h2, rfl⟩ | ⟨rfl, rfl, h⟩ <;> rcases h' with ⟨rfl, h1', h2', rfl⟩ | ⟨rfl, rfl, h'⟩
  · exact ⟨rfl, rfl⟩
  · exact absurd ⟨h1, h2⟩ h'
  · exact absurd ⟨h1', h2'⟩ h
  · exact ⟨rfl, rfl⟩

end Go.Proofs.YtmakhapdlkbbnaaDoor
