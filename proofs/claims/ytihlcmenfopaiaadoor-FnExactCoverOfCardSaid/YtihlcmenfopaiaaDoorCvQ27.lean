/- Walks: the closures with which a least cover is sought. -/
import Derived.Test.YtihlcmenfopaiaaDoorCvQ26
namespace Go.Proofs.YtihlcmenfopaiaaDoor
open Go.RowKit

/-- What stands below the call. -/
structure CvBase (w : World) (n : Nat) (S : List (List Int)) (sp : Option Addr) (sc ba : Nat) : Prop where
  h16 : n ≤ 16
  box : Box w ba 78 (.slice sp S.length sc)
  sl : Sl w 76 (.slice sp S.length sc) S.length ((S.map mask).map u32v)
  rng : ∀ j, j < S.length → ∀ x ∈ row S j, 0 ≤ x ∧ x < 16
  few : S.length ≤ 1000000
theorem CvBase.next {w w' : World} {n : Nat} {S : List (List Int)} {sp : Option Addr} {sc ba : Nat} (h : CvBase w n S sp sc ba) (hb : Below w.heap.size w w') : CvBase w' n S sp sc ba :=
  ⟨h.h16, h.box.keep hb, h.sl.below hb, h.rng, h.few⟩

theorem decide_dec_iff {p q : Prop} [Decidable p] (h : p ↔ q) : decide p = dec q := by
  by_cases k : p
  · rw [dec_true (h.1 k)]; simp [k]
  · rw [dec_false (fun c => k (h.2 c))]; simp [k]
def NoJ (S : List (List Int)) (s j : Nat) : Prop := s &&& mask (row S j) = 0
theorem covN_iff {S : List (List Int)} {s : Nat} (hr : ∀ j, j < S.length → ∀ x ∈ row S j, 0 ≤ x ∧ x < 16) : CovN S s ↔ ∀ j, j < S.length → ¬ NoJ S s j := by
  have key : ∀ j, j < S.length → ∀ i : Nat, (mask (row S j)).testBit i = true ↔ (i : Int) ∈ row S j := fun j hj i => by
    rw [testBit_mask, List.any_eq_true]
    constructor
    · rintro ⟨x, hx, e⟩
      have h1 := (hr j hj x hx).1
      have h2 : x.toNat = i := by simpa using e
      have : (i : Int) = x := by omega
      rw [this]; exact hx
    · intro h
      exact ⟨_, h, by simp⟩
  constructor
  · intro h j hj k
    obtain ⟨i, h1, h2⟩ := h j hj
    exact and_zero_iff.1 k i ⟨h1, (key j hj i).2 h2⟩
  · intro h j hj
    have := mt and_zero_iff.2 (h j hj)
    obtain ⟨i, hi⟩ := Classical.not_forall.1 this
    obtain ⟨h1, h2⟩ := Classical.not_not.1 hi
    exact ⟨i, h1, (key j hj i).1 h2⟩

set_option maxRecDepth 100000 in
set_option maxHeartbeats 1000000 in
theorem noJ_any (z : Int) (t s sb : Nat) (hz : z = t) (ht : t < 65536) (hs : s < 65536) (w : World) (hB : Box w sb 76 (.int .u32 (s : Int))) :
    Calls Tryd.prog 111 #[.int .u32 z, .pointer (some ⟨sb, 0, none⟩)] w fun e w' => e = .returned (.bool (dec (s &&& t = 0))) ∧ w = w' := by
  subst hz
  have hc := hB.cell
  have hand := u32_and_nat s t (by omega) (by omega)
  have HD : Hid ((((s &&& t : Nat) : Int) == 0) = dec (s &&& t = 0)) := Lib.hid (by
    by_cases h : s &&& t = 0
    · rw [dec_true h, h]; rfl
    · rw [dec_false h]; simp; exact h)
  generalize (s &&& t : Nat) = st at hand HD
  go_enter Tryd.func111, Tryd.ntmps111
  go_wp2
  go_ret
  exact ⟨ret_bool HD.out, rfl⟩

set_option maxRecDepth 100000 in
set_option maxHeartbeats 2000000 in
theorem indexCov_any (n : Nat) (S : List (List Int)) (sp : Option Addr) (sc ba s sb : Nat) (hs : s < 65536) (w : World) (hC : CvBase w n S sp sc ba) (hB : Box w sb 76 (.int .u32 (s : Int))) :
    Calls Tryd.prog 157 #[.slice sp S.length sc, .func (.func 111) #[] #[.pointer (some ⟨sb, 0, none⟩)]] w fun e w' =>
      ∃ z : Int, e = .returned (.int .i64 z) ∧ (0 ≤ z ↔ ∃ j, j < S.length ∧ NoJ S s j) ∧ w = w' := by
  have HC := Lib.hid hC
  have HB := Lib.hid hB
  have few := hC.few
  clear hC hB
  go_enter Tryd.func157, Tryd.ntmps157
  go_wp2
  go_loopw [8] (fun i wr => ∃ k : Nat, k ≤ S.length ∧ i = .int .i64 k ∧ Hid (∀ j, j < k → ¬ NoJ S s j) ∧ w = wr) (fun i _ => S.length - (intOf i).toNat)
  case atStart => exact ⟨0, Nat.zero_le _, rfl, Lib.hid (fun j hj => absurd hj (Nat.not_lt_zero _)), rfl⟩
  case round =>
    obtain ⟨k, hk, rfl, HNO, rfl⟩ := hrel
    by_cases hlt : k < S.length
    · obtain ⟨m, hm⟩ : ∃ m, m = mask (row S k) := ⟨_, rfl⟩
      have hm16 : m < 65536 := by rw [hm]; exact mask_lt16 _ fun x hx => (HC.out.rng k hlt x hx).2
      have hl2 : (S.map mask).length = S.length := List.length_map ..
      have hsl := HC.out.sl
      rw [← hl2] at hsl
      obtain ⟨qb, qo, rfl, hq⟩ := nets_cell hsl (v := k) (by rw [hl2]; exact hlt)
      have e1 : (S.map mask)[k]'(by rw [hl2]; exact hlt) = m := by rw [hm]; simp [row, hlt]
      rw [e1] at hq
      have HNJ : Hid (dec (s &&& m = 0) = dec (NoJ S s k)) := Lib.hid (by rw [hm]; rfl)
      clear hsl hl2 hm e1
      by_cases hj : NoJ S s k
      · have HJ := Lib.hid hj
        have hd := Lib.hid (dec_true hj)
        clear hj
        go_wp2_with (go_at_call 111; refine (noJ_any _ m s sb rfl hm16 hs _ HB.out).mono ?_; rintro e w2 ⟨he, hw⟩; rw [HNJ.out, hd.out] at he; subst he; subst hw)
        go_ret
        exact ⟨k, rfl, ⟨fun _ => ⟨k, hlt, HJ.out⟩, fun _ => by omega⟩, rfl⟩
      · have HJ := Lib.hid hj
        have hd := Lib.hid (dec_false hj)
        clear hj
        go_wp2_with (go_at_call 111; refine (noJ_any _ m s sb rfl hm16 hs _ HB.out).mono ?_; rintro e w2 ⟨he, hw⟩; rw [HNJ.out, hd.out] at he; subst he; subst hw)
        go_roundw
        case rel => exact ⟨k + 1, by omega, by go_num, Lib.hid (fun j hj => by
          by_cases e : j < k
          · exact HNO.out j e
          · obtain rfl : j = k := by omega
            exact HJ.out), by first | trivial | rfl⟩
        case measure => simp [intOf]; omega
    · obtain rfl : k = S.length := by omega
      go_wp2
      go_ret
      exact ⟨-1, rfl, ⟨fun h => by omega, fun ⟨j, h1, h2⟩ => absurd h2 (HNO.out j h1)⟩, rfl⟩

set_option maxRecDepth 100000 in
set_option maxHeartbeats 1000000 in
theorem containsCov_any (n : Nat) (S : List (List Int)) (sp : Option Addr) (sc ba s sb : Nat) (hs : s < 65536) (w : World) (hC : CvBase w n S sp sc ba) (hB : Box w sb 76 (.int .u32 (s : Int))) :
    Calls Tryd.prog 110 #[.slice sp S.length sc, .func (.func 111) #[] #[.pointer (some ⟨sb, 0, none⟩)]] w fun e w' =>
      e = .returned (.bool (dec (∃ j, j < S.length ∧ NoJ S s j))) ∧ w = w' := by
  have HC := Lib.hid hC
  have HB := Lib.hid hB
  clear hC hB
  go_enter Tryd.func110, Tryd.ntmps110
  go_wp2_with (go_at_call 157; refine (indexCov_any n S sp sc ba s sb hs _ HC.out HB.out).mono ?_; rintro e w2 ⟨z, rfl, hz, rfl⟩; have HZ := Lib.hid hz; clear hz)
  go_ret
  exact ⟨ret_bool (decide_dec_iff HZ.out), rfl⟩

set_option maxRecDepth 100000 in
set_option maxHeartbeats 1000000 in
theorem fitsCov_any (y : Int) (s : Nat) (hy : y = s) (n : Nat) (S : List (List Int)) (sp : Option Addr) (sc ba : Nat) (hs : s < 2 ^ n) (w : World) (h : CvBase w n S sp sc ba) :
    Calls Tryd.prog 109 #[.int .u32 y, .pointer (some ⟨ba, 0, none⟩)] w fun e w' => e = .returned (.bool (dec (CovN S s))) ∧ Below w.heap.size w w' := by
  subst hy
  have hs16 : s < 65536 := (cand_bits h.h16 hs).2
  have hbA := Lib.hid (below_alloc w (.cells #[.int .u32 (s : Int)] 76))
  have HB := Lib.hid (Box.new w (.int .u32 (s : Int)) 76)
  have H := Lib.hid (h.next hbA.out)
  have hbx := H.out.box.cell
  have HD : Hid ((!dec (∃ j, j < S.length ∧ NoJ S s j)) = dec (CovN S s)) := Lib.hid (by
    by_cases k : CovN S s
    · rw [dec_true k, dec_false (fun ⟨j, h1, h2⟩ => (covN_iff h.rng).1 k j h1 h2)]; rfl
    · rw [dec_false k, dec_true (Classical.byContradiction fun c => k ((covN_iff h.rng).2 fun j h1 h2 => c ⟨j, h1, h2⟩))]; rfl)
  obtain ⟨d, hdd⟩ : ∃ d, d = dec (∃ j, j < S.length ∧ NoJ S s j) := ⟨_, rfl⟩
  rw [← hdd] at HD
  have HDD := Lib.hid hdd
  clear h hdd
  go_enter Tryd.func109, Tryd.ntmps109
  go_wp2_with (go_at_call 110; refine (containsCov_any n S sp sc ba s w.heap.size hs16 _ H.out HB.out).mono ?_; rintro e w2 ⟨he, hw⟩; rw [← HDD.out] at he; subst he; subst hw)
  go_ret
  exact ⟨ret_bool HD.out, hbA.out⟩

/-- The call's own variables: the function and what was found. -/
structure CvW (wB : World) (ba : Nat) (z : Int) (w : World) : Prop where
  bel : Below wB.heap.size wB w
  fit : Box w wB.heap.size 130 (.func (.func 109) #[] #[.pointer (some ⟨ba, 0, none⟩)])
  fnd : Box w (wB.heap.size + 1) 76 (.int .u32 z)
theorem CvW.next {wB w w' : World} {ba : Nat} {z : Int} (h : CvW wB ba z w) (hb : Below w.heap.size w w') : CvW wB ba z w' :=
  ⟨h.bel.trans (hb.mono h.bel.size), h.fit.keep hb, h.fnd.keep hb⟩
theorem CvW.set {wB w : World} {ba : Nat} {z : Int} (h : CvW wB ba z w) (y : Int) : CvW wB ba y (w.setCell ⟨wB.heap.size + 1, 0, none⟩ (.int .u32 y)) :=
  ⟨h.bel.setCell (by show wB.heap.size ≤ wB.heap.size + 1; omega) _, h.fit.setOther (by show wB.heap.size ≠ wB.heap.size + 1; omega) _, h.fnd.set _⟩

set_option maxRecDepth 100000 in
set_option maxHeartbeats 1000000 in
theorem eachCov_any (y : Int) (s : Nat) (hy : y = s) (n : Nat) (S : List (List Int)) (sp : Option Addr) (sc ba : Nat) (hs : s < 2 ^ n) (wB w : World) (z : Int) (hB : CvBase wB n S sp sc ba) (hW : CvW wB ba z w) :
    Calls Tryd.prog 156 #[.int .u32 y, .pointer (some ⟨wB.heap.size + 1, 0, none⟩), .pointer (some ⟨wB.heap.size, 0, none⟩)] w fun e w' => e = .returned (.bool (dec (CovN S s))) ∧ CvW wB ba s w' := by
  subst hy
  have c1 := hW.fnd.cell
  have f1 := hW.fnd.free
  have HB := Lib.hid hB
  have HW2 := Lib.hid (hW.set (s : Int))
  have c2 := HW2.out.fit.cell
  have HS := Lib.hid hs
  clear hB hW hs
  go_enter Tryd.func156, Tryd.ntmps156
  go_wp2_with (go_at_call 109; refine (fitsCov_any _ s rfl n S sp sc ba HS.out _ (HB.out.next HW2.out.bel)).mono ?_; rintro e w3 ⟨rfl, hb3⟩)
  go_ret
  exact ⟨rfl, HW2.out.next hb3⟩

end Go.Proofs.YtihlcmenfopaiaaDoor
