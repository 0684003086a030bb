/- Walks: an edge of whatever graph, the program's contraction. -/
import Derived.Test.YtkppbmfliejnmaaDoorLpQ26
import Derived.Test.YtkppbmfliejnmaaDoorLpQ8
import Derived.Test.YtkppbmfliejnmaaDoorLpQ9
import Derived.Test.YtkppbmfliejnmaaDoorLpQ10
import Derived.Test.YtkppbmfliejnmaaDoorLpQ14
import Derived.Test.YtkppbmfliejnmaaDoorLpQ22
import Derived.Deep.RegionHeld3
import Derived.Deep.DeepCutAuto
import Derived.Test.YtkppbmfliejnmaaDoorLpQ13
import Derived.Test.YtkppbmfliejnmaaDoorLpQ24
namespace Go.Proofs.YtkppbmfliejnmaaDoor
open Go.RowKit

/-- y and z are joined in g, which is right. -/
def EdgP (g : List (List Int)) (y z : Int) : Prop := GOk g ∧ (0 ≤ y ∧ y < g.length) ∧ z ∈ row g y.toNat
def VtxP (g : List (List Int)) (y : Int) : Prop := GOk g ∧ 0 ≤ y ∧ y < g.length
theorem EdgP.nat {g : List (List Int)} {y z : Int} (h : EdgP g y z) : ∃ a b : Nat, y = a ∧ z = b ∧ a < g.length ∧ b < g.length ∧ a ≠ b ∧ ofG g a b = true := by
  obtain ⟨hg, ⟨h1, h2⟩, h3⟩ := h
  have h4 := (hg.sets y.toNat (by omega)).1.1 z h3
  have h5 := (hg.sets y.toNat (by omega)).2
  refine ⟨y.toNat, z.toNat, by omega, by omega, by omega, by omega, fun e => h5 ?_, ?_⟩
  · rw [show ((y.toNat : Nat) : Int) = z by omega]; exact h3
  · simp only [ofG, decide_eq_true_eq]
    rw [show ((z.toNat : Nat) : Int) = z by omega]; exact h3

set_option maxRecDepth 100000 in
set_option maxHeartbeats 1000000 in
theorem isVertexC_any (v : Value) (g : List (List Int)) (x : Int) (w : World) (hg : Gr w v g) :
    Calls Tryd.prog 121 #[v, .int .i64 x] w fun e w' => e = .returned (.bool (dec (VtxP g x))) ∧ Below w.heap.size w w' := by
  by_cases hok : GOk g
  · refine (isVertexE_any v g x hok w hg).mono ?_
    rintro e w2 ⟨rfl, hb⟩
    exact ⟨ret_bool (dec_congr ⟨fun h => ⟨hok, h⟩, fun h => h.2⟩), hb⟩
  · have hg0 := hg
    obtain ⟨u, rfl, hr⟩ := hg
    obtain ⟨p, c, rfl, _⟩ := hr.shape
    have hbA := Lib.hid (below_alloc w (.cells #[.slice p g.length c] 29))
    have HG := Lib.hid (hg0.below hbA.out)
    have HD := Lib.hid (dec_false hok)
    have HN := Lib.hid (dec_false (show ¬ VtxP g x from fun h => hok h.1))
    clear hr hg0 hok
    go_enter Tryd.func121, Tryd.ntmps121
    go_wp2_with (go_at_call 87; refine (implGraphOk_any _ g _ HG.out).mono ?_; rintro e w2 ⟨he, hb2⟩; rw [HD.out] at he; subst he)
    go_ret
    exact ⟨ret_bool HN.out.symm, hbA.out.trans (hb2.mono hbA.out.size)⟩

set_option maxRecDepth 100000 in
set_option maxHeartbeats 1000000 in
theorem implEdgeInC_any (v : Value) (g : List (List Int)) (y z : Int) (w : World) (hg : Gr w v g) :
    Calls Tryd.prog 41 #[v, .int .i64 y, .int .i64 z] w fun e w' => e = .returned (.bool (dec (EdgP g y z))) ∧ Below w.heap.size w w' := by
  have hg0 := hg
  obtain ⟨u, rfl, hr⟩ := hg
  obtain ⟨p, c, rfl, _⟩ := hr.shape
  have hbA := Lib.hid (below_alloc w (.cells #[.slice p g.length c] 29))
  have HG := Lib.hid (hg0.below hbA.out)
  have HR := Lib.hid (hr.below hbA.out)
  have BX := Lib.hid (Box.new w (.slice p g.length c) 29)
  by_cases hx : VtxP g y
  · obtain ⟨a, ha⟩ : ∃ a : Nat, y = a := ⟨y.toNat, by have := hx.2; omega⟩
    subst ha
    have hal : a < g.length := by have := hx.2; omega
    have HE : Hid (dec (EdgP g (a : Int) z) = dec (z ∈ row g a)) := Lib.hid (dec_congr (by
      unfold EdgP
      rw [Int.toNat_natCast]
      exact ⟨fun h => h.2.2, fun h => ⟨hx.1, hx.2, h⟩⟩))
    have HX := Lib.hid (dec_true hx)
    obtain ⟨rb, ro, rp, rc, rfl, _, _⟩ := HR.out.get hal
    have HRow : Hid (∀ wz, Below w.heap.size w wz → ∃ rp rc, wz.cell? ⟨rb, ro + a, none⟩ = some (.slice rp (row g a).length rc) ∧ Nums wz 2 .i64 (.slice rp (row g a).length rc) (row g a)) := Lib.hid fun wz hbz => by
      obtain ⟨b', o', rp', rc', e1, h1, h2⟩ := (hr.below hbz).get hal
      cases e1
      exact ⟨rp', rc', h1, h2⟩
    obtain ⟨d, hd⟩ : ∃ d, dec (z ∈ row g a) = d := ⟨_, rfl⟩
    have HD := Lib.hid hd
    clear hr hg0 hx hd
    go_enter Tryd.func41, Tryd.ntmps41
    go_wp2_with (first
      | (go_at_call 122; refine (contains_any _ (row g a) z _ (hrn.below (below_dN (Below.refl _ _) 1))).mono ?_; rintro e w3 ⟨he, hw⟩; rw [HD.out] at he; subst he; subst hw)
      | (go_at_call 122; refine (contains_any _ (row g a) z _ hrn).mono ?_; rintro e w3 ⟨he, hw⟩; rw [HD.out] at he; subst he; subst hw)
      | (go_at_call 121; refine (isVertexC_any _ g (a : Int) _ HG.out).mono ?_; rintro e w2 ⟨he, hb2⟩; rw [HX.out] at he; subst he; have hbx := (BX.out.keep hb2).cell; have hbw := hbA.out.trans (hb2.mono hbA.out.size); obtain ⟨rp2, rc2, hrc, hrn⟩ := HRow.out _ hbw))
    go_ret
    exact ⟨ret_bool (by rw [HE.out, HD.out]), hbw⟩
  · have HX := Lib.hid (dec_false hx)
    have HE := Lib.hid (dec_false (show ¬ EdgP g y z from fun h => hx ⟨h.1, h.2.1⟩))
    clear hr hg0 hx
    go_enter Tryd.func41, Tryd.ntmps41
    go_wp2_with (go_at_call 121; refine (isVertexC_any _ g y _ HG.out).mono ?_; rintro e w2 ⟨he, hb2⟩; rw [HX.out] at he; subst he)
    go_ret
    exact ⟨ret_bool HE.out.symm, hbA.out.trans (hb2.mono hbA.out.size)⟩

set_option maxRecDepth 100000 in
theorem l1ThereC_any (v : Value) (g : List (List Int)) (x : Int) (w : World) (hg : Gr w v g) (hn : g.length ≤ 1000000000) :
    Calls Tryd.prog 108 #[v, .int .i64 x] w fun e w' => e = .returned (.bool (dec (0 ≤ x ∧ x < g.length))) ∧ Below w.heap.size w w' := by
  have hg0 := hg
  obtain ⟨u, rfl, hr⟩ := hg
  obtain ⟨p, c, rfl, _⟩ := hr.shape
  have hbA := Lib.hid (below_alloc w (.cells #[.slice p g.length c] 29))
  have HG := Lib.hid (hg0.below hbA.out)
  clear hr hg0
  go_enter Tryd.func108, Tryd.ntmps108
  go_wp2_with (first
    | (go_at_call 153; refine (l1In_any _ _ _ _).mono ?_; rintro e w3 ⟨rfl, rfl⟩)
    | (go_at_call 132; refine (l1Size_any _ g _ HG.out).mono ?_; rintro e w2 ⟨rfl, hb2⟩))
  go_ret
  exact ⟨ret_bool (dec_congr (by omega)), hbA.out.trans (hb2.mono hbA.out.size)⟩

set_option maxRecDepth 100000 in
set_option maxHeartbeats 2000000 in
theorem specEdgeInC_any (v : Value) (g : List (List Int)) (y z : Int) (w : World) (hg : Gr w v g) :
    Calls Tryd.prog 31 #[v, .int .i64 y, .int .i64 z] w fun e w' => e = .returned (.bool (dec (EdgP g y z))) ∧ Below w.heap.size w w' := by
  have hg0 := hg
  obtain ⟨u, rfl, hr⟩ := hg
  obtain ⟨p, c, rfl, _, _, hn9⟩ := hr.shape
  have hbA := Lib.hid (below_alloc w (.cells #[.slice p g.length c] 29))
  have HG := Lib.hid (hg0.below hbA.out)
  have BX := Lib.hid (Box.new w (.slice p g.length c) 29)
  clear hr hg0
  by_cases hok : GOk g
  case neg =>
    have HD := Lib.hid (dec_false hok)
    have HE := Lib.hid (dec_false (show ¬ EdgP g y z from fun h => hok h.1))
    clear hok
    go_enter Tryd.func31, Tryd.ntmps31
    go_wp2_with (go_at_call 73; refine (specGraphOk_any _ g _ HG.out).mono ?_; rintro e w2 ⟨he, hb2⟩; rw [HD.out] at he; subst he)
    go_ret
    exact ⟨ret_bool HE.out.symm, hbA.out.trans (hb2.mono hbA.out.size)⟩
  have HD := Lib.hid (dec_true hok)
  by_cases hy : 0 ≤ y ∧ y < g.length
  case neg =>
    have HDY := Lib.hid (dec_false hy)
    have HE := Lib.hid (dec_false (show ¬ EdgP g y z from fun h => hy h.2.1))
    clear hok hy
    go_enter Tryd.func31, Tryd.ntmps31
    go_wp2_with (first
      | (go_at_call 73; refine (specGraphOk_any _ g _ HG.out).mono ?_; rintro e w2 ⟨he, hb2⟩; rw [HD.out] at he; subst he; have c2 := (BX.out.keep hb2).cell)
      | (go_at_call 108; refine (l1ThereC_any _ g y _ (HG.out.below hb2) hn9).mono ?_; rintro e w3 ⟨he, hb3⟩; rw [HDY.out] at he; subst he))
    go_ret
    exact ⟨ret_bool HE.out.symm, (hbA.out.trans (hb2.mono hbA.out.size)).trans (hb3.mono (Nat.le_trans hbA.out.size hb2.size))⟩
  obtain ⟨a, ha⟩ : ∃ a : Nat, y = a := ⟨y.toNat, by omega⟩
  subst ha
  have hal : a < g.length := by omega
  have HDY := Lib.hid (dec_true hy)
  by_cases hz : 0 ≤ z ∧ z < g.length
  case neg =>
    have HDZ := Lib.hid (dec_false hz)
    have HE := Lib.hid (dec_false (show ¬ EdgP g (a : Int) z from fun h => hz (by
      have := (hok.sets a hal).1.1 z (by have := h.2.2; rwa [Int.toNat_natCast] at this)
      omega)))
    clear hok hy hz
    go_enter Tryd.func31, Tryd.ntmps31
    go_wp2_with (first
      | (go_at_call 73; refine (specGraphOk_any _ g _ HG.out).mono ?_; rintro e w2 ⟨he, hb2⟩; rw [HD.out] at he; subst he; have c2 := (BX.out.keep hb2).cell)
      | (have X3 := hb3; go_at_call 108; refine (l1ThereC_any _ g z _ ((HG.out.below hb2).below X3) hn9).mono ?_; rintro e w4 ⟨he, hb4⟩; rw [HDZ.out] at he; subst he)
      | (go_at_call 108; refine (l1ThereC_any _ g (a : Int) _ (HG.out.below hb2) hn9).mono ?_; rintro e w3 ⟨he, hb3⟩; rw [HDY.out] at he; subst he; have c3 := hb3.at' c2))
    go_ret
    exact ⟨ret_bool HE.out.symm, ((hbA.out.trans (hb2.mono hbA.out.size)).trans (hb3.mono (Nat.le_trans hbA.out.size hb2.size))).trans (hb4.mono (Nat.le_trans (Nat.le_trans hbA.out.size hb2.size) hb3.size))⟩
  obtain ⟨b, hb⟩ : ∃ b : Nat, z = b := ⟨z.toNat, by omega⟩
  subst hb
  have HDZ := Lib.hid (dec_true hz)
  have HE : Hid (dec (EdgP g (a : Int) (b : Int)) = dec ((b : Int) ∈ row g a)) := Lib.hid (dec_congr (by
    unfold EdgP
    rw [Int.toNat_natCast]
    exact ⟨fun h => h.2.2, fun h => ⟨hok, hy, h⟩⟩))
  obtain ⟨d, hd⟩ : ∃ d, dec ((b : Int) ∈ row g a) = d := ⟨_, rfl⟩
  have HDD := Lib.hid hd
  clear hok hy hz hd
  go_enter Tryd.func31, Tryd.ntmps31
  go_wp2_with (first
    | (go_at_call 73; refine (specGraphOk_any _ g _ HG.out).mono ?_; rintro e w2 ⟨he, hb2⟩; rw [HD.out] at he; subst he; have c2 := (BX.out.keep hb2).cell)
    | (have X3 := hb3; go_at_call 108; refine (l1ThereC_any _ g (b : Int) _ ((HG.out.below hb2).below X3) hn9).mono ?_; rintro e w4 ⟨he, hb4⟩; rw [HDZ.out] at he; subst he; have c4 := hb4.at' c3)
    | (go_at_call 108; refine (l1ThereC_any _ g (a : Int) _ (HG.out.below hb2) hn9).mono ?_; rintro e w3 ⟨he, hb3⟩; rw [HDY.out] at he; subst he; have c3 := hb3.at' c2)
    | (go_at_call 109; refine (l1Edge_any _ g _ _ a b rfl rfl hal _ (((HG.out.below hb2).below hb3).below hb4)).mono ?_; rintro e w5 ⟨he, hb5⟩; rw [HDD.out] at he; subst he))
  go_ret
  exact ⟨ret_bool (by rw [HE.out, HDD.out]), (((hbA.out.trans (hb2.mono hbA.out.size)).trans (hb3.mono (Nat.le_trans hbA.out.size hb2.size))).trans (hb4.mono (Nat.le_trans (Nat.le_trans hbA.out.size hb2.size) hb3.size))).trans (hb5.mono (Nat.le_trans (Nat.le_trans (Nat.le_trans hbA.out.size hb2.size) hb3.size) hb4.size))⟩

end Go.Proofs.YtkppbmfliejnmaaDoor

/- Plain: the greatest cliques, in the order in which both find them. -/
namespace Go.Proofs.YtkppbmfliejnmaaDoor

/-- What is found with a set, those that are left, and those that may not come. -/
def clF (E : Nat → Nat → Bool) : Nat → List Nat → List Nat → List Nat → List (List Nat)
  | 0, _, _, _ => []
  | k + 1, set, left, out => if left = [] ∧ out = [] then [set] else
    (List.range left.length).flatMap fun i => clF E k (set ++ [left.getD i 0]) ((left.drop (i + 1)).filter (E (left.getD i 0))) ((out ++ left.take i).filter (E (left.getD i 0)))
def clTo (E : Nat → Nat → Bool) (k : Nat) (set left out : List Nat) (m : Nat) : List (List Nat) :=
  (List.range m).flatMap fun i => clF E k (set ++ [left.getD i 0]) ((left.drop (i + 1)).filter (E (left.getD i 0))) ((out ++ left.take i).filter (E (left.getD i 0)))
theorem clTo_zero (E : Nat → Nat → Bool) (k : Nat) (set left out : List Nat) : clTo E k set left out 0 = [] := rfl
theorem clTo_succ (E : Nat → Nat → Bool) (k : Nat) (set left out : List Nat) (m : Nat) :
    clTo E k set left out (m + 1) = clTo E k set left out m ++ clF E k (set ++ [left.getD m 0]) ((left.drop (m + 1)).filter (E (left.getD m 0))) ((out ++ left.take m).filter (E (left.getD m 0))) := by
  simp [clTo, List.range_succ, List.flatMap_append]
theorem clF_one (E : Nat → Nat → Bool) (k : Nat) (set : List Nat) : clF E (k + 1) set [] [] = [set] := by simp [clF]
theorem clF_none (E : Nat → Nat → Bool) (k : Nat) (set out : List Nat) (h : out ≠ []) : clF E (k + 1) set [] out = [] := by simp [clF, h]
theorem clF_more (E : Nat → Nat → Bool) (k : Nat) (set left out : List Nat) (h : ¬ (left = [] ∧ out = [])) : clF E (k + 1) set left out = clTo E k set left out left.length := by
  rw [clF, if_neg h]
  rfl

theorem clF_len (E : Nat → Nat → Bool) : ∀ (k : Nat) (set left out : List Nat), (clF E k set left out).length ≤ 2 ^ left.length
  | 0, _, _, _ => Nat.zero_le _
  | k + 1, set, left, out => by
    by_cases h : left = [] ∧ out = []
    · obtain ⟨rfl, rfl⟩ := h
      rw [clF_one]
      exact Nat.le_refl _
    · rw [clF_more E k set left out h]
      have main : ∀ i, i ≤ left.length → (clTo E k set left out i).length + 2 ^ (left.length - i) ≤ 2 ^ left.length := by
        intro i
        induction i with
        | zero => intro _; rw [clTo_zero]; simp
        | succ i ih =>
          intro hi
          have h1 := ih (by omega)
          have h2 := clF_len E k (set ++ [left.getD i 0]) ((left.drop (i + 1)).filter (E (left.getD i 0))) ((out ++ left.take i).filter (E (left.getD i 0)))
          have h3 : ((left.drop (i + 1)).filter (E (left.getD i 0))).length ≤ left.length - (i + 1) := Nat.le_trans (List.length_filter_le _ _) (by rw [List.length_drop]; omega)
          have h4 := Nat.pow_le_pow_right (show 0 < 2 by decide) h3
          have h5 : 2 ^ (left.length - i) = 2 ^ (left.length - (i + 1)) * 2 := by
            rw [show left.length - i = left.length - (i + 1) + 1 by omega, Nat.pow_succ]
          rw [clTo_succ, List.length_append]
          omega
      exact Nat.le_trans (Nat.le_add_right _ _) (main left.length (Nat.le_refl _))
theorem clTo_len {E : Nat → Nat → Bool} {k : Nat} {set left out : List Nat} : ∀ {i : Nat}, i ≤ left.length → (clTo E k set left out i).length + 2 ^ (left.length - i) ≤ 2 ^ left.length
  | 0, _ => by rw [clTo_zero]; simp
  | i + 1, hi => by
    have h1 := clTo_len (E := E) (k := k) (set := set) (left := left) (out := out) (i := i) (by omega)
    have h2 := clF_len E k (set ++ [left.getD i 0]) ((left.drop (i + 1)).filter (E (left.getD i 0))) ((out ++ left.take i).filter (E (left.getD i 0)))
    have h3 : ((left.drop (i + 1)).filter (E (left.getD i 0))).length ≤ left.length - (i + 1) := Nat.le_trans (List.length_filter_le _ _) (by rw [List.length_drop]; omega)
    have h4 := Nat.pow_le_pow_right (show 0 < 2 by decide) h3
    have h5 : 2 ^ (left.length - i) = 2 ^ (left.length - (i + 1)) * 2 := by
      rw [show left.length - i = left.length - (i + 1) + 1 by omega, Nat.pow_succ]
    rw [clTo_succ, List.length_append]
    omega

theorem lexL_app : ∀ (s a b : List Nat), lexL (s ++ a) (s ++ b) ↔ lexL a b
  | [], _, _ => Iff.rfl
  | x :: s, a, b => by
    simp only [List.cons_append, lexL]
    rw [lexL_app s a b]
    exact ⟨fun h => h.elim (fun h => absurd h (Nat.lt_irrefl _)) fun h => h.2, fun h => .inr ⟨trivial, h⟩⟩

/-- Each goes on from the set by some that are left, in their order. -/
theorem clF_mem (E : Nat → Nat → Bool) : ∀ (k : Nat) (set left out : List Nat), left.Pairwise (· < ·) → ∀ x ∈ clF E k set left out, ∃ T, x = set ++ T ∧ T.Pairwise (· < ·) ∧ ∀ y ∈ T, y ∈ left
  | 0, _, _, _, _, _, h => by simp [clF] at h
  | k + 1, set, left, out, hr, x, h => by
    by_cases hh : left = [] ∧ out = []
    · obtain ⟨rfl, rfl⟩ := hh
      rw [clF_one] at h
      obtain rfl : x = set := by simpa using h
      exact ⟨[], by simp, by simp, by simp⟩
    · rw [clF_more E k set left out hh, clTo, List.mem_flatMap] at h
      obtain ⟨i, hi, h⟩ := h
      rw [List.mem_range] at hi
      have hg : left.getD i 0 = left[i] := by simp [hi]
      rw [hg] at h
      obtain ⟨T, rfl, h1, h2⟩ := clF_mem E k _ _ _ ((hr.sublist (List.drop_sublist _ _)).filter _) x h
      refine ⟨left[i] :: T, by simp, List.pairwise_cons.2 ⟨fun y hy => ?_, h1⟩, fun y hy => ?_⟩
      · have hm := (List.mem_filter.1 (h2 y hy)).1
        obtain ⟨j, hj, rfl⟩ := List.getElem_of_mem hm
        rw [List.length_drop] at hj
        rw [List.getElem_drop]
        exact List.pairwise_iff_getElem.1 hr i (i + 1 + j) hi (by omega) (by omega)
      · rcases List.mem_cons.1 hy with rfl | hy
        · exact List.getElem_mem hi
        · exact List.mem_of_mem_drop (List.mem_filter.1 (h2 y hy)).1
theorem clF_sorted (E : Nat → Nat → Bool) : ∀ (k : Nat) (set left out : List Nat), left.Pairwise (· < ·) → (clF E k set left out).Pairwise lexL
  | 0, _, _, _, _ => by simp [clF]
  | k + 1, set, left, out, hr => by
    by_cases hh : left = [] ∧ out = []
    · obtain ⟨rfl, rfl⟩ := hh
      rw [clF_one]
      simp
    · rw [clF_more E k set left out hh, clTo, List.pairwise_flatMap]
      refine ⟨fun i hi => clF_sorted E k _ _ _ ((hr.sublist (List.drop_sublist _ _)).filter _), ?_⟩
      refine List.Pairwise.imp_of_mem (fun {i j} hi hj hij x hx y hy => ?_) List.pairwise_lt_range
      rw [List.mem_range] at hi hj
      obtain ⟨T, rfl, _⟩ := clF_mem E k _ _ _ ((hr.sublist (List.drop_sublist _ _)).filter _) x hx
      obtain ⟨U, rfl, _⟩ := clF_mem E k _ _ _ ((hr.sublist (List.drop_sublist _ _)).filter _) y hy
      have h1 : left.getD i 0 = left[i] := by simp [hi]
      have h2 : left.getD j 0 = left[j] := by simp [hj]
      rw [List.append_assoc, List.append_assoc, lexL_app, h1, h2]
      exact .inl (List.pairwise_iff_getElem.1 hr i j hi hj hij)

/-- What CliquesOf finds. -/
def clsP (n : Nat) (E : Nat → Nat → Bool) : List (List Nat) := clF E (n + 1) [] (List.range n) []
theorem clsP_len (n : Nat) (E : Nat → Nat → Bool) : (clsP n E).length ≤ 2 ^ n := by
  have := clF_len E (n + 1) [] (List.range n) []
  rwa [List.length_range] at this
theorem clsP_mem {n : Nat} {E : Nat → Nat → Bool} {x : List Nat} (h : x ∈ clsP n E) : x.Pairwise (· < ·) ∧ ∀ y ∈ x, y < n := by
  obtain ⟨T, rfl, h1, h2⟩ := clF_mem E _ _ _ _ List.pairwise_lt_range x h
  exact ⟨by simpa using h1, fun y hy => List.mem_range.1 (h2 y (by simpa using hy))⟩
theorem clsP_sorted (n : Nat) (E : Nat → Nat → Bool) : (clsP n E).Pairwise lexL := clF_sorted E _ _ _ _ List.pairwise_lt_range

/-- -1, 0, 1: how two lists stand to each other. -/
noncomputable def cmpL (a b : List Nat) : Int := open Classical in if lexL a b then -1 else if lexL b a then 1 else 0
theorem cmpL_lt {a b : List Nat} : cmpL a b < 0 ↔ lexL a b := by
  unfold cmpL
  by_cases h : lexL a b
  · rw [if_pos h]; exact ⟨fun _ => h, fun _ => by decide⟩
  · rw [if_neg h]
    refine ⟨fun k => ?_, fun k => absurd k h⟩
    split at k <;> exact absurd k (by decide)

/-- A sorted arrangement of what was sorted strictly is the same. -/
theorem sorted_same {α : Type} (lt : α → α → Prop) (hirr : ∀ x, ¬ lt x x) (htr : ∀ {x y z}, lt x y → lt y z → lt x z) : ∀ (l m : List α), l.Perm m → l.Pairwise lt → m.Pairwise (fun x y => ¬ lt y x) → l = m
  | [], m, hp, _, _ => (List.Perm.nil_eq hp)
  | a :: l, [], hp, _, _ => absurd hp.length_eq (by simp)
  | a :: l, b :: m, hp, hl, hm => by
    have hab : a = b := by
      have h1 : b ∈ a :: l := hp.mem_iff.2 (by simp)
      have h2 : a ∈ b :: m := hp.mem_iff.1 (by simp)
      rcases List.mem_cons.1 h1 with h | h1
      · exact h.symm
      · rcases List.mem_cons.1 h2 with h | h2
        · exact h
        · exact absurd ((List.pairwise_cons.1 hl).1 b h1) ((List.pairwise_cons.1 hm).1 a h2)
    subst hab
    rw [sorted_same lt hirr htr l m hp.cons_inv hl.of_cons hm.of_cons]

end Go.Proofs.YtkppbmfliejnmaaDoor

/- Walks: l8Meet, l1All (the reference's cliques). -/
namespace Go.Proofs.YtkppbmfliejnmaaDoor
open Go.RowKit

set_option maxRecDepth 100000 in
set_option maxHeartbeats 1000000 in
theorem l1All_any (z : Int) (n : Nat) (hz : z = n) (hn : n ≤ 1000) (w : World) :
    Calls Tryd.prog 143 #[.int .i64 z] w fun e w' => ∃ ov, e = .returned ov ∧ w'.ownsRow w.heap.size 2 1 ov n ((natInts (List.range n)).map (Value.int .i64)) ∧ Below w.heap.size w w' := by
  subst hz
  have HO := Lib.hid (ownsRow_empty w 2 1)
  have HB := Lib.hid (below_alloc w (.cells #[] 2))
  go_enter Tryd.func143, Tryd.ntmps143
  go_wp2
  go_loopw [3, 4] (fun o i wr => ∃ k : Nat, k ≤ n ∧ i = .int .i64 k ∧ wr.ownsRow w.heap.size 2 1 o k ((natInts (List.range k)).map (Value.int .i64)) ∧ Below w.heap.size w wr) (fun _ i _ => n - (intOf i).toNat)
  case atStart => exact ⟨0, Nat.zero_le _, rfl, HO.out, HB.out⟩
  case round =>
    obtain ⟨k, hk, rfl, hown, hbel⟩ := hrel
    have hsz := hbel.size
    by_cases hlt : k < n
    · go_wp2_with (at_builtin; refine wpList_app1 ty_i64 rfl rfl rfl hown rfl rfl (by omega) (by omega) ?_; intro v' w1 hown' hg _)
      go_roundw
      case rel => exact ⟨k + 1, by omega, by go_num, by rw [List.range_succ, show natInts (List.range k ++ [k]) = natInts (List.range k) ++ [(k : Int)] by simp [natInts], List.map_append]; exact hown', below_grown hbel hown hg (Nat.le_refl _) hsz⟩
      case measure => simp [intOf]; omega
    · obtain rfl : k = n := by omega
      go_wp2
      go_ret
      exact ⟨_, rfl, hown, hbel⟩

theorem nums_at {w : World} {E : TypeId} {p : Option Addr} {m c : Nat} {xs : List Int} (h : Nums w E .i64 (.slice p m c) xs) : At w E p (xs.map (Value.int .i64)) := by
  obtain ⟨p', c', e, _, _, _, hat⟩ := h
  simp only [Value.slice.injEq] at e
  obtain ⟨rfl, _, _⟩ := e
  exact hat
/-- Those of xs that are in ys, up to the k-th. -/
def meetL (xs : List Nat) (ys : List Int) (k : Nat) : List Nat := (xs.take k).filter fun j => decide ((j : Int) ∈ ys)
theorem meetL_succ {xs : List Nat} {ys : List Int} {k : Nat} (h : k < xs.length) : meetL xs ys (k + 1) = if ((xs[k] : Nat) : Int) ∈ ys then meetL xs ys k ++ [xs[k]] else meetL xs ys k := by
  unfold meetL
  rw [take_snoc _ k h, List.filter_append]
  by_cases hm : ((xs[k] : Nat) : Int) ∈ ys
  · rw [if_pos hm]; simp [hm]
  · rw [if_neg hm]; simp [hm]
theorem meetL_len (xs : List Nat) (ys : List Int) (k : Nat) : (meetL xs ys k).length ≤ xs.length := Nat.le_trans (List.length_filter_le _ _) (by rw [List.length_take]; omega)

end Go.Proofs.YtkppbmfliejnmaaDoor

/- Walks: the reference's path from a vertex to another. -/
namespace Go.Proofs.YtkppbmfliejnmaaDoor
open Go.RowKit

/-- A way down the distances, so far. -/
structure DnI (g : List (List Int)) (F : List Int) (s cur : Nat) (pre : List Nat) : Prop where
  own : cur ∈ pre
  inn : ∀ x ∈ pre, x < g.length
  rch : Rch (ofG g) (· ∈ pre) s cur
  pos : 0 ≤ F.getD cur 0
  len : pre.length + (F.getD cur 0).toNat ≤ 17
theorem DnI.add {g : List (List Int)} {F : List Int} {s cur y : Nat} {pre : List Nat} (h : DnI g F s cur pre) (hE : ofG g cur y = true) (hy : y < g.length) (hF : F.getD y 0 = F.getD cur 0 - 1) (h0 : 0 < F.getD cur 0) : DnI g F s y (pre ++ [y]) where
  own := by simp
  inn := fun x hx => by
    rcases List.mem_append.1 hx with h1 | h1
    · exact h.inn x h1
    · rw [List.mem_singleton] at h1; omega
  rch := .step (rch_mono (fun x hx => List.mem_append_left _ hx) _ h.rch) hE (by simp)
  pos := by omega
  len := by
    have := h.len
    rw [List.length_append, List.length_singleton, hF]
    omega

set_option maxRecDepth 100000 in
set_option maxHeartbeats 4000000 in
theorem l3Down_any (v fv : Value) (z : Int) (g : List (List Int)) (F : List Int) (M : List Nat) (s t : Nat) (hz : z = s) (hok : GOk g) (hF : Bf (ofG g) (List.range g.length) g.length t F M) (hs : s < g.length) (h0 : 0 ≤ F.getD s 0) (w : World) (hg : Gr w v g) (hn : Nums w 2 .i64 fv F) :
    Calls Tryd.prog 167 #[v, fv, .int .i64 z] w fun e w' => ∃ (ov : Value) (way : List Nat), e = .returned ov ∧ Nums w' 2 .i64 ov (natInts way) ∧ (∀ x ∈ way, x < g.length) ∧ Rch (ofG g) (· ∈ way) s t ∧ way.length ≤ 17 ∧ Below w.heap.size w w' := by
  subst hz
  have h16 := hok.le
  obtain ⟨gu, rfl, hr⟩ := hg
  obtain ⟨gp, gc, rfl, _⟩ := hr.shape
  obtain ⟨fp, fc, rfl, _⟩ := id hn.shape
  have hFl := hF.len
  rw [hFl] at hn ⊢
  obtain ⟨W0, hW0⟩ : ∃ W0, W0 = w.alloc (.cells #[.slice gp g.length gc] 29) := ⟨_, rfl⟩
  have HB0 : Hid (Below w.heap.size w W0) := Lib.hid (by rw [hW0]; exact below_alloc _ _)
  have HBG : Hid (Box W0 w.heap.size 29 (.slice gp g.length gc)) := Lib.hid (by rw [hW0]; exact Box.new _ _ _)
  have HGR := Lib.hid (hr.below HB0.out)
  have HN := Lib.hid (hn.below HB0.out)
  have HFL := Lib.hid hFl
  have HSTP : Hid (∀ x, x < g.length → 0 < F.getD x 0 → ∃ y, y < g.length ∧ ofG g x y = true ∧ F.getD y 0 = F.getD x 0 - 1) := Lib.hid (fun x hx h => by
    obtain ⟨y, h1, h2, h3⟩ := hF.stp x hx h
    exact ⟨y, h1, ofG_sym hok _ _ h2, by omega⟩)
  have HZER := Lib.hid hF.zer
  have HBND : Hid (∀ x, x < g.length → F.getD x 0 < 17) := Lib.hid (fun x hx => by
    have := (hF.bnd x hx).2
    have := hF.le
    omega)
  have hrow : Hid (∀ j, j < g.length → ∃ R : List Nat, row g j = natInts R ∧ (∀ y ∈ R, y < g.length) ∧ R.length ≤ 16) := Lib.hid (fun j hj => by
    obtain ⟨h1, h2, h3⟩ := setIn_nats (hok.sets j hj).1
    refine ⟨(row g j).map Int.toNat, h1.symm, h3, ?_⟩
    have := setIn_length (by omega) (hok.sets j hj).1
    rw [List.length_map]; omega)
  have HI0 : Hid (DnI g F s s [s]) := Lib.hid ⟨by simp, fun x hx => by rw [List.mem_singleton] at hx; omega, .base, h0, by have := HBND.out s hs; show 1 + (F.getD s 0).toNat ≤ 17; omega⟩
  have START : Hid ((W0.alloc (.cells #[.int .i64 (s : Int)] 2)).ownsRow W0.heap.size 2 1 (.slice (some ⟨W0.heap.size, 0, none⟩) 1 1) 1 [.int .i64 (s : Int)]) := Lib.hid (World.ownsRow_lit (base := W0.heap.size) (e := 2) (size := 1) W0 #[.int .i64 (s : Int)] 1 (Nat.le_refl _) (by decide) rfl)
  clear hr hn hF hok hFl h0
  go_enter Tryd.func167, Tryd.ntmps167
  go_upto_region 1 with fail
  rw [← hW0]
  clear hW0
  go_wp2_with fail
  go_loopw [2, 7, 8, 9] (fun uv ov _ _ wr => ∃ (cur : Nat) (pre : List Nat), uv = .int .i64 (cur : Int) ∧ cur < g.length ∧ Hid (DnI g F s cur pre) ∧ wr.ownsRow W0.heap.size 2 1 ov pre.length ((natInts pre).map (Value.int .i64)) ∧ Below W0.heap.size W0 wr) (fun uv _ _ _ _ => (F.getD (intOf uv).toNat 0).toNat)
  case atStart => exact ⟨s, [s], rfl, hs, HI0, START.out, below_alloc _ _⟩
  case round =>
    clear START HI0
    obtain ⟨cur, pre, rfl, hcur, HI, ho, hb⟩ := hrel
    have HO := Lib.hid ho
    have HB := Lib.hid hb
    obtain ⟨fb, fo, hfp, hcc⟩ := (HN.out.below hb).get (k := cur) (by rw [HFL.out]; exact hcur)
    subst hfp
    have HFY : Hid (∀ y, y < g.length → wr.cell? ⟨fb, fo + y, none⟩ = some (.int .i64 (F.getD y 0))) := Lib.hid (fun y hy => by
      obtain ⟨b', o', e1, h1⟩ := (HN.out.below hb).get (k := y) (by rw [HFL.out]; exact hy)
      cases e1
      rw [h1, List.getD_eq_getElem?_getD, List.getElem?_eq_getElem (by rw [HFL.out]; exact hy)]
      rfl)
    replace hcc := HFY.out cur hcur
    have hpre : pre.length ≤ 17 := by have := HI.out.len; omega
    have hbd := HBND.out cur hcur
    have hps := HI.out.pos
    have HST := Lib.hid (HSTP.out cur hcur)
    have HZ := Lib.hid (HZER.out cur hcur)
    have HADD := Lib.hid (fun (y : Nat) => HI.out.add (y := y))
    obtain ⟨fx, hfx⟩ : ∃ fx, fx = F.getD cur 0 := ⟨_, rfl⟩
    rw [← hfx] at hcc hbd hps HST HZ HADD
    have HFX := Lib.hid hfx
    clear ho hb hfx
    by_cases hpos : 0 < fx
    · have hgt : (fx > 0) := hpos
      obtain ⟨R, hR, hRn, hR16⟩ := hrow.out cur hcur
      obtain ⟨gb, go, rp, rc, hgp, hce0, hne0⟩ := HGR.out.get (k := cur) hcur
      subst hgp
      have hce0 : W0.cell? ⟨gb, go + cur, none⟩ = some (.slice rp (row g cur).length rc) := hce0
      have hne0 : Nums W0 2 .i64 (.slice rp (row g cur).length rc) (row g cur) := hne0
      rw [hR, natInts_length] at hce0 hne0
      have hce := HB.out.at' hce0
      have hcg := (HBG.out.keep HB.out).cell
      have HNR := Lib.hid hne0
      have HRN := Lib.hid hRn
      have HR := Lib.hid hR
      obtain ⟨fd, hfd⟩ : ∃ fd, fd = fx - 1 := ⟨_, rfl⟩
      have hwr : IntKind.i64.wrap (fx - 1) = fd := by rw [IntKind.wrap_i64]; omega
      have HFD := Lib.hid hfd
      obtain ⟨wo, hwo⟩ : ∃ wo, wo = wr := ⟨_, rfl⟩
      clear hne0 hce0 hRn hR hfd
      go_wp2_with fail
      clear hce hcg
      rw [← hwo] at HO HB HFY hcc ⊢
      go_loopw [2, 9] (fun uv kv wx => ∃ k : Nat, k ≤ R.length ∧ uv = .int .i64 (cur : Int) ∧ kv = .int .i64 (k : Int) ∧ Hid (∀ j, j < k → F.getD (R.getD j 0) 0 ≠ fd) ∧ Below wo.heap.size wo wx) (fun _ kv _ => R.length - (intOf kv).toNat)
      case atStart => exact ⟨0, Nat.zero_le _, rfl, rfl, Lib.hid (fun j hj => absurd hj (Nat.not_lt_zero _)), Below.refl _ _⟩
      case round =>
        obtain ⟨k, hk, rfl, rfl, HNO, hbx⟩ := hrel
        have HBX := Lib.hid hbx
        have hcc2 := hbx.at' hcc
        by_cases hlt : k < R.length
        · obtain ⟨y, hy⟩ : ∃ y, y = R[k] := ⟨_, rfl⟩
          have hyn : y < g.length := by rw [hy]; exact HRN.out _ (List.getElem_mem hlt)
          have HE : Hid (ofG g cur y = true) := Lib.hid (by
            unfold ofG
            rw [decide_eq_true_eq, HR.out, hy]
            exact mem_natInts.2 ⟨_, List.getElem_mem hlt, rfl⟩)
          have HYK : Hid (R.getD k 0 = y) := Lib.hid (by rw [hy]; simp [hlt])
          obtain ⟨qb, qo, hqp, hq⟩ := ((HNR.out.below HB.out).below hbx).get (k := k) (by rw [natInts_length]; exact hlt)
          subst hqp
          rw [natInts_atC hlt, ← hy] at hq
          have hcy := hbx.at' (HFY.out y hyn)
          obtain ⟨fy, hfy⟩ : ∃ fy, fy = F.getD y 0 := ⟨_, rfl⟩
          rw [← hfy] at hcy
          have HFYE := Lib.hid hfy
          have e3 : (k : Int) < (R.length : Int) := by omega
          have e4 : (y : Int) < (g.length : Int) := by omega
          have e5 : (cur : Int) < (g.length : Int) := by omega
          clear hy hbx hfy
          by_cases hyd : fy = fd
          · have hdd : (fy == fd) = true := by simp [hyd]
            have HYD := Lib.hid hyd
            clear hyd
            go_upto_region 7 with fail
            go_cut [40] (fun s wy => s = .bool true ∧ Below wr.heap.size wr wy)
            case first =>
              go_region_held3 (fun w' => w'.cell? ⟨qb, qo + k, none⟩ = some (.int .i64 (y : Int)) ∧ w'.cell? ⟨fb, fo + y, none⟩ = some (.int .i64 fy) ∧ w'.cell? ⟨fb, fo + cur, none⟩ = some (.int .i64 fx))
                (first | exact ⟨hq, hcy, hcc2⟩ | go_keep)
                (first | (fail))
              all_goals go_wp2
              all_goals go_meet
              all_goals exact ⟨rfl, below_dN (Below.refl _ _) 1⟩
            case rest =>
            obtain ⟨rfl, hb7⟩ := hcut
            rename_i wy
            have hq2 := hb7.at' hq
            have HBY := Lib.hid (HB.out.trans ((HBX.out.trans (hb7.mono HBX.out.size)).mono HB.out.size))
            have hown := ownsRow_below HO.out (HBX.out.trans (hb7.mono HBX.out.size))
            have hsz := HBY.out.size
            clear hq hcy hcc2 hb7 hcc
            go_wp2_with (at_builtin; refine wpList_app1 ty_i64 rfl rfl rfl hown rfl rfl (by omega) hsz ?_; intro v' wz hown' hgz _)
            go_roundw
            case rel => exact ⟨y, pre ++ [y], rfl, hyn, Lib.hid (HADD.out y HE.out hyn (by have h1 := HYD.out; have h2 := HFD.out; have h3 := HFYE.out; omega) hpos), by rw [List.length_append]; simpa [natInts] using hown', below_grown HBY.out hown hgz (Nat.le_refl _) hsz⟩
            case measure =>
              have h1 := HYD.out
              have h2 := HFD.out
              have h3 := HFYE.out
              have h4 := HFX.out
              simp only [intOf, Int.toNat_natCast]
              omega
          · have hdd : (fy == fd) = false := beq_eq_false_iff_ne.2 hyd
            have HNX : Hid (∀ j, j < k + 1 → F.getD (R.getD j 0) 0 ≠ fd) := Lib.hid (fun j hj => by
              by_cases e : j < k
              · exact HNO.out j e
              · rw [show j = k by omega, HYK.out, ← HFYE.out]; exact hyd)
            clear hyd
            go_upto_region 7 with fail
            go_cut [40] (fun s wy => s = .bool false ∧ Below wr.heap.size wr wy)
            case first =>
              go_region_held3 (fun w' => w'.cell? ⟨qb, qo + k, none⟩ = some (.int .i64 (y : Int)) ∧ w'.cell? ⟨fb, fo + y, none⟩ = some (.int .i64 fy) ∧ w'.cell? ⟨fb, fo + cur, none⟩ = some (.int .i64 fx))
                (first | exact ⟨hq, hcy, hcc2⟩ | go_keep)
                (first | (fail))
              all_goals go_wp2
              all_goals go_meet
              all_goals exact ⟨rfl, below_dN (Below.refl _ _) 1⟩
            case rest =>
            obtain ⟨rfl, hb7⟩ := hcut
            go_wp2_with fail
            go_roundw
            case rel => exact ⟨k + 1, by omega, rfl, by go_num, HNX, HBX.out.trans (hb7.mono HBX.out.size)⟩
            case measure => simp [intOf]; omega
        · exfalso
          obtain rfl : k = R.length := by omega
          obtain ⟨y, h1, h2, h3⟩ := HST.out hpos
          have h4 : y ∈ R := by
            unfold ofG at h2
            rw [decide_eq_true_eq, HR.out] at h2
            obtain ⟨i, hi, e⟩ := mem_natInts.1 h2
            rwa [show y = i by omega]
          obtain ⟨j, hj, rfl⟩ := List.getElem_of_mem h4
          refine HNO.out j hj ?_
          have e : R.getD j 0 = R[j] := by
            rw [List.getD_eq_getElem?_getD, List.getElem?_eq_getElem hj]; rfl
          rw [e, h3, HFD.out]
    · have hfz : fx = 0 := by omega
      subst hfz
      have HT := Lib.hid (HZ.out rfl)
      go_wp2_with fail
      go_ret
      refine ⟨_, rfl, pre, ?_, HI.out.inn, ?_, by omega, HB0.out.trans (HB.out.mono HB0.out.size)⟩
      · exact Nums.of_owns HO.out (natInts_length _).symm (by omega)
      · rw [← HT.out]; exact HI.out.rch

end Go.Proofs.YtkppbmfliejnmaaDoor
