/- Walks: the codes of a graph, of the program and of the reference. -/
import Derived.Test.YtkppbmfliejnmaaDoorMcQ26
import Derived.Test.YtkppbmfliejnmaaDoorMcQ24
import Derived.Test.YtkppbmfliejnmaaDoorMcQ8
import Derived.Test.YtkppbmfliejnmaaDoorMcQ4
import Derived.Test.YtkppbmfliejnmaaDoorMcQ9
import Derived.Test.YtkppbmfliejnmaaDoorMcQ15
import Derived.Test.YtkppbmfliejnmaaDoorMcQ13
import Derived.Test.YtkppbmfliejnmaaDoorMcQ11
namespace Go.Proofs.YtkppbmfliejnmaaDoor
open Go.RowKit

/-- The code up to v, u. -/
def cdTo (E : Nat → Nat → Bool) (v u : Nat) : List Nat := ((List.range v).flatMap fun y => (List.range y).map fun x => if E y x then 1 else 0) ++ (List.range u).map fun x => if E v x then 1 else 0
theorem cdTo_zero (E : Nat → Nat → Bool) : cdTo E 0 0 = [] := rfl
theorem cdTo_row (E : Nat → Nat → Bool) (v : Nat) : cdTo E v v = cdTo E (v + 1) 0 := by
  unfold cdTo
  rw [List.range_succ, List.flatMap_append]
  simp
theorem cdTo_step (E : Nat → Nat → Bool) (v u : Nat) : cdTo E v (u + 1) = cdTo E v u ++ [if E v u then 1 else 0] := by
  unfold cdTo
  rw [List.range_succ, List.map_append, List.append_assoc]
  rfl
theorem cdTo_len (E : Nat → Nat → Bool) : ∀ v u, (cdTo E v u).length = codeL v + u
  | 0, u => by simp [cdTo, codeL]
  | v + 1, 0 => by rw [← cdTo_row, cdTo_len E v v]; rfl
  | v + 1, u + 1 => by rw [cdTo_step, List.length_append, cdTo_len E (v + 1) u]; rfl
theorem codeL_sq : ∀ v, codeL v ≤ v * v
  | 0 => Nat.le_refl _
  | v + 1 => by
    have := codeL_sq v
    show codeL v + v ≤ (v + 1) * (v + 1)
    have e : (v + 1) * (v + 1) = v * v + v + (v + 1) := by rw [Nat.add_mul, Nat.mul_add, Nat.one_mul, Nat.mul_one]
    omega
theorem cdTo_le (E : Nat → Nat → Bool) {v u : Nat} (hv : v ≤ 16) (hu : u ≤ 16) : (cdTo E v u).length ≤ 300 := by
  rw [cdTo_len]
  have h1 := codeL_sq v
  have h2 : v * v ≤ 16 * 16 := Nat.mul_le_mul hv hv
  omega

set_option maxRecDepth 100000 in
set_option maxHeartbeats 4000000 in
theorem codeOf_any (hp : Option Addr) (hc n : Nat) (E : Nat → Nat → Bool) (w : World) (hH : NE w (.slice hp n hc) n E) :
    Calls Tryd.prog 135 #[.slice hp n hc] w fun e w' => ∃ u, e = .returned u ∧ w'.ownsRow w.heap.size 2 1 u (cdTo E n 0).length ((natInts (cdTo E n 0)).map (Value.int .i64)) ∧ Below w.heap.size w w' := by
  have n16 := hH.le
  have HH := Lib.hid hH
  have HO := Lib.hid (ownsRow_empty w 2 1)
  have HB := Lib.hid (below_alloc w (.cells #[] 2))
  clear hH
  go_enter Tryd.func135, Tryd.ntmps135
  go_wp2
  go_loopw [3, 9] (fun ov iv wr => ∃ v : Nat, v ≤ n ∧ iv = .int .i64 (v : Int) ∧ Hid (wr.ownsRow w.heap.size 2 1 ov (cdTo E v 0).length ((natInts (cdTo E v 0)).map (Value.int .i64))) ∧ Hid (Below w.heap.size w wr)) (fun _ iv _ => n - (intOf iv).toNat)
  case atStart => exact ⟨0, Nat.zero_le _, rfl, HO, HB⟩
  case round =>
    clear HO HB
    obtain ⟨v, hv, rfl, HO, HB⟩ := hrel
    obtain ⟨op, oc, rfl, _⟩ := owns_capL HO.out
    by_cases hlt : v < n
    · have hvi : (v : Int) < (n : Int) := by omega
      go_wp2_with fail
      go_loopw [3, 13] (fun ov iv wx => ∃ u : Nat, u ≤ v ∧ iv = .int .i64 (u : Int) ∧ Hid (wx.ownsRow w.heap.size 2 1 ov (cdTo E v u).length ((natInts (cdTo E v u)).map (Value.int .i64))) ∧ Hid (Below w.heap.size w wx)) (fun _ iv _ => v - (intOf iv).toNat)
      case atStart => exact ⟨0, Nat.zero_le _, rfl, HO, HB⟩
      case round =>
        clear HO HB
        obtain ⟨u, hu, rfl, HO, HB⟩ := hrel
        obtain ⟨op, oc, rfl, _⟩ := owns_capL HO.out
        by_cases hul : u < v
        · have hui : (u : Int) < (v : Int) := by omega
          obtain ⟨hb, ho, a, rfl, hca, ha16, hbit⟩ := (HH.out.next HB.out).get hlt
          have HBIT : Hid (a.testBit u = E v u) := Lib.hid (by rw [hbit u, decide_eq_true (by omega : u < n), Bool.true_and])
          have hlen := cdTo_le E (v := v) (u := u) (by omega) (by omega)
          have hown := HO.out
          have hsz := HB.out.size
          cases hE : E v u
          · have HD : Hid (a.testBit u = false) := Lib.hid (by rw [HBIT.out, hE])
            have HS : Hid (cdTo E v (u + 1) = cdTo E v u ++ [0]) := Lib.hid (by rw [cdTo_step, hE]; rfl)
            clear hbit hE
            go_wp2_with (first
              | (go_at_call 175; refine (has_any _ _ a u rfl rfl (by omega) (by omega) _).mono ?_; rintro e wa ⟨he, rfl⟩; rw [HD.out] at he; subst he)
              | (at_builtin; refine wpList_app1 ty_i64 rfl rfl rfl hown rfl rfl (by omega) (by omega) ?_; intro v' w1 hown' hg _))
            have HO1 := Lib.hid hown'
            have HB1 := Lib.hid (below_grown HB.out hown hg (Nat.le_refl _) hsz)
            go_roundw
            case rel => exact ⟨u + 1, by omega, by go_num, Lib.hid (by rw [HS.out, natInts_snoc, List.map_append, List.length_append]; exact HO1.out), HB1⟩
            case measure => simp [intOf]; omega
          · have HD : Hid (a.testBit u = true) := Lib.hid (by rw [HBIT.out, hE])
            have HS : Hid (cdTo E v (u + 1) = cdTo E v u ++ [1]) := Lib.hid (by rw [cdTo_step, hE]; rfl)
            clear hbit hE
            go_wp2_with (first
              | (go_at_call 175; refine (has_any _ _ a u rfl rfl (by omega) (by omega) _).mono ?_; rintro e wa ⟨he, rfl⟩; rw [HD.out] at he; subst he)
              | (at_builtin; refine wpList_app1 ty_i64 rfl rfl rfl hown rfl rfl (by omega) (by omega) ?_; intro v' w1 hown' hg _))
            have HO1 := Lib.hid hown'
            have HB1 := Lib.hid (below_grown HB.out hown hg (Nat.le_refl _) hsz)
            go_roundw
            case rel => exact ⟨u + 1, by omega, by go_num, Lib.hid (by rw [HS.out, natInts_snoc, List.map_append, List.length_append]; exact HO1.out), HB1⟩
            case measure => simp [intOf]; omega
        · obtain rfl : u = v := by omega
          go_wp2_with fail
          go_roundw
          case rel => exact ⟨u + 1, by omega, by go_num, Lib.hid (by rw [← cdTo_row]; exact HO.out), HB⟩
          case measure => simp [intOf]; omega
    · obtain rfl : v = n := by omega
      go_wp2_with fail
      go_ret
      exact ⟨_, rfl, HO.out, HB.out⟩

set_option maxRecDepth 100000 in
set_option maxHeartbeats 4000000 in
theorem implCodeOf_any (v : Value) (g : List (List Int)) (w : World) (hg : Gr w v g) (hok : GOk g) :
    Calls Tryd.prog 47 #[v] w fun e w' => ∃ u, e = .returned u ∧ Nums w' 2 .i64 u (natInts (cdTo (ofG g) g.length 0)) ∧ Below w.heap.size w w' := by
  have hg0 := hg
  obtain ⟨u, rfl, hr⟩ := hg
  obtain ⟨p, c, rfl, _⟩ := hr.shape
  obtain ⟨W0, hW0⟩ : ∃ W0, W0 = w.alloc (.cells #[.slice p g.length c] 29) := ⟨_, rfl⟩
  have hb0 : Below w.heap.size w W0 := by rw [hW0]; exact below_alloc _ _
  have HB0 := Lib.hid hb0
  have HBG : Hid (Box W0 w.heap.size 29 (.slice p g.length c)) := Lib.hid (by rw [hW0]; exact Box.new _ _ _)
  have HG := Lib.hid (hg0.below hb0)
  have HOK := Lib.hid hok
  have HDT := Lib.hid (dec_true hok)
  have c0 := HBG.out.cell
  clear hr hg0 hb0 hok
  go_enter Tryd.func47, Tryd.ntmps47
  go_upto_region 1 with fail
  rw [← hW0]
  clear hW0
  go_wp2_with (first
    | (go_at_call 135; refine (codeOf_any _ _ _ _ _ HNA.out).mono ?_; rintro e w4 ⟨y, rfl, ho4, hb4⟩; have HY := Lib.hid ho4; have HB4 := Lib.hid (HB3.out.trans (hb4.mono HB3.out.size)); clear ho4 hb4)
    | (go_at_call 89; refine (netsOf_any _ g _ (HG.out.below HB2.out) HOK.out).mono ?_; rintro e w3 ⟨x, rfl, ho, hb3⟩; have HNA := Lib.hid (neOfF HOK.out ho); obtain ⟨xp, xc, rfl, _⟩ := owns_capL ho; have HB3 := Lib.hid (HB2.out.trans (hb3.mono HB2.out.size)); clear ho hb3)
    | (go_at_call 87; refine (implGraphOk_any _ g _ HG.out).mono ?_; rintro e w2 ⟨he, hb2⟩; rw [HDT.out] at he; subst he; have HB2 := Lib.hid hb2; have c0 := hb2.at' c0; clear hb2))
  go_ret
  exact ⟨_, rfl, Nums.of_owns HY.out (by rw [natInts_length]) (by have := cdTo_le (ofG g) (v := g.length) (u := 0) HOK.out.le (by omega); omega), HB0.out.trans (HB4.out.mono HB0.out.size)⟩

set_option maxRecDepth 100000 in
set_option maxHeartbeats 4000000 in
theorem l4Code_any (v : Value) (g : List (List Int)) (w : World) (hg : Gr w v g) (hok : GOk g) :
    Calls Tryd.prog 136 #[v] w fun e w' => ∃ u, e = .returned u ∧ Nums w' 2 .i64 u (natInts (cdTo (ofG g) g.length 0)) ∧ Below w.heap.size w w' := by
  have hg0 := hg
  obtain ⟨u, rfl, hr⟩ := hg
  obtain ⟨p, c, rfl, _⟩ := hr.shape
  obtain ⟨W0, hW0⟩ : ∃ W0, W0 = w.alloc (.cells #[.slice p g.length c] 29) := ⟨_, rfl⟩
  have hb0 : Below w.heap.size w W0 := by rw [hW0]; exact below_alloc _ _
  have HB0 := Lib.hid hb0
  have HBG : Hid (Box W0 w.heap.size 29 (.slice p g.length c)) := Lib.hid (by rw [hW0]; exact Box.new _ _ _)
  have HG := Lib.hid (hg0.below hb0)
  have sz0 : W0.heap.size = w.heap.size + 1 := by rw [hW0, size_alloc]
  have HSZ := Lib.hid sz0
  have HOK := Lib.hid hok
  have h16 := hok.le
  have SYM : Hid (∀ a b, edB g b a = ofG g a b) := Lib.hid (fun a b => congrFun (congrFun (embE_ofG hok) a) b)
  obtain ⟨E, hE⟩ : ∃ E, E = ofG g := ⟨_, rfl⟩
  have HE := Lib.hid hE
  rw [← hE] at SYM ⊢
  have HO := Lib.hid (ownsRow_empty W0 2 1)
  have HB := Lib.hid (below_alloc W0 (.cells #[] 2))
  clear hr hg0 hb0 hok hE
  go_enter Tryd.func136, Tryd.ntmps136
  go_upto_region 1 with fail
  rw [← hW0]
  clear hW0
  go_wp2_with fail
  go_loopw [3, 4] (fun ov iv wr => ∃ v : Nat, v ≤ g.length ∧ iv = .int .i64 (v : Int) ∧ Hid (wr.ownsRow W0.heap.size 2 1 ov (cdTo E v 0).length ((natInts (cdTo E v 0)).map (Value.int .i64))) ∧ Hid (Below W0.heap.size W0 wr)) (fun _ iv _ => g.length - (intOf iv).toNat)
  case atStart => exact ⟨0, Nat.zero_le _, rfl, by rw [← sz0]; exact HO, HB⟩
  case round =>
    clear HO HB sz0
    obtain ⟨v, hv, rfl, HO, HB⟩ := hrel
    obtain ⟨op, oc, rfl, _⟩ := owns_capL HO.out
    have cg := HB.out.at' HBG.out.cell
    by_cases hlt : v < g.length
    · have hd : decide ((v : Int) < (g.length : Int)) = true := decide_eq_true (by omega)
      go_wp2_with (go_at_call 132; refine (l1Size_any _ g _ (HG.out.below HB.out)).mono ?_; rintro e w4 ⟨rfl, hb4⟩; have HB4 := Lib.hid (HB.out.trans (hb4.mono HB.out.size)); have HO4 := Lib.hid (ownsRow_below HO.out hb4); clear hb4)
      clear cg HO HB
      go_loopw [3, 5] (fun ov iv wx => ∃ u : Nat, u ≤ v ∧ iv = .int .i64 (u : Int) ∧ Hid (wx.ownsRow W0.heap.size 2 1 ov (cdTo E v u).length ((natInts (cdTo E v u)).map (Value.int .i64))) ∧ Hid (Below W0.heap.size W0 wx)) (fun _ iv _ => v - (intOf iv).toNat)
      case atStart => exact ⟨0, Nat.zero_le _, rfl, HO4, HB4⟩
      case round =>
        clear HO4 HB4
        obtain ⟨u, hu, rfl, HO, HB⟩ := hrel
        obtain ⟨op, oc, rfl, _⟩ := owns_capL HO.out
        have hcg := HB.out.at' HBG.out.cell
        by_cases hul : u < v
        · have hui : (u : Int) < (v : Int) := by omega
          have hun : u < g.length := by omega
          obtain ⟨fl, hfl⟩ : ∃ fl : Nat, fl = if E v u then 1 else 0 := ⟨_, rfl⟩
          have HED : Hid (dec ((v : Int) ∈ row g u) = E v u) := Lib.hid (by rw [← SYM.out]; unfold edB; rw [decide_dec])
          have FLAG : Hid (∀ w, Calls Tryd.prog 204 #[.bool (dec ((v : Int) ∈ row g u))] w fun e w' => e = .returned (.int .i64 (fl : Int)) ∧ w = w') := Lib.hid (fun w => by rw [HED.out, hfl]; exact l1Flag_any _ w)
          have HS : Hid (cdTo E v (u + 1) = cdTo E v u ++ [fl]) := Lib.hid (by rw [cdTo_step, hfl])
          have hlen := cdTo_le E (v := v) (u := u) (by omega) (by omega)
          have HGr := Lib.hid (HG.out.below HB.out)
          have hsr := HB.out.size
          clear hfl
          go_wp2_with (first
            | (go_at_call 109; refine (l1Edge_any _ g _ _ u v rfl rfl hun _ HGr.out).mono ?_; rintro e w4 ⟨rfl, hb4⟩; have BWA : Below wr.heap.size wr w4 := hb4; have hownc := ownsRow_below HO.out BWA; have hs4 := BWA.size; clear hb4)
            | (go_at_call 204; refine (FLAG.out _).mono ?_; rintro e w5 ⟨rfl, rfl⟩)
            | (at_builtin; refine wpList_app1 ty_i64 rfl rfl rfl hownc rfl rfl (by omega) (by omega) ?_; intro v' w7 hown7 hg7 _; have hb7 := below_grown (Below.refl W0.heap.size w4) hownc hg7 (Nat.le_refl _) (by omega)))
          have HOX := Lib.hid hown7
          have HBX := Lib.hid (HB.out.trans ((BWA.mono hsr).trans hb7))
          clear hcg
          go_roundw
          case rel => exact ⟨u + 1, by omega, by go_num, Lib.hid (by rw [HS.out, natInts_snoc, List.map_append, List.length_append]; exact HOX.out), HBX⟩
          case measure => simp [intOf]; omega
        · obtain rfl : u = v := by omega
          go_wp2_with fail
          go_roundw
          case rel => exact ⟨u + 1, by omega, by go_num, Lib.hid (by rw [← cdTo_row]; exact HO.out), HB⟩
          case measure => simp [intOf]; omega
    · obtain rfl : v = g.length := by omega
      have hd : decide ((g.length : Int) < (g.length : Int)) = false := decide_eq_false (by omega)
      go_wp2_with (go_at_call 132; refine (l1Size_any _ g _ (HG.out.below HB.out)).mono ?_; rintro e w4 ⟨rfl, hb4⟩; have HB4 := Lib.hid (HB.out.trans (hb4.mono HB.out.size)); have HO4 := Lib.hid (ownsRow_below HO.out hb4); clear hb4)
      go_ret
      exact ⟨_, rfl, Nums.of_owns HO4.out (by rw [natInts_length]) (by have := cdTo_le E (v := g.length) (u := 0) h16 (by omega); omega), HB0.out.trans (HB4.out.mono HB0.out.size)⟩

set_option maxRecDepth 100000 in
set_option maxHeartbeats 4000000 in
theorem specCodeOf_any (v : Value) (g : List (List Int)) (w : World) (hg : Gr w v g) (hok : GOk g) :
    Calls Tryd.prog 48 #[v] w fun e w' => ∃ u, e = .returned u ∧ Nums w' 2 .i64 u (natInts (cdTo (ofG g) g.length 0)) ∧ Below w.heap.size w w' := by
  have hg0 := hg
  obtain ⟨u, rfl, hr⟩ := hg
  obtain ⟨p, c, rfl, _⟩ := hr.shape
  obtain ⟨W0, hW0⟩ : ∃ W0, W0 = w.alloc (.cells #[.slice p g.length c] 29) := ⟨_, rfl⟩
  have hb0 : Below w.heap.size w W0 := by rw [hW0]; exact below_alloc _ _
  have HB0 := Lib.hid hb0
  have HBG : Hid (Box W0 w.heap.size 29 (.slice p g.length c)) := Lib.hid (by rw [hW0]; exact Box.new _ _ _)
  have HG := Lib.hid (hg0.below hb0)
  have HOK := Lib.hid hok
  have HDT := Lib.hid (dec_true hok)
  have c0 := HBG.out.cell
  clear hr hg0 hb0 hok
  go_enter Tryd.func48, Tryd.ntmps48
  go_upto_region 1 with fail
  rw [← hW0]
  clear hW0
  go_wp2_with (first
    | (go_at_call 136; refine (l4Code_any _ g _ (HG.out.below HB2.out) HOK.out).mono ?_; rintro e w4 ⟨y, rfl, ho4, hb4⟩; have HY := Lib.hid ho4; have HB4 := Lib.hid (HB2.out.trans (hb4.mono HB2.out.size)); clear ho4 hb4)
    | (go_at_call 73; refine (specGraphOk_any _ g _ HG.out).mono ?_; rintro e w2 ⟨he, hb2⟩; rw [HDT.out] at he; subst he; have HB2 := Lib.hid hb2; have c0 := hb2.at' c0; clear hb2))
  go_ret
  exact ⟨_, rfl, HY.out, HB0.out.trans (HB4.out.mono HB0.out.size)⟩

end Go.Proofs.YtkppbmfliejnmaaDoor

/- Walks: the program's tests of a set, and of a connected one; the masks of several sets. -/
namespace Go.Proofs.YtkppbmfliejnmaaDoor
open Go.RowKit

set_option maxRecDepth 100000 in
set_option maxHeartbeats 1000000 in
theorem implSetOk_any (v lv : Value) (g : List (List Int)) (s : List Int) (hgl : g.length ≤ 1000000000) (w : World) (hg : Gr w v g) (hn : Nums w 2 .i64 lv s) :
    Calls Tryd.prog 95 #[v, lv] w fun e w' => e = .returned (.bool (dec (GOk g ∧ SetIn g.length s))) ∧ Below w.heap.size w w' := by
  have hg0 := hg
  obtain ⟨u, rfl, hr⟩ := hg
  obtain ⟨p, c, rfl, _⟩ := hr.shape
  have hbA := Lib.hid (below_alloc w (.cells #[.slice p g.length c] 29))
  have HG := Lib.hid (hg0.below hbA.out)
  have HN := Lib.hid (hn.below hbA.out)
  have BX := Lib.hid (Box.new w (.slice p g.length c) 29)
  clear hr hg0 hn
  by_cases hok : GOk g
  · have hd := Lib.hid (dec_true hok)
    have HD : Hid (dec (SetIn g.length s) = dec (GOk g ∧ SetIn g.length s)) := Lib.hid (dec_congr ⟨fun h => ⟨hok, h⟩, fun h => h.2⟩)
    clear hok
    go_enter Tryd.func95, Tryd.ntmps95
    go_wp2_with (first
      | (go_at_call 87; refine (implGraphOk_any _ g _ HG.out).mono ?_; rintro e w2 ⟨he, hb2⟩; rw [hd.out] at he; subst he; have hbx := (BX.out.keep hb2).cell)
      | (go_at_call 177; refine (increasing_any _ s g.length (by omega) (by omega) _ (HN.out.below hb2)).mono ?_; rintro e w3 ⟨he3, hw3⟩; rw [HD.out] at he3; subst he3; subst hw3))
    go_ret
    exact ⟨rfl, hbA.out.trans (hb2.mono hbA.out.size)⟩
  · have hd := Lib.hid (dec_false hok)
    have HD := Lib.hid (dec_false (show ¬ (GOk g ∧ SetIn g.length s) from fun h => hok h.1))
    clear hok
    go_enter Tryd.func95, Tryd.ntmps95
    go_wp2_with (go_at_call 87; refine (implGraphOk_any _ g _ HG.out).mono ?_; rintro e w2 ⟨he, hb2⟩; rw [hd.out] at he; subst he)
    go_ret
    exact ⟨by rw [HD.out]; rfl, hbA.out.trans (hb2.mono hbA.out.size)⟩

set_option maxRecDepth 100000 in
set_option maxHeartbeats 1000000 in
theorem connected_any (x : Value) (z : Int) (n : Nat) (E : Nat → Nat → Bool) (W : Nat) (hz : z = W) (hW : W < 65536) (hWn : ∀ i, W.testBit i = true → i < n) (w : World) (hx : NE w x n E) (hT : Tab w) :
    Calls Tryd.prog 176 #[x, .int .u32 z] w fun e w' => e = .returned (.bool (dec (ConnL E (bitsOf W)))) ∧ Below w.heap.size w w' := by
  subst hz
  by_cases h0 : W = 0
  · subst h0
    have HD := Lib.hid (dec_false (show ¬ ConnL E (bitsOf 0) by rw [bitsOf_zero]; exact not_connL_nil E))
    go_enter Tryd.func176, Tryd.ntmps176
    go_wp2
    go_ret
    exact ⟨by rw [HD.out]; rfl, Below.refl _ _⟩
  · have h0' : ((W : Int) != 0) = true := by simp; omega
    have hst := bitsOf_step W h0 (by omega)
    obtain ⟨hub, _, _⟩ := testBit_ctz W h0 (by omega)
    obtain ⟨u, hu⟩ : ∃ u, u = Lib.ctz 32 W := ⟨_, rfl⟩
    rw [← hu] at hst hub
    have HU := Lib.hid hu
    have HUB := Lib.hid hub
    have H0 := Lib.hid h0
    have HX := Lib.hid hx
    have HT := Lib.hid hT
    have HWN := Lib.hid hWn
    have HEQ : Hid (∀ m : Nat, m < 65536 → (∀ i, m.testBit i = true ↔ i ∈ partL E (bitsOf W) u) → ((m : Int) == (W : Int)) = dec (ConnL E (bitsOf W))) := Lib.hid (fun m hm hmb => by
      have hi : ConnL E (bitsOf W) ↔ m = W := by
        rw [hst, connL_part, ← hst]
        constructor
        · intro e
          refine Nat.eq_of_testBit_eq fun i => ?_
          rw [Bool.eq_iff_iff, hmb i, e, mem_left hW]
        · rintro rfl
          refine rising_ext _ _ (partL_rising (bitsOf_rising _) u) (bitsOf_rising _) fun i => ?_
          rw [← hmb i, mem_left hW]
      by_cases e : m = W
      · rw [dec_true (hi.2 e), e]; simp
      · rw [dec_false (fun k => e (hi.1 k))]
        simp
        omega)
    clear hu hub h0 hst hx hT hWn
    go_enter Tryd.func176, Tryd.ntmps176
    go_wp2_with (first
      | (go_at_call 219; refine (reach_any _ _ _ n E u W rfl rfl hW HWN.out HUB.out _ HX.out HT.out).mono ?_; rintro e w4 ⟨m, rfl, hm16, hmb, hb4⟩; have hme := HEQ.out m hm16 hmb; clear hmb)
      | (go_at_call 185; refine (least_any _ W rfl H0.out (by omega) _ HT.out).mono ?_; rintro e w3 ⟨he3, rfl⟩; rw [← HU.out] at he3; subst he3))
    go_ret
    exact ⟨ret_bool (by first | exact hme | rfl | (rw [hme])), hb4⟩

/-- A connected set of a right graph. -/
def ConnS (g : List (List Int)) (s : List Int) : Prop := (GOk g ∧ SetIn g.length s) ∧ ConnL (ofG g) (s.map Int.toNat)
theorem setIn_nats {n : Nat} {s : List Int} (h : SetIn n s) : natInts (s.map Int.toNat) = s ∧ (s.map Int.toNat).Pairwise (· < ·) ∧ ∀ x ∈ s.map Int.toNat, x < n := by
  refine ⟨?_, ?_, ?_⟩
  · unfold natInts
    rw [List.map_map]
    conv => rhs; rw [← List.map_id s]
    exact List.map_congr_left fun x hx => Int.toNat_of_nonneg (h.1 x hx).1
  · refine List.pairwise_map.2 (h.2.imp_of_mem fun {a b} ha hb k => ?_)
    have := (h.1 a ha).1
    have := (h.1 b hb).1
    omega
  · intro x hx
    obtain ⟨y, hy, rfl⟩ := List.mem_map.1 hx
    have := h.1 y hy
    omega
theorem bits_maskS {n : Nat} {s : List Int} (hn : n ≤ 16) (h : SetIn n s) : bitsOf (mask s) = s.map Int.toNat := by
  obtain ⟨h1, h2, h3⟩ := setIn_nats h
  conv => lhs; rw [← h1]
  exact bitsOf_maskN h2 fun x hx => by have := h3 x hx; omega



end Go.Proofs.YtkppbmfliejnmaaDoor

/- Walks: the complement of sets of neighbours; what a set rules. -/
namespace Go.Proofs.YtkppbmfliejnmaaDoor
open Go.RowKit

theorem compRow {n : Nat} {E : Nat → Nat → Bool} {r a M : Nat} (hn : n ≤ 16) (hr : r < n) (hM : M = 2 ^ n - 1) (hM16 : M < 65536) (ha : a < 65536) (hab : ∀ j, a.testBit j = (decide (j < n) && E r j)) : sub (sub M a) (2 ^ r) = (indN n (compE E)).getD r 0 := by
  refine Nat.eq_of_testBit_eq fun j => ?_
  have h1 := sub_lt16 M a hM16
  have h2 := pow_lt16 r (by omega)
  rw [indN_bit hr, testBit_sub _ _ (by omega) (by omega), testBit_sub _ _ (by omega) (by omega), hM, testBit_firstOf, hab j, Nat.testBit_two_pow]
  unfold compE
  by_cases h : j < n <;> by_cases h2 : r = j <;> simp [h, h2]

theorem ty_netsS : SlTy Tryd.prog 73 70 (.int .u32 0) 1 4 := ⟨Tryd.underlying73, by kernel_rfl, rfl, by decide, by decide⟩
set_option maxRecDepth 100000 in
set_option maxHeartbeats 4000000 in
theorem complement_any (hp : Option Addr) (hc n : Nat) (E : Nat → Nat → Bool) (w : World) (hH : NE w (.slice hp n hc) n E) :
    Calls Tryd.prog 94 #[.slice hp n hc] w fun e w' => ∃ u, e = .returned u ∧ w'.ownsRow w.heap.size 70 1 u n ((indN n (compE E)).map u32v) ∧ Below w.heap.size w w' := by
  have n16 := hH.le
  have HH := Lib.hid hH
  have HO := Lib.hid (ownsRow_empty w 70 1)
  have HB := Lib.hid (below_alloc w (.cells #[] 70))
  obtain ⟨M, hM⟩ : ∃ M, M = 2 ^ n - 1 := ⟨_, rfl⟩
  have hM16 : M < 65536 := by
    have h2 : 2 ^ n ≤ 2 ^ 16 := Nat.pow_le_pow_right (by decide) n16
    have h3 : (2 : Nat) ^ 16 = 65536 := by decide
    have h4 : 0 < 2 ^ n := Nat.pow_pos (by decide)
    omega
  have ALL : Hid (∀ (wz : World), Calls Tryd.prog 106 #[.slice hp n hc] wz fun e w' => e = .returned (.int .u32 (M : Int)) ∧ wz = w') := Lib.hid fun wz => by rw [hM]; exact all_any hp n hc (by omega) wz
  have HM := Lib.hid hM
  obtain ⟨L, hL⟩ : ∃ L, L = indN n (compE E) := ⟨_, rfl⟩
  have hLl : L.length = n := by rw [hL, indN_length]
  have HL := Lib.hid hL
  have HLl := Lib.hid hLl
  rw [← hL]
  clear hH hM hL hLl
  go_enter Tryd.func94, Tryd.ntmps94
  go_wp2
  go_loopw [3, 9] (fun ov iv wr => ∃ v : Nat, v ≤ n ∧ iv = .int .i64 (v : Int) ∧ Hid (wr.ownsRow w.heap.size 70 1 ov v ((L.take v).map u32v)) ∧ Hid (Below w.heap.size w wr)) (fun _ iv _ => n - (intOf iv).toNat)
  case atStart => exact ⟨0, Nat.zero_le _, rfl, HO, HB⟩
  case round =>
    clear HO HB
    obtain ⟨v, hv, rfl, HO, HB⟩ := hrel
    obtain ⟨op, oc, rfl, _⟩ := owns_capL HO.out
    by_cases hlt : v < n
    · have hvi : (v : Int) < (n : Int) := by omega
      obtain ⟨xb, xo, a, rfl, hca, ha16, hab⟩ := (HH.out.next HB.out).get hlt
      have hrow := compRow n16 hlt HM.out hM16 ha16 hab
      obtain ⟨d, hd⟩ : ∃ d, d = sub M a := ⟨_, rfl⟩
      have hd16 : d < 65536 := by rw [hd]; exact sub_lt16 _ _ hM16
      have PONE : Hid (∀ w, Calls Tryd.prog 156 #[.int .i64 (v : Int)] w fun e w' => e = .returned (.int .u32 ((2 ^ v : Nat) : Int)) ∧ w = w') := Lib.hid (fun w => one_any (v : Int) v rfl (by omega) w)
      obtain ⟨pv, hpv⟩ : ∃ pv, pv = 2 ^ v := ⟨_, rfl⟩
      have hp16 : pv < 65536 := by rw [hpv]; exact pow_lt16 v (by omega)
      rw [← hd, ← hpv] at hrow
      rw [← hpv] at PONE
      obtain ⟨t, ht⟩ : ∃ t, t = sub d pv := ⟨_, rfl⟩
      have hand1 : bits BinOp.andNot IntKind.u32 (M : Int) (a : Int) = (d : Int) := by rw [hd]; exact u32_andNot_nat M a (by omega) (by omega)
      have hand2 : bits BinOp.andNot IntKind.u32 (d : Int) (pv : Int) = (t : Int) := by rw [ht]; exact u32_andNot_nat d pv (by omega) (by omega)
      have HS : Hid (L.take (v + 1) = L.take v ++ [t]) := Lib.hid (by
        have hvl : v < L.length := by rw [HLl.out]; exact hlt
        rw [take_snoc' L v hvl]
        congr 2
        have e : L.getD v 0 = L[v] := by rw [List.getD_eq_getElem?_getD, List.getElem?_eq_getElem hvl]; rfl
        rw [← e, HL.out, ← hrow, ht])
      have hown := HO.out
      have hsz := HB.out.size
      clear hab hrow hd ht hpv
      go_wp2_with (first
        | (go_at_call 106; refine (ALL.out _).mono ?_; rintro e w2 ⟨rfl, rfl⟩)
        | (go_at_call 156; refine (PONE.out _).mono ?_; rintro e w3 ⟨rfl, rfl⟩)
        | (at_builtin; refine wpList_app1 ty_netsS rfl rfl rfl hown rfl rfl (by omega) (by omega) ?_; intro v' w1 hown' hg _))
      have HO1 := Lib.hid hown'
      have HB1 := Lib.hid (below_grown HB.out hown hg (Nat.le_refl _) hsz)
      go_roundw
      case rel => exact ⟨v + 1, by omega, by go_num, Lib.hid (by rw [HS.out, List.map_append]; exact HO1.out), HB1⟩
      case measure => simp [intOf]; omega
    · obtain rfl : v = n := by omega
      rw [← HLl.out, List.take_length] at HO
      go_wp2_with fail
      go_ret
      exact ⟨_, rfl, by rw [HLl.out] at HO; exact HO.out, HB.out⟩

/-- What a set rules: each vertex is in it or beside one in it. -/
def RulB (n : Nat) (E : Nat → Nat → Bool) (s : Nat) : Prop := ∀ u, u < n → s.testBit u = true ∨ ∃ v, s.testBit v = true ∧ E v u = true

set_option maxRecDepth 100000 in
set_option maxHeartbeats 4000000 in
theorem rules_any (hp : Option Addr) (hc n : Nat) (E : Nat → Nat → Bool) (s : Nat) (hs : s < 65536) (hin : ∀ i, s.testBit i = true → i < n) (w : World) (hH : NE w (.slice hp n hc) n E) (hT : Tab w) :
    Calls Tryd.prog 114 #[.slice hp n hc, .int .u32 (s : Int)] w fun e w' => e = .returned (.bool (dec (RulB n E s))) ∧ Below w.heap.size w w' := by
  have n16 := hH.le
  have HH := Lib.hid hH
  have HT := Lib.hid hT
  have HIN := Lib.hid hin
  obtain ⟨M, hM⟩ : ∃ M, M = 2 ^ n - 1 := ⟨_, rfl⟩
  have hM16 : M < 65536 := by
    have h2 : 2 ^ n ≤ 2 ^ 16 := Nat.pow_le_pow_right (by decide) n16
    have h3 : (2 : Nat) ^ 16 = 65536 := by decide
    have h4 : 0 < 2 ^ n := Nat.pow_pos (by decide)
    omega
  have ALL : Hid (∀ (wz : World), Calls Tryd.prog 106 #[.slice hp n hc] wz fun e w' => e = .returned (.int .u32 (M : Int)) ∧ wz = w') := Lib.hid fun wz => by rw [hM]; exact all_any hp n hc (by omega) wz
  have HM := Lib.hid hM
  obtain ⟨l, hl⟩ : ∃ l, l = bitsOf s := ⟨_, rfl⟩
  have HL := Lib.hid hl
  have hll : l.length ≤ 32 := by rw [hl]; have := List.length_filter_le (fun i => s.testBit i) (List.range 32); rw [List.length_range] at this; exact this
  have LIST : Hid (∀ wz, Tab wz → Calls Tryd.prog 180 #[.int .u32 (s : Int)] wz fun e w' => ∃ v, e = .returned v ∧ w'.ownsRow wz.heap.size 3 1 v l.length ((natInts l).map (Value.int .i64)) ∧ Below wz.heap.size wz w') := Lib.hid fun wz ht => by rw [hl]; exact list_any _ s rfl (by omega) wz ht
  have HMEM : Hid (∀ v ∈ l, s.testBit v = true ∧ v < n) := Lib.hid fun v hv => by
    rw [hl, mem_bitsOf' (by omega)] at hv
    exact ⟨hv, hin v hv⟩
  clear hH hT hM hin hl
  go_enter Tryd.func114, Tryd.ntmps114
  go_wp2_with (go_at_call 180; refine (LIST.out _ HT.out).mono ?_; rintro e w2 ⟨lv, rfl, ho2, hb2⟩; have HNL := Lib.hid (Nums.of_owns ho2 (natInts_length _).symm (by omega)); obtain ⟨lp, lc, rfl, _⟩ := owns_capL ho2; have HB2 := Lib.hid hb2; clear ho2 hb2)
  go_loopw [5, 12] (fun mv iv wr => ∃ (k m : Nat), k ≤ l.length ∧ iv = .int .i64 (k : Int) ∧ mv = .int .u32 (m : Int) ∧ Hid (m < 65536) ∧ Hid (∀ j, m.testBit j = true ↔ s.testBit j = true ∨ (j < n ∧ ∃ v ∈ l.take k, E v j = true)) ∧ Hid (Below w2.heap.size w2 wr)) (fun _ iv _ => l.length - (intOf iv).toNat)
  case atStart => exact ⟨0, s, Nat.zero_le _, rfl, rfl, Lib.hid hs, Lib.hid fun j => by simp, Lib.hid (Below.refl _ _)⟩
  case round =>
    obtain ⟨k, m, hk, rfl, rfl, HM16, HJ, HB⟩ := hrel
    have hm16 := HM16.out
    by_cases hlt : k < l.length
    · have hki : (k : Int) < (l.length : Int) := by omega
      obtain ⟨qb, qo, rfl, hq⟩ := (HNL.out.below HB.out).get (k := k) (by rw [natInts_length]; exact hlt)
      rw [natInts_atL hlt] at hq
      obtain ⟨v, hv⟩ : ∃ v, v = l[k] := ⟨_, rfl⟩
      rw [← hv] at hq
      have hvn := (HMEM.out v (by rw [hv]; exact List.getElem_mem hlt)).2
      obtain ⟨xb, xo, a, rfl, hca, ha16, hab⟩ := (HH.out.next (HB2.out.trans (HB.out.mono HB2.out.size))).get hvn
      have hor : bits BinOp.or IntKind.u32 (m : Int) (a : Int) = ((m ||| a : Nat) : Int) := or_u32 m a hm16 ha16
      have hor16 := or_lt16 m a hm16 ha16
      have HJ2 : Hid (∀ j, (m ||| a).testBit j = true ↔ s.testBit j = true ∨ (j < n ∧ ∃ x ∈ l.take (k + 1), E x j = true)) := Lib.hid fun j => by
        rw [Nat.testBit_or, Bool.or_eq_true, HJ.out j, hab j, take_snoc' l k hlt, ← hv]
        constructor
        · rintro ((h | ⟨h, x, hx, he⟩) | h)
          · exact .inl h
          · exact .inr ⟨h, x, by simp [hx], he⟩
          · rw [Bool.and_eq_true, decide_eq_true_eq] at h
            exact .inr ⟨h.1, v, by simp, h.2⟩
        · rintro (h | ⟨h, x, hx, he⟩)
          · exact .inl (.inl h)
          · rcases List.mem_append.1 hx with h2 | h2
            · exact .inl (.inr ⟨h, x, h2, he⟩)
            · rw [List.mem_singleton] at h2
              subst h2
              exact .inr (by rw [he, decide_eq_true h]; rfl)
      generalize m ||| a = m2 at hor hor16 HJ2
      have HBR := HB
      clear hab hv
      go_wp2_with fail
      go_roundw
      case rel => exact ⟨k + 1, m2, by omega, by go_num, rfl, Lib.hid hor16, HJ2, HBR⟩
      case measure => simp [intOf]; omega
    · obtain rfl : k = l.length := by omega
      rw [List.take_length] at HJ
      have HEQ : Hid (((m : Int) == (M : Int)) = dec (RulB n E s)) := Lib.hid (by
        have key : m = M ↔ RulB n E s := by
          constructor
          · intro h u hu
            have h1 : m.testBit u = true := by rw [h, HM.out, testBit_firstOf, decide_eq_true_eq]; exact hu
            rcases (HJ.out u).1 h1 with h2 | ⟨_, v, hv, he⟩
            · exact .inl h2
            · exact .inr ⟨v, (HMEM.out v hv).1, he⟩
          · intro h
            refine Nat.eq_of_testBit_eq fun j => ?_
            rw [Bool.eq_iff_iff, HJ.out j, HM.out, testBit_firstOf, decide_eq_true_eq]
            constructor
            · rintro (h1 | ⟨h1, _⟩)
              · exact HIN.out j h1
              · exact h1
            · intro hj
              rcases h j hj with h1 | ⟨v, hv, he⟩
              · exact .inl h1
              · exact .inr ⟨hj, v, by rw [HL.out, mem_bitsOf' (by omega)]; exact hv, he⟩
        by_cases h : RulB n E s
        · rw [dec_true h, key.2 h]; simp
        · rw [dec_false h]
          exact beq_eq_false_iff_ne.2 fun e => h (key.1 (by omega)))
      go_wp2_with (go_at_call 106; refine (ALL.out _).mono ?_; rintro e w3 ⟨rfl, rfl⟩)
      go_ret
      exact ⟨ret_bool HEQ.out, HB2.out.trans (HB.out.mono HB2.out.size)⟩

def RulS (g : List (List Int)) (s : List Int) : Prop := GOk g ∧ SetIn g.length s ∧ RulB g.length (ofG g) (mask s)
set_option maxRecDepth 100000 in
set_option maxHeartbeats 4000000 in
theorem implRuleIn_any (v lv : Value) (g : List (List Int)) (s : List Int) (hgl : g.length ≤ 1000000000) (w : World) (hg : Gr w v g) (hn : Nums w 2 .i64 lv s) (hT : Tab w) :
    Calls Tryd.prog 33 #[v, lv] w fun e w' => e = .returned (.bool (dec (RulS g s))) ∧ Below w.heap.size w w' := by
  have hg0 := hg
  obtain ⟨u, rfl, hr⟩ := hg
  obtain ⟨p, c, rfl, _⟩ := hr.shape
  obtain ⟨lp, lc, rfl, _⟩ := id hn.shape
  obtain ⟨W0, hW0⟩ : ∃ W0, W0 = w.alloc (.cells #[.slice p g.length c] 29) := ⟨_, rfl⟩
  have hb0 : Below w.heap.size w W0 := by rw [hW0]; exact below_alloc _ _
  have HBX : Hid (Box W0 w.heap.size 29 (.slice p g.length c)) := Lib.hid (by rw [hW0]; exact Box.new _ _ _)
  have HG := Lib.hid (hg0.below hb0)
  have HN := Lib.hid (hn.below hb0)
  have HB0 := Lib.hid hb0
  have HT := Lib.hid (hT.keep hb0)
  have c0 := HBX.out.cell
  clear hr hg0 hn hb0 hT
  by_cases hset : GOk g ∧ SetIn g.length s
  case neg =>
    have HD := Lib.hid (dec_false hset)
    have HNO : Hid (¬ RulS g s) := Lib.hid fun k => hset ⟨k.1, k.2.1⟩
    clear hset
    go_enter Tryd.func33, Tryd.ntmps33
    go_upto_region 1 with fail
    rw [← hW0]
    clear hW0
    go_wp2_with (go_at_call 95; refine (implSetOk_any _ _ g s hgl _ HG.out HN.out).mono ?_; rintro e w3 ⟨he, hb3⟩; rw [HD.out] at he; subst he)
    go_ret
    exact ⟨ret_bool (false_dec HNO.out), HB0.out.trans (hb3.mono HB0.out.size)⟩
  have HD := Lib.hid (dec_true hset)
  have hok := hset.1
  have h16 := hok.le
  have HIN : Hid (∀ x ∈ s, 0 ≤ x ∧ x < 16) := Lib.hid fun x hx => by have := hset.2.1 x hx; omega
  have hm16 : mask s < 65536 := by
    have := mask_take_lt16 HIN.out s.length
    rwa [List.take_length] at this
  have hmn : ∀ i, (mask s).testBit i = true → i < g.length := fun i hi => by
    rw [testBit_mask, List.any_eq_true] at hi
    obtain ⟨x, hx, he⟩ := hi
    have h1 := hset.2.1 x hx
    have h2 : x.toNat = i := by simpa using he
    omega
  have HIFF : Hid (dec (RulB g.length (ofG g) (mask s)) = dec (RulS g s)) := Lib.hid (by
    by_cases h : RulB g.length (ofG g) (mask s)
    · rw [dec_true h, dec_true ⟨hok, hset.2, h⟩]
    · rw [dec_false h, dec_false fun k => h k.2.2])
  have HOK := Lib.hid hok
  obtain ⟨b, hb⟩ : ∃ b, b = mask s := ⟨_, rfl⟩
  have HMB := Lib.hid hb
  rw [← hb] at hm16 HIFF hmn
  have RUL : Hid (∀ (wz : World) (q : Option Addr) (d : Nat), NE wz (.slice q g.length d) g.length (ofG g) → Tab wz → Calls Tryd.prog 114 #[.slice q g.length d, .int .u32 (b : Int)] wz fun e w' => e = .returned (.bool (dec (RulS g s))) ∧ Below wz.heap.size wz w') := Lib.hid fun wz q d h ht => by
    have := rules_any q d g.length (ofG g) b hm16 hmn wz h ht
    rw [HIFF.out] at this
    exact this
  clear hok hset hb hmn
  go_enter Tryd.func33, Tryd.ntmps33
  go_upto_region 1 with fail
  rw [← hW0]
  clear hW0
  go_wp2_with (first
    | (go_at_call 114; refine (RUL.out _ _ _ HNA.out (HT.out.keep HB4.out)).mono ?_; rintro e w6 ⟨rfl, hb6⟩)
    | (have X := HB4; go_at_call 97; refine (maskOf_any _ s HIN.out _ (HN.out.below HB4.out)).mono ?_; rintro e w5 ⟨he, rfl⟩; rw [← HMB.out] at he; subst he)
    | (have X := HB3; go_at_call 89; refine (netsOf_any _ g _ (HG.out.below HB3.out) HOK.out).mono ?_; rintro e w4 ⟨x, rfl, ho, hb4⟩; have HNA := Lib.hid (neOfF HOK.out ho); obtain ⟨xp, xc, rfl, _⟩ := owns_capL ho; have HB4 := Lib.hid (HB3.out.trans (hb4.mono HB3.out.size)); clear ho hb4)
    | (go_at_call 95; refine (implSetOk_any _ _ g s hgl _ HG.out HN.out).mono ?_; rintro e w3 ⟨he, hb3⟩; rw [HD.out] at he; subst he; have HB3 := Lib.hid hb3; have e0 := hb3.at' c0))
  go_ret
  exact ⟨rfl, HB0.out.trans ((HB4.out.trans (hb6.mono HB4.out.size)).mono HB0.out.size)⟩

end Go.Proofs.YtkppbmfliejnmaaDoor
