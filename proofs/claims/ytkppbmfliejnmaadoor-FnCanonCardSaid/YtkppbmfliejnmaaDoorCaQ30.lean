/- Walks: the codes of a graph, of the program and of the reference. -/
import Derived.Test.YtkppbmfliejnmaaDoorCaQ29
import Derived.Test.YtkppbmfliejnmaaDoorCaQ19
import Derived.Test.YtkppbmfliejnmaaDoorCaQ25
import Derived.Test.YtkppbmfliejnmaaDoorCaQ4
import Derived.Test.YtkppbmfliejnmaaDoorCaQ23
import Derived.Test.YtkppbmfliejnmaaDoorCaQ14
import Derived.Test.YtkppbmfliejnmaaDoorCaQ7
namespace Go.Proofs.YtkppbmfliejnmaaDoor
open Go.RowKit

/-- The code up to v, u. -/
def cdTo (E : Nat → Nat → Bool) (v u : Nat) : List Nat := ((List.range v).flatMap fun y => (List.range y).map fun x => if E y x then 1 else 0) ++ (List.range u).map fun x => if E v x then 1 else 0
theorem cdTo_zero (E : Nat → Nat → Bool) : cdTo E 0 0 = [] := rfl
theorem cdTo_row (E : Nat → Nat → Bool) (v : Nat) : cdTo E v v = cdTo E (v + 1) 0 := by
  unfold cdTo
  rw [List.range_succ, List.flatMap_append]
  simp
theorem cdTo_step (E : Nat → Nat → Bool) (v u : Nat) : cdTo E v (u + 1) = cdTo E v u ++ [if E v u then 1 else 0] := by
  unfold cdTo
  rw [List.range_succ, List.map_append, List.append_assoc]
  rfl
theorem cdTo_len (E : Nat → Nat → Bool) : ∀ v u, (cdTo E v u).length = codeL v + u
  | 0, u => by simp [cdTo, codeL]
  | v + 1, 0 => by rw [← cdTo_row, cdTo_len E v v]; rfl
  | v + 1, u + 1 => by rw [cdTo_step, List.length_append, cdTo_len E (v + 1) u]; rfl
theorem codeL_sq : ∀ v, codeL v ≤ v * v
  | 0 => Nat.le_refl _
  | v + 1 => by
    have := codeL_sq v
    show codeL v + v ≤ (v + 1) * (v + 1)
    have e : (v + 1) * (v + 1) = v * v + v + (v + 1) := by rw [Nat.add_mul, Nat.mul_add, Nat.one_mul, Nat.mul_one]
    omega
theorem cdTo_le (E : Nat → Nat → Bool) {v u : Nat} (hv : v ≤ 16) (hu : u ≤ 16) : (cdTo E v u).length ≤ 300 := by
  rw [cdTo_len]
  have h1 := codeL_sq v
  have h2 : v * v ≤ 16 * 16 := Nat.mul_le_mul hv hv
  omega

set_option maxRecDepth 100000 in
set_option maxHeartbeats 4000000 in
theorem codeOf_any (hp : Option Addr) (hc n : Nat) (E : Nat → Nat → Bool) (w : World) (hH : NE w (.slice hp n hc) n E) :
    Calls Tryd.prog 135 #[.slice hp n hc] w fun e w' => ∃ u, e = .returned u ∧ w'.ownsRow w.heap.size 2 1 u (cdTo E n 0).length ((natInts (cdTo E n 0)).map (Value.int .i64)) ∧ Below w.heap.size w w' := by
  have n16 := hH.le
  have HH := Lib.hid hH
  have HO := Lib.hid (ownsRow_empty w 2 1)
  have HB := Lib.hid (below_alloc w (.cells #[] 2))
  clear hH
  go_enter Tryd.func135, Tryd.ntmps135
  go_wp2
  go_loopw [3, 9] (fun ov iv wr => ∃ v : Nat, v ≤ n ∧ iv = .int .i64 (v : Int) ∧ Hid (wr.ownsRow w.heap.size 2 1 ov (cdTo E v 0).length ((natInts (cdTo E v 0)).map (Value.int .i64))) ∧ Hid (Below w.heap.size w wr)) (fun _ iv _ => n - (intOf iv).toNat)
  case atStart => exact ⟨0, Nat.zero_le _, rfl, HO, HB⟩
  case round =>
    clear HO HB
    obtain ⟨v, hv, rfl, HO, HB⟩ := hrel
    obtain ⟨op, oc, rfl, _⟩ := owns_capL HO.out
    by_cases hlt : v < n
    · have hvi : (v : Int) < (n : Int) := by omega
      go_wp2_with fail
      go_loopw [3, 13] (fun ov iv wx => ∃ u : Nat, u ≤ v ∧ iv = .int .i64 (u : Int) ∧ Hid (wx.ownsRow w.heap.size 2 1 ov (cdTo E v u).length ((natInts (cdTo E v u)).map (Value.int .i64))) ∧ Hid (Below w.heap.size w wx)) (fun _ iv _ => v - (intOf iv).toNat)
      case atStart => exact ⟨0, Nat.zero_le _, rfl, HO, HB⟩
      case round =>
        clear HO HB
        obtain ⟨u, hu, rfl, HO, HB⟩ := hrel
        obtain ⟨op, oc, rfl, _⟩ := owns_capL HO.out
        by_cases hul : u < v
        · have hui : (u : Int) < (v : Int) := by omega
          obtain ⟨hb, ho, a, rfl, hca, ha16, hbit⟩ := (HH.out.next HB.out).get hlt
          have HBIT : Hid (a.testBit u = E v u) := Lib.hid (by rw [hbit u, decide_eq_true (by omega : u < n), Bool.true_and])
          have hlen := cdTo_le E (v := v) (u := u) (by omega) (by omega)
          have hown := HO.out
          have hsz := HB.out.size
          cases hE : E v u
          · have HD : Hid (a.testBit u = false) := Lib.hid (by rw [HBIT.out, hE])
            have HS : Hid (cdTo E v (u + 1) = cdTo E v u ++ [0]) := Lib.hid (by rw [cdTo_step, hE]; rfl)
            clear hbit hE
            go_wp2_with (first
              | (go_at_call 175; refine (has_any _ _ a u rfl rfl (by omega) (by omega) _).mono ?_; rintro e wa ⟨he, rfl⟩; rw [HD.out] at he; subst he)
              | (at_builtin; refine wpList_app1 ty_i64 rfl rfl rfl hown rfl rfl (by omega) (by omega) ?_; intro v' w1 hown' hg _))
            have HO1 := Lib.hid hown'
            have HB1 := Lib.hid (below_grown HB.out hown hg (Nat.le_refl _) hsz)
            go_roundw
            case rel => exact ⟨u + 1, by omega, by go_num, Lib.hid (by rw [HS.out, natInts_snoc, List.map_append, List.length_append]; exact HO1.out), HB1⟩
            case measure => simp [intOf]; omega
          · have HD : Hid (a.testBit u = true) := Lib.hid (by rw [HBIT.out, hE])
            have HS : Hid (cdTo E v (u + 1) = cdTo E v u ++ [1]) := Lib.hid (by rw [cdTo_step, hE]; rfl)
            clear hbit hE
            go_wp2_with (first
              | (go_at_call 175; refine (has_any _ _ a u rfl rfl (by omega) (by omega) _).mono ?_; rintro e wa ⟨he, rfl⟩; rw [HD.out] at he; subst he)
              | (at_builtin; refine wpList_app1 ty_i64 rfl rfl rfl hown rfl rfl (by omega) (by omega) ?_; intro v' w1 hown' hg _))
            have HO1 := Lib.hid hown'
            have HB1 := Lib.hid (below_grown HB.out hown hg (Nat.le_refl _) hsz)
            go_roundw
            case rel => exact ⟨u + 1, by omega, by go_num, Lib.hid (by rw [HS.out, natInts_snoc, List.map_append, List.length_append]; exact HO1.out), HB1⟩
            case measure => simp [intOf]; omega
        · obtain rfl : u = v := by omega
          go_wp2_with fail
          go_roundw
          case rel => exact ⟨u + 1, by omega, by go_num, Lib.hid (by rw [← cdTo_row]; exact HO.out), HB⟩
          case measure => simp [intOf]; omega
    · obtain rfl : v = n := by omega
      go_wp2_with fail
      go_ret
      exact ⟨_, rfl, HO.out, HB.out⟩

set_option maxRecDepth 100000 in
set_option maxHeartbeats 4000000 in
theorem implCodeOf_any (v : Value) (g : List (List Int)) (w : World) (hg : Gr w v g) (hok : GOk g) :
    Calls Tryd.prog 47 #[v] w fun e w' => ∃ u, e = .returned u ∧ Nums w' 2 .i64 u (natInts (cdTo (ofG g) g.length 0)) ∧ Below w.heap.size w w' := by
  have hg0 := hg
  obtain ⟨u, rfl, hr⟩ := hg
  obtain ⟨p, c, rfl, _⟩ := hr.shape
  obtain ⟨W0, hW0⟩ : ∃ W0, W0 = w.alloc (.cells #[.slice p g.length c] 29) := ⟨_, rfl⟩
  have hb0 : Below w.heap.size w W0 := by rw [hW0]; exact below_alloc _ _
  have HB0 := Lib.hid hb0
  have HBG : Hid (Box W0 w.heap.size 29 (.slice p g.length c)) := Lib.hid (by rw [hW0]; exact Box.new _ _ _)
  have HG := Lib.hid (hg0.below hb0)
  have HOK := Lib.hid hok
  have HDT := Lib.hid (dec_true hok)
  have c0 := HBG.out.cell
  clear hr hg0 hb0 hok
  go_enter Tryd.func47, Tryd.ntmps47
  go_upto_region 1 with fail
  rw [← hW0]
  clear hW0
  go_wp2_with (first
    | (go_at_call 135; refine (codeOf_any _ _ _ _ _ HNA.out).mono ?_; rintro e w4 ⟨y, rfl, ho4, hb4⟩; have HY := Lib.hid ho4; have HB4 := Lib.hid (HB3.out.trans (hb4.mono HB3.out.size)); clear ho4 hb4)
    | (go_at_call 89; refine (netsOf_any _ g _ (HG.out.below HB2.out) HOK.out).mono ?_; rintro e w3 ⟨x, rfl, ho, hb3⟩; have HNA := Lib.hid (neOfF HOK.out ho); obtain ⟨xp, xc, rfl, _⟩ := owns_capL ho; have HB3 := Lib.hid (HB2.out.trans (hb3.mono HB2.out.size)); clear ho hb3)
    | (go_at_call 87; refine (implGraphOk_any _ g _ HG.out).mono ?_; rintro e w2 ⟨he, hb2⟩; rw [HDT.out] at he; subst he; have HB2 := Lib.hid hb2; have c0 := hb2.at' c0; clear hb2))
  go_ret
  exact ⟨_, rfl, Nums.of_owns HY.out (by rw [natInts_length]) (by have := cdTo_le (ofG g) (v := g.length) (u := 0) HOK.out.le (by omega); omega), HB0.out.trans (HB4.out.mono HB0.out.size)⟩

set_option maxRecDepth 100000 in
set_option maxHeartbeats 4000000 in
theorem l4Code_any (v : Value) (g : List (List Int)) (w : World) (hg : Gr w v g) (hok : GOk g) :
    Calls Tryd.prog 136 #[v] w fun e w' => ∃ u, e = .returned u ∧ Nums w' 2 .i64 u (natInts (cdTo (ofG g) g.length 0)) ∧ Below w.heap.size w w' := by
  have hg0 := hg
  obtain ⟨u, rfl, hr⟩ := hg
  obtain ⟨p, c, rfl, _⟩ := hr.shape
  obtain ⟨W0, hW0⟩ : ∃ W0, W0 = w.alloc (.cells #[.slice p g.length c] 29) := ⟨_, rfl⟩
  have hb0 : Below w.heap.size w W0 := by rw [hW0]; exact below_alloc _ _
  have HB0 := Lib.hid hb0
  have HBG : Hid (Box W0 w.heap.size 29 (.slice p g.length c)) := Lib.hid (by rw [hW0]; exact Box.new _ _ _)
  have HG := Lib.hid (hg0.below hb0)
  have sz0 : W0.heap.size = w.heap.size + 1 := by rw [hW0, size_alloc]
  have HSZ := Lib.hid sz0
  have HOK := Lib.hid hok
  have h16 := hok.le
  have SYM : Hid (∀ a b, edB g b a = ofG g a b) := Lib.hid (fun a b => congrFun (congrFun (embE_ofG hok) a) b)
  obtain ⟨E, hE⟩ : ∃ E, E = ofG g := ⟨_, rfl⟩
  have HE := Lib.hid hE
  rw [← hE] at SYM ⊢
  have HO := Lib.hid (ownsRow_empty W0 2 1)
  have HB := Lib.hid (below_alloc W0 (.cells #[] 2))
  clear hr hg0 hb0 hok hE
  go_enter Tryd.func136, Tryd.ntmps136
  go_upto_region 1 with fail
  rw [← hW0]
  clear hW0
  go_wp2_with fail
  go_loopw [3, 4] (fun ov iv wr => ∃ v : Nat, v ≤ g.length ∧ iv = .int .i64 (v : Int) ∧ Hid (wr.ownsRow W0.heap.size 2 1 ov (cdTo E v 0).length ((natInts (cdTo E v 0)).map (Value.int .i64))) ∧ Hid (Below W0.heap.size W0 wr)) (fun _ iv _ => g.length - (intOf iv).toNat)
  case atStart => exact ⟨0, Nat.zero_le _, rfl, by rw [← sz0]; exact HO, HB⟩
  case round =>
    clear HO HB sz0
    obtain ⟨v, hv, rfl, HO, HB⟩ := hrel
    obtain ⟨op, oc, rfl, _⟩ := owns_capL HO.out
    have cg := HB.out.at' HBG.out.cell
    by_cases hlt : v < g.length
    · have hd : decide ((v : Int) < (g.length : Int)) = true := decide_eq_true (by omega)
      go_wp2_with (go_at_call 132; refine (l1Size_any _ g _ (HG.out.below HB.out)).mono ?_; rintro e w4 ⟨rfl, hb4⟩; have HB4 := Lib.hid (HB.out.trans (hb4.mono HB.out.size)); have HO4 := Lib.hid (ownsRow_below HO.out hb4); clear hb4)
      clear cg HO HB
      go_loopw [3, 5] (fun ov iv wx => ∃ u : Nat, u ≤ v ∧ iv = .int .i64 (u : Int) ∧ Hid (wx.ownsRow W0.heap.size 2 1 ov (cdTo E v u).length ((natInts (cdTo E v u)).map (Value.int .i64))) ∧ Hid (Below W0.heap.size W0 wx)) (fun _ iv _ => v - (intOf iv).toNat)
      case atStart => exact ⟨0, Nat.zero_le _, rfl, HO4, HB4⟩
      case round =>
        clear HO4 HB4
        obtain ⟨u, hu, rfl, HO, HB⟩ := hrel
        obtain ⟨op, oc, rfl, _⟩ := owns_capL HO.out
        have hcg := HB.out.at' HBG.out.cell
        by_cases hul : u < v
        · have hui : (u : Int) < (v : Int) := by omega
          have hun : u < g.length := by omega
          obtain ⟨fl, hfl⟩ : ∃ fl : Nat, fl = if E v u then 1 else 0 := ⟨_, rfl⟩
          have HED : Hid (dec ((v : Int) ∈ row g u) = E v u) := Lib.hid (by rw [← SYM.out]; unfold edB; rw [decide_dec])
          have FLAG : Hid (∀ w, Calls Tryd.prog 204 #[.bool (dec ((v : Int) ∈ row g u))] w fun e w' => e = .returned (.int .i64 (fl : Int)) ∧ w = w') := Lib.hid (fun w => by rw [HED.out, hfl]; exact l1Flag_any _ w)
          have HS : Hid (cdTo E v (u + 1) = cdTo E v u ++ [fl]) := Lib.hid (by rw [cdTo_step, hfl])
          have hlen := cdTo_le E (v := v) (u := u) (by omega) (by omega)
          have HGr := Lib.hid (HG.out.below HB.out)
          have hsr := HB.out.size
          clear hfl
          go_wp2_with (first
            | (go_at_call 109; refine (l1Edge_any _ g _ _ u v rfl rfl hun _ HGr.out).mono ?_; rintro e w4 ⟨rfl, hb4⟩; have BWA : Below wr.heap.size wr w4 := hb4; have hownc := ownsRow_below HO.out BWA; have hs4 := BWA.size; clear hb4)
            | (go_at_call 204; refine (FLAG.out _).mono ?_; rintro e w5 ⟨rfl, rfl⟩)
            | (at_builtin; refine wpList_app1 ty_i64 rfl rfl rfl hownc rfl rfl (by omega) (by omega) ?_; intro v' w7 hown7 hg7 _; have hb7 := below_grown (Below.refl W0.heap.size w4) hownc hg7 (Nat.le_refl _) (by omega)))
          have HOX := Lib.hid hown7
          have HBX := Lib.hid (HB.out.trans ((BWA.mono hsr).trans hb7))
          clear hcg
          go_roundw
          case rel => exact ⟨u + 1, by omega, by go_num, Lib.hid (by rw [HS.out, natInts_snoc, List.map_append, List.length_append]; exact HOX.out), HBX⟩
          case measure => simp [intOf]; omega
        · obtain rfl : u = v := by omega
          go_wp2_with fail
          go_roundw
          case rel => exact ⟨u + 1, by omega, by go_num, Lib.hid (by rw [← cdTo_row]; exact HO.out), HB⟩
          case measure => simp [intOf]; omega
    · obtain rfl : v = g.length := by omega
      have hd : decide ((g.length : Int) < (g.length : Int)) = false := decide_eq_false (by omega)
      go_wp2_with (go_at_call 132; refine (l1Size_any _ g _ (HG.out.below HB.out)).mono ?_; rintro e w4 ⟨rfl, hb4⟩; have HB4 := Lib.hid (HB.out.trans (hb4.mono HB.out.size)); have HO4 := Lib.hid (ownsRow_below HO.out hb4); clear hb4)
      go_ret
      exact ⟨_, rfl, Nums.of_owns HO4.out (by rw [natInts_length]) (by have := cdTo_le E (v := g.length) (u := 0) h16 (by omega); omega), HB0.out.trans (HB4.out.mono HB0.out.size)⟩

set_option maxRecDepth 100000 in
set_option maxHeartbeats 4000000 in
theorem specCodeOf_any (v : Value) (g : List (List Int)) (w : World) (hg : Gr w v g) (hok : GOk g) :
    Calls Tryd.prog 48 #[v] w fun e w' => ∃ u, e = .returned u ∧ Nums w' 2 .i64 u (natInts (cdTo (ofG g) g.length 0)) ∧ Below w.heap.size w w' := by
  have hg0 := hg
  obtain ⟨u, rfl, hr⟩ := hg
  obtain ⟨p, c, rfl, _⟩ := hr.shape
  obtain ⟨W0, hW0⟩ : ∃ W0, W0 = w.alloc (.cells #[.slice p g.length c] 29) := ⟨_, rfl⟩
  have hb0 : Below w.heap.size w W0 := by rw [hW0]; exact below_alloc _ _
  have HB0 := Lib.hid hb0
  have HBG : Hid (Box W0 w.heap.size 29 (.slice p g.length c)) := Lib.hid (by rw [hW0]; exact Box.new _ _ _)
  have HG := Lib.hid (hg0.below hb0)
  have HOK := Lib.hid hok
  have HDT := Lib.hid (dec_true hok)
  have c0 := HBG.out.cell
  clear hr hg0 hb0 hok
  go_enter Tryd.func48, Tryd.ntmps48
  go_upto_region 1 with fail
  rw [← hW0]
  clear hW0
  go_wp2_with (first
    | (go_at_call 136; refine (l4Code_any _ g _ (HG.out.below HB2.out) HOK.out).mono ?_; rintro e w4 ⟨y, rfl, ho4, hb4⟩; have HY := Lib.hid ho4; have HB4 := Lib.hid (HB2.out.trans (hb4.mono HB2.out.size)); clear ho4 hb4)
    | (go_at_call 73; refine (specGraphOk_any _ g _ HG.out).mono ?_; rintro e w2 ⟨he, hb2⟩; rw [HDT.out] at he; subst he; have HB2 := Lib.hid hb2; have c0 := hb2.at' c0; clear hb2))
  go_ret
  exact ⟨_, rfl, HY.out, HB0.out.trans (HB4.out.mono HB0.out.size)⟩

end Go.Proofs.YtkppbmfliejnmaaDoor

/- Walk: the reference's Canonical. -/
namespace Go.Proofs.YtkppbmfliejnmaaDoor
open Go.RowKit

/-- What Canonical returns: the first order of least code, and the graph by it. -/
def CanS (g gg : List (List Int)) (l : List Int) : Prop :=
  ((GOk g ∧ g.length ≤ 8) ∧ ∃ o, (levB g.length (edB g) g.length).head? = some o ∧ l = natInts o ∧ gg = indL g (natInts o)) ∨ (¬ (GOk g ∧ g.length ≤ 8) ∧ gg = [] ∧ l = [])
theorem canS_det {g g1 g2 : List (List Int)} {l1 l2 : List Int} (h : CanS g g1 l1) (k : CanS g g2 l2) : g1 = g2 ∧ l1 = l2 := by
  rcases h with ⟨h, o, h1, h2, h3⟩ | ⟨h, h1, h2⟩ <;> rcases k with ⟨k, p, k1, k2, k3⟩ | ⟨k, k1, k2⟩
  · rw [h1] at k1
    cases k1
    exact ⟨h3.trans k3.symm, h2.trans k2.symm⟩
  · exact absurd h k
  · exact absurd k h
  · exact ⟨h1.trans k1.symm, h2.trans k2.symm⟩

theorem sg_nilC (w : World) (base : Nat) : SG w base (.agg #[.slice none 0 0]) [] := ⟨_, [], rfl, rfl, World.ownsRow_nil _ _ _ _, fun j hj => by simp at hj⟩
theorem first_row {w : World} {base : Nat} {u : Value} {Ls : List (List Nat)} {o : List Nat} (h : SG w base (.agg #[u]) (Ls.map natInts)) (ho : Ls.head? = some o) (hl : Ls.length ≤ 16777216) :
    ∃ bb bo n c rp rc, u = .slice (some ⟨bb, bo, none⟩) n c ∧ 0 < n ∧ w.cell? ⟨bb, bo, none⟩ = some (.slice rp o.length rc) ∧ Nums w 2 .i64 (.slice rp o.length rc) (natInts o) := by
  cases Ls with
  | nil => simp at ho
  | cons o' Ls =>
    obtain rfl : o' = o := by simpa using ho
    obtain ⟨_, e, hr⟩ := h.gr (by rw [List.length_map]; omega)
    simp only [Value.agg.injEq, Array.mk.injEq, List.cons.injEq, and_true] at e
    subst e
    obtain ⟨p, c, rfl, _⟩ := hr.shape
    obtain ⟨bb, bo, rp, rc, rfl, hco, hno⟩ := hr.get (k := 0) (by simp)
    have e0 : ((o' :: Ls).map natInts).getD 0 [] = natInts o' := rfl
    rw [e0, natInts_length] at hco hno
    exact ⟨bb, bo, _, c, rp, rc, rfl, by simp, hco, hno⟩

end Go.Proofs.YtkppbmfliejnmaaDoor

/- Plain: two lines of the same numbers, and what crosses. -/
namespace Go.Proofs.YtkppbmfliejnmaaDoor

theorem ordOk_mem {n : Nat} {l : List Int} (h : OrdOk n l) {x : Int} (h0 : 0 ≤ x) (h1 : x < n) : x ∈ l := by
  refine Classical.byContradiction fun hx => ?_
  have hs : SetIn (n : Int) ((l ++ [x]).mergeSort fun x y => decide (x ≤ y)) := setIn_sort.2 ⟨fun y hy => by
    rcases List.mem_append.1 hy with hy | hy
    · exact h.2.1 y hy
    · simp only [List.mem_singleton] at hy; subst hy; exact ⟨h0, h1⟩, nodup_snoc.2 ⟨h.2.2, hx⟩⟩
  have := setIn_length (by omega) hs
  rw [List.length_mergeSort, List.length_append, h.1] at this
  simp at this
  omega

/-- Where a number stands first. -/
def plcN : List Int → Int → Nat
  | [], _ => 0
  | x :: l, v => if x = v then 0 else plcN l v + 1
def plc (a : List Int) (v : Int) : Int := if v ∈ a then ((plcN a v : Nat) : Int) else -1

theorem plcN_first : ∀ (a : List Int) (v : Int) (k : Nat) (hk : k < a.length), a[k] = v → v ∉ a.take k → plcN a v = k
  | [], _, _, hk, _, _ => by simp at hk
  | x :: l, v, 0, _, h, _ => by simp at h; simp [plcN, h]
  | x :: l, v, k + 1, hk, h, hn => by
    simp only [List.take_succ_cons, List.mem_cons, not_or] at hn
    simp only [List.getElem_cons_succ] at h
    simp only [List.length_cons] at hk
    have := plcN_first l v k (by omega) h hn.2
    unfold plcN
    rw [if_neg (fun e => hn.1 e.symm), this]
theorem plcN_get : ∀ (a : List Int) (v : Int), v ∈ a → a[plcN a v]? = some v
  | [], _, h => by simp at h
  | x :: l, v, h => by
    unfold plcN
    by_cases e : x = v
    · rw [if_pos e]; simp [e]
    · rw [if_neg e]
      simp only [List.mem_cons] at h
      rcases h with h | h
      · exact absurd h.symm e
      · simpa using plcN_get l v h
theorem plc_first {a : List Int} {v : Int} {k : Nat} (hk : k < a.length) (h : a[k] = v) (hn : v ∉ a.take k) : plc a v = k := by
  unfold plc
  rw [if_pos (mem_of_getElem hk h), plcN_first a v k hk h hn]
theorem plc_out {a : List Int} {v : Int} (h : v ∉ a) : plc a v = -1 := by unfold plc; rw [if_neg h]
theorem plc_at {a : List Int} (h : a.Nodup) {k : Nat} (hk : k < a.length) : plc a a[k] = k := by
  refine plc_first hk rfl ?_
  have h1 : (a.take (k + 1)).Nodup := h.sublist (List.take_sublist _ _)
  rw [take_snoc' a k hk] at h1
  exact (nodup_snoc.1 h1).2
theorem plc_inj {a : List Int} {u v : Int} (hu : u ∈ a) (hv : v ∈ a) (h : plc a u = plc a v) : u = v := by
  unfold plc at h
  rw [if_pos hu, if_pos hv] at h
  have e1 := plcN_get a u hu
  have e2 := plcN_get a v hv
  rw [show plcN a u = plcN a v by omega, e2] at e1
  exact (Option.some.inj e1).symm
theorem plc_lt {a : List Int} (v : Int) : -1 ≤ plc a v ∧ plc a v ≤ a.length := by
  unfold plc
  split
  · rename_i h
    have e1 := plcN_get a v h
    have := (List.getElem?_eq_some_iff.1 e1).1
    omega
  · omega

/-- Two numbers stand crosswise. -/
def crE (a b : List Int) (u v : Int) : Bool := decide (u ≠ v) && (decide (plc a u < plc a v) != decide (plc b u < plc b v))
def crN (a b : List Int) : Nat → Nat → Bool := fun u v => crE a b u v
def LineOk (a : List Int) : Prop := 1 ≤ a.length ∧ a.length ≤ 16 ∧ OrdOk a.length a
def LinesOk (a b : List Int) : Prop := LineOk a ∧ LineOk b ∧ a.length = b.length

theorem crN_sym {a b : List Int} (h : LinesOk a b) : SymE a.length (crN a b) := by
  refine ⟨fun r j hr hj => ?_, fun r hr => by simp [crN, crE]⟩
  unfold crN crE
  by_cases e : r = j
  · subst e; rfl
  have ha := h.1.2.2
  have hb := h.2.1.2.2
  have hl := h.2.2
  have e' : ((r : Int)) ≠ ((j : Nat) : Int) := fun q => e (by omega)
  have a1 : plc a r ≠ plc a j := fun q => e' (plc_inj (ordOk_mem ha (by omega) (by omega)) (ordOk_mem ha (by omega) (by omega)) q)
  have b1 : plc b r ≠ plc b j := fun q => e' (plc_inj (ordOk_mem hb (by omega) (by omega)) (ordOk_mem hb (by omega) (by omega)) q)
  have x1 : decide (plc a j < plc a r) = !decide (plc a r < plc a j) := by
    rw [Bool.eq_iff_iff]; simp; omega
  have x2 : decide (plc b j < plc b r) = !decide (plc b r < plc b j) := by
    rw [Bool.eq_iff_iff]; simp; omega
  have x3 : decide ((j : Int) ≠ (r : Int)) = decide ((r : Int) ≠ (j : Int)) := by
    rw [Bool.eq_iff_iff]; simp; omega
  rw [x1, x2, x3]
  cases decide (plc a r < plc a j) <;> cases decide (plc b r < plc b j) <;> rfl

/-- What PermGraph returns. -/
def PermS (a b : List Int) (gg : List (List Int)) (ok : Bool) : Prop :=
  (ok = true ∧ LinesOk a b ∧ gg = matG a.length (crN a b)) ∨ (ok = false ∧ gg = [] ∧ ¬ LinesOk a b)
theorem permS_det {a b : List Int} {gg hh : List (List Int)} {ok ok' : Bool} (h : PermS a b gg ok) (h' : PermS a b hh ok') : gg = hh ∧ ok = ok' := by
  rcases h with ⟨rfl, h1, rfl⟩ | ⟨rfl, rfl, h⟩ <;> rcases h' with ⟨rfl, h1', rfl⟩ | ⟨rfl, rfl, h'⟩
  · exact ⟨rfl, rfl⟩
  · exact absurd h1 h'
  · exact absurd h1' h
  · exact ⟨rfl, rfl⟩

theorem permS_yes {a b : List Int} {gg : List (List Int)} {ok : Bool} (h : PermS a b gg ok) (hl : LinesOk a b) : gg = matG a.length (crN a b) ∧ ok = true := by
  rcases h with ⟨h1, _, h2⟩ | ⟨_, _, h⟩
  · exact ⟨h2, h1⟩
  · exact absurd hl h
theorem permS_no {a b : List Int} {gg : List (List Int)} {ok : Bool} (h : PermS a b gg ok) (hl : ¬ LinesOk a b) : gg = [] ∧ ok = false := by
  rcases h with ⟨_, h, _⟩ | ⟨h1, h2, _⟩
  · exact absurd h hl
  · exact ⟨h2, h1⟩

/-- What stands in the places behind k rounds. -/
def placesL (a : List Int) (k : Nat) : List Int := (List.range a.length).map fun v => if ((v : Nat) : Int) ∈ a.take k then plc a v else 0
theorem placesL_length (a : List Int) (k : Nat) : (placesL a k).length = a.length := by simp [placesL]
theorem placesL_zero (a : List Int) : placesL a 0 = List.replicate a.length 0 := by
  refine List.ext_getElem (by simp [placesL]) fun j h1 h2 => ?_
  simp [placesL]
theorem placesL_step {a : List Int} (h : OrdOk a.length a) {k : Nat} (hk : k < a.length) : (placesL a k).set a[k].toNat k = placesL a (k + 1) := by
  have h0 := h.2.1 _ (List.getElem_mem hk)
  refine List.ext_getElem (by simp [placesL]) fun j h1 h2 => ?_
  rw [placesL_length] at h2
  rw [List.getElem_set]
  simp only [placesL, List.getElem_map, List.getElem_range]
  rw [take_snoc' a k hk]
  by_cases e : a[k].toNat = j
  · rw [if_pos e]
    have ej : ((j : Nat) : Int) = a[k] := by omega
    rw [if_pos (by rw [ej]; exact List.mem_append_right _ (List.mem_singleton.2 rfl)), ej, plc_at h.2.2 hk]
  · rw [if_neg e]
    have ej : ((j : Nat) : Int) ≠ a[k] := by omega
    have : ((j : Nat) : Int) ∈ a.take k ++ [a[k]] ↔ ((j : Nat) : Int) ∈ a.take k := by rw [List.mem_append, List.mem_singleton]; exact or_iff_left ej
    simp only [this]
theorem placesL_end {a : List Int} (h : OrdOk a.length a) : placesL a a.length = (List.range a.length).map fun v => plc a ((v : Nat) : Int) := by
  refine List.ext_getElem (by simp [placesL]) fun j h1 h2 => ?_
  rw [placesL_length] at h1
  simp only [placesL, List.getElem_map, List.getElem_range, List.take_length]
  rw [if_pos (ordOk_mem h (by omega) (by omega))]
theorem placesL_get {a : List Int} (h : OrdOk a.length a) {i : Nat} (hi : i < (placesL a a.length).length) : (placesL a a.length)[i] = plc a ((i : Nat) : Int) := by
  have e := placesL_end h
  simp only [e, List.getElem_map, List.getElem_range]

/-- The double loop of masks. -/
theorem matG_inj {m : Nat} {E F : Nat → Nat → Bool} (h : matG m E = matG m F) : ∀ r j, r < m → j < m → E r j = F r j := by
  intro r j hr hj
  have h1 : ((j : Nat) : Int) ∈ row (matG m E) r ↔ ((j : Nat) : Int) ∈ row (matG m F) r := by rw [h]
  rw [mem_matG hr, mem_matG hr] at h1
  rw [Bool.eq_iff_iff]
  constructor
  · intro h2
    obtain ⟨i, hi, _, h3⟩ := h1.1 ⟨j, rfl, hj, h2⟩
    obtain rfl : i = j := by omega
    exact h3
  · intro h2
    obtain ⟨i, hi, _, h3⟩ := h1.2 ⟨j, rfl, hj, h2⟩
    obtain rfl : i = j := by omega
    exact h3
theorem uptoN_start (m : Nat) (E : Nat → Nat → Bool) : indN m (uptoE E 0 0) = List.replicate m 0 := indN_none m fun r j _ _ => by simp [uptoE]
theorem uptoN_row {m : Nat} {E : Nat → Nat → Bool} (h : SymE m E) {i : Nat} : indN m (uptoE E i i) = indN m (uptoE E (i + 1) 0) := indN_congr (matG_inj (upto_row h))
theorem uptoN_end {m : Nat} {E : Nat → Nat → Bool} : indN m (uptoE E m 0) = indN m E := indN_congr (matG_inj upto_end)
theorem uptoN_no {m : Nat} {E : Nat → Nat → Bool} (h : SymE m E) {i k : Nat} (hi : i < m) (hk : k < i) (he : E i k = false) : indN m (uptoE E i k) = indN m (uptoE E i (k + 1)) := indN_congr (matG_inj (upto_no h hi hk he))
theorem uptoN_yes {m : Nat} {E : Nat → Nat → Bool} (h : SymE m E) {i k : Nat} (hi : i < m) (hk : k < i) (he : E i k = true) : joinL (indN m (uptoE E i k)) i k = indN m (uptoE E i (k + 1)) := by
  have h1 := upto_yes h hi hk he
  rw [link_matG (by omega) hi (by omega)] at h1
  have h2 := matG_inj h1
  refine natList_ext (by rw [joinL_length, indN_length, indN_length]) fun r hr => ?_
  rw [joinL_length, indN_length] at hr
  refine Nat.eq_of_testBit_eq fun j => ?_
  rw [Bool.eq_iff_iff, joinL_testBit (by rw [indN_length]; exact hi) (by rw [indN_length]; omega) (by omega), indN_bit hr, indN_bit hr]
  by_cases hj : j < m
  · rw [← h2 r j hr hj]
    simp only [hj, decide_true, Bool.true_and, Bool.or_eq_true, Bool.and_eq_true, beq_iff_eq]
    constructor
    · rintro (h | ⟨rfl, rfl⟩ | ⟨rfl, rfl⟩)
      · exact .inl (.inl h)
      · exact .inr ⟨rfl, rfl⟩
      · exact .inl (.inr ⟨rfl, rfl⟩)
    · rintro ((h | ⟨rfl, rfl⟩) | ⟨rfl, rfl⟩)
      · exact .inl h
      · exact .inr (.inr ⟨rfl, rfl⟩)
      · exact .inr (.inl ⟨rfl, rfl⟩)
  · simp only [hj, decide_false, Bool.false_and, Bool.false_eq_true, false_or, iff_false]
    rintro (⟨rfl, rfl⟩ | ⟨rfl, rfl⟩) <;> omega

end Go.Proofs.YtkppbmfliejnmaaDoor
