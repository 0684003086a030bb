/- Walk: a drawn order. -/
import Derived.Test.YtkppbmfliejnmaaDoorCaQ38
import Derived.Test.YtkppbmfliejnmaaDoorCaQ19
import Derived.Test.YtkppbmfliejnmaaDoorCaQ24
namespace Go.Proofs.YtkppbmfliejnmaaDoor
open Go.RowKit

theorem owned_kept {w w' : World} {base base2 : Nat} {E F : TypeId} {ev v : Value} {m n : Nat} {vals xs : List Value} (h : w.ownsRow base E 1 ev m vals) (_ho : w.ownsRow base2 F 1 v n xs) (hg : w.grownBy w' v.ownBlock) (hne : ∀ b, ev.ownBlock = some b → v.ownBlock ≠ some b) : w'.ownsRow base E 1 ev m vals := by
  refine h.kept hg ?_
  cases hb : ev.ownBlock with
  | none => exact .inl rfl
  | some b => exact .inr fun e => hne b hb e.symm
theorem drop_rest {w : World} {b o c n k : Nat} {l : List Nat} (hn : n = l.length) (hk : k < n) (h : Nums w 2 .i64 (.slice (some ⟨b, o, none⟩) n c) (natInts l)) (hc : ¬ c = k + 1) : Sl w 2 (.slice (some ⟨b, o + (k + 1), none⟩) (n - (k + 1)) (c - (k + 1))) (n - (k + 1)) ((natInts (l.drop (k + 1))).map (Value.int .i64)) := by
  subst hn
  have h1 := nums_drop1 (k := k + 1) hk h
  have h2 : Sl w 2 (.slice (some ⟨b, o + (k + 1), none⟩) (l.length - (k + 1)) (c - (k + 1))) (natInts (l.drop (k + 1))).length ((natInts (l.drop (k + 1))).map (Value.int .i64)) := h1
  rw [natInts_length, List.length_drop] at h2
  exact h2

set_option maxRecDepth 100000 in
set_option maxHeartbeats 8000000 in
theorem l1DrawOrder_any (w0 : World) (cb : Nat) (bs : List Int) (v : Value) (g : List (List Int)) (hgl : g.length ≤ 17) (w : World) (hc : Cur w0 w cb bs) (hg : Gr w v g) :
    Calls Tryd.prog 128 #[.pointer (some ⟨cb, 0, none⟩), v] w fun e w' => ∃ (u : Value) (l : List Int), e = .returned u ∧ Nums w' 2 .i64 u l ∧ l.length ≤ 17 ∧ Cur w0 w' cb bs ∧ w.grownBy w' (some cb) := by
  have hcb := hc.cb_lt
  obtain ⟨u, rfl, hr⟩ := hg
  obtain ⟨p, c, rfl, _⟩ := hr.shape
  obtain ⟨W0, hW0⟩ : ∃ W0, W0 = w.alloc (.cells #[.slice p g.length c] 29) := ⟨_, rfl⟩
  have hb0 : Below w.heap.size w W0 := by rw [hW0]; exact below_alloc _ _
  have HBG : Hid (Box W0 w.heap.size 29 (.slice p g.length c)) := Lib.hid (by rw [hW0]; exact Box.new _ _ _)
  have HC0 := Lib.hid (hc.keep hb0)
  have HW0 := Lib.hid (grown_of_below hb0 (some cb))
  have sz0 : W0.heap.size = w.heap.size + 1 := by rw [hW0, size_alloc]
  have c0 := HBG.out.cell
  clear hr hc hb0
  go_enter Tryd.func128, Tryd.ntmps128
  go_upto_region 1 with fail
  rw [← hW0]
  clear hW0
  go_upto_region 2 with (go_at_call 143; refine (l1All_any _ g.length rfl (by omega) _).mono ?_; rintro e w1 ⟨lv, rfl, ho1, hb1⟩; have HL1 := Lib.hid (ownsRow_base ho1 (show w.heap.size ≤ W0.heap.size by omega)); have HC1 := Lib.hid (HC0.out.keep hb1); have HW1 := Lib.hid (grown_trans HW0.out (grown_of_below hb1 (some cb))); have sz1 := hb1.size; clear ho1 hb1)
  have START := Lib.hid (ownsRow_base (ownsRow_empty w1 2 1) (show w.heap.size ≤ w1.heap.size by omega))
  have SL := Lib.hid (ownsRow_below HL1.out (below_alloc w1 (.cells #[] 2)))
  have SC := Lib.hid (HC1.out.keep (below_alloc w1 (.cells #[] 2)))
  have SW := Lib.hid (grown_trans HW1.out (grown_of_below (below_alloc w1 (.cells #[] 2)) (some cb)))
  have SN : Hid (∀ k, lv.ownBlock = some k → (Value.slice (some ⟨w1.heap.size, 0, none⟩) 0 0).ownBlock ≠ some k) := Lib.hid (fun k hk e => by
    have h1 := (HL1.out.lt k hk).2
    have h2 : (Value.slice (some ⟨w1.heap.size, 0, none⟩) 0 0).ownBlock = some w1.heap.size := rfl
    rw [h2] at e
    cases e
    omega)
  clear HC0 HW0 HC1 HW1
  go_wp2_with fail
  go_loopw [5, 6] (fun lv ov wr => ∃ (ys xs : List Nat), xs.length + ys.length = g.length ∧ Hid (wr.ownsRow w.heap.size 2 1 lv ys.length ((natInts ys).map (Value.int .i64))) ∧ Hid (wr.ownsRow w.heap.size 2 1 ov xs.length ((natInts xs).map (Value.int .i64))) ∧ Hid (∀ k, lv.ownBlock = some k → ov.ownBlock ≠ some k) ∧ Hid (Cur w0 wr cb bs) ∧ Hid (w.grownBy wr (some cb))) (fun lv _ _ => match lv with | .slice _ n _ => n | _ => 0)
  case atStart => exact ⟨List.range g.length, [], by simp, by rw [List.length_range]; exact SL, START, SN, SC, SW⟩
  case round =>
    clear HL1 START SL SC SW SN c0
    obtain ⟨ys, xs, hlen, HL, HO, HN, HC, HW⟩ := hrel
    obtain ⟨lp, lc, rfl, hlc⟩ := owns_capL HL.out
    obtain ⟨op, oc, rfl, hoc⟩ := owns_capL HO.out
    by_cases hpos : 0 < ys.length
    · have hposi : (0 : Int) < (ys.length : Int) := by omega
      go_upto_region 5 with (go_at_call 148; refine (l1Below_any w0 cb bs ys.length (by omega) _ HC.out).mono ?_; rintro e w4 ⟨k, rfl, hk, _, hc4, hg4⟩; have hkl := hk hposi; have HC4 := Lib.hid hc4; have HL4 := Lib.hid (ownsRow_cured HC.out hg4 (by decide) HL.out); have HO4 := Lib.hid (ownsRow_cured HC.out hg4 (by decide) HO.out); have HW4 := Lib.hid (grown_trans HW.out hg4); clear hk hc4 hg4)
      have hkn : k < ys.length := by omega
      clear HL HO HC HW
      have HNL : Hid (Nums w4 2 .i64 (.slice lp ys.length lc) (natInts ys)) := Lib.hid (Nums.of_owns HL4.out (by rw [natInts_length]) (by omega))
      obtain ⟨lb, lo, rfl, hlce⟩ := HNL.out.get (k := k) (by rw [natInts_length]; exact hkn)
      rw [natInts_atL hkn] at hlce
      generalize ys[k] = y at hlce
      have hown := HO4.out
      have hwz := HW4.out.size
      go_upto_region 6 with (at_builtin; refine wpList_app1 ty_i64 rfl rfl rfl hown rfl rfl (by omega) (by omega) ?_; intro v' w5 hown5 hg5 hnb5)
      have HO5 := Lib.hid hown5
      have HL5 := Lib.hid (owned_kept HL4.out HO4.out hg5 HN.out)
      have hQ : ∀ k, (Value.slice op xs.length oc).ownBlock = some k → w.heap.size ≤ k := fun k hk => (HO4.out.lt k hk).1
      have HC5 := Lib.hid (HC4.out.over hg5 (fun k hk => by have := hQ k hk; omega))
      have HW5 := Lib.hid (grown_over HW4.out hg5 hQ)
      have HNL5 : Hid (Nums w5 2 .i64 (.slice (some ⟨lb, lo, none⟩) ys.length lc) (natInts ys)) := Lib.hid (Nums.of_owns HL5.out (by rw [natInts_length]) (by omega))
      obtain ⟨op5, oc5, rfl, hoc5⟩ := owns_capL HO5.out
      clear hown hown5 hg5 hnb5 HL4 HO4 HNL hlce HC4 HW4 hwz
      have T5 : Hid (∀ W, Below w5.heap.size w5 W → Sl W 2 (.slice (some ⟨lb, lo, none⟩) k lc) k ((natInts (ys.take k)).map (Value.int .i64))) := Lib.hid (fun W hW => take_sl (by omega) (HNL5.out.below hW))
      have T6 : Hid (((natInts (ys.take k)).map (Value.int .i64)).length = k) := Lib.hid (by rw [List.length_map, natInts_length, List.length_take]; omega)
      have T7 : Hid (∀ x ∈ (natInts (ys.take k)).map (Value.int .i64), x.oneCell' = true) := Lib.hid (by intro x hx; obtain ⟨z, _, rfl⟩ := List.mem_map.1 hx; rfl)
      have T8 : Hid (((natInts (ys.drop (k + 1))).map (Value.int .i64)).length = (ys.length - (k + 1)) * 1) := Lib.hid (by rw [List.length_map, natInts_length, List.length_drop]; omega)
      have T9 : Hid (∀ x ∈ (natInts (ys.drop (k + 1))).map (Value.int .i64), x.oneCell' = true) := Lib.hid (by intro x hx; obtain ⟨z, _, rfl⟩ := List.mem_map.1 hx; rfl)
      have T10 : Hid (k + (ys.length - (k + 1)) ≤ 1000000000) := Lib.hid (by omega)
      have hwr : IntKind.i64.wrap ((k : Int) + 1) = (k : Int) + 1 := by rw [IntKind.wrap_i64]; omega
      have f1 : (0 : Int) ≤ (k : Int) + 1 := by omega
      have f2 : (k : Int) + 1 ≤ (ys.length : Int) := by omega
      have f3 : (k : Int) ≤ (ys.length : Int) := by omega
      have f4 : (k : Int) ≤ (lc : Int) := by omega
      have f5 : (ys.length : Int) ≤ (lc : Int) := by omega
      have f6 : (0 : Int) ≤ (k : Int) := by omega
      have FIN : Hid (∀ (lv2 : Value) (w7 : World), w7.ownsRow w5.heap.size 2 1 lv2 (k + (ys.length - (k + 1))) ((natInts (ys.take k)).map (Value.int .i64) ++ (natInts (ys.drop (k + 1))).map (Value.int .i64)) → Below w5.heap.size w5 w7 → ∃ (ys2 xs2 : List Nat), ys2.length < ys.length ∧ (∃ a b, lv2 = .slice a ys2.length b) ∧ xs2.length + ys2.length = g.length ∧ Hid (w7.ownsRow w.heap.size 2 1 lv2 ys2.length ((natInts ys2).map (Value.int .i64))) ∧ Hid (w7.ownsRow w.heap.size 2 1 (.slice op5 (xs.length + 1) oc5) xs2.length ((natInts xs2).map (Value.int .i64))) ∧ Hid (∀ k, lv2.ownBlock = some k → (Value.slice op5 (xs.length + 1) oc5).ownBlock ≠ some k) ∧ Hid (Cur w0 w7 cb bs) ∧ Hid (w.grownBy w7 (some cb))) := Lib.hid (fun lv2 w7 h1 hb7 => by
        have hz5 := HW5.out.size
        have e1 : (natInts (ys.take k)).map (Value.int .i64) ++ (natInts (ys.drop (k + 1))).map (Value.int .i64) = (natInts (ys.take k ++ ys.drop (k + 1))).map (Value.int .i64) := by rw [natInts_app, List.map_append]
        have e2 : (ys.take k ++ ys.drop (k + 1)).length = k + (ys.length - (k + 1)) := by rw [List.length_append, List.length_take, List.length_drop]; omega
        have e3 : (natInts xs).map (Value.int .i64) ++ [Value.int .i64 (y : Int)] = (natInts (xs ++ [y])).map (Value.int .i64) := by rw [natInts_snoc, List.map_append]; rfl
        rw [e1, ← e2] at h1
        refine ⟨ys.take k ++ ys.drop (k + 1), xs ++ [y], by omega, ?_, by rw [List.length_append, e2, List.length_singleton]; omega, Lib.hid (ownsRow_base h1 hz5), Lib.hid ?_, Lib.hid (fun j hj e => ?_), Lib.hid (HC5.out.keep hb7), Lib.hid (grown_trans HW5.out (grown_of_below hb7 (some cb)))⟩
        · obtain ⟨a, b, e, _⟩ := owns_capL h1
          exact ⟨a, b, e⟩
        · rw [List.length_append, List.length_singleton, ← e3]
          exact ownsRow_below HO5.out hb7
        · have h2 := (h1.lt j hj).1
          have h3 := (HO5.out.lt j e).2
          omega)
      clear HC5 HW5 HL5
      by_cases hcm : lc = k + 1
      · subst hcm
        have g1 : (k : Int) ≤ ((k + 1 : Nat) : Int) := by omega
        have g2 : (k : Int) ≤ (k : Int) + 1 := by omega
        have g3 : k ≤ k + 1 := by omega
        obtain hyk : ys.length = k + 1 := by omega
        have T1 : Hid (∀ W, Below w5.heap.size w5 W → Sl W 2 (.slice (some ⟨lb, lo, none⟩) 0 0) (ys.length - (k + 1)) ((natInts (ys.drop (k + 1))).map (Value.int .i64))) := Lib.hid (fun W hW => by
          have h2 : ys.length - (k + 1) = 0 := by omega
          have h3 : ys.drop (k + 1) = [] := List.drop_of_length_le (by omega)
          rw [h2, h3]
          exact Sl.nothing _ _ _ _ (by simp))
        go_region_held3 (fun _ => True) (exact trivial)
          (first
            | (have hq6 := HO6.out; refine wanted_wp rfl ?_; refine wp_apps (s := .tmp 30) (x := .tmp 34) ty_i64 ?_ ?_ hq6 ?_ (T1.out _ BWA) T8.out T9.out T10.out hs6 ?_; exact rfl; exact rfl; exact rfl; intro lv2 w7 hown7 hg7; have HR7 := Lib.hid (FIN.out lv2 w7 hown7 (below_grown BWA HO6.out hg7 (Nat.le_refl _) hs6)); clear hown7 hg7 hq6)
            | (go_at_call 200; refine (l1Copy_any _ k ((natInts (ys.take k)).map (Value.int .i64)) T7.out T6.out _ (T5.out _ (below_dN (Below.refl _ _) 1))).mono ?_; rintro e w6 ⟨cv, rfl, ho6, hb6⟩; obtain ⟨cp, cc, rfl⟩ := owns_shapeT ho6; have BWA : Below w5.heap.size w5 w6 := (below_dN (Below.refl _ _) 1).trans hb6; have HO6 : Hid (w6.ownsRow w5.heap.size 2 1 (.slice cp k cc) k ((natInts (ys.take k)).map (Value.int .i64))) := Lib.hid ho6; have hs6 := BWA.size; clear ho6 hb6))
        all_goals
          obtain ⟨ys2, xs2, hlt2, ⟨qa, qb, hlv2⟩, R1, R2, R3, R4, R5, R6⟩ := HR7.out
          subst hlv2
          go_wp2
          go_roundw
          case rel => exact ⟨ys2, xs2, R1, R2, R3, R4, R5, R6⟩
          case measure => exact hlt2
      · have hcm3 : ¬ lc - (k + 1) = 0 := by omega
        have hcm4 : ¬ k + 1 = lc := by omega
        have hcm2 : k + 1 < lc := by omega
        have T1 : Hid (∀ W, Below w5.heap.size w5 W → Sl W 2 (.slice (some ⟨lb, lo + (k + 1), none⟩) (ys.length - (k + 1)) (lc - (k + 1))) (ys.length - (k + 1)) ((natInts (ys.drop (k + 1))).map (Value.int .i64))) := Lib.hid (fun W hW => drop_rest rfl hkn (HNL5.out.below hW) hcm)
        go_region_held3 (fun _ => True) (exact trivial)
          (first
            | (have hq6 := HO6.out; refine wanted_wp rfl ?_; refine wp_apps (s := .tmp 30) (x := .tmp 34) ty_i64 ?_ ?_ hq6 ?_ (T1.out _ BWA) T8.out T9.out T10.out hs6 ?_; exact rfl; exact rfl; exact rfl; intro lv2 w7 hown7 hg7; have HR7 := Lib.hid (FIN.out lv2 w7 hown7 (below_grown BWA HO6.out hg7 (Nat.le_refl _) hs6)); clear hown7 hg7 hq6)
            | (go_at_call 200; refine (l1Copy_any _ k ((natInts (ys.take k)).map (Value.int .i64)) T7.out T6.out _ (T5.out _ (below_dN (Below.refl _ _) 1))).mono ?_; rintro e w6 ⟨cv, rfl, ho6, hb6⟩; obtain ⟨cp, cc, rfl⟩ := owns_shapeT ho6; have BWA : Below w5.heap.size w5 w6 := (below_dN (Below.refl _ _) 1).trans hb6; have HO6 : Hid (w6.ownsRow w5.heap.size 2 1 (.slice cp k cc) k ((natInts (ys.take k)).map (Value.int .i64))) := Lib.hid ho6; have hs6 := BWA.size; clear ho6 hb6))
        all_goals
          obtain ⟨ys2, xs2, hlt2, ⟨qa, qb, hlv2⟩, R1, R2, R3, R4, R5, R6⟩ := HR7.out
          subst hlv2
          go_wp2
          go_roundw
          case rel => exact ⟨ys2, xs2, R1, R2, R3, R4, R5, R6⟩
          case measure => exact hlt2
    · obtain rfl : ys = [] := List.eq_nil_of_length_eq_zero (by omega)
      have hxl : xs.length ≤ 17 := by simp at hlen; omega
      clear HL hlc hpos hlen
      go_upto_region 7 with fail
      go_cut [42] (fun s wx => ∃ b : Bool, s = .bool b ∧ (b = true → 0 < xs.length) ∧ Hid (wx.ownsRow w.heap.size 2 1 (.slice op xs.length oc) xs.length ((natInts xs).map (Value.int .i64))) ∧ Hid (Cur w0 wx cb bs) ∧ Hid (w.grownBy wx (some cb)))
      case first =>
        by_cases hx0 : 0 < xs.length
        · have hx0i : decide ((0 : Int) < (xs.length : Int)) = true := decide_eq_true (by omega)
          go_wp2_with (go_at_call 129; refine (l1Once_any w0 cb bs 15 (by decide) _ HC.out).mono ?_; rintro e w2 ⟨b, rfl, hc2, hg2⟩; have HO2 := Lib.hid (ownsRow_cured HC.out hg2 (by decide) HO.out); have HC2 := Lib.hid hc2; have HW2 := Lib.hid (grown_trans HW.out hg2); clear hc2 hg2; cases b)
          all_goals try go_wp2
          all_goals go_meet
          all_goals exact ⟨_, rfl, fun _ => hx0, HO2, HC2, HW2⟩
        · have hx0i : decide ((0 : Int) < (xs.length : Int)) = false := decide_eq_false (by omega)
          go_wp2_with (go_at_call 129; refine (l1Once_any w0 cb bs 15 (by decide) _ HC.out).mono ?_; rintro e w2 ⟨b, rfl, hc2, hg2⟩; have HO2 := Lib.hid (ownsRow_cured HC.out hg2 (by decide) HO.out); have HC2 := Lib.hid hc2; have HW2 := Lib.hid (grown_trans HW.out hg2); clear hc2 hg2; cases b)
          all_goals try go_wp2
          all_goals go_meet
          all_goals exact ⟨false, rfl, by simp, HO2, HC2, HW2⟩
      case rest =>
        obtain ⟨b, rfl, hb, HO2, HC2, HW2⟩ := hcut
        clear HO HC HW
        cases b
        · go_wp2_with fail
          go_ret
          exact ⟨_, natInts xs, rfl, Nums.of_owns HO2.out (by rw [natInts_length]) (by omega), by rw [natInts_length]; exact hxl, HC2.out, HW2.out⟩
        · have hx0 := hb rfl
          have hx0i : (0 : Int) < (xs.length : Int) := by omega
          obtain ⟨ob, rfl⟩ : ∃ ob, op = some ⟨ob, 0, none⟩ := by
            rcases HO2.out.2 with ⟨h1, h0⟩ | ⟨b, cc, _, h1, _⟩
            · omega
            · simp only [Value.slice.injEq] at h1
              exact ⟨b, h1.1⟩
          have hob := (HO2.out.lt ob rfl).1
          have hcbo : cb < ob := by omega
          go_wp2_with (first
            | (go_at_call 155; refine (l1From_any w0 cb bs 7 (by decide) (by decide) _ HC3.out).mono ?_; rintro e w4 ⟨z, rfl, hc4, hg4⟩; have HC4 := Lib.hid hc4; have HO4 := Lib.hid (ownsRow_cured HC3.out hg4 (by decide) HO3.out); have HW4 := Lib.hid (grown_trans HW3.out hg4); obtain ⟨q, hqc⟩ : ∃ q, w4.cell? ⟨ob, k, none⟩ = some q := ⟨_, (HO4.out.cellAt k (show k < xs.length * 1 by omega)).trans (List.getElem?_eq_getElem (by rw [List.length_map, natInts_length]; exact hkx))⟩; have hfz := HO4.out.frozenAt k; clear hc4 hg4)
            | (go_at_call 148; refine (l1Below_any w0 cb bs xs.length (by omega) _ HC2.out).mono ?_; rintro e w3 ⟨k, rfl, hk, _, hc3, hg3⟩; have hkx0 := hk hx0i; have hkx : k < xs.length := (by omega); have HC3 := Lib.hid hc3; have HO3 := Lib.hid (ownsRow_cured HC2.out hg3 (by decide) HO2.out); have HW3 := Lib.hid (grown_trans HW2.out hg3); clear hk hc3 hg3))
          have HST : Hid ((w4.setCell ⟨ob, k, none⟩ (.int .i64 z)).ownsRow w.heap.size 2 1 (.slice (some ⟨ob, 0, none⟩) xs.length oc) xs.length (((natInts xs).set k z).map (Value.int .i64))) := Lib.hid (by
            have h1 := (HO4.out.stored k (.int .i64 z)).1
            rw [List.map_set]
            exact h1)
          have HC9 := Lib.hid (HC4.out.setCell hcbo (i := k) (.int .i64 z))
          have HW9 := Lib.hid (grown_newD HW4.out hob (i := k) (.int .i64 z))
          go_ret
          exact ⟨_, (natInts xs).set k z, rfl, Nums.of_owns HST.out (by rw [List.length_set, natInts_length]) (by omega), by rw [List.length_set, natInts_length]; exact hxl, HC9.out, HW9.out⟩

end Go.Proofs.YtkppbmfliejnmaaDoor
