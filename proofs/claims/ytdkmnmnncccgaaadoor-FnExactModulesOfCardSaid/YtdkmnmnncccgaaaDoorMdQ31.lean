/- Walks: ModulesOf of the reference. -/
import Derived.Test.YtdkmnmnncccgaaaDoorMdQ28
import Derived.Test.YtdkmnmnncccgaaaDoorMdQ30
namespace Go.Proofs.YtdkmnmnncccgaaaDoor
open Go.RowKit

theorem md_rowsS {g : List (List Int)} {L : List (List Nat)} (_h8 : g.length ≤ 8) (h : MdOn (ModN g) (2 ^ g.length) L) (j : Nat) : (row (L.map natInts) j).length ≤ 32 := by
  by_cases hj : j < L.length
  · have e : row (L.map natInts) j = natInts L[j] := by simp [row, hj]
    rw [e, natInts_length]
    obtain ⟨s, _, _, _, h4⟩ := (h.mem _).1 (List.getElem_mem hj)
    rw [h4]
    exact bitsOf_length s
  · simp [row, hj]
theorem md_put_sg {w w' : World} {base n : Nat} {u' sv : Value} {L : List (List Nat)} {set : List Nat} {vals : List Value} {j : Nat} (hl : vals.length = L.length) (hr : ∀ i, i < L.length → Nums w 2 .i64 (vals.getD i undef) (row (L.map natInts) i))
    (hs : Nums w 2 .i64 sv (natInts set)) (hb : Below w.heap.size w w') (hj : j ≤ L.length) (hn : n = L.length + 1) (ho : w'.ownsRow base 26 1 u' n (vals.take j ++ [sv] ++ vals.drop j)) :
    SG w' base (.agg #[u']) ((L.take j ++ [set] ++ L.drop j).map natInts) := by
  have hlen : (L.take j ++ [set] ++ L.drop j).length = L.length + 1 := by simp; omega
  refine ⟨u', _, rfl, ?_, by rw [List.length_map, hlen, ← hn]; exact ho, fun i hi => ?_⟩
  · rw [List.length_map, hlen]; simp; omega
  · rw [List.length_map, hlen] at hi
    rw [row_nat (by rw [hlen]; exact hi)]
    have hlt : (vals.take j).length = j := by rw [List.length_take]; omega
    have hlL : (L.take j).length = j := by rw [List.length_take]; omega
    rcases Nat.lt_trichotomy i j with h | h | h
    · have e : (vals.take j ++ [sv] ++ vals.drop j).getD i undef = vals.getD i undef := by
        rw [List.append_assoc, List.getD_eq_getElem?_getD, List.getD_eq_getElem?_getD, List.getElem?_append_left (by omega), List.getElem?_take_of_lt h]
      have e2 : (L.take j ++ [set] ++ L.drop j)[i]'(by omega) = L[i]'(by omega) := by
        rw [List.getElem_append_left (by simp; omega), List.getElem_append_left (by omega), List.getElem_take]
      rw [e, e2, ← row_nat (by omega)]
      exact (hr i (by omega)).below hb
    · subst h
      have e : (vals.take i ++ [sv] ++ vals.drop i).getD i undef = sv := by
        rw [List.append_assoc, List.getD_eq_getElem?_getD, List.getElem?_append_right (by omega), hlt]; simp
      have e2 : (L.take i ++ [set] ++ L.drop i)[i]'(by omega) = set := by
        rw [List.getElem_append_left (by simp; omega), List.getElem_append_right (by omega)]; simp
      rw [e, e2]
      exact hs.below hb
    · have e : (vals.take j ++ [sv] ++ vals.drop j).getD i undef = vals.getD (i - 1) undef := by
        rw [List.getD_eq_getElem?_getD, List.getD_eq_getElem?_getD, List.getElem?_append_right (by simp; omega), List.getElem?_drop]
        congr 2
        simp; omega
      have e2 : (L.take j ++ [set] ++ L.drop j)[i]'(by omega) = L[i - 1]'(by omega) := by
        rw [List.getElem_append_right (by simp; omega), List.getElem_drop]
        congr 1
        simp; omega
      rw [e, e2, ← row_nat (by omega)]
      exact (hr (i - 1) (by omega)).below hb
theorem md_take_sl {w : World} {E : TypeId} {v : Value} {a : Option Addr} {n c k : Nat} {vals : List Value} (hk : k ≤ n) (ha : a = none → k = 0) (hv : v = .slice a k c) (h : Sl w E (.slice a n c) n vals) : Sl w E v k (vals.take k) := by
  subst hv
  obtain ⟨p, c', e, h1, hnc, hn, hat⟩ := h
  simp only [Value.slice.injEq] at e
  obtain ⟨rfl, -, rfl⟩ := e
  refine ⟨_, _, rfl, fun e => ⟨ha e, (h1 e).2⟩, by omega, by omega, ?_⟩
  exact hat.take k
theorem md_drop0_sl {w : World} {E : TypeId} {a : Addr} {k m : Nat} {vals : List Value} (hk : vals.length ≤ k) (hm : m = 0) : Sl w E (.slice (some a) 0 0) m (vals.drop k) := by
  subst hm
  rw [List.drop_of_length_le hk]
  exact ⟨_, 0, rfl, (fun e => by cases e), Nat.le_refl _, by omega, .inl rfl⟩
theorem md_drop1_sl {w : World} {E : TypeId} {b o n c k : Nat} {vals : List Value} (hk : k ≤ n) (h : Sl w E (.slice (some ⟨b, o, none⟩) n c) n vals) : Sl w E (.slice (some ⟨b, o + k, none⟩) (n - k) (c - k)) (n - k) (vals.drop k) := by
  obtain ⟨p, c', e, h1, hnc, hn, hat⟩ := h
  simp only [Value.slice.injEq] at e
  obtain ⟨rfl, -, rfl⟩ := e
  exact ⟨_, _, rfl, (fun e => by cases e), by omega, by omega, hat.drop k⟩
set_option maxRecDepth 100000 in
set_option maxHeartbeats 4000000 in
theorem specModulesOf_any (v : Value) (g : List (List Int)) (w : World) (hg : Gr w v g) :
    Calls Tryd.prog 15 #[v] w fun e w' => ∃ (u : Value) (gg : List (List Int)), e = .returned u ∧ MdS g gg ∧ SG w' w.heap.size (.agg #[u]) gg ∧ gg.length ≤ 65536 ∧ (∀ j, (row gg j).length ≤ 32) ∧ Below w.heap.size w w' := by
  have hg0 := hg
  obtain ⟨u, rfl, hr⟩ := hg
  obtain ⟨p, c, rfl, _, _, _⟩ := hr.shape
  have HG := Lib.hid hg0
  have hbA := Lib.hid ((below_alloc w (.cells #[.slice p g.length c] 29)).alloc (below_alloc w _).size (.cells #[] 26))
  have BX := Lib.hid ((Box.new w (.slice p g.length c) 29).alloc (.cells #[] 26))
  have HSG0 : Hid (SG ((w.alloc (.cells #[.slice p g.length c] 29)).alloc (.cells #[] 26)) (w.heap.size + 1) (.agg #[.slice (some ⟨w.heap.size + 1, 0, none⟩) 0 0]) ([].map natInts)) := Lib.hid ⟨_, [], rfl, rfl, ownsRow_empty' w _ _ _ _ (Nat.le_refl _), fun j hj => by simp at hj⟩
  have bx0 := BX.out.cell
  clear hr hg0
  by_cases hok : GOk g ∧ g.length ≤ 8
  case neg =>
    have HS := Lib.hid (show MdS g [] from .inr ⟨hok, rfl⟩)
    by_cases hg1 : GOk g
    · have hd := dec_true hg1
      have h8 : 8 < g.length := Nat.lt_of_not_le fun h => hok ⟨hg1, h⟩
      clear hok hg1
      go_enter Tryd.func15, Tryd.ntmps15
      go_wp2_with (go_at_call 23; refine (specGraphOk_any _ g _ (HG.out.below hbA.out)).mono ?_; rintro e w2 ⟨he, hb2⟩; rw [hd] at he; subst he; have bx2 := (BX.out.keep hb2).cell)
      go_ret
      exact ⟨_, [], rfl, HS.out, sg_baseC (HSG0.out.below hb2) (by omega), by simp, fun j => by simp [row], hbA.out.trans (hb2.mono hbA.out.size)⟩
    · have hd := dec_false hg1
      clear hok hg1
      go_enter Tryd.func15, Tryd.ntmps15
      go_wp2_with (go_at_call 23; refine (specGraphOk_any _ g _ (HG.out.below hbA.out)).mono ?_; rintro e w2 ⟨he, hb2⟩; rw [hd] at he; subst he)
      go_ret
      exact ⟨_, [], rfl, HS.out, sg_baseC (HSG0.out.below hb2) (by omega), by simp, fun j => by simp [row], hbA.out.trans (hb2.mono hbA.out.size)⟩
  have hd := dec_true hok.1
  have h8 := hok.2
  have h16 := hok.1.le
  have Hok := Lib.hid hok
  obtain ⟨M, hM⟩ : ∃ M, M = 2 ^ g.length := ⟨_, rfl⟩
  have hM1 : 1 ≤ M := by rw [hM]; exact Nat.two_pow_pos _
  have hM8 : M ≤ 256 := by
    rw [hM]
    exact Nat.le_trans (Nat.pow_le_pow_right (by decide) h8) (by decide)
  have HM := Lib.hid hM
  clear hok hM
  go_enter Tryd.func15, Tryd.ntmps15
  go_wp2_with (go_at_call 23; refine (specGraphOk_any _ g _ (HG.out.below hbA.out)).mono ?_; rintro e w2 ⟨he, hb2⟩; rw [hd] at he; subst he; have bx2 := (BX.out.keep hb2).cell)
  have HB2 := Lib.hid (hbA.out.trans (hb2.mono hbA.out.size))
  have BX2 := Lib.hid (BX.out.keep hb2)
  have HO2 := Lib.hid (HSG0.out.below hb2)
  clear hb2 bx2 bx0
  go_loopw [3, 4] (fun o i wr => ∃ (L : List (List Nat)) (k : Nat), 1 ≤ k ∧ k ≤ M ∧ i = .int .i64 k ∧ L.length < k ∧ MdOn (ModN g) k L ∧ SG wr (w.heap.size + 1) (.agg #[o]) (L.map natInts) ∧ Below w.heap.size w wr ∧ Box wr w.heap.size 29 (.slice p g.length c)) (fun _ i _ => M - (intOf i).toNat)
  case atStart => exact ⟨[], 1, Nat.le_refl _, hM1, rfl, by simp, mdOn_start _, HO2.out, HB2.out, BX2.out⟩
  case round =>
    obtain ⟨L, k, hk1, hk, rfl, hLl, hon, hO, hbel, hbx⟩ := hrel
    have hsz := hbel.size
    have bx := hbx.cell
    have hs1 : w.heap.size + 1 ≤ wr.heap.size := hbx.lt
    have HBEL := Lib.hid hbel
    have HBX := Lib.hid hbx
    have HON := Lib.hid hon
    have HOO := Lib.hid hO
    obtain ⟨_, vals, e1, hl1, ho1, hr1⟩ := hO
    cases e1
    rw [List.length_map] at hl1 ho1 hr1
    obtain ⟨op, oc, rfl⟩ := owns_shapeA ho1
    have HL1 := Lib.hid hl1
    have HO1 := Lib.hid ho1
    have HR1 := Lib.hid hr1
    clear hon hbel hbx hl1 ho1 hr1
    by_cases hlt : k < M
    · have hlti : (k : Int) < (M : Int) := by omega
      have HK := Lib.hid (show k < 2 ^ g.length by rw [← HM.out]; exact hlt)
      have hk16 : k < 65536 := by omega
      go_upto_region 8 with (first
        | (go_at_call 25; refine (l12Set_any _ k rfl (by omega) _).mono ?_; rintro e w4 ⟨sv, rfl, ho4, hb4⟩; obtain ⟨sp, sc, rfl⟩ := owns_shapeA ho4; have HO4 := Lib.hid ho4; have bx4 := (HBX.out.keep hb4).cell; have HS4 := Lib.hid (Nums.of_owns (xs := natInts (bitsOf k)) ho4 (natInts_length _).symm (by have := bitsOf_length k; omega)); clear ho4)
        | (go_at_call 24; refine (l12Bit_any _ g.length rfl (by omega) _).mono ?_; rintro e w3 ⟨he, hw3⟩; rw [← HM.out] at he; subst he; subst hw3))
      have HG4 := Lib.hid ((HG.out.below HBEL.out).below hb4)
      have HB4 := Lib.hid (HBEL.out.trans (hb4.mono hsz))
      have HX4 := Lib.hid (HBX.out.keep hb4)
      have HO4' := Lib.hid (HOO.out.below hb4)
      by_cases hm : ModN g k
      · have HMm := Lib.hid hm
        clear hm
        go_cut [34] (fun s34 wx => s34 = .bool false ∧ Below w4.heap.size w4 wx)
        case first =>
          go_region_held3 (fun w' => w'.cell? ⟨w.heap.size, 0, none⟩ = some (.slice p g.length c))
            (first | exact bx4 | exact BWB.at' bx4 | exact BWA.at' bx4 | go_keep)
            (first
              | (go_at_call 35; refine (l17Splitter_any _ _ _ g Hok.out.1 k HK.out _ (HG4.out.below BWA) HNI.out (HS4.out.below BWA)).mono ?_; rintro e w6 ⟨⟨z, rfl, hz⟩, hb6⟩; have BWB : Below w4.heap.size w4 w6 := BWA.trans (hb6.mono BWA.size); obtain rfl : z = -1 := hz.elim (fun h => h.1) (fun h => absurd HMm.out h.2.2); clear hz hb6)
              | (go_at_call 36; refine (l16All_any _ g (by omega) _ (HG4.out.below (below_dN (Below.refl _ _) 1))).mono ?_; rintro e w5 ⟨av, rfl, ho5, hb5⟩; have BWA : Below w4.heap.size w4 w5 := (below_dN (Below.refl _ _) 1).trans hb5; have HNI : Hid (Nums w5 2 .i64 av (natInts (List.range g.length))) := Lib.hid (Nums.of_owns ho5 (by rw [natInts_length, List.length_range]) (by omega)); clear ho5 hb5))
          all_goals go_wp2
          all_goals go_meet
          all_goals exact ⟨rfl, BWB⟩
        case rest =>
          obtain ⟨rfl, hb7⟩ := hcut
          have HS7 := Lib.hid (HS4.out.below hb7)
          have HCP : Hid (L.length ≤ oc) := Lib.hid (by
            obtain ⟨p', c', e, _, h, _⟩ := id (Sl.of_owns HO1.out (by omega))
            simp only [Value.slice.injEq] at e
            obtain ⟨-, -, rfl⟩ := e
            exact h)
          have HGR7 := Lib.hid (HO4'.out.below hb7)
          have HB7 := Lib.hid (HB4.out.trans (hb7.mono HB4.out.size))
          have HX7 := Lib.hid (HX4.out.keep hb7)
          have hs7 := HB7.out.size
          clear hb7
          go_wp2
          go_loopw [6] (fun i wy => ∃ j, j ≤ L.length ∧ i = .int .i64 j ∧ (∀ q (hq : q < L.length), j ≤ q → lessP (bitsOf k) L[q]) ∧ Below wc.heap.size wc wy) (fun i _ => (intOf i).toNat)
          case atStart => exact ⟨L.length, Nat.le_refl _, rfl, fun q hq h => by omega, Below.refl _ _⟩
          case round =>
            obtain ⟨j, hj, rfl, hhi, hby⟩ := hrel
            have HHI := Lib.hid hhi
            have HBY := Lib.hid hby
            clear hhi hby
            by_cases hj0 : j = 0
            · subst hj0
              have hcp := HCP.out
              have c0 : (0 : Int) ≤ (oc : Int) := by omega
              have c1 : (0 : Int) ≤ (L.length : Int) := by omega
              have hpt : (op = none ∧ L = [] ∧ oc = 0) ∨ ∃ b, op = some ⟨b, 0, none⟩ := by
                rcases HO1.out.2 with ⟨e, h0⟩ | ⟨b, c, _, e, _⟩
                · simp only [Value.slice.injEq] at e
                  exact .inl ⟨e.1, List.eq_nil_of_length_eq_zero h0, e.2.2⟩
                · simp only [Value.slice.injEq] at e
                  exact .inr ⟨b, e.1⟩
              rcases hpt with ⟨rfl, rfl, rfl⟩ | ⟨b, rfl⟩
              · go_upto_region 12 with fail
                obtain ⟨_, vals7, e7, hl7, ho7, hr7⟩ := HGR7.out.below HBY.out
                cases e7
                rw [List.length_map] at hl7 ho7 hr7
                have HL7 := Lib.hid hl7
                have HR7 := Lib.hid hr7
                have hlk : 0 ≤ 256 := by omega
                have HV7 := Lib.hid (Sl.of_owns ho7 (by omega))
                have HC7 := Lib.hid (sg_cells (gg := ([] : List (List Nat)).map natInts) (by rw [List.length_map]; exact hl7) (fun j hj => hr7 j (by rwa [List.length_map] at hj)))
                clear hl7 hr7 ho7
                have HBx := Lib.hid (Below.refl _ _ : Below wr.heap.size wr wr)
                have hsx := HBx.out.size
                have hal : (wr.alloc (.cells #[] 26)).heap.size = wr.heap.size + 1 := size_alloc _ _
                have HA0 : Hid ((wr.alloc (.cells #[] 26)).ownsRow wr.heap.size 26 1 (.slice (some ⟨wr.heap.size, 0, none⟩) 0 0) 0 []) := Lib.hid (World.ownsRow_lit wr #[] 0 (by omega) (Nat.zero_le _) (by simp))
                have HB0 : Hid (Below wr.heap.size wr (wr.alloc (.cells #[] 26))) := Lib.hid (HBx.out.trans ((below_alloc _ _).mono hsx))
                have HS1 : Hid (∀ W, Below wr.heap.size wr W → Sl W 26 (.slice none (0) (0)) (0) (vals7.take (0))) := Lib.hid (fun W hW => (md_take_sl (by omega) (by simp) rfl HV7.out).below hW)
                have HS3 : Hid (∀ W, Below wr.heap.size wr W → Sl W 26 (.slice none 0 0) (0 - (0)) (vals7.drop (0))) := Lib.hid (fun W hW => (HV7.out).below hW)
                have T1 : Hid ((vals7.take (0)).length = (0) * 1) := Lib.hid (by rw [List.length_take, HL7.out]; omega)
                have T2 : Hid (∀ x ∈ vals7.take (0), x.oneCell' = true) := Lib.hid (fun x hx => HC7.out x (List.mem_of_mem_take hx))
                have T3 : Hid ((vals7.drop (0)).length = (0 - (0)) * 1) := Lib.hid (by rw [List.length_drop, HL7.out]; omega)
                have T4 : Hid (∀ x ∈ vals7.drop (0), x.oneCell' = true) := Lib.hid (fun x hx => HC7.out x (List.mem_of_mem_drop hx))
                have HSN := Lib.hid (HS7.out.below HBY.out)
                go_wp2_with (first
                  | (have h3 := HA2.out; at_builtin; refine wpList_app ty_rows rfl rfl rfl h3 rfl (HS3.out _ HB2'.out) T3.out T4.out (by omega) HB2'.out.size ?_; intro v3 w12 hown3 hg3 _; have HA3 := Lib.hid hown3; have HB3 := Lib.hid (below_grown HB2'.out HA2.out hg3 (Nat.le_refl _) HB2'.out.size); clear h3 hown3 hg3)
                  | (have h2 := HA1.out; at_builtin; refine wpList_app1 ty_rows rfl rfl rfl h2 rfl rfl (by omega) HB1'.out.size ?_; intro v2 w11 hown2 hg2 _; obtain ⟨p2, c2, rfl⟩ := owns_shapeT hown2; have HA2 := Lib.hid hown2; have HB2' := Lib.hid (below_grown HB1'.out HA1.out hg2 (Nat.le_refl _) HB1'.out.size); clear h2 hown2 hg2)
                  | (at_builtin; refine wpList_app ty_rows rfl rfl rfl HA0.out rfl (HS1.out _ HB0.out) T1.out T2.out (by omega) HB0.out.size ?_; intro v1 w10 hown1 hg1 _; rw [Nat.zero_add, List.nil_append] at hown1; obtain ⟨p1, c1, rfl⟩ := owns_shapeT hown1; have HA1 := Lib.hid hown1; have HB1' := Lib.hid (below_grown HB0.out HA0.out hg1 (Nat.le_refl _) HB0.out.size); clear hown1 hg1))
                have hlen' : (([] : List (List Nat)).take 0 ++ [bitsOf k] ++ ([] : List (List Nat)).drop 0).length = 0 + 1 := by simp
                have hs12 := HB3.out.size
                have hsy := HBY.out.size
                have hs1r : w.heap.size + 1 ≤ wr.heap.size := (HX7.out.keep HBY.out).lt
                refine ⟨⟨([] : List (List Nat)).take 0 ++ [bitsOf k] ++ ([] : List (List Nat)).drop 0, k + 1, by omega, by omega, by go_num, by omega, mdOn_put HON.out HMm.out hk1 hk16 (by omega) HHI.out (fun h0 => absurd h0 (Nat.lt_irrefl 0)), sg_baseC (md_put_sg HL7.out HR7.out HSN.out HB3.out (by omega) (by omega) HA3.out) hs1r, (HB7.out.trans (HBY.out.mono hs7)).trans (HB3.out.mono (by omega)), (HX7.out.keep HBY.out).keep HB3.out⟩, by simp [intOf]; omega⟩
              · by_cases hcm : oc = 0
                · subst hcm
                  go_upto_region 12 with fail
                  obtain ⟨_, vals7, e7, hl7, ho7, hr7⟩ := HGR7.out.below HBY.out
                  cases e7
                  rw [List.length_map] at hl7 ho7 hr7
                  have HL7 := Lib.hid hl7
                  have HR7 := Lib.hid hr7
                  have hlk : L.length ≤ 256 := by omega
                  have HV7 := Lib.hid (Sl.of_owns ho7 (by omega))
                  have HC7 := Lib.hid (sg_cells (gg := L.map natInts) (by rw [List.length_map]; exact hl7) (fun j hj => hr7 j (by rwa [List.length_map] at hj)))
                  clear hl7 hr7 ho7
                  have HBx := Lib.hid (Below.refl _ _ : Below wr.heap.size wr wr)
                  have hsx := HBx.out.size
                  have hal : (wr.alloc (.cells #[] 26)).heap.size = wr.heap.size + 1 := size_alloc _ _
                  have HA0 : Hid ((wr.alloc (.cells #[] 26)).ownsRow wr.heap.size 26 1 (.slice (some ⟨wr.heap.size, 0, none⟩) 0 0) 0 []) := Lib.hid (World.ownsRow_lit wr #[] 0 (by omega) (Nat.zero_le _) (by simp))
                  have HB0 : Hid (Below wr.heap.size wr (wr.alloc (.cells #[] 26))) := Lib.hid (HBx.out.trans ((below_alloc _ _).mono hsx))
                  have HS1 : Hid (∀ W, Below wr.heap.size wr W → Sl W 26 (.slice (some ⟨b, 0, none⟩) (0) (0)) (0) (vals7.take (0))) := Lib.hid (fun W hW => (md_take_sl (by omega) (by simp) rfl HV7.out).below hW)
                  have HS3 : Hid (∀ W, Below wr.heap.size wr W → Sl W 26 (.slice (some ⟨b, 0, none⟩) 0 0) (L.length - (0)) (vals7.drop (0))) := Lib.hid (fun W hW => (md_drop0_sl (by rw [HL7.out]; omega) (by omega) : Sl wr _ _ _ _).below hW)
                  have T1 : Hid ((vals7.take (0)).length = (0) * 1) := Lib.hid (by rw [List.length_take, HL7.out]; omega)
                  have T2 : Hid (∀ x ∈ vals7.take (0), x.oneCell' = true) := Lib.hid (fun x hx => HC7.out x (List.mem_of_mem_take hx))
                  have T3 : Hid ((vals7.drop (0)).length = (L.length - (0)) * 1) := Lib.hid (by rw [List.length_drop, HL7.out]; omega)
                  have T4 : Hid (∀ x ∈ vals7.drop (0), x.oneCell' = true) := Lib.hid (fun x hx => HC7.out x (List.mem_of_mem_drop hx))
                  have hle : L.length = 0 := by omega
                  have HSN := Lib.hid (HS7.out.below HBY.out)
                  go_wp2_with (first
                    | (have h3 := HA2.out; at_builtin; refine wpList_app ty_rows rfl rfl rfl h3 rfl (HS3.out _ HB2'.out) T3.out T4.out (by omega) HB2'.out.size ?_; intro v3 w12 hown3 hg3 _; have HA3 := Lib.hid hown3; have HB3 := Lib.hid (below_grown HB2'.out HA2.out hg3 (Nat.le_refl _) HB2'.out.size); clear h3 hown3 hg3)
                    | (have h2 := HA1.out; at_builtin; refine wpList_app1 ty_rows rfl rfl rfl h2 rfl rfl (by omega) HB1'.out.size ?_; intro v2 w11 hown2 hg2 _; obtain ⟨p2, c2, rfl⟩ := owns_shapeT hown2; have HA2 := Lib.hid hown2; have HB2' := Lib.hid (below_grown HB1'.out HA1.out hg2 (Nat.le_refl _) HB1'.out.size); clear h2 hown2 hg2)
                    | (at_builtin; refine wpList_app ty_rows rfl rfl rfl HA0.out rfl (HS1.out _ HB0.out) T1.out T2.out (by omega) HB0.out.size ?_; intro v1 w10 hown1 hg1 _; rw [Nat.zero_add, List.nil_append] at hown1; obtain ⟨p1, c1, rfl⟩ := owns_shapeT hown1; have HA1 := Lib.hid hown1; have HB1' := Lib.hid (below_grown HB0.out HA0.out hg1 (Nat.le_refl _) HB0.out.size); clear hown1 hg1))
                  have hlen' : (L.take (0) ++ [bitsOf k] ++ L.drop (0)).length = L.length + 1 := by simp
                  have hs12 := HB3.out.size
                  have hsy := HBY.out.size
                  have hs1r : w.heap.size + 1 ≤ wr.heap.size := (HX7.out.keep HBY.out).lt
                  refine ⟨⟨L.take (0) ++ [bitsOf k] ++ L.drop (0), k + 1, by omega, by omega, by go_num, by omega, mdOn_put HON.out HMm.out hk1 hk16 (by omega) HHI.out (fun h0 => absurd h0 (Nat.lt_irrefl 0)), sg_baseC (md_put_sg HL7.out HR7.out HSN.out HB3.out (by omega) (by omega) HA3.out) hs1r, (HB7.out.trans (HBY.out.mono hs7)).trans (HB3.out.mono (by omega)), (HX7.out.keep HBY.out).keep HB3.out⟩, by simp [intOf]; omega⟩
                · go_upto_region 12 with fail
                  obtain ⟨_, vals7, e7, hl7, ho7, hr7⟩ := HGR7.out.below HBY.out
                  cases e7
                  rw [List.length_map] at hl7 ho7 hr7
                  have HL7 := Lib.hid hl7
                  have HR7 := Lib.hid hr7
                  have hlk : L.length ≤ 256 := by omega
                  have HV7 := Lib.hid (Sl.of_owns ho7 (by omega))
                  have HC7 := Lib.hid (sg_cells (gg := L.map natInts) (by rw [List.length_map]; exact hl7) (fun j hj => hr7 j (by rwa [List.length_map] at hj)))
                  clear hl7 hr7 ho7
                  have HBx := Lib.hid (Below.refl _ _ : Below wr.heap.size wr wr)
                  have hsx := HBx.out.size
                  have hal : (wr.alloc (.cells #[] 26)).heap.size = wr.heap.size + 1 := size_alloc _ _
                  have HA0 : Hid ((wr.alloc (.cells #[] 26)).ownsRow wr.heap.size 26 1 (.slice (some ⟨wr.heap.size, 0, none⟩) 0 0) 0 []) := Lib.hid (World.ownsRow_lit wr #[] 0 (by omega) (Nat.zero_le _) (by simp))
                  have HB0 : Hid (Below wr.heap.size wr (wr.alloc (.cells #[] 26))) := Lib.hid (HBx.out.trans ((below_alloc _ _).mono hsx))
                  have HS1 : Hid (∀ W, Below wr.heap.size wr W → Sl W 26 (.slice (some ⟨b, 0, none⟩) (0) (oc)) (0) (vals7.take (0))) := Lib.hid (fun W hW => (md_take_sl (by omega) (by simp) rfl HV7.out).below hW)
                  have HS3 : Hid (∀ W, Below wr.heap.size wr W → Sl W 26 (.slice (some ⟨b, 0, none⟩) L.length oc) (L.length - (0)) (vals7.drop (0))) := Lib.hid (fun W hW => (HV7.out).below hW)
                  have T1 : Hid ((vals7.take (0)).length = (0) * 1) := Lib.hid (by rw [List.length_take, HL7.out]; omega)
                  have T2 : Hid (∀ x ∈ vals7.take (0), x.oneCell' = true) := Lib.hid (fun x hx => HC7.out x (List.mem_of_mem_take hx))
                  have T3 : Hid ((vals7.drop (0)).length = (L.length - (0)) * 1) := Lib.hid (by rw [List.length_drop, HL7.out]; omega)
                  have T4 : Hid (∀ x ∈ vals7.drop (0), x.oneCell' = true) := Lib.hid (fun x hx => HC7.out x (List.mem_of_mem_drop hx))
                  have hne2 : 0 < oc := by omega
                  have HSN := Lib.hid (HS7.out.below HBY.out)
                  go_wp2_with (first
                    | (have h3 := HA2.out; at_builtin; refine wpList_app ty_rows rfl rfl rfl h3 rfl (HS3.out _ HB2'.out) T3.out T4.out (by omega) HB2'.out.size ?_; intro v3 w12 hown3 hg3 _; have HA3 := Lib.hid hown3; have HB3 := Lib.hid (below_grown HB2'.out HA2.out hg3 (Nat.le_refl _) HB2'.out.size); clear h3 hown3 hg3)
                    | (have h2 := HA1.out; at_builtin; refine wpList_app1 ty_rows rfl rfl rfl h2 rfl rfl (by omega) HB1'.out.size ?_; intro v2 w11 hown2 hg2 _; obtain ⟨p2, c2, rfl⟩ := owns_shapeT hown2; have HA2 := Lib.hid hown2; have HB2' := Lib.hid (below_grown HB1'.out HA1.out hg2 (Nat.le_refl _) HB1'.out.size); clear h2 hown2 hg2)
                    | (at_builtin; refine wpList_app ty_rows rfl rfl rfl HA0.out rfl (HS1.out _ HB0.out) T1.out T2.out (by omega) HB0.out.size ?_; intro v1 w10 hown1 hg1 _; rw [Nat.zero_add, List.nil_append] at hown1; obtain ⟨p1, c1, rfl⟩ := owns_shapeT hown1; have HA1 := Lib.hid hown1; have HB1' := Lib.hid (below_grown HB0.out HA0.out hg1 (Nat.le_refl _) HB0.out.size); clear hown1 hg1))
                  have hlen' : (L.take (0) ++ [bitsOf k] ++ L.drop (0)).length = L.length + 1 := by simp
                  have hs12 := HB3.out.size
                  have hsy := HBY.out.size
                  have hs1r : w.heap.size + 1 ≤ wr.heap.size := (HX7.out.keep HBY.out).lt
                  refine ⟨⟨L.take (0) ++ [bitsOf k] ++ L.drop (0), k + 1, by omega, by omega, by go_num, by omega, mdOn_put HON.out HMm.out hk1 hk16 (by omega) HHI.out (fun h0 => absurd h0 (Nat.lt_irrefl 0)), sg_baseC (md_put_sg HL7.out HR7.out HSN.out HB3.out (by omega) (by omega) HA3.out) hs1r, (HB7.out.trans (HBY.out.mono hs7)).trans (HB3.out.mono (by omega)), (HX7.out.keep HBY.out).keep HB3.out⟩, by simp [intOf]; omega⟩
            · obtain ⟨m, rfl⟩ : ∃ m, j = m + 1 := ⟨j - 1, by omega⟩
              have hmL : m < L.length := by omega
              obtain ⟨_, e9, hrws⟩ := (HGR7.out.below HBY.out).gr (by rw [List.length_map]; omega)
              cases e9
              obtain ⟨b, o, rp, rc, rfl, hcell, hrow⟩ := hrws.get (k := m) (by rw [List.length_map]; exact hmL)
              have hge : (L.map natInts).getD m [] = natInts L[m] := by simp [hmL]
              rw [hge] at hcell hrow
              generalize hx : L[m]'hmL = x at hcell hrow hge
              have HXe := Lib.hid hx
              rw [natInts_length] at hcell hrow
              have HROW := Lib.hid hrow
              clear hx hge hrow hrws
              by_cases hls : lessP (bitsOf k) x
              · have hd9 := dec_true hls
                have HLS := Lib.hid hls
                clear hls
                go_wp2_with (go_at_call 26; refine (l1Less_any _ _ (bitsOf k) x _ (HS7.out.below HBY.out) HROW.out).mono ?_; rintro e w9 ⟨he9, q9, hw9⟩; rw [hd9] at he9; subst he9; have hb9 : Below wr.heap.size wr w9 := hw9 ▸ below_dN (Below.refl _ _) q9; clear hw9)
                go_roundw
                case rel => exact ⟨m, by omega, by go_num, fun q hq h => by
                  by_cases e : q = m
                  · subst e; exact HXe.out.symm ▸ HLS.out
                  · exact HHI.out q hq (by omega), HBY.out.trans (hb9.mono HBY.out.size)⟩
                case measure => simp [intOf]
              · have hd9 := dec_false hls
                have HLS := Lib.hid hls
                clear hls
                have hcp := HCP.out
                have c2 : (m : Int) + 1 ≤ (oc : Int) := by omega
                have c3 : (0 : Int) ≤ (m : Int) + 1 := by omega
                go_upto_region 12 with (go_at_call 26; refine (l1Less_any _ _ (bitsOf k) x _ (HS7.out.below HBY.out) HROW.out).mono ?_; rintro e w9 ⟨he9, q9, hw9⟩; rw [hd9] at he9; subst he9; have hb9 : Below wr.heap.size wr w9 := hw9 ▸ below_dN (Below.refl _ _) q9; clear hw9)
                by_cases hcm : oc = m + 1
                · subst hcm
                  obtain ⟨_, vals7, e7, hl7, ho7, hr7⟩ := HGR7.out.below HBY.out
                  cases e7
                  rw [List.length_map] at hl7 ho7 hr7
                  have HL7 := Lib.hid hl7
                  have HR7 := Lib.hid hr7
                  have hlk : L.length ≤ 256 := by omega
                  have HV7 := Lib.hid (Sl.of_owns ho7 (by omega))
                  have HC7 := Lib.hid (sg_cells (gg := L.map natInts) (by rw [List.length_map]; exact hl7) (fun j hj => hr7 j (by rwa [List.length_map] at hj)))
                  clear hl7 hr7 ho7
                  have HBx := Lib.hid (hb9 : Below wr.heap.size wr w9)
                  have hsx := HBx.out.size
                  have hal : (w9.alloc (.cells #[] 26)).heap.size = w9.heap.size + 1 := size_alloc _ _
                  have HA0 : Hid ((w9.alloc (.cells #[] 26)).ownsRow wr.heap.size 26 1 (.slice (some ⟨w9.heap.size, 0, none⟩) 0 0) 0 []) := Lib.hid (World.ownsRow_lit w9 #[] 0 (by omega) (Nat.zero_le _) (by simp))
                  have HB0 : Hid (Below wr.heap.size wr (w9.alloc (.cells #[] 26))) := Lib.hid (HBx.out.trans ((below_alloc _ _).mono hsx))
                  have HS1 : Hid (∀ W, Below wr.heap.size wr W → Sl W 26 (.slice (some ⟨b, o, none⟩) (m + 1) (m + 1)) (m + 1) (vals7.take (m + 1))) := Lib.hid (fun W hW => (md_take_sl (by omega) (by simp) rfl HV7.out).below hW)
                  have HS3 : Hid (∀ W, Below wr.heap.size wr W → Sl W 26 (.slice (some ⟨b, o, none⟩) 0 0) (L.length - (m + 1)) (vals7.drop (m + 1))) := Lib.hid (fun W hW => (md_drop0_sl (by rw [HL7.out]; omega) (by omega) : Sl wr _ _ _ _).below hW)
                  have T1 : Hid ((vals7.take (m + 1)).length = (m + 1) * 1) := Lib.hid (by rw [List.length_take, HL7.out]; omega)
                  have T2 : Hid (∀ x ∈ vals7.take (m + 1), x.oneCell' = true) := Lib.hid (fun x hx => HC7.out x (List.mem_of_mem_take hx))
                  have T3 : Hid ((vals7.drop (m + 1)).length = (L.length - (m + 1)) * 1) := Lib.hid (by rw [List.length_drop, HL7.out]; omega)
                  have T4 : Hid (∀ x ∈ vals7.drop (m + 1), x.oneCell' = true) := Lib.hid (fun x hx => HC7.out x (List.mem_of_mem_drop hx))
                  have hle : L.length = m + 1 := by omega
                  have HSN := Lib.hid (HS7.out.below HBY.out)
                  go_wp2_with (first
                    | (have h3 := HA2.out; at_builtin; refine wpList_app ty_rows rfl rfl rfl h3 rfl (HS3.out _ HB2'.out) T3.out T4.out (by omega) HB2'.out.size ?_; intro v3 w12 hown3 hg3 _; have HA3 := Lib.hid hown3; have HB3 := Lib.hid (below_grown HB2'.out HA2.out hg3 (Nat.le_refl _) HB2'.out.size); clear h3 hown3 hg3)
                    | (have h2 := HA1.out; at_builtin; refine wpList_app1 ty_rows rfl rfl rfl h2 rfl rfl (by omega) HB1'.out.size ?_; intro v2 w11 hown2 hg2 _; obtain ⟨p2, c2, rfl⟩ := owns_shapeT hown2; have HA2 := Lib.hid hown2; have HB2' := Lib.hid (below_grown HB1'.out HA1.out hg2 (Nat.le_refl _) HB1'.out.size); clear h2 hown2 hg2)
                    | (at_builtin; refine wpList_app ty_rows rfl rfl rfl HA0.out rfl (HS1.out _ HB0.out) T1.out T2.out (by omega) HB0.out.size ?_; intro v1 w10 hown1 hg1 _; rw [Nat.zero_add, List.nil_append] at hown1; obtain ⟨p1, c1, rfl⟩ := owns_shapeT hown1; have HA1 := Lib.hid hown1; have HB1' := Lib.hid (below_grown HB0.out HA0.out hg1 (Nat.le_refl _) HB0.out.size); clear hown1 hg1))
                  have hlen' : (L.take (m + 1) ++ [bitsOf k] ++ L.drop (m + 1)).length = L.length + 1 := by simp; omega
                  have hs12 := HB3.out.size
                  have hsy := HBY.out.size
                  have hs1r : w.heap.size + 1 ≤ wr.heap.size := (HX7.out.keep HBY.out).lt
                  refine ⟨⟨L.take (m + 1) ++ [bitsOf k] ++ L.drop (m + 1), k + 1, by omega, by omega, by go_num, by omega, mdOn_put HON.out HMm.out hk1 hk16 (by omega) HHI.out (fun _ => by have := HLS.out; rw [← HXe.out] at this; exact this), sg_baseC (md_put_sg HL7.out HR7.out HSN.out HB3.out (by omega) (by omega) HA3.out) hs1r, (HB7.out.trans (HBY.out.mono hs7)).trans (HB3.out.mono (by omega)), (HX7.out.keep HBY.out).keep HB3.out⟩, by simp [intOf]; omega⟩
                · obtain ⟨_, vals7, e7, hl7, ho7, hr7⟩ := HGR7.out.below HBY.out
                  cases e7
                  rw [List.length_map] at hl7 ho7 hr7
                  have HL7 := Lib.hid hl7
                  have HR7 := Lib.hid hr7
                  have hlk : L.length ≤ 256 := by omega
                  have HV7 := Lib.hid (Sl.of_owns ho7 (by omega))
                  have HC7 := Lib.hid (sg_cells (gg := L.map natInts) (by rw [List.length_map]; exact hl7) (fun j hj => hr7 j (by rwa [List.length_map] at hj)))
                  clear hl7 hr7 ho7
                  have HBx := Lib.hid (hb9 : Below wr.heap.size wr w9)
                  have hsx := HBx.out.size
                  have hal : (w9.alloc (.cells #[] 26)).heap.size = w9.heap.size + 1 := size_alloc _ _
                  have HA0 : Hid ((w9.alloc (.cells #[] 26)).ownsRow wr.heap.size 26 1 (.slice (some ⟨w9.heap.size, 0, none⟩) 0 0) 0 []) := Lib.hid (World.ownsRow_lit w9 #[] 0 (by omega) (Nat.zero_le _) (by simp))
                  have HB0 : Hid (Below wr.heap.size wr (w9.alloc (.cells #[] 26))) := Lib.hid (HBx.out.trans ((below_alloc _ _).mono hsx))
                  have HS1 : Hid (∀ W, Below wr.heap.size wr W → Sl W 26 (.slice (some ⟨b, o, none⟩) (m + 1) (oc)) (m + 1) (vals7.take (m + 1))) := Lib.hid (fun W hW => (md_take_sl (by omega) (by simp) rfl HV7.out).below hW)
                  have HS3 : Hid (∀ W, Below wr.heap.size wr W → Sl W 26 (.slice (some ⟨b, o + (m + 1), none⟩) (L.length - (m + 1)) (oc - (m + 1))) (L.length - (m + 1)) (vals7.drop (m + 1))) := Lib.hid (fun W hW => (md_drop1_sl (by omega) HV7.out).below hW)
                  have T1 : Hid ((vals7.take (m + 1)).length = (m + 1) * 1) := Lib.hid (by rw [List.length_take, HL7.out]; omega)
                  have T2 : Hid (∀ x ∈ vals7.take (m + 1), x.oneCell' = true) := Lib.hid (fun x hx => HC7.out x (List.mem_of_mem_take hx))
                  have T3 : Hid ((vals7.drop (m + 1)).length = (L.length - (m + 1)) * 1) := Lib.hid (by rw [List.length_drop, HL7.out]; omega)
                  have T4 : Hid (∀ x ∈ vals7.drop (m + 1), x.oneCell' = true) := Lib.hid (fun x hx => HC7.out x (List.mem_of_mem_drop hx))
                  have hne2 : m + 1 < oc := by omega
                  have HSN := Lib.hid (HS7.out.below HBY.out)
                  go_wp2_with (first
                    | (have h3 := HA2.out; at_builtin; refine wpList_app ty_rows rfl rfl rfl h3 rfl (HS3.out _ HB2'.out) T3.out T4.out (by omega) HB2'.out.size ?_; intro v3 w12 hown3 hg3 _; have HA3 := Lib.hid hown3; have HB3 := Lib.hid (below_grown HB2'.out HA2.out hg3 (Nat.le_refl _) HB2'.out.size); clear h3 hown3 hg3)
                    | (have h2 := HA1.out; at_builtin; refine wpList_app1 ty_rows rfl rfl rfl h2 rfl rfl (by omega) HB1'.out.size ?_; intro v2 w11 hown2 hg2 _; obtain ⟨p2, c2, rfl⟩ := owns_shapeT hown2; have HA2 := Lib.hid hown2; have HB2' := Lib.hid (below_grown HB1'.out HA1.out hg2 (Nat.le_refl _) HB1'.out.size); clear h2 hown2 hg2)
                    | (at_builtin; refine wpList_app ty_rows rfl rfl rfl HA0.out rfl (HS1.out _ HB0.out) T1.out T2.out (by omega) HB0.out.size ?_; intro v1 w10 hown1 hg1 _; rw [Nat.zero_add, List.nil_append] at hown1; obtain ⟨p1, c1, rfl⟩ := owns_shapeT hown1; have HA1 := Lib.hid hown1; have HB1' := Lib.hid (below_grown HB0.out HA0.out hg1 (Nat.le_refl _) HB0.out.size); clear hown1 hg1))
                  have hlen' : (L.take (m + 1) ++ [bitsOf k] ++ L.drop (m + 1)).length = L.length + 1 := by simp; omega
                  have hs12 := HB3.out.size
                  have hsy := HBY.out.size
                  have hs1r : w.heap.size + 1 ≤ wr.heap.size := (HX7.out.keep HBY.out).lt
                  refine ⟨⟨L.take (m + 1) ++ [bitsOf k] ++ L.drop (m + 1), k + 1, by omega, by omega, by go_num, by omega, mdOn_put HON.out HMm.out hk1 hk16 (by omega) HHI.out (fun _ => by have := HLS.out; rw [← HXe.out] at this; exact this), sg_baseC (md_put_sg HL7.out HR7.out HSN.out HB3.out (by omega) (by omega) HA3.out) hs1r, (HB7.out.trans (HBY.out.mono hs7)).trans (HB3.out.mono (by omega)), (HX7.out.keep HBY.out).keep HB3.out⟩, by simp [intOf]; omega⟩
      · have HMm := Lib.hid hm
        clear hm
        go_cut [34] (fun s34 wx => s34 = .bool true ∧ Below w4.heap.size w4 wx)
        case first =>
          go_region_held3 (fun w' => w'.cell? ⟨w.heap.size, 0, none⟩ = some (.slice p g.length c))
            (first | exact bx4 | exact BWB.at' bx4 | exact BWA.at' bx4 | go_keep)
            (first
              | (go_at_call 35; refine (l17Splitter_any _ _ _ g Hok.out.1 k HK.out _ (HG4.out.below BWA) HNI.out (HS4.out.below BWA)).mono ?_; rintro e w6 ⟨⟨z, rfl, hz⟩, hb6⟩; have BWB : Below w4.heap.size w4 w6 := BWA.trans (hb6.mono BWA.size); have hz0 : (0 : Int) ≤ z := hz.elim (fun h => absurd h.2 HMm.out) (fun h => h.1); clear hz hb6)
              | (go_at_call 36; refine (l16All_any _ g (by omega) _ (HG4.out.below (below_dN (Below.refl _ _) 1))).mono ?_; rintro e w5 ⟨av, rfl, ho5, hb5⟩; have BWA : Below w4.heap.size w4 w5 := (below_dN (Below.refl _ _) 1).trans hb5; have HNI : Hid (Nums w5 2 .i64 av (natInts (List.range g.length))) := Lib.hid (Nums.of_owns ho5 (by rw [natInts_length, List.length_range]) (by omega)); clear ho5 hb5))
          all_goals go_wp2
          all_goals go_meet
          all_goals exact ⟨rfl, BWB⟩
        case rest =>
          obtain ⟨rfl, hb7⟩ := hcut
          go_wp2
          go_roundw
          case rel => exact ⟨L, k + 1, by omega, by omega, by go_num, by omega, mdOn_skip HON.out HMm.out, HO4'.out.below hb7, HB4.out.trans (hb7.mono HB4.out.size), HX4.out.keep hb7⟩
          case measure => simp [intOf]; omega
    · obtain rfl : k = M := by omega
      go_wp2_with (go_at_call 24; refine (l12Bit_any _ g.length rfl (by omega) _).mono ?_; rintro e w3 ⟨he, hw3⟩; rw [← HM.out] at he; subst he; subst hw3)
      go_ret
      exact ⟨_, L.map natInts, rfl, .inl ⟨Hok.out, L, by rw [← HM.out]; exact HON.out, rfl⟩, sg_baseC HOO.out (by omega), by rw [List.length_map]; omega, md_rowsS Hok.out.2 (by rw [← HM.out]; exact HON.out), HBEL.out⟩

end Go.Proofs.YtdkmnmnncccgaaaDoor
