/- Walk: the reference's search over those who are gone. -/
import Derived.Test.YtiooindlpinjhaaDoorWlQ9
import Derived.Test.YtiooindlpinjhaaDoorWlQ22
import Derived.Test.YtiooindlpinjhaaDoorWlQ23
import Derived.Test.YtiooindlpinjhaaDoorWlQ25
import Derived.Test.YtiooindlpinjhaaDoorWlQ12
namespace Go.Proofs.YtiooindlpinjhaaDoor
open Go.RowKit

theorem rising_first {xs : List Int} {n : Int} (hs : xs.Pairwise (· < ·)) (hm : n ∈ xs) {k : Nat} (hk : k < xs.length) (hlow : ∀ j (hj : j < xs.length), j < k → xs[j] < n) (h : ¬ xs[k] < n) : xs[k] = n := by
  obtain ⟨j, hj, rfl⟩ := List.mem_iff_getElem.1 hm
  rcases Nat.lt_trichotomy j k with h1 | rfl | h1
  · exact absurd (hlow j hj h1) (by omega)
  · rfl
  · exact absurd (List.pairwise_iff_getElem.1 hs k j hk hj h1) h
set_option maxRecDepth 100000 in
set_option maxHeartbeats 1000000 in
theorem l1IntoOld_any (v : Value) (xs : List Int) (n : Int) (hl : xs.length ≤ 100000000) (hs : xs.Pairwise (· < ·)) (hm : n ∈ xs) (w : World) (hx : Nums w 2 .i64 v xs) :
    Calls Tryd.prog 149 #[v, .int .i64 n] w fun e w' => e = .returned v ∧ w = w' := by
  obtain ⟨p, c, rfl, hp, hnc, hn, hat⟩ := hx
  have HS := Lib.hid hs
  have HM := Lib.hid hm
  clear hs hm
  go_enter Tryd.func149, Tryd.ntmps149
  go_wp2
  go_loop [5] (fun i => ∃ k : Nat, k ≤ xs.length ∧ i = .int .i64 k ∧ ∀ j (hj : j < xs.length), j < k → xs[j] < n) (fun i => xs.length - (intOf i).toNat)
  case atStart => exact ⟨0, Nat.zero_le _, rfl, fun j hj h => by omega⟩
  case round =>
    obtain ⟨k, hk, rfl, hlow⟩ := hrel
    have Hlow := Lib.hid hlow
    clear hlow
    by_cases hlt : k < xs.length
    · obtain ⟨b, o, rfl, hcell⟩ := hat.num hlt
      by_cases h1 : xs[k] < n
      · go_wp2
        go_round
        case rel =>
          refine ⟨k + 1, by omega, by go_num, fun j hj h => ?_⟩
          by_cases e : j = k
          · subst e; exact h1
          · exact Hlow.out j hj (by omega)
        case measure => simp [intOf]; omega
      · have h2 := rising_first HS.out HM.out hlt Hlow.out h1
        have h2' : (xs[k] == n) = true := by simpa using h2
        clear h2
        go_wp2
        go_ret
        exact ⟨rfl, rfl⟩
    · exfalso
      obtain ⟨j, hj, hje⟩ := List.mem_iff_getElem.1 HM.out
      have := Hlow.out j hj (by omega)
      omega

/-- The two rows of the search. -/
structure BhW (W0 w : World) (mv : Value) (M : List Nat) (ov : Value) (O : List Int) : Prop where
  bel : Below W0.heap.size W0 w
  met : w.ownsRow W0.heap.size 2 1 mv M.length ((natInts M).map (Value.int .i64))
  out : w.ownsRow W0.heap.size 2 1 ov O.length (O.map (Value.int .i64))
  ne : ∀ k, mv.ownBlock = some k → ov.ownBlock = some k → False
section
variable {W0 w : World} {mv ov : Value} {M : List Nat} {O : List Int}
theorem BhW.next (h : BhW W0 w mv M ov O) {w' : World} (hb : Below w.heap.size w w') : BhW W0 w' mv M ov O :=
  ⟨h.bel.trans (hb.mono h.bel.size), ownsRow_below h.met hb, ownsRow_below h.out hb, h.ne⟩
theorem BhW.add (h : BhW W0 w mv M ov O) {w' : World} {b c y : Nat} (ho : w'.ownsRow W0.heap.size 2 1 (.slice (some ⟨b, 0, none⟩) (M.length + 1) c) (M.length + 1) ((natInts M).map (Value.int .i64) ++ [.int .i64 (y : Int)])) (hg : w.grownBy w' mv.ownBlock)
    (hf : mv.ownBlock = some b ∨ w.heap.size < b) : BhW W0 w' (.slice (some ⟨b, 0, none⟩) (M ++ [y]).length c) (M ++ [y]) ov O where
  bel := below_grown h.bel h.met hg (Nat.le_refl _) h.bel.size
  met := by
    have e : natInts (M ++ [y]) = natInts M ++ [(y : Int)] := by simp [natInts]
    rw [e, List.map_append, List.length_append]
    exact ho
  out := ownsRow_toB h.out fun k e => hg.block k (h.out.lt k e).2 fun c => h.ne k c.symm e
  ne k hk hk2 := by
    have e : b = k := by simpa [Value.ownBlock] using hk
    subst e
    rcases hf with hf | hf
    · exact h.ne b hf hk2
    · have := (h.out.lt b hk2).2; omega
theorem BhW.put (h : BhW W0 w mv M ov O) {w' : World} {ov' : Value} {O' : List Int} (ho : w'.ownsRow w.heap.size 2 1 ov' O'.length (O'.map (Value.int .i64))) (hb : Below w.heap.size w w') : BhW W0 w' mv M ov' O' where
  bel := h.bel.trans (hb.mono h.bel.size)
  met := ownsRow_below h.met hb
  out := ownsRow_base ho h.bel.size
  ne k hk hk2 := by
    have h1 := (h.met.lt k hk).2
    have h2 := (ho.lt k hk2).1
    omega
end
theorem BhW.start (W0 : World) (x : Nat) : BhW W0 ((W0.alloc (.cells #[.int .i64 (x : Int)] 2)).alloc (.cells #[] 2)) (.slice (some ⟨W0.heap.size, 0, none⟩) 1 1) [x] (.slice (some ⟨W0.heap.size + 1, 0, none⟩) 0 0) [] where
  bel := (below_alloc _ _).alloc (by rw [size_alloc]; omega) _
  met := (World.ownsRow_lit (base := W0.heap.size) (e := 2) (size := 1) W0 #[.int .i64 (x : Int)] 1 (Nat.le_refl _) (by decide) rfl).alloc _
  out := ownsRow_empty' _ _ _ _ _ (by omega)
  ne k h1 h2 := by
    simp [Value.ownBlock] at h1 h2
    omega

set_option maxRecDepth 100000 in
set_option maxHeartbeats 8000000 in
theorem l10BehindC_any (v gv : Value) (z : Int) (g : List (List Int)) (s a : Nat) (hz : z = a) (hok : GOk g) (ha : a < g.length) (hsa : s.testBit a = false) (w : World) (hg : Gr w v g) (hn : Sl w 4 gv g.length (boolsOf g.length s.testBit)) :
    Calls Tryd.prog 113 #[v, gv, .int .i64 z] w fun e w' => ∃ p c, e = .returned (.slice p (behS g.length (ofG g) s a).length c) ∧ w'.ownsRow w.heap.size 2 1 (.slice p (behS g.length (ofG g) s a).length c) (behS g.length (ofG g) s a).length ((natInts (behS g.length (ofG g) s a)).map (Value.int .i64)) ∧ Below w.heap.size w w' := by
  subst hz
  have h16 := hok.le
  have hg0 := hg
  obtain ⟨gu, rfl, hr⟩ := hg
  obtain ⟨p, c, rfl, _⟩ := hr.shape
  obtain ⟨qp, qc, rfl, _⟩ := id hn
  have hrow : Hid (∀ j, j < g.length → ∃ R : List Nat, row g j = natInts R ∧ (∀ y ∈ R, y < g.length) ∧ R.length ≤ 16) := Lib.hid (fun j hj => by
    obtain ⟨h1, h2, h3⟩ := setIn_nats (hok.sets j hj).1
    refine ⟨(row g j).map Int.toNat, h1.symm, h3, ?_⟩
    have := setIn_length (by omega) (hok.sets j hj).1
    rw [List.length_map]; omega)
  obtain ⟨W0, hW0⟩ : ∃ W0, W0 = w.alloc (.cells #[.slice p g.length c] 28) := ⟨_, rfl⟩
  have hb0 : Below w.heap.size w W0 := by rw [hW0]; exact below_alloc _ _
  have HB0 := Lib.hid hb0
  have HBG : Hid (Box W0 w.heap.size 28 (.slice p g.length c)) := Lib.hid (by rw [hW0]; exact Box.new _ _ _)
  have HN := Lib.hid (Sl.below hn hb0)
  have HGR := Lib.hid (hr.below hb0)
  have SZ0 := Lib.hid (show W0.heap.size = w.heap.size + 1 by rw [hW0, size_alloc])
  have HEN : Hid (∀ x y, ofG g x y = true → y < g.length) := Lib.hid fun x y h => adjR_lt hok (adjR_sym hok x y (of_decide_eq_true (p := ((y : Int) ∈ row g x)) h))
  have HSA := Lib.hid hsa
  have START := Lib.hid (BhW.start W0 a)
  have BF0 := Lib.hid (BhI.start (E := ofG g) (s := s) ha)
  clear hg0 hb0 hr hn hok hsa
  go_enter Tryd.func113, Tryd.ntmps113
  go_upto_region 1 with fail
  rw [← hW0]
  clear hW0
  go_wp2_with fail
  go_loopw [7, 8, 9] (fun mv ov iv wr => ∃ (mb mc : Nat) (op : Option Addr) (oc : Nat) (M : List Nat) (O : List Int) (i : Nat), mv = .slice (some ⟨mb, 0, none⟩) M.length mc ∧ ov = .slice op O.length oc ∧ iv = .int .i64 i ∧ i ≤ M.length ∧ Hid (BhI g.length (ofG g) s a M O) ∧
      Hid (∀ j, j < i → ∀ u, u < g.length → ofG g (M.getD j 0) u = true → HndB s a M O u) ∧ BhW W0 wr mv M ov O) (fun _ _ iv _ => g.length - (intOf iv).toNat)
  case atStart => exact ⟨_, _, _, _, [a], [], 0, rfl, rfl, rfl, Nat.zero_le _, BF0, Lib.hid (fun j hj => absurd hj (Nat.not_lt_zero _)), START.out⟩
  case round =>
    clear START BF0
    obtain ⟨mb, mc, op, oc, M, O, i, rfl, rfl, rfl, hi, HBF, HTO, hF⟩ := hrel
    have HF := Lib.hid hF
    have hMl := HBF.out.le
    by_cases hlt : i < M.length
    · obtain ⟨x, hx⟩ : ∃ x, x = M[i] := ⟨_, rfl⟩
      have hxM : x ∈ M := by rw [hx]; exact List.getElem_mem hlt
      have hxn := HBF.out.lt x hxM
      have hm : wr.cell? ⟨mb, i, none⟩ = some (.int .i64 (x : Int)) := by rw [hF.met.cellAt i (by omega), hx]; simp [natInts, hlt]
      obtain ⟨R, hR, hRn, hR16⟩ := hrow.out x hxn
      obtain ⟨gb, go, rp, rc, rfl, hce0, hne0⟩ := HGR.out.get (k := x) hxn
      have hce0 : W0.cell? ⟨gb, go + x, none⟩ = some (.slice rp (row g x).length rc) := hce0
      have hne0 : Nums W0 2 .i64 (.slice rp (row g x).length rc) (row g x) := hne0
      rw [hR, natInts_length] at hce0 hne0
      have hce := hF.bel.at' hce0
      have hcg := hF.bel.at (by have := SZ0.out; omega) HBG.out.cell
      have HNR := Lib.hid hne0
      have HRN := Lib.hid hRn
      have HR := Lib.hid hR
      have HX0 : Hid (M[i]? = some x) := Lib.hid (by rw [hx]; simp [hlt])
      clear hF hne0 hce0 hRn hR hx hxM
      go_upto_region 6 with fail
      go_cut [10] (fun sv wx => sv = .slice rp R.length rc ∧ Below wr.heap.size wr wx)
      case first =>
        go_region_held3 (fun w' => w'.cell? ⟨w.heap.size, 0, none⟩ = some (.slice (some ⟨gb, go, none⟩) g.length c) ∧ w'.cell? ⟨mb, i, none⟩ = some (.int .i64 (x : Int)) ∧ w'.cell? ⟨gb, go + x, none⟩ = some (.slice rp R.length rc))
          (first | exact ⟨hcg, hm, hce⟩ | go_keep)
          (first | fail)
        all_goals go_wp2
        all_goals go_meet
        all_goals exact ⟨rfl, below_dN (Below.refl _ _) 1⟩
      case rest =>
      obtain ⟨rfl, hb1⟩ := hcut
      replace HF := Lib.hid (HF.out.next hb1)
      clear hm hce hcg hb1
      go_wp2_with fail
      go_loopw [7, 8, 11] (fun mv ov kv wx => ∃ (mb mc : Nat) (op : Option Addr) (oc : Nat) (M : List Nat) (O : List Int) (k : Nat), mv = .slice (some ⟨mb, 0, none⟩) M.length mc ∧ ov = .slice op O.length oc ∧ kv = .int .i64 k ∧ k ≤ R.length ∧ Hid (BhI g.length (ofG g) s a M O) ∧
        Hid (M[i]? = some x ∧ (∀ j, j < i → ∀ u, u < g.length → ofG g (M.getD j 0) u = true → HndB s a M O u) ∧ ∀ j, j < k → HndB s a M O (R.getD j 0)) ∧ BhW W0 wx mv M ov O) (fun _ _ kv _ => R.length - (intOf kv).toNat)
      case atStart => exact ⟨mb, mc, op, oc, M, O, 0, rfl, rfl, rfl, Nat.zero_le _, HBF, Lib.hid ⟨HX0.out, HTO.out, fun j hj => absurd hj (Nat.not_lt_zero _)⟩, HF.out⟩
      case round =>
        clear HF HBF HTO HX0 hMl hlt hi
        obtain ⟨mb, mc, op, oc, M, O, k, rfl, rfl, rfl, hk, HBF, HTO, hF⟩ := hrel
        have hMl := HBF.out.le
        have hOl := HBF.out.le2
        have hiM : i < M.length := (List.getElem?_eq_some_iff.1 HTO.out.1).1
        have hxM : x ∈ M := List.mem_of_getElem? HTO.out.1
        have HXM := Lib.hid hxM
        have HF := Lib.hid hF
        by_cases hlt : k < R.length
        · obtain ⟨y, hy⟩ : ∃ y, y = R[k] := ⟨_, rfl⟩
          have hyn : y < g.length := by rw [hy]; exact HRN.out _ (List.getElem_mem hlt)
          have hE : Hid (ofG g x y = true) := Lib.hid (by
            unfold ofG
            rw [decide_eq_true_eq, HR.out, hy]
            exact mem_natInts.2 ⟨_, List.getElem_mem hlt, rfl⟩)
          have HYK : Hid (R.getD k 0 = y) := Lib.hid (by rw [hy]; simp [hlt])
          obtain ⟨qb, qo, rfl, hq0⟩ := HNR.out.get (k := k) (by rw [natInts_length]; exact hlt)
          rw [natInts_atC hlt, ← hy] at hq0
          obtain ⟨_, _, e1, _, _, _, hat⟩ := id HN.out
          cases e1
          obtain ⟨tb, to', rfl, hbl⟩ := hat.cells (k := y) (by simp [boolsOf]; exact hyn)
          have hcb0 : W0.cell? ⟨tb, to' + y, none⟩ = some (.bool (s.testBit y)) := hbl _ _ (boolsOf_get hyn)
          have hq := hF.bel.at' hq0
          have hcb := hF.bel.at' hcb0
          have HQ0 := Lib.hid hq0
          have HCB0 := Lib.hid hcb0
          clear hq0 hcb0
          have hstep : ∀ (M' : List Nat) (O' : List Int), (∀ t ∈ M, t ∈ M') → (∀ t ∈ O, t ∈ O') → HndB s a M' O' y → ∀ j, j < k + 1 → HndB s a M' O' (R.getD j 0) := fun M' O' hM hO hh j hj => by
            by_cases e : j < k
            · exact (HTO.out.2.2 j e).mono hM hO
            · rw [show j = k by omega, HYK.out]; exact hh
          have hold : ∀ (M' : List Nat) (O' : List Int), (∀ t ∈ M, t ∈ M') → (∀ t ∈ O, t ∈ O') → (∀ j, j < i → M'.getD j 0 = M.getD j 0) → ∀ j, j < i → ∀ u, u < g.length → ofG g (M'.getD j 0) u = true → HndB s a M' O' u := fun M' O' hM hO he j hj u hu hE => (HTO.out.2.1 j hj u hu (by rw [← he j hj]; exact hE)).mono hM hO
          have HSTEP := Lib.hid hstep
          have HOLD := Lib.hid hold
          have HXI := Lib.hid HTO.out.1
          clear hy hF hxM hat hbl hstep hold HTO
          cases hsy : s.testBit y with
          | true =>
            have HSY := Lib.hid hsy
            rw [hsy] at hcb
            clear hsy
            by_cases hyM : y ∈ M
            · have DY := Lib.hid (dec_true (show (y : Int) ∈ natInts M from mem_natInts.2 ⟨y, hyM, rfl⟩))
              have HYM := Lib.hid hyM
              clear hyM
              go_wp2_with (go_at_call 72; refine (l1Has_any _ (natInts M) y _ (Nums.of_owns HF.out.met (natInts_length M).symm (by omega))).mono ?_; rintro e w4 ⟨he4, hw4⟩; rw [DY.out] at he4; subst he4; subst hw4)
              go_roundw
              case rel => exact ⟨mb, mc, op, oc, M, O, k + 1, rfl, rfl, by go_num, by omega, HBF, Lib.hid ⟨HXI.out, HOLD.out _ _ (fun _ h => h) (fun _ h => h) (fun _ _ => rfl), HSTEP.out _ _ (fun _ h => h) (fun _ h => h) ⟨fun _ => HYM.out, fun h => (by rw [HSY.out] at h; cases h)⟩⟩, HF.out⟩
              case measure => simp [intOf]; omega
            · have DY := Lib.hid (dec_false (show ¬ (y : Int) ∈ natInts M from fun h => by
                obtain ⟨y', h1, h2⟩ := mem_natInts.1 h
                have : y' = y := by omega
                exact hyM (this ▸ h1)))
              have HYM := Lib.hid hyM
              have HADD := Lib.hid (HBF.out.add HXM.out hE.out hyn HSY.out hyM)
              have lo := HF.out.bel.size
              clear hyM
              go_wp2_with (first
                | (go_at_call 72; refine (l1Has_any _ (natInts M) y _ (Nums.of_owns HF.out.met (natInts_length M).symm (by omega))).mono ?_; rintro e w4 ⟨he4, hw4⟩; rw [DY.out] at he4; subst he4; subst hw4)
                | (at_builtin; refine wpList_app1s ty_i64 rfl rfl rfl HF.out.met rfl rfl (by omega) lo ?_; intro b7 c8 w7 hown7 hg7 hf7; have HF7 := Lib.hid (HF.out.add hown7 hg7 hf7); have hq7 := HF7.out.bel.at' HQ0.out; have hcb7 := HF7.out.bel.at' HCB0.out; rw [HSY.out] at hcb7; clear hown7 hg7 hf7))
              go_roundw
              case rel => exact ⟨b7, c8, op, oc, M ++ [y], O, k + 1, by simp, rfl, by go_num, by omega, HADD, Lib.hid ⟨by rw [List.getElem?_append_left hiM]; exact HXI.out, HOLD.out _ _ (fun _ h => List.mem_append_left _ h) (fun _ h => h) (fun j hj => by rw [List.getD_eq_getElem?_getD, List.getElem?_append_left (by omega), ← List.getD_eq_getElem?_getD]), HSTEP.out _ _ (fun _ h => List.mem_append_left _ h) (fun _ h => h) ⟨fun _ => by simp, fun h => (by rw [HSY.out] at h; cases h)⟩⟩, by have := HF7.out; rwa [List.length_append, List.length_singleton] at this⟩
              case measure => simp [intOf]; omega
          | false =>
            have HSY := Lib.hid hsy
            rw [hsy] at hcb
            clear hsy
            by_cases hya : y = a
            · have HYA := Lib.hid hya
              have hne : ((y : Int) != (a : Int)) = false := by simp; omega
              clear hya
              go_wp2_with fail
              go_roundw
              case rel => exact ⟨mb, mc, op, oc, M, O, k + 1, rfl, rfl, by go_num, by omega, HBF, Lib.hid ⟨HXI.out, HOLD.out _ _ (fun _ h => h) (fun _ h => h) (fun _ _ => rfl), HSTEP.out _ _ (fun _ h => h) (fun _ h => h) ⟨fun h => (by rw [HSY.out] at h; cases h), fun _ h => absurd HYA.out h⟩⟩, HF.out⟩
              case measure => simp [intOf]; omega
            · have HYA := Lib.hid hya
              have hne : ((y : Int) != (a : Int)) = true := by simp; omega
              have HNO : Hid (Nums wr 2 .i64 (.slice op O.length oc) O) := Lib.hid (Nums.of_owns HF.out.out rfl (by omega))
              have HPUT := Lib.hid (HBF.out.put HXM.out hE.out hyn HSY.out hya)
              clear hya
              by_cases hyO : (y : Int) ∈ O
              · have HEQ : Hid (intoL O y = O) := Lib.hid (rising_ext_int _ _ (intoL_rising HBF.out.ris) HBF.out.ris fun t => by
                  rw [mem_intoL]
                  exact ⟨fun h => h.elim id fun e => e ▸ hyO, .inl⟩)
                have HYO := Lib.hid hyO
                clear hyO
                go_wp2_with (go_at_call 149; refine (l1IntoOld_any _ O y (by omega) HBF.out.ris HYO.out _ HNO.out).mono ?_; rintro e w4 ⟨rfl, rfl⟩)
                go_roundw
                case rel => exact ⟨mb, mc, op, oc, M, O, k + 1, rfl, rfl, by go_num, by omega, HBF, Lib.hid ⟨HXI.out, HOLD.out _ _ (fun _ h => h) (fun _ h => h) (fun _ _ => rfl), HSTEP.out _ _ (fun _ h => h) (fun _ h => h) ⟨fun h => (by rw [HSY.out] at h; cases h), fun _ _ => HYO.out⟩⟩, HF.out⟩
                case measure => simp [intOf]; omega
              · have HYO := Lib.hid hyO
                clear hyO
                go_wp2_with (go_at_call 149; refine (l1IntoNew_any _ O y (by omega) HYO.out _ HNO.out).mono ?_; rintro e w4 ⟨u4, rfl, ho4, hb4⟩; obtain ⟨p4, c4, rfl⟩ := owns_shapeB ho4; have HF4 := Lib.hid (HF.out.put ho4 hb4); clear ho4 hb4)
                go_roundw
                case rel => exact ⟨mb, mc, p4, c4, M, intoL O y, k + 1, rfl, rfl, by go_num, by omega, HPUT, Lib.hid ⟨HXI.out, HOLD.out _ _ (fun _ h => h) (fun _ h => mem_intoL.2 (.inl h)) (fun _ _ => rfl), HSTEP.out _ _ (fun _ h => h) (fun _ h => mem_intoL.2 (.inl h)) ⟨fun h => (by rw [HSY.out] at h; cases h), fun _ _ => mem_intoL.2 (.inr rfl)⟩⟩, HF4.out⟩
                case measure => simp [intOf]; omega
        · obtain rfl : k = R.length := by omega
          have HT2 : Hid (∀ j, j < i + 1 → ∀ u, u < g.length → ofG g (M.getD j 0) u = true → HndB s a M O u) := Lib.hid (fun j hj u hu hEu => by
            by_cases e : j < i
            · exact HTO.out.2.1 j e u hu hEu
            · obtain rfl : j = i := by omega
              have e1 : M.getD j 0 = x := by simp [HTO.out.1]
              rw [e1] at hEu
              unfold ofG at hEu
              rw [decide_eq_true_eq, HR.out] at hEu
              obtain ⟨y', h1, h2⟩ := mem_natInts.1 hEu
              obtain rfl : y' = u := by omega
              obtain ⟨t, ht, e2⟩ := List.getElem_of_mem h1
              have e3 : R.getD t 0 = y' := by simp [ht, e2]
              have := HTO.out.2.2 t ht
              rwa [e3] at this)
          clear hF hxM
          go_wp2_with fail
          go_roundw
          case rel => exact ⟨mb, mc, op, oc, M, O, i + 1, rfl, rfl, by go_num, by omega, HBF, HT2, HF.out⟩
          case measure => simp [intOf]; omega
    · obtain rfl : i = M.length := by omega
      have hdone : O = natInts (behS g.length (ofG g) s a) := HBF.out.done (fun x hx u hu hE => by
        obtain ⟨j, hj, rfl⟩ := List.mem_iff_getElem.1 hx
        exact HTO.out j hj u hu (by rw [List.getD_eq_getElem?_getD, List.getElem?_eq_getElem hj]; exact hE)) HEN.out
      have hlen : O.length = (behS g.length (ofG g) s a).length := by rw [hdone, natInts_length]
      have HLEN := Lib.hid hlen
      have HDON := Lib.hid hdone
      clear hF hdone hlen
      go_wp2_with fail
      go_ret
      refine ⟨op, oc, by rw [HLEN.out]; rfl, ?_, HB0.out.trans (HF.out.bel.mono HB0.out.size)⟩
      have h9 := ownsRow_base HF.out.out HB0.out.size
      rw [HLEN.out] at h9
      rw [← HDON.out]
      exact h9
theorem l10Behind_any (v gv : Value) (z : Int) (g : List (List Int)) (s a : Nat) (hz : z = a) (hok : GOk g) (ha : a < g.length) (hsa : s.testBit a = false) (w : World) (hg : Gr w v g) (hn : Sl w 4 gv g.length (boolsOf g.length s.testBit)) :
    Calls Tryd.prog 113 #[v, gv, .int .i64 z] w fun e w' => ∃ p c, e = .returned (.slice p (behS g.length (ofG g) s a).length c) ∧ Below w.heap.size w w' :=
  (l10BehindC_any v gv z g s a hz hok ha hsa w hg hn).mono fun _ _ ⟨p, c, h1, _, h2⟩ => ⟨p, c, h1, h2⟩

end Go.Proofs.YtiooindlpinjhaaDoor

/- Walks: marking a graph; what stays apart from it. -/
namespace Go.Proofs.YtiooindlpinjhaaDoor
open Go.RowKit

/-- Only blocks from lo on and below hi have turned. -/
structure Apart (lo hi : Nat) (w w' : World) : Prop where
  os : w'.os = w.os
  tape : w'.tape = w.tape
  output : w'.output = w.output
  size : w.heap.size ≤ w'.heap.size
  block : ∀ b, b < w.heap.size → (b < lo ∨ hi ≤ b) → w'.heap[b]? = w.heap[b]?

theorem Apart.refl (lo hi : Nat) (w : World) : Apart lo hi w w := ⟨rfl, rfl, rfl, Nat.le_refl _, fun _ _ _ => rfl⟩
theorem Apart.trans {lo hi : Nat} {a b c : World} (h : Apart lo hi a b) (k : Apart lo hi b c) : Apart lo hi a c :=
  ⟨k.os.trans h.os, k.tape.trans h.tape, k.output.trans h.output, Nat.le_trans h.size k.size, fun i hi hn => (k.block i (Nat.lt_of_lt_of_le hi h.size) hn).trans (h.block i hi hn)⟩
theorem Apart.of_below {lo hi : Nat} {w w' : World} (h : Below w.heap.size w w') : Apart lo hi w w' := ⟨h.os, h.tape, h.output, h.size, fun b hb _ => h.block b hb⟩
theorem Apart.below {lo hi : Nat} {w w' : World} (h : Apart lo hi w w') (hl : lo ≤ w.heap.size) : Below lo w w' := ⟨h.os, h.tape, h.output, h.size, fun b hb => h.block b (by omega) (.inl hb)⟩
theorem Apart.of_grown {lo hi : Nat} {w w' : World} {base : Nat} {E : TypeId} {size n : Nat} {v : Value} {xs : List Value} (ho : w.ownsRow base E size v n xs) (hg : w.grownBy w' v.ownBlock) (h1 : lo ≤ base) (h2 : ∀ k, v.ownBlock = some k → k < hi) : Apart lo hi w w' :=
  ⟨hg.os, hg.tape, hg.output, hg.size, fun b hb hx => hg.block b hb fun e => by
    have h3 := (ho.lt b e.symm).1
    have h4 := h2 b e.symm
    omega⟩

theorem ownsRow_apart_lo {lo hi : Nat} {w w' : World} {base : Nat} {E : TypeId} {size n : Nat} {v : Value} {xs : List Value} (h : w.ownsRow base E size v n xs) (ha : Apart lo hi w w') (hl : ∀ k, v.ownBlock = some k → k < lo) : w'.ownsRow base E size v n xs := by
  refine ⟨h.1, ?_⟩
  rcases h.2 with h2 | ⟨g, cap, cur, h1, h2, h3, h4⟩
  · exact .inl h2
  · exact .inr ⟨g, cap, cur, h1, h2, (ha.block g (Array.getElem?_eq_some_iff.1 h3).1 (.inl (hl g (by rw [h1]; rfl)))).trans h3, h4⟩
theorem ownsRow_apart_hi {lo hi : Nat} {w w' : World} {base : Nat} {E : TypeId} {size n : Nat} {v : Value} {xs : List Value} (h : w.ownsRow base E size v n xs) (ha : Apart lo hi w w') (hl : hi ≤ base) : w'.ownsRow base E size v n xs := by
  refine ⟨h.1, ?_⟩
  rcases h.2 with h2 | ⟨g, cap, cur, h1, h2, h3, h4⟩
  · exact .inl h2
  · exact .inr ⟨g, cap, cur, h1, h2, (ha.block g (Array.getElem?_eq_some_iff.1 h3).1 (.inr (by omega))).trans h3, h4⟩

/-- A row, whatever it holds, behind a write to a row of the same kind. -/
theorem ownsRow_some {w w' : World} {base : Nat} {E : TypeId} {n m : Nat} {v u : Value} {ys zs zs' : List Value} (h : w.ownsRow base E 1 v n ys)
    (ho : w.ownsRow base E 1 u m zs) (ho' : w'.ownsRow base E 1 u m zs') (hg : w.grownBy w' u.ownBlock) : ∃ ys', w'.ownsRow base E 1 v n ys' := by
  rcases h.2 with ⟨rfl, rfl⟩ | ⟨g, cap, cur, rfl, hb, hgg, hnc, hcm, hcs, ht⟩
  · exact ⟨[], World.ownsRow_nil _ _ _ _⟩
  · by_cases e : u.ownBlock = some g
    · rcases ho.2 with ⟨rfl, rfl⟩ | ⟨g1, cap1, cur1, rfl, _, hg1, _, _, hcs1, _⟩
      · simp [Value.ownBlock] at e
      · simp [Value.ownBlock] at e
        subst e
        rcases ho'.2 with ⟨h', _⟩ | ⟨g2, cap2, cur2, h2, hb2, hg2, _, _, hcs2, _⟩
        · simp at h'
        · simp only [Value.slice.injEq, Option.some.injEq, Addr.mk.injEq, and_true, true_and] at h2
          obtain ⟨rfl, rfl⟩ := h2
          rw [hgg] at hg1
          simp only [Option.some.injEq, Obj.cells.injEq] at hg1
          have hcc : cur2.size = cap * 1 := by rw [hcs2, ← hcs1, ← hg1.1, hcs]
          refine ⟨cur2.toList.take (n * 1), by rw [List.length_take, Array.length_toList]; omega, .inr ⟨g1, cap, cur2, rfl, hb, hg2, hnc, hcm, hcc, rfl⟩⟩
    · exact ⟨ys, h.kept hg (.inr (by simp only [Value.ownBlock]; exact fun q => e q.symm))⟩

set_option maxRecDepth 100000 in
set_option maxHeartbeats 1000000 in
theorem markInt64SS_any (v : Value) (g : List (List Int)) (base hi : Nat) (k : Int) (h1 : g.length ≤ 1048576) (h2 : ∀ j, j < g.length → (row g j).length ≤ 1048576) (h0 : 0 ≤ k) (hk1 : k ≤ 1048576) (w : World)
    (vals : List Value) (hvl : vals.length = g.length) (ho : w.ownsRow base 26 1 v g.length vals) (hr : ∀ j, j < g.length → w.ownsRow base 2 1 (vals.getD j undef) (row g j).length ((row g j).map (Value.int .i64)))
    (hhi : ∀ j, j < g.length → ∀ b, (vals.getD j undef).ownBlock = some b → b < hi) :
    Calls Tryd.prog 32 #[v, .int .i64 k] w fun e w' => (∃ z : Int, e = .returned (.int .i64 z) ∧ 0 ≤ z ∧ z ≤ 2000000000000) ∧ Apart base hi w w' := by
  rcases ho.2 with ⟨rfl, hn0⟩ | ⟨b, cap, cur, rfl, _⟩
  · have e0 : ((g.length : Nat) : Int) = 0 := by omega
    go_enter Tryd.func32, Tryd.ntmps32
    go_wp2
    refine wp_loop_rounds 1 ?_
    rw [rounds_succ]
    go_wp2
    go_ret
    exact ⟨⟨k, rfl, h0, by omega⟩, Apart.refl _ _ _⟩
  have Hhi := Lib.hid hhi
  have H2 := Lib.hid h2
  have Hvl := Lib.hid hvl
  have Hr := Lib.hid hr
  have Ho := Lib.hid ho
  clear hhi h2 hvl hr ho
  go_enter Tryd.func32, Tryd.ntmps32
  go_wp2
  go_loopw [1, 5] (fun z i wr => ∃ (j : Nat) (y : Int), j ≤ g.length ∧ i = .int .i64 j ∧ z = .int .i64 y ∧ 0 ≤ y ∧ y ≤ 1048576 + j * 1048576 ∧ Apart base hi w wr ∧
      wr.ownsRow base 26 1 (.slice (some ⟨b, 0, none⟩) g.length cap) g.length vals ∧ (∀ j, j < g.length → ∃ ys, wr.ownsRow base 2 1 (vals.getD j undef) (row g j).length ys))
    (fun _ i _ => g.length - (intOf i).toNat)
  case atStart => exact ⟨0, k, Nat.zero_le _, rfl, rfl, h0, by omega, Apart.refl _ _ _, Ho.out, fun j hj => ⟨_, Hr.out j hj⟩⟩
  case round =>
    obtain ⟨j, y, hj, rfl, rfl, hy0, hy1, hap, hown, hrows⟩ := hrel
    have Hrows := Lib.hid hrows
    clear hrows
    by_cases hlt : j < g.length
    · obtain ⟨ys, hys⟩ := Hrows.out j hlt
      have hl2 := H2.out j hlt
      have hc := hown.cellAt j (by omega)
      obtain ⟨u, hu⟩ : ∃ u, vals[j]? = some u := ⟨_, List.getElem?_eq_getElem (by have := Hvl.out; omega)⟩
      have hud : vals.getD j undef = u := by rw [List.getD_eq_getElem?_getD, hu]; rfl
      rw [hu] at hc
      rw [hud] at hys
      have hub : ∀ b, u.ownBlock = some b → b < hi := by rw [← hud]; exact Hhi.out j hlt
      have Hys := Lib.hid hys
      have Hub := Lib.hid hub
      have Hud := Lib.hid hud
      clear hys hub hud hu
      obtain ⟨m, hm⟩ : ∃ m, m = (row g j).length := ⟨_, rfl⟩
      rw [← hm] at hl2
      have Hm := Lib.hid hm
      clear hm
      go_wp2_with (go_at_call 14; refine (markInt64S_any u m base ys y (by omega) hy0 (by omega) _ (Hm.out ▸ Hys.out)).mono ?_; rintro e w2 ⟨rfl, ho2, hg2, _⟩)
      go_roundw
      case rel =>
        have hys : wr.ownsRow base 2 1 u m ys := Hm.out ▸ Hys.out
        refine ⟨j + 1, _, by omega, by go_num, rfl, by omega, by omega, hap.trans (Apart.of_grown hys hg2 (Nat.le_refl _) Hub.out), ownsRow_other hown hys hg2 (by decide), fun i hi => ?_⟩
        obtain ⟨zs, hzs⟩ := Hrows.out i hi
        exact ownsRow_some hzs hys ho2 hg2
      case measure => simp [intOf]; omega
    · obtain rfl : j = g.length := by omega
      go_wp2
      go_ret
      exact ⟨⟨y, rfl, hy0, by omega⟩, hap⟩

/-- A graph in blocks from lo on and below hi. -/
def InG (w : World) (lo hi : Nat) (v : Value) (g : List (List Int)) : Prop :=
  ∃ u vals, v = .agg #[u] ∧ vals.length = g.length ∧ w.ownsRow lo 26 1 u g.length vals ∧ (∀ b, u.ownBlock = some b → b < hi) ∧
    ∀ j, j < g.length → w.ownsRow lo 2 1 (vals.getD j undef) (row g j).length ((row g j).map (Value.int .i64)) ∧ ∀ b, (vals.getD j undef).ownBlock = some b → b < hi

theorem InG.of_own {w : World} {lo : Nat} {v : Value} {g : List (List Int)} (h : OwnG w lo v g) : InG w lo w.heap.size v g := by
  obtain ⟨u, rfl, vals, h1, h2, h3⟩ := h
  exact ⟨u, vals, rfl, h1, h2, fun b hb => (h2.lt b hb).2, fun j hj => ⟨h3 j hj, fun b hb => ((h3 j hj).lt b hb).2⟩⟩
theorem InG.below {w w' : World} {lo hi : Nat} {v : Value} {g : List (List Int)} (h : InG w lo hi v g) (hb : Below w.heap.size w w') : InG w' lo hi v g := by
  obtain ⟨u, vals, h0, h1, h2, h3, h4⟩ := h
  exact ⟨u, vals, h0, h1, ownsRow_below h2 hb, h3, fun j hj => ⟨ownsRow_below (h4 j hj).1 hb, (h4 j hj).2⟩⟩
theorem InG.own {w : World} {lo hi : Nat} {v : Value} {g : List (List Int)} (h : InG w lo hi v g) : OwnG w lo v g := by
  obtain ⟨u, vals, h0, h1, h2, h3, h4⟩ := h
  exact ⟨u, h0, vals, h1, h2, fun j hj => (h4 j hj).1⟩

set_option maxRecDepth 100000 in
set_option maxHeartbeats 1000000 in
theorem markGraph_any (v : Value) (g : List (List Int)) (base hi : Nat) (k : Int) (h1 : g.length ≤ 1048576) (h2 : ∀ j, j < g.length → (row g j).length ≤ 1048576) (h0 : 0 ≤ k) (hk1 : k ≤ 1048576) (w : World)
    (ho : InG w base hi v g) :
    Calls Tryd.prog 13 #[v, .int .i64 k] w fun e w' => (∃ z : Int, e = .returned (.int .i64 z) ∧ 0 ≤ z ∧ z ≤ 2000000000000) ∧ Apart base hi w w' := by
  have hb1 : ∀ u, Below w.heap.size w (w.alloc (.cells #[u] 28)) := fun u => below_alloc w _
  obtain ⟨u, vals, rfl, hvl, ho1, hub, hr⟩ := ho
  have ho1' := ownsRow_below ho1 (hb1 u)
  have hr' : ∀ j, j < g.length → (w.alloc (.cells #[u] 28)).ownsRow base 2 1 (vals.getD j undef) (row g j).length ((row g j).map (Value.int .i64)) := fun j hj => ownsRow_below (hr j hj).1 (hb1 u)
  have hk := markInt64SS_any u g base hi k h1 h2 h0 hk1 _ vals hvl ho1' hr' (fun j hj => (hr j hj).2)
  have hk' := Lib.hid hk
  have hsh : u = .slice none 0 0 ∨ ∃ b c, u = .slice (some ⟨b, 0, none⟩) g.length c := by
    rcases ho1.2 with ⟨h, _⟩ | ⟨b, c, _, h, _⟩
    · exact .inl h
    · exact .inr ⟨b, c, h⟩
  clear hk hvl ho1 hub hr ho1' hr' h2
  rcases hsh with rfl | ⟨b, c, rfl⟩
  all_goals
    go_enter Tryd.func13, Tryd.ntmps13
    go_wp2_with (go_at_call 32; refine hk'.out.mono ?_; rintro e w2 ⟨⟨z, rfl, hz⟩, hap⟩)
    go_ret
    exact ⟨⟨z, rfl, hz⟩, (Apart.of_below (hb1 _)).trans hap⟩

end Go.Proofs.YtiooindlpinjhaaDoor
