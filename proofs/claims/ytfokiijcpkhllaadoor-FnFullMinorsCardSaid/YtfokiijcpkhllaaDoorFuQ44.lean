/- Walk: the reference's search over those who are gone. -/
import Derived.Test.YtfokiijcpkhllaaDoorFuQ35
import Derived.Test.YtfokiijcpkhllaaDoorFuQ20
import Derived.Test.YtfokiijcpkhllaaDoorFuQ29
import Derived.Test.YtfokiijcpkhllaaDoorFuQ9
import Derived.Test.YtfokiijcpkhllaaDoorFuQ43
import Derived.Test.YtfokiijcpkhllaaDoorFuQ28
import Derived.Test.YtfokiijcpkhllaaDoorFuQ37
namespace Go.Proofs.YtfokiijcpkhllaaDoor
open Go.RowKit

theorem rising_first {xs : List Int} {n : Int} (hs : xs.Pairwise (· < ·)) (hm : n ∈ xs) {k : Nat} (hk : k < xs.length) (hlow : ∀ j (hj : j < xs.length), j < k → xs[j] < n) (h : ¬ xs[k] < n) : xs[k] = n := by
  obtain ⟨j, hj, rfl⟩ := List.mem_iff_getElem.1 hm
  rcases Nat.lt_trichotomy j k with h1 | rfl | h1
  · exact absurd (hlow j hj h1) (by omega)
  · rfl
  · exact absurd (List.pairwise_iff_getElem.1 hs k j hk hj h1) h
set_option maxRecDepth 100000 in
set_option maxHeartbeats 1000000 in
theorem l1IntoOld_any (v : Value) (xs : List Int) (n : Int) (hl : xs.length ≤ 100000000) (hs : xs.Pairwise (· < ·)) (hm : n ∈ xs) (w : World) (hx : Nums w 2 .i64 v xs) :
    Calls Tryd.prog 115 #[v, .int .i64 n] w fun e w' => e = .returned v ∧ w = w' := by
  obtain ⟨p, c, rfl, hp, hnc, hn, hat⟩ := hx
  have HS := Lib.hid hs
  have HM := Lib.hid hm
  clear hs hm
  go_enter Tryd.func115, Tryd.ntmps115
  go_wp2
  go_loop [5] (fun i => ∃ k : Nat, k ≤ xs.length ∧ i = .int .i64 k ∧ ∀ j (hj : j < xs.length), j < k → xs[j] < n) (fun i => xs.length - (intOf i).toNat)
  case atStart => exact ⟨0, Nat.zero_le _, rfl, fun j hj h => by omega⟩
  case round =>
    obtain ⟨k, hk, rfl, hlow⟩ := hrel
    have Hlow := Lib.hid hlow
    clear hlow
    by_cases hlt : k < xs.length
    · obtain ⟨b, o, rfl, hcell⟩ := hat.num hlt
      by_cases h1 : xs[k] < n
      · go_wp2
        go_round
        case rel =>
          refine ⟨k + 1, by omega, by go_num, fun j hj h => ?_⟩
          by_cases e : j = k
          · subst e; exact h1
          · exact Hlow.out j hj (by omega)
        case measure => simp [intOf]; omega
      · have h2 := rising_first HS.out HM.out hlt Hlow.out h1
        have h2' : (xs[k] == n) = true := by simpa using h2
        clear h2
        go_wp2
        go_ret
        exact ⟨rfl, rfl⟩
    · exfalso
      obtain ⟨j, hj, hje⟩ := List.mem_iff_getElem.1 HM.out
      have := Hlow.out j hj (by omega)
      omega

/-- The two rows of the search. -/
structure BhW (W0 w : World) (mv : Value) (M : List Nat) (ov : Value) (O : List Int) : Prop where
  bel : Below W0.heap.size W0 w
  met : w.ownsRow W0.heap.size 2 1 mv M.length ((natInts M).map (Value.int .i64))
  out : w.ownsRow W0.heap.size 2 1 ov O.length (O.map (Value.int .i64))
  ne : ∀ k, mv.ownBlock = some k → ov.ownBlock = some k → False
section
variable {W0 w : World} {mv ov : Value} {M : List Nat} {O : List Int}
theorem BhW.next (h : BhW W0 w mv M ov O) {w' : World} (hb : Below w.heap.size w w') : BhW W0 w' mv M ov O :=
  ⟨h.bel.trans (hb.mono h.bel.size), ownsRow_below h.met hb, ownsRow_below h.out hb, h.ne⟩
theorem BhW.add (h : BhW W0 w mv M ov O) {w' : World} {b c y : Nat} (ho : w'.ownsRow W0.heap.size 2 1 (.slice (some ⟨b, 0, none⟩) (M.length + 1) c) (M.length + 1) ((natInts M).map (Value.int .i64) ++ [.int .i64 (y : Int)])) (hg : w.grownBy w' mv.ownBlock)
    (hf : mv.ownBlock = some b ∨ w.heap.size < b) : BhW W0 w' (.slice (some ⟨b, 0, none⟩) (M ++ [y]).length c) (M ++ [y]) ov O where
  bel := below_grown h.bel h.met hg (Nat.le_refl _) h.bel.size
  met := by
    have e : natInts (M ++ [y]) = natInts M ++ [(y : Int)] := by simp [natInts]
    rw [e, List.map_append, List.length_append]
    exact ho
  out := ownsRow_toB h.out fun k e => hg.block k (h.out.lt k e).2 fun c => h.ne k c.symm e
  ne k hk hk2 := by
    have e : b = k := by simpa [Value.ownBlock] using hk
    subst e
    rcases hf with hf | hf
    · exact h.ne b hf hk2
    · have := (h.out.lt b hk2).2; omega
theorem BhW.put (h : BhW W0 w mv M ov O) {w' : World} {ov' : Value} {O' : List Int} (ho : w'.ownsRow w.heap.size 2 1 ov' O'.length (O'.map (Value.int .i64))) (hb : Below w.heap.size w w') : BhW W0 w' mv M ov' O' where
  bel := h.bel.trans (hb.mono h.bel.size)
  met := ownsRow_below h.met hb
  out := ownsRow_base ho h.bel.size
  ne k hk hk2 := by
    have h1 := (h.met.lt k hk).2
    have h2 := (ho.lt k hk2).1
    omega
end
theorem BhW.start (W0 : World) (x : Nat) : BhW W0 ((W0.alloc (.cells #[.int .i64 (x : Int)] 2)).alloc (.cells #[] 2)) (.slice (some ⟨W0.heap.size, 0, none⟩) 1 1) [x] (.slice (some ⟨W0.heap.size + 1, 0, none⟩) 0 0) [] where
  bel := (below_alloc _ _).alloc (by rw [size_alloc]; omega) _
  met := (World.ownsRow_lit (base := W0.heap.size) (e := 2) (size := 1) W0 #[.int .i64 (x : Int)] 1 (Nat.le_refl _) (by decide) rfl).alloc _
  out := ownsRow_empty' _ _ _ _ _ (by omega)
  ne k h1 h2 := by
    simp [Value.ownBlock] at h1 h2
    omega

set_option maxRecDepth 100000 in
set_option maxHeartbeats 8000000 in
theorem l10Behind_any (v gv : Value) (z : Int) (g : List (List Int)) (s a : Nat) (hz : z = a) (hok : GOk g) (ha : a < g.length) (hsa : s.testBit a = false) (w : World) (hg : Gr w v g) (hn : Sl w 4 gv g.length (boolsOf g.length s.testBit)) :
    Calls Tryd.prog 142 #[v, gv, .int .i64 z] w fun e w' => ∃ p c, e = .returned (.slice p (behS g.length (ofG g) s a).length c) ∧ Below w.heap.size w w' := by
  subst hz
  have h16 := hok.le
  have hg0 := hg
  obtain ⟨gu, rfl, hr⟩ := hg
  obtain ⟨p, c, rfl, _⟩ := hr.shape
  obtain ⟨qp, qc, rfl, _⟩ := id hn
  have hrow : Hid (∀ j, j < g.length → ∃ R : List Nat, row g j = natInts R ∧ (∀ y ∈ R, y < g.length) ∧ R.length ≤ 16) := Lib.hid (fun j hj => by
    obtain ⟨h1, h2, h3⟩ := setIn_nats (hok.sets j hj).1
    refine ⟨(row g j).map Int.toNat, h1.symm, h3, ?_⟩
    have := setIn_length (by omega) (hok.sets j hj).1
    rw [List.length_map]; omega)
  obtain ⟨W0, hW0⟩ : ∃ W0, W0 = w.alloc (.cells #[.slice p g.length c] 29) := ⟨_, rfl⟩
  have hb0 : Below w.heap.size w W0 := by rw [hW0]; exact below_alloc _ _
  have HB0 := Lib.hid hb0
  have HBG : Hid (Box W0 w.heap.size 29 (.slice p g.length c)) := Lib.hid (by rw [hW0]; exact Box.new _ _ _)
  have HN := Lib.hid (Sl.below hn hb0)
  have HGR := Lib.hid (hr.below hb0)
  have SZ0 := Lib.hid (show W0.heap.size = w.heap.size + 1 by rw [hW0, size_alloc])
  have HEN : Hid (∀ x y, ofG g x y = true → y < g.length) := Lib.hid fun x y h => adjR_lt hok (adjR_sym hok x y (of_decide_eq_true (p := ((y : Int) ∈ row g x)) h))
  have HSA := Lib.hid hsa
  have START := Lib.hid (BhW.start W0 a)
  have BF0 := Lib.hid (BhI.start (E := ofG g) (s := s) ha)
  clear hg0 hb0 hr hn hok hsa
  go_enter Tryd.func142, Tryd.ntmps142
  go_upto_region 1 with fail
  rw [← hW0]
  clear hW0
  go_wp2_with fail
  go_loopw [7, 8, 9] (fun mv ov iv wr => ∃ (mb mc : Nat) (op : Option Addr) (oc : Nat) (M : List Nat) (O : List Int) (i : Nat), mv = .slice (some ⟨mb, 0, none⟩) M.length mc ∧ ov = .slice op O.length oc ∧ iv = .int .i64 i ∧ i ≤ M.length ∧ Hid (BhI g.length (ofG g) s a M O) ∧
      Hid (∀ j, j < i → ∀ u, u < g.length → ofG g (M.getD j 0) u = true → HndB s a M O u) ∧ BhW W0 wr mv M ov O) (fun _ _ iv _ => g.length - (intOf iv).toNat)
  case atStart => exact ⟨_, _, _, _, [a], [], 0, rfl, rfl, rfl, Nat.zero_le _, BF0, Lib.hid (fun j hj => absurd hj (Nat.not_lt_zero _)), START.out⟩
  case round =>
    clear START BF0
    obtain ⟨mb, mc, op, oc, M, O, i, rfl, rfl, rfl, hi, HBF, HTO, hF⟩ := hrel
    have HF := Lib.hid hF
    have hMl := HBF.out.le
    by_cases hlt : i < M.length
    · obtain ⟨x, hx⟩ : ∃ x, x = M[i] := ⟨_, rfl⟩
      have hxM : x ∈ M := by rw [hx]; exact List.getElem_mem hlt
      have hxn := HBF.out.lt x hxM
      have hm : wr.cell? ⟨mb, i, none⟩ = some (.int .i64 (x : Int)) := by rw [hF.met.cellAt i (by omega), hx]; simp [natInts, hlt]
      obtain ⟨R, hR, hRn, hR16⟩ := hrow.out x hxn
      obtain ⟨gb, go, rp, rc, rfl, hce0, hne0⟩ := HGR.out.get (k := x) hxn
      have hce0 : W0.cell? ⟨gb, go + x, none⟩ = some (.slice rp (row g x).length rc) := hce0
      have hne0 : Nums W0 2 .i64 (.slice rp (row g x).length rc) (row g x) := hne0
      rw [hR, natInts_length] at hce0 hne0
      have hce := hF.bel.at' hce0
      have hcg := hF.bel.at (by have := SZ0.out; omega) HBG.out.cell
      have HNR := Lib.hid hne0
      have HRN := Lib.hid hRn
      have HR := Lib.hid hR
      have HX0 : Hid (M[i]? = some x) := Lib.hid (by rw [hx]; simp [hlt])
      clear hF hne0 hce0 hRn hR hx hxM
      go_upto_region 6 with fail
      go_cut [10] (fun sv wx => sv = .slice rp R.length rc ∧ Below wr.heap.size wr wx)
      case first =>
        go_region_held3 (fun w' => w'.cell? ⟨w.heap.size, 0, none⟩ = some (.slice (some ⟨gb, go, none⟩) g.length c) ∧ w'.cell? ⟨mb, i, none⟩ = some (.int .i64 (x : Int)) ∧ w'.cell? ⟨gb, go + x, none⟩ = some (.slice rp R.length rc))
          (first | exact ⟨hcg, hm, hce⟩ | go_keep)
          (first | fail)
        all_goals go_wp2
        all_goals go_meet
        all_goals exact ⟨rfl, below_dN (Below.refl _ _) 1⟩
      case rest =>
      obtain ⟨rfl, hb1⟩ := hcut
      replace HF := Lib.hid (HF.out.next hb1)
      clear hm hce hcg hb1
      go_wp2_with fail
      go_loopw [7, 8, 11] (fun mv ov kv wx => ∃ (mb mc : Nat) (op : Option Addr) (oc : Nat) (M : List Nat) (O : List Int) (k : Nat), mv = .slice (some ⟨mb, 0, none⟩) M.length mc ∧ ov = .slice op O.length oc ∧ kv = .int .i64 k ∧ k ≤ R.length ∧ Hid (BhI g.length (ofG g) s a M O) ∧
        Hid (M[i]? = some x ∧ (∀ j, j < i → ∀ u, u < g.length → ofG g (M.getD j 0) u = true → HndB s a M O u) ∧ ∀ j, j < k → HndB s a M O (R.getD j 0)) ∧ BhW W0 wx mv M ov O) (fun _ _ kv _ => R.length - (intOf kv).toNat)
      case atStart => exact ⟨mb, mc, op, oc, M, O, 0, rfl, rfl, rfl, Nat.zero_le _, HBF, Lib.hid ⟨HX0.out, HTO.out, fun j hj => absurd hj (Nat.not_lt_zero _)⟩, HF.out⟩
      case round =>
        clear HF HBF HTO HX0 hMl hlt hi
        obtain ⟨mb, mc, op, oc, M, O, k, rfl, rfl, rfl, hk, HBF, HTO, hF⟩ := hrel
        have hMl := HBF.out.le
        have hOl := HBF.out.le2
        have hiM : i < M.length := (List.getElem?_eq_some_iff.1 HTO.out.1).1
        have hxM : x ∈ M := List.mem_of_getElem? HTO.out.1
        have HXM := Lib.hid hxM
        have HF := Lib.hid hF
        by_cases hlt : k < R.length
        · obtain ⟨y, hy⟩ : ∃ y, y = R[k] := ⟨_, rfl⟩
          have hyn : y < g.length := by rw [hy]; exact HRN.out _ (List.getElem_mem hlt)
          have hE : Hid (ofG g x y = true) := Lib.hid (by
            unfold ofG
            rw [decide_eq_true_eq, HR.out, hy]
            exact mem_natInts.2 ⟨_, List.getElem_mem hlt, rfl⟩)
          have HYK : Hid (R.getD k 0 = y) := Lib.hid (by rw [hy]; simp [hlt])
          obtain ⟨qb, qo, rfl, hq0⟩ := HNR.out.get (k := k) (by rw [natInts_length]; exact hlt)
          rw [natInts_atC hlt, ← hy] at hq0
          obtain ⟨_, _, e1, _, _, _, hat⟩ := id HN.out
          cases e1
          obtain ⟨tb, to', rfl, hbl⟩ := hat.cells (k := y) (by simp [boolsOf]; exact hyn)
          have hcb0 : W0.cell? ⟨tb, to' + y, none⟩ = some (.bool (s.testBit y)) := hbl _ _ (boolsOf_get hyn)
          have hq := hF.bel.at' hq0
          have hcb := hF.bel.at' hcb0
          have HQ0 := Lib.hid hq0
          have HCB0 := Lib.hid hcb0
          clear hq0 hcb0
          have hstep : ∀ (M' : List Nat) (O' : List Int), (∀ t ∈ M, t ∈ M') → (∀ t ∈ O, t ∈ O') → HndB s a M' O' y → ∀ j, j < k + 1 → HndB s a M' O' (R.getD j 0) := fun M' O' hM hO hh j hj => by
            by_cases e : j < k
            · exact (HTO.out.2.2 j e).mono hM hO
            · rw [show j = k by omega, HYK.out]; exact hh
          have hold : ∀ (M' : List Nat) (O' : List Int), (∀ t ∈ M, t ∈ M') → (∀ t ∈ O, t ∈ O') → (∀ j, j < i → M'.getD j 0 = M.getD j 0) → ∀ j, j < i → ∀ u, u < g.length → ofG g (M'.getD j 0) u = true → HndB s a M' O' u := fun M' O' hM hO he j hj u hu hE => (HTO.out.2.1 j hj u hu (by rw [← he j hj]; exact hE)).mono hM hO
          have HSTEP := Lib.hid hstep
          have HOLD := Lib.hid hold
          have HXI := Lib.hid HTO.out.1
          clear hy hF hxM hat hbl hstep hold HTO
          cases hsy : s.testBit y with
          | true =>
            have HSY := Lib.hid hsy
            rw [hsy] at hcb
            clear hsy
            by_cases hyM : y ∈ M
            · have DY := Lib.hid (dec_true (show (y : Int) ∈ natInts M from mem_natInts.2 ⟨y, hyM, rfl⟩))
              have HYM := Lib.hid hyM
              clear hyM
              go_wp2_with (go_at_call 66; refine (l1Has_any _ (natInts M) y _ (Nums.of_owns HF.out.met (natInts_length M).symm (by omega))).mono ?_; rintro e w4 ⟨he4, hw4⟩; rw [DY.out] at he4; subst he4; subst hw4)
              go_roundw
              case rel => exact ⟨mb, mc, op, oc, M, O, k + 1, rfl, rfl, by go_num, by omega, HBF, Lib.hid ⟨HXI.out, HOLD.out _ _ (fun _ h => h) (fun _ h => h) (fun _ _ => rfl), HSTEP.out _ _ (fun _ h => h) (fun _ h => h) ⟨fun _ => HYM.out, fun h => (by rw [HSY.out] at h; cases h)⟩⟩, HF.out⟩
              case measure => simp [intOf]; omega
            · have DY := Lib.hid (dec_false (show ¬ (y : Int) ∈ natInts M from fun h => by
                obtain ⟨y', h1, h2⟩ := mem_natInts.1 h
                have : y' = y := by omega
                exact hyM (this ▸ h1)))
              have HYM := Lib.hid hyM
              have HADD := Lib.hid (HBF.out.add HXM.out hE.out hyn HSY.out hyM)
              have lo := HF.out.bel.size
              clear hyM
              go_wp2_with (first
                | (go_at_call 66; refine (l1Has_any _ (natInts M) y _ (Nums.of_owns HF.out.met (natInts_length M).symm (by omega))).mono ?_; rintro e w4 ⟨he4, hw4⟩; rw [DY.out] at he4; subst he4; subst hw4)
                | (at_builtin; refine wpList_app1s ty_i64 rfl rfl rfl HF.out.met rfl rfl (by omega) lo ?_; intro b7 c8 w7 hown7 hg7 hf7; have HF7 := Lib.hid (HF.out.add hown7 hg7 hf7); have hq7 := HF7.out.bel.at' HQ0.out; have hcb7 := HF7.out.bel.at' HCB0.out; rw [HSY.out] at hcb7; clear hown7 hg7 hf7))
              go_roundw
              case rel => exact ⟨b7, c8, op, oc, M ++ [y], O, k + 1, by simp, rfl, by go_num, by omega, HADD, Lib.hid ⟨by rw [List.getElem?_append_left hiM]; exact HXI.out, HOLD.out _ _ (fun _ h => List.mem_append_left _ h) (fun _ h => h) (fun j hj => by rw [List.getD_eq_getElem?_getD, List.getElem?_append_left (by omega), ← List.getD_eq_getElem?_getD]), HSTEP.out _ _ (fun _ h => List.mem_append_left _ h) (fun _ h => h) ⟨fun _ => by simp, fun h => (by rw [HSY.out] at h; cases h)⟩⟩, by have := HF7.out; rwa [List.length_append, List.length_singleton] at this⟩
              case measure => simp [intOf]; omega
          | false =>
            have HSY := Lib.hid hsy
            rw [hsy] at hcb
            clear hsy
            by_cases hya : y = a
            · have HYA := Lib.hid hya
              have hne : ((y : Int) != (a : Int)) = false := by simp; omega
              clear hya
              go_wp2_with fail
              go_roundw
              case rel => exact ⟨mb, mc, op, oc, M, O, k + 1, rfl, rfl, by go_num, by omega, HBF, Lib.hid ⟨HXI.out, HOLD.out _ _ (fun _ h => h) (fun _ h => h) (fun _ _ => rfl), HSTEP.out _ _ (fun _ h => h) (fun _ h => h) ⟨fun h => (by rw [HSY.out] at h; cases h), fun _ h => absurd HYA.out h⟩⟩, HF.out⟩
              case measure => simp [intOf]; omega
            · have HYA := Lib.hid hya
              have hne : ((y : Int) != (a : Int)) = true := by simp; omega
              have HNO : Hid (Nums wr 2 .i64 (.slice op O.length oc) O) := Lib.hid (Nums.of_owns HF.out.out rfl (by omega))
              have HPUT := Lib.hid (HBF.out.put HXM.out hE.out hyn HSY.out hya)
              clear hya
              by_cases hyO : (y : Int) ∈ O
              · have HEQ : Hid (intoL O y = O) := Lib.hid (rising_ext_int _ _ (intoL_rising HBF.out.ris) HBF.out.ris fun t => by
                  rw [mem_intoL]
                  exact ⟨fun h => h.elim id fun e => e ▸ hyO, .inl⟩)
                have HYO := Lib.hid hyO
                clear hyO
                go_wp2_with (go_at_call 115; refine (l1IntoOld_any _ O y (by omega) HBF.out.ris HYO.out _ HNO.out).mono ?_; rintro e w4 ⟨rfl, rfl⟩)
                go_roundw
                case rel => exact ⟨mb, mc, op, oc, M, O, k + 1, rfl, rfl, by go_num, by omega, HBF, Lib.hid ⟨HXI.out, HOLD.out _ _ (fun _ h => h) (fun _ h => h) (fun _ _ => rfl), HSTEP.out _ _ (fun _ h => h) (fun _ h => h) ⟨fun h => (by rw [HSY.out] at h; cases h), fun _ _ => HYO.out⟩⟩, HF.out⟩
                case measure => simp [intOf]; omega
              · have HYO := Lib.hid hyO
                clear hyO
                go_wp2_with (go_at_call 115; refine (l1IntoNew_any _ O y (by omega) HYO.out _ HNO.out).mono ?_; rintro e w4 ⟨u4, rfl, ho4, hb4⟩; obtain ⟨p4, c4, rfl⟩ := owns_shapeB ho4; have HF4 := Lib.hid (HF.out.put ho4 hb4); clear ho4 hb4)
                go_roundw
                case rel => exact ⟨mb, mc, p4, c4, M, intoL O y, k + 1, rfl, rfl, by go_num, by omega, HPUT, Lib.hid ⟨HXI.out, HOLD.out _ _ (fun _ h => h) (fun _ h => mem_intoL.2 (.inl h)) (fun _ _ => rfl), HSTEP.out _ _ (fun _ h => h) (fun _ h => mem_intoL.2 (.inl h)) ⟨fun h => (by rw [HSY.out] at h; cases h), fun _ _ => mem_intoL.2 (.inr rfl)⟩⟩, HF4.out⟩
                case measure => simp [intOf]; omega
        · obtain rfl : k = R.length := by omega
          have HT2 : Hid (∀ j, j < i + 1 → ∀ u, u < g.length → ofG g (M.getD j 0) u = true → HndB s a M O u) := Lib.hid (fun j hj u hu hEu => by
            by_cases e : j < i
            · exact HTO.out.2.1 j e u hu hEu
            · obtain rfl : j = i := by omega
              have e1 : M.getD j 0 = x := by simp [HTO.out.1]
              rw [e1] at hEu
              unfold ofG at hEu
              rw [decide_eq_true_eq, HR.out] at hEu
              obtain ⟨y', h1, h2⟩ := mem_natInts.1 hEu
              obtain rfl : y' = u := by omega
              obtain ⟨t, ht, e2⟩ := List.getElem_of_mem h1
              have e3 : R.getD t 0 = y' := by simp [ht, e2]
              have := HTO.out.2.2 t ht
              rwa [e3] at this)
          clear hF hxM
          go_wp2_with fail
          go_roundw
          case rel => exact ⟨mb, mc, op, oc, M, O, i + 1, rfl, rfl, by go_num, by omega, HBF, HT2, HF.out⟩
          case measure => simp [intOf]; omega
    · obtain rfl : i = M.length := by omega
      have hdone : O = natInts (behS g.length (ofG g) s a) := HBF.out.done (fun x hx u hu hE => by
        obtain ⟨j, hj, rfl⟩ := List.mem_iff_getElem.1 hx
        exact HTO.out j hj u hu (by rw [List.getD_eq_getElem?_getD, List.getElem?_eq_getElem hj]; exact hE)) HEN.out
      have hlen : O.length = (behS g.length (ofG g) s a).length := by rw [hdone, natInts_length]
      have HLEN := Lib.hid hlen
      clear hF hdone hlen
      go_wp2_with fail
      go_ret
      exact ⟨op, oc, by rw [HLEN.out]; rfl, HB0.out.trans (HF.out.bel.mono HB0.out.size)⟩

end Go.Proofs.YtfokiijcpkhllaaDoor

/- Walks: the reference's least width of taking away what is left, from a table of what is known. -/
namespace Go.Proofs.YtfokiijcpkhllaaDoor
open Go.RowKit

theorem maxTw_any (x y : Int) (w : World) : Calls Tryd.prog 79 #[.int .i64 x, .int .i64 y] w fun e w' => e = .returned (.int .i64 (max x y)) ∧ w = w' := by
  by_cases h : y < x
  · have hm : Hid (max x y = x) := Lib.hid (by omega)
    go_enter Tryd.func79, Tryd.ntmps79
    go_wp2
    go_ret
    exact ⟨by rw [hm.out]; rfl, rfl⟩
  · have hm : Hid (max x y = y) := Lib.hid (by omega)
    go_enter Tryd.func79, Tryd.ntmps79
    go_wp2
    go_ret
    exact ⟨by rw [hm.out]; rfl, rfl⟩

theorem Apart.setCell {lo hi : Nat} (w : World) {b i : Nat} (h1 : lo ≤ b) (h2 : b < hi) (u : Value) : Apart lo hi w (w.setCell ⟨b, i, none⟩ u) :=
  have h := (Below.refl b w).setCell (p := ⟨b, i, none⟩) (Nat.le_refl _) u
  ⟨h.os, h.tape, h.output, h.size, fun c _ hc => Below.heap_setCell _ _ _ _ (by show c ≠ b; omega)⟩

theorem boolsOf_put (n s k : Nat) : (boolsOf n s.testBit).set k (.bool true) = boolsOf n (s ||| 2 ^ k).testBit := by
  refine List.ext_getElem (by simp [boolsOf]) fun j h1 h2 => ?_
  rw [List.getElem_set]
  by_cases e : k = j
  · rw [if_pos e]
    simp [boolsOf, testBit_put, e]
  · rw [if_neg e]
    simp [boolsOf, testBit_put, e]
theorem boolsOf_back (n : Nat) {s k : Nat} (h : s.testBit k = false) : (boolsOf n (s ||| 2 ^ k).testBit).set k (.bool false) = boolsOf n s.testBit := by
  refine List.ext_getElem (by simp [boolsOf]) fun j h1 h2 => ?_
  rw [List.getElem_set]
  by_cases e : k = j
  · rw [if_pos e]
    simp [boolsOf, ← e, h]
  · rw [if_neg e]
    simp [boolsOf, testBit_put, e]
theorem bits_half (s j : Nat) : s / 2 ^ j = 2 * (s / 2 ^ (j + 1)) + (if s.testBit j = true then 1 else 0 : Nat) := by
  rw [Nat.testBit_eq_decide_div_mod_eq, Nat.pow_succ, ← Nat.div_div_eq_div_mul]
  by_cases h : s / 2 ^ j % 2 = 1
  · rw [if_pos (by simpa using h)]; omega
  · rw [if_neg (by simpa using h)]; omega

set_option maxRecDepth 100000 in
set_option maxHeartbeats 1000000 in
theorem l10Code_any (v : Value) (n s : Nat) (hn : n ≤ 16) (hs : s < 2 ^ n) (w : World) (hg : Sl w 4 v n (boolsOf n s.testBit)) :
    Calls Tryd.prog 141 #[v] w fun e w' => e = .returned (.int .i64 (s : Int)) ∧ w = w' := by
  obtain ⟨p, c, rfl, _, _, _, hat⟩ := hg
  have HAT := Lib.hid hat
  have h16 : s < 65536 := Nat.lt_of_lt_of_le hs (Nat.pow_le_pow_right (by omega) hn)
  have H0 : Hid (s / 2 ^ n = 0) := Lib.hid (Nat.div_eq_of_lt hs)
  clear hs hat
  go_enter Tryd.func141, Tryd.ntmps141
  have hw1 : IntKind.i64.wrap ((n : Int) - 1) = (n : Int) - 1 := by rw [IntKind.wrap_i64]; omega
  go_wp2_with fail
  go_loop [3, 4] (fun q v => ∃ j : Nat, j ≤ n ∧ v = .int .i64 ((j : Int) - 1) ∧ Hid (q = .int .i64 ((s / 2 ^ j : Nat) : Int))) (fun _ v => (intOf v + 1).toNat)
  case atStart => exact ⟨n, Nat.le_refl _, rfl, Lib.hid (by rw [H0.out]; rfl)⟩
  case round =>
    clear hw1
    obtain ⟨j, hj, rfl, hq⟩ := hrel
    obtain ⟨q, hqe⟩ : ∃ q, q = s / 2 ^ j := ⟨_, rfl⟩
    have hq' := hq.out
    rw [← hqe] at hq'
    subst hq'
    have hq16 : q ≤ s := by rw [hqe]; exact Nat.div_le_self _ _
    by_cases hlt : 0 < j
    · obtain ⟨i, rfl⟩ : ∃ i, j = i + 1 := ⟨j - 1, by omega⟩
      have e1 : ((i + 1 : Nat) : Int) - 1 = (i : Int) := by omega
      rw [e1]
      obtain ⟨b, o, rfl, hc⟩ := HAT.out.cells (k := i) (by simp [boolsOf]; omega)
      have hcell : w.cell? ⟨b, o + i, none⟩ = some (.bool (s.testBit i)) := hc _ _ (boolsOf_get (by omega))
      obtain ⟨fl, hfl⟩ : ∃ fl, fl = (if s.testBit i = true then 1 else 0 : Nat) := ⟨_, rfl⟩
      have hfl1 : fl ≤ 1 := by rw [hfl]; split <;> omega
      have hst : s / 2 ^ i = 2 * q + fl := by rw [bits_half s i, hqe, hfl]
      have HST := Lib.hid hst
      have HFL := Lib.hid hfl
      have hw2 : IntKind.i64.wrap (2 * (q : Int)) = 2 * (q : Int) := by rw [IntKind.wrap_i64]; omega
      have hw3 : IntKind.i64.wrap (2 * (q : Int) + (fl : Int)) = ((2 * q + fl : Nat) : Int) := by rw [IntKind.wrap_i64]; omega
      have hw4 : IntKind.i64.wrap ((i : Int) - 1) = (i : Int) - 1 := by rw [IntKind.wrap_i64]; omega
      have FLAG : Hid (∀ w, Calls Tryd.prog 153 #[.bool (s.testBit i)] w fun e w' => e = .returned (.int .i64 (fl : Int)) ∧ w = w') := Lib.hid (fun w => by rw [hfl]; exact l1Flag_any _ w)
      generalize s.testBit i = bt at hcell FLAG
      clear hst hfl hqe hq hc HAT
      go_wp2_with (go_at_call 153; refine (FLAG.out _).mono ?_; rintro e w4 ⟨rfl, rfl⟩)
      go_round
      case rel => exact ⟨i, by omega, rfl, Lib.hid (by rw [HST.out]; congr 1)⟩
      case measure => first | (simp [intOf]; done) | (simp [intOf]; omega)
    · obtain rfl : j = 0 := by omega
      have e0 : q = s := by rw [hqe]; simp
      clear hqe hq
      subst e0
      go_wp2_with fail
      go_ret
      exact ⟨rfl, rfl⟩

/-- The table knows widths. -/
def KOk (n : Nat) (E : Nat → Nat → Bool) (N : Nat) (K : List Int) : Prop := K.length = N ∧ N = 2 ^ n ∧ ∀ c, c < N → K.getD c 0 = -1 ∨ K.getD c 0 = (twS n E c : Int)
theorem KOk.put {n N : Nat} {E : Nat → Nat → Bool} {K : List Int} (h : KOk n E N K) (c : Nat) : KOk n E N (K.set c (twS n E c : Int)) := by
  refine ⟨by rw [List.length_set]; exact h.1, h.2.1, fun d hd => ?_⟩
  by_cases e : c = d
  · subst e
    right
    have := h.1
    rw [List.getD_eq_getElem?_getD, List.getElem?_set_self (by omega)]; rfl
  · rw [List.getD_eq_getElem?_getD, List.getElem?_set_ne e, ← List.getD_eq_getElem?_getD]
    exact h.2.2 d hd
/-- The rows of those who are gone and of what is known. -/
structure LfR (w : World) (lo hi gb kb n N s : Nat) (K : List Int) : Prop where
  gone : w.ownsRow lo 4 1 (.slice (some ⟨gb, 0, none⟩) n n) n (boolsOf n s.testBit)
  known : w.ownsRow lo 2 1 (.slice (some ⟨kb, 0, none⟩) N N) N (K.map (Value.int .i64))
  ne : gb ≠ kb
  hg : gb < hi
  hk : kb < hi
  hw : hi ≤ w.heap.size
section
variable {w : World} {lo hi gb kb n N s : Nat} {K : List Int}
theorem LfR.next (h : LfR w lo hi gb kb n N s K) {w' : World} (hb : Below w.heap.size w w') : LfR w' lo hi gb kb n N s K :=
  ⟨ownsRow_below h.gone hb, ownsRow_below h.known hb, h.ne, h.hg, h.hk, Nat.le_trans h.hw hb.size⟩
theorem LfR.lows (h : LfR w lo hi gb kb n N s K) : lo ≤ gb ∧ lo ≤ kb := ⟨(h.gone.lt gb rfl).1, (h.known.lt kb rfl).1⟩
theorem LfR.mark (h : LfR w lo hi gb kb n N s K) (k : Nat) : LfR (w.setCell ⟨gb, k, none⟩ (.bool true)) lo hi gb kb n N (s ||| 2 ^ k) K := by
  refine ⟨?_, ownsRow_setCell_other h.known (a := ⟨gb, k, none⟩) (fun e => h.ne (by simpa [Value.ownBlock] using e.symm)) _, h.ne, h.hg, h.hk, by rw [World.size_setCell]; exact h.hw⟩
  have := (h.gone.stored k (.bool true)).1
  rwa [boolsOf_put] at this
theorem LfR.unmark {k : Nat} (hs : s.testBit k = false) (h : LfR w lo hi gb kb n N (s ||| 2 ^ k) K) : LfR (w.setCell ⟨gb, k, none⟩ (.bool false)) lo hi gb kb n N s K := by
  refine ⟨?_, ownsRow_setCell_other h.known (a := ⟨gb, k, none⟩) (fun e => h.ne (by simpa [Value.ownBlock] using e.symm)) _, h.ne, h.hg, h.hk, by rw [World.size_setCell]; exact h.hw⟩
  have := (h.gone.stored k (.bool false)).1
  rwa [boolsOf_back n hs] at this
theorem LfR.put (h : LfR w lo hi gb kb n N s K) (c : Nat) (z : Int) : LfR (w.setCell ⟨kb, c, none⟩ (.int .i64 z)) lo hi gb kb n N s (K.set c z) := by
  refine ⟨ownsRow_setCell_other h.gone (a := ⟨kb, c, none⟩) (fun e => h.ne (by simpa [Value.ownBlock] using e)) _, ?_, h.ne, h.hg, h.hk, by rw [World.size_setCell]; exact h.hw⟩
  rw [List.map_set]
  exact (h.known.stored c (.int .i64 z)).1
theorem LfR.sl (h : LfR w lo hi gb kb n N s K) (hn : n ≤ 16) : Sl w 4 (.slice (some ⟨gb, 0, none⟩) n n) n (boolsOf n s.testBit) := Sl.of_owns h.gone (by omega)
end

/-- What l10From hands back. -/
def LfEnd (w w' : World) (lo hi gb kb n N s : Nat) (E : Nat → Nat → Bool) : Prop := ∃ K', KOk n E N K' ∧ LfR w' lo hi gb kb n N s K' ∧ Apart lo hi w w'
set_option maxRecDepth 100000 in
set_option maxHeartbeats 8000000 in
theorem l10From_any (v : Value) (g : List (List Int)) (hok : GOk g) (lo hi gb kb N : Nat) (hN : N = 2 ^ g.length) (W : World) (hWs : W.heap.size ≤ lo) (hg : Gr W v g) : ∀ (r s : Nat) (K : List Int) (w : World), (freeS g.length s).length = r → s < N →
    KOk g.length (ofG g) N K → LfR w lo hi gb kb g.length N s K → Below W.heap.size W w →
    Calls Tryd.prog 119 #[v, .slice (some ⟨gb, 0, none⟩) g.length g.length, .slice (some ⟨kb, 0, none⟩) N N] w fun e w' => e = .returned (.int .i64 (twS g.length (ofG g) s : Int)) ∧ LfEnd w w' lo hi gb kb g.length N s (ofG g) := by
  have h16 := hok.le
  have HG := Lib.hid hg
  have HOK := Lib.hid hok
  obtain ⟨gu, rfl, hr⟩ := hg
  obtain ⟨p, c, rfl, _⟩ := hr.shape
  have hN16 : N ≤ 65536 := by rw [hN]; exact Nat.le_trans (Nat.pow_le_pow_right (by omega) h16) (Nat.le_refl _)
  have HN := Lib.hid hN
  clear hr hN hok
  intro r
  induction r using Nat.strongRecOn with
  | ind r IH =>
  intro s K w hfr hs hK hR hB
  have IH := Lib.hid IH
  have HFR := Lib.hid hfr
  have HK := Lib.hid hK
  obtain ⟨W0, hW0⟩ : ∃ W0, W0 = w.alloc (.cells #[.slice p g.length c] 29) := ⟨_, rfl⟩
  have hb0 : Below w.heap.size w W0 := by rw [hW0]; exact below_alloc _ _
  have HB0 := Lib.hid hb0
  have HBG : Hid (Box W0 w.heap.size 29 (.slice p g.length c)) := Lib.hid (by rw [hW0]; exact Box.new _ _ _)
  have SZ0 : Hid (W0.heap.size = w.heap.size + 1) := Lib.hid (by rw [hW0, size_alloc])
  have HR0 := Lib.hid (hR.next hb0)
  have HBW : Hid (Below W.heap.size W W0) := Lib.hid (hB.trans (hb0.mono hB.size))
  have hiw := hR.hw
  have hcell : W0.cell? ⟨kb, s, none⟩ = some (.int .i64 (K.getD s 0)) := by
    have h1 := hK.1
    rw [HR0.out.known.cellAt s (by omega)]
    simp [h1, hs]
  have HKS := Lib.hid (hK.2.2 s hs)
  have HSN : Hid (s < 2 ^ g.length) := Lib.hid (by rw [← HN.out]; exact hs)
  clear hfr hK hR hB hb0
  go_enter Tryd.func119, Tryd.ntmps119
  go_upto_region 1 with fail
  rw [← hW0]
  clear hW0
  go_upto_region 2 with (go_at_call 141; refine (l10Code_any _ g.length s h16 HSN.out _ (HR0.out.sl h16)).mono ?_; rintro e w1 ⟨rfl, rfl⟩)
  by_cases hkn : 0 ≤ K.getD s 0
  · have HV : Hid (K.getD s 0 = (twS g.length (ofG g) s : Int)) := Lib.hid (HKS.out.resolve_left (by omega))
    generalize K.getD s 0 = ks at hcell hkn HV
    go_wp2_with fail
    go_ret
    exact ⟨by rw [← HV.out]; rfl, K, HK.out, HR0.out, Apart.of_below HB0.out⟩
  · generalize K.getD s 0 = ks at hcell hkn
    clear HKS
    go_wp2_with fail
    go_loopw [8, 9] (fun bv kv wr => ∃ (k : Nat) (K : List Int) (mo : Int), k ≤ g.length ∧ kv = .int .i64 k ∧ bv = .int .i64 mo ∧ Hid (mo = minO (((List.range k).filter fun v => !s.testBit v).map (valS g.length (ofG g) s))) ∧ -1 ≤ mo ∧ mo ≤ 16 ∧
      Hid (KOk g.length (ofG g) N K) ∧ Hid (LfR wr lo hi gb kb g.length N s K) ∧ Hid (Apart lo hi W0 wr)) (fun _ kv _ => g.length - (intOf kv).toNat)
    case atStart => exact ⟨0, K, -1, Nat.zero_le _, rfl, rfl, Lib.hid rfl, by omega, by omega, HK, HR0, Lib.hid (Apart.refl _ _ _)⟩
    case round =>
      clear hcell hkn HK HR0
      obtain ⟨k, K, mo, hk, rfl, rfl, HMO, hmo1, hmo2, HK, HR, HAP⟩ := hrel
      have HBr := Lib.hid (HBG.out.apart HAP.out (by omega))
      have hcg := HBr.out.cell
      have HBWr : Hid (Below W.heap.size W wr) := Lib.hid (HBW.out.trans ((HAP.out.below (by have := SZ0.out; have := HR.out.lows; have := HR.out.hg; omega)).mono hWs))
      have HGr := Lib.hid (HG.out.below HBWr.out)
      by_cases hlt : k < g.length
      · have hcb : wr.cell? ⟨gb, k, none⟩ = some (.bool (s.testBit k)) := by
          rw [HR.out.gone.cellAt k (by omega)]; exact boolsOf_get hlt
        have hfz := HR.out.gone.frozenAt k
        cases hsk : s.testBit k with
        | true =>
          have HFL : Hid (((List.range (k + 1)).filter fun v => !s.testBit v) = (List.range k).filter fun v => !s.testBit v) := Lib.hid (by rw [List.range_succ, List.filter_append]; simp [hsk])
          rw [hsk] at hcb
          clear hsk
          go_wp2_with (go_at_call 60; refine (l1Size_any _ g _ HGr.out).mono ?_; rintro e w2 ⟨rfl, hb2⟩; have hcb2 := hb2.at' hcb; have HR2 := Lib.hid (HR.out.next hb2); have HAP2 := Lib.hid (HAP.out.trans (Apart.of_below hb2)); clear hb2)
          go_roundw
          case rel => exact ⟨k + 1, K, mo, by omega, by go_num, rfl, Lib.hid (by rw [HFL.out]; exact HMO.out), hmo1, hmo2, HK, HR2, HAP2⟩
          case measure => simp [intOf]; omega
        | false =>
          have HSK := Lib.hid hsk
          have hkf : k ∈ freeS g.length s := mem_freeS.2 ⟨hlt, hsk⟩
          have hput := freeS_put hkf
          have HVAL : Hid (minO (((List.range (k + 1)).filter fun v => !s.testBit v).map (valS g.length (ofG g) s)) = stepO mo (valS g.length (ofG g) s k)) := Lib.hid (by
            rw [List.range_succ, List.filter_append, HMO.out]
            have : ([k].filter fun v => !s.testBit v) = [k] := by simp [hsk]
            rw [this, List.map_append, List.map_singleton, minO_snoc])
          obtain ⟨bl, hbl⟩ : ∃ bl, bl = (behS g.length (ofG g) s k).length := ⟨_, rfl⟩
          obtain ⟨tw, htw⟩ : ∃ tw, tw = twS g.length (ofG g) (s ||| 2 ^ k) := ⟨_, rfl⟩
          have HVL : Hid (valS g.length (ofG g) s k = max bl tw) := Lib.hid (by unfold valS; rw [hbl, htw])
          have hbl16 : bl ≤ 16 := by rw [hbl]; exact Nat.le_trans (behS_le _ _ _ _) h16
          have htw16 : tw ≤ 16 := by rw [htw]; exact Nat.le_trans (twS_le _ _ _ _ rfl) h16
          have hs2 : s ||| 2 ^ k < N := by rw [HN.out]; exact Nat.or_lt_two_pow HSN.out (Nat.pow_lt_pow_right (by omega) hlt)
          have HS2 := Lib.hid hs2
          have hcall : ∀ (K : List Int) (w : World), KOk g.length (ofG g) N K → LfR w lo hi gb kb g.length N (s ||| 2 ^ k) K → Below W.heap.size W w →
              Calls Tryd.prog 119 #[.agg #[.slice p g.length c], .slice (some ⟨gb, 0, none⟩) g.length g.length, .slice (some ⟨kb, 0, none⟩) N N] w fun e w' => e = .returned (.int .i64 (tw : Int)) ∧ LfEnd w w' lo hi gb kb g.length N (s ||| 2 ^ k) (ofG g) := fun K w h1 h2 h3 => by
            rw [htw]
            exact IH.out _ (by have := HFR.out; omega) _ K w rfl hs2 h1 h2 h3
          have HCALL := Lib.hid hcall
          have hbeh : ∀ w, Below W.heap.size W w → (∀ K, LfR w lo hi gb kb g.length N s K → Calls Tryd.prog 142 #[.agg #[.slice p g.length c], .slice (some ⟨gb, 0, none⟩) g.length g.length, .int .i64 (k : Int)] w fun e w' => ∃ p c, e = .returned (.slice p bl c) ∧ Below w.heap.size w w') := fun w h1 K h2 => by
            rw [hbl]
            exact l10Behind_any _ _ _ g s k rfl HOK.out hlt hsk w (HG.out.below h1) (h2.sl h16)
          have HBEH := Lib.hid hbeh
          rw [hsk] at hcb
          clear hsk hkf hput hbl htw hcall hbeh hs2
          go_upto_region 10 with (first
            | (go_at_call 142; refine (HBEH.out _ (HBWr.out.trans (HB2.out.mono HBWr.out.size)) K (HR.out.next HB2.out)).mono ?_; rintro e w3 ⟨bp, bc, rfl, hb3⟩; have HB3 := Lib.hid (HB2.out.trans (hb3.mono HB2.out.size)); have hcb3 := hb3.at' hcb2; clear hb3 hcb2)
            | (go_at_call 60; refine (l1Size_any _ g _ HGr.out).mono ?_; rintro e w2 ⟨rfl, hb2⟩; have hcb2 := hb2.at' hcb; have hcg2 := hb2.at' hcg; have HB2 := Lib.hid hb2; clear hb2))
          have HR3 := Lib.hid (HR.out.next HB3.out)
          have hfz3 := HR3.out.gone.frozenAt k
          clear hfz hcb hcg hcg2
          go_upto_region 11 with fail
          obtain ⟨w4, hw4⟩ : ∃ W', W' = w3.setCell ⟨gb, k, none⟩ (.bool true) := ⟨_, rfl⟩
          rw [← hw4]
          have HR4 : Hid (LfR w4 lo hi gb kb g.length N (s ||| 2 ^ k) K) := Lib.hid (by rw [hw4]; exact HR3.out.mark k)
          have HAP4 : Hid (Apart lo hi W0 w4) := Lib.hid (HAP.out.trans ((Apart.of_below HB3.out).trans (by rw [hw4]; exact Apart.setCell _ HR3.out.lows.1 HR3.out.hg _)))
          have HBr4 := Lib.hid (HBG.out.apart HAP4.out (by omega))
          have hcg4 := HBr4.out.cell
          have HBW4 : Hid (Below W.heap.size W w4) := Lib.hid (HBW.out.trans ((HAP4.out.below (by have := SZ0.out; have := HR3.out.lows; have := HR3.out.hg; omega)).mono hWs))
          clear hw4 hcb3 hfz3 HR3 HR
          go_upto_region 12 with (first
            | (go_at_call 119; refine (HCALL.out K _ HK.out HR4.out HBW4.out).mono ?_; rintro e w5 ⟨rfl, K5, hK5, hR5, hA5⟩; have HK5 := Lib.hid hK5; have HR5 := Lib.hid hR5; have HA5 := Lib.hid hA5; clear hK5 hR5 hA5)
            | (go_at_call 79; refine (maxTw_any _ _ _).mono ?_; rintro e w6 ⟨rfl, rfl⟩))
          have hcb5 : w5.cell? ⟨gb, k, none⟩ = some (.bool true) := by
            rw [HR5.out.gone.cellAt k (by omega), boolsOf_get hlt, testBit_put]; simp
          have hfz5 := HR5.out.gone.frozenAt k
          go_upto_region 13 with fail
          obtain ⟨w6, hw6⟩ : ∃ W', W' = w5.setCell ⟨gb, k, none⟩ (.bool false) := ⟨_, rfl⟩
          rw [← hw6]
          have HR6 : Hid (LfR w6 lo hi gb kb g.length N s K5) := Lib.hid (by rw [hw6]; exact HR5.out.unmark HSK.out)
          have HAP6 : Hid (Apart lo hi W0 w6) := Lib.hid (HAP4.out.trans (HA5.out.trans (by rw [hw6]; exact Apart.setCell _ HR5.out.lows.1 HR5.out.hg _)))
          obtain ⟨z, hz⟩ : ∃ z : Nat, z = max bl tw := ⟨_, rfl⟩
          have hzi : max (bl : Int) (tw : Int) = (z : Int) := by omega
          rw [hzi]
          have hz16 : z ≤ 16 := by omega
          have HZ := Lib.hid hz
          clear hw6 hcb5 hfz5 HR5 HA5 HR4 HAP4 hcg4 HBr4 HBW4 HCALL HBEH hz hzi HB3 hbl16 htw16 HK
          by_cases c1 : mo < 0
          · go_wp2_with fail
            go_roundw
            case rel => exact ⟨k + 1, K5, z, by omega, by go_num, rfl, Lib.hid (by rw [HVAL.out, HVL.out, ← HZ.out]; unfold stepO; rw [if_pos (.inl c1)]), by omega, by omega, HK5, HR6, HAP6⟩
            case measure => simp [intOf]; omega
          · by_cases c2 : (z : Int) < mo
            · go_wp2_with fail
              go_roundw
              case rel => exact ⟨k + 1, K5, z, by omega, by go_num, rfl, Lib.hid (by rw [HVAL.out, HVL.out, ← HZ.out]; unfold stepO; rw [if_pos (.inr c2)]), by omega, by omega, HK5, HR6, HAP6⟩
              case measure => simp [intOf]; omega
            · go_wp2_with fail
              go_roundw
              case rel => exact ⟨k + 1, K5, mo, by omega, by go_num, rfl, Lib.hid (by rw [HVAL.out, HVL.out, ← HZ.out]; unfold stepO; rw [if_neg (fun h => h.elim c1 c2)]), by omega, by omega, HK5, HR6, HAP6⟩
              case measure => simp [intOf]; omega
      · obtain rfl : k = g.length := by omega
        have htwe := twS_eq g.length (ofG g) s
        have HTW : Hid (max mo 0 = (twS g.length (ofG g) s : Int)) := Lib.hid (by rw [htwe, HMO.out]; rfl)
        obtain ⟨tw, htw⟩ : ∃ tw, tw = twS g.length (ofG g) s := ⟨_, rfl⟩
        have HPUT : Hid (KOk g.length (ofG g) N (K.set s (tw : Int))) := Lib.hid (by rw [htw]; exact HK.out.put s)
        have HT := Lib.hid htw
        have hmx : max mo 0 = (tw : Int) := by rw [HTW.out, htw]
        clear htwe htw
        go_upto_region 15 with (go_at_call 60; refine (l1Size_any _ g _ HGr.out).mono ?_; rintro e w2 ⟨rfl, hb2⟩; have HR2 := Lib.hid (HR.out.next hb2); have HAP2 := Lib.hid (HAP.out.trans (Apart.of_below hb2)); clear hb2)
        have hfk := HR2.out.known.frozenAt s
        have hck : w2.cell? ⟨kb, s, none⟩ = some (.int .i64 (K.getD s 0)) := by
          have h1 := HK.out.1
          rw [HR2.out.known.cellAt s (by omega)]
          simp [h1, hs]
        have hck2 : (w2.setCell ⟨kb, s, none⟩ (.int .i64 (tw : Int))).cell? ⟨kb, s, none⟩ = some (.int .i64 (tw : Int)) := by
          have h1 := HK.out.1
          rw [(HR2.out.put s tw).known.cellAt s (by omega)]
          simp [h1, hs]
        generalize K.getD s 0 = kk at hck
        go_wp2_with (go_at_call 79; refine (maxTw_any _ _ _).mono ?_; rintro e w6 ⟨rfl, rfl⟩; rw [hmx])
        go_ret
        exact ⟨by rw [← HT.out]; rfl, _, HPUT.out, HR2.out.put s tw, (Apart.of_below HB0.out).trans (HAP2.out.trans (Apart.setCell _ HR2.out.lows.2 HR2.out.hk _))⟩

end Go.Proofs.YtfokiijcpkhllaaDoor
