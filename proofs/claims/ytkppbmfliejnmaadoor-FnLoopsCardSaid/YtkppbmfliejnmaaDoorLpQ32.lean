/- Walk: the reference's l3From, with exact distances (printed by wip/mkLpB.py out of XConB). -/
import Derived.Test.YtkppbmfliejnmaaDoorLpQ24
import Derived.Test.YtkppbmfliejnmaaDoorLpQ31
import Derived.Test.YtkppbmfliejnmaaDoorLpQ29
import Derived.Test.YtkppbmfliejnmaaDoorLpQ22
import Derived.Test.YtkppbmfliejnmaaDoorLpQ8
namespace Go.Proofs.YtkppbmfliejnmaaDoor
open Go.RowKit

set_option maxRecDepth 100000 in
set_option maxHeartbeats 8000000 in
theorem l3FromD_any (v lv : Value) (z : Int) (g : List (List Int)) (L : List Nat) (u : Nat) (hz : z = u) (hok : GOk g) (hL : ∀ x ∈ L, x < g.length) (hu : u ∈ L) (w : World) (hg : Gr w v g) (hn : Nums w 2 .i64 lv (natInts L)) :
    Calls Tryd.prog 166 #[v, .int .i64 z, lv] w fun e w' => ∃ (ov : Value) (F : List Int), e = .returned ov ∧ F.length = g.length ∧ (∀ x, x < g.length → (0 ≤ F.getD x 0 ↔ x ∈ partL (ofG g) L u)) ∧ (∃ M, Bf (ofG g) L g.length u F M) ∧ (∀ x, x < g.length → IsD (ofG g) (· ∈ L) u x (F.getD x 0)) ∧
      w'.ownsRow w.heap.size 2 1 ov g.length (F.map (Value.int .i64)) ∧ Below w.heap.size w w' := by
  subst hz
  have hun := hL u hu
  have h16 := hok.le
  have hg0 := hg
  obtain ⟨gu, rfl, hr⟩ := hg
  obtain ⟨p, c, rfl, _⟩ := hr.shape
  obtain ⟨lp, lc, rfl, _⟩ := id hn.shape
  have hrow : Hid (∀ j, j < g.length → ∃ R : List Nat, row g j = natInts R ∧ (∀ y ∈ R, y < g.length) ∧ R.length ≤ 16) := Lib.hid (fun j hj => by
    obtain ⟨h1, h2, h3⟩ := setIn_nats (hok.sets j hj).1
    refine ⟨(row g j).map Int.toNat, h1.symm, h3, ?_⟩
    have := setIn_length (by omega) (hok.sets j hj).1
    rw [List.length_map]; omega)
  obtain ⟨W0, hW0⟩ : ∃ W0, W0 = w.alloc (.cells #[.slice p g.length c] 29) := ⟨_, rfl⟩
  have hb0 : Below w.heap.size w W0 := by rw [hW0]; exact below_alloc _ _
  have HB0 := Lib.hid hb0
  have HBG : Hid (Box W0 w.heap.size 29 (.slice p g.length c)) := Lib.hid (by rw [hW0]; exact Box.new _ _ _)
  have HG := Lib.hid (hg0.below hb0)
  have HN := Lib.hid (hn.below hb0)
  have HGR := Lib.hid (hr.below hb0)
  have SZ0 := Lib.hid (show W0.heap.size = w.heap.size + 1 by rw [hW0, size_alloc])
  have HU := Lib.hid hu
  have HL := Lib.hid hL
  have DU := Lib.hid (dec_true (show ((u : Nat) : Int) ∈ natInts L from mem_natInts.2 ⟨u, hu, rfl⟩))
  have START : Hid ((W0.alloc (.cells #[] 2)).ownsRow W0.heap.size 2 1 (.slice (some ⟨W0.heap.size, 0, none⟩) 0 0) 0 (List.replicate 0 (.int .i64 (-1)))) := Lib.hid (ownsRow_empty W0 2 1)
  clear hg0 hb0 hr hn hu hL hok
  go_enter Tryd.func166, Tryd.ntmps166
  go_upto_region 1 with fail
  rw [← hW0]
  clear hW0
  go_wp2_with fail
  go_loopw [7, 8] (fun ov kv wr => ∃ k : Nat, k ≤ g.length ∧ kv = .int .i64 k ∧ wr.ownsRow W0.heap.size 2 1 ov k (List.replicate k (.int .i64 (-1))) ∧ Below W0.heap.size W0 wr) (fun _ kv _ => g.length - (intOf kv).toNat)
  case atStart => exact ⟨0, Nat.zero_le _, rfl, START.out, below_alloc _ _⟩
  case round =>
    clear START
    obtain ⟨k, hk, rfl, hown, hb⟩ := hrel
    have HO := Lib.hid hown
    have HB := Lib.hid hb
    have hcg := hb.at (by have := SZ0.out; omega) HBG.out.cell
    clear hown
    by_cases hlt : k < g.length
    · clear hb
      go_wp2_with (first
        | (go_at_call 132; refine (l1Size_any _ g _ (HG.out.below HB.out)).mono ?_; rintro e w2 ⟨rfl, hb2⟩; have ho2 := ownsRow_below HO.out hb2; have HB2 := Lib.hid (HB.out.trans (hb2.mono HB.out.size)); clear hb2)
        | (at_builtin; refine wpList_app1s ty_i64 rfl rfl rfl ho2 rfl rfl (by omega) HB2.out.size ?_; intro b7 c8 w7 hown7 hg7 _))
      go_roundw
      case rel => exact ⟨k + 1, by omega, by go_num, by rw [List.replicate_succ']; exact hown7, below_grown HB2.out ho2 hg7 (Nat.le_refl _) HB2.out.size⟩
      case measure => simp [intOf]; omega
    · obtain rfl : k = g.length := by omega
      clear hb
      go_upto_region 6 with (go_at_call 132; refine (l1Size_any _ g _ (HG.out.below HB.out)).mono ?_; rintro e w2 ⟨rfl, hb2⟩; have HO2 := Lib.hid (ownsRow_below HO.out hb2); have HB2 := Lib.hid (HB.out.trans (hb2.mono HB.out.size)); have hcg2 := hb2.at' hcg; clear hb2)
      obtain ⟨ob, oc, rfl⟩ := owns_someB HO2.out (by omega)
      have hcu := HO2.out.cellAt u (by omega)
      have hcu : w2.cell? ⟨ob, u, none⟩ = some (.int .i64 (-1)) := by rw [hcu]; simp [hun]
      have hfu := HO2.out.frozenAt u
      have lo := HO2.out.lt ob rfl
      have F0 : Hid (FW W0 ((w2.setCell ⟨ob, u, none⟩ (.int .i64 0)).alloc (.cells #[.int .i64 (u : Int)] 2)) g.length ob oc ((List.replicate g.length (-1 : Int)).set u 0) (.slice (some ⟨w2.heap.size, 0, none⟩) 1 1) [u]) := Lib.hid (by
        have hsz : (w2.setCell ⟨ob, u, none⟩ (.int .i64 0)).heap.size = w2.heap.size := by simp
        have hs := (HO2.out.stored u (.int .i64 0)).1
        have e1 : ((List.replicate g.length (-1 : Int)).set u 0).map (Value.int .i64) = (List.replicate g.length (Value.int .i64 (-1))).set u (.int .i64 0) := by rw [List.map_set, List.map_replicate]
        have hz : w2.heap.size ≤ (w2.setCell ⟨ob, u, none⟩ (.int .i64 0)).heap.size := ((Below.refl 0 w2).setCell (p := ⟨ob, u, none⟩) (Nat.zero_le _) _).size
        exact ⟨(HB2.out.setCell (p := ⟨ob, u, none⟩) lo.1 _).alloc (Nat.le_trans HB2.out.size hz) _, by rw [e1]; exact hs.alloc _, by
          have := World.ownsRow_lit (base := ob + 1) (e := 2) (size := 1) (w2.setCell ⟨ob, u, none⟩ (.int .i64 0)) #[.int .i64 (u : Int)] 1 (by omega) (by decide) rfl
          rw [hsz] at this
          exact this⟩)
      have hcg3 : ((w2.setCell ⟨ob, u, none⟩ (.int .i64 0)).alloc (.cells #[.int .i64 (u : Int)] 2)).cell? ⟨w.heap.size, 0, none⟩ = some (.slice p g.length c) := F0.out.bel.at (by have := SZ0.out; omega) HBG.out.cell
      have BF0 := Lib.hid (Bf.start (E := ofG g) HU.out hun)
      have BI0 := Lib.hid (BfI.start (E := ofG g) (R := row g) (W := (· ∈ L)) HU.out hun)
      clear hcg HO HB
      go_wp2_with (go_at_call 158; refine (l1Has_any _ (natInts L) u _ (HN.out.below HB2.out)).mono ?_; rintro e w4 ⟨he4, hw4⟩; rw [DU.out] at he4; subst he4; subst hw4)
      go_loopw [9, 10] (fun mv iv wr => ∃ (F : List Int) (M : List Nat) (i : Nat), iv = .int .i64 i ∧ i ≤ M.length ∧ Hid (Bf (ofG g) L g.length u F M) ∧ Hid (BfI (ofG g) (· ∈ L) (row g) g.length u F (M.drop i) none 0) ∧ Hid (BfTo (ofG g) L M i) ∧ FW W0 wr g.length ob oc F mv M) (fun _ iv _ => g.length - (intOf iv).toNat)
      case atStart => exact ⟨_, [u], 0, rfl, Nat.zero_le _, BF0.out |> Lib.hid, BI0, Lib.hid (fun j hj => absurd hj (Nat.not_lt_zero _)), F0.out⟩
      case round =>
        clear F0 BF0 BI0 hcg3 hcu hfu hcg2 HO2 HB2
        obtain ⟨F, M, i, rfl, hi, HBF, HBI, HTO, hF⟩ := hrel
        have HF := Lib.hid hF
        have hMl := HBF.out.le
        by_cases hlt : i < M.length
        · obtain ⟨x, hx⟩ : ∃ x, x = M[i] := ⟨_, rfl⟩
          have hxM : x ∈ M := by rw [hx]; exact List.getElem_mem hlt
          have hxn := (HBF.out.inn x hxM).2
          obtain ⟨mb, mc, rfl⟩ := owns_someB hF.met (by omega)
          have hm : wr.cell? ⟨mb, i, none⟩ = some (.int .i64 (x : Int)) := by rw [hF.met.cellAt i (by omega), hx]; simp [natInts, hlt]
          obtain ⟨R, hR, hRn, hR16⟩ := hrow.out x hxn
          obtain ⟨gb, go, rp, rc, rfl, hce0, hne0⟩ := HGR.out.get (k := x) hxn
          have hce0 : W0.cell? ⟨gb, go + x, none⟩ = some (.slice rp (row g x).length rc) := hce0
          have hne0 : Nums W0 2 .i64 (.slice rp (row g x).length rc) (row g x) := hne0
          rw [hR, natInts_length] at hce0 hne0
          have hce := hF.bel.at' hce0
          have hcg := hF.bel.at (by have := SZ0.out; omega) HBG.out.cell
          have HNR := Lib.hid hne0
          have HRN := Lib.hid hRn
          have HR := Lib.hid hR
          have HX0 : Hid (M[i]? = some x) := Lib.hid (by rw [hx]; simp [hlt])
          have HBP : Hid (BfI (ofG g) (· ∈ L) (row g) g.length u F (M.drop (i + 1)) (some x) 0) := Lib.hid (by
            have h := HBI.out
            rw [List.drop_eq_getElem_cons hlt, ← hx] at h
            exact h.pop)
          clear hF hne0 hce0 hRn hR hx hxM
          go_upto_region 13 with fail
          go_cut [11] (fun s wx => s = .slice rp R.length rc ∧ Below wr.heap.size wr wx)
          case first =>
            go_region_held3 (fun w' => w'.cell? ⟨w.heap.size, 0, none⟩ = some (.slice (some ⟨gb, go, none⟩) g.length c) ∧ w'.cell? ⟨mb, i, none⟩ = some (.int .i64 (x : Int)) ∧ w'.cell? ⟨gb, go + x, none⟩ = some (.slice rp R.length rc))
              (first | exact ⟨hcg, hm, hce⟩ | go_keep)
              (first | fail)
            all_goals go_wp2
            all_goals go_meet
            all_goals exact ⟨rfl, below_dN (Below.refl _ _) 1⟩
          case rest =>
          obtain ⟨rfl, hb1⟩ := hcut
          replace HF := Lib.hid (HF.out.next hb1)
          clear hm hce hcg hb1
          go_wp2_with fail
          go_loopw [9, 12] (fun mv kv wx => ∃ (F : List Int) (M : List Nat) (k : Nat), kv = .int .i64 k ∧ k ≤ R.length ∧ Hid (Bf (ofG g) L g.length u F M) ∧ Hid (BfI (ofG g) (· ∈ L) (row g) g.length u F (M.drop (i + 1)) (some x) k) ∧ Hid (M[i]? = some x ∧ BfTo (ofG g) L M i ∧ ∀ j, j < k → R.getD j 0 ∈ L → R.getD j 0 ∈ M) ∧ FW W0 wx g.length ob oc F mv M) (fun _ kv _ => R.length - (intOf kv).toNat)
          case atStart => exact ⟨F, M, 0, rfl, Nat.zero_le _, HBF, HBP, Lib.hid ⟨HX0.out, HTO.out, fun j hj => absurd hj (Nat.not_lt_zero _)⟩, HF.out⟩
          case round =>
            clear HF HBF HBI HBP HTO HX0 hMl hlt hi
            obtain ⟨F, M, k, rfl, hk, HBF, HBI, HTO, hF⟩ := hrel
            have hMl := HBF.out.le
            have hiM : i < M.length := (List.getElem?_eq_some_iff.1 HTO.out.1).1
            have hxM : x ∈ M := List.mem_of_getElem? HTO.out.1
            have HF := Lib.hid hF
            by_cases hlt : k < R.length
            · obtain ⟨y, hy⟩ : ∃ y, y = R[k] := ⟨_, rfl⟩
              have hyn : y < g.length := by rw [hy]; exact HRN.out _ (List.getElem_mem hlt)
              have hE : Hid (ofG g x y = true) := Lib.hid (by
                unfold ofG
                rw [decide_eq_true_eq, HR.out, hy]
                exact mem_natInts.2 ⟨_, List.getElem_mem hlt, rfl⟩)
              have HKR : Hid (k < (row g x).length) := Lib.hid (by rw [HR.out, natInts_length]; exact hlt)
              have HYR : Hid ((y : Int) = (row g x)[k]'(HKR.out)) := Lib.hid (by
                have e := List.getElem_of_eq HR.out HKR.out
                rw [e, natInts_atC hlt, ← hy])
              have HSK : Hid (¬ y ∈ L ∨ 0 ≤ F.getD y 0 → BfI (ofG g) (· ∈ L) (row g) g.length u F (M.drop (i + 1)) (some x) (k + 1)) := Lib.hid (fun h => HBI.out.skip HKR.out HYR.out hyn h)
              have HYK : Hid (R.getD k 0 = y) := Lib.hid (by rw [hy]; simp [hlt])
              obtain ⟨mb, mc, rfl⟩ := owns_someB hF.met (by omega)
              obtain ⟨qb, qo, rfl, hq⟩ := (HNR.out.below hF.bel).get (k := k) (by rw [natInts_length]; exact hlt)
              rw [natInts_atC hlt, ← hy] at hq
              have hFl := HBF.out.len
              have hoy : wr.cell? ⟨ob, y, none⟩ = some (.int .i64 (F.getD y 0)) := by rw [hF.out.cellAt y (by omega)]; simp [hFl, hyn]
              have hsg := HBF.out.sgn y hyn
              have HSG := Lib.hid hsg
              have lo := hF.lo
              have lm := (hF.met.lt mb rfl).1
              have lq : qb < W0.heap.size := by
                obtain ⟨_, _, e, hc'⟩ := HNR.out.get (k := k) (by rw [natInts_length]; exact hlt)
                cases e
                exact World.block_lt_of_cell? _ _ hc'
              have hyo : ∀ j, j < k + 1 → R.getD j 0 ∈ L → j < k ∨ R.getD j 0 = y := fun j hj _ => by
                by_cases e : j < k
                · exact .inl e
                · exact .inr (by rw [show j = k by omega]; exact HYK.out)
              have HYO := Lib.hid hyo
              have HQY : Hid (Value.int .i64 ((natInts R)[k]'(by rw [natInts_length]; exact hlt)) = .int .i64 (y : Int)) := Lib.hid (by rw [natInts_atC hlt, ← hy])
              clear hy hyo hFl
              by_cases hyM : y ∈ M
              · have hf : ¬ (F.getD y 0 < 0) := by have := HSG.out.2 hyM; omega
                have HYM := Lib.hid hyM
                generalize F.getD y 0 = fy at hoy hf
                clear hF hyM hsg
                go_wp2_with fail
                go_roundw
                case rel => exact ⟨F, M, k + 1, by go_num, by omega, HBF, Lib.hid (HSK.out (.inr (HSG.out.2 HYM.out))), Lib.hid ⟨HTO.out.1, HTO.out.2.1, fun j hj hl => (HYO.out j hj hl).elim (fun e => HTO.out.2.2 j e hl) (fun e => by rw [e]; exact HYM.out)⟩, HF.out⟩
                case measure => simp [intOf]; omega
              · have hf : F.getD y 0 < 0 := by
                  have := mt HSG.out.1 hyM
                  omega
                have HYM := Lib.hid hyM
                by_cases hyL : y ∈ L
                · have DY := Lib.hid (dec_true (show (y : Int) ∈ natInts L from mem_natInts.2 ⟨y, hyL, rfl⟩))
                  have HYL := Lib.hid hyL
                  have hxn := (HBF.out.inn x hxM).2
                  have hxy : x ≠ y := fun e => hyM (e ▸ hxM)
                  have hm : wr.cell? ⟨mb, i, none⟩ = some (.int .i64 (x : Int)) := by
                    rw [hF.met.cellAt i (by omega)]
                    have := HTO.out.1
                    simp [natInts, this]
                  have hox : wr.cell? ⟨ob, x, none⟩ = some (.int .i64 (F.getD x 0)) := by rw [hF.out.cellAt x (by omega)]; simp [HBF.out.len, hxn]
                  have hfz := hF.out.frozenAt y
                  have hbd := HBF.out.bnd x hxn
                  have HADD := Lib.hid (HBF.out.add hxM hE.out hyL hyn hyM)
                  have HIA := Lib.hid (HBI.out.add HKR.out HYR.out hyn hyL hf hE.out).1
                  have HPUT := Lib.hid (fun z => hF.put y z)
                  generalize F.getD x 0 = fx at hox hbd HADD HIA
                  obtain ⟨fz, hfz1⟩ : ∃ fz, fz = fx + 1 := ⟨_, rfl⟩
                  rw [← hfz1] at HADD HIA
                  have hwr : IntKind.i64.wrap (fx + 1) = fz := by rw [IntKind.wrap_i64]; omega
                  have P1 : ∀ v, (wr.setCell ⟨ob, y, none⟩ v).cell? ⟨qb, qo + k, none⟩ = some (.int .i64 (y : Int)) := fun v => (World.cell?_setCell_far _ _ _ _ (show ob ≠ qb by omega)).trans hq
                  have P2 : ∀ v, (wr.setCell ⟨ob, y, none⟩ v).cell? ⟨mb, i, none⟩ = some (.int .i64 (x : Int)) := fun v => (World.cell?_setCell_far _ _ _ _ (show ob ≠ mb by omega)).trans hm
                  have P3 : ∀ v, (wr.setCell ⟨ob, y, none⟩ v).cell? ⟨ob, x, none⟩ = some (.int .i64 fx) := fun v => (World.cell?_setCell_other _ _ _ _ (fun e => by simp only [Addr.mk.injEq, true_and, and_true] at e; omega)).trans hox
                  generalize F.getD y 0 = fy at hoy hf
                  clear hF hyM hyL hsg hfz1
                  go_upto_region 18 with (go_at_call 158; refine (l1Has_any _ (natInts L) y _ (HN.out.below HF.out.bel)).mono ?_; rintro e w4 ⟨he4, hw4⟩; rw [DY.out] at he4; subst he4; subst hw4)
                  go_cut [] (fun wx => FW W0 wx g.length ob oc (F.set y fz) (.slice (some ⟨mb, 0, none⟩) M.length mc) M)
                  case first =>
                    go_region_held3 (fun w' => w'.cell? ⟨qb, qo + k, none⟩ = some (.int .i64 (y : Int)) ∧ w'.cell? ⟨mb, i, none⟩ = some (.int .i64 (x : Int)) ∧ w'.cell? ⟨ob, x, none⟩ = some (.int .i64 fx))
                      (first | exact ⟨hq, hm, hox⟩ | exact ⟨P1 _, P2 _, P3 _⟩ | go_keep)
                      (first | fail)
                    all_goals go_wp2
                    all_goals go_meet
                    all_goals exact (HPUT.out fz).next (below_dN (Below.refl _ _) 1)
                  case rest =>
                  have HF2 := Lib.hid hcut
                  have hq2 : wc.cell? ⟨qb, qo + k, none⟩ = some (.int .i64 (y : Int)) := by
                    obtain ⟨_, _, e, hq3⟩ := (HNR.out.below hcut.bel).get (k := k) (by rw [natInts_length]; exact hlt)
                    simp only [Option.some.injEq, Addr.mk.injEq, and_true] at e
                    obtain ⟨rfl, rfl⟩ := e
                    rw [hq3, HQY.out]
                  have hm2 := hcut.met
                  have lo2 := hcut.lo.2
                  have HM2 := Lib.hid hm2
                  clear hcut hq hm hox hoy hfz P1 P2 P3 hm2 hf
                  go_wp2_with (at_builtin; refine wpList_app1s ty_i64 rfl rfl rfl HM2.out rfl rfl (by omega) lo2 ?_; intro b7 c8 w7 hown7 hg7 _)
                  go_roundw
                  case rel => exact ⟨F.set y fz, M ++ [y], k + 1, by go_num, by omega, Lib.hid HADD.out, Lib.hid (by rw [List.drop_append_of_le_length (by omega)]; exact HIA.out), Lib.hid ⟨by rw [List.getElem?_append_left hiM]; exact HTO.out.1, BfTo.more HTO.out.2.1 (by omega), fun j hj hl => (HYO.out j hj hl).elim (fun e => List.mem_append_left _ (HTO.out.2.2 j e hl)) (fun e => by rw [e]; simp)⟩, HF2.out.add hown7 hg7⟩
                  case measure => simp [intOf]; omega
                · have DY := Lib.hid (dec_false (show ¬ (y : Int) ∈ natInts L from fun h => by
                    obtain ⟨y', h1, h2⟩ := mem_natInts.1 h
                    have : y' = y := by omega
                    exact hyL (this ▸ h1)))
                  have HYL := Lib.hid hyL
                  generalize F.getD y 0 = fy at hoy hf
                  clear hF hyM hyL hsg
                  go_wp2_with (go_at_call 158; refine (l1Has_any _ (natInts L) y _ (HN.out.below HF.out.bel)).mono ?_; rintro e w4 ⟨he4, hw4⟩; rw [DY.out] at he4; subst he4; subst hw4)
                  go_roundw
                  case rel => exact ⟨F, M, k + 1, by go_num, by omega, HBF, Lib.hid (HSK.out (.inl HYL.out)), Lib.hid ⟨HTO.out.1, HTO.out.2.1, fun j hj hl => (HYO.out j hj hl).elim (fun e => HTO.out.2.2 j e hl) (fun e => absurd (e ▸ hl) HYL.out)⟩, HF.out⟩
                  case measure => simp [intOf]; omega
            · obtain rfl : k = R.length := by omega
              have HT2 : Hid (BfTo (ofG g) L M (i + 1)) := Lib.hid (fun j hj y hyL hEy => by
                by_cases e : j < i
                · exact HTO.out.2.1 j e y hyL hEy
                · obtain rfl : j = i := by omega
                  have e1 : M.getD j 0 = x := by simp [HTO.out.1]
                  rw [e1] at hEy
                  unfold ofG at hEy
                  rw [decide_eq_true_eq, HR.out] at hEy
                  obtain ⟨y', h1, h2⟩ := mem_natInts.1 hEy
                  obtain rfl : y' = y := by omega
                  obtain ⟨t, ht, e2⟩ := List.getElem_of_mem h1
                  have e3 : R.getD t 0 = y' := by simp [ht, e2]
                  have := HTO.out.2.2 t ht
                  rw [e3] at this
                  exact this hyL)
              have HBE : Hid (BfI (ofG g) (· ∈ L) (row g) g.length u F (M.drop (i + 1)) none 0) := Lib.hid (HBI.out.fin (by rw [HR.out, natInts_length]; exact Nat.le_refl _) (fun a b e => by unfold ofG at e; exact of_decide_eq_true (p := ((b : Int) ∈ row g a)) e))
              obtain ⟨mp, mc, rfl⟩ : ∃ mp mc, u9 = .slice mp M.length mc := by
                obtain ⟨q1, q2, e⟩ := owns_someB hF.met (by omega)
                exact ⟨_, _, e⟩
              clear hF
              go_wp2_with fail
              go_roundw
              case rel => exact ⟨F, M, i + 1, by go_num, by omega, HBF, HBE, HT2, HF.out⟩
              case measure => simp [intOf]; omega
        · obtain rfl : i = M.length := by omega
          obtain ⟨mp, mc, rfl⟩ : ∃ mp mc, u9 = .slice mp M.length mc := by
            rcases hF.met.2 with ⟨h1, h0⟩ | ⟨q, cap, cur, h1, _⟩
            · exact ⟨none, 0, by rw [h1, h0]⟩
            · exact ⟨_, _, h1⟩
          clear hF
          have hdone := HBF.out.done HTO.out
          have HD := Lib.hid hdone
          go_wp2_with fail
          go_ret
          exact ⟨_, F, rfl, HBF.out.len, fun x hx => (HBF.out.sgn x hx).trans (HD.out x), ⟨M, HBF.out⟩, fun x hx => by have h := HBI.out; rw [List.drop_length] at h; exact h.done HL.out hx, ownsRow_base HF.out.out (by have := SZ0.out; omega), HB0.out.trans (HF.out.bel.mono HB0.out.size)⟩

end Go.Proofs.YtkppbmfliejnmaaDoor

/- Walk: the reference's least loop. -/
namespace Go.Proofs.YtkppbmfliejnmaaDoor
open Go.RowKit

theorem nums_front {w : World} {E : TypeId} {p : Option Addr} {n c : Nat} {A B : List Int} (h : Nums w E .i64 (.slice p n c) (A ++ B)) : Sl w E (.slice p A.length c) A.length (A.map (Value.int .i64)) := by
  obtain ⟨p', c', h1, h2, h3, h4, h5⟩ := h
  cases h1
  rw [List.length_append] at h2 h3 h4
  refine ⟨p, c, rfl, fun e => ⟨by have := (h2 e).1; omega, (h2 e).2⟩, by omega, by omega, ?_⟩
  rcases h5 with h5 | ⟨b, o, cur, fz, k1, k2, k3⟩
  · rw [List.map_append, List.append_eq_nil_iff] at h5
    exact .inl h5.1
  · refine .inr ⟨b, o, cur, fz, k1, k2, fun j u hj => k3 j u ?_⟩
    rw [List.map_append]
    exact (List.getElem?_append_left (List.getElem?_eq_some_iff.1 hj).1).trans hj
theorem rowNats {g : List (List Int)} (hok : GOk g) {s : Nat} (hs : s < g.length) : ∃ R : List Nat, row g s = natInts R ∧ (∀ x ∈ R, x < g.length) ∧ R.length ≤ 16 ∧ (∀ u, ofG g s u = true ↔ u ∈ R) := by
  obtain ⟨h1, _, h3⟩ := setIn_nats (hok.sets s hs).1
  obtain ⟨R, hR⟩ : ∃ R, R = (row g s).map Int.toNat := ⟨_, rfl⟩
  rw [← hR] at h1 h3
  refine ⟨R, h1.symm, h3, ?_, fun u => ?_⟩
  · have := setIn_length (by have := hok.le; omega) (hok.sets s hs).1
    rw [hR, List.length_map]
    have := hok.le
    omega
  · unfold ofG
    rw [decide_eq_true_eq, ← h1]
    constructor
    · intro h
      obtain ⟨i, hi, e⟩ := mem_natInts.1 h
      obtain rfl : i = u := by omega
      exact hi
    · exact fun h => mem_natInts.2 ⟨u, h, rfl⟩

set_option maxRecDepth 100000 in
set_option maxHeartbeats 8000000 in
theorem specLeastLoop_any (v : Value) (g : List (List Int)) (w : World) (hg : Gr w v g) :
    Calls Tryd.prog 72 #[v] w fun e w' => ∃ u l, e = .returned u ∧ LpS g l ∧ l.length ≤ 16 ∧ Nums w' 2 .i64 u l ∧ Below w.heap.size w w' := by
  have hg0 := hg
  obtain ⟨u, rfl, hr⟩ := hg
  obtain ⟨gp, gc, rfl, _⟩ := hr.shape
  obtain ⟨W0, hW0, hbA, SZ0, B0, B1⟩ := two_boxesM w (.slice gp g.length gc) (.slice none 0 0) 29 29
  clear hW0 hbA SZ0 B0 B1 W0
  have hbA := Lib.hid (below_alloc2 w (.cells #[.slice gp g.length gc] 29) (.cells #[] 2))
  have HG := Lib.hid (hg0.below hbA.out)
  have HX := Lib.hid ((Box.new w (.slice gp g.length gc) 29).alloc (.cells #[] 2))
  have HN0 : Hid (Nums ((w.alloc (.cells #[.slice gp g.length gc] 29)).alloc (.cells #[] 2)) 2 .i64 (.slice (some ⟨w.heap.size + 1, 0, none⟩) 0 0) (natInts [])) := Lib.hid (by
    have := ownsRow_empty (w.alloc (.cells #[.slice gp g.length gc] 29)) 2 1
    rw [size_alloc] at this
    exact Nums.of_owns this rfl (by decide))
  clear hr hg0
  by_cases hok : GOk g
  case neg =>
    have HD := Lib.hid (dec_false hok)
    have HOK := Lib.hid hok
    go_enter Tryd.func72, Tryd.ntmps72
    go_upto_region 2 with fail
    have c0 := HX.out.cell
    generalize (w.alloc (.cells #[.slice gp g.length gc] 29)).alloc (.cells #[] 2) = W1 at *
    go_wp2_with (go_at_call 73; refine (specGraphOk_any _ g _ HG.out).mono ?_; rintro e w2 ⟨he, hb2⟩; rw [HD.out] at he; subst he)
    go_ret
    exact ⟨_, [], rfl, .inr ⟨.inl HOK.out, rfl⟩, by simp, HN0.out.below hb2, hbA.out.trans (hb2.mono hbA.out.size)⟩
  have HD := Lib.hid (dec_true hok)
  have HOK := Lib.hid hok
  have h16 := hok.le
  have HP := Lib.hid hok.pos
  go_enter Tryd.func72, Tryd.ntmps72
  go_upto_region 2 with fail
  have c0 := HX.out.cell
  generalize (w.alloc (.cells #[.slice gp g.length gc] 29)).alloc (.cells #[] 2) = W1 at *
  go_upto_region 5 with (first
    | (go_at_call 73; refine (specGraphOk_any _ g _ HG.out).mono ?_; rintro e w2 ⟨he, hb2⟩; rw [HD.out] at he; subst he; have c2 := (HX.out.keep hb2).cell)
    | (go_at_call 132; refine (l1Size_any _ g _ (HG.out.below hb2)).mono ?_; rintro e w3 ⟨rfl, hb3⟩)
    | (go_at_call 143; refine (l1All_any _ g.length rfl (by omega) _).mono ?_; rintro e w4 ⟨lv, rfl, ho4, hb4⟩))
  have HNL := Lib.hid (Nums.of_owns ho4 (by rw [natInts_length, List.length_range]) (by omega))
  have HB4 := Lib.hid ((hb2.trans (hb3.mono hb2.size)).trans (hb4.mono (Nat.le_trans hb2.size hb3.size)))
  have HG4 := Lib.hid (HG.out.below HB4.out)
  have HX4 := Lib.hid (HX.out.keep HB4.out)
  have HN4 := Lib.hid (HN0.out.below HB4.out)
  clear hb2 hb3 hb4 ho4 c2 c0
  go_wp2_with fail
  go_loopw [3, 5] (fun bv iv wr => ∃ (B : List Nat) (s : Nat), s ≤ g.length ∧ iv = .int .i64 (s : Int) ∧ Hid (BestL g.length (ofG g) s [] B) ∧ Hid (Nums wr 2 .i64 bv (natInts B)) ∧ Hid (Below w4.heap.size w4 wr)) (fun _ iv _ => g.length - (intOf iv).toNat)
  case atStart => exact ⟨[], 0, Nat.zero_le _, rfl, Lib.hid BestL.start, HN4, Lib.hid (Below.refl _ _)⟩
  case round =>
    clear HN4
    obtain ⟨B, s, hs, rfl, HBL, HNB, HBR⟩ := hrel
    have HXR := Lib.hid (HX4.out.keep HBR.out)
    have cR := HXR.out.cell
    have HGR := Lib.hid (HG4.out.below HBR.out)
    have hBl := HBL.out.len h16
    obtain ⟨bp, bc, rfl, _⟩ := id HNB.out.shape
    rw [natInts_length] at HNB ⊢
    by_cases hlt : s < g.length
    · obtain ⟨R, hR, hRn, hRl, hRm⟩ := rowNats hok hlt
      have HR := Lib.hid hR
      have HRN := Lib.hid hRn
      have HRM := Lib.hid hRm
      clear hR hRn hRm
      have hsi : (s : Int) < (g.length : Int) := by omega
      have hs0 : (0 : Int) ≤ (s : Int) := by omega
      go_upto_region 8 with (go_at_call 132; refine (l1Size_any _ g _ HGR.out).mono ?_; rintro e w5 ⟨rfl, hb5⟩)
      have HB5 := Lib.hid (HBR.out.trans (hb5.mono HBR.out.size))
      have HG5 := Lib.hid (HG4.out.below HB5.out)
      have HX5 := Lib.hid (HX4.out.keep HB5.out)
      have HN5 := Lib.hid (HNB.out.below hb5)
      have HNL5 := Lib.hid (HNL.out.below HB5.out)
      clear hb5 cR HXR HGR HNB
      go_wp2_with fail
      go_loopw [3, 6] (fun bv kv wx => ∃ (B : List Nat) (k : Nat), k ≤ R.length ∧ kv = .int .i64 (k : Int) ∧ Hid (BestL g.length (ofG g) s (R.take k) B) ∧ Hid (Nums wx 2 .i64 bv (natInts B)) ∧ Hid (Below w5.heap.size w5 wx)) (fun _ kv _ => R.length - (intOf kv).toNat)
      case atStart => exact ⟨B, 0, Nat.zero_le _, rfl, by rw [List.take_zero]; exact HBL, by rw [← natInts_length] at HN5 ⊢; exact HN5, Lib.hid (Below.refl _ _)⟩
      case round =>
        clear HN5 HBL hBl
        obtain ⟨B, k, hk, rfl, HBL, HNB, HBX⟩ := hrel
        have HXX := Lib.hid (HX5.out.keep HBX.out)
        have cX := HXX.out.cell
        have HGX := Lib.hid (HG5.out.below HBX.out)
        have hBl := HBL.out.len h16
        obtain ⟨bp, bc, rfl, _⟩ := id HNB.out.shape
        rw [natInts_length] at HNB ⊢
        obtain ⟨_, eG, hRg⟩ := id HGX.out
        cases eG
        obtain ⟨rb, ro, rp, rc, hgp, hcr, hnr⟩ := hRg.get hlt
        subst hgp
        replace hcr : wr.cell? _ = some (.slice rp (row g s).length rc) := hcr
        replace hnr : Nums wr _ _ (.slice rp (row g s).length rc) (row g s) := hnr
        rw [HR.out, natInts_length] at hcr hnr
        clear hRg
        by_cases hkl : k < R.length
        · obtain ⟨nb, no, hnp, hcn⟩ := Nums.get (k := k) (by rw [← natInts_length R] at hnr; exact hnr) (by rw [natInts_length]; exact hkl)
          subst hnp
          have e1 : (natInts R)[k]'(by rw [natInts_length]; exact hkl) = ((R[k] : Nat) : Int) := by simp [natInts]
          rw [e1] at hcn
          have hun := HRN.out _ (List.getElem_mem hkl)
          have huE := (HRM.out _).2 (List.getElem_mem hkl)
          have hT : R.take (k + 1) = R.take k ++ [R[k]] := take_snoc' R k hkl
          generalize R[k] = u at hcn hT hun huE
          have HT := Lib.hid hT
          have HE := Lib.hid huE
          have hki : (k : Int) < (R.length : Int) := by omega
          have hui : (u : Int) < (g.length : Int) := by omega
          have hu0 : (0 : Int) ≤ (u : Int) := by omega
          have hk0 : (0 : Int) ≤ (k : Int) := by omega
          have hus : u ≠ s := fun e => by rw [e, ofG_irr hok] at huE; cases huE
          clear e1 hT hnr huE
          obtain ⟨c, hc⟩ : ∃ c, c = matG g.length (cutE (ofG g) s u) := ⟨_, rfl⟩
          have HC := Lib.hid hc
          have HCK : Hid (GOk c) := Lib.hid (by rw [hc]; exact gok_matG HP.out h16 (cutE_sym (ofG_sym hok) s u) (cutE_irr (ofG_irr hok) s u))
          have HCL : Hid (c.length = g.length) := Lib.hid (by rw [hc, matG_length])
          have HCE : Hid (∀ a b, a < g.length → b < g.length → ofG c a b = cutE (ofG g) s u a b) := Lib.hid fun a b ha hb => by rw [hc, ofG_matG ha hb]
          clear hc
          go_upto_region 13 with (go_at_call 165; refine (specCutEdge_yes _ g _ _ s u rfl rfl hok hlt hun HE.out _ HGX.out).mono ?_; rintro e w6 ⟨cv, rfl, hs6, hb6⟩; rw [← HC.out] at hs6; obtain ⟨cp, cc, rfl⟩ := hs6.shape; rw [HCL.out] at hs6 ⊢)
          have hb7 := hb6.alloc hb6.size (.cells #[.slice cp g.length cc] 29)
          have HG7 : Hid (Gr (w6.alloc (.cells #[.slice cp g.length cc] 29)) (.agg #[.slice cp g.length cc]) c) := Lib.hid ((hs6.gr (by rw [HCL.out]; omega)).below (below_alloc _ _))
          have cB := (Box.new w6 (.slice cp g.length cc) 29).cell
          have HXB := Lib.hid (Box.new w6 (.slice cp g.length cc) 29)
          generalize w6.alloc (.cells #[.slice cp g.length cc] 29) = w7 at *
          clear hs6
          have HNL7 := Lib.hid ((HNL5.out.below HBX.out).below hb7)
          go_upto_region 14 with (go_at_call 166; refine (l3FromD_any _ _ _ c (List.range g.length) s rfl HCK.out (fun x hx => by rw [HCL.out]; exact List.mem_range.1 hx) (List.mem_range.2 hlt) _ HG7.out HNL7.out).mono ?_; rintro e w8 ⟨fv, F, rfl, hFl, hfp, ⟨M, hM⟩, hFD, ho, hb8⟩)
          have HM : Hid (Bf (ofG c) (List.range c.length) c.length s F M) := Lib.hid (by rw [HCL.out] at hM ⊢; exact hM)
          have HF : Hid (DstF c s F) := Lib.hid (fun x hx => by
            have := hFD x hx
            have e : (fun x => x ∈ List.range g.length) = fun x => x < c.length := funext fun x => by rw [HCL.out]; exact propext List.mem_range
            rw [e] at this
            exact this)
          rw [← hFl] at ho
          have HNF := Lib.hid (Nums.of_owns ho rfl (by rw [hFl, HCL.out]; omega))
          have hFg : F.length = g.length := by rw [hFl, HCL.out]
          obtain ⟨fp, fc, rfl, _⟩ := id HNF.out.shape
          obtain ⟨fb, fo, hfp', hcf⟩ := HNF.out.get (k := u) (by rw [hFg]; exact hun)
          subst hfp'
          have e1 : F[u]'(by rw [hFg]; exact hun) = F.getD u 0 := by
            rw [List.getD_eq_getElem?_getD, List.getElem?_eq_getElem (by rw [hFg]; exact hun)]; rfl
          rw [e1] at hcf
          rw [hFg] at HNF ⊢
          have HFG := Lib.hid hFg
          have cB8 := hb8.at' cB
          have HG8 := Lib.hid (HG7.out.below hb8)
          have HB8 := Lib.hid (hb7.trans (hb8.mono hb7.size))
          clear hFl hfp hM hFD ho e1 hFg cB hb8 hb7
          obtain ⟨fu, hfu⟩ : ∃ fu, fu = F.getD u 0 := ⟨_, rfl⟩
          rw [← hfu] at hcf
          have HFU := Lib.hid hfu
          clear hfu
          by_cases hneg : fu < 0
          · have HNO := Lib.hid (edge_none hok HCK.out HCL.out hlt hun HCE.out HF.out (by rw [← HFU.out]; exact hneg))
            go_wp2_with fail
            go_roundw
            case rel => exact ⟨B, k + 1, by omega, by go_num, by rw [HT.out]; exact Lib.hid (HBL.out.skip HNO.out), Lib.hid (HNB.out.below HB8.out), Lib.hid (HBX.out.trans (HB8.out.mono HBX.out.size))⟩
            case measure => simp [intOf]; omega
          · go_upto_region 16 with (go_at_call 167; refine (l3DownD_any _ _ _ c F M u s rfl HCK.out HM.out (by rw [HCL.out]; exact hun) (by rw [← HFU.out]; omega) _ HG8.out HNF.out).mono ?_; rintro e w9 ⟨ov, way, rfl, hnw, hdn, _, _, hwl, hb9⟩)
            obtain ⟨P, k1, _⟩ := dnW_facts HCK.out HF.out hdn (by rw [HCL.out]; exact hun)
            subst k1
            obtain ⟨hlo, hle⟩ := edge_loop hok HCK.out HCL.out hlt hun HE.out HCE.out HF.out hdn
            have HLO := Lib.hid hlo
            have HLE := Lib.hid hle
            have hPl : (s :: P).length ≤ 16 := by have := nodup_le g.length _ hlo.nod hlo.inn; omega
            obtain ⟨wp, wc9, rfl, hsh9⟩ := id hnw.shape
            have hwc := hsh9.2.1
            clear hsh9
            obtain ⟨m, hm⟩ : ∃ m, m = P.length := ⟨_, rfl⟩
            have hwl2 : (natInts (P ++ [s])).length = m + 1 := by rw [natInts_length, List.length_append, List.length_singleton, hm]
            obtain ⟨wb, wo, hwp, hcw⟩ := hnw.get (k := 0) (by rw [hwl2]; omega)
            clear hcw
            subst hwp
            have HSL : Hid (Sl w9 2 (.slice (some ⟨wb, wo, none⟩) m wc9) m ((natInts P).map (Value.int .i64))) := Lib.hid (by
              have e : natInts (P ++ [s]) = natInts P ++ [(s : Int)] := by simp [natInts]
              have := nums_front (A := natInts P) (B := [(s : Int)]) (by rw [← e]; exact hnw)
              rw [natInts_length, ← hm] at this
              exact this)
            rw [hwl2] at hwc ⊢
            have HM1 := Lib.hid hm
            have hb10 := Lib.hid (HB8.out.trans (hb9.mono HB8.out.size))
            have HBL9 := Lib.hid (HNB.out.below hb10.out)
            clear hnw hdn hlo hle hwl hm hb9 hcf
            have hPm : P.length ≤ 15 := by rw [List.length_cons] at hPl; omega
            have hm15 : m ≤ 15 := by rw [HM1.out]; exact hPm
            have hq1 : IntKind.i64.wrap (((m + 1 : Nat) : Int) - 1) = (m : Int) := by rw [IntKind.wrap_i64]; omega
            have hmi : (m : Int) ≤ (wc9 : Int) := by omega
            have hm0 : (0 : Int) ≤ (m : Int) := by omega
            have HLP : Hid ((natInts (s :: P)).map (Value.int .i64) = [Value.int .i64 (s : Int)] ++ (natInts P).map (Value.int .i64)) := Lib.hid (by simp [natInts])
            have HA := Lib.hid (World.ownsRow_lit (size := 1) (e := 2) w9 #[Value.int .i64 (s : Int)] 1 (Nat.le_refl w9.heap.size) (by decide) rfl)
            have HSA := Lib.hid (HSL.out.below (below_alloc w9 (.cells #[Value.int .i64 (s : Int)] 2)))
            have hl9 : ((natInts P).map (Value.int .i64)).length = m * 1 := by rw [List.length_map, natInts_length, Nat.mul_one]; exact HM1.out.symm
            have hm9 : 1 + m ≤ 1000000000 := by have := HM1.out; omega
            have hb9 := Lib.hid (below_alloc w9 (.cells #[Value.int .i64 (s : Int)] 2))
            go_cut [12] (fun lv wx => ∃ (lp : Option Addr) (lc : Nat), lv = .slice lp (s :: P).length lc ∧ Nums wx 2 .i64 (.slice lp (s :: P).length lc) (natInts (s :: P)) ∧ Below w9.heap.size w9 wx)
            case first =>
              go_wp2_with (at_builtin; refine wpList_app ty_i64 rfl rfl rfl HA.out rfl HSA.out hl9 (oneCell_ints _ _) hm9 hb9.out.size ?_; intro v' w1 hown' hg _)
              go_meet
              rw [← HLP.out] at hown'
              have hn1 := Nums.of_owns hown' (by rw [natInts_length, List.length_cons, ← HM1.out]; omega) hm9
              obtain ⟨lp, lc, e, _⟩ := id hn1.shape
              rw [natInts_length] at e
              subst e
              exact ⟨lp, lc, rfl, hn1, below_grown hb9.out HA.out hg (Nat.le_refl _) hb9.out.size⟩
            case rest =>
            obtain ⟨lp, lc, rfl, hn10, hb10'⟩ := hcut
            obtain ⟨w10, rfl⟩ : ∃ w10, w10 = wc := ⟨_, rfl⟩
            have HN10 := Lib.hid hn10
            have HB10 := Lib.hid (hb10.out.trans (hb10'.mono hb10.out.size))
            have HBL10 := Lib.hid (HBL9.out.below hb10')
            clear hn10 hb10' hq1 hmi hm0 HSL HSA HA hb9
            by_cases hB : B = []
            · have HTK := Lib.hid (HBL.out.take (u := u) HLO.out HLE.out (.inl hB))
              subst hB
              go_wp2_with fail
              go_roundw
              case rel => exact ⟨s :: P, k + 1, by omega, by go_num, by rw [HT.out]; exact HTK, HN10, Lib.hid (HBX.out.trans (HB10.out.mono HBX.out.size))⟩
              case measure => simp [intOf]; omega
            · have hB0 : B.length ≠ 0 := fun e => hB (List.length_eq_zero_iff.1 e)
              have hbz : ((B.length : Int) == 0) = false := beq_eq_false_iff_ne.2 (by omega)
              have hbd : decide ((B.length : Int) = 0) = false := decide_eq_false (by omega)
              have HBN := Lib.hid hB
              by_cases hl : lessP (s :: P) B
              · have HDL := Lib.hid (dec_true hl)
                have HTK := Lib.hid (HBL.out.take (u := u) HLO.out HLE.out (.inr hl))
                clear hl
                go_wp2_with (go_at_call 168; refine (l1Less_any _ _ (s :: P) B _ HN10.out HBL10.out).mono ?_; rintro e w11 ⟨he, q, rfl⟩; rw [HDL.out] at he; subst he)
                go_roundw
                case rel => exact ⟨s :: P, k + 1, by omega, by go_num, by rw [HT.out]; exact HTK, Lib.hid (HN10.out.below (below_dN (Below.refl _ _) _)), Lib.hid ((HBX.out.trans (HB10.out.mono HBX.out.size)).trans (below_dN (Below.refl _ _) _))⟩
                case measure => simp [intOf]; omega
              · have HDL := Lib.hid (dec_false hl)
                have HTK := Lib.hid (HBL.out.hold (u := u) HLE.out hB hl)
                clear hl
                go_wp2_with (go_at_call 168; refine (l1Less_any _ _ (s :: P) B _ HN10.out HBL10.out).mono ?_; rintro e w11 ⟨he, q, rfl⟩; rw [HDL.out] at he; subst he)
                go_roundw
                case rel => exact ⟨B, k + 1, by omega, by go_num, by rw [HT.out]; exact HTK, Lib.hid (HBL10.out.below (below_dN (Below.refl _ _) _)), Lib.hid ((HBX.out.trans (HB10.out.mono HBX.out.size)).trans (below_dN (Below.refl _ _) _))⟩
                case measure => simp [intOf]; omega
        · obtain rfl : k = R.length := by omega
          have HNX := Lib.hid (HBL.out.next (fun u _ hu => by rw [List.take_length]; exact (HRM.out u).1 hu))
          clear hnr
          go_wp2_with fail
          go_roundw
          case rel => exact ⟨B, s + 1, by omega, by go_num, HNX, HNB, Lib.hid (HB5.out.trans (HBX.out.mono HB5.out.size))⟩
          case measure => simp [intOf]; omega
    · obtain rfl : s = g.length := by omega
      have HFN := Lib.hid HBL.out.fin
      have hb0 := hbA.out.size
      go_wp2_with (go_at_call 132; refine (l1Size_any _ g _ HGR.out).mono ?_; rintro e w5 ⟨rfl, hb5⟩)
      go_ret
      refine ⟨_, natInts B, rfl, ?_, by rw [natInts_length]; exact hBl, HNB.out.below hb5, ?_⟩
      · rcases HFN.out with ⟨rfl, hno⟩ | hl
        · exact .inr ⟨.inr hno, rfl⟩
        · exact .inl ⟨hok, B, hl, rfl⟩
      · exact (hbA.out.trans (HB4.out.mono hb0)).trans ((HBR.out.trans (hb5.mono HBR.out.size)).mono (Nat.le_trans hb0 HB4.out.size))

end Go.Proofs.YtkppbmfliejnmaaDoor
