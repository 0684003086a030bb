/- Walks: the reference's distances from a vertex in a set, as far as they tell what is reached; its parts, its test of a connected set (printed in part by wip/mkConB.py). -/
import Derived.Test.YtiooindlpinjhaaDoorBbQ11
import Derived.Test.YtiooindlpinjhaaDoorBbQ13
import Derived.Test.YtiooindlpinjhaaDoorBbQ3
import Derived.Deep.RegionHeld3
import Derived.Deep.DeepCutAuto
namespace Go.Proofs.YtiooindlpinjhaaDoor
open Go.RowKit

theorem ownsRow_farB {w : World} {base : Nat} {E : TypeId} {size n : Nat} {v : Value} {xs : List Value} (h : w.ownsRow base E size v n xs) {b i : Nat} (hb : b < base) (u : Value) : (w.setCell ⟨b, i, none⟩ u).ownsRow base E size v n xs :=
  ownsRow_setCell_other h (a := ⟨b, i, none⟩) (fun e => by have := (h.lt b e).1; omega) u
theorem ownsRow_toB {w w' : World} {base : Nat} {E : TypeId} {size n : Nat} {v : Value} {xs : List Value} (h : w.ownsRow base E size v n xs) (hk : ∀ k, v.ownBlock = some k → w'.heap[k]? = w.heap[k]?) : w'.ownsRow base E size v n xs := by
  refine ⟨h.1, ?_⟩
  rcases h.2 with h2 | ⟨g, cap, cur, rfl, h2, h3, h4⟩
  · exact .inl h2
  · exact .inr ⟨g, cap, cur, rfl, h2, (hk g rfl).trans h3, h4⟩
theorem owns_someB {w : World} {base : Nat} {E : TypeId} {size n : Nat} {v : Value} {xs : List Value} (h : w.ownsRow base E size v n xs) (hn : 0 < n) : ∃ g c, v = .slice (some ⟨g, 0, none⟩) n c := by
  rcases h.2 with ⟨rfl, rfl⟩ | ⟨g, cap, cur, rfl, _⟩
  · omega
  · exact ⟨_, _, rfl⟩

theorem natInts_atC {l : List Nat} {k : Nat} (h : k < l.length) {h' : k < (natInts l).length} : (natInts l)[k] = ((l[k] : Nat) : Int) := by simp [natInts]
theorem owns_shapeB {w : World} {base : Nat} {E : TypeId} {size n : Nat} {v : Value} {xs : List Value} (h : w.ownsRow base E size v n xs) : ∃ p c, v = .slice p n c := by
  rcases h.2 with ⟨h1, h0⟩ | ⟨q, cap, cur, h1, _⟩
  · exact ⟨none, 0, by rw [h1, h0]⟩
  · exact ⟨_, _, h1⟩
/-- The two rows of the search. -/
structure FW (W0 w : World) (n ob oc : Nat) (F : List Int) (mv : Value) (M : List Nat) : Prop where
  bel : Below W0.heap.size W0 w
  out : w.ownsRow W0.heap.size 2 1 (.slice (some ⟨ob, 0, none⟩) n oc) n (F.map (Value.int .i64))
  met : w.ownsRow (ob + 1) 2 1 mv M.length ((natInts M).map (Value.int .i64))
section
variable {W0 w : World} {n ob oc : Nat} {F : List Int} {mv : Value} {M : List Nat}
theorem FW.lo (h : FW W0 w n ob oc F mv M) : W0.heap.size ≤ ob ∧ ob < w.heap.size := h.out.lt ob rfl
theorem FW.next (h : FW W0 w n ob oc F mv M) {w' : World} (hb : Below w.heap.size w w') : FW W0 w' n ob oc F mv M :=
  ⟨h.bel.trans (hb.mono h.bel.size), ownsRow_below h.out hb, ownsRow_below h.met hb⟩
theorem FW.put (h : FW W0 w n ob oc F mv M) (x : Nat) (z : Int) : FW W0 (w.setCell ⟨ob, x, none⟩ (.int .i64 z)) n ob oc (F.set x z) mv M :=
  ⟨h.bel.setCell (p := ⟨ob, x, none⟩) h.lo.1 _, by rw [List.map_set]; exact (h.out.stored x _).1, ownsRow_farB h.met (Nat.lt_succ_self _) _⟩
theorem FW.add (h : FW W0 w n ob oc F mv M) {w' : World} {b c y : Nat} (ho : w'.ownsRow (ob + 1) 2 1 (.slice (some ⟨b, 0, none⟩) (M.length + 1) c) (M.length + 1) ((natInts M).map (Value.int .i64) ++ [.int .i64 (y : Int)])) (hg : w.grownBy w' mv.ownBlock) :
    FW W0 w' n ob oc F (.slice (some ⟨b, 0, none⟩) (M.length + 1) c) (M ++ [y]) where
  bel := below_grown h.bel h.met hg (by have := h.lo.1; omega) h.bel.size
  out := ownsRow_toB h.out fun k e => hg.block k (h.out.lt k e).2 fun c => by
    have h1 := (h.met.lt k c.symm).1
    have e : ob = k := by simpa [Value.ownBlock] using e
    omega
  met := by
    have e : natInts (M ++ [y]) = natInts M ++ [(y : Int)] := by simp [natInts]
    rw [e, List.map_append, List.length_append]
    exact ho
end

set_option maxRecDepth 100000 in
set_option maxHeartbeats 8000000 in
theorem l3FromF_any (v lv : Value) (z : Int) (g : List (List Int)) (L : List Nat) (u : Nat) (hz : z = u) (hok : GOk g) (hL : ∀ x ∈ L, x < g.length) (hu : u ∈ L) (w : World) (hg : Gr w v g) (hn : Nums w 2 .i64 lv (natInts L)) :
    Calls Tryd.prog 155 #[v, .int .i64 z, lv] w fun e w' => ∃ (ov : Value) (F : List Int), e = .returned ov ∧ F.length = g.length ∧ (∀ x, x < g.length → (0 ≤ F.getD x 0 ↔ x ∈ partL (ofG g) L u)) ∧ (∃ M, Bf (ofG g) L g.length u F M) ∧
      w'.ownsRow w.heap.size 2 1 ov g.length (F.map (Value.int .i64)) ∧ Below w.heap.size w w' := by
  subst hz
  have hun := hL u hu
  have h16 := hok.le
  have hg0 := hg
  obtain ⟨gu, rfl, hr⟩ := hg
  obtain ⟨p, c, rfl, _⟩ := hr.shape
  obtain ⟨lp, lc, rfl, _⟩ := id hn.shape
  have hrow : Hid (∀ j, j < g.length → ∃ R : List Nat, row g j = natInts R ∧ (∀ y ∈ R, y < g.length) ∧ R.length ≤ 16) := Lib.hid (fun j hj => by
    obtain ⟨h1, h2, h3⟩ := setIn_nats (hok.sets j hj).1
    refine ⟨(row g j).map Int.toNat, h1.symm, h3, ?_⟩
    have := setIn_length (by omega) (hok.sets j hj).1
    rw [List.length_map]; omega)
  obtain ⟨W0, hW0⟩ : ∃ W0, W0 = w.alloc (.cells #[.slice p g.length c] 28) := ⟨_, rfl⟩
  have hb0 : Below w.heap.size w W0 := by rw [hW0]; exact below_alloc _ _
  have HB0 := Lib.hid hb0
  have HBG : Hid (Box W0 w.heap.size 28 (.slice p g.length c)) := Lib.hid (by rw [hW0]; exact Box.new _ _ _)
  have HG := Lib.hid (hg0.below hb0)
  have HN := Lib.hid (hn.below hb0)
  have HGR := Lib.hid (hr.below hb0)
  have SZ0 := Lib.hid (show W0.heap.size = w.heap.size + 1 by rw [hW0, size_alloc])
  have HU := Lib.hid hu
  have HL := Lib.hid hL
  have DU := Lib.hid (dec_true (show ((u : Nat) : Int) ∈ natInts L from mem_natInts.2 ⟨u, hu, rfl⟩))
  have START : Hid ((W0.alloc (.cells #[] 2)).ownsRow W0.heap.size 2 1 (.slice (some ⟨W0.heap.size, 0, none⟩) 0 0) 0 (List.replicate 0 (.int .i64 (-1)))) := Lib.hid (ownsRow_empty W0 2 1)
  clear hg0 hb0 hr hn hu hL hok
  go_enter Tryd.func155, Tryd.ntmps155
  go_upto_region 1 with fail
  rw [← hW0]
  clear hW0
  go_wp2_with fail
  go_loopw [7, 8] (fun ov kv wr => ∃ k : Nat, k ≤ g.length ∧ kv = .int .i64 k ∧ wr.ownsRow W0.heap.size 2 1 ov k (List.replicate k (.int .i64 (-1))) ∧ Below W0.heap.size W0 wr) (fun _ kv _ => g.length - (intOf kv).toNat)
  case atStart => exact ⟨0, Nat.zero_le _, rfl, START.out, below_alloc _ _⟩
  case round =>
    clear START
    obtain ⟨k, hk, rfl, hown, hb⟩ := hrel
    have HO := Lib.hid hown
    have HB := Lib.hid hb
    have hcg := hb.at (by have := SZ0.out; omega) HBG.out.cell
    clear hown
    by_cases hlt : k < g.length
    · clear hb
      go_wp2_with (first
        | (go_at_call 75; refine (l1Size_any _ g _ (HG.out.below HB.out)).mono ?_; rintro e w2 ⟨rfl, hb2⟩; have ho2 := ownsRow_below HO.out hb2; have HB2 := Lib.hid (HB.out.trans (hb2.mono HB.out.size)); clear hb2)
        | (at_builtin; refine wpList_app1s ty_i64 rfl rfl rfl ho2 rfl rfl (by omega) HB2.out.size ?_; intro b7 c8 w7 hown7 hg7 _))
      go_roundw
      case rel => exact ⟨k + 1, by omega, by go_num, by rw [List.replicate_succ']; exact hown7, below_grown HB2.out ho2 hg7 (Nat.le_refl _) HB2.out.size⟩
      case measure => simp [intOf]; omega
    · obtain rfl : k = g.length := by omega
      clear hb
      go_upto_region 6 with (go_at_call 75; refine (l1Size_any _ g _ (HG.out.below HB.out)).mono ?_; rintro e w2 ⟨rfl, hb2⟩; have HO2 := Lib.hid (ownsRow_below HO.out hb2); have HB2 := Lib.hid (HB.out.trans (hb2.mono HB.out.size)); have hcg2 := hb2.at' hcg; clear hb2)
      obtain ⟨ob, oc, rfl⟩ := owns_someB HO2.out (by omega)
      have hcu := HO2.out.cellAt u (by omega)
      have hcu : w2.cell? ⟨ob, u, none⟩ = some (.int .i64 (-1)) := by rw [hcu]; simp [hun]
      have hfu := HO2.out.frozenAt u
      have lo := HO2.out.lt ob rfl
      have F0 : Hid (FW W0 ((w2.setCell ⟨ob, u, none⟩ (.int .i64 0)).alloc (.cells #[.int .i64 (u : Int)] 2)) g.length ob oc ((List.replicate g.length (-1 : Int)).set u 0) (.slice (some ⟨w2.heap.size, 0, none⟩) 1 1) [u]) := Lib.hid (by
        have hsz : (w2.setCell ⟨ob, u, none⟩ (.int .i64 0)).heap.size = w2.heap.size := by simp
        have hs := (HO2.out.stored u (.int .i64 0)).1
        have e1 : ((List.replicate g.length (-1 : Int)).set u 0).map (Value.int .i64) = (List.replicate g.length (Value.int .i64 (-1))).set u (.int .i64 0) := by rw [List.map_set, List.map_replicate]
        have hz : w2.heap.size ≤ (w2.setCell ⟨ob, u, none⟩ (.int .i64 0)).heap.size := ((Below.refl 0 w2).setCell (p := ⟨ob, u, none⟩) (Nat.zero_le _) _).size
        exact ⟨(HB2.out.setCell (p := ⟨ob, u, none⟩) lo.1 _).alloc (Nat.le_trans HB2.out.size hz) _, by rw [e1]; exact hs.alloc _, by
          have := World.ownsRow_lit (base := ob + 1) (e := 2) (size := 1) (w2.setCell ⟨ob, u, none⟩ (.int .i64 0)) #[.int .i64 (u : Int)] 1 (by omega) (by decide) rfl
          rw [hsz] at this
          exact this⟩)
      have hcg3 : ((w2.setCell ⟨ob, u, none⟩ (.int .i64 0)).alloc (.cells #[.int .i64 (u : Int)] 2)).cell? ⟨w.heap.size, 0, none⟩ = some (.slice p g.length c) := F0.out.bel.at (by have := SZ0.out; omega) HBG.out.cell
      have BF0 := Lib.hid (Bf.start (E := ofG g) HU.out hun)
      clear hcg HO HB
      go_wp2_with (go_at_call 72; refine (l1Has_any _ (natInts L) u _ (HN.out.below HB2.out)).mono ?_; rintro e w4 ⟨he4, hw4⟩; rw [DU.out] at he4; subst he4; subst hw4)
      go_loopw [9, 10] (fun mv iv wr => ∃ (F : List Int) (M : List Nat) (i : Nat), iv = .int .i64 i ∧ i ≤ M.length ∧ Hid (Bf (ofG g) L g.length u F M) ∧ Hid (BfTo (ofG g) L M i) ∧ FW W0 wr g.length ob oc F mv M) (fun _ iv _ => g.length - (intOf iv).toNat)
      case atStart => exact ⟨_, [u], 0, rfl, Nat.zero_le _, BF0.out |> Lib.hid, Lib.hid (fun j hj => absurd hj (Nat.not_lt_zero _)), F0.out⟩
      case round =>
        clear F0 BF0 hcg3 hcu hfu hcg2 HO2 HB2
        obtain ⟨F, M, i, rfl, hi, HBF, HTO, hF⟩ := hrel
        have HF := Lib.hid hF
        have hMl := HBF.out.le
        by_cases hlt : i < M.length
        · obtain ⟨x, hx⟩ : ∃ x, x = M[i] := ⟨_, rfl⟩
          have hxM : x ∈ M := by rw [hx]; exact List.getElem_mem hlt
          have hxn := (HBF.out.inn x hxM).2
          obtain ⟨mb, mc, rfl⟩ := owns_someB hF.met (by omega)
          have hm : wr.cell? ⟨mb, i, none⟩ = some (.int .i64 (x : Int)) := by rw [hF.met.cellAt i (by omega), hx]; simp [natInts, hlt]
          obtain ⟨R, hR, hRn, hR16⟩ := hrow.out x hxn
          obtain ⟨gb, go, rp, rc, rfl, hce0, hne0⟩ := HGR.out.get (k := x) hxn
          have hce0 : W0.cell? ⟨gb, go + x, none⟩ = some (.slice rp (row g x).length rc) := hce0
          have hne0 : Nums W0 2 .i64 (.slice rp (row g x).length rc) (row g x) := hne0
          rw [hR, natInts_length] at hce0 hne0
          have hce := hF.bel.at' hce0
          have hcg := hF.bel.at (by have := SZ0.out; omega) HBG.out.cell
          have HNR := Lib.hid hne0
          have HRN := Lib.hid hRn
          have HR := Lib.hid hR
          have HX0 : Hid (M[i]? = some x) := Lib.hid (by rw [hx]; simp [hlt])
          clear hF hne0 hce0 hRn hR hx hxM
          go_upto_region 13 with fail
          go_cut [11] (fun s wx => s = .slice rp R.length rc ∧ Below wr.heap.size wr wx)
          case first =>
            go_region_held3 (fun w' => w'.cell? ⟨w.heap.size, 0, none⟩ = some (.slice (some ⟨gb, go, none⟩) g.length c) ∧ w'.cell? ⟨mb, i, none⟩ = some (.int .i64 (x : Int)) ∧ w'.cell? ⟨gb, go + x, none⟩ = some (.slice rp R.length rc))
              (first | exact ⟨hcg, hm, hce⟩ | go_keep)
              (first | fail)
            all_goals go_wp2
            all_goals go_meet
            all_goals exact ⟨rfl, below_dN (Below.refl _ _) 1⟩
          case rest =>
          obtain ⟨rfl, hb1⟩ := hcut
          replace HF := Lib.hid (HF.out.next hb1)
          clear hm hce hcg hb1
          go_wp2_with fail
          go_loopw [9, 12] (fun mv kv wx => ∃ (F : List Int) (M : List Nat) (k : Nat), kv = .int .i64 k ∧ k ≤ R.length ∧ Hid (Bf (ofG g) L g.length u F M) ∧ Hid (M[i]? = some x ∧ BfTo (ofG g) L M i ∧ ∀ j, j < k → R.getD j 0 ∈ L → R.getD j 0 ∈ M) ∧ FW W0 wx g.length ob oc F mv M) (fun _ kv _ => R.length - (intOf kv).toNat)
          case atStart => exact ⟨F, M, 0, rfl, Nat.zero_le _, HBF, Lib.hid ⟨HX0.out, HTO.out, fun j hj => absurd hj (Nat.not_lt_zero _)⟩, HF.out⟩
          case round =>
            clear HF HBF HTO HX0 hMl hlt hi
            obtain ⟨F, M, k, rfl, hk, HBF, HTO, hF⟩ := hrel
            have hMl := HBF.out.le
            have hiM : i < M.length := (List.getElem?_eq_some_iff.1 HTO.out.1).1
            have hxM : x ∈ M := List.mem_of_getElem? HTO.out.1
            have HF := Lib.hid hF
            by_cases hlt : k < R.length
            · obtain ⟨y, hy⟩ : ∃ y, y = R[k] := ⟨_, rfl⟩
              have hyn : y < g.length := by rw [hy]; exact HRN.out _ (List.getElem_mem hlt)
              have hE : Hid (ofG g x y = true) := Lib.hid (by
                unfold ofG
                rw [decide_eq_true_eq, HR.out, hy]
                exact mem_natInts.2 ⟨_, List.getElem_mem hlt, rfl⟩)
              have HYK : Hid (R.getD k 0 = y) := Lib.hid (by rw [hy]; simp [hlt])
              obtain ⟨mb, mc, rfl⟩ := owns_someB hF.met (by omega)
              obtain ⟨qb, qo, rfl, hq⟩ := (HNR.out.below hF.bel).get (k := k) (by rw [natInts_length]; exact hlt)
              rw [natInts_atC hlt, ← hy] at hq
              have hFl := HBF.out.len
              have hoy : wr.cell? ⟨ob, y, none⟩ = some (.int .i64 (F.getD y 0)) := by rw [hF.out.cellAt y (by omega)]; simp [hFl, hyn]
              have hsg := HBF.out.sgn y hyn
              have HSG := Lib.hid hsg
              have lo := hF.lo
              have lm := (hF.met.lt mb rfl).1
              have lq : qb < W0.heap.size := by
                obtain ⟨_, _, e, hc'⟩ := HNR.out.get (k := k) (by rw [natInts_length]; exact hlt)
                cases e
                exact World.block_lt_of_cell? _ _ hc'
              have hyo : ∀ j, j < k + 1 → R.getD j 0 ∈ L → j < k ∨ R.getD j 0 = y := fun j hj _ => by
                by_cases e : j < k
                · exact .inl e
                · exact .inr (by rw [show j = k by omega]; exact HYK.out)
              have HYO := Lib.hid hyo
              have HQY : Hid (Value.int .i64 ((natInts R)[k]'(by rw [natInts_length]; exact hlt)) = .int .i64 (y : Int)) := Lib.hid (by rw [natInts_atC hlt, ← hy])
              clear hy hyo hFl
              by_cases hyM : y ∈ M
              · have hf : ¬ (F.getD y 0 < 0) := by have := HSG.out.2 hyM; omega
                have HYM := Lib.hid hyM
                generalize F.getD y 0 = fy at hoy hf
                clear hF hyM hsg
                go_wp2_with fail
                go_roundw
                case rel => exact ⟨F, M, k + 1, by go_num, by omega, HBF, Lib.hid ⟨HTO.out.1, HTO.out.2.1, fun j hj hl => (HYO.out j hj hl).elim (fun e => HTO.out.2.2 j e hl) (fun e => by rw [e]; exact HYM.out)⟩, HF.out⟩
                case measure => simp [intOf]; omega
              · have hf : F.getD y 0 < 0 := by
                  have := mt HSG.out.1 hyM
                  omega
                have HYM := Lib.hid hyM
                by_cases hyL : y ∈ L
                · have DY := Lib.hid (dec_true (show (y : Int) ∈ natInts L from mem_natInts.2 ⟨y, hyL, rfl⟩))
                  have HYL := Lib.hid hyL
                  have hxn := (HBF.out.inn x hxM).2
                  have hxy : x ≠ y := fun e => hyM (e ▸ hxM)
                  have hm : wr.cell? ⟨mb, i, none⟩ = some (.int .i64 (x : Int)) := by
                    rw [hF.met.cellAt i (by omega)]
                    have := HTO.out.1
                    simp [natInts, this]
                  have hox : wr.cell? ⟨ob, x, none⟩ = some (.int .i64 (F.getD x 0)) := by rw [hF.out.cellAt x (by omega)]; simp [HBF.out.len, hxn]
                  have hfz := hF.out.frozenAt y
                  have hbd := HBF.out.bnd x hxn
                  have HADD := Lib.hid (HBF.out.add hxM hE.out hyL hyn hyM)
                  have HPUT := Lib.hid (fun z => hF.put y z)
                  generalize F.getD x 0 = fx at hox hbd HADD
                  obtain ⟨fz, hfz1⟩ : ∃ fz, fz = fx + 1 := ⟨_, rfl⟩
                  rw [← hfz1] at HADD
                  have hwr : IntKind.i64.wrap (fx + 1) = fz := by rw [IntKind.wrap_i64]; omega
                  have P1 : ∀ v, (wr.setCell ⟨ob, y, none⟩ v).cell? ⟨qb, qo + k, none⟩ = some (.int .i64 (y : Int)) := fun v => (World.cell?_setCell_far _ _ _ _ (show ob ≠ qb by omega)).trans hq
                  have P2 : ∀ v, (wr.setCell ⟨ob, y, none⟩ v).cell? ⟨mb, i, none⟩ = some (.int .i64 (x : Int)) := fun v => (World.cell?_setCell_far _ _ _ _ (show ob ≠ mb by omega)).trans hm
                  have P3 : ∀ v, (wr.setCell ⟨ob, y, none⟩ v).cell? ⟨ob, x, none⟩ = some (.int .i64 fx) := fun v => (World.cell?_setCell_other _ _ _ _ (fun e => by simp only [Addr.mk.injEq, true_and, and_true] at e; omega)).trans hox
                  generalize F.getD y 0 = fy at hoy hf
                  clear hF hyM hyL hsg hfz1
                  go_upto_region 18 with (go_at_call 72; refine (l1Has_any _ (natInts L) y _ (HN.out.below HF.out.bel)).mono ?_; rintro e w4 ⟨he4, hw4⟩; rw [DY.out] at he4; subst he4; subst hw4)
                  go_cut [] (fun wx => FW W0 wx g.length ob oc (F.set y fz) (.slice (some ⟨mb, 0, none⟩) M.length mc) M)
                  case first =>
                    go_region_held3 (fun w' => w'.cell? ⟨qb, qo + k, none⟩ = some (.int .i64 (y : Int)) ∧ w'.cell? ⟨mb, i, none⟩ = some (.int .i64 (x : Int)) ∧ w'.cell? ⟨ob, x, none⟩ = some (.int .i64 fx))
                      (first | exact ⟨hq, hm, hox⟩ | exact ⟨P1 _, P2 _, P3 _⟩ | go_keep)
                      (first | fail)
                    all_goals go_wp2
                    all_goals go_meet
                    all_goals exact (HPUT.out fz).next (below_dN (Below.refl _ _) 1)
                  case rest =>
                  have HF2 := Lib.hid hcut
                  have hq2 : wc.cell? ⟨qb, qo + k, none⟩ = some (.int .i64 (y : Int)) := by
                    obtain ⟨_, _, e, hq3⟩ := (HNR.out.below hcut.bel).get (k := k) (by rw [natInts_length]; exact hlt)
                    simp only [Option.some.injEq, Addr.mk.injEq, and_true] at e
                    obtain ⟨rfl, rfl⟩ := e
                    rw [hq3, HQY.out]
                  have hm2 := hcut.met
                  have lo2 := hcut.lo.2
                  have HM2 := Lib.hid hm2
                  clear hcut hq hm hox hoy hfz P1 P2 P3 hm2 hf
                  go_wp2_with (at_builtin; refine wpList_app1s ty_i64 rfl rfl rfl HM2.out rfl rfl (by omega) lo2 ?_; intro b7 c8 w7 hown7 hg7 _)
                  go_roundw
                  case rel => exact ⟨F.set y fz, M ++ [y], k + 1, by go_num, by omega, Lib.hid HADD.out, Lib.hid ⟨by rw [List.getElem?_append_left hiM]; exact HTO.out.1, BfTo.more HTO.out.2.1 (by omega), fun j hj hl => (HYO.out j hj hl).elim (fun e => List.mem_append_left _ (HTO.out.2.2 j e hl)) (fun e => by rw [e]; simp)⟩, HF2.out.add hown7 hg7⟩
                  case measure => simp [intOf]; omega
                · have DY := Lib.hid (dec_false (show ¬ (y : Int) ∈ natInts L from fun h => by
                    obtain ⟨y', h1, h2⟩ := mem_natInts.1 h
                    have : y' = y := by omega
                    exact hyL (this ▸ h1)))
                  have HYL := Lib.hid hyL
                  generalize F.getD y 0 = fy at hoy hf
                  clear hF hyM hyL hsg
                  go_wp2_with (go_at_call 72; refine (l1Has_any _ (natInts L) y _ (HN.out.below HF.out.bel)).mono ?_; rintro e w4 ⟨he4, hw4⟩; rw [DY.out] at he4; subst he4; subst hw4)
                  go_roundw
                  case rel => exact ⟨F, M, k + 1, by go_num, by omega, HBF, Lib.hid ⟨HTO.out.1, HTO.out.2.1, fun j hj hl => (HYO.out j hj hl).elim (fun e => HTO.out.2.2 j e hl) (fun e => absurd (e ▸ hl) HYL.out)⟩, HF.out⟩
                  case measure => simp [intOf]; omega
            · obtain rfl : k = R.length := by omega
              have HT2 : Hid (BfTo (ofG g) L M (i + 1)) := Lib.hid (fun j hj y hyL hEy => by
                by_cases e : j < i
                · exact HTO.out.2.1 j e y hyL hEy
                · obtain rfl : j = i := by omega
                  have e1 : M.getD j 0 = x := by simp [HTO.out.1]
                  rw [e1] at hEy
                  unfold ofG at hEy
                  rw [decide_eq_true_eq, HR.out] at hEy
                  obtain ⟨y', h1, h2⟩ := mem_natInts.1 hEy
                  obtain rfl : y' = y := by omega
                  obtain ⟨t, ht, e2⟩ := List.getElem_of_mem h1
                  have e3 : R.getD t 0 = y' := by simp [ht, e2]
                  have := HTO.out.2.2 t ht
                  rw [e3] at this
                  exact this hyL)
              obtain ⟨mp, mc, rfl⟩ : ∃ mp mc, u9 = .slice mp M.length mc := by
                obtain ⟨q1, q2, e⟩ := owns_someB hF.met (by omega)
                exact ⟨_, _, e⟩
              clear hF
              go_wp2_with fail
              go_roundw
              case rel => exact ⟨F, M, i + 1, by go_num, by omega, HBF, HT2, HF.out⟩
              case measure => simp [intOf]; omega
        · obtain rfl : i = M.length := by omega
          obtain ⟨mp, mc, rfl⟩ : ∃ mp mc, u9 = .slice mp M.length mc := by
            rcases hF.met.2 with ⟨h1, h0⟩ | ⟨q, cap, cur, h1, _⟩
            · exact ⟨none, 0, by rw [h1, h0]⟩
            · exact ⟨_, _, h1⟩
          clear hF
          have hdone := HBF.out.done HTO.out
          have HD := Lib.hid hdone
          go_wp2_with fail
          go_ret
          exact ⟨_, F, rfl, HBF.out.len, fun x hx => (HBF.out.sgn x hx).trans (HD.out x), ⟨M, HBF.out⟩, ownsRow_base HF.out.out (by have := SZ0.out; omega), HB0.out.trans (HF.out.bel.mono HB0.out.size)⟩
theorem l3From_any (v lv : Value) (z : Int) (g : List (List Int)) (L : List Nat) (u : Nat) (hz : z = u) (hok : GOk g) (hL : ∀ x ∈ L, x < g.length) (hu : u ∈ L) (w : World) (hg : Gr w v g) (hn : Nums w 2 .i64 lv (natInts L)) :
    Calls Tryd.prog 155 #[v, .int .i64 z, lv] w fun e w' => ∃ (ov : Value) (F : List Int), e = .returned ov ∧ F.length = g.length ∧ (∀ x, x < g.length → (0 ≤ F.getD x 0 ↔ x ∈ partL (ofG g) L u)) ∧
      w'.ownsRow w.heap.size 2 1 ov g.length (F.map (Value.int .i64)) ∧ Below w.heap.size w w' :=
  (l3FromF_any v lv z g L u hz hok hL hu w hg hn).mono fun _ _ ⟨ov, F, h1, h2, h3, _, h5, h6⟩ => ⟨ov, F, h1, h2, h3, h5, h6⟩

set_option maxRecDepth 100000 in
set_option maxHeartbeats 4000000 in
theorem l3Part_any (v lv : Value) (z : Int) (g : List (List Int)) (L : List Nat) (u : Nat) (hz : z = u) (hok : GOk g) (hris : L.Pairwise (· < ·)) (hL : ∀ x ∈ L, x < g.length) (hu : u ∈ L) (w : World) (hg : Gr w v g) (hn : Nums w 2 .i64 lv (natInts L)) :
    Calls Tryd.prog 134 #[v, .int .i64 z, lv] w fun e w' => ∃ ov : Value, e = .returned ov ∧
      w'.ownsRow w.heap.size 2 1 ov (partL (ofG g) L u).length ((natInts (partL (ofG g) L u)).map (Value.int .i64)) ∧ Below w.heap.size w w' := by
  subst hz
  have h16 := hok.le
  have hg0 := hg
  obtain ⟨gu, rfl, hr⟩ := hg
  obtain ⟨p, c, rfl, _⟩ := hr.shape
  obtain ⟨W0, hW0⟩ : ∃ W0, W0 = w.alloc (.cells #[.slice p g.length c] 28) := ⟨_, rfl⟩
  have hb0 : Below w.heap.size w W0 := by rw [hW0]; exact below_alloc _ _
  have HB0 := Lib.hid hb0
  have hcg : W0.cell? ⟨w.heap.size, 0, none⟩ = some (.slice p g.length c) := by rw [hW0]; exact cell_new _ _ _
  have HG := Lib.hid (hg0.below hb0)
  have HN := Lib.hid (hn.below hb0)
  have HU := Lib.hid hu
  have HL := Lib.hid hL
  have Hok := Lib.hid hok
  have HRI := Lib.hid hris
  obtain ⟨P, hP⟩ : ∃ P, P = partL (ofG g) L u := ⟨_, rfl⟩
  rw [← hP]
  have HP := Lib.hid hP
  have HEND : Hid ((List.range g.length).filter (fun x => decide (x ∈ P)) = P) := Lib.hid (by
    refine rising_ext _ _ (List.Pairwise.filter _ List.pairwise_lt_range) (by rw [hP]; exact partL_rising hris u) fun x => ?_
    rw [List.mem_filter, List.mem_range, decide_eq_true_eq]
    exact ⟨fun h => h.2, fun h => ⟨hL x (mem_partL.1 (hP ▸ h)).1, h⟩⟩)
  clear hg0 hb0 hr hn hu hL hok hris hP
  go_enter Tryd.func134, Tryd.ntmps134
  go_upto_region 1 with fail
  rw [← hW0]
  clear hW0
  go_upto_region 2 with (go_at_call 155; refine (l3From_any _ _ _ g L u rfl Hok.out HL.out HU.out _ HG.out HN.out).mono ?_; rintro e w2 ⟨fv, F, rfl, hFl, hFs, hF, hb2⟩)
  rw [← HP.out] at hFs
  obtain ⟨fp, fc, rfl⟩ : ∃ fp fc, fv = .slice fp g.length fc := by
    rcases hF.2 with ⟨h1, h0⟩ | ⟨q, cap, cur, h1, _⟩
    · exact ⟨none, 0, by rw [h1, h0]⟩
    · exact ⟨_, _, h1⟩
  have HFN : Hid (Nums w2 2 .i64 (.slice fp g.length fc) F) := Lib.hid (Nums.of_owns hF hFl.symm (by omega))
  have HFS := Lib.hid hFs
  have HFL := Lib.hid hFl
  have HB2 := Lib.hid (HB0.out.trans (hb2.mono HB0.out.size))
  have START : Hid ((w2.alloc (.cells #[] 2)).ownsRow w2.heap.size 2 1 (.slice (some ⟨w2.heap.size, 0, none⟩) 0 0) ((List.range 0).filter fun x => decide (x ∈ P)).length ((natInts ((List.range 0).filter fun x => decide (x ∈ P))).map (Value.int .i64))) := Lib.hid (ownsRow_empty w2 2 1)
  clear hF hFs hFl hb2 hcg
  go_wp2_with fail
  go_loopw [8, 9] (fun ov kv wr => ∃ k : Nat, k ≤ g.length ∧ kv = .int .i64 k ∧ wr.ownsRow w2.heap.size 2 1 ov ((List.range k).filter fun x => decide (x ∈ P)).length ((natInts ((List.range k).filter fun x => decide (x ∈ P))).map (Value.int .i64)) ∧ Below w2.heap.size w2 wr) (fun _ kv _ => g.length - (intOf kv).toNat)
  case atStart => exact ⟨0, Nat.zero_le _, rfl, START.out, below_alloc _ _⟩
  case round =>
    clear START
    obtain ⟨k, hk, rfl, hown, hb⟩ := hrel
    have HO := Lib.hid hown
    have HB := Lib.hid hb
    clear hown
    by_cases hlt : k < g.length
    · obtain ⟨qb, qo, rfl, hq⟩ := (HFN.out.below hb).get (k := k) (by rw [HFL.out]; exact hlt)
      have hsg := HFS.out k hlt
      have e1 : F.getD k 0 = F[k]'(by rw [HFL.out]; exact hlt) := by simp [HFL.out, hlt]
      rw [e1] at hsg
      obtain ⟨f, hf⟩ : ∃ f, f = F[k]'(by rw [HFL.out]; exact hlt) := ⟨_, rfl⟩
      rw [← hf] at hq hsg
      clear hf e1 hb
      obtain ⟨ll, hll⟩ : ∃ ll, ll = ((List.range k).filter fun x => decide (x ∈ P)).length := ⟨_, rfl⟩
      have hll2 : ll ≤ k := by rw [hll]; exact Nat.le_trans (List.length_filter_le _ _) (by simp)
      by_cases hkP : k ∈ P
      · have hf0 : (0 : Int) ≤ f := hsg.2 hkP
        have e2 : Hid ((List.range (k + 1)).filter (fun x => decide (x ∈ P)) = (List.range k).filter (fun x => decide (x ∈ P)) ++ [k]) := Lib.hid (by simp [List.range_succ, hkP])
        have hll3 : ((List.range k).filter fun x => decide (x ∈ P)).length < 1000000000 := by omega
        clear hsg hkP hll hll2
        go_wp2_with (at_builtin; refine wpList_app1s ty_i64 rfl rfl rfl HO.out rfl rfl hll3 HB.out.size ?_; intro b7 c8 w7 hown7 hg7 _)
        go_roundw
        case rel => exact ⟨k + 1, by omega, by go_num, by
          rw [e2.out, List.length_append]
          have e3 : natInts ((List.range k).filter (fun x => decide (x ∈ P)) ++ [k]) = natInts ((List.range k).filter (fun x => decide (x ∈ P))) ++ [(k : Int)] := by simp [natInts]
          rw [e3, List.map_append]
          exact hown7, below_grown HB.out HO.out hg7 (Nat.le_refl _) HB.out.size⟩
        case measure => simp [intOf]; omega
      · have hf0 : ¬ (0 : Int) ≤ f := fun h => hkP (hsg.1 h)
        have e2 : Hid ((List.range (k + 1)).filter (fun x => decide (x ∈ P)) = (List.range k).filter (fun x => decide (x ∈ P))) := Lib.hid (by simp [List.range_succ, hkP])
        clear hsg hkP hll hll2
        go_wp2_with fail
        go_roundw
        case rel => exact ⟨k + 1, by omega, by go_num, by rw [e2.out]; exact HO.out, HB.out⟩
        case measure => simp [intOf]; omega
    · obtain rfl : k = g.length := by omega
      rw [HEND.out] at HO
      clear hb
      go_wp2_with fail
      go_ret
      exact ⟨_, rfl, ownsRow_base HO.out HB2.out.size, HB2.out.trans (HB.out.mono HB2.out.size)⟩



end Go.Proofs.YtiooindlpinjhaaDoor
