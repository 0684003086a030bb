/- Walk: the reference's first map that fits, recursive. -/
import Derived.Test.YtkppbmfliejnmaaDoorMcQ15
import Derived.Test.YtkppbmfliejnmaaDoorMcQ18
import Derived.Test.YtkppbmfliejnmaaDoorMcQ24
import Derived.Test.YtkppbmfliejnmaaDoorMcQ23
import Derived.Test.YtkppbmfliejnmaaDoorMcQ11
namespace Go.Proofs.YtkppbmfliejnmaaDoor
open Go.RowKit

/-- The two looks at edges, of host and pattern, as the reference's search takes them. -/
def embE (g : List (List Int)) : Nat → Nat → Bool := fun v u => edB g u v

set_option maxRecDepth 100000 in
set_option maxHeartbeats 8000000 in
theorem l4Embed_any (p g : List (List Int)) (hp1 : 0 < p.length) (hp16 : p.length ≤ 16) (hg16 : g.length ≤ 16) :
    ∀ (r : Nat) (pre : List Nat) (v z lv : Value) (w : World), pre.length + r = p.length → (∀ x ∈ pre, x < g.length) → Gr w v p → Gr w z g → Nums w 2 .i64 lv (natInts pre) →
      Calls Tryd.prog 133 #[v, z, lv] w fun e w' => ∃ u, e = .returned u ∧ Nums w' 2 .i64 u (natInts ((fitF g.length (embE g) (fun k i => edB p i k) r pre).getD [])) ∧ Below w.heap.size w w' := by
  intro r
  induction r with
  | zero =>
    intro pre v z lv w hlen hin hp hg hn
    have hp0 := hp
    have hg0 := hg
    obtain ⟨u, rfl, hr⟩ := hp
    obtain ⟨pp, pc, rfl, _⟩ := hr.shape
    obtain ⟨u', rfl, hr'⟩ := hg
    obtain ⟨gp, gc, rfl, _⟩ := hr'.shape
    obtain ⟨lp, lc, rfl, _⟩ := id hn.shape
    obtain ⟨W0, hW0, hbA, SZ0, B0, B1⟩ := two_boxesC w (.slice pp p.length pc) (.slice gp g.length gc) 29 29
    have HBA := Lib.hid hbA
    have HPA := Lib.hid (hp0.below hbA)
    have HNA := Lib.hid (hn.below hbA)
    have HX0 := Lib.hid B0
    have c0 := B0.cell
    rw [natInts_length] at *
    have heq : ((pre.length : Int) == (p.length : Int)) = true := by simp; omega
    clear hr hr' hp0 hg0 hn hbA B0 B1 hin
    go_enter Tryd.func133, Tryd.ntmps133
    go_upto_region 1 with fail
    rw [← hW0]
    clear hW0
    go_wp2_with (go_at_call 132; refine (l1Size_any _ p _ HPA.out).mono ?_; rintro e w3 ⟨rfl, hb3⟩; have HB3 := Lib.hid hb3; clear hb3)
    go_ret
    exact ⟨_, rfl, by simpa [fitF] using HNA.out.below HB3.out, HBA.out.trans (HB3.out.mono HBA.out.size)⟩
  | succ r ih =>
    intro pre v z lv w hlen hin hp hg hn
    have IH := Lib.hid ih
    have HIN := Lib.hid hin
    have hp0 := hp
    have hg0 := hg
    obtain ⟨u, rfl, hr⟩ := hp
    obtain ⟨pp, pc, rfl, _⟩ := hr.shape
    obtain ⟨u', rfl, hr'⟩ := hg
    obtain ⟨gp, gc, rfl, _⟩ := hr'.shape
    obtain ⟨lp, lc, rfl, _⟩ := id hn.shape
    obtain ⟨W0, hW0, hbA, SZ0, B0, B1⟩ := two_boxesC w (.slice pp p.length pc) (.slice gp g.length gc) 29 29
    have HBA := Lib.hid hbA
    have HPA := Lib.hid (hp0.below hbA)
    have HGA := Lib.hid (hg0.below hbA)
    have HNA : Hid (Nums W0 2 .i64 (.slice lp (natInts pre).length lc) (natInts pre)) := Lib.hid (hn.below hbA)
    have HX0 := Lib.hid B0
    have HX1 := Lib.hid B1
    have HSZ := Lib.hid SZ0
    rw [natInts_length] at HNA ⊢
    have heq : ((pre.length : Int) == (p.length : Int)) = false := beq_eq_false_iff_ne.2 (by omega)
    have hpm : pre.length < p.length := by omega
    clear hr hr' hp0 hg0 hn hbA B0 B1 ih hin SZ0
    have c0 := HX0.out.cell
    have c1 := HX1.out.cell
    go_enter Tryd.func133, Tryd.ntmps133
    go_upto_region 1 with fail
    rw [← hW0]
    clear hW0
    go_upto_region 4 with (go_at_call 132; refine (l1Size_any _ p _ HPA.out).mono ?_; rintro e w3 ⟨rfl, hb3⟩; have HB3 := Lib.hid hb3; clear hb3)
    go_wp2_with fail
    clear c0 c1
    go_loopw [8] (fun iv wr => ∃ v : Nat, v ≤ g.length ∧ iv = .int .i64 (v : Int) ∧ Hid (fitTo g.length (embE g) (fun k i => edB p i k) r pre v = none) ∧ Hid (Below W0.heap.size W0 wr)) (fun iv _ => g.length - (intOf iv).toNat)
    case atStart => exact ⟨0, Nat.zero_le _, rfl, Lib.hid (fitTo_zero _ _ _ _ _), HB3⟩
    case round =>
      clear HB3
      obtain ⟨v, hv, rfl, HNO, HBW⟩ := hrel
      have c0 := HBW.out.at' HX0.out.cell
      have c1 := HBW.out.at' HX1.out.cell
      have HGr := Lib.hid (HGA.out.below HBW.out)
      have HPr := Lib.hid (HPA.out.below HBW.out)
      have HNr := Lib.hid (HNA.out.below HBW.out)
      by_cases hlt : v < g.length
      · have hd : decide ((v : Int) < (g.length : Int)) = true := decide_eq_true (by omega)
        go_upto_region 9 with (first
          | (go_at_call 158; refine (l1Has_any _ (natInts pre) _ _ (HNr.out.below HBX.out)).mono ?_; rintro e w5 ⟨rfl, rfl⟩)
          | (go_at_call 132; refine (l1Size_any _ g _ HGr.out).mono ?_; rintro e w4 ⟨rfl, hb4⟩; have HBX := Lib.hid hb4; clear hb4))
        have c0 := HBX.out.at' c0
        have c1 := HBX.out.at' c1
        have HGx := Lib.hid (HGr.out.below HBX.out)
        have HPx := Lib.hid (HPr.out.below HBX.out)
        have HNx := Lib.hid (HNr.out.below HBX.out)
        have HBY := Lib.hid (HBW.out.trans (HBX.out.mono HBW.out.size))
        clear HGr HPr HNr
        go_loopw [9, 10] (fun fv kv wx => ∃ (k : Nat) (b : Bool), k ≤ pre.length ∧ fv = .bool b ∧ kv = .int .i64 (k : Int) ∧ Hid (b = true → v ∉ pre ∧ ∀ j (h : j < pre.length), j < k → embE g v pre[j] = edB p j pre.length) ∧ Hid (b = false → ¬ okV (embE g) (fun k i => edB p i k) pre v) ∧ Hid (Below w4.heap.size w4 wx)) (fun _ kv _ => pre.length - (intOf kv).toNat)
        case atStart =>
          refine ⟨0, !dec ((v : Int) ∈ natInts pre), Nat.zero_le _, rfl, rfl, Lib.hid (fun h => ⟨fun hm => ?_, fun j _ h => absurd h (Nat.not_lt_zero _)⟩), Lib.hid (fun h ho => ?_), Lib.hid (Below.refl _ _)⟩
          · rw [dec_true (mem_natInts.2 ⟨v, hm, rfl⟩)] at h; cases h
          · have hne : ¬ ((v : Int) ∈ natInts pre) := fun hm => by
              obtain ⟨y, hy, e⟩ := mem_natInts.1 hm
              obtain rfl : y = v := by omega
              exact ho.1 hy
            rw [dec_false hne] at h
            cases h
        case round =>
          obtain ⟨k, b, hk, rfl, rfl, HT, HF, HBQ⟩ := hrel
          have d0 := HBQ.out.at' c0
          have d1 := HBQ.out.at' c1
          have HGq := Lib.hid (HGx.out.below HBQ.out)
          have HPq := Lib.hid (HPx.out.below HBQ.out)
          have HNq := Lib.hid (HNx.out.below HBQ.out)
          cases b
          · have HNOK := Lib.hid (HF.out rfl)
            by_cases hkl : k < pre.length
            · have hdk : decide ((k : Int) < (pre.length : Int)) = true := decide_eq_true (by omega)
              go_wp2_with fail
              go_roundw
              case rel => exact ⟨v + 1, by omega, by go_num, Lib.hid (fitTo_no HNO.out HNOK.out), Lib.hid (HBY.out.trans (HBQ.out.mono HBY.out.size))⟩
              case measure => simp [intOf]; omega
            · have hdk : decide ((k : Int) < (pre.length : Int)) = false := decide_eq_false (by omega)
              go_wp2_with fail
              go_roundw
              case rel => exact ⟨v + 1, by omega, by go_num, Lib.hid (fitTo_no HNO.out HNOK.out), Lib.hid (HBY.out.trans (HBQ.out.mono HBY.out.size))⟩
              case measure => simp [intOf]; omega
          · have HT2 := Lib.hid (HT.out rfl)
            by_cases hkl : k < pre.length
            · have hdk : decide ((k : Int) < (pre.length : Int)) = true := decide_eq_true (by omega)
              obtain ⟨x, hx⟩ : ∃ x, x = pre[k] := ⟨_, rfl⟩
              have hxn : x < g.length := by rw [hx]; exact HIN.out _ (List.getElem_mem hkl)
              have HX := Lib.hid hx
              obtain ⟨qb, qo, hqp, hq⟩ := HNq.out.get (k := k) (by rw [natInts_length]; exact hkl)
              have e1 : (natInts pre)[k]'(by rw [natInts_length]; exact hkl) = (x : Int) := by rw [hx]; simp [natInts]
              rw [e1] at hq
              have hkp : k < p.length := by omega
              obtain ⟨bp, hbp⟩ : ∃ bp, bp = dec ((pre.length : Int) ∈ row p k) := ⟨_, rfl⟩
              obtain ⟨bg, hbg⟩ : ∃ bg, bg = dec ((v : Int) ∈ row g x) := ⟨_, rfl⟩
              have HEP : Hid (edB p k pre.length = bp) := Lib.hid (by unfold edB; rw [hbp, decide_dec])
              have HEG : Hid (embE g v x = bg) := Lib.hid (by unfold embE edB; rw [hbg, decide_dec])
              have PE : Hid (∀ W, Below wr.heap.size wr W → Calls Tryd.prog 109 #[.agg #[.slice pp p.length pc], .int .i64 (k : Int), .int .i64 (pre.length : Int)] W fun e w' => e = .returned (.bool bp) ∧ Below W.heap.size W w') := Lib.hid (fun W hW => by rw [hbp]; exact l1Edge_any _ p _ _ k pre.length rfl rfl hkp W (HPq.out.below hW))
              have GE : Hid (∀ W, Below wr.heap.size wr W → Calls Tryd.prog 109 #[.agg #[.slice gp g.length gc], .int .i64 (x : Int), .int .i64 (v : Int)] W fun e w' => e = .returned (.bool bg) ∧ Below W.heap.size W w') := Lib.hid (fun W hW => by rw [hbg]; exact l1Edge_any _ g _ _ x v rfl rfl hxn W (HGq.out.below hW))
              clear e1 hx hbp hbg
              subst hqp
              go_upto_region 11 with fail
              go_region_held3 (fun w' => w'.cell? ⟨w.heap.size, 0, none⟩ = some (.slice pp p.length pc) ∧ w'.cell? ⟨w.heap.size + 1, 0, none⟩ = some (.slice gp g.length gc) ∧ w'.cell? ⟨qb, qo + k, none⟩ = some (.int .i64 x))
                (first | exact ⟨d0, d1, hq⟩ | exact ⟨BWB.at' d0, BWB.at' d1, BWB.at' hq⟩ | exact ⟨BWA.at' d0, BWA.at' d1, BWA.at' hq⟩ | go_keep)
                (first
                  | (go_at_call 109; refine (GE.out _ (below_dN BWA 1)).mono ?_; rintro e w7 ⟨rfl, hb7⟩; have BWB : Below wr.heap.size wr w7 := (below_dN BWA 1).trans (hb7.mono (below_dN BWA 1).size); clear hb7)
                  | (go_at_call 109; refine (GE.out _ BWA).mono ?_; rintro e w7 ⟨rfl, hb7⟩; have BWB : Below wr.heap.size wr w7 := BWA.trans (hb7.mono BWA.size); clear hb7)
                  | (go_at_call 109; refine (PE.out _ (below_dN (Below.refl _ _) 1)).mono ?_; rintro e w6 ⟨rfl, hb6⟩; have BWA : Below wr.heap.size wr w6 := (below_dN (Below.refl _ _) 1).trans hb6; clear hb6))
              all_goals
                go_wp2
                go_roundw
                case rel =>
                  refine ⟨k + 1, bp == bg, by omega, rfl, by go_num, Lib.hid (fun h => ⟨HT2.out.1, fun j hj hjk => ?_⟩), Lib.hid (fun h ho => ?_), Lib.hid (HBQ.out.trans (BWB.mono HBQ.out.size))⟩
                  · by_cases hjk2 : j < k
                    · exact HT2.out.2 j hj hjk2
                    · obtain rfl : j = k := by omega
                      rw [← HX.out, HEG.out, HEP.out]
                      exact (eq_of_beq h).symm
                  · have h2 := ho.2 k hkl
                    rw [← HX.out] at h2
                    have h3 : bg = bp := by rw [← HEG.out, ← HEP.out]; exact h2
                    rw [h3, beq_self_eq_true] at h
                    cases h
                case measure => simp [intOf]; omega
            · have hdk : decide ((k : Int) < (pre.length : Int)) = false := decide_eq_false (by omega)
              obtain rfl : k = pre.length := by omega
              have HOK : Hid (okV (embE g) (fun k i => edB p i k) pre v) := Lib.hid ⟨HT2.out.1, fun j hj => HT2.out.2 j hj hj⟩
              have I2 : Hid (∀ x ∈ pre ++ [v], x < g.length) := Lib.hid (fun x hx => by
                rcases List.mem_append.1 hx with h | h
                · exact HIN.out x h
                · rw [List.mem_singleton] at h; omega)
              have I3 : Hid ((pre ++ [v]).length + r = p.length) := Lib.hid (by rw [List.length_append, List.length_singleton]; omega)
              obtain ⟨res, hres⟩ : ∃ res, res = fitF g.length (embE g) (fun k i => edB p i k) r (pre ++ [v]) := ⟨_, rfl⟩
              have HRES := Lib.hid hres
              have HFT : Hid (fitTo g.length (embE g) (fun k i => edB p i k) r pre (v + 1) = res) := Lib.hid (by rw [fitTo_yes HNO.out HOK.out, hres])
              have HBZ := Lib.hid (HBY.out.trans (HBQ.out.mono HBY.out.size))
              have T18 : Hid (∀ y ∈ [Value.int .i64 (v : Int)], y.oneCell' = true) := Lib.hid (by intro y hy; rw [List.mem_singleton] at hy; rw [hy]; rfl)
              have T17 : Hid ([Value.int .i64 (v : Int)].length = 1 * 1) := Lib.hid rfl
              have T19 : Hid (∀ y ∈ (natInts pre).map (Value.int .i64), y.oneCell' = true) := Lib.hid (by intro y hy; obtain ⟨z, _, rfl⟩ := List.mem_map.1 hy; rfl)
              have T20 : Hid (((natInts pre).map (Value.int .i64)).length = pre.length) := Lib.hid (by simp [natInts])
              have T21 : Hid (wr.heap.size ≤ (wr.alloc (.cells #[.int .i64 (v : Int)] 2)).heap.size) := Lib.hid (by rw [size_alloc]; omega)
              have T22 : Hid (pre.length + 1 ≤ 1000000000) := Lib.hid (by omega)
              clear hres
              go_upto_region 13 with fail
              go_cut [11] (fun s wy => ∃ rp rc, s = .slice rp (natInts (res.getD [])).length rc ∧ Hid (Nums wy 2 .i64 s (natInts (res.getD []))) ∧ Hid (Below wr.heap.size wr wy))
              case first =>
                go_region_held3 (fun w' => w'.cell? ⟨w.heap.size, 0, none⟩ = some (.slice pp p.length pc) ∧ w'.cell? ⟨w.heap.size + 1, 0, none⟩ = some (.slice gp g.length gc))
                  (first | exact ⟨d0, d1⟩ | exact ⟨BWG.at' d0, BWG.at' d1⟩ | exact ⟨BWB.at' d0, BWB.at' d1⟩ | exact ⟨BWA.at' d0, BWA.at' d1⟩ | exact ⟨(BWA.alloc hs2 _).at' d0, (BWA.alloc hs2 _).at' d1⟩ | go_keep)
                  (first
                    | (go_at_call 133; refine (IH.out (pre ++ [v]) _ _ _ _ I3.out I2.out (HPq.out.below BWB) (HGq.out.below BWB) HN3.out).mono ?_; rintro e w8 ⟨rv, rfl, hn8, hb8⟩; have BWG : Below wr.heap.size wr w8 := BWB.trans (hb8.mono BWB.size); have HN8 := Lib.hid hn8; obtain ⟨rp, rc, rfl, _⟩ := id hn8.shape; clear hn8 hb8)
                    | (have hq1 := HB1.out; have hq2 := HO2.out; refine wanted_wp rfl ?_; refine wp_apps (s := .tmp 53) (x := .tmp 55) (u := .slice (some ⟨wr.heap.size, 0, none⟩) 1 1) ty_i64 ?_ ?_ hq2 ?_ hq1 T17.out T18.out T22.out hs2 ?_; exact rfl; exact rfl; exact rfl; intro bv w3 hown3 hg3; obtain ⟨bp3, bc3, rfl⟩ := owns_shapeT hown3; have BWB := below_grown BWA HO2.out hg3 (Nat.le_refl _) BWA.size; have HN3 : Hid (Nums w3 2 .i64 _ (natInts (pre ++ [v]))) := Lib.hid (Nums.of_owns (xs := natInts (pre ++ [v])) (by rw [natInts_app, List.map_append]; exact hown3) (by rw [natInts_length, List.length_append]; rfl) T22.out); clear hown3 hg3 hq1 hq2)
                    | (refine step_app1s ty_i64 rfl rfl rfl HO2.out rfl rfl (by omega) (by omega) ?_; intro b3 c3 w3 hown3 hg3; have BWB := below_grown BWA HO2.out hg3 (Nat.le_refl _) BWA.size; have HN3 : Hid (Nums w3 2 .i64 (.slice (some ⟨b3, 0, none⟩) (pre.length + 1) c3) (natInts (pre ++ [v]))) := Lib.hid (Nums.of_owns (xs := natInts (pre ++ [v])) (by rw [natInts_app, List.map_append]; exact hown3) (by rw [natInts_length, List.length_append]; rfl) (by omega)); clear hown3 hg3)
                    | (go_at_call 200; refine (l1Copy_any _ pre.length ((natInts pre).map (Value.int .i64)) T19.out T20.out _ (HNq.out.slC (below_dN (below_alloc wr (.cells #[.int .i64 (v : Int)] 2)) 1))).mono ?_; rintro e w2 ⟨cv, rfl, ho2, hb2⟩; obtain ⟨cp, cc, rfl⟩ := owns_shapeT ho2; have BWA : Below wr.heap.size wr w2 := (below_dN (below_alloc wr (.cells #[.int .i64 (v : Int)] 2)) 1).trans (hb2.mono T21.out); have HO2 : Hid (w2.ownsRow wr.heap.size 2 1 (.slice cp pre.length cc) pre.length ((natInts pre).map (Value.int .i64))) := Lib.hid (ownsRow_base ho2 T21.out); have HB1 := Lib.hid (built_sl (w' := w2) hb2); have hs2 := BWA.size; clear ho2 hb2)
                    | (go_at_call 200; refine (l1Copy_any _ pre.length ((natInts pre).map (Value.int .i64)) T19.out T20.out _ (HNq.out.slC (below_dN (Below.refl _ _) 1))).mono ?_; rintro e w2 ⟨cv, rfl, ho2, hb2⟩; obtain ⟨cp, cc, rfl⟩ := owns_shapeT ho2; have BWA : Below wr.heap.size wr w2 := (below_dN (Below.refl _ _) 1).trans hb2; have HO2 : Hid (w2.ownsRow wr.heap.size 2 1 (.slice cp pre.length cc) pre.length ((natInts pre).map (Value.int .i64))) := Lib.hid ho2; have hs2 := BWA.size; clear ho2 hb2))
                all_goals go_wp2
                all_goals go_meet
                all_goals exact ⟨_, _, by rw [HRES.out], by rw [HRES.out]; exact HN8, Lib.hid BWG⟩
              case rest =>
                obtain ⟨rp, rc, rfl, HN9, HB9⟩ := hcut
                cases res with
                | none =>
                  have hd9 : decide ((0 : Int) < 0) = false := rfl
                  go_wp2_with fail
                  go_roundw
                  case rel => exact ⟨v + 1, by omega, by go_num, HFT, Lib.hid (HBZ.out.trans (HB9.out.mono HBZ.out.size))⟩
                  case measure => simp [intOf]; omega
                | some l =>
                  have hl0 : 0 < l.length := by
                    obtain ⟨u, hu, _⟩ := fitF_some _ _ _ HRES.out.symm
                    rw [hu]; simp; omega
                  have HL : Hid (fitF g.length (embE g) (fun k i => edB p i k) (r + 1) pre = some l) := Lib.hid (by rw [← fitTo_all]; exact fitTo_stop HFT.out (by omega))
                  have hnl9 : 0 < (natInts l).length := by rw [natInts_length]; exact hl0
                  have hd9 : decide ((0 : Int) < ((natInts l).length : Int)) = true := decide_eq_true (by omega)
                  go_wp2_with fail
                  go_ret
                  refine ⟨_, rfl, by rw [HL.out]; exact HN9.out, HBA.out.trans ((HBZ.out.trans (HB9.out.mono HBZ.out.size)).mono HBA.out.size)⟩
      · obtain rfl : v = g.length := by omega
        have hd : decide ((g.length : Int) < (g.length : Int)) = false := decide_eq_false (by omega)
        have HFA : Hid (fitF g.length (embE g) (fun k i => edB p i k) (r + 1) pre = none) := Lib.hid (by rw [← fitTo_all]; exact HNO.out)
        go_wp2_with (go_at_call 132; refine (l1Size_any _ g _ HGr.out).mono ?_; rintro e w4 ⟨rfl, hb4⟩; have HBX := Lib.hid hb4; clear hb4)
        go_ret
        refine ⟨_, rfl, ?_, (HBA.out.trans ((HBW.out.trans (HBX.out.mono HBW.out.size)).mono HBA.out.size)).alloc (by have h1 := HBA.out.size; have h2 := HBW.out.size; have h3 := HBX.out.size; omega) _⟩
        rw [HFA.out]
        exact Sl.nothing _ _ _ _ (by simp)

end Go.Proofs.YtkppbmfliejnmaaDoor
