/- Walk: the reference's steps from a vertex. -/
import Derived.Test.YtfokiijcpkhllaaDoorDsQ34
import Derived.Test.YtfokiijcpkhllaaDoorDsQ36
import Derived.Test.YtfokiijcpkhllaaDoorDsQ14
import Derived.Test.YtfokiijcpkhllaaDoorDsQ16
import Derived.Test.YtfokiijcpkhllaaDoorDsQ9
import Derived.Test.YtfokiijcpkhllaaDoorDsQ3
import Derived.Deep.RegionHeld3
import Derived.Deep.DeepCutAuto
namespace Go.Proofs.YtfokiijcpkhllaaDoor
open Go.RowKit

/-- What stands in the first cells of a block. -/
def rdD (w : World) (b n : Nat) : List Int := (List.range n).map fun u => match w.cell? ⟨b, u, none⟩ with | some (.int _ x) => x | _ => 0
theorem own64_at {w : World} {base ob n oc : Nat} {D : List Int} (h : w.ownsRow base 2 1 (.slice (some ⟨ob, 0, none⟩) n oc) n (D.map (Value.int .i64))) (hD : D.length = n) {u : Nat} (hu : u < n) : w.cell? ⟨ob, u, none⟩ = some (.int .i64 (D.getD u 0)) := by
  rw [h.cellAt u (by omega), List.getElem?_map, List.getElem?_eq_getElem (by omega), List.getD_eq_getElem?_getD, List.getElem?_eq_getElem (by omega)]
  rfl
theorem own64_set {w : World} {base ob n oc : Nat} {D : List Int} (h : w.ownsRow base 2 1 (.slice (some ⟨ob, 0, none⟩) n oc) n (D.map (Value.int .i64))) (u : Nat) (f : Int) : (w.setCell ⟨ob, u, none⟩ (.int .i64 f)).ownsRow base 2 1 (.slice (some ⟨ob, 0, none⟩) n oc) n ((D.set u f).map (Value.int .i64)) := by
  have := (h.stored u (.int .i64 f)).1
  rwa [← List.map_set] at this
theorem rd_own {w : World} {base ob n oc : Nat} {D : List Int} (h : w.ownsRow base 2 1 (.slice (some ⟨ob, 0, none⟩) n oc) n (D.map (Value.int .i64))) (hD : D.length = n) : rdD w ob n = D := by
  refine List.ext_getElem (by simp [rdD, hD]) fun u h1 h2 => ?_
  have hu : u < n := by omega
  simp only [rdD, List.getElem_map, List.getElem_range, own64_at h hD hu]
  rw [List.getD_eq_getElem?_getD, List.getElem?_eq_getElem h2]
  rfl
theorem ownsRow_toD {w w' : World} {base : Nat} {E : TypeId} {size n : Nat} {v : Value} {xs : List Value} (h : w.ownsRow base E size v n xs) (hk : ∀ k, v.ownBlock = some k → w'.heap[k]? = w.heap[k]?) : w'.ownsRow base E size v n xs := by
  refine ⟨h.1, ?_⟩
  rcases h.2 with h2 | ⟨g, cap, cur, rfl, h2, h3, h4⟩
  · exact .inl h2
  · exact .inr ⟨g, cap, cur, rfl, h2, (hk g rfl).trans h3, h4⟩
theorem QRow.shapeN {w : World} {base : Nat} {E : TypeId} {v : Value} {Q : List Nat} (h : QRow w base E v ((natInts Q).map (Value.int .i64))) : ∃ g off cap, v = .slice (some ⟨g, off, none⟩) Q.length cap := by
  obtain ⟨g, off, cap, e⟩ := h.shape
  refine ⟨g, off, cap, ?_⟩
  rw [e, List.length_map, natInts_length]
theorem QRow.set {w : World} {base : Nat} {E : TypeId} {v : Value} {xs : List Value} (h : QRow w base E v xs) {ob : Nat} (hb : ob < base) (u : Nat) (x : Value) : QRow (w.setCell ⟨ob, u, none⟩ x) base E v xs :=
  h.kept fun b e => heap_setCell_other w ⟨ob, u, none⟩ b x (by have := (h.lt b e).1; show b ≠ ob; omega)
set_option maxRecDepth 100000 in
set_option maxHeartbeats 4000000 in
theorem l18Steps_any (v lv : Value) (g : List (List Int)) (L : List Nat) (z : Int) (s : Nat) (hz : z = s) (hok : GOk g) (hL : ∀ x ∈ L, x < g.length) (hs : s ∈ L) (w : World) (hg : Gr w v g) (hl : Nums w 2 .i64 lv (natInts L)) :
    Calls Tryd.prog 54 #[v, lv, .int .i64 z] w fun e w' => ∃ (ob oc : Nat) (D : List Int), e = .returned (.slice (some ⟨ob, 0, none⟩) g.length oc) ∧ w.heap.size ≤ ob ∧ w'.ownsRow w.heap.size 2 1 (.slice (some ⟨ob, 0, none⟩) g.length oc) g.length (D.map (Value.int .i64)) ∧ D.length = g.length ∧ (∀ u, u < g.length → IsD (ofG g) (· ∈ L) s u (D.getD u 0)) ∧ Below w.heap.size w w' := by
  subst hz
  have hg0 := Lib.hid hg
  obtain ⟨_, rfl, hr⟩ := hg
  obtain ⟨ga, gc, rfl, _⟩ := hr.shape
  obtain ⟨lp, lc, rfl, _⟩ := id hl.shape
  rw [natInts_length] at hl ⊢
  have hsn := hL s hs
  obtain ⟨w1, hw1⟩ : ∃ w1, w1 = w.alloc (.cells #[.slice ga g.length gc] 29) := ⟨_, rfl⟩
  have HXg : Hid (Box w1 w.heap.size 29 (.slice ga g.length gc)) := Lib.hid (by rw [hw1]; exact Box.new _ _ _)
  have HB1 : Hid (Below w.heap.size w w1) := Lib.hid (by rw [hw1]; exact below_alloc _ _)
  have HS1 : Hid (w1.heap.size = w.heap.size + 1) := Lib.hid (by rw [hw1, size_alloc])
  have HR := Lib.hid (hr.below HB1.out)
  have HLN := Lib.hid (hl.below HB1.out)
  have HOK := Lib.hid hok
  have HL := Lib.hid hL
  have HST := Lib.hid (BfI.start (E := ofG g) (R := row g) (W := (· ∈ L)) hs hsn)
  have hn16 := hok.le
  obtain ⟨n, hn⟩ : ∃ n, n = g.length := ⟨_, rfl⟩
  have HN := Lib.hid hn
  rw [← hn] at hsn HST hn16 HR HXg ⊢ hw1
  clear hok hr hl hg0 hL hs hn
  go_enter Tryd.func54, Tryd.ntmps54
  go_upto_region 1 with fail
  rw [← hw1]
  clear hw1
  have HO1 : Hid ((w1.alloc (.cells #[] 2)).ownsRow w1.heap.size 2 1 (.slice (some ⟨w1.heap.size, 0, none⟩) 0 0) 0 ((List.replicate 0 (-1 : Int)).map (Value.int .i64))) := Lib.hid (ownsRow_empty w1 2 1)
  have HB2 : Hid (Below w1.heap.size w1 (w1.alloc (.cells #[] 2))) := Lib.hid (below_alloc _ _)
  go_wp2_with fail
  go_loopw [7, 8] (fun ov iv wr => ∃ k : Nat, k ≤ n ∧ iv = .int .i64 (k : Int) ∧ Hid (wr.ownsRow w1.heap.size 2 1 ov k ((List.replicate k (-1 : Int)).map (Value.int .i64))) ∧ Hid (Below w1.heap.size w1 wr)) (fun _ iv _ => n - (intOf iv).toNat)
  case atStart => exact ⟨0, Nat.zero_le _, rfl, HO1, HB2⟩
  case round =>
    clear HO1 HB2
    obtain ⟨k, hk, rfl, HO, HB⟩ := hrel
    have hcg := HB.out.at (by have := HS1.out; show w.heap.size < w1.heap.size; omega) HXg.out.cell
    have hsz := HB.out.size
    by_cases hlt : k < n
    · have hki : (k : Int) < (n : Int) := by omega
      go_wp2_with (at_builtin; refine wpList_app1 ty_i64 rfl rfl rfl HO.out rfl rfl (by omega) hsz ?_; intro v2 w2 hown2 hg2 _)
      go_roundw
      case rel =>
        refine ⟨k + 1, by omega, by go_num, Lib.hid ?_, Lib.hid (below_grown HB.out HO.out hg2 (Nat.le_refl _) hsz)⟩
        rw [List.replicate_succ', List.map_append]
        exact hown2
      case measure => simp [intOf]; omega
    · obtain rfl : k = n := by omega
      obtain ⟨ob, oc, rfl, hobb⟩ : ∃ ob oc, u7 = .slice (some ⟨ob, 0, none⟩) k oc ∧ w1.heap.size ≤ ob := by
        have h := HO.out
        rcases h.2 with ⟨_, h0⟩ | ⟨b, c, _, e, hb, _⟩
        · exact absurd h0 (by omega)
        · exact ⟨b, c, e, hb⟩
      have hob := (HO.out.lt ob rfl).2
      have hcs := own64_at HO.out (by simp) hsn
      have hfs := HO.out.frozenAt s
      have HO3 := Lib.hid (own64_set HO.out s 0)
      have HB3 : Hid (Below w1.heap.size w1 (wr.setCell ⟨ob, s, none⟩ (.int .i64 0))) := Lib.hid (HB.out.setCell (p := ⟨ob, s, none⟩) hobb _)
      have hvi : (s : Int) < (k : Int) := by omega
      have hv0 : (0 : Int) ≤ (s : Int) := by omega
      generalize (List.replicate k (-1 : Int)).getD s 0 = old at hcs
      clear HO HB hsz
      go_upto_region 7 with fail
      obtain ⟨w3, hw3⟩ : ∃ w3, w3 = wr.setCell ⟨ob, s, none⟩ (.int .i64 0) := ⟨_, rfl⟩
      have hob3 : ob < w3.heap.size := by rw [hw3]; simp [World.setCell]; exact hob
      rw [← hw3] at HO3 HB3 ⊢
      clear hw3 hcs hfs hob hcg
      obtain ⟨D0, hD0⟩ : ∃ D0, D0 = (List.replicate k (-1 : Int)).set s 0 := ⟨_, rfl⟩
      rw [← hD0] at HO3 HST
      clear hD0
      obtain ⟨qb, hqb⟩ : ∃ qb, qb = w3.heap.size := ⟨_, rfl⟩
      have HQ4 : Hid (QRow (w3.alloc (.cells #[.int .i64 (s : Int)] 2)) qb 2 (.slice (some ⟨w3.heap.size, 0, none⟩) 1 1) ((natInts [s]).map (Value.int .i64))) := Lib.hid (by rw [hqb]; exact QRow.one w3 _ _)
      have HO4 := Lib.hid (ownsRow_below HO3.out (below_alloc w3 (.cells #[.int .i64 (s : Int)] 2)))
      have HB4 : Hid (Below w1.heap.size w1 (w3.alloc (.cells #[.int .i64 (s : Int)] 2))) := Lib.hid (HB3.out.alloc HB3.out.size _)
      have HQB : Hid (ob < qb ∧ w1.heap.size ≤ qb) := Lib.hid ⟨by omega, by rw [hqb]; exact HB3.out.size⟩
      clear hqb hob3 HO3 HB3
      go_wp2_with fail
      go_loopw [9] (fun tv wr => ∃ (D : List Int) (Q : List Nat), Hid (BfI (ofG g) (· ∈ L) (row g) k s D Q none 0) ∧ Hid (wr.ownsRow w1.heap.size 2 1 (.slice (some ⟨ob, 0, none⟩) k oc) k (D.map (Value.int .i64))) ∧ Hid (QRow wr qb 2 tv ((natInts Q).map (Value.int .i64))) ∧ Hid (Below w1.heap.size w1 wr) ∧ Hid (qb ≤ wr.heap.size) ∧ Hid (2 * (k - cntP D) + Q.length ≤ 2 * k + 1))
        (fun tv wr => 2 * (k - cntP (rdD wr ob k)) + lenOf tv)
      case atStart => exact ⟨D0, [s], HST, HO4, HQ4, HB4, Lib.hid (by have := (HQ4.out.lt _ rfl).2; have := (HQ4.out.lt _ rfl).1; omega), Lib.hid (by simp; omega)⟩
      case round =>
        clear HST HO4 HQ4 HB4
        obtain ⟨D, Q, HI, HO, HQ, HB, HSZ, HQL⟩ := hrel
        obtain ⟨tg, toff, tcap, rfl⟩ := HQ.out.shapeN
        rcases Q with _ | ⟨c0, Q⟩
        · simp only [List.length_nil]
          go_wp2_with fail
          go_ret
          refine ⟨ob, oc, D, rfl, by have := HS1.out; omega, ownsRow_base HO.out (by have := HS1.out; omega), HI.out.len, fun u hu => HI.out.done (fun x hx => by rw [HN.out]; exact HL.out x hx) hu, HB1.out.trans (HB.out.mono HB1.out.size)⟩
        · have hc0 := HQ.out.cell (j := 0) (u := .int .i64 (c0 : Int)) (by simp [natInts])
          rw [Nat.add_zero] at hc0
          have hcap := HQ.out.cap.1
          rw [List.length_map, natInts_length, List.length_cons] at hcap
          have hcapi : (1 : Int) ≤ (tcap : Int) := by omega
          have hlenb : Q.length + 1 ≤ tcap := hcap
          have hlen1 : (c0 :: Q).length = Q.length + 1 := rfl
          rw [hlen1]
          clear hlen1 hcap
          go_upto_region 10 with fail
          go_cut [9] (fun s9 wx => wx = wr ∧ QRow wr qb 2 s9 ((natInts Q).map (Value.int .i64)))
          case first =>
            by_cases h1 : tcap = 1
            · subst h1
              have hq0 : Q = [] := List.eq_nil_of_length_eq_zero (by omega)
              subst hq0
              go_wp2
              go_meet
              exact ⟨rfl, HQ.out.tail0⟩
            · go_wp2
              go_meet
              have := HQ.out.tail
              change QRow wr _ _ (.slice _ ((natInts Q).map (Value.int .i64)).length _) _ at this
              rw [List.length_map, natInts_length] at this
              exact ⟨rfl, this⟩
          case rest =>
          obtain ⟨rfl, hq⟩ := hcut
          have HI1 := Lib.hid HI.out.pop
          obtain ⟨tg1, toff1, tcap1, rfl⟩ := hq.shapeN
          have HQ1 := Lib.hid hq
          obtain ⟨hc0n, hc00, _⟩ := HI1.out.cur c0 rfl
          have HM0 : Hid (2 * (k - cntP (rdD wc ob k)) + (Q.length + 1) = 2 * (k - cntP D) + Q.length + 1) := Lib.hid (by rw [rd_own HO.out HI.out.len]; omega)
          clear hq hc0 hcapi hlenb HQ HI
          obtain ⟨M, hM⟩ : ∃ M, M = (row g c0).length := ⟨_, rfl⟩
          have HM := Lib.hid hM
          have hM16 : M ≤ 16 := by rw [hM]; exact gOk_row_le HOK.out c0 (by rw [← HN.out]; exact hc0n)
          clear hM
          go_wp2_with fail
          go_loopw [9, 11] (fun tv iv wx => ∃ (D2 : List Int) (Q2 : List Nat) (j : Nat), j ≤ M ∧ iv = .int .i64 (j : Int) ∧ Hid (BfI (ofG g) (· ∈ L) (row g) k s D2 Q2 (some c0) j) ∧ Hid (wx.ownsRow w1.heap.size 2 1 (.slice (some ⟨ob, 0, none⟩) k oc) k (D2.map (Value.int .i64))) ∧ Hid (QRow wx qb 2 tv ((natInts Q2).map (Value.int .i64))) ∧ Hid (Below w1.heap.size w1 wx) ∧ Hid (qb ≤ wx.heap.size) ∧ Hid (2 * (k - cntP D2) + Q2.length ≤ 2 * (k - cntP D) + Q.length))
            (fun _ iv _ => M - (intOf iv).toNat)
          case atStart => exact ⟨D, Q, 0, Nat.zero_le _, rfl, HI1, HO, HQ1, HB, HSZ, Lib.hid (Nat.le_refl _)⟩
          case round =>
            clear HI1 HO HQ1 HB HSZ
            obtain ⟨D2, Q2, j, hj, rfl, HI, HO, HQ, HB, HSZ, HLE⟩ := hrel
            obtain ⟨tg2, toff2, tcap2, rfl⟩ := HQ.out.shapeN
            have hcg := HB.out.at (by have := HS1.out; show w.heap.size < w1.heap.size; omega) HXg.out.cell
            obtain ⟨rb, ro, rp, rc, hpe, hrc, hrow⟩ := (HR.out.below HB.out).get (k := c0) (by rw [← HN.out]; exact hc0n)
            cases hpe
            have hlenr : (g.getD c0 []).length = M := HM.out.symm
            rw [hlenr] at hrc hrow
            have HROW := Lib.hid hrow
            have hc0i : (c0 : Int) < (k : Int) := by omega
            have hc00i : (0 : Int) ≤ (c0 : Int) := by omega
            clear hrow hlenr
            by_cases hlt2 : j < M
            · have hji : (j : Int) < (M : Int) := by omega
              have hj0 : (0 : Int) ≤ (j : Int) := by omega
              have hjr : j < (row g c0).length := by rw [← HM.out]; exact hlt2
              obtain ⟨eb, eo, rfl, hce0⟩ := HROW.out.get (k := j) hjr
              have hum : (row g c0)[j] ∈ row g c0 := List.getElem_mem hjr
              have hur := (HOK.out.sets c0 (by rw [← HN.out]; exact hc0n)).1.1 _ hum
              obtain ⟨t, ht⟩ := Int.eq_ofNat_of_zero_le hur.1
              have htn : t < k := by rw [HN.out]; omega
              have hce : wr.cell? ⟨eb, eo + j, none⟩ = some (.int .i64 (t : Int)) := by rw [← ht]; exact hce0
              have HJR := Lib.hid hjr
              have HTE : Hid ((t : Int) = (row g c0)[j]'(HJR.out)) := Lib.hid ht.symm
              have HADJ : Hid (ofG g c0 t = true) := Lib.hid (by unfold ofG; rw [← ht]; exact decide_eq_true hum)
              have hti : (t : Int) < (k : Int) := by omega
              have ht0 : (0 : Int) ≤ (t : Int) := by omega
              have HNUM := Lib.hid (HLN.out.below HB.out)
              clear hum hur ht hce0 hjr
              by_cases hw : t ∈ L
              case neg =>
                have HDW := Lib.hid (dec_false (show ¬ ((t : Int) ∈ natInts L) from fun h => hw (by
                  obtain ⟨i, h1, h2⟩ := mem_natInts.1 h
                  obtain rfl : i = t := by omega
                  exact h1)))
                have HI2 := Lib.hid (HI.out.skip HJR.out HTE.out htn (.inl hw))
                clear hw
                go_wp2_with (go_at_call 66; refine (l1Has_any _ _ _ _ HNUM.out).mono ?_; rintro e w4 ⟨he, hw4⟩; rw [HDW.out] at he; subst he; subst hw4)
                go_roundw
                case rel => exact ⟨D2, Q2, j + 1, by omega, by go_num, HI2, HO, HQ, HB, HSZ, HLE⟩
                case measure => simp [intOf]; omega
              have HDW := Lib.hid (dec_true (show ((t : Int) ∈ natInts L) from mem_natInts.2 ⟨t, hw, rfl⟩))
              have HW := Lib.hid hw
              clear hw
              have hct := own64_at HO.out HI.out.len htn
              have hcc := own64_at HO.out HI.out.len hc0n
              have hft := HO.out.frozenAt t
              obtain ⟨dt, hdt⟩ : ∃ dt, dt = D2.getD t 0 := ⟨_, rfl⟩
              obtain ⟨dc, hdc⟩ : ∃ dc, dc = D2.getD c0 0 := ⟨_, rfl⟩
              have hdcb : 0 ≤ dc ∧ dc ≤ 16 := by
                have h1 := (HI.out.cur c0 rfl).2.1
                have h2 := HI.out.bnd c0 hc0n
                have h3 := cntP_le D2
                have h4 := HI.out.len
                omega
              have hd0 := hdcb.1
              have hd16 := hdcb.2
              rw [← hdt] at hct
              rw [← hdc] at hcc
              have HDT := Lib.hid hdt
              have HDC := Lib.hid hdc
              clear hdt hdc
              by_cases hneg : dt < 0
              case neg =>
                have HI2 := Lib.hid (HI.out.skip HJR.out HTE.out htn (.inr (by rw [← HDT.out]; omega)))
                go_wp2_with (go_at_call 66; refine (l1Has_any _ _ _ _ HNUM.out).mono ?_; rintro e w4 ⟨he, hw4⟩; rw [HDW.out] at he; subst he; subst hw4)
                go_roundw
                case rel => exact ⟨D2, Q2, j + 1, by omega, by go_num, HI2, HO, HQ, HB, HSZ, HLE⟩
                case measure => simp [intOf]; omega
              obtain ⟨hadd, hcnt⟩ := HI.out.add HJR.out HTE.out htn HW.out (by rw [← HDT.out]; exact hneg) HADJ.out
              rw [← HDC.out] at hadd hcnt
              have HI2 := Lib.hid hadd
              have HCN := Lib.hid hcnt
              have HOS := Lib.hid (own64_set HO.out t (dc + 1))
              have HQS := Lib.hid (HQ.out.set HQB.out.1 t (.int .i64 (dc + 1)))
              have HBS : Hid (Below w1.heap.size w1 (wr.setCell ⟨ob, t, none⟩ (.int .i64 (dc + 1)))) := Lib.hid (HB.out.setCell (p := ⟨ob, t, none⟩) hobb _)
              have HSS : Hid (qb ≤ (wr.setCell ⟨ob, t, none⟩ (.int .i64 (dc + 1))).heap.size) := Lib.hid (by have := HSZ.out; simp [World.setCell]; exact this)
              have hQl : Q2.length ≤ 1000 := by
                have h1 := HLE.out
                have h2 := HQL.out
                rw [List.length_cons] at h2
                omega
              have HB2 : Hid (∀ W : World, (wr.setCell ⟨ob, t, none⟩ (.int .i64 (dc + 1))).grownBy W (some tg2) → Below w1.heap.size w1 W ∧ W.ownsRow w1.heap.size 2 1 (.slice (some ⟨ob, 0, none⟩) k oc) k ((D2.set t (dc + 1)).map (Value.int .i64)) ∧ qb ≤ W.heap.size) := Lib.hid fun W hg => by
                have hlt := HQS.out.lt tg2 rfl
                have h1 := HQB.out
                refine ⟨HQS.out.grow HBS.out hg h1.2 (Nat.le_trans h1.2 HSS.out), ownsRow_toD HOS.out fun b e => ?_, Nat.le_trans HSS.out hg.size⟩
                have hb : ob = b := by simpa [Value.ownBlock] using e
                subst hb
                exact hg.block ob (by omega) fun e => by have : tg2 = ob := by simpa using e.symm
                                                         omega
              clear hadd hcnt
              go_wp2_with (first
                | (go_at_call 66; refine (l1Has_any _ _ _ _ HNUM.out).mono ?_; rintro e w4 ⟨he, hw4⟩; rw [HDW.out] at he; subst he; subst hw4)
                | (at_builtin; refine wpList_appQ ty_i64 rfl rfl rfl rfl HQS.out (by rw [World.size_setCell]; rfl) rfl (by rw [List.length_map, natInts_length]; omega) HSS.out ?_; intro b7 o7 c8 w7 hq7 hg7 h7))
              go_roundw
              case rel =>
                obtain ⟨r1, r2, r3⟩ := HB2.out _ hg7
                refine ⟨_, Q2 ++ [t], j + 1, by omega, by go_num, HI2, Lib.hid r2, Lib.hid ?_, Lib.hid r1, Lib.hid r3, Lib.hid ?_⟩
                · have e : (natInts (Q2 ++ [t])).map (Value.int .i64) = (natInts Q2).map (Value.int .i64) ++ [Value.int .i64 (t : Int)] := by simp [natInts]
                  rw [e]
                  rw [List.length_map, natInts_length] at hq7
                  first | exact hq7 | (rw [natInts_length]; exact hq7) | (rw [List.length_map, natInts_length]; exact hq7)
                · have h1 := HLE.out
                  have h2 := HCN.out
                  have h3 := cntP_le (D2.set t (dc + 1))
                  have h4 := HI2.out.len
                  rw [List.length_append, List.length_cons, List.length_nil]
                  omega
              case measure => simp [intOf]; omega
            · obtain rfl : j = M := by omega
              have HI2 := Lib.hid (HI.out.fin (by rw [← HM.out]; exact Nat.le_refl _) fun x y e => by unfold ofG at e; exact of_decide_eq_true (p := ((y : Int) ∈ row g x)) e)
              have HRD := Lib.hid (rd_own HO.out HI.out.len)
              go_wp2_with fail
              go_roundw
              case rel => exact ⟨D2, Q2, HI2, HO, HQ, HB, HSZ, Lib.hid (by have h1 := HLE.out; have h2 := HQL.out; rw [List.length_cons] at h2; omega)⟩
              case measure =>
                have h1 := HLE.out
                have h2 := HM0.out
                rw [HRD.out]
                simp [lenOf]
                omega

end Go.Proofs.YtfokiijcpkhllaaDoor

/- Walks: l1Less, l12Bit, l12Set. -/
namespace Go.Proofs.YtfokiijcpkhllaaDoor
open Go.RowKit

theorem natInts_atL {l : List Nat} {k : Nat} (h : k < l.length) {h' : k < (natInts l).length} : (natInts l)[k] = ((l[k] : Nat) : Int) := by simp [natInts]
theorem lexL_at : ∀ (i : Nat) (a b : List Nat) (ha : i < a.length) (hb : i < b.length), a.take i = b.take i → a[i] ≠ b[i] → (lexL a b ↔ a[i] < b[i])
  | _, [], _, ha, _, _, _ => by simp at ha
  | _, _ :: _, [], _, hb, _, _ => by simp at hb
  | 0, x :: a, y :: b, _, _, _, hne => by
    simp only [List.getElem_cons_zero] at hne ⊢
    simp only [lexL]
    exact ⟨fun h => h.elim id fun h => absurd h.1 hne, .inl⟩
  | i + 1, x :: a, y :: b, ha, hb, ht, hne => by
    simp only [List.take_succ_cons, List.cons.injEq] at ht
    obtain ⟨rfl, ht⟩ := ht
    simp only [List.getElem_cons_succ] at hne ⊢
    simp only [lexL]
    rw [← lexL_at i a b (by simpa using ha) (by simpa using hb) ht hne]
    exact ⟨fun h => h.elim (fun h => absurd h (Nat.lt_irrefl _)) fun h => h.2, fun h => .inr ⟨trivial, h⟩⟩


theorem i64_and_nat (a b : Nat) (ha : a < 4294967296) (hb : b < 4294967296) : bits BinOp.and IntKind.i64 (a : Int) (b : Int) = ((a &&& b : Nat) : Int) :=
  (bits_nat .i64 32 (by decide) (fun n h1 h2 => by rw [IntKind.wrap_i64]; omega) a b (by omega) (by omega)).1

theorem wrap_pow (v : Nat) (hv : v < 32) : wrap64 (2 ^ v) = ((2 ^ v : Nat) : Int) := by
  have h1 := pow_lt32 v hv
  have e : (2 ^ v : Int) = ((2 ^ v : Nat) : Int) := by simp
  rw [e]
  generalize (2 ^ v : Nat) = t at *
  unfold wrap64
  omega
set_option maxHeartbeats 400000 in
theorem l12Bit_any (z : Int) (v : Nat) (hz : z = v) (hv : v < 32) (w : World) :
    Calls Tryd.prog 51 #[.int .i64 z] w fun e w' => e = .returned (.int .i64 ((2 ^ v : Nat) : Int)) ∧ w = w' := by
  subst hz
  have HB : Hid (wrap64 (2 ^ v) = ((2 ^ v : Nat) : Int)) := Lib.hid (wrap_pow v hv)
  go_enter Tryd.func51, Tryd.ntmps51
  go_wp2
  go_ret
  refine ⟨?_, rfl⟩
  rw [← HB.out]
  rfl

theorem bit_ne (s k : Nat) (hs : s < 65536) (hk : k < 17) : (bits BinOp.and IntKind.i64 (s : Int) ((2 ^ k : Nat) : Int) != 0) = s.testBit k := by
  have h1 := pow_lt32 k (by omega)
  rw [i64_and_nat _ _ (by omega) h1, Bool.eq_iff_iff]
  constructor
  · intro h
    refine Decidable.byContradiction fun hn => ?_
    have h0 : s &&& 2 ^ k = 0 := Nat.eq_of_testBit_eq fun j => by
      rw [Nat.testBit_and, Nat.testBit_two_pow, Nat.zero_testBit]
      by_cases hj : k = j
      · subst hj
        simpa using hn
      · simp [hj]
    rw [h0] at h
    simp at h
  · intro h
    have h0 : s &&& 2 ^ k ≠ 0 := fun h0 => by
      have := congrArg (fun z => z.testBit k) h0
      simp [h] at this
    simp only [bne_iff_ne, ne_eq]
    omega



def lowB (s k : Nat) : List Nat := (List.range k).filter fun i => s.testBit i
theorem lowB_len (s k : Nat) : (lowB s k).length ≤ k := Nat.le_trans (List.length_filter_le _ _) (by simp)
theorem lowB_yes {s k : Nat} (h : s.testBit k = true) : lowB s (k + 1) = lowB s k ++ [k] := by simp [lowB, List.range_succ, h]
theorem lowB_no {s k : Nat} (h : s.testBit k = false) : lowB s (k + 1) = lowB s k := by simp [lowB, List.range_succ, h]
theorem lowB_end {s k : Nat} (hs : s < 2 ^ k) (hk : k ≤ 32) : lowB s k = bitsOf s :=
  rising_ext _ _ (List.Pairwise.filter _ List.pairwise_lt_range) (bitsOf_rising s) fun x => by
    rw [mem_bitsOf, lowB, List.mem_filter, List.mem_range]
    constructor
    · rintro ⟨a, b⟩
      exact ⟨by omega, b⟩
    · rintro ⟨a, b⟩
      refine ⟨Nat.lt_of_not_le fun hge => ?_, b⟩
      have := Nat.testBit_lt_two_pow (Nat.lt_of_lt_of_le hs (Nat.pow_le_pow_right (by decide) hge) : s < 2 ^ x)
      rw [this] at b
      exact nomatch b

set_option maxRecDepth 100000 in
set_option maxHeartbeats 1000000 in
theorem l12Set_any (z : Int) (s : Nat) (hz : z = s) (hs : s < 65536) (w : World) :
    Calls Tryd.prog 52 #[.int .i64 z] w fun e w' => ∃ ov, e = .returned ov ∧ w'.ownsRow w.heap.size 2 1 ov (bitsOf s).length ((natInts (bitsOf s)).map (Value.int .i64)) ∧ Below w.heap.size w w' := by
  subst hz
  have HO := Lib.hid (ownsRow_empty w 2 1)
  have HB := Lib.hid (below_alloc w (.cells #[] 2))
  have HS := Lib.hid hs
  clear hs
  go_enter Tryd.func52, Tryd.ntmps52
  go_wp2
  go_loopw [3, 4] (fun o i wr => ∃ k : Nat, k ≤ 16 ∧ i = .int .i64 k ∧ wr.ownsRow w.heap.size 2 1 o (lowB s k).length ((natInts (lowB s k)).map (Value.int .i64)) ∧ Below w.heap.size w wr) (fun _ i _ => 16 - (intOf i).toNat)
  case atStart => exact ⟨0, Nat.zero_le _, rfl, HO.out, HB.out⟩
  case round =>
    obtain ⟨k, hk, rfl, hown, hbel⟩ := hrel
    have hsz := hbel.size
    have hll := lowB_len s k
    obtain ⟨t, ht⟩ : ∃ t, t = 2 ^ k := ⟨_, rfl⟩
    have HT := Lib.hid ht
    by_cases hle : t ≤ s
    · have hk16 : k < 16 := by
        refine Nat.lt_of_not_le fun h => ?_
        have h1 : 2 ^ 16 ≤ 2 ^ k := Nat.pow_le_pow_right (by decide) h
        have := HS.out
        omega
      have hbit := bit_ne s k HS.out (by omega)
      rw [← ht] at hbit
      clear ht
      have e1 : (t : Int) ≤ (s : Int) := by omega
      cases hb : s.testBit k
      · rw [hb] at hbit
        have Hb := Lib.hid hb
        clear hb
        go_wp2_with (go_at_call 51; refine (l12Bit_any _ k rfl (by omega) _).mono ?_; rintro e w4 ⟨he, hw4⟩; rw [← HT.out] at he; subst he; subst hw4)
        go_roundw
        case rel => exact ⟨k + 1, by omega, by go_num, by rw [lowB_no Hb.out]; exact hown, hbel⟩
        case measure => simp [intOf]; omega
      · rw [hb] at hbit
        have Hb := Lib.hid hb
        clear hb
        go_wp2_with (first
          | (go_at_call 51; refine (l12Bit_any _ k rfl (by omega) _).mono ?_; rintro e w4 ⟨he, hw4⟩; rw [← HT.out] at he; subst he; subst hw4)
          | (at_builtin; refine wpList_app1 ty_i64 rfl rfl rfl hown rfl rfl (by omega) (by omega) ?_; intro v' w1 hown' hg _))
        go_roundw
        case rel => exact ⟨k + 1, by omega, by go_num, by rw [lowB_yes Hb.out, show natInts (lowB s k ++ [k]) = natInts (lowB s k) ++ [(k : Int)] by simp [natInts], List.map_append, List.length_append]; exact hown', below_grown hbel hown hg (Nat.le_refl _) hsz⟩
        case measure => simp [intOf]; omega
    · have hend := Lib.hid (lowB_end (s := s) (k := k) (by omega) (by omega))
      clear ht
      go_wp2_with (go_at_call 51; refine (l12Bit_any _ k rfl (by omega) _).mono ?_; rintro e w4 ⟨he, hw4⟩; rw [← HT.out] at he; subst he; subst hw4)
      go_ret
      exact ⟨_, rfl, by rw [← hend.out]; exact hown, hbel⟩

end Go.Proofs.YtfokiijcpkhllaaDoor
