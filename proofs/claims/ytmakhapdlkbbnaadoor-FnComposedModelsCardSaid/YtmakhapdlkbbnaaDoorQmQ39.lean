/- Walks: how the program tells a model. -/
import Derived.Test.YtmakhapdlkbbnaaDoorQmQ32
import Derived.Test.YtmakhapdlkbbnaaDoorQmQ29
namespace Go.Proofs.YtmakhapdlkbbnaaDoor
open Go.RowKit

/-- What the closure reads: the graph's sets of neighbours, and the model's sets. -/
structure MdB (w : World) (g M : List (List Int)) (bn bs : Nat) (xp sp : Option Addr) (xc sc : Nat) : Prop where
  boxN : Box w bn 76 (.slice xp g.length xc)
  ne : NE w (.slice xp g.length xc) g.length (ofG g)
  boxS : Box w bs 75 (.slice sp M.length sc)
  sl : Sl w 79 (.slice sp M.length sc) M.length ((M.map mask).map u32v)
  tab : Tab w
  ok : GOk g
  sets : ∀ a, a < M.length → SetIn g.length (row M a)
section
variable {w w' : World} {g M : List (List Int)} {bn bs : Nat} {xp sp : Option Addr} {xc sc : Nat}
theorem MdB.next (h : MdB w g M bn bs xp sp xc sc) (hb : Below w.heap.size w w') : MdB w' g M bn bs xp sp xc sc :=
  ⟨h.boxN.keep hb, h.ne.next hb, h.boxS.keep hb, h.sl.below hb, h.tab.keep hb, h.ok, h.sets⟩
theorem set_mask {n : Nat} {s : List Int} (hn : n ≤ 16) (h : SetIn n s) : mask s < 65536 ∧ ∀ i, (mask s).testBit i = true → i < n := by
  have k := bit_mask fun x hx => (h.1 x hx).1
  refine ⟨mask_lt16 _ fun x hx => by have := (h.1 x hx).2; omega, fun i hi => ?_⟩
  have := h.1 _ ((k i).1 hi)
  omega
theorem MdB.get (h : MdB w g M bn bs xp sp xc sc) {a : Nat} (ha : a < M.length) : ∃ qb qo, sp = some ⟨qb, qo, none⟩ ∧ w.cell? ⟨qb, qo + a, none⟩ = some (.int .u32 (mask (row M a) : Nat)) := by
  have hl2 : (M.map mask).length = M.length := List.length_map ..
  have hsl := h.sl
  rw [← hl2] at hsl
  obtain ⟨qb, qo, e, hq⟩ := nets_cell hsl (v := a) (by rw [hl2]; exact ha)
  have e1 : (M.map mask)[a]'(by rw [hl2]; exact ha) = mask (row M a) := by simp [row, ha]
  rw [e1] at hq
  exact ⟨qb, qo, e, hq⟩
end

set_option maxRecDepth 100000 in
set_option maxHeartbeats 2000000 in
theorem mdE_any (ev : Value) (a b : Nat) (g M : List (List Int)) (bn bs : Nat) (xp sp : Option Addr) (xc sc : Nat) (ha : a < M.length) (hb : b < M.length) (w : World) (hn : Nums w 2 .i64 ev [(a : Int), (b : Int)]) (hB : MdB w g M bn bs xp sp xc sc) :
    Calls Tryd.prog 145 #[ev, .pointer (some ⟨bn, 0, none⟩), .pointer (some ⟨bs, 0, none⟩)] w fun e w' => e = .returned (.bool (!dec (JoinP g (row M a) (row M b)))) ∧ Below w.heap.size w w' := by
  obtain ⟨rp, rc, rfl, _⟩ := id hn.shape
  obtain ⟨rb, ro, rfl, hc0⟩ := hn.get (k := 0) (by simp)
  obtain ⟨_, _, e1, hc1⟩ := hn.get (k := 1) (by simp)
  cases e1
  simp only [List.getElem_cons_zero, List.getElem_cons_succ, Nat.add_zero] at hc0 hc1
  have hcn := hB.boxN.cell
  have hcs := hB.boxS.cell
  obtain ⟨qb, qo, rfl, hca⟩ := hB.get ha
  obtain ⟨_, _, e2, hcb⟩ := hB.get hb
  cases e2
  have h16 := hB.ok.le
  have hA16 := set_mask h16 (hB.sets a ha)
  have hB16 := set_mask h16 (hB.sets b hb)
  have HD : Hid (dec (JnM (ofG g) (mask (row M a)) (mask (row M b))) = dec (JoinP g (row M a) (row M b))) := Lib.hid (dec_congr (joinM_iff hB.ok (hB.sets a ha) (hB.sets b hb)))
  obtain ⟨ma, hma⟩ : ∃ ma, ma = mask (row M a) := ⟨_, rfl⟩
  obtain ⟨mb, hmb⟩ : ∃ mb, mb = mask (row M b) := ⟨_, rfl⟩
  rw [← hma] at hca hA16 HD
  rw [← hmb] at hcb hB16 HD
  have HA := Lib.hid hA16
  have HBB := Lib.hid hB16
  have HNE := Lib.hid hB.ne
  have HT := Lib.hid hB.tab
  clear hn hB hA16 hB16 hma hmb
  go_enter Tryd.func145, Tryd.ntmps145
  go_upto_region 1 with fail
  go_region_held3 (fun w' => w'.cell? ⟨bn, 0, none⟩ = some (.slice xp g.length xc) ∧ w'.cell? ⟨bs, 0, none⟩ = some (.slice (some ⟨qb, qo, none⟩) M.length sc) ∧ w'.cell? ⟨rb, ro, none⟩ = some (.int .i64 a) ∧ w'.cell? ⟨rb, ro + 1, none⟩ = some (.int .i64 b) ∧ w'.cell? ⟨qb, qo + a, none⟩ = some (.int .u32 (ma : Int)) ∧ w'.cell? ⟨qb, qo + b, none⟩ = some (.int .u32 (mb : Int)))
    (first | exact ⟨hcn, hcs, hc0, hc1, hca, hcb⟩ | exact ⟨hb4'.at' hcn, hb4'.at' hcs, hb4'.at' hc0, hb4'.at' hc1, hb4'.at' hca, hb4'.at' hcb⟩ | go_keep)
    (first | (go_at_call 137; refine (areJoined_any _ _ _ g.length (ofG g) ma mb rfl rfl HA.out.1 HBB.out.1 HA.out.2 HBB.out.2 _ (HNE.out.next (below_dN (Below.refl _ _) 1)) (HT.out.keep (below_dN (Below.refl _ _) 1))).mono ?_; rintro e w4 ⟨he4, hb4⟩; rw [HD.out] at he4; subst he4; have hb4' : Below w.heap.size w w4 := (below_dN (Below.refl _ _) 1).trans hb4))
  all_goals go_wp2
  all_goals go_ret
  all_goals exact ⟨rfl, hb4'⟩

set_option maxRecDepth 100000 in
set_option maxHeartbeats 2000000 in
theorem indexMd_any (lv : Value) (base : Nat) (l : List (Nat × Nat)) (g M : List (List Int)) (bn bs : Nat) (xp sp : Option Addr) (xc sc : Nat) (hl : ∀ e ∈ l, e.1 < M.length ∧ e.2 < M.length) (h256 : l.length ≤ 256) (w : World) (hn : PrsO w base lv l) (hB : MdB w g M bn bs xp sp xc sc) :
    Calls Tryd.prog 203 #[lv, .func (.func 145) #[] #[.pointer (some ⟨bn, 0, none⟩), .pointer (some ⟨bs, 0, none⟩)]] w fun e w' =>
      ∃ z : Int, e = .returned (.int .i64 z) ∧ (0 ≤ z ↔ ∃ e ∈ l, ¬ JoinP g (row M e.1) (row M e.2)) ∧ Below w.heap.size w w' := by
  obtain ⟨lp, lc, rfl⟩ := hn.shape
  have HN := Lib.hid hn
  have HB := Lib.hid hB
  have HL := Lib.hid hl
  clear hn hB hl
  go_enter Tryd.func203, Tryd.ntmps203
  go_wp2
  go_loopw [8] (fun i wr => ∃ k : Nat, k ≤ l.length ∧ i = .int .i64 k ∧ Hid (∀ e ∈ l.take k, JoinP g (row M e.1) (row M e.2)) ∧ Below w.heap.size w wr) (fun i _ => l.length - (intOf i).toNat)
  case atStart => exact ⟨0, Nat.zero_le _, rfl, Lib.hid (fun v hv => by simp at hv), Below.refl _ _⟩
  case round =>
    obtain ⟨k, hk, rfl, HNO, hb⟩ := hrel
    have HBW := Lib.hid hb
    by_cases hlt : k < l.length
    · obtain ⟨eb, eo, rp, rc, rfl, hce, hne⟩ := (HN.out.below hb).get hlt
      obtain ⟨⟨a, b⟩, hab⟩ : ∃ e : Nat × Nat, e = l[k] := ⟨_, rfl⟩
      have HMEM := Lib.hid (show (a, b) ∈ l by rw [hab]; exact List.getElem_mem hlt)
      have HTK : Hid (l.take (k + 1) = l.take k ++ [(a, b)]) := Lib.hid (by rw [take_snoc' l k hlt, hab])
      rw [← hab] at hne
      have hin := HL.out _ HMEM.out
      simp only at hne hin
      have HNE := Lib.hid hne
      clear hab hb hne
      by_cases hj : JoinP g (row M a) (row M b)
      · have HJV := Lib.hid hj
        have hd := Lib.hid (dec_true hj)
        clear hj
        go_wp2_with (go_at_call 145; refine (mdE_any _ a b g M bn bs xp sp xc sc hin.1 hin.2 _ HNE.out (HB.out.next HBW.out)).mono ?_; rintro e w2 ⟨he, hb2⟩; rw [hd.out] at he; subst he)
        go_roundw
        case rel => exact ⟨k + 1, by omega, by go_num, Lib.hid (fun x hx => by
          rw [HTK.out] at hx
          rcases List.mem_append.1 hx with h | h
          · exact HNO.out x h
          · obtain rfl : x = (a, b) := by simpa using h
            exact HJV.out), HBW.out.trans (hb2.mono HBW.out.size)⟩
        case measure => simp [intOf]; omega
      · have HJV := Lib.hid hj
        have hd := Lib.hid (dec_false hj)
        clear hj
        go_wp2_with (go_at_call 145; refine (mdE_any _ a b g M bn bs xp sp xc sc hin.1 hin.2 _ HNE.out (HB.out.next HBW.out)).mono ?_; rintro e w2 ⟨he, hb2⟩; rw [hd.out] at he; subst he)
        go_ret
        exact ⟨k, rfl, ⟨fun _ => ⟨(a, b), HMEM.out, HJV.out⟩, fun _ => by omega⟩, HBW.out.trans (hb2.mono HBW.out.size)⟩
    · obtain rfl : k = l.length := by omega
      clear hb
      go_wp2
      go_ret
      exact ⟨-1, rfl, ⟨fun h => by omega, fun ⟨v, h1, h2⟩ => absurd (HNO.out v (by rw [List.take_length]; exact h1)) h2⟩, HBW.out⟩

set_option maxRecDepth 100000 in
set_option maxHeartbeats 1000000 in
theorem containsMd_any (lv : Value) (base : Nat) (l : List (Nat × Nat)) (g M : List (List Int)) (bn bs : Nat) (xp sp : Option Addr) (xc sc : Nat) (hl : ∀ e ∈ l, e.1 < M.length ∧ e.2 < M.length) (h256 : l.length ≤ 256) (w : World) (hn : PrsO w base lv l) (hB : MdB w g M bn bs xp sp xc sc) :
    Calls Tryd.prog 143 #[lv, .func (.func 145) #[] #[.pointer (some ⟨bn, 0, none⟩), .pointer (some ⟨bs, 0, none⟩)]] w fun e w' =>
      e = .returned (.bool (dec (∃ e ∈ l, ¬ JoinP g (row M e.1) (row M e.2)))) ∧ Below w.heap.size w w' := by
  have HN := Lib.hid hn
  have HB := Lib.hid hB
  clear hn hB
  go_enter Tryd.func143, Tryd.ntmps143
  go_wp2_with (go_at_call 203; refine (indexMd_any _ base l g M bn bs xp sp xc sc hl h256 _ HN.out HB.out).mono ?_; rintro e w2 ⟨z, rfl, hz, hb2⟩; have HZ := Lib.hid hz; clear hz)
  go_ret
  exact ⟨ret_bool (decide_dec_iff HZ.out), hb2⟩

end Go.Proofs.YtmakhapdlkbbnaaDoor

/- Walk: the program's ModelOk. -/
namespace Go.Proofs.YtmakhapdlkbbnaaDoor
open Go.RowKit

set_option maxRecDepth 100000 in
set_option maxHeartbeats 4000000 in
theorem implModelOk_any (v pv mv : Value) (g q M : List (List Int)) (hgl : g.length ≤ 1000000000) (w : World) (hg : Gr w v g) (hq : Gr w pv q) (hm : Gr w mv M) (hT : Tab w) :
    Calls Tryd.prog 55 #[v, pv, mv] w fun e w' => e = .returned (.bool (dec (MdOk g q M))) ∧ Below w.heap.size w w' := by
  have hg0 := Lib.hid hg
  have hq0 := Lib.hid hq
  have hm0 := Lib.hid hm
  obtain ⟨u, rfl, hr⟩ := hg
  obtain ⟨p, c, rfl, _⟩ := hr.shape
  obtain ⟨u, rfl, hqr⟩ := hq
  obtain ⟨pp, pc, rfl, _, hpc, hpl⟩ := hqr.shape
  obtain ⟨mu, rfl, hs⟩ := hm
  obtain ⟨sp, sc, rfl, _, hsc, hsl⟩ := hs.shape
  obtain ⟨W0, hW0, hbA, SZ0, BX, BP, BY⟩ := three_boxesM w (.slice p g.length c) (.slice pp q.length pc) (.slice sp M.length sc) 29 29 54
  have HBA := Lib.hid hbA
  have HSZ := Lib.hid SZ0
  have HX := Lib.hid BX
  have HP := Lib.hid BP
  have HY := Lib.hid BY
  have HG := Lib.hid (hg0.out.below hbA)
  have HQ := Lib.hid (hq0.out.below hbA)
  have HM := Lib.hid (hm0.out.below hbA)
  have HT := Lib.hid (hT.keep hbA)
  clear hr hg0 hq0 hm0 hqr hs hbA SZ0 BX BP BY hT
  by_cases hw : MdW g M
  case neg =>
    have hd := Lib.hid (dec_false hw)
    have HD := Lib.hid (dec_false (show ¬ MdOk g q M from fun h => hw h.1.1.1))
    clear hw
    go_enter Tryd.func55, Tryd.ntmps55
    go_upto_region 1 with fail
    rw [← hW0]
    clear hW0
    have hcx := HX.out.cell
    have hcy := HY.out.cell
    go_wp2_with (go_at_call 129; refine (modelMasks_any _ _ g M hgl _ HG.out HM.out).mono ?_; rintro e w2 ⟨ov, he, ⟨op, ok, oc, rfl⟩, _, hb2⟩; rw [hd.out] at he; subst he)
    go_ret
    have h0 := HBA.out.size
    have hb := HBA.out.trans (hb2.mono h0)
    first
      | exact ⟨by rw [HD.out]; rfl, hb.alloc hb.size _⟩
      | exact ⟨by rw [HD.out]; rfl, (hb.alloc hb.size _).setCell (by show w.heap.size ≤ w2.heap.size; exact hb.size) _⟩
  have hd := Lib.hid (dec_true hw)
  have HW := Lib.hid hw
  clear hw
  by_cases hpo : GOk q
  case neg =>
    have hd2 := Lib.hid (dec_false hpo)
    have HD := Lib.hid (dec_false (show ¬ MdOk g q M from fun h => hpo h.1.1.2))
    clear hpo
    go_enter Tryd.func55, Tryd.ntmps55
    go_upto_region 1 with fail
    rw [← hW0]
    clear hW0
    have hcx := HX.out.cell
    have hcy := HY.out.cell
    go_upto_region 2 with (go_at_call 129; refine (modelMasks_any _ _ g M hgl _ HG.out HM.out).mono ?_; rintro e w2 ⟨ov, he, ⟨op, ok, oc, rfl⟩, hov, hb2⟩; rw [hd.out] at he; subst he)
    have hown := hov HW.out
    obtain ⟨_, _, eov⟩ := owns_shapeE hown
    simp only [Value.slice.injEq] at eov
    obtain ⟨e1, rfl, e3⟩ := eov
    clear e1 e3
    obtain ⟨W3, hW3⟩ : ∃ W3, W3 = w2.alloc (.cells #[.slice op M.length oc] 75) := ⟨_, rfl⟩
    rw [← hW3]
    have hb3 : Below w2.heap.size w2 W3 := by rw [hW3]; exact below_alloc _ _
    have HB3 := Lib.hid (hb2.trans (hb3.mono hb2.size))
    have BS : Hid (Box W3 w2.heap.size 75 (.slice op M.length oc)) := Lib.hid (by rw [hW3]; exact Box.new _ _ _)
    have SL := Lib.hid (Sl.of_owns (ownsRow_below hown hb3) (by have := HW.out.1.2; omega))
    obtain ⟨bs, hbs⟩ : ∃ bs, bs = w2.heap.size := ⟨_, rfl⟩
    rw [← hbs] at BS ⊢
    have hcp := (HP.out.keep HB3.out).cell
    clear hcx hcy hov hown hb2 hb3 hW3 hbs
    go_wp2_with (go_at_call 80; refine (implGraphOk_any _ q _ (HQ.out.below HB3.out)).mono ?_; rintro e w4 ⟨he, hb4⟩; rw [hd2.out] at he; subst he)
    go_ret
    exact ⟨by rw [HD.out]; rfl, HBA.out.trans ((HB3.out.trans (hb4.mono HB3.out.size)).mono HBA.out.size)⟩
  have hd2 := Lib.hid (dec_true hpo)
  have HPO := Lib.hid hpo
  clear hpo
  by_cases hln : M.length = q.length
  case neg =>
    have HD := Lib.hid (dec_false (show ¬ MdOk g q M from fun h => hln h.1.2))
    have hln' : ¬ (M.length : Int) = (q.length : Int) := by omega
    clear hln
    go_enter Tryd.func55, Tryd.ntmps55
    go_upto_region 1 with fail
    rw [← hW0]
    clear hW0
    have hcx := HX.out.cell
    have hcy := HY.out.cell
    go_upto_region 2 with (go_at_call 129; refine (modelMasks_any _ _ g M hgl _ HG.out HM.out).mono ?_; rintro e w2 ⟨ov, he, ⟨op, ok, oc, rfl⟩, hov, hb2⟩; rw [hd.out] at he; subst he)
    have hown := hov HW.out
    obtain ⟨_, _, eov⟩ := owns_shapeE hown
    simp only [Value.slice.injEq] at eov
    obtain ⟨e1, rfl, e3⟩ := eov
    clear e1 e3
    obtain ⟨W3, hW3⟩ : ∃ W3, W3 = w2.alloc (.cells #[.slice op M.length oc] 75) := ⟨_, rfl⟩
    rw [← hW3]
    have hb3 : Below w2.heap.size w2 W3 := by rw [hW3]; exact below_alloc _ _
    have HB3 := Lib.hid (hb2.trans (hb3.mono hb2.size))
    have BS : Hid (Box W3 w2.heap.size 75 (.slice op M.length oc)) := Lib.hid (by rw [hW3]; exact Box.new _ _ _)
    have SL := Lib.hid (Sl.of_owns (ownsRow_below hown hb3) (by have := HW.out.1.2; omega))
    obtain ⟨bs, hbs⟩ : ∃ bs, bs = w2.heap.size := ⟨_, rfl⟩
    rw [← hbs] at BS ⊢
    have hcp := (HP.out.keep HB3.out).cell
    clear hcx hcy hov hown hb2 hb3 hW3 hbs
    go_wp2_with (go_at_call 80; refine (implGraphOk_any _ q _ (HQ.out.below HB3.out)).mono ?_; rintro e w4 ⟨he, hb4⟩; rw [hd2.out] at he; subst he; have hcp4 := hb4.at' hcp; have hcs4 := (BS.out.keep hb4).cell)
    go_ret
    exact ⟨by rw [HD.out]; rfl, HBA.out.trans ((HB3.out.trans (hb4.mono HB3.out.size)).mono HBA.out.size)⟩
  have HLN := Lib.hid hln
  have HTRI : Hid ((MdW g M ∧ GOk q) ∧ M.length = q.length) := Lib.hid ⟨⟨HW.out, HPO.out⟩, hln⟩
  have hln1 : (!((M.length : Int) == (q.length : Int))) = false := by rw [hln]; simp
  have hln2 : ((M.length : Int) != (q.length : Int)) = false := by rw [hln]; simp
  obtain ⟨el, hel⟩ : ∃ el, el = edN q.length (ofG q) q.length := ⟨_, rfl⟩
  have HLE : Hid (el.length ≤ 256) := Lib.hid (by
    rw [hel]
    have h16 := HPO.out.le
    have := edN_length q.length (ofG q) q.length
    have : q.length * q.length ≤ 16 * 16 := Nat.mul_le_mul h16 h16
    omega)
  have EDG : Hid (∀ (wz : World) (vz : Value), Gr wz vz q → Calls Tryd.prog 144 #[vz] wz fun e w' => ∃ u : Value, e = .returned u ∧ PrsO w' wz.heap.size u el ∧ Below wz.heap.size wz w') := Lib.hid (fun wz vz hz => by rw [hel]; exact edgesC_any _ q HPO.out _ hz)
  have HEL : Hid (∀ e ∈ el, e.1 < M.length ∧ e.2 < M.length) := Lib.hid (fun e he => by
    rw [hel] at he
    obtain ⟨h1, h2, _⟩ := mem_edN (Nat.le_refl _) he
    rw [HLN.out]
    exact ⟨h1, h2⟩)
  have HFIN : Hid ((∀ a, a < M.length → ConnS g (row M a)) → (!dec (∃ e ∈ el, ¬ JoinP g (row M e.1) (row M e.2))) = dec (MdOk g q M)) := Lib.hid (fun h1 => by
    by_cases h : ∃ e ∈ el, ¬ JoinP g (row M e.1) (row M e.2)
    · obtain ⟨e, he, h2⟩ := id h
      rw [dec_true h, dec_false (show ¬ MdOk g q M from fun k => h2 (k.2.2 e (by rw [← hel]; exact he)))]; rfl
    · rw [dec_false h, dec_true (show MdOk g q M from ⟨HTRI.out, h1, fun e he => Classical.byContradiction fun k => h ⟨e, by rw [hel]; exact he, k⟩⟩)]; rfl)
  have HNOT : Hid (∀ a, a < M.length → ¬ ConnS g (row M a) → ¬ MdOk g q M) := Lib.hid (fun a ha h1 h => h1 (h.2.1 a ha))
  have h16 := HW.out.1.1.le
  clear hln hel
  go_enter Tryd.func55, Tryd.ntmps55
  go_upto_region 1 with fail
  rw [← hW0]
  clear hW0
  have hcx := HX.out.cell
  have hcy := HY.out.cell
  go_upto_region 2 with (go_at_call 129; refine (modelMasks_any _ _ g M hgl _ HG.out HM.out).mono ?_; rintro e w2 ⟨ov, he, ⟨op, ok, oc, rfl⟩, hov, hb2⟩; rw [hd.out] at he; subst he)
  have hown := hov HW.out
  obtain ⟨_, _, eov⟩ := owns_shapeE hown
  simp only [Value.slice.injEq] at eov
  obtain ⟨e1, rfl, e3⟩ := eov
  clear e1 e3
  obtain ⟨W3, hW3⟩ : ∃ W3, W3 = w2.alloc (.cells #[.slice op M.length oc] 75) := ⟨_, rfl⟩
  rw [← hW3]
  have hb3 : Below w2.heap.size w2 W3 := by rw [hW3]; exact below_alloc _ _
  have HB3 := Lib.hid (hb2.trans (hb3.mono hb2.size))
  have BS : Hid (Box W3 w2.heap.size 75 (.slice op M.length oc)) := Lib.hid (by rw [hW3]; exact Box.new _ _ _)
  have SL := Lib.hid (Sl.of_owns (ownsRow_below hown hb3) (by have := HW.out.1.2; omega))
  obtain ⟨bs, hbs⟩ : ∃ bs, bs = w2.heap.size := ⟨_, rfl⟩
  rw [← hbs] at BS ⊢
  have hcp := (HP.out.keep HB3.out).cell
  clear hcx hcy hov hown hb2 hb3 hW3 hbs
  go_upto_region 5 with (first
    | (go_at_call 80; refine (implGraphOk_any _ q _ (HQ.out.below HB3.out)).mono ?_; rintro e w4 ⟨he, hb4⟩; rw [hd2.out] at he; subst he; have hcp4 := hb4.at' hcp; have hcs4 := (BS.out.keep hb4).cell; have hcx4 := ((HX.out.keep HB3.out).keep hb4).cell)
    | (go_at_call 82; refine (netsOf_any _ g _ ((HG.out.below HB3.out).below hb4) HW.out.1.1).mono ?_; rintro e w5 ⟨x, rfl, hown5, hb5⟩; obtain ⟨xp, xc, rfl⟩ := owns_shapeE hown5))
  obtain ⟨W6, hW6⟩ : ∃ W6, W6 = w5.alloc (.cells #[.slice xp g.length xc] 76) := ⟨_, rfl⟩
  rw [← hW6]
  have hb6 : Below w5.heap.size w5 W6 := by rw [hW6]; exact below_alloc _ _
  have hb56 : Below w4.heap.size w4 W6 := hb5.trans (hb6.mono hb5.size)
  have hb36 : Below W3.heap.size W3 W6 := hb4.trans (hb56.mono hb4.size)
  have HB6 := Lib.hid (HB3.out.trans (hb36.mono HB3.out.size))
  have HMD : Hid (MdB W6 g M w5.heap.size bs xp op xc oc) := Lib.hid
    ⟨by rw [hW6]; exact Box.new _ _ _, ⟨h16, by rw [indN_ofG HW.out.1.1]; exact Sl.of_owns (ownsRow_below hown5 hb6) (by omega)⟩, BS.out.keep hb36, SL.out.below hb36, HT.out.keep HB6.out, HW.out.1.1, fun a ha => (HW.out.2 a ha).1⟩
  obtain ⟨bn, hbn⟩ : ∃ bn, bn = w5.heap.size := ⟨_, rfl⟩
  rw [← hbn] at HMD ⊢
  have hM16 := HW.out.1.2
  have hcs6 := HMD.out.boxS.cell
  clear hcp hcp4 hcs4 hcx4 hb4 hb5 hb6 hb56 hb36 hown5 hW6 hbn hln1 hln2
  go_wp2_with fail
  go_loopw [37] (fun iv wr => ∃ i : Nat, i ≤ M.length ∧ iv = .int .i64 i ∧ Hid (∀ a, a < i → ConnS g (row M a)) ∧ Below W6.heap.size W6 wr) (fun iv _ => M.length - (intOf iv).toNat)
  case atStart => exact ⟨0, Nat.zero_le _, rfl, Lib.hid (fun a ha => absurd ha (Nat.not_lt_zero _)), Below.refl _ _⟩
  case round =>
    clear hcs6
    obtain ⟨i, hi, rfl, HCN, hb⟩ := hrel
    have HB := Lib.hid hb
    have HMR := Lib.hid (HMD.out.next hb)
    have hcn := HMR.out.boxN.cell
    by_cases hlt : i < M.length
    · obtain ⟨qb, qo, rfl, hq⟩ := HMR.out.get hlt
      have hset := HMD.out.sets i hlt
      obtain ⟨m, hm⟩ : ∃ m, m = mask (row M i) := ⟨_, rfl⟩
      have HSM : Hid (m < 65536 ∧ ∀ t, m.testBit t = true → t < g.length) := Lib.hid (by rw [hm]; exact set_mask h16 hset)
      have HDC : Hid (dec (ConnL (ofG g) (bitsOf m)) = dec (ConnS g (row M i))) := Lib.hid (by
        rw [hm, bits_maskS h16 hset]
        exact dec_congr ⟨fun h => ⟨⟨HMD.out.ok, hset⟩, h⟩, fun h => h.2⟩)
      rw [← hm] at hq
      clear hb hset hm
      by_cases hc : ConnS g (row M i)
      case neg =>
        have hdc := Lib.hid (dec_false hc)
        have HNB := Lib.hid (dec_false (HNOT.out i hlt hc))
        clear hc
        go_wp2_with (go_at_call 142; refine (connected_any _ _ g.length (ofG g) m rfl HSM.out.1 HSM.out.2 _ HMR.out.ne HMR.out.tab).mono ?_; rintro e w7 ⟨he7, hb7⟩; rw [HDC.out, hdc.out] at he7; subst he7)
        go_ret
        exact ⟨by rw [HNB.out]; rfl, HBA.out.trans ((HB6.out.trans ((HB.out.trans (hb7.mono HB.out.size)).mono HB6.out.size)).mono HBA.out.size)⟩
      have hdc := Lib.hid (dec_true hc)
      have HC2 := Lib.hid hc
      clear hc
      go_wp2_with (go_at_call 142; refine (connected_any _ _ g.length (ofG g) m rfl HSM.out.1 HSM.out.2 _ HMR.out.ne HMR.out.tab).mono ?_; rintro e w7 ⟨he7, hb7⟩; rw [HDC.out, hdc.out] at he7; subst he7)
      go_roundw
      case rel => exact ⟨i + 1, by omega, by go_num, Lib.hid (fun a ha => by
        by_cases e : a < i
        · exact HCN.out a e
        · obtain rfl : a = i := by omega
          exact HC2.out), HB.out.trans (hb7.mono HB.out.size)⟩
      case measure => simp [intOf]; omega
    · obtain rfl : i = M.length := by omega
      have HB0 := Lib.hid (HB6.out.trans (hb.mono HB6.out.size))
      have hcp := (HP.out.keep HB0.out).cell
      have HFF := Lib.hid (HFIN.out HCN.out)
      have hle := HLE.out
      obtain ⟨dd, hdd⟩ : ∃ dd, dd = dec (∃ e ∈ el, ¬ JoinP g (row M e.1) (row M e.2)) := ⟨_, rfl⟩
      rw [← hdd] at HFF
      have HDD := Lib.hid hdd
      clear hb hdd
      go_wp2_with (first
        | (go_at_call 144; refine (EDG.out _ _ (HQ.out.below HB0.out)).mono ?_; rintro e w7 ⟨u7, rfl, hp7, hb7⟩; have HP7 := Lib.hid hp7; obtain ⟨ep, ec, rfl⟩ := hp7.shape; clear hp7)
        | (go_at_call 143; refine (containsMd_any _ wr.heap.size el g M bn bs xp op xc oc HEL.out hle _ HP7.out (HMR.out.next hb7)).mono ?_; rintro e w8 ⟨he8, hb8⟩; rw [← HDD.out] at he8; subst he8))
      go_ret
      exact ⟨ret_bool HFF.out, HBA.out.trans ((HB0.out.trans ((hb7.trans (hb8.mono hb7.size)).mono HB0.out.size)).mono HBA.out.size)⟩

end Go.Proofs.YtmakhapdlkbbnaaDoor
