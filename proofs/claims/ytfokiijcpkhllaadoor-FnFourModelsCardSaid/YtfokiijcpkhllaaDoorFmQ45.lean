/- Walks: how the program tells a model. -/
import Derived.Test.YtfokiijcpkhllaaDoorFmQ34
import Derived.Test.YtfokiijcpkhllaaDoorFmQ33
import Derived.Test.YtfokiijcpkhllaaDoorFmQ39
import Derived.Test.YtfokiijcpkhllaaDoorFmQ40
import Derived.Test.YtfokiijcpkhllaaDoorFmQ42
import Derived.Test.YtfokiijcpkhllaaDoorFmQ44
import Derived.Test.YtfokiijcpkhllaaDoorFmQ41
import Derived.Test.YtfokiijcpkhllaaDoorFmQ30
import Derived.Test.YtfokiijcpkhllaaDoorFmQ3
namespace Go.Proofs.YtfokiijcpkhllaaDoor
open Go.RowKit

/-- What the closure reads: the graph's sets of neighbours, and the model's sets. -/
structure MdB (w : World) (g M : List (List Int)) (bn bs : Nat) (xp sp : Option Addr) (xc sc : Nat) : Prop where
  boxN : Box w bn 61 (.slice xp g.length xc)
  ne : NE w (.slice xp g.length xc) g.length (ofG g)
  boxS : Box w bs 60 (.slice sp M.length sc)
  sl : Sl w 64 (.slice sp M.length sc) M.length ((M.map mask).map u32v)
  tab : Tab w
  ok : GOk g
  sets : ∀ a, a < M.length → SetIn g.length (row M a)
section
variable {w w' : World} {g M : List (List Int)} {bn bs : Nat} {xp sp : Option Addr} {xc sc : Nat}
theorem MdB.next (h : MdB w g M bn bs xp sp xc sc) (hb : Below w.heap.size w w') : MdB w' g M bn bs xp sp xc sc :=
  ⟨h.boxN.keep hb, h.ne.next hb, h.boxS.keep hb, h.sl.below hb, h.tab.keep hb, h.ok, h.sets⟩
theorem set_mask {n : Nat} {s : List Int} (hn : n ≤ 16) (h : SetIn n s) : mask s < 65536 ∧ ∀ i, (mask s).testBit i = true → i < n := by
  have k := bit_mask fun x hx => (h.1 x hx).1
  refine ⟨mask_lt16 _ fun x hx => by have := (h.1 x hx).2; omega, fun i hi => ?_⟩
  have := h.1 _ ((k i).1 hi)
  omega
theorem MdB.get (h : MdB w g M bn bs xp sp xc sc) {a : Nat} (ha : a < M.length) : ∃ qb qo, sp = some ⟨qb, qo, none⟩ ∧ w.cell? ⟨qb, qo + a, none⟩ = some (.int .u32 (mask (row M a) : Nat)) := by
  have hl2 : (M.map mask).length = M.length := List.length_map ..
  have hsl := h.sl
  rw [← hl2] at hsl
  obtain ⟨qb, qo, e, hq⟩ := nets_cell hsl (v := a) (by rw [hl2]; exact ha)
  have e1 : (M.map mask)[a]'(by rw [hl2]; exact ha) = mask (row M a) := by simp [row, ha]
  rw [e1] at hq
  exact ⟨qb, qo, e, hq⟩
end

set_option maxRecDepth 100000 in
set_option maxHeartbeats 2000000 in
theorem mdE_any (ev : Value) (a b : Nat) (g M : List (List Int)) (bn bs : Nat) (xp sp : Option Addr) (xc sc : Nat) (ha : a < M.length) (hb : b < M.length) (w : World) (hn : Nums w 2 .i64 ev [(a : Int), (b : Int)]) (hB : MdB w g M bn bs xp sp xc sc) :
    Calls Tryd.prog 95 #[ev, .pointer (some ⟨bn, 0, none⟩), .pointer (some ⟨bs, 0, none⟩)] w fun e w' => e = .returned (.bool (!dec (JoinP g (row M a) (row M b)))) ∧ Below w.heap.size w w' := by
  obtain ⟨rp, rc, rfl, _⟩ := id hn.shape
  obtain ⟨rb, ro, rfl, hc0⟩ := hn.get (k := 0) (by simp)
  obtain ⟨_, _, e1, hc1⟩ := hn.get (k := 1) (by simp)
  cases e1
  simp only [List.getElem_cons_zero, List.getElem_cons_succ, Nat.add_zero] at hc0 hc1
  have hcn := hB.boxN.cell
  have hcs := hB.boxS.cell
  obtain ⟨qb, qo, rfl, hca⟩ := hB.get ha
  obtain ⟨_, _, e2, hcb⟩ := hB.get hb
  cases e2
  have h16 := hB.ok.le
  have hA16 := set_mask h16 (hB.sets a ha)
  have hB16 := set_mask h16 (hB.sets b hb)
  have HD : Hid (dec (JnM (ofG g) (mask (row M a)) (mask (row M b))) = dec (JoinP g (row M a) (row M b))) := Lib.hid (dec_congr (joinM_iff hB.ok (hB.sets a ha) (hB.sets b hb)))
  obtain ⟨ma, hma⟩ : ∃ ma, ma = mask (row M a) := ⟨_, rfl⟩
  obtain ⟨mb, hmb⟩ : ∃ mb, mb = mask (row M b) := ⟨_, rfl⟩
  rw [← hma] at hca hA16 HD
  rw [← hmb] at hcb hB16 HD
  have HA := Lib.hid hA16
  have HBB := Lib.hid hB16
  have HNE := Lib.hid hB.ne
  have HT := Lib.hid hB.tab
  clear hn hB hA16 hB16 hma hmb
  go_enter Tryd.func95, Tryd.ntmps95
  go_upto_region 1 with fail
  go_region_held3 (fun w' => w'.cell? ⟨bn, 0, none⟩ = some (.slice xp g.length xc) ∧ w'.cell? ⟨bs, 0, none⟩ = some (.slice (some ⟨qb, qo, none⟩) M.length sc) ∧ w'.cell? ⟨rb, ro, none⟩ = some (.int .i64 a) ∧ w'.cell? ⟨rb, ro + 1, none⟩ = some (.int .i64 b) ∧ w'.cell? ⟨qb, qo + a, none⟩ = some (.int .u32 (ma : Int)) ∧ w'.cell? ⟨qb, qo + b, none⟩ = some (.int .u32 (mb : Int)))
    (first | exact ⟨hcn, hcs, hc0, hc1, hca, hcb⟩ | exact ⟨hb4'.at' hcn, hb4'.at' hcs, hb4'.at' hc0, hb4'.at' hc1, hb4'.at' hca, hb4'.at' hcb⟩ | go_keep)
    (first | (go_at_call 96; refine (areJoined_any _ _ _ g.length (ofG g) ma mb rfl rfl HA.out.1 HBB.out.1 HA.out.2 HBB.out.2 _ (HNE.out.next (below_dN (Below.refl _ _) 1)) (HT.out.keep (below_dN (Below.refl _ _) 1))).mono ?_; rintro e w4 ⟨he4, hb4⟩; rw [HD.out] at he4; subst he4; have hb4' : Below w.heap.size w w4 := (below_dN (Below.refl _ _) 1).trans hb4))
  all_goals go_wp2
  all_goals go_ret
  all_goals exact ⟨rfl, hb4'⟩

set_option maxRecDepth 100000 in
set_option maxHeartbeats 2000000 in
theorem indexMd_any (lv : Value) (base : Nat) (l : List (Nat × Nat)) (g M : List (List Int)) (bn bs : Nat) (xp sp : Option Addr) (xc sc : Nat) (hl : ∀ e ∈ l, e.1 < M.length ∧ e.2 < M.length) (h256 : l.length ≤ 256) (w : World) (hn : PrsO w base lv l) (hB : MdB w g M bn bs xp sp xc sc) :
    Calls Tryd.prog 132 #[lv, .func (.func 95) #[] #[.pointer (some ⟨bn, 0, none⟩), .pointer (some ⟨bs, 0, none⟩)]] w fun e w' =>
      ∃ z : Int, e = .returned (.int .i64 z) ∧ (0 ≤ z ↔ ∃ e ∈ l, ¬ JoinP g (row M e.1) (row M e.2)) ∧ Below w.heap.size w w' := by
  obtain ⟨lp, lc, rfl⟩ := hn.shape
  have HN := Lib.hid hn
  have HB := Lib.hid hB
  have HL := Lib.hid hl
  clear hn hB hl
  go_enter Tryd.func132, Tryd.ntmps132
  go_wp2
  go_loopw [8] (fun i wr => ∃ k : Nat, k ≤ l.length ∧ i = .int .i64 k ∧ Hid (∀ e ∈ l.take k, JoinP g (row M e.1) (row M e.2)) ∧ Below w.heap.size w wr) (fun i _ => l.length - (intOf i).toNat)
  case atStart => exact ⟨0, Nat.zero_le _, rfl, Lib.hid (fun v hv => by simp at hv), Below.refl _ _⟩
  case round =>
    obtain ⟨k, hk, rfl, HNO, hb⟩ := hrel
    have HBW := Lib.hid hb
    by_cases hlt : k < l.length
    · obtain ⟨eb, eo, rp, rc, rfl, hce, hne⟩ := (HN.out.below hb).get hlt
      obtain ⟨⟨a, b⟩, hab⟩ : ∃ e : Nat × Nat, e = l[k] := ⟨_, rfl⟩
      have HMEM := Lib.hid (show (a, b) ∈ l by rw [hab]; exact List.getElem_mem hlt)
      have HTK : Hid (l.take (k + 1) = l.take k ++ [(a, b)]) := Lib.hid (by rw [take_snoc' l k hlt, hab])
      rw [← hab] at hne
      have hin := HL.out _ HMEM.out
      simp only at hne hin
      have HNE := Lib.hid hne
      clear hab hb hne
      by_cases hj : JoinP g (row M a) (row M b)
      · have HJV := Lib.hid hj
        have hd := Lib.hid (dec_true hj)
        clear hj
        go_wp2_with (go_at_call 95; refine (mdE_any _ a b g M bn bs xp sp xc sc hin.1 hin.2 _ HNE.out (HB.out.next HBW.out)).mono ?_; rintro e w2 ⟨he, hb2⟩; rw [hd.out] at he; subst he)
        go_roundw
        case rel => exact ⟨k + 1, by omega, by go_num, Lib.hid (fun x hx => by
          rw [HTK.out] at hx
          rcases List.mem_append.1 hx with h | h
          · exact HNO.out x h
          · obtain rfl : x = (a, b) := by simpa using h
            exact HJV.out), HBW.out.trans (hb2.mono HBW.out.size)⟩
        case measure => simp [intOf]; omega
      · have HJV := Lib.hid hj
        have hd := Lib.hid (dec_false hj)
        clear hj
        go_wp2_with (go_at_call 95; refine (mdE_any _ a b g M bn bs xp sp xc sc hin.1 hin.2 _ HNE.out (HB.out.next HBW.out)).mono ?_; rintro e w2 ⟨he, hb2⟩; rw [hd.out] at he; subst he)
        go_ret
        exact ⟨k, rfl, ⟨fun _ => ⟨(a, b), HMEM.out, HJV.out⟩, fun _ => by omega⟩, HBW.out.trans (hb2.mono HBW.out.size)⟩
    · obtain rfl : k = l.length := by omega
      clear hb
      go_wp2
      go_ret
      exact ⟨-1, rfl, ⟨fun h => by omega, fun ⟨v, h1, h2⟩ => absurd (HNO.out v (by rw [List.take_length]; exact h1)) h2⟩, HBW.out⟩

set_option maxRecDepth 100000 in
set_option maxHeartbeats 1000000 in
theorem containsMd_any (lv : Value) (base : Nat) (l : List (Nat × Nat)) (g M : List (List Int)) (bn bs : Nat) (xp sp : Option Addr) (xc sc : Nat) (hl : ∀ e ∈ l, e.1 < M.length ∧ e.2 < M.length) (h256 : l.length ≤ 256) (w : World) (hn : PrsO w base lv l) (hB : MdB w g M bn bs xp sp xc sc) :
    Calls Tryd.prog 93 #[lv, .func (.func 95) #[] #[.pointer (some ⟨bn, 0, none⟩), .pointer (some ⟨bs, 0, none⟩)]] w fun e w' =>
      e = .returned (.bool (dec (∃ e ∈ l, ¬ JoinP g (row M e.1) (row M e.2)))) ∧ Below w.heap.size w w' := by
  have HN := Lib.hid hn
  have HB := Lib.hid hB
  clear hn hB
  go_enter Tryd.func93, Tryd.ntmps93
  go_wp2_with (go_at_call 132; refine (indexMd_any _ base l g M bn bs xp sp xc sc hl h256 _ HN.out HB.out).mono ?_; rintro e w2 ⟨z, rfl, hz, hb2⟩; have HZ := Lib.hid hz; clear hz)
  go_ret
  exact ⟨ret_bool (decide_dec_iff HZ.out), hb2⟩

end Go.Proofs.YtfokiijcpkhllaaDoor

/- Walk: the program's ModelOk. -/
namespace Go.Proofs.YtfokiijcpkhllaaDoor
open Go.RowKit

set_option maxRecDepth 100000 in
set_option maxHeartbeats 4000000 in
theorem implModelOk_any (v pv mv : Value) (g q M : List (List Int)) (hgl : g.length ≤ 1000000000) (w : World) (hg : Gr w v g) (hq : Gr w pv q) (hm : Gr w mv M) (hT : Tab w) :
    Calls Tryd.prog 32 #[v, pv, mv] w fun e w' => e = .returned (.bool (dec (MdOk g q M))) ∧ Below w.heap.size w w' := by
  have hg0 := Lib.hid hg
  have hq0 := Lib.hid hq
  have hm0 := Lib.hid hm
  obtain ⟨u, rfl, hr⟩ := hg
  obtain ⟨p, c, rfl, _⟩ := hr.shape
  obtain ⟨u, rfl, hqr⟩ := hq
  obtain ⟨pp, pc, rfl, _, hpc, hpl⟩ := hqr.shape
  obtain ⟨mu, rfl, hs⟩ := hm
  obtain ⟨sp, sc, rfl, _, hsc, hsl⟩ := hs.shape
  obtain ⟨W0, hW0, hbA, SZ0, BX, BP, BY⟩ := three_boxesM w (.slice p g.length c) (.slice pp q.length pc) (.slice sp M.length sc) 29 29 49
  have HBA := Lib.hid hbA
  have HSZ := Lib.hid SZ0
  have HX := Lib.hid BX
  have HP := Lib.hid BP
  have HY := Lib.hid BY
  have HG := Lib.hid (hg0.out.below hbA)
  have HQ := Lib.hid (hq0.out.below hbA)
  have HM := Lib.hid (hm0.out.below hbA)
  have HT := Lib.hid (hT.keep hbA)
  clear hr hg0 hq0 hm0 hqr hs hbA SZ0 BX BP BY hT
  by_cases hw : MdW g M
  case neg =>
    have hd := Lib.hid (dec_false hw)
    have HD := Lib.hid (dec_false (show ¬ MdOk g q M from fun h => hw h.1.1.1))
    clear hw
    go_enter Tryd.func32, Tryd.ntmps32
    go_upto_region 1 with fail
    rw [← hW0]
    clear hW0
    have hcx := HX.out.cell
    have hcy := HY.out.cell
    go_wp2_with (go_at_call 92; refine (modelMasks_any _ _ g M hgl _ HG.out HM.out).mono ?_; rintro e w2 ⟨ov, he, ⟨op, ok, oc, rfl⟩, _, hb2⟩; rw [hd.out] at he; subst he)
    go_ret
    have h0 := HBA.out.size
    have hb := HBA.out.trans (hb2.mono h0)
    first
      | exact ⟨by rw [HD.out]; rfl, hb.alloc hb.size _⟩
      | exact ⟨by rw [HD.out]; rfl, (hb.alloc hb.size _).setCell (by show w.heap.size ≤ w2.heap.size; exact hb.size) _⟩
  have hd := Lib.hid (dec_true hw)
  have HW := Lib.hid hw
  clear hw
  by_cases hpo : GOk q
  case neg =>
    have hd2 := Lib.hid (dec_false hpo)
    have HD := Lib.hid (dec_false (show ¬ MdOk g q M from fun h => hpo h.1.1.2))
    clear hpo
    go_enter Tryd.func32, Tryd.ntmps32
    go_upto_region 1 with fail
    rw [← hW0]
    clear hW0
    have hcx := HX.out.cell
    have hcy := HY.out.cell
    go_upto_region 2 with (go_at_call 92; refine (modelMasks_any _ _ g M hgl _ HG.out HM.out).mono ?_; rintro e w2 ⟨ov, he, ⟨op, ok, oc, rfl⟩, hov, hb2⟩; rw [hd.out] at he; subst he)
    have hown := hov HW.out
    obtain ⟨_, _, eov⟩ := owns_shapeE hown
    simp only [Value.slice.injEq] at eov
    obtain ⟨e1, rfl, e3⟩ := eov
    clear e1 e3
    obtain ⟨W3, hW3⟩ : ∃ W3, W3 = w2.alloc (.cells #[.slice op M.length oc] 60) := ⟨_, rfl⟩
    rw [← hW3]
    have hb3 : Below w2.heap.size w2 W3 := by rw [hW3]; exact below_alloc _ _
    have HB3 := Lib.hid (hb2.trans (hb3.mono hb2.size))
    have BS : Hid (Box W3 w2.heap.size 60 (.slice op M.length oc)) := Lib.hid (by rw [hW3]; exact Box.new _ _ _)
    have SL := Lib.hid (Sl.of_owns (ownsRow_below hown hb3) (by have := HW.out.1.2; omega))
    obtain ⟨bs, hbs⟩ : ∃ bs, bs = w2.heap.size := ⟨_, rfl⟩
    rw [← hbs] at BS ⊢
    have hcp := (HP.out.keep HB3.out).cell
    clear hcx hcy hov hown hb2 hb3 hW3 hbs
    go_wp2_with (go_at_call 38; refine (implGraphOk_any _ q _ (HQ.out.below HB3.out)).mono ?_; rintro e w4 ⟨he, hb4⟩; rw [hd2.out] at he; subst he)
    go_ret
    exact ⟨by rw [HD.out]; rfl, HBA.out.trans ((HB3.out.trans (hb4.mono HB3.out.size)).mono HBA.out.size)⟩
  have hd2 := Lib.hid (dec_true hpo)
  have HPO := Lib.hid hpo
  clear hpo
  by_cases hln : M.length = q.length
  case neg =>
    have HD := Lib.hid (dec_false (show ¬ MdOk g q M from fun h => hln h.1.2))
    have hln' : ¬ (M.length : Int) = (q.length : Int) := by omega
    clear hln
    go_enter Tryd.func32, Tryd.ntmps32
    go_upto_region 1 with fail
    rw [← hW0]
    clear hW0
    have hcx := HX.out.cell
    have hcy := HY.out.cell
    go_upto_region 2 with (go_at_call 92; refine (modelMasks_any _ _ g M hgl _ HG.out HM.out).mono ?_; rintro e w2 ⟨ov, he, ⟨op, ok, oc, rfl⟩, hov, hb2⟩; rw [hd.out] at he; subst he)
    have hown := hov HW.out
    obtain ⟨_, _, eov⟩ := owns_shapeE hown
    simp only [Value.slice.injEq] at eov
    obtain ⟨e1, rfl, e3⟩ := eov
    clear e1 e3
    obtain ⟨W3, hW3⟩ : ∃ W3, W3 = w2.alloc (.cells #[.slice op M.length oc] 60) := ⟨_, rfl⟩
    rw [← hW3]
    have hb3 : Below w2.heap.size w2 W3 := by rw [hW3]; exact below_alloc _ _
    have HB3 := Lib.hid (hb2.trans (hb3.mono hb2.size))
    have BS : Hid (Box W3 w2.heap.size 60 (.slice op M.length oc)) := Lib.hid (by rw [hW3]; exact Box.new _ _ _)
    have SL := Lib.hid (Sl.of_owns (ownsRow_below hown hb3) (by have := HW.out.1.2; omega))
    obtain ⟨bs, hbs⟩ : ∃ bs, bs = w2.heap.size := ⟨_, rfl⟩
    rw [← hbs] at BS ⊢
    have hcp := (HP.out.keep HB3.out).cell
    clear hcx hcy hov hown hb2 hb3 hW3 hbs
    go_wp2_with (go_at_call 38; refine (implGraphOk_any _ q _ (HQ.out.below HB3.out)).mono ?_; rintro e w4 ⟨he, hb4⟩; rw [hd2.out] at he; subst he; have hcp4 := hb4.at' hcp; have hcs4 := (BS.out.keep hb4).cell)
    go_ret
    exact ⟨by rw [HD.out]; rfl, HBA.out.trans ((HB3.out.trans (hb4.mono HB3.out.size)).mono HBA.out.size)⟩
  have HLN := Lib.hid hln
  have HTRI : Hid ((MdW g M ∧ GOk q) ∧ M.length = q.length) := Lib.hid ⟨⟨HW.out, HPO.out⟩, hln⟩
  have hln1 : (!((M.length : Int) == (q.length : Int))) = false := by rw [hln]; simp
  have hln2 : ((M.length : Int) != (q.length : Int)) = false := by rw [hln]; simp
  obtain ⟨el, hel⟩ : ∃ el, el = edN q.length (ofG q) q.length := ⟨_, rfl⟩
  have HLE : Hid (el.length ≤ 256) := Lib.hid (by
    rw [hel]
    have h16 := HPO.out.le
    have := edN_length q.length (ofG q) q.length
    have : q.length * q.length ≤ 16 * 16 := Nat.mul_le_mul h16 h16
    omega)
  have EDG : Hid (∀ (wz : World) (vz : Value), Gr wz vz q → Calls Tryd.prog 94 #[vz] wz fun e w' => ∃ u : Value, e = .returned u ∧ PrsO w' wz.heap.size u el ∧ Below wz.heap.size wz w') := Lib.hid (fun wz vz hz => by rw [hel]; exact edgesC_any _ q HPO.out _ hz)
  have HEL : Hid (∀ e ∈ el, e.1 < M.length ∧ e.2 < M.length) := Lib.hid (fun e he => by
    rw [hel] at he
    obtain ⟨h1, h2, _⟩ := mem_edN (Nat.le_refl _) he
    rw [HLN.out]
    exact ⟨h1, h2⟩)
  have HFIN : Hid ((∀ a, a < M.length → ConnS g (row M a)) → (!dec (∃ e ∈ el, ¬ JoinP g (row M e.1) (row M e.2))) = dec (MdOk g q M)) := Lib.hid (fun h1 => by
    by_cases h : ∃ e ∈ el, ¬ JoinP g (row M e.1) (row M e.2)
    · obtain ⟨e, he, h2⟩ := id h
      rw [dec_true h, dec_false (show ¬ MdOk g q M from fun k => h2 (k.2.2 e (by rw [← hel]; exact he)))]; rfl
    · rw [dec_false h, dec_true (show MdOk g q M from ⟨HTRI.out, h1, fun e he => Classical.byContradiction fun k => h ⟨e, by rw [hel]; exact he, k⟩⟩)]; rfl)
  have HNOT : Hid (∀ a, a < M.length → ¬ ConnS g (row M a) → ¬ MdOk g q M) := Lib.hid (fun a ha h1 h => h1 (h.2.1 a ha))
  have h16 := HW.out.1.1.le
  clear hln hel
  go_enter Tryd.func32, Tryd.ntmps32
  go_upto_region 1 with fail
  rw [← hW0]
  clear hW0
  have hcx := HX.out.cell
  have hcy := HY.out.cell
  go_upto_region 2 with (go_at_call 92; refine (modelMasks_any _ _ g M hgl _ HG.out HM.out).mono ?_; rintro e w2 ⟨ov, he, ⟨op, ok, oc, rfl⟩, hov, hb2⟩; rw [hd.out] at he; subst he)
  have hown := hov HW.out
  obtain ⟨_, _, eov⟩ := owns_shapeE hown
  simp only [Value.slice.injEq] at eov
  obtain ⟨e1, rfl, e3⟩ := eov
  clear e1 e3
  obtain ⟨W3, hW3⟩ : ∃ W3, W3 = w2.alloc (.cells #[.slice op M.length oc] 60) := ⟨_, rfl⟩
  rw [← hW3]
  have hb3 : Below w2.heap.size w2 W3 := by rw [hW3]; exact below_alloc _ _
  have HB3 := Lib.hid (hb2.trans (hb3.mono hb2.size))
  have BS : Hid (Box W3 w2.heap.size 60 (.slice op M.length oc)) := Lib.hid (by rw [hW3]; exact Box.new _ _ _)
  have SL := Lib.hid (Sl.of_owns (ownsRow_below hown hb3) (by have := HW.out.1.2; omega))
  obtain ⟨bs, hbs⟩ : ∃ bs, bs = w2.heap.size := ⟨_, rfl⟩
  rw [← hbs] at BS ⊢
  have hcp := (HP.out.keep HB3.out).cell
  clear hcx hcy hov hown hb2 hb3 hW3 hbs
  go_upto_region 5 with (first
    | (go_at_call 38; refine (implGraphOk_any _ q _ (HQ.out.below HB3.out)).mono ?_; rintro e w4 ⟨he, hb4⟩; rw [hd2.out] at he; subst he; have hcp4 := hb4.at' hcp; have hcs4 := (BS.out.keep hb4).cell; have hcx4 := ((HX.out.keep HB3.out).keep hb4).cell)
    | (go_at_call 41; refine (netsOf_any _ g _ ((HG.out.below HB3.out).below hb4) HW.out.1.1).mono ?_; rintro e w5 ⟨x, rfl, hown5, hb5⟩; obtain ⟨xp, xc, rfl⟩ := owns_shapeE hown5))
  obtain ⟨W6, hW6⟩ : ∃ W6, W6 = w5.alloc (.cells #[.slice xp g.length xc] 61) := ⟨_, rfl⟩
  rw [← hW6]
  have hb6 : Below w5.heap.size w5 W6 := by rw [hW6]; exact below_alloc _ _
  have hb56 : Below w4.heap.size w4 W6 := hb5.trans (hb6.mono hb5.size)
  have hb36 : Below W3.heap.size W3 W6 := hb4.trans (hb56.mono hb4.size)
  have HB6 := Lib.hid (HB3.out.trans (hb36.mono HB3.out.size))
  have HMD : Hid (MdB W6 g M w5.heap.size bs xp op xc oc) := Lib.hid
    ⟨by rw [hW6]; exact Box.new _ _ _, ⟨h16, by rw [indN_ofG HW.out.1.1]; exact Sl.of_owns (ownsRow_below hown5 hb6) (by omega)⟩, BS.out.keep hb36, SL.out.below hb36, HT.out.keep HB6.out, HW.out.1.1, fun a ha => (HW.out.2 a ha).1⟩
  obtain ⟨bn, hbn⟩ : ∃ bn, bn = w5.heap.size := ⟨_, rfl⟩
  rw [← hbn] at HMD ⊢
  have hM16 := HW.out.1.2
  have hcs6 := HMD.out.boxS.cell
  clear hcp hcp4 hcs4 hcx4 hb4 hb5 hb6 hb56 hb36 hown5 hW6 hbn hln1 hln2
  go_wp2_with fail
  go_loopw [37] (fun iv wr => ∃ i : Nat, i ≤ M.length ∧ iv = .int .i64 i ∧ Hid (∀ a, a < i → ConnS g (row M a)) ∧ Below W6.heap.size W6 wr) (fun iv _ => M.length - (intOf iv).toNat)
  case atStart => exact ⟨0, Nat.zero_le _, rfl, Lib.hid (fun a ha => absurd ha (Nat.not_lt_zero _)), Below.refl _ _⟩
  case round =>
    clear hcs6
    obtain ⟨i, hi, rfl, HCN, hb⟩ := hrel
    have HB := Lib.hid hb
    have HMR := Lib.hid (HMD.out.next hb)
    have hcn := HMR.out.boxN.cell
    by_cases hlt : i < M.length
    · obtain ⟨qb, qo, rfl, hq⟩ := HMR.out.get hlt
      have hset := HMD.out.sets i hlt
      obtain ⟨m, hm⟩ : ∃ m, m = mask (row M i) := ⟨_, rfl⟩
      have HSM : Hid (m < 65536 ∧ ∀ t, m.testBit t = true → t < g.length) := Lib.hid (by rw [hm]; exact set_mask h16 hset)
      have HDC : Hid (dec (ConnL (ofG g) (bitsOf m)) = dec (ConnS g (row M i))) := Lib.hid (by
        rw [hm, bits_maskS h16 hset]
        exact dec_congr ⟨fun h => ⟨⟨HMD.out.ok, hset⟩, h⟩, fun h => h.2⟩)
      rw [← hm] at hq
      clear hb hset hm
      by_cases hc : ConnS g (row M i)
      case neg =>
        have hdc := Lib.hid (dec_false hc)
        have HNB := Lib.hid (dec_false (HNOT.out i hlt hc))
        clear hc
        go_wp2_with (go_at_call 47; refine (connected_any _ _ g.length (ofG g) m rfl HSM.out.1 HSM.out.2 _ HMR.out.ne HMR.out.tab).mono ?_; rintro e w7 ⟨he7, hb7⟩; rw [HDC.out, hdc.out] at he7; subst he7)
        go_ret
        exact ⟨by rw [HNB.out]; rfl, HBA.out.trans ((HB6.out.trans ((HB.out.trans (hb7.mono HB.out.size)).mono HB6.out.size)).mono HBA.out.size)⟩
      have hdc := Lib.hid (dec_true hc)
      have HC2 := Lib.hid hc
      clear hc
      go_wp2_with (go_at_call 47; refine (connected_any _ _ g.length (ofG g) m rfl HSM.out.1 HSM.out.2 _ HMR.out.ne HMR.out.tab).mono ?_; rintro e w7 ⟨he7, hb7⟩; rw [HDC.out, hdc.out] at he7; subst he7)
      go_roundw
      case rel => exact ⟨i + 1, by omega, by go_num, Lib.hid (fun a ha => by
        by_cases e : a < i
        · exact HCN.out a e
        · obtain rfl : a = i := by omega
          exact HC2.out), HB.out.trans (hb7.mono HB.out.size)⟩
      case measure => simp [intOf]; omega
    · obtain rfl : i = M.length := by omega
      have HB0 := Lib.hid (HB6.out.trans (hb.mono HB6.out.size))
      have hcp := (HP.out.keep HB0.out).cell
      have HFF := Lib.hid (HFIN.out HCN.out)
      have hle := HLE.out
      obtain ⟨dd, hdd⟩ : ∃ dd, dd = dec (∃ e ∈ el, ¬ JoinP g (row M e.1) (row M e.2)) := ⟨_, rfl⟩
      rw [← hdd] at HFF
      have HDD := Lib.hid hdd
      clear hb hdd
      go_wp2_with (first
        | (go_at_call 94; refine (EDG.out _ _ (HQ.out.below HB0.out)).mono ?_; rintro e w7 ⟨u7, rfl, hp7, hb7⟩; have HP7 := Lib.hid hp7; obtain ⟨ep, ec, rfl⟩ := hp7.shape; clear hp7)
        | (go_at_call 93; refine (containsMd_any _ wr.heap.size el g M bn bs xp op xc oc HEL.out hle _ HP7.out (HMR.out.next hb7)).mono ?_; rintro e w8 ⟨he8, hb8⟩; rw [← HDD.out] at he8; subst he8))
      go_ret
      exact ⟨ret_bool HFF.out, HBA.out.trans ((HB0.out.trans ((hb7.trans (hb8.mono hb7.size)).mono HB0.out.size)).mono HBA.out.size)⟩

end Go.Proofs.YtfokiijcpkhllaaDoor

/- Walk: the law FnFourModels. -/
namespace Go.Proofs.YtfokiijcpkhllaaDoor
open Go.RowKit

theorem dice_ltVf {w0 w : World} {db : Nat} {bs : List Int} (h : Dice w0 w db bs) : db < w.heap.size := by
  obtain ⟨_, _, _, h1, _⟩ := h.ex
  exact h1.lt

set_option maxRecDepth 100000 in
set_option maxHeartbeats 8000000 in
theorem lawFourModels_any (v0 : Value) (bs : List Int) (W : World) (ha : ArgB W v0 bs) (hT : Tab W) :
    Calls Tryd.prog 5 #[v0] W fun e w' => e = .returned (.bool true) ∧ Below W.heap.size W w' := by
  obtain ⟨pa, ca, e0, _⟩ := id ha
  subst e0
  have HA := Lib.hid ha
  have HT := Lib.hid hT
  clear ha hT
  go_enter Tryd.func5, Tryd.ntmps5
  by_cases hbig : 4096 < bs.length
  · have hd := decide_eq_true hbig
    go_wp2_with (go_at_call 7; refine (big_any _ bs _ HA.out).mono ?_; rintro e w2 ⟨he, rfl⟩; rw [hd] at he; subst he)
    go_ret
    exact ⟨rfl, Below.refl _ _⟩
  have hd := decide_eq_false hbig
  have hl : bs.length ≤ 4096 := by omega
  clear hbig
  go_upto_region 5 with (first
    | (go_at_call 9; refine (w9Graph_any W db bs 6 _ rfl (by decide) (by decide) _ HD2.out (dice_ltVf HD2.out)).mono ?_; rintro e w3 ⟨u, n, E, rfl, hn1, hn6, hse, hsg, hd3, hg3⟩; have HSE := Lib.hid hse; have HSG := Lib.hid hsg; have HD3 := Lib.hid hd3; obtain ⟨ga, gc, rfl⟩ := hsg.shape; clear hse hsg hd3 hg3)
    | (go_at_call 8; refine (roll_any _ bs _ hl _ HA.out).mono ?_; rintro e w2 ⟨db, rfl, hd2, hb2⟩; have HD2 := Lib.hid hd2; clear hd2 hb2)
    | (go_at_call 7; refine (big_any _ bs _ HA.out).mono ?_; rintro e w1 ⟨he, rfl⟩; rw [hd] at he; subst he))
  obtain ⟨g, hga⟩ : ∃ g, g = matG n E := ⟨_, rfl⟩
  have hgl : g.length = n := by rw [hga, matG_length]
  have HOK : Hid (GOk g) := Lib.hid (by rw [hga]; exact gok_matG hn1 (by omega) HSE.out.1 HSE.out.2)
  rw [← hga] at HSG ⊢
  have hg6 : g.length ≤ 6 := by omega
  obtain ⟨w4, hw4⟩ : ∃ W', W' = w3.alloc (.cells #[.slice ga g.length gc] 29) := ⟨_, rfl⟩
  rw [← hw4]
  have hba : Below w3.heap.size w3 w4 := by rw [hw4]; exact below_alloc _ _
  have HXg : Hid (Box w4 w3.heap.size 29 (.slice ga g.length gc)) := Lib.hid (by rw [hw4]; exact Box.new _ _ _)
  have HGg := Lib.hid ((HSG.out.below hba).gr (by omega))
  have HB4 : Hid (Below W.heap.size W w4) := Lib.hid (HD3.out.bel.trans (hba.mono HD3.out.bel.size))
  have cg := HXg.out.cell
  obtain ⟨bg, hbg⟩ : ∃ bg, bg = w3.heap.size := ⟨_, rfl⟩
  rw [← hbg] at HXg cg ⊢
  clear hbg hga hw4 hba HSG hn6 hgl hn1 HD2 HD3 HSE hd
  go_upto_region 6 with (go_at_call 28; refine (specFull_yes _ 4 rfl (by omega) (by omega) _).mono ?_; rintro e w5 ⟨u5, rfl, hs5, hb5⟩; obtain ⟨pf, cf, rfl⟩ := hs5.shape; rw [fullG_length] at hs5 ⊢)
  obtain ⟨w6, hw6⟩ : ∃ W', W' = w5.alloc (.cells #[.slice pf 4 cf] 29) := ⟨_, rfl⟩
  rw [← hw6]
  have hb6 : Below w4.heap.size w4 w6 := by rw [hw6]; exact hb5.alloc hb5.size _
  have HXf : Hid (Box w6 w5.heap.size 29 (.slice pf 4 cf)) := Lib.hid (by rw [hw6]; exact Box.new _ _ _)
  have HGf : Hid (Gr w6 (.agg #[.slice pf 4 cf]) (fullG 4)) := Lib.hid ((hs5.below (show Below w5.heap.size w5 w6 by rw [hw6]; exact below_alloc _ _)).gr (by rw [fullG_length]; omega))
  have cf6 := HXf.out.cell
  have cg6 := hb6.at' cg
  have HGg6 := Lib.hid (HGg.out.below hb6)
  have HXg6 := Lib.hid (HXg.out.keep hb6)
  have HB6 : Hid (Below W.heap.size W w6) := Lib.hid (HB4.out.trans (hb6.mono HB4.out.size))
  obtain ⟨bf, hbf⟩ : ∃ bf, bf = w5.heap.size := ⟨_, rfl⟩
  rw [← hbf] at HXf cf6 ⊢
  clear hbf hw6 hs5 hb5 hb6 cg HGg HXg HB4
  go_upto_region 7 with (go_at_call 29; refine (implFourModel_any _ g _ HGg6.out (HT.out.keep HB6.out)).mono ?_; rintro e w7 ⟨u7, out, ok, rfl, hfs, hd7, ho16, hor16, hb7⟩; have HFS := Lib.hid hfs; obtain ⟨pm, cm, rfl⟩ := hd7.shape)
  obtain ⟨w8, hw8⟩ : ∃ W', W' = w7.alloc (.cells #[.slice pm out.length cm] 49) := ⟨_, rfl⟩
  rw [← hw8]
  have hb8 : Below w6.heap.size w6 w8 := by rw [hw8]; exact hb7.alloc hb7.size _
  have HXm : Hid (Box w8 w7.heap.size 49 (.slice pm out.length cm)) := Lib.hid (by rw [hw8]; exact Box.new _ _ _)
  have HGm : Hid (Gr w8 (.agg #[.slice pm out.length cm]) out) := Lib.hid ((hd7.gr (by omega) (fun j _ => by have := hor16 j; omega)).below (show Below w7.heap.size w7 w8 by rw [hw8]; exact below_alloc _ _))
  have cm8 := HXm.out.cell
  have cg8 := hb8.at' cg6
  have cf8 := hb8.at' cf6
  have HGg8 := Lib.hid (HGg6.out.below hb8)
  have HGf8 := Lib.hid (HGf.out.below hb8)
  have HB8 : Hid (Below W.heap.size W w8) := Lib.hid (HB6.out.trans (hb8.mono HB6.out.size))
  obtain ⟨bm, hbm⟩ : ∃ bm, bm = w7.heap.size := ⟨_, rfl⟩
  rw [← hbm] at HXm cm8 ⊢
  clear hbm hw8 hd7 hb7 hb8 cg6 cf6 HGg6 HXg6 HGf HXf HB6 hfs ho16 hor16
  go_upto_region 8 with (go_at_call 30; refine (specMinorIn_any _ _ g (fullG 4) _ HGg8.out HGf8.out).mono ?_; rintro e w9 ⟨u9, R, ok2, rfl, hmi, hs9, hR16, hRr, hb9⟩; have e9 := four_found HOK.out hg6 HFS.out hmi; subst e9; obtain ⟨pr, cr, rfl⟩ := hs9.shape)
  obtain ⟨wa, hwa⟩ : ∃ W', W' = w9.alloc (.cells #[.slice pr R.length cr] 49) := ⟨_, rfl⟩
  rw [← hwa]
  have hba : Below w8.heap.size w8 wa := by rw [hwa]; exact hb9.alloc hb9.size _
  have cga := hba.at' cg8
  have cfa := hba.at' cf8
  have cma := hba.at' cm8
  have HGga := Lib.hid (HGg8.out.below hba)
  have HGfa := Lib.hid (HGf8.out.below hba)
  have HGma := Lib.hid (HGm.out.below hba)
  have HBa : Hid (Below W.heap.size W wa) := Lib.hid (HB8.out.trans (hba.mono HB8.out.size))
  have HTa := Lib.hid (HT.out.keep HBa.out)
  have HM := Lib.hid (fourS_model HOK.out hg6 HFS.out)
  clear hwa hmi hs9 hR16 hRr hb9 hba cg8 cf8 cm8 HGg8 HGf8 HGm HB8 HXm
  cases ok2 with
  | true =>
    have hds : dec (SerS g) = false := dec_false (HM.out.2.1 rfl)
    have HDM := Lib.hid (dec_true (HM.out.1 rfl))
    go_wp2_with (first
      | (go_at_call 19; refine (implSeriesIn_any _ g _ HGga.out HTa.out).mono ?_; rintro e wb ⟨he, hbb⟩; rw [hds] at he; subst he; have cgb := hbb.at' cga; have cfb := hbb.at' cfa; have cmb := hbb.at' cma; have HBB := Lib.hid hbb; clear hbb cga cfa cma)
      | (go_at_call 31; refine (specModelOk_any _ _ _ g (fullG 4) out (by omega) _ (HGga.out.below HBB.out) (HGfa.out.below HBB.out) (HGma.out.below HBB.out)).mono ?_; rintro e wc ⟨he, hbc⟩; rw [HDM.out] at he; subst he; have cgc := hbc.at' cgb; have cfc := hbc.at' cfb; have cmc := hbc.at' cmb; have HBC := Lib.hid (HBB.out.trans (hbc.mono HBB.out.size)); clear hbc cgb cfb cmb)
      | (go_at_call 32; refine (implModelOk_any _ _ _ g (fullG 4) out (by omega) _ (HGga.out.below HBC.out) (HGfa.out.below HBC.out) (HGma.out.below HBC.out) (HTa.out.keep HBC.out)).mono ?_; rintro e wd ⟨he, hbd⟩; rw [HDM.out] at he; subst he; have HBD := Lib.hid (HBC.out.trans (hbd.mono HBC.out.size)); clear hbd))
    go_ret
    exact ⟨rfl, HBa.out.trans (HBD.out.mono HBa.out.size)⟩
  | false =>
    have hds : dec (SerS g) = true := dec_true (Classical.byContradiction fun h => by have := HM.out.2.2 h; cases this)
    go_wp2_with (go_at_call 19; refine (implSeriesIn_any _ g _ HGga.out HTa.out).mono ?_; rintro e wb ⟨he, hbb⟩; rw [hds] at he; subst he; have HBB := Lib.hid hbb; clear hbb)
    go_ret
    exact ⟨rfl, HBa.out.trans (HBB.out.mono HBa.out.size)⟩

end Go.Proofs.YtfokiijcpkhllaaDoor

/- The argument of a law over bytes, opened. -/
namespace Go.Proofs.YtfokiijcpkhllaaDoor
open Go.ChangeShapes Go.WideShapes Go.ChangeAt Go.RowKit Go.Deep

variable {H : Type} {enc : TypeId × Value → H}
set_option maxRecDepth 100000 in
theorem open_bytesB {W : World} {sp : Nat → Bool} {held : Bool} {b0 : Nat} {v : Value} {d : DataW H} {p : List MemPlace} (hv : Value.okWide Tryd.prog W .any b0 22 v)
    (h : DataW.Trod enc Tryd.prog W 0 (fun _ => true) held 22 v d p) : ∃ xs, ArgB W v xs := by
  obtain ⟨a0, len, cap, rfl⟩ := okWide_slice Tryd.underlying22 hv
  obtain ⟨fuel, hf⟩ := h
  rcases open_ints Tryd.underlying22 Tryd.underlying5 cellsByte hf with ⟨hc, _⟩ | ⟨a, len', cap', zs, hc, _, hl, hm, hz, _, hcell, hwz⟩
  · obtain ⟨rfl, rfl, rfl⟩ : a0 = none ∧ len = 0 ∧ cap = 0 := by simpa [Value.cells] using hc
    exact ⟨[], none, 0, rfl, by simp, by simp, .inl rfl⟩
  · obtain ⟨rfl, rfl, rfl⟩ : a0 = some a ∧ len = len' ∧ cap = cap' := by simpa [Value.cells] using hc
    simp only [if_true] at hz
    have hll : (zs.take len).length = len := by rw [List.length_take]; omega
    have hm' := hm
    rw [maxLen_eq] at hm'
    refine ⟨zs.take len, some a, cap, by rw [hll], by rw [hll]; omega, fun x hx => ?_, ?_⟩
    · obtain ⟨j, hj, rfl⟩ := List.getElem_of_mem hx
      rw [hll] at hj
      have := range_u8 hwz j
      have hjz : j < zs.length := by omega
      simpa [hjz] using this
    · by_cases h0 : len = 0
      · subst h0; exact .inl (by simp)
      · have hs := spot_of (show W.cell? a = some _ from hcell 0 (by omega))
        refine .inr ⟨a.block, a.off, ?_, fun j u hu => ?_⟩
        · obtain ⟨b, o, s⟩ := a; simp only at hs; subst hs; rfl
        · have hj : j < len := by
            have := (List.getElem?_eq_some_iff.1 hu).1
            rw [List.length_map, hll] at this; exact this
          have h1 := cell_add (hcell j (by omega)) hs
          rw [h1]
          rw [List.getElem?_map, List.getElem?_take, if_pos hj] at hu
          rw [← hu]
          simp [List.getD, List.getElem?_eq_getElem (show j < zs.length by omega)]

end Go.Proofs.YtfokiijcpkhllaaDoor
