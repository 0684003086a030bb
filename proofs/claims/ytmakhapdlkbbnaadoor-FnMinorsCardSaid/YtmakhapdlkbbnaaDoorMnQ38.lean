/- Walk: the program's ModelOk. -/
import Derived.Test.YtmakhapdlkbbnaaDoorMnQ37
import Derived.Test.YtmakhapdlkbbnaaDoorMnQ30
import Derived.Test.YtmakhapdlkbbnaaDoorMnQ18
namespace Go.Proofs.YtmakhapdlkbbnaaDoor
open Go.RowKit

set_option maxRecDepth 100000 in
set_option maxHeartbeats 4000000 in
theorem implModelOk_any (v pv mv : Value) (g q M : List (List Int)) (hgl : g.length ≤ 1000000000) (w : World) (hg : Gr w v g) (hq : Gr w pv q) (hm : Gr w mv M) (hT : Tab w) :
    Calls Tryd.prog 55 #[v, pv, mv] w fun e w' => e = .returned (.bool (dec (MdOk g q M))) ∧ Below w.heap.size w w' := by
  have hg0 := Lib.hid hg
  have hq0 := Lib.hid hq
  have hm0 := Lib.hid hm
  obtain ⟨u, rfl, hr⟩ := hg
  obtain ⟨p, c, rfl, _⟩ := hr.shape
  obtain ⟨u, rfl, hqr⟩ := hq
  obtain ⟨pp, pc, rfl, _, hpc, hpl⟩ := hqr.shape
  obtain ⟨mu, rfl, hs⟩ := hm
  obtain ⟨sp, sc, rfl, _, hsc, hsl⟩ := hs.shape
  obtain ⟨W0, hW0, hbA, SZ0, BX, BP, BY⟩ := three_boxesM w (.slice p g.length c) (.slice pp q.length pc) (.slice sp M.length sc) 29 29 54
  have HBA := Lib.hid hbA
  have HSZ := Lib.hid SZ0
  have HX := Lib.hid BX
  have HP := Lib.hid BP
  have HY := Lib.hid BY
  have HG := Lib.hid (hg0.out.below hbA)
  have HQ := Lib.hid (hq0.out.below hbA)
  have HM := Lib.hid (hm0.out.below hbA)
  have HT := Lib.hid (hT.keep hbA)
  clear hr hg0 hq0 hm0 hqr hs hbA SZ0 BX BP BY hT
  by_cases hw : MdW g M
  case neg =>
    have hd := Lib.hid (dec_false hw)
    have HD := Lib.hid (dec_false (show ¬ MdOk g q M from fun h => hw h.1.1.1))
    clear hw
    go_enter Tryd.func55, Tryd.ntmps55
    go_upto_region 1 with fail
    rw [← hW0]
    clear hW0
    have hcx := HX.out.cell
    have hcy := HY.out.cell
    go_wp2_with (go_at_call 129; refine (modelMasks_any _ _ g M hgl _ HG.out HM.out).mono ?_; rintro e w2 ⟨ov, he, ⟨op, ok, oc, rfl⟩, _, hb2⟩; rw [hd.out] at he; subst he)
    go_ret
    have h0 := HBA.out.size
    have hb := HBA.out.trans (hb2.mono h0)
    first
      | exact ⟨by rw [HD.out]; rfl, hb.alloc hb.size _⟩
      | exact ⟨by rw [HD.out]; rfl, (hb.alloc hb.size _).setCell (by show w.heap.size ≤ w2.heap.size; exact hb.size) _⟩
  have hd := Lib.hid (dec_true hw)
  have HW := Lib.hid hw
  clear hw
  by_cases hpo : GOk q
  case neg =>
    have hd2 := Lib.hid (dec_false hpo)
    have HD := Lib.hid (dec_false (show ¬ MdOk g q M from fun h => hpo h.1.1.2))
    clear hpo
    go_enter Tryd.func55, Tryd.ntmps55
    go_upto_region 1 with fail
    rw [← hW0]
    clear hW0
    have hcx := HX.out.cell
    have hcy := HY.out.cell
    go_upto_region 2 with (go_at_call 129; refine (modelMasks_any _ _ g M hgl _ HG.out HM.out).mono ?_; rintro e w2 ⟨ov, he, ⟨op, ok, oc, rfl⟩, hov, hb2⟩; rw [hd.out] at he; subst he)
    have hown := hov HW.out
    obtain ⟨_, _, eov⟩ := owns_shapeE hown
    simp only [Value.slice.injEq] at eov
    obtain ⟨e1, rfl, e3⟩ := eov
    clear e1 e3
    obtain ⟨W3, hW3⟩ : ∃ W3, W3 = w2.alloc (.cells #[.slice op M.length oc] 75) := ⟨_, rfl⟩
    rw [← hW3]
    have hb3 : Below w2.heap.size w2 W3 := by rw [hW3]; exact below_alloc _ _
    have HB3 := Lib.hid (hb2.trans (hb3.mono hb2.size))
    have BS : Hid (Box W3 w2.heap.size 75 (.slice op M.length oc)) := Lib.hid (by rw [hW3]; exact Box.new _ _ _)
    have SL := Lib.hid (Sl.of_owns (ownsRow_below hown hb3) (by have := HW.out.1.2; omega))
    obtain ⟨bs, hbs⟩ : ∃ bs, bs = w2.heap.size := ⟨_, rfl⟩
    rw [← hbs] at BS ⊢
    have hcp := (HP.out.keep HB3.out).cell
    clear hcx hcy hov hown hb2 hb3 hW3 hbs
    go_wp2_with (go_at_call 80; refine (implGraphOk_any _ q _ (HQ.out.below HB3.out)).mono ?_; rintro e w4 ⟨he, hb4⟩; rw [hd2.out] at he; subst he)
    go_ret
    exact ⟨by rw [HD.out]; rfl, HBA.out.trans ((HB3.out.trans (hb4.mono HB3.out.size)).mono HBA.out.size)⟩
  have hd2 := Lib.hid (dec_true hpo)
  have HPO := Lib.hid hpo
  clear hpo
  by_cases hln : M.length = q.length
  case neg =>
    have HD := Lib.hid (dec_false (show ¬ MdOk g q M from fun h => hln h.1.2))
    have hln' : ¬ (M.length : Int) = (q.length : Int) := by omega
    clear hln
    go_enter Tryd.func55, Tryd.ntmps55
    go_upto_region 1 with fail
    rw [← hW0]
    clear hW0
    have hcx := HX.out.cell
    have hcy := HY.out.cell
    go_upto_region 2 with (go_at_call 129; refine (modelMasks_any _ _ g M hgl _ HG.out HM.out).mono ?_; rintro e w2 ⟨ov, he, ⟨op, ok, oc, rfl⟩, hov, hb2⟩; rw [hd.out] at he; subst he)
    have hown := hov HW.out
    obtain ⟨_, _, eov⟩ := owns_shapeE hown
    simp only [Value.slice.injEq] at eov
    obtain ⟨e1, rfl, e3⟩ := eov
    clear e1 e3
    obtain ⟨W3, hW3⟩ : ∃ W3, W3 = w2.alloc (.cells #[.slice op M.length oc] 75) := ⟨_, rfl⟩
    rw [← hW3]
    have hb3 : Below w2.heap.size w2 W3 := by rw [hW3]; exact below_alloc _ _
    have HB3 := Lib.hid (hb2.trans (hb3.mono hb2.size))
    have BS : Hid (Box W3 w2.heap.size 75 (.slice op M.length oc)) := Lib.hid (by rw [hW3]; exact Box.new _ _ _)
    have SL := Lib.hid (Sl.of_owns (ownsRow_below hown hb3) (by have := HW.out.1.2; omega))
    obtain ⟨bs, hbs⟩ : ∃ bs, bs = w2.heap.size := ⟨_, rfl⟩
    rw [← hbs] at BS ⊢
    have hcp := (HP.out.keep HB3.out).cell
    clear hcx hcy hov hown hb2 hb3 hW3 hbs
    go_wp2_with (go_at_call 80; refine (implGraphOk_any _ q _ (HQ.out.below HB3.out)).mono ?_; rintro e w4 ⟨he, hb4⟩; rw [hd2.out] at he; subst he; have hcp4 := hb4.at' hcp; have hcs4 := (BS.out.keep hb4).cell)
    go_ret
    exact ⟨by rw [HD.out]; rfl, HBA.out.trans ((HB3.out.trans (hb4.mono HB3.out.size)).mono HBA.out.size)⟩
  have HLN := Lib.hid hln
  have HTRI : Hid ((MdW g M ∧ GOk q) ∧ M.length = q.length) := Lib.hid ⟨⟨HW.out, HPO.out⟩, hln⟩
  have hln1 : (!((M.length : Int) == (q.length : Int))) = false := by rw [hln]; simp
  have hln2 : ((M.length : Int) != (q.length : Int)) = false := by rw [hln]; simp
  obtain ⟨el, hel⟩ : ∃ el, el = edN q.length (ofG q) q.length := ⟨_, rfl⟩
  have HLE : Hid (el.length ≤ 256) := Lib.hid (by
    rw [hel]
    have h16 := HPO.out.le
    have := edN_length q.length (ofG q) q.length
    have : q.length * q.length ≤ 16 * 16 := Nat.mul_le_mul h16 h16
    omega)
  have EDG : Hid (∀ (wz : World) (vz : Value), Gr wz vz q → Calls Tryd.prog 144 #[vz] wz fun e w' => ∃ u : Value, e = .returned u ∧ PrsO w' wz.heap.size u el ∧ Below wz.heap.size wz w') := Lib.hid (fun wz vz hz => by rw [hel]; exact edgesC_any _ q HPO.out _ hz)
  have HEL : Hid (∀ e ∈ el, e.1 < M.length ∧ e.2 < M.length) := Lib.hid (fun e he => by
    rw [hel] at he
    obtain ⟨h1, h2, _⟩ := mem_edN (Nat.le_refl _) he
    rw [HLN.out]
    exact ⟨h1, h2⟩)
  have HFIN : Hid ((∀ a, a < M.length → ConnS g (row M a)) → (!dec (∃ e ∈ el, ¬ JoinP g (row M e.1) (row M e.2))) = dec (MdOk g q M)) := Lib.hid (fun h1 => by
    by_cases h : ∃ e ∈ el, ¬ JoinP g (row M e.1) (row M e.2)
    · obtain ⟨e, he, h2⟩ := id h
      rw [dec_true h, dec_false (show ¬ MdOk g q M from fun k => h2 (k.2.2 e (by rw [← hel]; exact he)))]; rfl
    · rw [dec_false h, dec_true (show MdOk g q M from ⟨HTRI.out, h1, fun e he => Classical.byContradiction fun k => h ⟨e, by rw [hel]; exact he, k⟩⟩)]; rfl)
  have HNOT : Hid (∀ a, a < M.length → ¬ ConnS g (row M a) → ¬ MdOk g q M) := Lib.hid (fun a ha h1 h => h1 (h.2.1 a ha))
  have h16 := HW.out.1.1.le
  clear hln hel
  go_enter Tryd.func55, Tryd.ntmps55
  go_upto_region 1 with fail
  rw [← hW0]
  clear hW0
  have hcx := HX.out.cell
  have hcy := HY.out.cell
  go_upto_region 2 with (go_at_call 129; refine (modelMasks_any _ _ g M hgl _ HG.out HM.out).mono ?_; rintro e w2 ⟨ov, he, ⟨op, ok, oc, rfl⟩, hov, hb2⟩; rw [hd.out] at he; subst he)
  have hown := hov HW.out
  obtain ⟨_, _, eov⟩ := owns_shapeE hown
  simp only [Value.slice.injEq] at eov
  obtain ⟨e1, rfl, e3⟩ := eov
  clear e1 e3
  obtain ⟨W3, hW3⟩ : ∃ W3, W3 = w2.alloc (.cells #[.slice op M.length oc] 75) := ⟨_, rfl⟩
  rw [← hW3]
  have hb3 : Below w2.heap.size w2 W3 := by rw [hW3]; exact below_alloc _ _
  have HB3 := Lib.hid (hb2.trans (hb3.mono hb2.size))
  have BS : Hid (Box W3 w2.heap.size 75 (.slice op M.length oc)) := Lib.hid (by rw [hW3]; exact Box.new _ _ _)
  have SL := Lib.hid (Sl.of_owns (ownsRow_below hown hb3) (by have := HW.out.1.2; omega))
  obtain ⟨bs, hbs⟩ : ∃ bs, bs = w2.heap.size := ⟨_, rfl⟩
  rw [← hbs] at BS ⊢
  have hcp := (HP.out.keep HB3.out).cell
  clear hcx hcy hov hown hb2 hb3 hW3 hbs
  go_upto_region 5 with (first
    | (go_at_call 80; refine (implGraphOk_any _ q _ (HQ.out.below HB3.out)).mono ?_; rintro e w4 ⟨he, hb4⟩; rw [hd2.out] at he; subst he; have hcp4 := hb4.at' hcp; have hcs4 := (BS.out.keep hb4).cell; have hcx4 := ((HX.out.keep HB3.out).keep hb4).cell)
    | (go_at_call 82; refine (netsOf_any _ g _ ((HG.out.below HB3.out).below hb4) HW.out.1.1).mono ?_; rintro e w5 ⟨x, rfl, hown5, hb5⟩; obtain ⟨xp, xc, rfl⟩ := owns_shapeE hown5))
  obtain ⟨W6, hW6⟩ : ∃ W6, W6 = w5.alloc (.cells #[.slice xp g.length xc] 76) := ⟨_, rfl⟩
  rw [← hW6]
  have hb6 : Below w5.heap.size w5 W6 := by rw [hW6]; exact below_alloc _ _
  have hb56 : Below w4.heap.size w4 W6 := hb5.trans (hb6.mono hb5.size)
  have hb36 : Below W3.heap.size W3 W6 := hb4.trans (hb56.mono hb4.size)
  have HB6 := Lib.hid (HB3.out.trans (hb36.mono HB3.out.size))
  have HMD : Hid (MdB W6 g M w5.heap.size bs xp op xc oc) := Lib.hid
    ⟨by rw [hW6]; exact Box.new _ _ _, ⟨h16, by rw [indN_ofG HW.out.1.1]; exact Sl.of_owns (ownsRow_below hown5 hb6) (by omega)⟩, BS.out.keep hb36, SL.out.below hb36, HT.out.keep HB6.out, HW.out.1.1, fun a ha => (HW.out.2 a ha).1⟩
  obtain ⟨bn, hbn⟩ : ∃ bn, bn = w5.heap.size := ⟨_, rfl⟩
  rw [← hbn] at HMD ⊢
  have hM16 := HW.out.1.2
  have hcs6 := HMD.out.boxS.cell
  clear hcp hcp4 hcs4 hcx4 hb4 hb5 hb6 hb56 hb36 hown5 hW6 hbn hln1 hln2
  go_wp2_with fail
  go_loopw [37] (fun iv wr => ∃ i : Nat, i ≤ M.length ∧ iv = .int .i64 i ∧ Hid (∀ a, a < i → ConnS g (row M a)) ∧ Below W6.heap.size W6 wr) (fun iv _ => M.length - (intOf iv).toNat)
  case atStart => exact ⟨0, Nat.zero_le _, rfl, Lib.hid (fun a ha => absurd ha (Nat.not_lt_zero _)), Below.refl _ _⟩
  case round =>
    clear hcs6
    obtain ⟨i, hi, rfl, HCN, hb⟩ := hrel
    have HB := Lib.hid hb
    have HMR := Lib.hid (HMD.out.next hb)
    have hcn := HMR.out.boxN.cell
    by_cases hlt : i < M.length
    · obtain ⟨qb, qo, rfl, hq⟩ := HMR.out.get hlt
      have hset := HMD.out.sets i hlt
      obtain ⟨m, hm⟩ : ∃ m, m = mask (row M i) := ⟨_, rfl⟩
      have HSM : Hid (m < 65536 ∧ ∀ t, m.testBit t = true → t < g.length) := Lib.hid (by rw [hm]; exact set_mask h16 hset)
      have HDC : Hid (dec (ConnL (ofG g) (bitsOf m)) = dec (ConnS g (row M i))) := Lib.hid (by
        rw [hm, bits_maskS h16 hset]
        exact dec_congr ⟨fun h => ⟨⟨HMD.out.ok, hset⟩, h⟩, fun h => h.2⟩)
      rw [← hm] at hq
      clear hb hset hm
      by_cases hc : ConnS g (row M i)
      case neg =>
        have hdc := Lib.hid (dec_false hc)
        have HNB := Lib.hid (dec_false (HNOT.out i hlt hc))
        clear hc
        go_wp2_with (go_at_call 142; refine (connected_any _ _ g.length (ofG g) m rfl HSM.out.1 HSM.out.2 _ HMR.out.ne HMR.out.tab).mono ?_; rintro e w7 ⟨he7, hb7⟩; rw [HDC.out, hdc.out] at he7; subst he7)
        go_ret
        exact ⟨by rw [HNB.out]; rfl, HBA.out.trans ((HB6.out.trans ((HB.out.trans (hb7.mono HB.out.size)).mono HB6.out.size)).mono HBA.out.size)⟩
      have hdc := Lib.hid (dec_true hc)
      have HC2 := Lib.hid hc
      clear hc
      go_wp2_with (go_at_call 142; refine (connected_any _ _ g.length (ofG g) m rfl HSM.out.1 HSM.out.2 _ HMR.out.ne HMR.out.tab).mono ?_; rintro e w7 ⟨he7, hb7⟩; rw [HDC.out, hdc.out] at he7; subst he7)
      go_roundw
      case rel => exact ⟨i + 1, by omega, by go_num, Lib.hid (fun a ha => by
        by_cases e : a < i
        · exact HCN.out a e
        · obtain rfl : a = i := by omega
          exact HC2.out), HB.out.trans (hb7.mono HB.out.size)⟩
      case measure => simp [intOf]; omega
    · obtain rfl : i = M.length := by omega
      have HB0 := Lib.hid (HB6.out.trans (hb.mono HB6.out.size))
      have hcp := (HP.out.keep HB0.out).cell
      have HFF := Lib.hid (HFIN.out HCN.out)
      have hle := HLE.out
      obtain ⟨dd, hdd⟩ : ∃ dd, dd = dec (∃ e ∈ el, ¬ JoinP g (row M e.1) (row M e.2)) := ⟨_, rfl⟩
      rw [← hdd] at HFF
      have HDD := Lib.hid hdd
      clear hb hdd
      go_wp2_with (first
        | (go_at_call 144; refine (EDG.out _ _ (HQ.out.below HB0.out)).mono ?_; rintro e w7 ⟨u7, rfl, hp7, hb7⟩; have HP7 := Lib.hid hp7; obtain ⟨ep, ec, rfl⟩ := hp7.shape; clear hp7)
        | (go_at_call 143; refine (containsMd_any _ wr.heap.size el g M bn bs xp op xc oc HEL.out hle _ HP7.out (HMR.out.next hb7)).mono ?_; rintro e w8 ⟨he8, hb8⟩; rw [← HDD.out] at he8; subst he8))
      go_ret
      exact ⟨ret_bool HFF.out, HBA.out.trans ((HB0.out.trans ((hb7.trans (hb8.mono hb7.size)).mono HB0.out.size)).mono HBA.out.size)⟩

end Go.Proofs.YtmakhapdlkbbnaaDoor

/- Walks: the reference's search of a model: going on from the beginning of a word. -/
namespace Go.Proofs.YtmakhapdlkbbnaaDoor
open Go.RowKit

/-- What the search returns. -/
def FndR (w' : World) (u : Value) (ok : Bool) (o : Option (List Nat)) : Prop :=
  match o with
  | some x => ok = true ∧ Nums w' 2 .i64 u (natInts x)
  | none => ok = false

def FndE (e : Ending) (w' : World) (o : Option (List Nat)) : Prop := ∃ (u : Value) (ok : Bool), e = .returned (.tuple #[u, .bool ok]) ∧ FndR w' u ok o
theorem grown_dNK {w w' : World} {r : Option Nat} {n : Nat} (h : (w.drewN n).grownBy w' r) : w.grownBy w' r := ⟨h.os, h.tape, h.output, h.size, h.block⟩
theorem grown_transK {w w1 w2 : World} {r : Option Nat} (h : w.grownBy w1 r) (h2 : w1.grownBy w2 r) : w.grownBy w2 r :=
  ⟨h2.os.trans h.os, h2.tape.trans h.tape, h2.output.trans h.output, Nat.le_trans h.size h2.size, fun k hk hne => (h2.block k (Nat.lt_of_lt_of_le hk h.size) hne).trans (h.block k hk hne)⟩
/-- Behind a second step too all but one block is as it was. -/
theorem grown_transB {w0 w w' : World} {rb r : Option Nat} (h : w0.grownBy w rb) (h2 : w.grownBy w' r) (hr : ∀ k, r = some k → rb = some k ∨ w0.heap.size ≤ k) : w0.grownBy w' rb :=
  ⟨h2.os.trans h.os, h2.tape.trans h.tape, h2.output.trans h.output, Nat.le_trans h.size h2.size, fun k hk hne => (h2.block k (Nat.lt_of_lt_of_le hk h.size) fun e => by
    rcases hr k e.symm with h5 | h5
    · exact hne h5.symm
    · omega).trans (h.block k hk hne)⟩
theorem own_newK {w0 : World} {n b m c : Nat} {v : Value} {rb : Option Nat} (hs : w0.heap.size ≤ n) (h : ∀ k, v.ownBlock = some k → rb = some k ∨ w0.heap.size ≤ k) (hb : v.ownBlock = some b ∨ n ≤ b) : ∀ q, (Value.slice (some ⟨b, 0, none⟩) m c).ownBlock = some q → rb = some q ∨ w0.heap.size ≤ q := fun q hq => by
  simp only [Value.ownBlock, Option.some.injEq] at hq
  subst hq
  rcases hb with hb | hb
  · exact h _ hb
  · exact .inr (by omega)
theorem one_ints {K : IntKind} (l : List Int) : ∀ x ∈ l.map (Value.int K), x.oneCell' = true := fun x hx => by
  obtain ⟨y, _, rfl⟩ := List.mem_map.1 hx
  rfl

set_option maxRecDepth 100000 in
set_option maxHeartbeats 4000000 in
theorem l21Find_any (v pv : Value) (g p : List (List Int)) (hok : GOk g) (hp : GOk p) (w0 : World) (rb : Option Nat) (hro : ∀ w', w0.grownBy w' rb → Nums w' 2 .i64 v (natInts (netL g)) ∧ Gr w' pv p) :
    ∀ (r : Nat) (wd : List Nat) (xv : Value) (w : World), wd.length + r = g.length → (∀ x ∈ wd, x ≤ p.length) → w0.grownBy w rb → (∀ k, xv.ownBlock = some k → rb = some k ∨ w0.heap.size ≤ k) → w.ownsRow 0 2 1 xv wd.length ((natInts wd).map (Value.int .i64)) →
    Calls Tryd.prog 121 #[v, pv, xv] w fun e w' => FndE e w' (findN p.length (FitW p.length (ofG g) (ofG p)) r wd) ∧ w'.ownsRow 0 2 1 xv wd.length ((natInts wd).map (Value.int .i64)) ∧ w.grownBy w' xv.ownBlock := by
  have h16 := hok.le
  have hm16 := hp.le
  have HOK := Lib.hid hok
  have HP := Lib.hid hp
  obtain ⟨hn, hg⟩ := hro w0 (World.grownBy.refl _ _)
  have HNL : Hid ((natInts (netL g)).length = g.length) := Lib.hid (by rw [natInts_length]; simp [netL])
  obtain ⟨np, nc, rfl, _⟩ := id hn.shape
  obtain ⟨pu, rfl, hr⟩ := hg
  obtain ⟨pp, pc, rfl, _⟩ := hr.shape
  have HRO := Lib.hid hro
  rw [HNL.out] at HRO ⊢
  clear hn hr hok hp hro
  intro r
  induction r with
  | zero =>
    intro wd xv w hl hm hb hbk hown
    obtain ⟨xp, xc, rfl⟩ := owns_shapeK hown
    obtain ⟨W1, hW1⟩ : ∃ W1, W1 = w.alloc (.cells #[.slice pp p.length pc] 29) := ⟨_, rfl⟩
    have HBA : Hid (Below w.heap.size w W1) := Lib.hid (by rw [hW1]; exact below_alloc _ _)
    have BX : Hid (Box W1 w.heap.size 29 (.slice pp p.length pc)) := Lib.hid (by rw [hW1]; exact Box.new _ _ _)
    have HB1 : Hid (w0.grownBy W1 rb) := Lib.hid (grown_transB hb (grown_of_below HBA.out none) (fun k hk => by cases hk))
    have HN := Lib.hid (HRO.out W1 HB1.out).1
    have HG := Lib.hid (HRO.out W1 HB1.out).2
    have HOW := Lib.hid hown
    have HXS : Hid (Sl W1 2 (.slice xp wd.length xc) wd.length ((natInts wd).map (Value.int .i64))) := Lib.hid (Sl.of_owns (ownsRow_below hown HBA.out) (by omega))
    have HX : Hid (Nums W1 2 .i64 (.slice xp wd.length xc) (natInts wd)) := Lib.hid (Nums.of_owns (ownsRow_below hown HBA.out) (by rw [natInts_length]) (by omega))
    have HM := Lib.hid hm
    have hw16 : wd.length ≤ 16 := by omega
    have HWL : Hid (wd.length = g.length) := Lib.hid (by omega)
    have hcx := BX.out.cell
    rw [← HWL.out] at HN ⊢
    have HL1 := Lib.hid (l21Lacks_any (.slice xp wd.length xc) wd p.length p.length rfl (by omega) W1 HX.out)
    have hlkm := lackW_le p.length wd
    clear hown hb hm hl hbk
    by_cases hlk : 0 < lackW p.length wd
    · have HF := Lib.hid (findN_lack (Fit := FitW p.length (ofG g) (ofG p)) hlk)
      generalize lackW p.length wd = lk at hlk HL1 hlkm
      have hlki : (0 : Int) < (lk : Int) := by omega
      go_enter Tryd.func121, Tryd.ntmps121
      go_upto_region 1 with fail
      rw [← hW1]
      clear hW1
      go_wp2_with (go_at_call 189; refine HL1.out.mono ?_; rintro e w5 ⟨rfl, hw5⟩; subst hw5)
      go_ret2
      refine ⟨⟨_, false, rfl, by rw [HF.out]; rfl⟩, ?_, ?_⟩
      · exact (ownsRow_below HOW.out HBA.out).alloc _
      · exact grown_of_below (HBA.out.alloc HBA.out.size _) _
    · have HF := Lib.hid (findN_leaf (Fit := FitW p.length (ofG g) (ofG p)) hlk)
      generalize lackW p.length wd = lk at hlk HL1 hlkm
      have hlki : ¬ (0 : Int) < (lk : Int) := by omega
      go_enter Tryd.func121, Tryd.ntmps121
      go_upto_region 1 with fail
      rw [← hW1]
      clear hW1
      go_upto_region 5 with (go_at_call 189; refine HL1.out.mono ?_; rintro e w5 ⟨rfl, hw5⟩; subst hw5)
      obtain ⟨fb, hfb⟩ : ∃ fb, fb = dec (FitW p.length (ofG g) (ofG p) wd) := ⟨_, rfl⟩
      have HFB := Lib.hid hfb
      have ONE := Lib.hid (one_ints (K := .i64) (natInts wd))
      have LEN : Hid (((natInts wd).map (Value.int .i64)).length = wd.length) := Lib.hid (by simp [natInts])
      clear hfb
      go_cut [6, 7] (fun s6 s7 wx => Nums wx 2 .i64 s6 (natInts wd) ∧ s7 = .bool fb ∧ Below W1.heap.size W1 wx)
      case first =>
        go_region_held3 (fun w' => w'.cell? ⟨w.heap.size, 0, none⟩ = some (.slice pp p.length pc))
          (first | exact hcx | exact BWB.at' hcx | exact BWA.at' hcx | go_keep)
          (first
            | (go_at_call 190; refine (l1Copy_any _ wd.length _ ONE.out LEN.out _ (by first | exact HXS.out.below BWB | exact HXS.out.below (below_dN (Below.refl _ _) 1))).mono ?_; rintro e w3 ⟨u3, rfl, ho3, hb3⟩; have BWA : Below W1.heap.size W1 w3 := (by first | exact BWB.trans (hb3.mono BWB.size) | exact (below_dN (Below.refl _ _) 1).trans hb3); have HU3 : Hid (Nums w3 2 .i64 u3 (natInts wd)) := Lib.hid (Nums.of_owns ho3 (by rw [natInts_length]) (by omega)); clear ho3 hb3)
            | (go_at_call 191; refine (l21Fits_any _ _ _ g p HOK.out HP.out wd HWL.out HM.out _ (HN.out.below (by first | exact BWA | exact below_dN (Below.refl _ _) 1)) (HG.out.below (by first | exact BWA | exact below_dN (Below.refl _ _) 1)) (HX.out.below (by first | exact BWA | exact below_dN (Below.refl _ _) 1))).mono ?_; rintro e w4 ⟨he4, hb4⟩; rw [← HFB.out] at he4; subst he4; have BWB : Below W1.heap.size W1 w4 := (by first | exact BWA.trans (hb4.mono BWA.size) | exact (below_dN (Below.refl _ _) 1).trans hb4)))
        all_goals go_wp2
        all_goals go_meet
        all_goals first
          | exact ⟨HU3.out, rfl, BWA⟩
          | exact ⟨HU3.out.below hb4, rfl, BWB⟩
      case rest =>
      obtain ⟨hu, rfl, hbx⟩ := hcut
      have HU := Lib.hid hu
      have HBX := Lib.hid hbx
      clear hu hbx
      go_wp2_with fail
      go_ret2
      refine ⟨⟨_, fb, rfl, ?_⟩, ?_, ?_⟩
      · rw [HF.out, ← HFB.out]
        cases fb
        · exact rfl
        · exact ⟨rfl, HU.out⟩
      · exact ownsRow_below HOW.out (HBA.out.trans (HBX.out.mono HBA.out.size))
      · exact grown_of_below (HBA.out.trans (HBX.out.mono HBA.out.size)) _
  | succ r ih =>
    have HIH := Lib.hid ih
    clear ih
    intro wd xv w hl hm hb hbk hown
    obtain ⟨xp, xc, rfl⟩ := owns_shapeK hown
    obtain ⟨W1, hW1⟩ : ∃ W1, W1 = w.alloc (.cells #[.slice pp p.length pc] 29) := ⟨_, rfl⟩
    have HBA : Hid (Below w.heap.size w W1) := Lib.hid (by rw [hW1]; exact below_alloc _ _)
    have BX : Hid (Box W1 w.heap.size 29 (.slice pp p.length pc)) := Lib.hid (by rw [hW1]; exact Box.new _ _ _)
    have HB1 : Hid (w0.grownBy W1 rb) := Lib.hid (grown_transB hb (grown_of_below HBA.out none) (fun k hk => by cases hk))
    have HBK := Lib.hid hbk
    have HOW := Lib.hid hown
    have HOW1 := Lib.hid (ownsRow_below hown HBA.out)
    have HX : Hid (Nums W1 2 .i64 (.slice xp wd.length xc) (natInts wd)) := Lib.hid (Nums.of_owns (ownsRow_below hown HBA.out) (by rw [natInts_length]) (by omega))
    have HM := Lib.hid hm
    have HWL := Lib.hid hl
    have hcx := BX.out.cell
    have HNE : Hid (some w.heap.size ≠ (Value.slice xp wd.length xc).ownBlock) := Lib.hid (fun e => by have := (hown.lt _ e.symm).2; omega)
    have HL1 := Lib.hid (l21Lacks_any (.slice xp wd.length xc) wd p.length p.length rfl (by omega) W1 HX.out)
    have hlkm := lackW_le p.length wd
    have hws : IntKind.i64.wrap ((g.length : Int) - (wd.length : Int)) = (r : Int) + 1 := by rw [IntKind.wrap_i64]; omega
    have hwlt : wd.length < g.length := by omega
    clear hown hb hm hl hbk
    by_cases hlk : r + 1 < lackW p.length wd
    · have HF := Lib.hid (findN_lack (Fit := FitW p.length (ofG g) (ofG p)) hlk)
      generalize lackW p.length wd = lk at hlk HL1 hlkm
      have hlki : (r : Int) + 1 < (lk : Int) := by omega
      go_enter Tryd.func121, Tryd.ntmps121
      go_upto_region 1 with fail
      rw [← hW1]
      clear hW1
      go_wp2_with (go_at_call 189; refine HL1.out.mono ?_; rintro e w5 ⟨rfl, hw5⟩; subst hw5)
      go_ret2
      refine ⟨⟨_, false, rfl, by rw [HF.out]; rfl⟩, ?_, ?_⟩
      · exact (ownsRow_below HOW.out HBA.out).alloc _
      · exact grown_of_below (HBA.out.alloc HBA.out.size _) _
    · have HF := Lib.hid (findN_node (Fit := FitW p.length (ofG g) (ofG p)) hlk)
      generalize lackW p.length wd = lk at hlk HL1 hlkm
      have hlki : ¬ (r : Int) + 1 < (lk : Int) := by omega
      have hwne : ((wd.length : Int) == (g.length : Int)) = false := beq_eq_false_iff_ne.2 (by omega)
      have hwne2 : ¬ wd.length = g.length := by omega
      go_enter Tryd.func121, Tryd.ntmps121
      go_upto_region 1 with fail
      rw [← hW1]
      clear hW1
      go_wp2_with (go_at_call 189; refine HL1.out.mono ?_; rintro e w5 ⟨rfl, hw5⟩; subst hw5)
      go_loopw [9] (fun iv wr => ∃ k : Nat, k ≤ p.length + 1 ∧ iv = .int .i64 k ∧ Hid ((List.range k).findSome? (fun c => findN p.length (FitW p.length (ofG g) (ofG p)) r (wd ++ [c])) = none) ∧ Hid (wr.ownsRow 0 2 1 (.slice xp wd.length xc) wd.length ((natInts wd).map (Value.int .i64))) ∧ Hid (W1.grownBy wr (Value.slice xp wd.length xc).ownBlock)) (fun iv _ => p.length + 1 - (intOf iv).toNat)
      case atStart => exact ⟨0, Nat.zero_le _, rfl, Lib.hid (by simp), HOW1, Lib.hid (World.grownBy.refl _ _)⟩
      case round =>
        obtain ⟨k, hk, rfl, HSK, HOR, HGR⟩ := hrel
        have hcx := (BX.out.grown HGR.out HNE.out).cell
        have hsr : 0 ≤ wr.heap.size := Nat.zero_le _
        have HBR : Hid (w0.grownBy wr rb) := Lib.hid (grown_transB HB1.out HGR.out HBK.out)
        have BXR := Lib.hid (BX.out.grown HGR.out HNE.out)
        by_cases hlt : k ≤ p.length
        · have hlti : (k : Int) ≤ (p.length : Int) := by omega
          have HLN : Hid ((wd ++ [k]).length + r = g.length) := Lib.hid (by have := HWL.out; rw [List.length_append, List.length_singleton]; omega)
          have HMN : Hid (∀ x ∈ wd ++ [k], x ≤ p.length) := Lib.hid (fun x hx => by
            rcases List.mem_append.1 hx with h | h
            · exact HM.out x h
            · rw [List.mem_singleton.1 h]; exact hlt)
          have HRW : Hid ((natInts (wd ++ [k])).map (Value.int .i64) = (natInts wd).map (Value.int .i64) ++ [Value.int .i64 k] ∧ (wd ++ [k]).length = wd.length + 1) := Lib.hid ⟨by simp [natInts], by simp⟩
          have hw15 : wd.length < 1000000000 := by omega
          clear hlk hlki hws hwne hwne2
          go_upto_region 9 with fail
          go_cut [10, 11] (fun s10 s11 wx => FndE (.returned (.tuple #[s10, s11])) wx (findN p.length (FitW p.length (ofG g) (ofG p)) r (wd ++ [k])) ∧ Hid (wx.ownsRow 0 2 1 (.slice xp wd.length xc) wd.length ((natInts wd).map (Value.int .i64))) ∧ Hid (W1.grownBy wx (Value.slice xp wd.length xc).ownBlock))
          case first =>
            go_region_held3 (fun w' => w'.cell? ⟨w.heap.size, 0, none⟩ = some (.slice pp p.length pc))
              (first | exact hcx | exact hx8 | exact hx7 | go_keep)
              (first
                | (refine step_app1K (w := wr.drewN 1) (s := .tmp 44) (x := .tmp 46) ty_i64 rfl rfl rfl HOR.out rfl rfl hw15 hsr ?_; intro b7 c8 w7 hown7 hg7 hk7 hb7; have HOK7 := Lib.hid hk7; have HG7 := Lib.hid (grown_dNK hg7); have hx7 := (BXR.out.grown HG7.out HNE.out).cell; have HB7 : Hid (w0.grownBy w7 rb) := Lib.hid (grown_transB HBR.out HG7.out HBK.out); have HBK7 : Hid (∀ q, (Value.slice (some ⟨b7, 0, none⟩) (wd.length + 1) c8).ownBlock = some q → rb = some q ∨ w0.heap.size ≤ q) := Lib.hid (own_newK HBR.out.size HBK.out hb7); have HO7 := Lib.hid hown7; have BX7 := Lib.hid (BXR.out.grown HG7.out HNE.out); clear hown7 hg7 hk7 hb7)
                | (go_at_call 121; refine (HIH.out (wd ++ [k]) _ _ HLN.out HMN.out HB7.out HBK7.out (by rw [HRW.out.1, HRW.out.2]; exact HO7.out)).mono ?_; rintro e w8 ⟨⟨u8, ok8, rfl, hf8⟩, ho8, hg8⟩; have HF8 := Lib.hid hf8; have HK8 := Lib.hid (HOK7.out w8 hg8 (by rw [HRW.out.1, HRW.out.2] at ho8; exact ho8)); have hx8 := (BXR.out.grown (grown_dNK HK8.out.2) HNE.out).cell; clear hf8 ho8 hg8))
            all_goals go_wp2
            all_goals go_meet
            all_goals exact ⟨⟨_, _, rfl, HF8.out⟩, Lib.hid HK8.out.1, Lib.hid (grown_transK HGR.out (grown_dNK HK8.out.2))⟩
          case rest =>
          obtain ⟨⟨u9, ok, he9, hfr⟩, HOC, HGC⟩ := hcut
          simp only [Ending.returned.injEq, Value.tuple.injEq, Array.mk.injEq, List.cons.injEq, and_true] at he9
          obtain ⟨rfl, rfl⟩ := he9
          have HFR := Lib.hid hfr
          clear hfr
          cases hfo : findN p.length (FitW p.length (ofG g) (ofG p)) r (wd ++ [k]) with
          | none =>
            rw [hfo] at HFR
            obtain rfl : ok = false := HFR.out
            have HSN : Hid ((List.range (k + 1)).findSome? (fun c => findN p.length (FitW p.length (ofG g) (ofG p)) r (wd ++ [c])) = none) := Lib.hid (fsome_skip HSK.out hfo)
            clear hfo
            go_wp2_with fail
            go_roundw
            case rel => exact ⟨k + 1, by omega, by go_num, HSN, HOC, HGC⟩
            case measure => simp [intOf]; omega
          | some x =>
            rw [hfo] at HFR
            obtain ⟨hok1, hnx⟩ := HFR.out
            subst hok1
            have HFX : Hid (findN p.length (FitW p.length (ofG g) (ofG p)) (r + 1) wd = some x) := Lib.hid (by rw [HF.out]; exact fsome_stop HSK.out (by omega) hfo)
            have HNX := Lib.hid hnx
            clear hfo hnx
            go_wp2_with fail
            go_ret2
            exact ⟨⟨_, true, rfl, by rw [HFX.out]; exact ⟨rfl, HNX.out⟩⟩, HOC.out, grown_transK (grown_of_below HBA.out _) HGC.out⟩
        · obtain rfl : k = p.length + 1 := by omega
          have hlti : ¬ (p.length : Int) + 1 ≤ (p.length : Int) := by omega
          have HFX : Hid (findN p.length (FitW p.length (ofG g) (ofG p)) (r + 1) wd = none) := Lib.hid (by rw [HF.out]; exact HSK.out)
          clear hlk hlki hws hwne hwne2
          go_wp2_with fail
          go_ret2
          refine ⟨⟨_, false, rfl, by rw [HFX.out]; rfl⟩, HOR.out.alloc _, ?_⟩
          exact grown_transK (grown_of_below HBA.out _) (grown_transK HGR.out (grown_of_below (below_alloc _ _) _))

end Go.Proofs.YtmakhapdlkbbnaaDoor
