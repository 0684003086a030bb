/- Walk: how the reference tells a model. -/
import Derived.Test.YtfokiijcpkhllaaDoorFdQ41
import Derived.Test.YtfokiijcpkhllaaDoorFdQ1
import Derived.Test.YtfokiijcpkhllaaDoorFdQ40
namespace Go.Proofs.YtfokiijcpkhllaaDoor
open Go.RowKit

theorem three_boxesM (w : World) (a b c : Value) (T1 T2 T3 : TypeId) : ∃ W, W = ((w.alloc (.cells #[a] T1)).alloc (.cells #[b] T2)).alloc (.cells #[c] T3) ∧ Below w.heap.size w W ∧ W.heap.size = w.heap.size + 3 ∧
    Box W w.heap.size T1 a ∧ Box W (w.heap.size + 1) T2 b ∧ Box W (w.heap.size + 2) T3 c := by
  refine ⟨_, rfl, (below_alloc2 _ _ _).alloc (by rw [size_alloc, size_alloc]; omega) _, by rw [size_alloc, size_alloc, size_alloc], ((Box.new w _ _).alloc _).alloc _, ?_, ?_⟩
  · have := Box.new (w.alloc (.cells #[a] T1)) b T2
    rw [size_alloc] at this
    exact this.alloc _
  · have := Box.new ((w.alloc (.cells #[a] T1)).alloc (.cells #[b] T2)) c T3
    rw [size_alloc, size_alloc] at this
    exact this

theorem mdOk_sets {g q M : List (List Int)} (h : MdOk g q M) {a : Nat} (ha : a < M.length) : SetIn g.length (row M a) := (h.1.1.1.2 a ha).1

set_option maxRecDepth 100000 in
set_option maxHeartbeats 4000000 in
theorem specModelOk_any (v pv mv : Value) (g q M : List (List Int)) (hgl : g.length ≤ 1000000000) (w : World) (hg : Gr w v g) (hq : Gr w pv q) (hm : Gr w mv M) :
    Calls Tryd.prog 31 #[v, pv, mv] w fun e w' => e = .returned (.bool (dec (MdOk g q M))) ∧ Below w.heap.size w w' := by
  have hg0 := hg
  have hq0 := hq
  have hm0 := hm
  obtain ⟨u, rfl, hr⟩ := hg
  obtain ⟨p, c, rfl, _⟩ := hr.shape
  obtain ⟨u, rfl, hqr⟩ := hq
  obtain ⟨pp, pc, rfl, _, hpc, hpl⟩ := hqr.shape
  obtain ⟨mu, rfl, hs⟩ := hm
  obtain ⟨sp, sc, rfl, _, hsc, hsl⟩ := hs.shape
  obtain ⟨W0, hW0, hbA, SZ0, BX, BP, BY⟩ := three_boxesM w (.slice p g.length c) (.slice pp q.length pc) (.slice sp M.length sc) 29 29 49
  have hbA := Lib.hid hbA
  have SZ0 := Lib.hid SZ0
  have BX := Lib.hid BX
  have BP := Lib.hid BP
  have BY := Lib.hid BY
  have HG := Lib.hid (hg0.below hbA.out)
  have HQ := Lib.hid (hq0.below hbA.out)
  have HM := Lib.hid (hm0.below hbA.out)
  have HS := Lib.hid (hs.below hbA.out)
  clear hr hg0 hq0 hm0 hqr hs
  rename_i hbA0 SZ00 BX0 BP0 BY0
  clear hbA0 SZ00 BX0 BP0 BY0
  by_cases hw : MdW g M
  case neg =>
    have hd := Lib.hid (dec_false hw)
    have HD := Lib.hid (dec_false (show ¬ MdOk g q M from fun h => hw h.1.1.1))
    clear hw
    go_enter Tryd.func31, Tryd.ntmps31
    go_upto_region 1 with fail
    rw [← hW0]
    clear hW0
    have hcx := BX.out.cell
    have hcy := BY.out.cell
    go_wp2_with (go_at_call 88; refine (specModelWord_any _ _ g M hgl _ HG.out HM.out).mono ?_; rintro e w2 ⟨ov, he, hb2⟩; rw [hd.out] at he; subst he)
    go_ret
    exact ⟨by rw [HD.out]; rfl, hbA.out.trans (hb2.mono hbA.out.size)⟩
  have hd := Lib.hid (dec_true hw)
  have HW := Lib.hid hw
  clear hw
  by_cases hpo : GOk q
  case neg =>
    have hd2 := Lib.hid (dec_false hpo)
    have HD := Lib.hid (dec_false (show ¬ MdOk g q M from fun h => hpo h.1.1.2))
    clear hpo
    go_enter Tryd.func31, Tryd.ntmps31
    go_upto_region 1 with fail
    rw [← hW0]
    clear hW0
    have hcx := BX.out.cell
    have hcy := BY.out.cell
    go_wp2_with (first
      | (go_at_call 88; refine (specModelWord_any _ _ g M hgl _ HG.out HM.out).mono ?_; rintro e w2 ⟨ov, he, hb2⟩; rw [hd.out] at he; subst he; have hcp := (BP.out.keep hb2).cell)
      | (go_at_call 50; refine (specGraphOk_any _ q _ (HQ.out.below hb2)).mono ?_; rintro e w3 ⟨he, hb3⟩; rw [hd2.out] at he; subst he))
    go_ret
    exact ⟨by rw [HD.out]; rfl, (hbA.out.trans (hb2.mono hbA.out.size)).trans (hb3.mono (Nat.le_trans hbA.out.size hb2.size))⟩
  have hd2 := Lib.hid (dec_true hpo)
  have HPO := Lib.hid hpo
  clear hpo
  by_cases hln : M.length = q.length
  case neg =>
    have HD := Lib.hid (dec_false (show ¬ MdOk g q M from fun h => hln h.1.2))
    have hln' : ¬ (M.length : Int) = (q.length : Int) := by omega
    clear hln
    go_enter Tryd.func31, Tryd.ntmps31
    go_upto_region 1 with fail
    rw [← hW0]
    clear hW0
    have hcx := BX.out.cell
    have hcy := BY.out.cell
    go_wp2_with (first
      | (go_at_call 88; refine (specModelWord_any _ _ g M hgl _ HG.out HM.out).mono ?_; rintro e w2 ⟨ov, he, hb2⟩; rw [hd.out] at he; subst he; have hcp := (BP.out.keep hb2).cell; have hcm := (BY.out.keep hb2).cell)
      | (go_at_call 50; refine (specGraphOk_any _ q _ (HQ.out.below hb2)).mono ?_; rintro e w3 ⟨he, hb3⟩; rw [hd2.out] at he; subst he; have hcp3 := hb3.at' hcp; have hcm3 := hb3.at' hcm))
    go_ret
    exact ⟨by rw [HD.out]; rfl, (hbA.out.trans (hb2.mono hbA.out.size)).trans (hb3.mono (Nat.le_trans hbA.out.size hb2.size))⟩
  have HLN := Lib.hid hln
  have HTRI : Hid ((MdW g M ∧ GOk q) ∧ M.length = q.length) := Lib.hid ⟨⟨HW.out, HPO.out⟩, hln⟩
  have hln1 : (!((M.length : Int) == (q.length : Int))) = false := by rw [hln]; simp
  have hln2 : ((M.length : Int) != (q.length : Int)) = false := by rw [hln]; simp
  obtain ⟨el, hel⟩ : ∃ el, el = edN q.length (ofG q) q.length := ⟨_, rfl⟩
  have HLE : Hid (el.length ≤ 256) := Lib.hid (by
    rw [hel]
    have h16 := HPO.out.le
    have := edN_length q.length (ofG q) q.length
    have : q.length * q.length ≤ 16 * 16 := Nat.mul_le_mul h16 h16
    omega)
  have EDG : Hid (∀ (wz : World) (vz : Value), Gr wz vz q → Calls Tryd.prog 90 #[vz] wz fun e w' => ∃ u : Value, e = .returned u ∧ PrsO w' wz.heap.size u el ∧ Below wz.heap.size wz w') := Lib.hid (fun wz vz hz => by rw [hel]; exact specEdgesOf_any _ q HPO.out _ hz)
  have HEL : Hid (∀ e ∈ el, e.1 < M.length ∧ e.2 < M.length) := Lib.hid (fun e he => by
    rw [hel] at he
    obtain ⟨h1, h2, _⟩ := mem_edN (Nat.le_refl _) he
    rw [HLN.out]
    exact ⟨h1, h2⟩)
  have HYES : Hid ((∀ a, a < M.length → ConnS g (row M a)) → (∀ e ∈ el, JoinP g (row M e.1) (row M e.2)) → MdOk g q M) := Lib.hid (fun h1 h2 => ⟨HTRI.out, h1, by rw [← hel]; exact h2⟩)
  have HNOT : Hid (∀ e ∈ el, ¬ JoinP g (row M e.1) (row M e.2) → ¬ MdOk g q M) := Lib.hid (fun e he h1 h => h1 (h.2.2 e (by rw [← hel]; exact he)))
  clear hln hel
  go_enter Tryd.func31, Tryd.ntmps31
  go_upto_region 1 with fail
  rw [← hW0]
  clear hW0
  have hcx := BX.out.cell
  have hcy := BY.out.cell
  go_upto_region 4 with (first
    | (go_at_call 88; refine (specModelWord_any _ _ g M hgl _ HG.out HM.out).mono ?_; rintro e w2 ⟨ov, he, hb2⟩; rw [hd.out] at he; subst he; have hcp := (BP.out.keep hb2).cell; have hcm := (BY.out.keep hb2).cell)
    | (go_at_call 50; refine (specGraphOk_any _ q _ (HQ.out.below hb2)).mono ?_; rintro e w3 ⟨he, hb3⟩; rw [hd2.out] at he; subst he; have hcp3 := hb3.at' hcp; have hcm3 := hb3.at' hcm))
  have HB3 := Lib.hid (hb2.trans (hb3.mono hb2.size))
  have hM16 := HW.out.1.2
  clear hb2 hb3 hcx hcy hcp hcm hcp3 hcm3 hln1 hln2
  go_wp2_with fail
  go_loopw [9] (fun iv wr => ∃ i : Nat, i ≤ M.length ∧ iv = .int .i64 i ∧ Hid (∀ a, a < i → ConnS g (row M a)) ∧ Below W0.heap.size W0 wr) (fun iv _ => M.length - (intOf iv).toNat)
  case atStart => exact ⟨0, Nat.zero_le _, rfl, Lib.hid (fun a ha => absurd ha (Nat.not_lt_zero _)), HB3.out⟩
  case round =>
    clear HB3
    obtain ⟨i, hi, rfl, HCN, hb⟩ := hrel
    have HB := Lib.hid hb
    have hcx := hb.at (by have := SZ0.out; omega) BX.out.cell
    have hcy := hb.at (by have := SZ0.out; omega) BY.out.cell
    by_cases hlt : i < M.length
    · obtain ⟨sb, so, rp, rc, rfl, hce, hne⟩ := (HS.out.below hb).get (k := i) hlt
      replace hce : wr.cell? ⟨sb, so + i, none⟩ = some (.slice rp (row M i).length rc) := hce
      replace hne : Nums wr 2 .i64 (.slice rp (row M i).length rc) (row M i) := hne
      have HNI := Lib.hid hne
      obtain ⟨rl, hrl⟩ : ∃ rl, rl = (row M i).length := ⟨_, rfl⟩
      rw [← hrl] at hce HNI
      clear hne hb hrl
      go_upto_region 7 with fail
      go_cut [50] (fun s50 wx => s50 = .bool (!dec (ConnS g (row M i))) ∧ Below wr.heap.size wr wx)
      case first =>
        go_region_held3 (fun w' => w'.cell? ⟨w.heap.size, 0, none⟩ = some (.slice p g.length c) ∧ w'.cell? ⟨w.heap.size + 2, 0, none⟩ = some (.slice (some ⟨sb, so, none⟩) M.length sc) ∧ w'.cell? ⟨sb, so + i, none⟩ = some (.slice rp rl rc))
          (first | exact ⟨hcx, hcy, hce⟩ | exact ⟨hb4'.at' hcx, hb4'.at' hcy, hb4'.at' hce⟩ | go_keep)
          (first | (go_at_call 89; refine (specConnectedIn_any _ _ g (row M i) hgl _ (HG.out.below (HB.out.trans (below_dN (Below.refl _ _) 1))) (HNI.out.below (below_dN (Below.refl _ _) 1))).mono ?_; rintro e w4 ⟨rfl, hb4⟩; have hb4' : Below wr.heap.size wr w4 := (below_dN (Below.refl _ _) 1).trans hb4))
        all_goals go_wp2
        all_goals go_meet
        all_goals exact ⟨rfl, hb4'⟩
      case rest =>
      obtain ⟨rfl, hbc⟩ := hcut
      have HBC := Lib.hid (HB.out.trans (hbc.mono HB.out.size))
      clear hce hbc HNI hcx hcy
      by_cases hcn : ConnS g (row M i)
      case neg =>
        have HNB := Lib.hid (dec_false (show ¬ MdOk g q M from fun h => hcn (h.2.1 i hlt)))
        rw [dec_false hcn]
        clear hcn
        go_wp2_with fail
        go_ret
        exact ⟨by rw [HNB.out]; rfl, hbA.out.trans (HBC.out.mono hbA.out.size)⟩
      have HC2 := Lib.hid hcn
      rw [dec_true hcn]
      clear hcn
      go_wp2_with fail
      go_roundw
      case rel => exact ⟨i + 1, by omega, by go_num, Lib.hid (fun a ha => by
        by_cases e : a < i
        · exact HCN.out a e
        · obtain rfl : a = i := by omega
          exact HC2.out), HBC.out⟩
      case measure => simp [intOf]; omega
    · obtain rfl : i = M.length := by omega
      have hcp := hb.at (by have := SZ0.out; omega) BP.out.cell
      clear hb hcx
      go_wp2_with (go_at_call 90; refine (EDG.out _ _ (HQ.out.below HB.out)).mono ?_; rintro e w5 ⟨u5, rfl, hp5, hb5⟩)
      have HB5 := Lib.hid (HB.out.trans (hb5.mono HB.out.size))
      have HP5 := Lib.hid hp5
      obtain ⟨ep, ec, rfl⟩ := hp5.shape
      have hle := HLE.out
      clear hb5 hp5 HB hcp hcy
      go_loopw [11] (fun iv wr => ∃ i : Nat, i ≤ el.length ∧ iv = .int .i64 i ∧ Hid (∀ e ∈ el.take i, JoinP g (row M e.1) (row M e.2)) ∧ Below w5.heap.size w5 wr) (fun iv _ => el.length - (intOf iv).toNat)
      case atStart => exact ⟨0, Nat.zero_le _, rfl, Lib.hid (fun e he => by simp at he), Below.refl _ _⟩
      case round =>
        obtain ⟨i, hi, rfl, HJN, hb⟩ := hrel
        have HB := Lib.hid (HB5.out.trans (hb.mono HB5.out.size))
        have HBW := Lib.hid hb
        by_cases hlt : i < el.length
        · have hcx := HB.out.at (by have := SZ0.out; omega) BX.out.cell
          have hcy := HB.out.at (by have := SZ0.out; omega) BY.out.cell
          obtain ⟨eb, eo, rp, rc, rfl, hce, hne⟩ := (HP5.out.below hb).get hlt
          have htk := Lib.hid (take_snoc' el i hlt)
          have HMEM := Lib.hid (List.getElem_mem hlt)
          obtain ⟨⟨a, b⟩, hab⟩ : ∃ e : Nat × Nat, e = el[i] := ⟨_, rfl⟩
          rw [← hab] at hne htk HMEM
          have hm2 := HEL.out _ HMEM.out
          simp only at hne hm2
          obtain ⟨ha, hbM⟩ := hm2
          obtain ⟨rb, ro, rfl, hc0⟩ := hne.get (k := 0) (by simp)
          obtain ⟨_, _, e1, hc1⟩ := hne.get (k := 1) (by simp)
          cases e1
          simp only [List.getElem_cons_zero, List.getElem_cons_succ, Nat.add_zero] at hc0 hc1
          obtain ⟨sb, so, ap, ac, rfl, hca, hna⟩ := (HS.out.below HB.out).get (k := a) ha
          obtain ⟨_, _, bp, bc, e2, hcb, hnb⟩ := (HS.out.below HB.out).get (k := b) hbM
          simp only [Option.some.injEq, Addr.mk.injEq, and_true] at e2
          obtain ⟨rfl, rfl⟩ := e2
          replace hca : wr.cell? ⟨sb, so + a, none⟩ = some (.slice ap (row M a).length ac) := hca
          replace hcb : wr.cell? ⟨sb, so + b, none⟩ = some (.slice bp (row M b).length bc) := hcb
          have HNA : Hid (Nums wr 2 .i64 (.slice ap (row M a).length ac) (row M a)) := Lib.hid hna
          have HNB : Hid (Nums wr 2 .i64 (.slice bp (row M b).length bc) (row M b)) := Lib.hid hnb
          have HDJ : Hid (dec (∃ e ∈ edN g.length (ofG g) g.length, BtwE (row M a) (row M b) e) = dec (JoinP g (row M a) (row M b))) := Lib.hid (dec_congr (join_btw HW.out.1.1 (HW.out.2 a ha).1).symm)
          obtain ⟨al, hal⟩ : ∃ al, al = (row M a).length := ⟨_, rfl⟩
          obtain ⟨bl, hbl⟩ : ∃ bl, bl = (row M b).length := ⟨_, rfl⟩
          rw [← hal] at hca HNA
          rw [← hbl] at hcb HNB
          clear hne hab hna hnb hal hbl hb
          go_upto_region 13 with fail
          go_cut [12, 13] (fun s12 s13 wx => s13 = .bool (dec (JoinP g (row M a) (row M b))) ∧ Below wr.heap.size wr wx)
          case first =>
            go_region_held3 (fun w' => w'.cell? ⟨w.heap.size, 0, none⟩ = some (.slice p g.length c) ∧ w'.cell? ⟨w.heap.size + 2, 0, none⟩ = some (.slice (some ⟨sb, so, none⟩) M.length sc) ∧ w'.cell? ⟨eb, eo + i, none⟩ = some (.slice (some ⟨rb, ro, none⟩) 2 rc) ∧ w'.cell? ⟨rb, ro, none⟩ = some (.int .i64 a) ∧ w'.cell? ⟨rb, ro + 1, none⟩ = some (.int .i64 b) ∧ w'.cell? ⟨sb, so + a, none⟩ = some (.slice ap al ac) ∧ w'.cell? ⟨sb, so + b, none⟩ = some (.slice bp bl bc))
              (first | exact ⟨hcx, hcy, hce, hc0, hc1, hca, hcb⟩ | exact ⟨hb4'.at' hcx, hb4'.at' hcy, hb4'.at' hce, hb4'.at' hc0, hb4'.at' hc1, hb4'.at' hca, hb4'.at' hcb⟩ | go_keep)
              (first | (go_at_call 91; refine (l21Between_any _ _ _ g (row M a) (row M b) HW.out.1.1 _ (HG.out.below (HB.out.trans (below_dN (Below.refl _ _) 1))) (HNA.out.below (below_dN (Below.refl _ _) 1)) (HNB.out.below (below_dN (Below.refl _ _) 1))).mono ?_; rintro e w4 ⟨ov4, he4, hb4⟩; rw [HDJ.out] at he4; subst he4; have hb4' : Below wr.heap.size wr w4 := (below_dN (Below.refl _ _) 1).trans hb4))
            all_goals go_wp2
            all_goals go_meet
            all_goals exact ⟨rfl, hb4'⟩
          case rest =>
          obtain ⟨rfl, hbc⟩ := hcut
          have HBC : Hid (Below w5.heap.size w5 wc) := Lib.hid (HBW.out.trans (hbc.mono HBW.out.size))
          clear hce hbc HNA HNB hcx hcy hc0 hc1 hca hcb
          by_cases hj : JoinP g (row M a) (row M b)
          case neg =>
            have HNB := Lib.hid (dec_false (HNOT.out _ HMEM.out hj))
            rw [dec_false hj]
            clear hj
            go_wp2_with fail
            go_ret
            exact ⟨by rw [HNB.out]; rfl, hbA.out.trans ((HB5.out.trans (HBC.out.mono HB5.out.size)).mono hbA.out.size)⟩
          have HJ2 := Lib.hid hj
          rw [dec_true hj]
          clear hj
          go_wp2_with fail
          go_roundw
          case rel => exact ⟨i + 1, by omega, by go_num, Lib.hid (fun e he => by
            rw [htk.out] at he
            rcases List.mem_append.1 he with h | h
            · exact HJN.out e h
            · obtain rfl : e = (a, b) := by simpa using h
              exact HJ2.out), HBC.out⟩
          case measure => simp [intOf]; omega
        · obtain rfl : i = el.length := by omega
          have HD := Lib.hid (dec_true (HYES.out HCN.out (by have := HJN.out; rwa [List.take_length] at this)))
          clear hb
          go_wp2_with fail
          go_ret
          exact ⟨by rw [HD.out]; rfl, hbA.out.trans (HB.out.mono hbA.out.size)⟩

end Go.Proofs.YtfokiijcpkhllaaDoor

/- Two boxes. -/
namespace Go.Proofs.YtfokiijcpkhllaaDoor
open Go.RowKit

theorem two_boxesM (w : World) (a b : Value) (T1 T2 : TypeId) : ∃ W, W = (w.alloc (.cells #[a] T1)).alloc (.cells #[b] T2) ∧ Below w.heap.size w W ∧ W.heap.size = w.heap.size + 2 ∧ Box W w.heap.size T1 a ∧ Box W (w.heap.size + 1) T2 b := by
  have h2 := Box.new (w.alloc (.cells #[a] T1)) b T2
  rw [size_alloc] at h2
  exact ⟨_, rfl, below_alloc2 _ _ _, by rw [size_alloc, size_alloc], (Box.new w a T1).alloc _, h2⟩

end Go.Proofs.YtfokiijcpkhllaaDoor

/- What the laws of several arguments use: arguments of bounded size, what stands after some copies, boxes. -/
namespace Go.Proofs.YtfokiijcpkhllaaDoor
open Go.RowKit

def SzG (g : List (List Int)) : Prop := g.length ≤ 1048576 ∧ ∀ j, j < g.length → (row g j).length ≤ 1048576
theorem OwnG.gr' {w : World} {base : Nat} {v : Value} {g : List (List Int)} (h : OwnG w base v g) (hs : SzG g) : Gr w v g :=
  h.gr (by have := hs.1; omega) fun j hj => by have := hs.2 j hj; omega
/-- What stands after some of the copies. -/
structure StM (W2 w' : World) (ys : List (Value × List (List Int))) : Prop where
  bel : Below W2.heap.size W2 w'
  own : ∀ y ∈ ys, OwnG w' W2.heap.size y.1 y.2
theorem StM.next {W2 w' w'' : World} {ys : List (Value × List (List Int))} (h : StM W2 w' ys) (hb : Below w'.heap.size w' w'') : StM W2 w'' ys :=
  ⟨h.bel.trans (hb.mono h.bel.size), fun y hy => (h.own y hy).below hb⟩
theorem StM.add {W2 w' w'' : World} {ys : List (Value × List (List Int))} {u : Value} {g : List (List Int)} (h : StM W2 w' ys) (hb : Below w'.heap.size w' w'') (ho : OwnG w'' w'.heap.size u g) : StM W2 w'' ((u, g) :: ys) :=
  ⟨(h.next hb).bel, fun y hy => by
    rcases List.mem_cons.1 hy with rfl | h1
    · exact ho.lower h.bel.size
    · exact (h.next hb).own y h1⟩
end Go.Proofs.YtfokiijcpkhllaaDoor
