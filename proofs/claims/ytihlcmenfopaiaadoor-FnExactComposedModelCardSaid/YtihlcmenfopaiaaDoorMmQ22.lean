/- Walk: the reference's word of a model. -/
import Derived.Test.YtihlcmenfopaiaaDoorMmQ19
import Derived.Test.YtihlcmenfopaiaaDoorMmQ21
namespace Go.Proofs.YtihlcmenfopaiaaDoor
open Go.RowKit

set_option maxRecDepth 100000 in
set_option maxHeartbeats 4000000 in
theorem specModelWord_any (v mv : Value) (g M : List (List Int)) (hgl : g.length ≤ 1000000000) (w : World) (hg : Gr w v g) (hm : Gr w mv M) :
    Calls Tryd.prog 113 #[v, mv] w fun e w' => ∃ ov, e = .returned (.tuple #[ov, .bool (dec (MdW g M))]) ∧ Below w.heap.size w w' := by
  have hg0 := hg
  obtain ⟨u, rfl, hr⟩ := hg
  obtain ⟨p, c, rfl, _⟩ := hr.shape
  obtain ⟨mu, rfl, hs⟩ := hm
  obtain ⟨sp, sc, rfl, _, hsc, hsl⟩ := hs.shape
  obtain ⟨W0, hW0⟩ : ∃ W0, W0 = (w.alloc (.cells #[.slice p g.length c] 29)).alloc (.cells #[.slice sp M.length sc] 41) := ⟨_, rfl⟩
  have hbA : Hid (Below w.heap.size w W0) := Lib.hid (by rw [hW0]; exact below_alloc2 _ _ _)
  have HG := Lib.hid (hg0.below hbA.out)
  have HS := Lib.hid (hs.below hbA.out)
  have BX : Hid (Box W0 w.heap.size 29 (.slice p g.length c)) := Lib.hid (by rw [hW0]; exact (Box.new _ _ _).alloc _)
  have BY : Hid (Box W0 (w.heap.size + 1) 41 (.slice sp M.length sc)) := Lib.hid (by
    rw [hW0]
    have := Box.new (w.alloc (.cells #[.slice p g.length c] 29)) (.slice sp M.length sc) 41
    rw [size_alloc] at this
    exact this)
  have SZ0 := Lib.hid (show W0.heap.size = w.heap.size + 2 by rw [hW0, size_alloc, size_alloc])
  clear hr hg0 hs
  by_cases hok : GOk g
  case neg =>
    have hd := Lib.hid (dec_false hok)
    have HD := Lib.hid (dec_false (show ¬ MdW g M from fun h => hok h.1.1))
    clear hok
    go_enter Tryd.func113, Tryd.ntmps113
    go_upto_region 1 with fail
    rw [← hW0]
    clear hW0
    have hcx := BX.out.cell
    go_wp2_with (go_at_call 85; refine (specGraphOk_any _ g _ HG.out).mono ?_; rintro e w2 ⟨he, hb2⟩; rw [hd.out] at he; subst he)
    go_ret2
    exact ⟨_, by rw [HD.out]; rfl, (hbA.out.trans (hb2.mono hbA.out.size)).alloc (Nat.le_trans hbA.out.size hb2.size) _⟩
  have hd := Lib.hid (dec_true hok)
  have h16 := hok.le
  have Hok := Lib.hid hok
  clear hok
  by_cases h80 : M.length ≤ 16
  case neg =>
    have h80' : ¬ (M.length : Int) ≤ 16 := by omega
    have HD := Lib.hid (dec_false (show ¬ MdW g M from fun h => h80 h.1.2))
    clear h80
    go_enter Tryd.func113, Tryd.ntmps113
    go_upto_region 1 with fail
    rw [← hW0]
    clear hW0
    have hcx := BX.out.cell
    go_wp2_with (go_at_call 85; refine (specGraphOk_any _ g _ HG.out).mono ?_; rintro e w2 ⟨he, hb2⟩; rw [hd.out] at he; subst he; have hcy := (BY.out.keep hb2).cell)
    go_ret2
    exact ⟨_, by rw [HD.out]; rfl, (hbA.out.trans (hb2.mono hbA.out.size)).alloc (Nat.le_trans hbA.out.size hb2.size) _⟩
  have h80' : (M.length : Int) ≤ 16 := by omega
  have HOK16 : Hid (GOk g ∧ M.length ≤ 16) := Lib.hid ⟨Hok.out, h80⟩
  go_enter Tryd.func113, Tryd.ntmps113
  go_upto_region 1 with fail
  rw [← hW0]
  clear hW0
  have hcx := BX.out.cell
  go_upto_region 4 with (first
    | (at_make; refine wpList_mk ty_i64 rfl rfl rfl g.length rfl rfl rfl rfl (by omega) ?_; intro w4 hown4 hg4)
    | (go_at_call 85; refine (specGraphOk_any _ g _ HG.out).mono ?_; rintro e w2 ⟨he, hb2⟩; rw [hd.out] at he; subst he; have hcy := (BY.out.keep hb2).cell; have hcx2 := (BX.out.keep hb2).cell))
  have hb4 := grown_below hg4
  have hb04 : Hid (Below W0.heap.size W0 w4) := Lib.hid (hb2.trans (hb4.mono hb2.size))
  have HO4 := Lib.hid hown4
  have h24 : W0.heap.size ≤ w2.heap.size := hb2.size
  obtain ⟨ob, hob⟩ : ∃ ob, ob = w2.heap.size := ⟨_, rfl⟩
  rw [← hob] at HO4 h24 ⊢
  clear hb2 hb4 hg4 hown4 hcx hcx2 hcy hob
  go_wp2_with fail
  go_loopw [7] (fun iv wr => ∃ (i : Nat) (F : List Int), i ≤ M.length ∧ iv = .int .i64 i ∧ Hid (MdTo g M i) ∧ Hid (WrdI g.length M i 0 F) ∧ wr.ownsRow ob 2 1 (.slice (some ⟨ob, 0, none⟩) g.length g.length) g.length (F.map (Value.int .i64)) ∧ Below W0.heap.size W0 wr) (fun iv _ => M.length - (intOf iv).toNat)
  case atStart => exact ⟨0, _, Nat.zero_le _, rfl, Lib.hid (MdTo.zero g M), Lib.hid (WrdI.start g.length M), by rw [List.map_replicate]; exact HO4.out, hb04.out⟩
  case round =>
    clear HO4 hb04
    obtain ⟨i, F, hi, rfl, HTO, HF, hown, hb⟩ := hrel
    have HB := Lib.hid hb
    have HO := Lib.hid hown
    have hcx := hb.at (by have := SZ0.out; omega) BX.out.cell
    have hcy := hb.at (by have := SZ0.out; omega) BY.out.cell
    by_cases hlt : i < M.length
    · obtain ⟨sb, so, rp, rc, rfl, hce, hne⟩ := (HS.out.below hb).get (k := i) hlt
      replace hce : wr.cell? ⟨sb, so + i, none⟩ = some (.slice rp (row M i).length rc) := hce
      replace hne : Nums wr 2 .i64 (.slice rp (row M i).length rc) (row M i) := hne
      have HNI := Lib.hid hne
      obtain ⟨rl, hrl⟩ : ∃ rl, rl = (row M i).length := ⟨_, rfl⟩
      rw [← hrl] at hce HNI
      clear hne hb hrl hown
      go_upto_region 7 with fail
      go_cut [37] (fun s37 wx => s37 = .bool (!dec (GOk g ∧ SetIn g.length (row M i))) ∧ Below wr.heap.size wr wx)
      case first =>
        go_region_held3 (fun w' => w'.cell? ⟨w.heap.size, 0, none⟩ = some (.slice p g.length c) ∧ w'.cell? ⟨w.heap.size + 1, 0, none⟩ = some (.slice (some ⟨sb, so, none⟩) M.length sc) ∧ w'.cell? ⟨sb, so + i, none⟩ = some (.slice rp rl rc))
          (first | exact ⟨hcx, hcy, hce⟩ | exact ⟨hb4'.at' hcx, hb4'.at' hcy, hb4'.at' hce⟩ | go_keep)
          (first | (go_at_call 152; refine (specSetOk_any _ _ g (row M i) hgl _ (HG.out.below (HB.out.trans (below_dN (Below.refl _ _) 1))) (HNI.out.below (below_dN (Below.refl _ _) 1))).mono ?_; rintro e w4 ⟨rfl, hb4⟩; have hb4' : Below wr.heap.size wr w4 := (below_dN (Below.refl _ _) 1).trans hb4))
        all_goals go_wp2
        all_goals go_meet
        all_goals exact ⟨rfl, hb4'⟩
      case rest =>
      obtain ⟨rfl, hbc⟩ := hcut
      have HBC := Lib.hid (HB.out.trans (hbc.mono HB.out.size))
      have HOC := Lib.hid (ownsRow_below HO.out hbc)
      clear hce hbc HNI HO hcx hcy
      by_cases hcn : GOk g ∧ SetIn g.length (row M i)
      case neg =>
        have HNB := Lib.hid (dec_false (show ¬ MdW g M from fun h => hcn ⟨h.1.1, (h.2 i hlt).1⟩))
        rw [dec_false hcn]
        clear hcn
        go_wp2_with fail
        go_ret2
        exact ⟨_, by rw [HNB.out]; rfl, (hbA.out.trans (HBC.out.mono hbA.out.size)).alloc (Nat.le_trans hbA.out.size HBC.out.size) _⟩
      have HCN := Lib.hid hcn.2
      rw [dec_true hcn]
      clear hcn
      go_wp2_with fail
      go_loopw [8] (fun kv wr => ∃ (k : Nat) (F : List Int), k ≤ (row M i).length ∧ kv = .int .i64 k ∧ Hid (∀ y ∈ (row M i).take k, ∀ b, b < i → y ∉ row M b) ∧ Hid (WrdI g.length M i k F) ∧ wr.ownsRow ob 2 1 (.slice (some ⟨ob, 0, none⟩) g.length g.length) g.length (F.map (Value.int .i64)) ∧ Below W0.heap.size W0 wr) (fun kv _ => (row M i).length - (intOf kv).toNat)
      case atStart => exact ⟨0, F, Nat.zero_le _, rfl, Lib.hid (fun y hy => by simp at hy), HF, HOC.out, HBC.out⟩
      case round =>
        clear HBC HB HOC HF
        obtain ⟨k, F, hk, rfl, HNW, HF, hown, hb⟩ := hrel
        have HB := Lib.hid hb
        have HO := Lib.hid hown
        have hcx := hb.at (by have := SZ0.out; omega) BX.out.cell
        have hcy := hb.at (by have := SZ0.out; omega) BY.out.cell
        obtain ⟨_, _, rp, rc, e, hce, hne⟩ := (HS.out.below hb).get (k := i) hlt
        simp only [Option.some.injEq, Addr.mk.injEq, and_true] at e
        obtain ⟨rfl, rfl⟩ := e
        replace hce : wr.cell? ⟨sb, so + i, none⟩ = some (.slice rp (row M i).length rc) := hce
        replace hne : Nums wr 2 .i64 (.slice rp (row M i).length rc) (row M i) := hne
        by_cases hltk : k < (row M i).length
        · obtain ⟨qb, qo, rfl, hq⟩ := hne.get (k := k) hltk
          obtain ⟨x, hx⟩ : ∃ x : Nat, (row M i)[k] = (x : Int) := ⟨(row M i)[k].toNat, by have := HCN.out.1 _ (List.getElem_mem hltk); omega⟩
          have hxn : x < g.length := by have := HCN.out.1 _ (List.getElem_mem hltk); omega
          rw [hx] at hq
          have HX := Lib.hid hx
          have HLK := Lib.hid hltk
          have hFl := HF.out.len
          have hxc : wr.cell? ⟨ob, x, none⟩ = some (.int .i64 (F.getD x 0)) := by rw [hown.cellAt x (by omega)]; simp [List.getD_eq_getElem?_getD, hFl, hxn]
          have hfu := hown.frozenAt x
          obtain ⟨rl, hrl⟩ : ∃ rl, rl = (row M i).length := ⟨_, rfl⟩
          have hr16 := setIn_length (by omega) HCN.out
          rw [← hrl] at hce hltk hk hr16
          obtain ⟨z, hz⟩ : ∃ z, z = F.getD x 0 := ⟨_, rfl⟩
          rw [← hz] at hxc
          have HRL := Lib.hid hrl
          have HZ := Lib.hid hz
          have hwr : IntKind.i64.wrap ((i : Int) + 1) = (i : Int) + 1 := by rw [IntKind.wrap_i64]; omega
          clear hne hx hown hFl hrl hz hb
          by_cases hF : 0 < z
          · have HNB := Lib.hid (dec_false (show ¬ MdW g M from fun h => wrd_twice HF.out HCN.out HLK.out HX.out hxn (by rw [← HZ.out]; exact hF) hlt h.2))
            go_wp2_with fail
            go_ret2
            exact ⟨_, by rw [HNB.out]; rfl, (hbA.out.trans (HB.out.mono hbA.out.size)).alloc (Nat.le_trans hbA.out.size HB.out.size) _⟩
          · have HNF := Lib.hid hF
            go_wp2_with fail
            go_roundw
            case rel =>
              refine ⟨k + 1, F.set x ((i : Int) + 1), by have := HRL.out; omega, by go_num, Lib.hid (fun y hy b hbi => ?_), Lib.hid (HF.out.put HLK.out HX.out hxn _ (by omega)), by rw [List.map_set]; exact (HO.out.stored x _).1, HB.out.setCell (p := ⟨ob, x, none⟩) h24 _⟩
              rw [take_snoc' _ k HLK.out, HX.out] at hy
              rcases List.mem_append.1 hy with h1 | h1
              · exact HNW.out y h1 b hbi
              · obtain rfl : y = (x : Int) := by simpa using h1
                exact wrd_new HF.out hxn (by rw [← HZ.out]; exact HNF.out) b hbi
            case measure => have := HRL.out; simp [intOf]; omega
        · obtain rfl : k = (row M i).length := by omega
          have HNW2 : Hid (∀ y ∈ row M i, ∀ b, b < i → y ∉ row M b) := Lib.hid (by have := HNW.out; rwa [List.take_length] at this)
          have HF2 := Lib.hid HF.out.next
          clear hne hown hb HNW HF
          go_wp2_with fail
          go_roundw
          case rel => exact ⟨i + 1, F, by omega, by go_num, Lib.hid (HTO.out.snoc HCN.out (fun b hbi x hx => HNW2.out x hx b hbi)), HF2, HO.out, HB.out⟩
          case measure => simp [intOf]; omega
    · obtain rfl : i = M.length := by omega
      have HY := Lib.hid (dec_true (show MdW g M from ⟨HOK16.out, HTO.out⟩))
      clear hown hb
      go_wp2_with fail
      go_ret2
      exact ⟨_, by rw [HY.out]; rfl, hbA.out.trans (HB.out.mono hbA.out.size)⟩

end Go.Proofs.YtihlcmenfopaiaaDoor
