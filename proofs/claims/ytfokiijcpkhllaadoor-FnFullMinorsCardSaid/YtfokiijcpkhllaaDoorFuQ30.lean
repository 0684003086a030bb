/- Walk: the reference's word of a model. -/
import Derived.Test.YtfokiijcpkhllaaDoorFuQ21
import Derived.Test.YtfokiijcpkhllaaDoorFuQ29
import Derived.Test.YtfokiijcpkhllaaDoorFuQ15
import Derived.Test.YtfokiijcpkhllaaDoorFuQ3
namespace Go.Proofs.YtfokiijcpkhllaaDoor
open Go.RowKit

set_option maxRecDepth 100000 in
set_option maxHeartbeats 4000000 in
theorem specModelWord_any (v mv : Value) (g M : List (List Int)) (hgl : g.length ≤ 1000000000) (w : World) (hg : Gr w v g) (hm : Gr w mv M) :
    Calls Tryd.prog 88 #[v, mv] w fun e w' => ∃ ov, e = .returned (.tuple #[ov, .bool (dec (MdW g M))]) ∧ Below w.heap.size w w' := by
  have hg0 := hg
  obtain ⟨u, rfl, hr⟩ := hg
  obtain ⟨p, c, rfl, _⟩ := hr.shape
  obtain ⟨mu, rfl, hs⟩ := hm
  obtain ⟨sp, sc, rfl, _, hsc, hsl⟩ := hs.shape
  obtain ⟨W0, hW0⟩ : ∃ W0, W0 = (w.alloc (.cells #[.slice p g.length c] 29)).alloc (.cells #[.slice sp M.length sc] 49) := ⟨_, rfl⟩
  have hbA : Hid (Below w.heap.size w W0) := Lib.hid (by rw [hW0]; exact below_alloc2 _ _ _)
  have HG := Lib.hid (hg0.below hbA.out)
  have HS := Lib.hid (hs.below hbA.out)
  have BX : Hid (Box W0 w.heap.size 29 (.slice p g.length c)) := Lib.hid (by rw [hW0]; exact (Box.new _ _ _).alloc _)
  have BY : Hid (Box W0 (w.heap.size + 1) 49 (.slice sp M.length sc)) := Lib.hid (by
    rw [hW0]
    have := Box.new (w.alloc (.cells #[.slice p g.length c] 29)) (.slice sp M.length sc) 49
    rw [size_alloc] at this
    exact this)
  have SZ0 := Lib.hid (show W0.heap.size = w.heap.size + 2 by rw [hW0, size_alloc, size_alloc])
  clear hr hg0 hs
  by_cases hok : GOk g
  case neg =>
    have hd := Lib.hid (dec_false hok)
    have HD := Lib.hid (dec_false (show ¬ MdW g M from fun h => hok h.1.1))
    clear hok
    go_enter Tryd.func88, Tryd.ntmps88
    go_upto_region 1 with fail
    rw [← hW0]
    clear hW0
    have hcx := BX.out.cell
    go_wp2_with (go_at_call 50; refine (specGraphOk_any _ g _ HG.out).mono ?_; rintro e w2 ⟨he, hb2⟩; rw [hd.out] at he; subst he)
    go_ret2
    exact ⟨_, by rw [HD.out]; rfl, (hbA.out.trans (hb2.mono hbA.out.size)).alloc (Nat.le_trans hbA.out.size hb2.size) _⟩
  have hd := Lib.hid (dec_true hok)
  have h16 := hok.le
  have Hok := Lib.hid hok
  clear hok
  by_cases h80 : M.length ≤ 16
  case neg =>
    have h80' : ¬ (M.length : Int) ≤ 16 := by omega
    have HD := Lib.hid (dec_false (show ¬ MdW g M from fun h => h80 h.1.2))
    clear h80
    go_enter Tryd.func88, Tryd.ntmps88
    go_upto_region 1 with fail
    rw [← hW0]
    clear hW0
    have hcx := BX.out.cell
    go_wp2_with (go_at_call 50; refine (specGraphOk_any _ g _ HG.out).mono ?_; rintro e w2 ⟨he, hb2⟩; rw [hd.out] at he; subst he; have hcy := (BY.out.keep hb2).cell)
    go_ret2
    exact ⟨_, by rw [HD.out]; rfl, (hbA.out.trans (hb2.mono hbA.out.size)).alloc (Nat.le_trans hbA.out.size hb2.size) _⟩
  have h80' : (M.length : Int) ≤ 16 := by omega
  have HOK16 : Hid (GOk g ∧ M.length ≤ 16) := Lib.hid ⟨Hok.out, h80⟩
  go_enter Tryd.func88, Tryd.ntmps88
  go_upto_region 1 with fail
  rw [← hW0]
  clear hW0
  have hcx := BX.out.cell
  go_upto_region 4 with (first
    | (at_make; refine wpList_mk ty_i64 rfl rfl rfl g.length rfl rfl rfl rfl (by omega) ?_; intro w4 hown4 hg4)
    | (go_at_call 50; refine (specGraphOk_any _ g _ HG.out).mono ?_; rintro e w2 ⟨he, hb2⟩; rw [hd.out] at he; subst he; have hcy := (BY.out.keep hb2).cell; have hcx2 := (BX.out.keep hb2).cell))
  have hb4 := grown_below hg4
  have hb04 : Hid (Below W0.heap.size W0 w4) := Lib.hid (hb2.trans (hb4.mono hb2.size))
  have HO4 := Lib.hid hown4
  have h24 : W0.heap.size ≤ w2.heap.size := hb2.size
  obtain ⟨ob, hob⟩ : ∃ ob, ob = w2.heap.size := ⟨_, rfl⟩
  rw [← hob] at HO4 h24 ⊢
  clear hb2 hb4 hg4 hown4 hcx hcx2 hcy hob
  go_wp2_with fail
  go_loopw [7] (fun iv wr => ∃ (i : Nat) (F : List Int), i ≤ M.length ∧ iv = .int .i64 i ∧ Hid (MdTo g M i) ∧ Hid (WrdI g.length M i 0 F) ∧ wr.ownsRow ob 2 1 (.slice (some ⟨ob, 0, none⟩) g.length g.length) g.length (F.map (Value.int .i64)) ∧ Below W0.heap.size W0 wr) (fun iv _ => M.length - (intOf iv).toNat)
  case atStart => exact ⟨0, _, Nat.zero_le _, rfl, Lib.hid (MdTo.zero g M), Lib.hid (WrdI.start g.length M), by rw [List.map_replicate]; exact HO4.out, hb04.out⟩
  case round =>
    clear HO4 hb04
    obtain ⟨i, F, hi, rfl, HTO, HF, hown, hb⟩ := hrel
    have HB := Lib.hid hb
    have HO := Lib.hid hown
    have hcx := hb.at (by have := SZ0.out; omega) BX.out.cell
    have hcy := hb.at (by have := SZ0.out; omega) BY.out.cell
    by_cases hlt : i < M.length
    · obtain ⟨sb, so, rp, rc, rfl, hce, hne⟩ := (HS.out.below hb).get (k := i) hlt
      replace hce : wr.cell? ⟨sb, so + i, none⟩ = some (.slice rp (row M i).length rc) := hce
      replace hne : Nums wr 2 .i64 (.slice rp (row M i).length rc) (row M i) := hne
      have HNI := Lib.hid hne
      obtain ⟨rl, hrl⟩ : ∃ rl, rl = (row M i).length := ⟨_, rfl⟩
      rw [← hrl] at hce HNI
      clear hne hb hrl hown
      go_upto_region 7 with fail
      go_cut [37] (fun s37 wx => s37 = .bool (!dec (GOk g ∧ SetIn g.length (row M i))) ∧ Below wr.heap.size wr wx)
      case first =>
        go_region_held3 (fun w' => w'.cell? ⟨w.heap.size, 0, none⟩ = some (.slice p g.length c) ∧ w'.cell? ⟨w.heap.size + 1, 0, none⟩ = some (.slice (some ⟨sb, so, none⟩) M.length sc) ∧ w'.cell? ⟨sb, so + i, none⟩ = some (.slice rp rl rc))
          (first | exact ⟨hcx, hcy, hce⟩ | exact ⟨hb4'.at' hcx, hb4'.at' hcy, hb4'.at' hce⟩ | go_keep)
          (first | (go_at_call 56; refine (specSetOk_any _ _ g (row M i) hgl _ (HG.out.below (HB.out.trans (below_dN (Below.refl _ _) 1))) (HNI.out.below (below_dN (Below.refl _ _) 1))).mono ?_; rintro e w4 ⟨rfl, hb4⟩; have hb4' : Below wr.heap.size wr w4 := (below_dN (Below.refl _ _) 1).trans hb4))
        all_goals go_wp2
        all_goals go_meet
        all_goals exact ⟨rfl, hb4'⟩
      case rest =>
      obtain ⟨rfl, hbc⟩ := hcut
      have HBC := Lib.hid (HB.out.trans (hbc.mono HB.out.size))
      have HOC := Lib.hid (ownsRow_below HO.out hbc)
      clear hce hbc HNI HO hcx hcy
      by_cases hcn : GOk g ∧ SetIn g.length (row M i)
      case neg =>
        have HNB := Lib.hid (dec_false (show ¬ MdW g M from fun h => hcn ⟨h.1.1, (h.2 i hlt).1⟩))
        rw [dec_false hcn]
        clear hcn
        go_wp2_with fail
        go_ret2
        exact ⟨_, by rw [HNB.out]; rfl, (hbA.out.trans (HBC.out.mono hbA.out.size)).alloc (Nat.le_trans hbA.out.size HBC.out.size) _⟩
      have HCN := Lib.hid hcn.2
      rw [dec_true hcn]
      clear hcn
      go_wp2_with fail
      go_loopw [8] (fun kv wr => ∃ (k : Nat) (F : List Int), k ≤ (row M i).length ∧ kv = .int .i64 k ∧ Hid (∀ y ∈ (row M i).take k, ∀ b, b < i → y ∉ row M b) ∧ Hid (WrdI g.length M i k F) ∧ wr.ownsRow ob 2 1 (.slice (some ⟨ob, 0, none⟩) g.length g.length) g.length (F.map (Value.int .i64)) ∧ Below W0.heap.size W0 wr) (fun kv _ => (row M i).length - (intOf kv).toNat)
      case atStart => exact ⟨0, F, Nat.zero_le _, rfl, Lib.hid (fun y hy => by simp at hy), HF, HOC.out, HBC.out⟩
      case round =>
        clear HBC HB HOC HF
        obtain ⟨k, F, hk, rfl, HNW, HF, hown, hb⟩ := hrel
        have HB := Lib.hid hb
        have HO := Lib.hid hown
        have hcx := hb.at (by have := SZ0.out; omega) BX.out.cell
        have hcy := hb.at (by have := SZ0.out; omega) BY.out.cell
        obtain ⟨_, _, rp, rc, e, hce, hne⟩ := (HS.out.below hb).get (k := i) hlt
        simp only [Option.some.injEq, Addr.mk.injEq, and_true] at e
        obtain ⟨rfl, rfl⟩ := e
        replace hce : wr.cell? ⟨sb, so + i, none⟩ = some (.slice rp (row M i).length rc) := hce
        replace hne : Nums wr 2 .i64 (.slice rp (row M i).length rc) (row M i) := hne
        by_cases hltk : k < (row M i).length
        · obtain ⟨qb, qo, rfl, hq⟩ := hne.get (k := k) hltk
          obtain ⟨x, hx⟩ : ∃ x : Nat, (row M i)[k] = (x : Int) := ⟨(row M i)[k].toNat, by have := HCN.out.1 _ (List.getElem_mem hltk); omega⟩
          have hxn : x < g.length := by have := HCN.out.1 _ (List.getElem_mem hltk); omega
          rw [hx] at hq
          have HX := Lib.hid hx
          have HLK := Lib.hid hltk
          have hFl := HF.out.len
          have hxc : wr.cell? ⟨ob, x, none⟩ = some (.int .i64 (F.getD x 0)) := by rw [hown.cellAt x (by omega)]; simp [List.getD_eq_getElem?_getD, hFl, hxn]
          have hfu := hown.frozenAt x
          obtain ⟨rl, hrl⟩ : ∃ rl, rl = (row M i).length := ⟨_, rfl⟩
          have hr16 := setIn_length (by omega) HCN.out
          rw [← hrl] at hce hltk hk hr16
          obtain ⟨z, hz⟩ : ∃ z, z = F.getD x 0 := ⟨_, rfl⟩
          rw [← hz] at hxc
          have HRL := Lib.hid hrl
          have HZ := Lib.hid hz
          have hwr : IntKind.i64.wrap ((i : Int) + 1) = (i : Int) + 1 := by rw [IntKind.wrap_i64]; omega
          clear hne hx hown hFl hrl hz hb
          by_cases hF : 0 < z
          · have HNB := Lib.hid (dec_false (show ¬ MdW g M from fun h => wrd_twice HF.out HCN.out HLK.out HX.out hxn (by rw [← HZ.out]; exact hF) hlt h.2))
            go_wp2_with fail
            go_ret2
            exact ⟨_, by rw [HNB.out]; rfl, (hbA.out.trans (HB.out.mono hbA.out.size)).alloc (Nat.le_trans hbA.out.size HB.out.size) _⟩
          · have HNF := Lib.hid hF
            go_wp2_with fail
            go_roundw
            case rel =>
              refine ⟨k + 1, F.set x ((i : Int) + 1), by have := HRL.out; omega, by go_num, Lib.hid (fun y hy b hbi => ?_), Lib.hid (HF.out.put HLK.out HX.out hxn _ (by omega)), by rw [List.map_set]; exact (HO.out.stored x _).1, HB.out.setCell (p := ⟨ob, x, none⟩) h24 _⟩
              rw [take_snoc' _ k HLK.out, HX.out] at hy
              rcases List.mem_append.1 hy with h1 | h1
              · exact HNW.out y h1 b hbi
              · obtain rfl : y = (x : Int) := by simpa using h1
                exact wrd_new HF.out hxn (by rw [← HZ.out]; exact HNF.out) b hbi
            case measure => have := HRL.out; simp [intOf]; omega
        · obtain rfl : k = (row M i).length := by omega
          have HNW2 : Hid (∀ y ∈ row M i, ∀ b, b < i → y ∉ row M b) := Lib.hid (by have := HNW.out; rwa [List.take_length] at this)
          have HF2 := Lib.hid HF.out.next
          clear hne hown hb HNW HF
          go_wp2_with fail
          go_roundw
          case rel => exact ⟨i + 1, F, by omega, by go_num, Lib.hid (HTO.out.snoc HCN.out (fun b hbi x hx => HNW2.out x hx b hbi)), HF2, HO.out, HB.out⟩
          case measure => simp [intOf]; omega
    · obtain rfl : i = M.length := by omega
      have HY := Lib.hid (dec_true (show MdW g M from ⟨HOK16.out, HTO.out⟩))
      clear hown hb
      go_wp2_with fail
      go_ret2
      exact ⟨_, by rw [HY.out]; rfl, hbA.out.trans (HB.out.mono hbA.out.size)⟩

end Go.Proofs.YtfokiijcpkhllaaDoor

/- Walks: the reference's edges. -/
namespace Go.Proofs.YtfokiijcpkhllaaDoor
open Go.RowKit

set_option maxRecDepth 100000 in
set_option maxHeartbeats 4000000 in
theorem l1EdgesC_any (v : Value) (g : List (List Int)) (hok : GOk g) (w : World) (hg : Gr w v g) :
    Calls Tryd.prog 130 #[v] w fun e w' => ∃ u : Value, e = .returned u ∧ PrsO w' w.heap.size u (edN g.length (ofG g) g.length) ∧ Below w.heap.size w w' := by
  have hg0 := hg
  obtain ⟨u, rfl, hr⟩ := hg
  obtain ⟨p, c, rfl, _⟩ := hr.shape
  have h16 := hok.le
  have hbA := below_alloc w (.cells #[.slice p g.length c] 29)
  have HB := Lib.hid hbA
  have BX := Lib.hid ((Box.new w (.slice p g.length c) 29).alloc (.cells #[] 32))
  have HG := Lib.hid hg0
  have H2 := Lib.hid (gOk_row_le hok)
  have HOK := Lib.hid hok
  have HR := Lib.hid hr
  have HC : Hid (∀ k, k ≤ g.length → (edN g.length (ofG g) k).length ≤ 256) := Lib.hid fun k hk => by
    have := edN_length g.length (ofG g) k
    have : k * g.length ≤ 16 * 16 := Nat.mul_le_mul (by omega) h16
    omega
  clear hr hg0 hbA hok
  go_enter Tryd.func130, Tryd.ntmps130
  go_wp2
  go_loopw [3, 4] (fun u i wr => ∃ k : Nat, k ≤ g.length ∧ i = .int .i64 k ∧ PrsO wr (w.heap.size + 1) u (edN g.length (ofG g) k) ∧ Below w.heap.size w wr ∧ Box wr w.heap.size 29 (.slice p g.length c))
    (fun _ i _ => g.length - (intOf i).toNat)
  case atStart => exact ⟨0, Nat.zero_le _, rfl, by have := PrsO.nil (w.alloc (.cells #[.slice p g.length c] 29)) (w.heap.size + 1) (by rw [size_alloc]; omega); rw [size_alloc] at this; exact this, HB.out.alloc HB.out.size _, BX.out⟩
  case round =>
    obtain ⟨k, hk, rfl, hown, hbel, hbx⟩ := hrel
    have hc := hbx.cell
    have Hbx := Lib.hid hbx
    obtain ⟨outp, outc, rfl⟩ := hown.shape
    have Hown := Lib.hid hown
    have hsz := hbel.size
    clear hown hbx
    by_cases hlt : k < g.length
    · obtain ⟨b, o, rp, rc, rfl, hcell, hnums⟩ := (HR.out.below hbel).get hlt
      change wr.cell? _ = some (.slice rp (row g k).length rc) at hcell
      have Hnums2 : Hid (Nums wr 2 .i64 (.slice rp (row g k).length rc) (row g k)) := Lib.hid hnums
      have hlen2 := H2.out k hlt
      have hck := HC.out k hk
      have HEND := Lib.hid (edT_end HOK.out hlt)
      clear hnums hcell
      go_wp2_with (go_at_call 60; refine (l1Size_any _ g _ (HG.out.below hbel)).mono ?_; rintro e w4 ⟨rfl, hb4⟩)
      have START : Hid (PrsO w4 (w.heap.size + 1) (.slice outp (edN g.length (ofG g) k).length outc) (edN g.length (ofG g) k ++ edT g k 0)) := Lib.hid (by
        have : edT g k 0 = [] := by simp [edT]
        rw [this, List.append_nil]; exact Hown.out.below hb4)
      have HBEL := Lib.hid (hbel.trans (hb4.mono hsz))
      have HBX4 := Lib.hid (Hbx.out.keep hb4)
      go_loopw [3, 5] (fun u i wx => ∃ t : Nat, t ≤ (row g k).length ∧ i = .int .i64 t ∧ PrsO wx (w.heap.size + 1) u (edN g.length (ofG g) k ++ edT g k t) ∧ Below w.heap.size w wx ∧ Box wx w.heap.size 29 (.slice (some ⟨b, o, none⟩) g.length c))
        (fun _ i _ => (row g k).length - (intOf i).toNat)
      case atStart => exact ⟨0, Nat.zero_le _, rfl, START.out, HBEL.out, HBX4.out⟩
      case round =>
        clear START Hown hbel HBEL hsz Hnums2 hc Hbx HBX4 hb4
        obtain ⟨t, ht, rfl, hown, hbel, hbx⟩ := hrel
        have hc := hbx.cell
        have Hbx := Lib.hid hbx
        obtain ⟨_, _, rp, rc, e, hcell, hnums⟩ := (HR.out.below hbel).get hlt
        simp only [Option.some.injEq, Addr.mk.injEq, and_true] at e
        obtain ⟨rfl, rfl⟩ := e
        replace hcell : wr.cell? _ = some (.slice rp (row g k).length rc) := hcell
        replace hnums : Nums wr 2 .i64 (.slice rp (row g k).length rc) (row g k) := hnums
        have hsz := hbel.size
        obtain ⟨outp, outc, rfl⟩ := hown.shape
        clear hbx
        have hte := edT_len g k t
        by_cases hlt2 : t < (row g k).length
        · obtain ⟨rb, ro, rfl, hcx⟩ := hnums.get hlt2
          have hsucc := Lib.hid (edT_succ (g := g) (k := k) hlt2)
          have hX0 := Lib.hid (((HOK.out.sets k hlt).1.1 _ (List.getElem_mem hlt2)).1)
          by_cases hgt : (k : Int) < (row g k)[t]
          · generalize (row g k)[t] = X at hcx hgt hsucc hX0
            obtain ⟨vals, hv1, hv2, hv3⟩ := hown
            have hll : (edN g.length (ofG g) k ++ edT g k t).length < 1000000000 := by rw [List.length_append]; omega
            have HV3 := Lib.hid hv3
            have HV1 := Lib.hid hv1
            clear hnums hv3 hv1 hte
            generalize hq : (edN g.length (ofG g) k ++ edT g k t).length = q at hll hv2
            go_wp2_with (at_builtin; refine wpList_app1s ty_rows64 rfl rfl rfl (hv2.alloc (.cells #[.int .i64 k, .int .i64 X] 2)) (by rw [size_alloc]; rfl) rfl hll (by rw [size_alloc]; omega) ?_; intro b7 c8 w7 hown7 hg7 _)
            go_roundw
            case rel =>
              have ha := below_alloc wr (.cells #[.int .i64 k, .int .i64 X] 2)
              have hrow : Nums (wr.alloc (.cells #[.int .i64 k, .int .i64 X] 2)) 2 .i64 (.slice (some ⟨wr.heap.size, 0, none⟩) 2 2) [((k : Nat) : Int), ((X.toNat : Nat) : Int)] := by
                rw [Int.toNat_of_nonneg hX0.out]
                exact Nums.of_owns (World.ownsRow_lit (size := 1) wr #[.int .i64 k, .int .i64 X] 2 (Nat.le_refl wr.heap.size) (by decide) rfl) rfl (by decide)
              subst hq
              refine ⟨t + 1, by omega, by go_num, ?_, below_grown (hbel.alloc hsz _) (hv2.alloc _) hg7 (by omega) (by rw [size_alloc]; omega), (Hbx.out.keep ha).below (below_grown (Below.refl (w.heap.size + 1) _) (hv2.alloc _) hg7 (Nat.le_refl _) (by rw [size_alloc]; omega)) (by omega)⟩
              rw [hsucc.out, if_pos hgt, ← List.append_assoc]
              exact PrsO.snoc (e := (k, X.toNat)) HV1.out (hv2.alloc _) (fun j hj => (HV3.out j hj).below ha) hown7 hg7 hrow
            case measure => simp [intOf]; omega
          · have Hown := Lib.hid hown
            generalize (row g k)[t] = X at hcx hgt hsucc hX0
            clear hown hnums
            go_wp2
            go_roundw
            case rel => exact ⟨t + 1, by omega, by go_num, by rw [hsucc.out, if_neg hgt]; exact Hown.out, hbel, Hbx.out⟩
            case measure => simp [intOf]; omega
        · obtain rfl : t = (row g k).length := by omega
          have Hown := Lib.hid hown
          clear hown hnums
          go_wp2
          go_roundw
          case rel =>
            refine ⟨k + 1, by omega, by go_num, ?_, hbel, Hbx.out⟩
            rw [edN_succ, ← HEND.out]
            exact Hown.out
          case measure => simp [intOf]; omega
    · obtain rfl : k = g.length := by omega
      go_wp2_with (go_at_call 60; refine (l1Size_any _ g _ (HG.out.below hbel)).mono ?_; rintro e w4 ⟨rfl, hb4⟩)
      go_ret
      exact ⟨_, rfl, (Hown.out.below hb4).base (by omega), hbel.trans (hb4.mono hsz)⟩

set_option maxHeartbeats 1000000 in
theorem specEdgesOf_any (v : Value) (g : List (List Int)) (hok : GOk g) (w : World) (hg : Gr w v g) :
    Calls Tryd.prog 90 #[v] w fun e w' => ∃ u : Value, e = .returned u ∧ PrsO w' w.heap.size u (edN g.length (ofG g) g.length) ∧ Below w.heap.size w w' := by
  have hg0 := hg
  obtain ⟨u, rfl, hr⟩ := hg
  obtain ⟨p, c, rfl, _⟩ := hr.shape
  have hbA := Lib.hid (below_alloc w (.cells #[.slice p g.length c] 29))
  have HG := Lib.hid (hg0.below hbA.out)
  have BX := Lib.hid (Box.new w (.slice p g.length c) 29)
  have HOK := Lib.hid hok
  have hd := Lib.hid (dec_true hok)
  clear hr hg0 hok
  go_enter Tryd.func90, Tryd.ntmps90
  go_wp2_with (first
    | (go_at_call 50; refine (specGraphOk_any _ g _ HG.out).mono ?_; rintro e w2 ⟨he, hb2⟩; rw [hd.out] at he; subst he; have hcx := (BX.out.keep hb2).cell)
    | (go_at_call 130; refine (l1EdgesC_any _ g HOK.out _ (HG.out.below hb2)).mono ?_; rintro e w3 ⟨u3, rfl, hp3, hb3⟩))
  go_ret
  have h1 := hbA.out.trans (hb2.mono hbA.out.size)
  exact ⟨_, rfl, hp3.base h1.size, h1.trans (hb3.mono h1.size)⟩

end Go.Proofs.YtfokiijcpkhllaaDoor

/- Walk: the reference's least edge between two sets. -/
namespace Go.Proofs.YtfokiijcpkhllaaDoor
open Go.RowKit

set_option maxRecDepth 100000 in
set_option maxHeartbeats 4000000 in
theorem l21Between_any (v av bv : Value) (g : List (List Int)) (A B : List Int) (hok : GOk g) (w : World) (hg : Gr w v g) (hna : Nums w 2 .i64 av A) (hnb : Nums w 2 .i64 bv B) :
    Calls Tryd.prog 91 #[v, av, bv] w fun e w' => ∃ ov, e = .returned (.tuple #[ov, .bool (dec (∃ e ∈ edN g.length (ofG g) g.length, BtwE A B e))]) ∧ Below w.heap.size w w' := by
  have hg0 := hg
  obtain ⟨gu, rfl, hr⟩ := hg
  obtain ⟨p, c, rfl, _⟩ := hr.shape
  obtain ⟨ap, ac, rfl, _⟩ := id hna.shape
  obtain ⟨bp, bc, rfl, _⟩ := id hnb.shape
  have hbA := Lib.hid (below_alloc w (.cells #[.slice p g.length c] 29))
  have HG := Lib.hid (hg0.below hbA.out)
  have HNA := Lib.hid (hna.below hbA.out)
  have HNB := Lib.hid (hnb.below hbA.out)
  have HOK := Lib.hid hok
  have HLE : Hid ((edN g.length (ofG g) g.length).length ≤ 256) := Lib.hid (by
    have h16 := hok.le
    have := edN_length g.length (ofG g) g.length
    have : g.length * g.length ≤ 16 * 16 := Nat.mul_le_mul h16 h16
    omega)
  obtain ⟨el, hel⟩ : ∃ el, el = edN g.length (ofG g) g.length := ⟨_, rfl⟩
  rw [← hel] at HLE ⊢
  have EDG : Hid (∀ (wz : World) (vz : Value), Gr wz vz g → Calls Tryd.prog 90 #[vz] wz fun e w' => ∃ u : Value, e = .returned u ∧ PrsO w' wz.heap.size u el ∧ Below wz.heap.size wz w') := Lib.hid (fun wz vz hz => by rw [hel]; exact specEdgesOf_any _ g HOK.out _ hz)
  clear hr hg0 hna hnb hok hel
  go_enter Tryd.func91, Tryd.ntmps91
  go_wp2_with (go_at_call 90; refine (EDG.out _ _ HG.out).mono ?_; rintro e w2 ⟨u2, rfl, hp2, hb2⟩)
  have HB2 := Lib.hid (hbA.out.trans (hb2.mono hbA.out.size))
  have HNA2 := Lib.hid (HNA.out.below hb2)
  have HNB2 := Lib.hid (HNB.out.below hb2)
  have HP2 := Lib.hid hp2
  obtain ⟨ep, ec, rfl⟩ := hp2.shape
  have hel256 := HLE.out
  clear hb2 hp2 HNA HNB HG
  go_loopw [9] (fun iv wr => ∃ i : Nat, i ≤ el.length ∧ iv = .int .i64 i ∧ Hid (∀ e ∈ el.take i, ¬ BtwE A B e) ∧ w2 = wr) (fun iv _ => el.length - (intOf iv).toNat)
  case atStart => exact ⟨0, Nat.zero_le _, rfl, Lib.hid (fun e he => by simp at he), rfl⟩
  case round =>
    obtain ⟨i, hi, rfl, HNO, rfl⟩ := hrel
    by_cases hlt : i < el.length
    · obtain ⟨eb, eo, rp, rc, rfl, hce, hne⟩ := HP2.out.get hlt
      have htk := Lib.hid (take_snoc' el i hlt)
      have HMEM := Lib.hid (List.getElem_mem hlt)
      obtain ⟨⟨a, b⟩, hab⟩ : ∃ e : Nat × Nat, e = el[i] := ⟨_, rfl⟩
      rw [← hab] at hne htk HMEM
      simp only at hne
      obtain ⟨rb, ro, rfl, hc0⟩ := hne.get (k := 0) (by simp)
      obtain ⟨_, _, e1, hc1⟩ := hne.get (k := 1) (by simp)
      cases e1
      simp only [List.getElem_cons_zero, List.getElem_cons_succ, Nat.add_zero] at hc0 hc1
      clear hne hab
      go_upto_region 7 with fail
      go_cut [49] (fun s49 wx => s49 = .bool (dec (BtwE A B (a, b))) ∧ w2 = wx)
      case first =>
        by_cases h1 : (a : Int) ∈ A
        · have d1 := Lib.hid (dec_true h1)
          by_cases h2 : (b : Int) ∈ B
          · have d2 := Lib.hid (dec_true h2)
            have DB := Lib.hid (dec_true (show BtwE A B (a, b) from .inl ⟨h1, h2⟩))
            clear h1 h2
            go_wp2_with (go_at_call 66; refine (l1Has_any _ _ _ _ (by first | exact HNA2.out | exact HNB2.out)).mono ?_; rintro e w4 ⟨he, hw⟩; (first | rw [d1.out] at he | rw [d2.out] at he); subst he; subst hw)
            go_meet
            exact ⟨by rw [DB.out], rfl⟩
          · have d2 := Lib.hid (dec_false h2)
            by_cases h3 : (b : Int) ∈ A
            · have d3 := Lib.hid (dec_true h3)
              by_cases h4 : (a : Int) ∈ B
              · have d4 := Lib.hid (dec_true h4)
                have DB := Lib.hid (dec_true (show BtwE A B (a, b) from .inr ⟨h3, h4⟩))
                clear h1 h2 h3 h4
                go_wp2_with (go_at_call 66; refine (l1Has_any _ _ _ _ (by first | exact HNA2.out | exact HNB2.out)).mono ?_; rintro e w4 ⟨he, hw⟩; (first | rw [d1.out] at he | rw [d2.out] at he | rw [d3.out] at he | rw [d4.out] at he); subst he; subst hw)
                go_meet
                exact ⟨by rw [DB.out], rfl⟩
              · have d4 := Lib.hid (dec_false h4)
                have DB := Lib.hid (dec_false (show ¬ BtwE A B (a, b) from fun h => h.elim (fun k => h2 k.2) fun k => h4 k.2))
                clear h1 h2 h3 h4
                go_wp2_with (go_at_call 66; refine (l1Has_any _ _ _ _ (by first | exact HNA2.out | exact HNB2.out)).mono ?_; rintro e w4 ⟨he, hw⟩; (first | rw [d1.out] at he | rw [d2.out] at he | rw [d3.out] at he | rw [d4.out] at he); subst he; subst hw)
                go_meet
                exact ⟨by rw [DB.out], rfl⟩
            · have d3 := Lib.hid (dec_false h3)
              have DB := Lib.hid (dec_false (show ¬ BtwE A B (a, b) from fun h => h.elim (fun k => h2 k.2) fun k => h3 k.1))
              clear h1 h2 h3
              go_wp2_with (go_at_call 66; refine (l1Has_any _ _ _ _ (by first | exact HNA2.out | exact HNB2.out)).mono ?_; rintro e w4 ⟨he, hw⟩; (first | rw [d1.out] at he | rw [d2.out] at he | rw [d3.out] at he); subst he; subst hw)
              go_meet
              exact ⟨by rw [DB.out], rfl⟩
        · have d1 := Lib.hid (dec_false h1)
          by_cases h3 : (b : Int) ∈ A
          · have d3 := Lib.hid (dec_true h3)
            by_cases h4 : (a : Int) ∈ B
            · have d4 := Lib.hid (dec_true h4)
              have DB := Lib.hid (dec_true (show BtwE A B (a, b) from .inr ⟨h3, h4⟩))
              clear h1 h3 h4
              go_wp2_with (go_at_call 66; refine (l1Has_any _ _ _ _ (by first | exact HNA2.out | exact HNB2.out)).mono ?_; rintro e w4 ⟨he, hw⟩; (first | rw [d1.out] at he | rw [d3.out] at he | rw [d4.out] at he); subst he; subst hw)
              go_meet
              exact ⟨by rw [DB.out], rfl⟩
            · have d4 := Lib.hid (dec_false h4)
              have DB := Lib.hid (dec_false (show ¬ BtwE A B (a, b) from fun h => h.elim (fun k => h1 k.1) fun k => h4 k.2))
              clear h1 h3 h4
              go_wp2_with (go_at_call 66; refine (l1Has_any _ _ _ _ (by first | exact HNA2.out | exact HNB2.out)).mono ?_; rintro e w4 ⟨he, hw⟩; (first | rw [d1.out] at he | rw [d3.out] at he | rw [d4.out] at he); subst he; subst hw)
              go_meet
              exact ⟨by rw [DB.out], rfl⟩
          · have d3 := Lib.hid (dec_false h3)
            have DB := Lib.hid (dec_false (show ¬ BtwE A B (a, b) from fun h => h.elim (fun k => h1 k.1) fun k => h3 k.1))
            clear h1 h3
            go_wp2_with (go_at_call 66; refine (l1Has_any _ _ _ _ (by first | exact HNA2.out | exact HNB2.out)).mono ?_; rintro e w4 ⟨he, hw⟩; (first | rw [d1.out] at he | rw [d3.out] at he); subst he; subst hw)
            go_meet
            exact ⟨by rw [DB.out], rfl⟩
      case rest =>
      obtain ⟨rfl, rfl⟩ := hcut
      clear hc0 hc1
      by_cases hbt : BtwE A B (a, b)
      · have HY := Lib.hid (dec_true (show ∃ e ∈ el, BtwE A B e from ⟨(a, b), HMEM.out, hbt⟩))
        rw [dec_true hbt]
        clear hbt
        go_wp2_with fail
        go_ret2
        exact ⟨_, by rw [HY.out]; rfl, HB2.out⟩
      · have HBT := Lib.hid hbt
        rw [dec_false hbt]
        clear hbt
        go_wp2_with fail
        go_roundw
        case rel => exact ⟨i + 1, by omega, by go_num, Lib.hid (fun e he => by
          rw [htk.out] at he
          rcases List.mem_append.1 he with h | h
          · exact HNO.out e h
          · obtain rfl : e = (a, b) := by simpa using h
            exact HBT.out), by first | trivial | rfl⟩
        case measure => simp [intOf]; omega
    · obtain rfl : i = el.length := by omega
      have HN := Lib.hid (dec_false (show ¬ ∃ e ∈ el, BtwE A B e from fun ⟨e, h1, h2⟩ => HNO.out e (by rw [List.take_length]; exact h1) h2))
      go_wp2_with fail
      go_ret2
      exact ⟨_, by rw [HN.out]; rfl, HB2.out.alloc HB2.out.size _⟩

end Go.Proofs.YtfokiijcpkhllaaDoor

/- Walk: how the reference tells a model. -/
namespace Go.Proofs.YtfokiijcpkhllaaDoor
open Go.RowKit

theorem three_boxesM (w : World) (a b c : Value) (T1 T2 T3 : TypeId) : ∃ W, W = ((w.alloc (.cells #[a] T1)).alloc (.cells #[b] T2)).alloc (.cells #[c] T3) ∧ Below w.heap.size w W ∧ W.heap.size = w.heap.size + 3 ∧
    Box W w.heap.size T1 a ∧ Box W (w.heap.size + 1) T2 b ∧ Box W (w.heap.size + 2) T3 c := by
  refine ⟨_, rfl, (below_alloc2 _ _ _).alloc (by rw [size_alloc, size_alloc]; omega) _, by rw [size_alloc, size_alloc, size_alloc], ((Box.new w _ _).alloc _).alloc _, ?_, ?_⟩
  · have := Box.new (w.alloc (.cells #[a] T1)) b T2
    rw [size_alloc] at this
    exact this.alloc _
  · have := Box.new ((w.alloc (.cells #[a] T1)).alloc (.cells #[b] T2)) c T3
    rw [size_alloc, size_alloc] at this
    exact this

theorem mdOk_sets {g q M : List (List Int)} (h : MdOk g q M) {a : Nat} (ha : a < M.length) : SetIn g.length (row M a) := (h.1.1.1.2 a ha).1

set_option maxRecDepth 100000 in
set_option maxHeartbeats 4000000 in
theorem specModelOk_any (v pv mv : Value) (g q M : List (List Int)) (hgl : g.length ≤ 1000000000) (w : World) (hg : Gr w v g) (hq : Gr w pv q) (hm : Gr w mv M) :
    Calls Tryd.prog 31 #[v, pv, mv] w fun e w' => e = .returned (.bool (dec (MdOk g q M))) ∧ Below w.heap.size w w' := by
  have hg0 := hg
  have hq0 := hq
  have hm0 := hm
  obtain ⟨u, rfl, hr⟩ := hg
  obtain ⟨p, c, rfl, _⟩ := hr.shape
  obtain ⟨u, rfl, hqr⟩ := hq
  obtain ⟨pp, pc, rfl, _, hpc, hpl⟩ := hqr.shape
  obtain ⟨mu, rfl, hs⟩ := hm
  obtain ⟨sp, sc, rfl, _, hsc, hsl⟩ := hs.shape
  obtain ⟨W0, hW0, hbA, SZ0, BX, BP, BY⟩ := three_boxesM w (.slice p g.length c) (.slice pp q.length pc) (.slice sp M.length sc) 29 29 49
  have hbA := Lib.hid hbA
  have SZ0 := Lib.hid SZ0
  have BX := Lib.hid BX
  have BP := Lib.hid BP
  have BY := Lib.hid BY
  have HG := Lib.hid (hg0.below hbA.out)
  have HQ := Lib.hid (hq0.below hbA.out)
  have HM := Lib.hid (hm0.below hbA.out)
  have HS := Lib.hid (hs.below hbA.out)
  clear hr hg0 hq0 hm0 hqr hs
  rename_i hbA0 SZ00 BX0 BP0 BY0
  clear hbA0 SZ00 BX0 BP0 BY0
  by_cases hw : MdW g M
  case neg =>
    have hd := Lib.hid (dec_false hw)
    have HD := Lib.hid (dec_false (show ¬ MdOk g q M from fun h => hw h.1.1.1))
    clear hw
    go_enter Tryd.func31, Tryd.ntmps31
    go_upto_region 1 with fail
    rw [← hW0]
    clear hW0
    have hcx := BX.out.cell
    have hcy := BY.out.cell
    go_wp2_with (go_at_call 88; refine (specModelWord_any _ _ g M hgl _ HG.out HM.out).mono ?_; rintro e w2 ⟨ov, he, hb2⟩; rw [hd.out] at he; subst he)
    go_ret
    exact ⟨by rw [HD.out]; rfl, hbA.out.trans (hb2.mono hbA.out.size)⟩
  have hd := Lib.hid (dec_true hw)
  have HW := Lib.hid hw
  clear hw
  by_cases hpo : GOk q
  case neg =>
    have hd2 := Lib.hid (dec_false hpo)
    have HD := Lib.hid (dec_false (show ¬ MdOk g q M from fun h => hpo h.1.1.2))
    clear hpo
    go_enter Tryd.func31, Tryd.ntmps31
    go_upto_region 1 with fail
    rw [← hW0]
    clear hW0
    have hcx := BX.out.cell
    have hcy := BY.out.cell
    go_wp2_with (first
      | (go_at_call 88; refine (specModelWord_any _ _ g M hgl _ HG.out HM.out).mono ?_; rintro e w2 ⟨ov, he, hb2⟩; rw [hd.out] at he; subst he; have hcp := (BP.out.keep hb2).cell)
      | (go_at_call 50; refine (specGraphOk_any _ q _ (HQ.out.below hb2)).mono ?_; rintro e w3 ⟨he, hb3⟩; rw [hd2.out] at he; subst he))
    go_ret
    exact ⟨by rw [HD.out]; rfl, (hbA.out.trans (hb2.mono hbA.out.size)).trans (hb3.mono (Nat.le_trans hbA.out.size hb2.size))⟩
  have hd2 := Lib.hid (dec_true hpo)
  have HPO := Lib.hid hpo
  clear hpo
  by_cases hln : M.length = q.length
  case neg =>
    have HD := Lib.hid (dec_false (show ¬ MdOk g q M from fun h => hln h.1.2))
    have hln' : ¬ (M.length : Int) = (q.length : Int) := by omega
    clear hln
    go_enter Tryd.func31, Tryd.ntmps31
    go_upto_region 1 with fail
    rw [← hW0]
    clear hW0
    have hcx := BX.out.cell
    have hcy := BY.out.cell
    go_wp2_with (first
      | (go_at_call 88; refine (specModelWord_any _ _ g M hgl _ HG.out HM.out).mono ?_; rintro e w2 ⟨ov, he, hb2⟩; rw [hd.out] at he; subst he; have hcp := (BP.out.keep hb2).cell; have hcm := (BY.out.keep hb2).cell)
      | (go_at_call 50; refine (specGraphOk_any _ q _ (HQ.out.below hb2)).mono ?_; rintro e w3 ⟨he, hb3⟩; rw [hd2.out] at he; subst he; have hcp3 := hb3.at' hcp; have hcm3 := hb3.at' hcm))
    go_ret
    exact ⟨by rw [HD.out]; rfl, (hbA.out.trans (hb2.mono hbA.out.size)).trans (hb3.mono (Nat.le_trans hbA.out.size hb2.size))⟩
  have HLN := Lib.hid hln
  have HTRI : Hid ((MdW g M ∧ GOk q) ∧ M.length = q.length) := Lib.hid ⟨⟨HW.out, HPO.out⟩, hln⟩
  have hln1 : (!((M.length : Int) == (q.length : Int))) = false := by rw [hln]; simp
  have hln2 : ((M.length : Int) != (q.length : Int)) = false := by rw [hln]; simp
  obtain ⟨el, hel⟩ : ∃ el, el = edN q.length (ofG q) q.length := ⟨_, rfl⟩
  have HLE : Hid (el.length ≤ 256) := Lib.hid (by
    rw [hel]
    have h16 := HPO.out.le
    have := edN_length q.length (ofG q) q.length
    have : q.length * q.length ≤ 16 * 16 := Nat.mul_le_mul h16 h16
    omega)
  have EDG : Hid (∀ (wz : World) (vz : Value), Gr wz vz q → Calls Tryd.prog 90 #[vz] wz fun e w' => ∃ u : Value, e = .returned u ∧ PrsO w' wz.heap.size u el ∧ Below wz.heap.size wz w') := Lib.hid (fun wz vz hz => by rw [hel]; exact specEdgesOf_any _ q HPO.out _ hz)
  have HEL : Hid (∀ e ∈ el, e.1 < M.length ∧ e.2 < M.length) := Lib.hid (fun e he => by
    rw [hel] at he
    obtain ⟨h1, h2, _⟩ := mem_edN (Nat.le_refl _) he
    rw [HLN.out]
    exact ⟨h1, h2⟩)
  have HYES : Hid ((∀ a, a < M.length → ConnS g (row M a)) → (∀ e ∈ el, JoinP g (row M e.1) (row M e.2)) → MdOk g q M) := Lib.hid (fun h1 h2 => ⟨HTRI.out, h1, by rw [← hel]; exact h2⟩)
  have HNOT : Hid (∀ e ∈ el, ¬ JoinP g (row M e.1) (row M e.2) → ¬ MdOk g q M) := Lib.hid (fun e he h1 h => h1 (h.2.2 e (by rw [← hel]; exact he)))
  clear hln hel
  go_enter Tryd.func31, Tryd.ntmps31
  go_upto_region 1 with fail
  rw [← hW0]
  clear hW0
  have hcx := BX.out.cell
  have hcy := BY.out.cell
  go_upto_region 4 with (first
    | (go_at_call 88; refine (specModelWord_any _ _ g M hgl _ HG.out HM.out).mono ?_; rintro e w2 ⟨ov, he, hb2⟩; rw [hd.out] at he; subst he; have hcp := (BP.out.keep hb2).cell; have hcm := (BY.out.keep hb2).cell)
    | (go_at_call 50; refine (specGraphOk_any _ q _ (HQ.out.below hb2)).mono ?_; rintro e w3 ⟨he, hb3⟩; rw [hd2.out] at he; subst he; have hcp3 := hb3.at' hcp; have hcm3 := hb3.at' hcm))
  have HB3 := Lib.hid (hb2.trans (hb3.mono hb2.size))
  have hM16 := HW.out.1.2
  clear hb2 hb3 hcx hcy hcp hcm hcp3 hcm3 hln1 hln2
  go_wp2_with fail
  go_loopw [9] (fun iv wr => ∃ i : Nat, i ≤ M.length ∧ iv = .int .i64 i ∧ Hid (∀ a, a < i → ConnS g (row M a)) ∧ Below W0.heap.size W0 wr) (fun iv _ => M.length - (intOf iv).toNat)
  case atStart => exact ⟨0, Nat.zero_le _, rfl, Lib.hid (fun a ha => absurd ha (Nat.not_lt_zero _)), HB3.out⟩
  case round =>
    clear HB3
    obtain ⟨i, hi, rfl, HCN, hb⟩ := hrel
    have HB := Lib.hid hb
    have hcx := hb.at (by have := SZ0.out; omega) BX.out.cell
    have hcy := hb.at (by have := SZ0.out; omega) BY.out.cell
    by_cases hlt : i < M.length
    · obtain ⟨sb, so, rp, rc, rfl, hce, hne⟩ := (HS.out.below hb).get (k := i) hlt
      replace hce : wr.cell? ⟨sb, so + i, none⟩ = some (.slice rp (row M i).length rc) := hce
      replace hne : Nums wr 2 .i64 (.slice rp (row M i).length rc) (row M i) := hne
      have HNI := Lib.hid hne
      obtain ⟨rl, hrl⟩ : ∃ rl, rl = (row M i).length := ⟨_, rfl⟩
      rw [← hrl] at hce HNI
      clear hne hb hrl
      go_upto_region 7 with fail
      go_cut [50] (fun s50 wx => s50 = .bool (!dec (ConnS g (row M i))) ∧ Below wr.heap.size wr wx)
      case first =>
        go_region_held3 (fun w' => w'.cell? ⟨w.heap.size, 0, none⟩ = some (.slice p g.length c) ∧ w'.cell? ⟨w.heap.size + 2, 0, none⟩ = some (.slice (some ⟨sb, so, none⟩) M.length sc) ∧ w'.cell? ⟨sb, so + i, none⟩ = some (.slice rp rl rc))
          (first | exact ⟨hcx, hcy, hce⟩ | exact ⟨hb4'.at' hcx, hb4'.at' hcy, hb4'.at' hce⟩ | go_keep)
          (first | (go_at_call 89; refine (specConnectedIn_any _ _ g (row M i) hgl _ (HG.out.below (HB.out.trans (below_dN (Below.refl _ _) 1))) (HNI.out.below (below_dN (Below.refl _ _) 1))).mono ?_; rintro e w4 ⟨rfl, hb4⟩; have hb4' : Below wr.heap.size wr w4 := (below_dN (Below.refl _ _) 1).trans hb4))
        all_goals go_wp2
        all_goals go_meet
        all_goals exact ⟨rfl, hb4'⟩
      case rest =>
      obtain ⟨rfl, hbc⟩ := hcut
      have HBC := Lib.hid (HB.out.trans (hbc.mono HB.out.size))
      clear hce hbc HNI hcx hcy
      by_cases hcn : ConnS g (row M i)
      case neg =>
        have HNB := Lib.hid (dec_false (show ¬ MdOk g q M from fun h => hcn (h.2.1 i hlt)))
        rw [dec_false hcn]
        clear hcn
        go_wp2_with fail
        go_ret
        exact ⟨by rw [HNB.out]; rfl, hbA.out.trans (HBC.out.mono hbA.out.size)⟩
      have HC2 := Lib.hid hcn
      rw [dec_true hcn]
      clear hcn
      go_wp2_with fail
      go_roundw
      case rel => exact ⟨i + 1, by omega, by go_num, Lib.hid (fun a ha => by
        by_cases e : a < i
        · exact HCN.out a e
        · obtain rfl : a = i := by omega
          exact HC2.out), HBC.out⟩
      case measure => simp [intOf]; omega
    · obtain rfl : i = M.length := by omega
      have hcp := hb.at (by have := SZ0.out; omega) BP.out.cell
      clear hb hcx
      go_wp2_with (go_at_call 90; refine (EDG.out _ _ (HQ.out.below HB.out)).mono ?_; rintro e w5 ⟨u5, rfl, hp5, hb5⟩)
      have HB5 := Lib.hid (HB.out.trans (hb5.mono HB.out.size))
      have HP5 := Lib.hid hp5
      obtain ⟨ep, ec, rfl⟩ := hp5.shape
      have hle := HLE.out
      clear hb5 hp5 HB hcp hcy
      go_loopw [11] (fun iv wr => ∃ i : Nat, i ≤ el.length ∧ iv = .int .i64 i ∧ Hid (∀ e ∈ el.take i, JoinP g (row M e.1) (row M e.2)) ∧ Below w5.heap.size w5 wr) (fun iv _ => el.length - (intOf iv).toNat)
      case atStart => exact ⟨0, Nat.zero_le _, rfl, Lib.hid (fun e he => by simp at he), Below.refl _ _⟩
      case round =>
        obtain ⟨i, hi, rfl, HJN, hb⟩ := hrel
        have HB := Lib.hid (HB5.out.trans (hb.mono HB5.out.size))
        have HBW := Lib.hid hb
        by_cases hlt : i < el.length
        · have hcx := HB.out.at (by have := SZ0.out; omega) BX.out.cell
          have hcy := HB.out.at (by have := SZ0.out; omega) BY.out.cell
          obtain ⟨eb, eo, rp, rc, rfl, hce, hne⟩ := (HP5.out.below hb).get hlt
          have htk := Lib.hid (take_snoc' el i hlt)
          have HMEM := Lib.hid (List.getElem_mem hlt)
          obtain ⟨⟨a, b⟩, hab⟩ : ∃ e : Nat × Nat, e = el[i] := ⟨_, rfl⟩
          rw [← hab] at hne htk HMEM
          have hm2 := HEL.out _ HMEM.out
          simp only at hne hm2
          obtain ⟨ha, hbM⟩ := hm2
          obtain ⟨rb, ro, rfl, hc0⟩ := hne.get (k := 0) (by simp)
          obtain ⟨_, _, e1, hc1⟩ := hne.get (k := 1) (by simp)
          cases e1
          simp only [List.getElem_cons_zero, List.getElem_cons_succ, Nat.add_zero] at hc0 hc1
          obtain ⟨sb, so, ap, ac, rfl, hca, hna⟩ := (HS.out.below HB.out).get (k := a) ha
          obtain ⟨_, _, bp, bc, e2, hcb, hnb⟩ := (HS.out.below HB.out).get (k := b) hbM
          simp only [Option.some.injEq, Addr.mk.injEq, and_true] at e2
          obtain ⟨rfl, rfl⟩ := e2
          replace hca : wr.cell? ⟨sb, so + a, none⟩ = some (.slice ap (row M a).length ac) := hca
          replace hcb : wr.cell? ⟨sb, so + b, none⟩ = some (.slice bp (row M b).length bc) := hcb
          have HNA : Hid (Nums wr 2 .i64 (.slice ap (row M a).length ac) (row M a)) := Lib.hid hna
          have HNB : Hid (Nums wr 2 .i64 (.slice bp (row M b).length bc) (row M b)) := Lib.hid hnb
          have HDJ : Hid (dec (∃ e ∈ edN g.length (ofG g) g.length, BtwE (row M a) (row M b) e) = dec (JoinP g (row M a) (row M b))) := Lib.hid (dec_congr (join_btw HW.out.1.1 (HW.out.2 a ha).1).symm)
          obtain ⟨al, hal⟩ : ∃ al, al = (row M a).length := ⟨_, rfl⟩
          obtain ⟨bl, hbl⟩ : ∃ bl, bl = (row M b).length := ⟨_, rfl⟩
          rw [← hal] at hca HNA
          rw [← hbl] at hcb HNB
          clear hne hab hna hnb hal hbl hb
          go_upto_region 13 with fail
          go_cut [12, 13] (fun s12 s13 wx => s13 = .bool (dec (JoinP g (row M a) (row M b))) ∧ Below wr.heap.size wr wx)
          case first =>
            go_region_held3 (fun w' => w'.cell? ⟨w.heap.size, 0, none⟩ = some (.slice p g.length c) ∧ w'.cell? ⟨w.heap.size + 2, 0, none⟩ = some (.slice (some ⟨sb, so, none⟩) M.length sc) ∧ w'.cell? ⟨eb, eo + i, none⟩ = some (.slice (some ⟨rb, ro, none⟩) 2 rc) ∧ w'.cell? ⟨rb, ro, none⟩ = some (.int .i64 a) ∧ w'.cell? ⟨rb, ro + 1, none⟩ = some (.int .i64 b) ∧ w'.cell? ⟨sb, so + a, none⟩ = some (.slice ap al ac) ∧ w'.cell? ⟨sb, so + b, none⟩ = some (.slice bp bl bc))
              (first | exact ⟨hcx, hcy, hce, hc0, hc1, hca, hcb⟩ | exact ⟨hb4'.at' hcx, hb4'.at' hcy, hb4'.at' hce, hb4'.at' hc0, hb4'.at' hc1, hb4'.at' hca, hb4'.at' hcb⟩ | go_keep)
              (first | (go_at_call 91; refine (l21Between_any _ _ _ g (row M a) (row M b) HW.out.1.1 _ (HG.out.below (HB.out.trans (below_dN (Below.refl _ _) 1))) (HNA.out.below (below_dN (Below.refl _ _) 1)) (HNB.out.below (below_dN (Below.refl _ _) 1))).mono ?_; rintro e w4 ⟨ov4, he4, hb4⟩; rw [HDJ.out] at he4; subst he4; have hb4' : Below wr.heap.size wr w4 := (below_dN (Below.refl _ _) 1).trans hb4))
            all_goals go_wp2
            all_goals go_meet
            all_goals exact ⟨rfl, hb4'⟩
          case rest =>
          obtain ⟨rfl, hbc⟩ := hcut
          have HBC : Hid (Below w5.heap.size w5 wc) := Lib.hid (HBW.out.trans (hbc.mono HBW.out.size))
          clear hce hbc HNA HNB hcx hcy hc0 hc1 hca hcb
          by_cases hj : JoinP g (row M a) (row M b)
          case neg =>
            have HNB := Lib.hid (dec_false (HNOT.out _ HMEM.out hj))
            rw [dec_false hj]
            clear hj
            go_wp2_with fail
            go_ret
            exact ⟨by rw [HNB.out]; rfl, hbA.out.trans ((HB5.out.trans (HBC.out.mono HB5.out.size)).mono hbA.out.size)⟩
          have HJ2 := Lib.hid hj
          rw [dec_true hj]
          clear hj
          go_wp2_with fail
          go_roundw
          case rel => exact ⟨i + 1, by omega, by go_num, Lib.hid (fun e he => by
            rw [htk.out] at he
            rcases List.mem_append.1 he with h | h
            · exact HJN.out e h
            · obtain rfl : e = (a, b) := by simpa using h
              exact HJ2.out), HBC.out⟩
          case measure => simp [intOf]; omega
        · obtain rfl : i = el.length := by omega
          have HD := Lib.hid (dec_true (HYES.out HCN.out (by have := HJN.out; rwa [List.take_length] at this)))
          clear hb
          go_wp2_with fail
          go_ret
          exact ⟨by rw [HD.out]; rfl, hbA.out.trans (HB.out.mono hbA.out.size)⟩

end Go.Proofs.YtfokiijcpkhllaaDoor
