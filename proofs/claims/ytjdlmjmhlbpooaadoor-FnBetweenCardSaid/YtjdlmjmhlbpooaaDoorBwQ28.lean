/- Walks: the reference's path from a vertex to another. -/
import Derived.Test.YtjdlmjmhlbpooaaDoorBwQ19
import Derived.Test.YtjdlmjmhlbpooaaDoorBwQ22
import Derived.Test.YtjdlmjmhlbpooaaDoorBwQ26
import Derived.Test.YtjdlmjmhlbpooaaDoorBwQ27
namespace Go.Proofs.YtjdlmjmhlbpooaaDoor
open Go.RowKit

/-- A way down the distances, so far. -/
structure DnI (g : List (List Int)) (F : List Int) (s cur : Nat) (pre : List Nat) : Prop where
  own : cur ∈ pre
  inn : ∀ x ∈ pre, x < g.length
  rch : Rch (ofG g) (· ∈ pre) s cur
  pos : 0 ≤ F.getD cur 0
  len : pre.length + (F.getD cur 0).toNat ≤ 17
theorem DnI.add {g : List (List Int)} {F : List Int} {s cur y : Nat} {pre : List Nat} (h : DnI g F s cur pre) (hE : ofG g cur y = true) (hy : y < g.length) (hF : F.getD y 0 = F.getD cur 0 - 1) (h0 : 0 < F.getD cur 0) : DnI g F s y (pre ++ [y]) where
  own := by simp
  inn := fun x hx => by
    rcases List.mem_append.1 hx with h1 | h1
    · exact h.inn x h1
    · rw [List.mem_singleton] at h1; omega
  rch := .step (rch_mono (fun x hx => List.mem_append_left _ hx) _ h.rch) hE (by simp)
  pos := by omega
  len := by
    have := h.len
    rw [List.length_append, List.length_singleton, hF]
    omega

set_option maxRecDepth 100000 in
set_option maxHeartbeats 4000000 in
theorem l3Down_any (v fv : Value) (z : Int) (g : List (List Int)) (F : List Int) (M : List Nat) (s t : Nat) (hz : z = s) (hok : GOk g) (hF : Bf (ofG g) (List.range g.length) g.length t F M) (hs : s < g.length) (h0 : 0 ≤ F.getD s 0) (w : World) (hg : Gr w v g) (hn : Nums w 2 .i64 fv F) :
    Calls Tryd.prog 104 #[v, fv, .int .i64 z] w fun e w' => ∃ (ov : Value) (way : List Nat), e = .returned ov ∧ Nums w' 2 .i64 ov (natInts way) ∧ (∀ x ∈ way, x < g.length) ∧ Rch (ofG g) (· ∈ way) s t ∧ way.length ≤ 17 ∧ Below w.heap.size w w' := by
  subst hz
  have h16 := hok.le
  obtain ⟨gu, rfl, hr⟩ := hg
  obtain ⟨gp, gc, rfl, _⟩ := hr.shape
  obtain ⟨fp, fc, rfl, _⟩ := id hn.shape
  have hFl := hF.len
  rw [hFl] at hn ⊢
  obtain ⟨W0, hW0⟩ : ∃ W0, W0 = w.alloc (.cells #[.slice gp g.length gc] 29) := ⟨_, rfl⟩
  have HB0 : Hid (Below w.heap.size w W0) := Lib.hid (by rw [hW0]; exact below_alloc _ _)
  have HBG : Hid (Box W0 w.heap.size 29 (.slice gp g.length gc)) := Lib.hid (by rw [hW0]; exact Box.new _ _ _)
  have HGR := Lib.hid (hr.below HB0.out)
  have HN := Lib.hid (hn.below HB0.out)
  have HFL := Lib.hid hFl
  have HSTP : Hid (∀ x, x < g.length → 0 < F.getD x 0 → ∃ y, y < g.length ∧ ofG g x y = true ∧ F.getD y 0 = F.getD x 0 - 1) := Lib.hid (fun x hx h => by
    obtain ⟨y, h1, h2, h3⟩ := hF.stp x hx h
    exact ⟨y, h1, ofG_sym hok _ _ h2, by omega⟩)
  have HZER := Lib.hid hF.zer
  have HBND : Hid (∀ x, x < g.length → F.getD x 0 < 17) := Lib.hid (fun x hx => by
    have := (hF.bnd x hx).2
    have := hF.le
    omega)
  have hrow : Hid (∀ j, j < g.length → ∃ R : List Nat, row g j = natInts R ∧ (∀ y ∈ R, y < g.length) ∧ R.length ≤ 16) := Lib.hid (fun j hj => by
    obtain ⟨h1, h2, h3⟩ := setIn_nats (hok.sets j hj).1
    refine ⟨(row g j).map Int.toNat, h1.symm, h3, ?_⟩
    have := setIn_length (by omega) (hok.sets j hj).1
    rw [List.length_map]; omega)
  have HI0 : Hid (DnI g F s s [s]) := Lib.hid ⟨by simp, fun x hx => by rw [List.mem_singleton] at hx; omega, .base, h0, by have := HBND.out s hs; show 1 + (F.getD s 0).toNat ≤ 17; omega⟩
  have START : Hid ((W0.alloc (.cells #[.int .i64 (s : Int)] 2)).ownsRow W0.heap.size 2 1 (.slice (some ⟨W0.heap.size, 0, none⟩) 1 1) 1 [.int .i64 (s : Int)]) := Lib.hid (World.ownsRow_lit (base := W0.heap.size) (e := 2) (size := 1) W0 #[.int .i64 (s : Int)] 1 (Nat.le_refl _) (by decide) rfl)
  clear hr hn hF hok hFl h0
  go_enter Tryd.func104, Tryd.ntmps104
  go_upto_region 1 with fail
  rw [← hW0]
  clear hW0
  go_wp2_with fail
  go_loopw [2, 7, 8, 9] (fun uv ov _ _ wr => ∃ (cur : Nat) (pre : List Nat), uv = .int .i64 (cur : Int) ∧ cur < g.length ∧ Hid (DnI g F s cur pre) ∧ wr.ownsRow W0.heap.size 2 1 ov pre.length ((natInts pre).map (Value.int .i64)) ∧ Below W0.heap.size W0 wr) (fun uv _ _ _ _ => (F.getD (intOf uv).toNat 0).toNat)
  case atStart => exact ⟨s, [s], rfl, hs, HI0, START.out, below_alloc _ _⟩
  case round =>
    clear START HI0
    obtain ⟨cur, pre, rfl, hcur, HI, ho, hb⟩ := hrel
    have HO := Lib.hid ho
    have HB := Lib.hid hb
    obtain ⟨fb, fo, hfp, hcc⟩ := (HN.out.below hb).get (k := cur) (by rw [HFL.out]; exact hcur)
    subst hfp
    have HFY : Hid (∀ y, y < g.length → wr.cell? ⟨fb, fo + y, none⟩ = some (.int .i64 (F.getD y 0))) := Lib.hid (fun y hy => by
      obtain ⟨b', o', e1, h1⟩ := (HN.out.below hb).get (k := y) (by rw [HFL.out]; exact hy)
      cases e1
      rw [h1, List.getD_eq_getElem?_getD, List.getElem?_eq_getElem (by rw [HFL.out]; exact hy)]
      rfl)
    replace hcc := HFY.out cur hcur
    have hpre : pre.length ≤ 17 := by have := HI.out.len; omega
    have hbd := HBND.out cur hcur
    have hps := HI.out.pos
    have HST := Lib.hid (HSTP.out cur hcur)
    have HZ := Lib.hid (HZER.out cur hcur)
    have HADD := Lib.hid (fun (y : Nat) => HI.out.add (y := y))
    obtain ⟨fx, hfx⟩ : ∃ fx, fx = F.getD cur 0 := ⟨_, rfl⟩
    rw [← hfx] at hcc hbd hps HST HZ HADD
    have HFX := Lib.hid hfx
    clear ho hb hfx
    by_cases hpos : 0 < fx
    · have hgt : (fx > 0) := hpos
      obtain ⟨R, hR, hRn, hR16⟩ := hrow.out cur hcur
      obtain ⟨gb, go, rp, rc, hgp, hce0, hne0⟩ := HGR.out.get (k := cur) hcur
      subst hgp
      have hce0 : W0.cell? ⟨gb, go + cur, none⟩ = some (.slice rp (row g cur).length rc) := hce0
      have hne0 : Nums W0 2 .i64 (.slice rp (row g cur).length rc) (row g cur) := hne0
      rw [hR, natInts_length] at hce0 hne0
      have hce := HB.out.at' hce0
      have hcg := (HBG.out.keep HB.out).cell
      have HNR := Lib.hid hne0
      have HRN := Lib.hid hRn
      have HR := Lib.hid hR
      obtain ⟨fd, hfd⟩ : ∃ fd, fd = fx - 1 := ⟨_, rfl⟩
      have hwr : IntKind.i64.wrap (fx - 1) = fd := by rw [IntKind.wrap_i64]; omega
      have HFD := Lib.hid hfd
      obtain ⟨wo, hwo⟩ : ∃ wo, wo = wr := ⟨_, rfl⟩
      clear hne0 hce0 hRn hR hfd
      go_wp2_with fail
      clear hce hcg
      rw [← hwo] at HO HB HFY hcc ⊢
      go_loopw [2, 9] (fun uv kv wx => ∃ k : Nat, k ≤ R.length ∧ uv = .int .i64 (cur : Int) ∧ kv = .int .i64 (k : Int) ∧ Hid (∀ j, j < k → F.getD (R.getD j 0) 0 ≠ fd) ∧ Below wo.heap.size wo wx) (fun _ kv _ => R.length - (intOf kv).toNat)
      case atStart => exact ⟨0, Nat.zero_le _, rfl, rfl, Lib.hid (fun j hj => absurd hj (Nat.not_lt_zero _)), Below.refl _ _⟩
      case round =>
        obtain ⟨k, hk, rfl, rfl, HNO, hbx⟩ := hrel
        have HBX := Lib.hid hbx
        have hcc2 := hbx.at' hcc
        by_cases hlt : k < R.length
        · obtain ⟨y, hy⟩ : ∃ y, y = R[k] := ⟨_, rfl⟩
          have hyn : y < g.length := by rw [hy]; exact HRN.out _ (List.getElem_mem hlt)
          have HE : Hid (ofG g cur y = true) := Lib.hid (by
            unfold ofG
            rw [decide_eq_true_eq, HR.out, hy]
            exact mem_natInts.2 ⟨_, List.getElem_mem hlt, rfl⟩)
          have HYK : Hid (R.getD k 0 = y) := Lib.hid (by rw [hy]; simp [hlt])
          obtain ⟨qb, qo, hqp, hq⟩ := ((HNR.out.below HB.out).below hbx).get (k := k) (by rw [natInts_length]; exact hlt)
          subst hqp
          rw [natInts_atC hlt, ← hy] at hq
          have hcy := hbx.at' (HFY.out y hyn)
          obtain ⟨fy, hfy⟩ : ∃ fy, fy = F.getD y 0 := ⟨_, rfl⟩
          rw [← hfy] at hcy
          have HFYE := Lib.hid hfy
          have e3 : (k : Int) < (R.length : Int) := by omega
          have e4 : (y : Int) < (g.length : Int) := by omega
          have e5 : (cur : Int) < (g.length : Int) := by omega
          clear hy hbx hfy
          by_cases hyd : fy = fd
          · have hdd : (fy == fd) = true := by simp [hyd]
            have HYD := Lib.hid hyd
            clear hyd
            go_upto_region 7 with fail
            go_cut [40] (fun s wy => s = .bool true ∧ Below wr.heap.size wr wy)
            case first =>
              go_region_held3 (fun w' => w'.cell? ⟨qb, qo + k, none⟩ = some (.int .i64 (y : Int)) ∧ w'.cell? ⟨fb, fo + y, none⟩ = some (.int .i64 fy) ∧ w'.cell? ⟨fb, fo + cur, none⟩ = some (.int .i64 fx))
                (first | exact ⟨hq, hcy, hcc2⟩ | go_keep)
                (first | (fail))
              all_goals go_wp2
              all_goals go_meet
              all_goals exact ⟨rfl, below_dN (Below.refl _ _) 1⟩
            case rest =>
            obtain ⟨rfl, hb7⟩ := hcut
            rename_i wy
            have hq2 := hb7.at' hq
            have HBY := Lib.hid (HB.out.trans ((HBX.out.trans (hb7.mono HBX.out.size)).mono HB.out.size))
            have hown := ownsRow_below HO.out (HBX.out.trans (hb7.mono HBX.out.size))
            have hsz := HBY.out.size
            clear hq hcy hcc2 hb7 hcc
            go_wp2_with (at_builtin; refine wpList_app1 ty_i64 rfl rfl rfl hown rfl rfl (by omega) hsz ?_; intro v' wz hown' hgz _)
            go_roundw
            case rel => exact ⟨y, pre ++ [y], rfl, hyn, Lib.hid (HADD.out y HE.out hyn (by have h1 := HYD.out; have h2 := HFD.out; have h3 := HFYE.out; omega) hpos), by rw [List.length_append]; simpa [natInts] using hown', below_grown HBY.out hown hgz (Nat.le_refl _) hsz⟩
            case measure =>
              have h1 := HYD.out
              have h2 := HFD.out
              have h3 := HFYE.out
              have h4 := HFX.out
              simp only [intOf, Int.toNat_natCast]
              omega
          · have hdd : (fy == fd) = false := beq_eq_false_iff_ne.2 hyd
            have HNX : Hid (∀ j, j < k + 1 → F.getD (R.getD j 0) 0 ≠ fd) := Lib.hid (fun j hj => by
              by_cases e : j < k
              · exact HNO.out j e
              · rw [show j = k by omega, HYK.out, ← HFYE.out]; exact hyd)
            clear hyd
            go_upto_region 7 with fail
            go_cut [40] (fun s wy => s = .bool false ∧ Below wr.heap.size wr wy)
            case first =>
              go_region_held3 (fun w' => w'.cell? ⟨qb, qo + k, none⟩ = some (.int .i64 (y : Int)) ∧ w'.cell? ⟨fb, fo + y, none⟩ = some (.int .i64 fy) ∧ w'.cell? ⟨fb, fo + cur, none⟩ = some (.int .i64 fx))
                (first | exact ⟨hq, hcy, hcc2⟩ | go_keep)
                (first | (fail))
              all_goals go_wp2
              all_goals go_meet
              all_goals exact ⟨rfl, below_dN (Below.refl _ _) 1⟩
            case rest =>
            obtain ⟨rfl, hb7⟩ := hcut
            go_wp2_with fail
            go_roundw
            case rel => exact ⟨k + 1, by omega, rfl, by go_num, HNX, HBX.out.trans (hb7.mono HBX.out.size)⟩
            case measure => simp [intOf]; omega
        · exfalso
          obtain rfl : k = R.length := by omega
          obtain ⟨y, h1, h2, h3⟩ := HST.out hpos
          have h4 : y ∈ R := by
            unfold ofG at h2
            rw [decide_eq_true_eq, HR.out] at h2
            obtain ⟨i, hi, e⟩ := mem_natInts.1 h2
            rwa [show y = i by omega]
          obtain ⟨j, hj, rfl⟩ := List.getElem_of_mem h4
          refine HNO.out j hj ?_
          have e : R.getD j 0 = R[j] := by
            rw [List.getD_eq_getElem?_getD, List.getElem?_eq_getElem hj]; rfl
          rw [e, h3, HFD.out]
    · have hfz : fx = 0 := by omega
      subst hfz
      have HT := Lib.hid (HZ.out rfl)
      go_wp2_with fail
      go_ret
      refine ⟨_, rfl, pre, ?_, HI.out.inn, ?_, by omega, HB0.out.trans (HB.out.mono HB0.out.size)⟩
      · exact Nums.of_owns HO.out (natInts_length _).symm (by omega)
      · rw [← HT.out]; exact HI.out.rch

set_option maxRecDepth 100000 in
set_option maxHeartbeats 4000000 in
theorem specPathOf_any (v : Value) (g : List (List Int)) (y z : Int) (s t : Nat) (hy : y = s) (hz : z = t) (hok : GOk g) (hs : s < g.length) (ht : t < g.length) (w : World) (hg : Gr w v g) :
    Calls Tryd.prog 42 #[v, .int .i64 y, .int .i64 z] w fun e w' => ∃ (ov : Value) (way : List Nat), e = .returned ov ∧ Nums w' 2 .i64 ov (natInts way) ∧ (∀ x ∈ way, x < g.length) ∧ (Rch (ofG g) (· ∈ List.range g.length) s t → Rch (ofG g) (· ∈ way) s t) ∧ way.length ≤ 17 ∧ Below w.heap.size w w' := by
  subst hy; subst hz
  have h16 := hok.le
  have hg0 := hg
  obtain ⟨u, rfl, hr⟩ := hg
  obtain ⟨p, c, rfl, _⟩ := hr.shape
  have hbA := Lib.hid (below_alloc w (.cells #[.slice p g.length c] 29))
  have HG := Lib.hid (hg0.below hbA.out)
  have BX := Lib.hid (Box.new w (.slice p g.length c) 29)
  have HD := Lib.hid (dec_true hok)
  have HDS := Lib.hid (dec_true (show (0 : Int) ≤ (s : Int) ∧ (s : Int) < g.length from ⟨by omega, by omega⟩))
  have HDT := Lib.hid (dec_true (show (0 : Int) ≤ (t : Int) ∧ (t : Int) < g.length from ⟨by omega, by omega⟩))
  have HOK := Lib.hid hok
  clear hr hg0 hok
  go_enter Tryd.func42, Tryd.ntmps42
  go_upto_region 3 with (first
    | (go_at_call 29; refine (specGraphOk_any _ g _ HG.out).mono ?_; rintro e w2 ⟨he, hb2⟩; rw [HD.out] at he; subst he; have c2 := (BX.out.keep hb2).cell)
    | (have X3 := hb3; go_at_call 75; refine (l1ThereC_any _ g (t : Int) _ ((HG.out.below hb2).below X3) (by omega)).mono ?_; rintro e w4 ⟨he, hb4⟩; rw [HDT.out] at he; subst he; have c4 := hb4.at' c3)
    | (go_at_call 75; refine (l1ThereC_any _ g (s : Int) _ (HG.out.below hb2) (by omega)).mono ?_; rintro e w3 ⟨he, hb3⟩; rw [HDS.out] at he; subst he; have c3 := hb3.at' c2))
  have HB4 := Lib.hid ((hb2.trans (hb3.mono hb2.size)).trans (hb4.mono (Nat.le_trans hb2.size hb3.size)))
  have HG4 := Lib.hid (HG.out.below HB4.out)
  have HW4 := Lib.hid (hbA.out.trans (HB4.out.mono hbA.out.size))
  clear hb2 hb3 hb4 c2 c3 hbA HB4
  go_cut [7] (fun sv wx => ∃ (F : List Int) (M : List Nat), Hid (Bf (ofG g) (List.range g.length) g.length t F M) ∧ Hid (∀ x, x < g.length → (0 ≤ F.getD x 0 ↔ x ∈ partL (ofG g) (List.range g.length) t)) ∧ Nums wx 2 .i64 sv F ∧ Below w4.heap.size w4 wx)
  case first =>
    go_region_held3 (fun w' => w'.cell? ⟨w.heap.size, 0, none⟩ = some (.slice p g.length c))
      (first | exact c4 | go_keep | exact BWC.at' c4 | exact BWB.at' c4 | exact BWA.at' c4)
      (first
        | (go_at_call 103; refine (l3FromF_any _ _ _ g (List.range g.length) t rfl HOK.out (fun x hx => List.mem_range.1 hx) (List.mem_range.2 ht) _ (HG4.out.below BWB) HNL.out).mono ?_; rintro e wc ⟨fv, F, rfl, hFl, hfp, ⟨M, hM⟩, ho, hbq⟩; have HM := Lib.hid hM; have HFP := Lib.hid hfp; have HNF := Lib.hid (Nums.of_owns (by rw [← hFl] at ho; exact ho) rfl (by omega)); have BWC : Below w4.heap.size w4 wc := BWB.trans (hbq.mono BWB.size); clear hbq ho hM hFl hfp)
        | (go_at_call 73; refine (l1All_any _ g.length rfl (by omega) _).mono ?_; rintro e wb ⟨lv, rfl, ho, hbq⟩; have HNL : Hid (Nums wb 2 .i64 lv (natInts (List.range g.length))) := Lib.hid (Nums.of_owns ho (by rw [natInts_length, List.length_range]) (by omega)); have BWB : Below w4.heap.size w4 wb := BWA.trans (hbq.mono BWA.size); clear hbq ho)
        | (go_at_call 53; refine (l1Size_any _ g _ (HG4.out.below (below_dN (Below.refl _ _) 1))).mono ?_; rintro e wa ⟨rfl, hbq⟩; have BWA : Below w4.heap.size w4 wa := (below_dN (Below.refl _ _) 1).trans hbq; clear hbq))
    all_goals go_wp2
    all_goals go_meet
    all_goals exact ⟨F, M, HM, HFP, HNF.out, BWC⟩
  case rest =>
  obtain ⟨F, M, HM, HFP, hn, hb5⟩ := hcut
  rename_i w5
  have c5 := hb5.at' c4
  have HN := Lib.hid hn
  have HG5 := Lib.hid (HG4.out.below hb5)
  have HW5 := Lib.hid (HW4.out.trans (hb5.mono HW4.out.size))
  obtain ⟨fp, fc, rfl, _⟩ := id hn.shape
  obtain ⟨fb, fo, hfp, hcs⟩ := hn.get (k := s) (by rw [HM.out.len]; exact hs)
  subst hfp
  have HFL := Lib.hid HM.out.len
  have e1 : F[s]'(by rw [HFL.out]; exact hs) = F.getD s 0 := by
    rw [List.getD_eq_getElem?_getD, List.getElem?_eq_getElem (by rw [HFL.out]; exact hs)]; rfl
  rw [e1] at hcs
  have e4 : (s : Int) < (F.length : Int) := by rw [HFL.out]; omega
  clear e1 hn hb5 c4 HG4 HW4
  by_cases hf : 0 ≤ F.getD s 0
  · have HF := Lib.hid hf
    obtain ⟨fx, hfx⟩ : ∃ fx, fx = F.getD s 0 := ⟨_, rfl⟩
    rw [← hfx] at hcs hf
    clear hfx
    have hlt : ¬ fx < 0 := by omega
    go_wp2_with (go_at_call 104; refine (l3Down_any _ _ _ g F M s t rfl HOK.out HM.out hs HF.out _ HG5.out HN.out).mono ?_; rintro e w6 ⟨ov, way, rfl, hnw, hin, hrw, hlw, hb6⟩)
    go_ret
    exact ⟨_, way, rfl, hnw, hin, fun _ => hrw, hlw, HW5.out.trans (hb6.mono HW5.out.size)⟩
  · have HF := Lib.hid hf
    obtain ⟨fx, hfx⟩ : ∃ fx, fx = F.getD s 0 := ⟨_, rfl⟩
    rw [← hfx] at hcs hf
    clear hfx
    have hlt : fx < 0 := by omega
    go_wp2_with fail
    go_ret
    refine ⟨_, rfl, [], ?_, fun x hx => (by cases hx), fun h => absurd ?_ (Int.not_le.2 HF.out), Nat.zero_le _, HW5.out.trans ((below_alloc _ _).mono HW5.out.size)⟩
    · exact Nums.of_owns (ownsRow_empty _ 2 1) rfl (Nat.zero_le _)
    · exact (HFP.out s hs).2 (mem_partL.2 ⟨List.mem_range.2 hs, rch_sym (ofG_sym HOK.out) (List.mem_range.2 hs) (rch_mono (fun x hx => List.mem_range.2 (by simpa using hx)) _ h)⟩)

end Go.Proofs.YtjdlmjmhlbpooaaDoor
