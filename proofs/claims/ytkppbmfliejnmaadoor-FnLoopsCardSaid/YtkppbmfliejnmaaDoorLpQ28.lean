/- Walk: the reference's l3Down, the way itself (printed by wip/mkLpC.py out of XBwA). -/
import Derived.Test.YtkppbmfliejnmaaDoorLpQ27
import Derived.Test.YtkppbmfliejnmaaDoorLpQ14
import Derived.Test.YtkppbmfliejnmaaDoorLpQ16
namespace Go.Proofs.YtkppbmfliejnmaaDoor
open Go.RowKit

/-- The least way down some distances. -/
inductive DnW (g : List (List Int)) (F : List Int) : Nat → List Nat → Prop
  | stop {x : Nat} : F.getD x 0 = 0 → DnW g F x [x]
  | step {x y : Nat} {W : List Nat} : 0 < F.getD x 0 → y < g.length → ofG g x y = true → F.getD y 0 = F.getD x 0 - 1 → (∀ z, z < y → ofG g x z = true → F.getD z 0 ≠ F.getD x 0 - 1) → DnW g F y W → DnW g F x (x :: W)
structure DnX (g : List (List Int)) (F : List Int) (s cur : Nat) (pre : List Nat) : Prop where
  lst : ∃ P, pre = P ++ [cur]
  ext : ∀ W, DnW g F cur W → DnW g F s (pre.dropLast ++ W)
theorem DnX.start (g : List (List Int)) (F : List Int) (s : Nat) : DnX g F s s [s] := ⟨⟨[], rfl⟩, fun W h => h⟩
theorem DnX.add {g : List (List Int)} {F : List Int} {s cur y : Nat} {pre : List Nat} (h : DnX g F s cur pre) (h0 : 0 < F.getD cur 0) (hy : y < g.length) (hE : ofG g cur y = true) (hF : F.getD y 0 = F.getD cur 0 - 1) (hm : ∀ z, z < y → ofG g cur z = true → F.getD z 0 ≠ F.getD cur 0 - 1) : DnX g F s y (pre ++ [y]) := by
  obtain ⟨⟨P, rfl⟩, h2⟩ := h
  refine ⟨⟨_, rfl⟩, fun W hW => ?_⟩
  have := h2 (cur :: W) (.step h0 hy hE hF hm hW)
  rw [List.dropLast_concat] at this ⊢
  rw [List.append_assoc]
  exact this
theorem DnX.fin {g : List (List Int)} {F : List Int} {s cur : Nat} {pre : List Nat} (h : DnX g F s cur pre) (h0 : F.getD cur 0 = 0) : DnW g F s pre := by
  obtain ⟨⟨P, rfl⟩, h2⟩ := h
  have := h2 [cur] (.stop h0)
  rwa [List.dropLast_concat] at this
set_option maxRecDepth 100000 in
set_option maxHeartbeats 4000000 in
theorem l3DownD_any (v fv : Value) (z : Int) (g : List (List Int)) (F : List Int) (M : List Nat) (s t : Nat) (hz : z = s) (hok : GOk g) (hF : Bf (ofG g) (List.range g.length) g.length t F M) (hs : s < g.length) (h0 : 0 ≤ F.getD s 0) (w : World) (hg : Gr w v g) (hn : Nums w 2 .i64 fv F) :
    Calls Tryd.prog 167 #[v, fv, .int .i64 z] w fun e w' => ∃ (ov : Value) (way : List Nat), e = .returned ov ∧ Nums w' 2 .i64 ov (natInts way) ∧ DnW g F s way ∧ (∀ x ∈ way, x < g.length) ∧ Rch (ofG g) (· ∈ way) s t ∧ way.length ≤ 17 ∧ Below w.heap.size w w' := by
  subst hz
  have h16 := hok.le
  obtain ⟨gu, rfl, hr⟩ := hg
  obtain ⟨gp, gc, rfl, _⟩ := hr.shape
  obtain ⟨fp, fc, rfl, _⟩ := id hn.shape
  have hFl := hF.len
  rw [hFl] at hn ⊢
  obtain ⟨W0, hW0⟩ : ∃ W0, W0 = w.alloc (.cells #[.slice gp g.length gc] 29) := ⟨_, rfl⟩
  have HB0 : Hid (Below w.heap.size w W0) := Lib.hid (by rw [hW0]; exact below_alloc _ _)
  have HBG : Hid (Box W0 w.heap.size 29 (.slice gp g.length gc)) := Lib.hid (by rw [hW0]; exact Box.new _ _ _)
  have HGR := Lib.hid (hr.below HB0.out)
  have HN := Lib.hid (hn.below HB0.out)
  have HFL := Lib.hid hFl
  have HSTP : Hid (∀ x, x < g.length → 0 < F.getD x 0 → ∃ y, y < g.length ∧ ofG g x y = true ∧ F.getD y 0 = F.getD x 0 - 1) := Lib.hid (fun x hx h => by
    obtain ⟨y, h1, h2, h3⟩ := hF.stp x hx h
    exact ⟨y, h1, ofG_sym hok _ _ h2, by omega⟩)
  have HZER := Lib.hid hF.zer
  have HBND : Hid (∀ x, x < g.length → F.getD x 0 < 17) := Lib.hid (fun x hx => by
    have := (hF.bnd x hx).2
    have := hF.le
    omega)
  have hrow : Hid (∀ j, j < g.length → ∃ R : List Nat, row g j = natInts R ∧ (∀ y ∈ R, y < g.length) ∧ R.length ≤ 16 ∧ R.Pairwise (· < ·)) := Lib.hid (fun j hj => by
    obtain ⟨h1, h2, h3⟩ := setIn_nats (hok.sets j hj).1
    refine ⟨(row g j).map Int.toNat, h1.symm, h3, ?_, h2⟩
    have := setIn_length (by omega) (hok.sets j hj).1
    rw [List.length_map]; omega)
  have HI0 : Hid (DnI g F s s [s]) := Lib.hid ⟨by simp, fun x hx => by rw [List.mem_singleton] at hx; omega, .base, h0, by have := HBND.out s hs; show 1 + (F.getD s 0).toNat ≤ 17; omega⟩
  have HX0 : Hid (DnX g F s s [s]) := Lib.hid (DnX.start g F s)
  have START : Hid ((W0.alloc (.cells #[.int .i64 (s : Int)] 2)).ownsRow W0.heap.size 2 1 (.slice (some ⟨W0.heap.size, 0, none⟩) 1 1) 1 [.int .i64 (s : Int)]) := Lib.hid (World.ownsRow_lit (base := W0.heap.size) (e := 2) (size := 1) W0 #[.int .i64 (s : Int)] 1 (Nat.le_refl _) (by decide) rfl)
  clear hr hn hF hok hFl h0
  go_enter Tryd.func167, Tryd.ntmps167
  go_upto_region 1 with fail
  rw [← hW0]
  clear hW0
  go_wp2_with fail
  go_loopw [2, 7, 8, 9] (fun uv ov _ _ wr => ∃ (cur : Nat) (pre : List Nat), uv = .int .i64 (cur : Int) ∧ cur < g.length ∧ Hid (DnI g F s cur pre) ∧ Hid (DnX g F s cur pre) ∧ wr.ownsRow W0.heap.size 2 1 ov pre.length ((natInts pre).map (Value.int .i64)) ∧ Below W0.heap.size W0 wr) (fun uv _ _ _ _ => (F.getD (intOf uv).toNat 0).toNat)
  case atStart => exact ⟨s, [s], rfl, hs, HI0, HX0, START.out, below_alloc _ _⟩
  case round =>
    clear START HI0 HX0
    obtain ⟨cur, pre, rfl, hcur, HI, HXX, ho, hb⟩ := hrel
    have HO := Lib.hid ho
    have HB := Lib.hid hb
    obtain ⟨fb, fo, hfp, hcc⟩ := (HN.out.below hb).get (k := cur) (by rw [HFL.out]; exact hcur)
    subst hfp
    have HFY : Hid (∀ y, y < g.length → wr.cell? ⟨fb, fo + y, none⟩ = some (.int .i64 (F.getD y 0))) := Lib.hid (fun y hy => by
      obtain ⟨b', o', e1, h1⟩ := (HN.out.below hb).get (k := y) (by rw [HFL.out]; exact hy)
      cases e1
      rw [h1, List.getD_eq_getElem?_getD, List.getElem?_eq_getElem (by rw [HFL.out]; exact hy)]
      rfl)
    replace hcc := HFY.out cur hcur
    have hpre : pre.length ≤ 17 := by have := HI.out.len; omega
    have hbd := HBND.out cur hcur
    have hps := HI.out.pos
    have HST := Lib.hid (HSTP.out cur hcur)
    have HZ := Lib.hid (HZER.out cur hcur)
    have HADD := Lib.hid (fun (y : Nat) => HI.out.add (y := y))
    obtain ⟨fx, hfx⟩ : ∃ fx, fx = F.getD cur 0 := ⟨_, rfl⟩
    rw [← hfx] at hcc hbd hps HST HZ HADD
    have HFX := Lib.hid hfx
    clear ho hb hfx
    by_cases hpos : 0 < fx
    · have hgt : (fx > 0) := hpos
      obtain ⟨R, hR, hRn, hR16, hRr⟩ := hrow.out cur hcur
      have HRR := Lib.hid hRr
      clear hRr
      obtain ⟨gb, go, rp, rc, hgp, hce0, hne0⟩ := HGR.out.get (k := cur) hcur
      subst hgp
      have hce0 : W0.cell? ⟨gb, go + cur, none⟩ = some (.slice rp (row g cur).length rc) := hce0
      have hne0 : Nums W0 2 .i64 (.slice rp (row g cur).length rc) (row g cur) := hne0
      rw [hR, natInts_length] at hce0 hne0
      have hce := HB.out.at' hce0
      have hcg := (HBG.out.keep HB.out).cell
      have HNR := Lib.hid hne0
      have HRN := Lib.hid hRn
      have HR := Lib.hid hR
      obtain ⟨fd, hfd⟩ : ∃ fd, fd = fx - 1 := ⟨_, rfl⟩
      have hwr : IntKind.i64.wrap (fx - 1) = fd := by rw [IntKind.wrap_i64]; omega
      have HFD := Lib.hid hfd
      obtain ⟨wo, hwo⟩ : ∃ wo, wo = wr := ⟨_, rfl⟩
      clear hne0 hce0 hRn hR hfd
      go_wp2_with fail
      clear hce hcg
      rw [← hwo] at HO HB HFY hcc ⊢
      go_loopw [2, 9] (fun uv kv wx => ∃ k : Nat, k ≤ R.length ∧ uv = .int .i64 (cur : Int) ∧ kv = .int .i64 (k : Int) ∧ Hid (∀ j, j < k → F.getD (R.getD j 0) 0 ≠ fd) ∧ Below wo.heap.size wo wx) (fun _ kv _ => R.length - (intOf kv).toNat)
      case atStart => exact ⟨0, Nat.zero_le _, rfl, rfl, Lib.hid (fun j hj => absurd hj (Nat.not_lt_zero _)), Below.refl _ _⟩
      case round =>
        obtain ⟨k, hk, rfl, rfl, HNO, hbx⟩ := hrel
        have HBX := Lib.hid hbx
        have hcc2 := hbx.at' hcc
        by_cases hlt : k < R.length
        · obtain ⟨y, hy⟩ : ∃ y, y = R[k] := ⟨_, rfl⟩
          have hyn : y < g.length := by rw [hy]; exact HRN.out _ (List.getElem_mem hlt)
          have HE : Hid (ofG g cur y = true) := Lib.hid (by
            unfold ofG
            rw [decide_eq_true_eq, HR.out, hy]
            exact mem_natInts.2 ⟨_, List.getElem_mem hlt, rfl⟩)
          have HFST : Hid (∀ z, z < y → ofG g cur z = true → F.getD z 0 ≠ fd) := Lib.hid (fun z hz hE => by
            unfold ofG at hE
            rw [decide_eq_true_eq, HR.out] at hE
            obtain ⟨z', h1, h2⟩ := mem_natInts.1 hE
            obtain rfl : z' = z := by omega
            obtain ⟨j, hj, e⟩ := List.getElem_of_mem h1
            have hjk : j < k := Classical.byContradiction fun hn => by
              rcases Nat.lt_or_ge k j with h | h
              · have := List.pairwise_iff_getElem.1 HRR.out k j hlt hj h
                omega
              · obtain rfl : j = k := by omega
                omega
            have := HNO.out j hjk
            have e9 : R.getD j 0 = R[j] := by rw [List.getD_eq_getElem?_getD, List.getElem?_eq_getElem hj]; rfl
            rw [e9] at this
            rw [← e]
            exact this)
          have HYK : Hid (R.getD k 0 = y) := Lib.hid (by rw [hy]; simp [hlt])
          obtain ⟨qb, qo, hqp, hq⟩ := ((HNR.out.below HB.out).below hbx).get (k := k) (by rw [natInts_length]; exact hlt)
          subst hqp
          rw [natInts_atC hlt, ← hy] at hq
          have hcy := hbx.at' (HFY.out y hyn)
          obtain ⟨fy, hfy⟩ : ∃ fy, fy = F.getD y 0 := ⟨_, rfl⟩
          rw [← hfy] at hcy
          have HFYE := Lib.hid hfy
          have e3 : (k : Int) < (R.length : Int) := by omega
          have e4 : (y : Int) < (g.length : Int) := by omega
          have e5 : (cur : Int) < (g.length : Int) := by omega
          clear hy hbx hfy
          by_cases hyd : fy = fd
          · have hdd : (fy == fd) = true := by simp [hyd]
            have HYD := Lib.hid hyd
            clear hyd
            go_upto_region 7 with fail
            go_cut [40] (fun s wy => s = .bool true ∧ Below wr.heap.size wr wy)
            case first =>
              go_region_held3 (fun w' => w'.cell? ⟨qb, qo + k, none⟩ = some (.int .i64 (y : Int)) ∧ w'.cell? ⟨fb, fo + y, none⟩ = some (.int .i64 fy) ∧ w'.cell? ⟨fb, fo + cur, none⟩ = some (.int .i64 fx))
                (first | exact ⟨hq, hcy, hcc2⟩ | go_keep)
                (first | (fail))
              all_goals go_wp2
              all_goals go_meet
              all_goals exact ⟨rfl, below_dN (Below.refl _ _) 1⟩
            case rest =>
            obtain ⟨rfl, hb7⟩ := hcut
            rename_i wy
            have hq2 := hb7.at' hq
            have HBY := Lib.hid (HB.out.trans ((HBX.out.trans (hb7.mono HBX.out.size)).mono HB.out.size))
            have hown := ownsRow_below HO.out (HBX.out.trans (hb7.mono HBX.out.size))
            have hsz := HBY.out.size
            clear hq hcy hcc2 hb7 hcc
            go_wp2_with (at_builtin; refine wpList_app1 ty_i64 rfl rfl rfl hown rfl rfl (by omega) hsz ?_; intro v' wz hown' hgz _)
            go_roundw
            case rel => exact ⟨y, pre ++ [y], rfl, hyn, Lib.hid (HADD.out y HE.out hyn (by have h1 := HYD.out; have h2 := HFD.out; have h3 := HFYE.out; omega) hpos), Lib.hid (HXX.out.add (by have := HFX.out; omega) hyn HE.out (by have h1 := HYD.out; have h2 := HFD.out; have h3 := HFYE.out; have h4 := HFX.out; omega) (by have h2 := HFD.out; have h4 := HFX.out; rw [← h4, ← h2]; exact HFST.out)), by rw [List.length_append]; simpa [natInts] using hown', below_grown HBY.out hown hgz (Nat.le_refl _) hsz⟩
            case measure =>
              have h1 := HYD.out
              have h2 := HFD.out
              have h3 := HFYE.out
              have h4 := HFX.out
              simp only [intOf, Int.toNat_natCast]
              omega
          · have hdd : (fy == fd) = false := beq_eq_false_iff_ne.2 hyd
            have HNX : Hid (∀ j, j < k + 1 → F.getD (R.getD j 0) 0 ≠ fd) := Lib.hid (fun j hj => by
              by_cases e : j < k
              · exact HNO.out j e
              · rw [show j = k by omega, HYK.out, ← HFYE.out]; exact hyd)
            clear hyd
            go_upto_region 7 with fail
            go_cut [40] (fun s wy => s = .bool false ∧ Below wr.heap.size wr wy)
            case first =>
              go_region_held3 (fun w' => w'.cell? ⟨qb, qo + k, none⟩ = some (.int .i64 (y : Int)) ∧ w'.cell? ⟨fb, fo + y, none⟩ = some (.int .i64 fy) ∧ w'.cell? ⟨fb, fo + cur, none⟩ = some (.int .i64 fx))
                (first | exact ⟨hq, hcy, hcc2⟩ | go_keep)
                (first | (fail))
              all_goals go_wp2
              all_goals go_meet
              all_goals exact ⟨rfl, below_dN (Below.refl _ _) 1⟩
            case rest =>
            obtain ⟨rfl, hb7⟩ := hcut
            go_wp2_with fail
            go_roundw
            case rel => exact ⟨k + 1, by omega, rfl, by go_num, HNX, HBX.out.trans (hb7.mono HBX.out.size)⟩
            case measure => simp [intOf]; omega
        · exfalso
          obtain rfl : k = R.length := by omega
          obtain ⟨y, h1, h2, h3⟩ := HST.out hpos
          have h4 : y ∈ R := by
            unfold ofG at h2
            rw [decide_eq_true_eq, HR.out] at h2
            obtain ⟨i, hi, e⟩ := mem_natInts.1 h2
            rwa [show y = i by omega]
          obtain ⟨j, hj, rfl⟩ := List.getElem_of_mem h4
          refine HNO.out j hj ?_
          have e : R.getD j 0 = R[j] := by
            rw [List.getD_eq_getElem?_getD, List.getElem?_eq_getElem hj]; rfl
          rw [e, h3, HFD.out]
    · have hfz : fx = 0 := by omega
      subst hfz
      have HT := Lib.hid (HZ.out rfl)
      go_wp2_with fail
      go_ret
      refine ⟨_, rfl, pre, ?_, HXX.out.fin HFX.out.symm, HI.out.inn, ?_, by omega, HB0.out.trans (HB.out.mono HB0.out.size)⟩
      · exact Nums.of_owns HO.out (natInts_length _).symm (by omega)
      · rw [← HT.out]; exact HI.out.rch

end Go.Proofs.YtkppbmfliejnmaaDoor

/- Plain: the reference's loop through an edge is the least of those that begin with it. -/
namespace Go.Proofs.YtkppbmfliejnmaaDoor

theorem lex_snoc : ∀ (A B : List Nat) (s : Nat), A.length = B.length → (lexL (A ++ [s]) (B ++ [s]) ↔ lexL A B)
  | [], [], s, _ => by simp [lexL]
  | [], _ :: _, _, h => by simp at h
  | _ :: _, [], _, h => by simp at h
  | a :: A, b :: B, s, h => by
    have ih := lex_snoc A B s (by simpa using h)
    show a < b ∨ (a = b ∧ lexL (A ++ [s]) (B ++ [s])) ↔ a < b ∨ (a = b ∧ lexL A B)
    rw [ih]
/-- What the distances of a graph are. -/
def DstF (g : List (List Int)) (s : Nat) (F : List Int) : Prop := ∀ x, x < g.length → IsD (ofG g) (fun x => x < g.length) s x (F.getD x 0)
theorem dst_zero {g : List (List Int)} {s : Nat} {F : List Int} (hF : DstF g s F) {x : Nat} (hx : x < g.length) (h : F.getD x 0 = 0) : x = s := by
  rcases hF x hx with ⟨h1, _⟩ | ⟨m, h1, h2, _⟩
  · omega
  · obtain rfl : m = 0 := by omega
    cases h2; rfl
theorem dst_le {g : List (List Int)} {s : Nat} {F : List Int} (hF : DstF g s F) {x : Nat} (hx : x < g.length) {k : Nat} (h : LW (ofG g) (fun x => x < g.length) s k x) : 0 ≤ F.getD x 0 ∧ F.getD x 0 ≤ k := by
  rcases hF x hx with ⟨_, h2⟩ | ⟨m, h1, _, h3⟩
  · exact absurd h (h2 k)
  · have : ¬ k < m := fun hl => h3 k hl h
    omega
theorem dst_lw {g : List (List Int)} {s : Nat} {F : List Int} (hF : DstF g s F) {x : Nat} (hx : x < g.length) {m : Nat} (h : F.getD x 0 = m) : LW (ofG g) (fun x => x < g.length) s m x := by
  rcases hF x hx with ⟨h1, _⟩ | ⟨m', h1, h2, _⟩
  · omega
  · obtain rfl : m = m' := by omega
    exact h2
/-- A chain down to s is a walk from s. -/
theorem chn_lw {E : Nat → Nat → Bool} (hs : ∀ x y, E x y = true → E y x = true) {n s : Nat} : ∀ (W : List Nat) (x : Nat), Chn E (x :: W) → (x :: W).getLastD 0 = s → (∀ y ∈ x :: W, y < n) → LW E (fun x => x < n) s W.length x
  | [], x, _, hl, hn => by
    have : x = s := hl
    subst this
    exact .base (hn x (by simp))
  | y :: W, x, hc, hl, hn => by
    have := chn_lw hs W y hc.2 hl (fun z hz => hn z (by simp [hz]))
    exact .step this (.inr (hs _ _ hc.1)) (hn x (by simp))
theorem dnW_facts {g : List (List Int)} (hg : GOk g) {s : Nat} {F : List Int} (hF : DstF g s F) {x : Nat} {W : List Nat} (h : DnW g F x W) : x < g.length → ∃ P, W = P ++ [s] ∧ W.headD 0 = x ∧ (W.length : Int) = F.getD x 0 + 1 ∧ Chn (ofG g) W ∧ (∀ y ∈ W, y < g.length ∧ F.getD y 0 ≤ F.getD x 0) ∧ W.Nodup ∧
    ∀ W', Chn (ofG g) (x :: W') → (x :: W').getLastD 0 = s → (∀ y ∈ x :: W', y < g.length) → ((x :: W').length : Int) = F.getD x 0 + 1 → ¬ lexL (x :: W') W := by
  induction h with
  | @stop x h0 =>
    intro hx
    have hxs := dst_zero hF hx h0
    refine ⟨[], by rw [hxs]; rfl, rfl, by rw [h0]; rfl, trivial, fun y hy => ?_, by simp, fun W' _ _ _ hl => ?_⟩
    · obtain rfl : y = x := by simpa using hy
      exact ⟨hx, Int.le_refl _⟩
    · have : W' = [] := List.eq_nil_of_length_eq_zero (by rw [h0] at hl; simp at hl; omega)
      subst this
      rintro (h | ⟨_, h⟩)
      · omega
      · exact h
  | @step x y W h0 hy hE hFy hm _ ih =>
    intro hx
    obtain ⟨P, k1, k2, k3, k4, k5, k6, k7⟩ := ih hy
    obtain ⟨y', W1, rfl⟩ : ∃ y' W1, W = y' :: W1 := by
      cases W with
      | nil => rw [List.length_nil] at k3; omega
      | cons a b => exact ⟨a, b, rfl⟩
    have hyy : y' = y := k2
    subst hyy
    refine ⟨x :: P, by rw [k1]; rfl, rfl, by rw [List.length_cons]; omega, ⟨hE, k4⟩, fun z hz => ?_, List.nodup_cons.2 ⟨fun hm => ?_, k6⟩, fun W' hc hl hn hlen => ?_⟩
    · rcases List.mem_cons.1 hz with rfl | hz
      · exact ⟨hx, Int.le_refl _⟩
      · have := k5 z hz; exact ⟨this.1, by omega⟩
    · have := (k5 x hm).2; omega
    · cases W' with
      | nil =>
        have : x = s := hl
        subst this
        have := dst_le hF hx (LW.base (E := ofG g) hx)
        omega
      | cons z W'' =>
        have hz := hn z (by simp)
        have hlw := chn_lw (ofG_sym hg) W'' z hc.2 hl fun t ht => hn t (by simp [ht])
        have h1 := dst_le hF hz hlw
        have hlen' : (W''.length : Int) + 1 + 1 = F.getD x 0 + 1 := by simpa using hlen
        obtain ⟨m, hm'⟩ := Int.eq_ofNat_of_zero_le h1.1
        have h2 := dst_le hF hx (LW.step (dst_lw hF hz hm') (.inr (ofG_sym hg _ _ hc.1)) hx)
        have hFz : F.getD z 0 = F.getD x 0 - 1 := by omega
        rintro (h | ⟨_, h⟩)
        · omega
        · rcases Nat.lt_trichotomy z y' with hlt | heq | hgt
          · exact hm z hlt hc.1 hFz
          · subst heq
            exact k7 W'' hc.2 hl (fun t ht => hn t (by simp [ht])) (by rw [List.length_cons]; omega) h
          · rcases h with h | ⟨h, _⟩ <;> omega
/-- The loop through an edge. -/
theorem edge_loop {g c : List (List Int)} (hg : GOk g) (hc : GOk c) (hcl : c.length = g.length) {s u : Nat} (hs : s < g.length) (hu : u < g.length) (hE : ofG g s u = true) (hcE : ∀ a b, a < g.length → b < g.length → ofG c a b = cutE (ofG g) s u a b) {F : List Int} (hF : DstF c s F) {P : List Nat} (h : DnW c F u (P ++ [s])) :
    LpOk g.length (ofG g) (s :: P) ∧ ∀ R, LpOk g.length (ofG g) (s :: u :: R) → ¬ lessP (s :: u :: R) (s :: P) := by
  have hus : u ≠ s := fun e => by rw [e, ofG_irr hg] at hE; cases hE
  obtain ⟨P', k1, k2, k3, k4, k5, k6, k7⟩ := dnW_facts hc hF h (by rw [hcl]; exact hu)
  have hPP : P = P' := (List.append_inj' k1 rfl).1
  subst hPP
  have hsub : ∀ a b, ofG c a b = true → ofG g a b = true := fun a b e => by
    have ha : a < c.length := Classical.byContradiction fun hn => by
      unfold ofG at e
      rw [row_out hn] at e
      simp at e
    have hb : b < c.length := Classical.byContradiction fun hn => by
      have e := ofG_sym hc _ _ e
      unfold ofG at e
      rw [row_out hn] at e
      simp at e
    rw [hcE a b (by omega) (by omega)] at e
    exact cutE_sub e
  have hsu : ofG c s u = false := by rw [hcE s u hs hu]; simp [cutE]
  have hu0 : F.getD u 0 ≠ 0 := fun e => hus (dst_zero hF (by rw [hcl]; exact hu) e)
  have hu1 : F.getD u 0 ≠ 1 := fun e => by
    have hw := dst_lw hF (by rw [hcl]; exact hu) (m := 1) (by rw [e]; rfl)
    cases hw with
    | @step _ x _ h1 h2 h3 =>
      cases h1
      rcases h2 with rfl | h2
      · exact hus rfl
      · rw [hsu] at h2; cases h2
  rw [List.length_append, List.length_singleton] at k3
  obtain ⟨a, P1, rfl⟩ : ∃ a P1, P = a :: P1 := by
    cases P with
    | nil =>
      have : s = u := k2
      exact absurd this.symm hus
    | cons a b => exact ⟨a, b, rfl⟩
  have hau : a = u := k2
  subst hau
  have hnd := List.nodup_append.1 k6
  have hsP : s ∉ a :: P1 := fun hm => hnd.2.2 s hm s (by simp) rfl
  have hch := (chn_snoc (a :: P1) s).1 k4
  refine ⟨⟨?_, List.nodup_cons.2 ⟨hsP, hnd.1⟩, ⟨hE, chn_mono hsub hch.1⟩, ?_, fun x hx => ?_⟩, fun R hR => ?_⟩
  · rw [List.length_cons] at k3 ⊢
    rw [List.length_cons]
    omega
  · have := hsub _ _ (hch.2.resolve_left (by simp))
    have e : (s :: a :: P1).getLastD 0 = (a :: P1).getLastD 0 := rfl
    rw [e]
    exact this
  · rcases List.mem_cons.1 hx with rfl | hx
    · exact hs
    · have := (k5 x (List.mem_append_left _ hx)).1
      omega
  · -- a loop that begins so is a way down, and no shorter
    have hRn := hR.nod
    have hRl := hR.long
    have hsR : s ∉ a :: R := (List.nodup_cons.1 hRn).1
    have haR : a ∉ R := (List.nodup_cons.1 (List.nodup_cons.1 hRn).2).1
    have hne : R ≠ [] := fun e => by rw [e] at hRl; simp at hRl
    have hchR : Chn (ofG c) ((a :: R) ++ [s]) := by
      rw [chn_at]
      intro i hi
      have hgood : ∀ p q, p < g.length → q < g.length → ofG g p q = true → ¬ (p = s ∧ q = a) → ¬ (p = a ∧ q = s) → ofG c p q = true := fun p q hp hq e n1 n2 => by
        rw [hcE p q hp hq]
        unfold cutE
        rw [e, Bool.true_and, Bool.not_eq_true', Bool.or_eq_false_iff]
        exact ⟨by simpa using fun e1 e2 => n1 ⟨e1, e2⟩, by simpa using fun e1 e2 => n2 ⟨e1, e2⟩⟩
      have hin := hR.inn
      by_cases hlast : i + 1 < (a :: R).length
      · have e1 : ((a :: R) ++ [s])[i]'(by omega) = (a :: R)[i]'(by omega) := List.getElem_append_left _
        have e2 : ((a :: R) ++ [s])[i + 1] = (a :: R)[i + 1] := List.getElem_append_left _
        rw [e1, e2]
        have m1 : (a :: R)[i]'(by omega) ∈ a :: R := List.getElem_mem _
        have m2 : (a :: R)[i + 1] ∈ a :: R := List.getElem_mem _
        refine hgood _ _ (hin _ (List.mem_cons_of_mem _ m1)) (hin _ (List.mem_cons_of_mem _ m2)) ((chn_at _).1 hR.chn.2 i hlast) (fun e => hsR (e.1 ▸ m1)) (fun e => hsR (e.2 ▸ m2))
      · have hi2 : i + 1 = (a :: R).length := by rw [List.length_append, List.length_singleton] at hi; omega
        have e1 : ((a :: R) ++ [s])[i]'(by omega) = (a :: R)[i]'(by omega) := List.getElem_append_left _
        have e2 : ((a :: R) ++ [s])[i + 1] = s := by
          rw [List.getElem_append_right (by omega)]
          simp [hi2]
        rw [e1, e2]
        have m1 : (a :: R)[i]'(by omega) ∈ a :: R := List.getElem_mem _
        have hb := hR.back
        have e3 : (s :: a :: R).getLastD 0 = (a :: R)[i]'(by omega) := by
          have : (s :: a :: R).getLastD 0 = (a :: R).getLastD 0 := rfl
          rw [this, last_getD (by simp)]
          simp [← hi2]
        rw [e3] at hb
        refine hgood _ _ (hin _ (List.mem_cons_of_mem _ m1)) hs hb (fun e => hsR (e.1 ▸ m1)) (fun e => ?_)
        have hi1 : i = R.length := by simpa using hi2
        have hpos := List.length_pos_iff.2 hne
        have : (a :: R)[i]'(by omega) ∈ R := by
          obtain ⟨j, rfl⟩ : ∃ j, i = j + 1 := ⟨i - 1, by omega⟩
          exact List.getElem_mem _
        exact haR (e.1 ▸ this)
    have hlastR : ((a :: R) ++ [s]).getLastD 0 = s := by rw [List.getLastD_eq_getLast?, List.getLast?_append]; simp
    have hinR : ∀ y ∈ a :: (R ++ [s]), y < c.length := fun y hy => by
      rw [hcl]
      rcases List.mem_cons.1 hy with rfl | hy
      · exact hu
      · rcases List.mem_append.1 hy with hy | hy
        · exact hR.inn y (by simp [hy])
        · obtain rfl : y = s := by simpa using hy
          exact hs
    have hlw := chn_lw (ofG_sym hc) (R ++ [s]) a hchR hlastR hinR
    have hd := (dst_le hF (by rw [hcl]; exact hu) hlw).2
    rw [List.length_append, List.length_singleton] at hd
    rintro (hlt | ⟨he, hlex⟩)
    · simp only [List.length_cons] at hlt k3
      omega
    · simp only [List.length_cons] at he k3
      rcases hlex with hlex | ⟨_, hlex⟩
      · omega
      · refine k7 (R ++ [s]) hchR hlastR hinR (by rw [List.length_cons, List.length_append, List.length_singleton]; omega) ?_
        exact (lex_snoc (a :: R) (a :: P1) s (by simp; omega)).2 hlex

end Go.Proofs.YtkppbmfliejnmaaDoor
