/- Walk: SidesOf of the reference, for a connected graph of two sides. -/
import Derived.Test.YtkppbmfliejnmaaDoorMcQ38
import Derived.Test.YtkppbmfliejnmaaDoorMcQ22
import Derived.Test.YtkppbmfliejnmaaDoorMcQ19
import Derived.Test.YtkppbmfliejnmaaDoorMcQ33
import Derived.Test.YtkppbmfliejnmaaDoorMcQ39
import Derived.Test.YtkppbmfliejnmaaDoorMcQ34
import Derived.Test.YtkppbmfliejnmaaDoorMcQ14
namespace Go.Proofs.YtkppbmfliejnmaaDoor
open Go.RowKit

theorem far_par {E : Nat → Nat → Bool} {n u : Nat} {F : List Int} {M : List Nat} (hb : Bf E (List.range n) n u F M) {col : Nat → Bool} (hcol : ∀ x y, x < n → y < n → E x y = true → col x ≠ col y) : ∀ (k x : Nat), x < n → F.getD x 0 = (k : Int) → (k % 2 = 0 ↔ col x = col u)
  | 0, x, hx, hF => by
    have : x = u := hb.zer x hx (by simpa using hF)
    rw [this]
    simp
  | k + 1, x, hx, hF => by
    obtain ⟨y, hy, hE, hs⟩ := hb.stp x hx (by rw [hF]; omega)
    have ih := far_par hb hcol k y hy (by omega)
    have hne := hcol y x hy hx hE
    have h1 : (k + 1) % 2 = 0 ↔ ¬ k % 2 = 0 := by omega
    rw [h1, ih]
    clear ih
    revert hne
    generalize col x = a
    generalize col y = b
    generalize col u = d
    revert a b d
    decide
/-- Sides: ends of an edge differ. -/
def SidG (g : List (List Int)) (S : List Int) : Prop := ∀ a b, a < g.length → b < g.length → ofG g a b = true → S.getD a 0 ≠ S.getD b 0
/-- The sides of the first k. -/
def sdL (F : List Int) (n k : Nat) : List Int := (List.range n).map fun x => if x < k then Int.tmod (F.getD x 0) 2 else 0
theorem sdL_len (F : List Int) (n k : Nat) : (sdL F n k).length = n := by simp [sdL]
theorem sdL_get {F : List Int} {n k i : Nat} (h : i < (sdL F n k).length) : (sdL F n k)[i] = if i < k then Int.tmod (F.getD i 0) 2 else 0 := by simp [sdL]
theorem sdL_set {F : List Int} {n k : Nat} (_hk : k < n) : (sdL F n k).set k (Int.tmod (F.getD k 0) 2) = sdL F n (k + 1) := by
  refine List.ext_getElem (by rw [List.length_set, sdL_len, sdL_len]) fun i h1 h2 => ?_
  rw [List.getElem_set, sdL_get, sdL_get]
  by_cases e : k = i
  · subst e
    rw [if_pos rfl, if_pos (Nat.lt_succ_self _)]
  · rw [if_neg e]
    by_cases h3 : i < k
    · rw [if_pos h3, if_pos (by omega)]
    · rw [if_neg h3, if_neg (by omega)]
theorem sdL_zero (F : List Int) (n : Nat) : sdL F n 0 = List.replicate n 0 := by
  refine List.ext_getElem (by simp [sdL]) fun i h1 h2 => ?_
  simp [sdL]
theorem sdL_good {g : List (List Int)} {u : Nat} {F : List Int} {M : List Nat} (hb : Bf (ofG g) (List.range g.length) g.length u F M) (hall : ∀ x, x < g.length → 0 ≤ F.getD x 0) {col : Nat → Bool} (hcol : ∀ x y, x < g.length → y < g.length → ofG g x y = true → col x ≠ col y) : SidG g (sdL F g.length g.length) := fun a b ha hb2 hE => by
  obtain ⟨p, hp⟩ : ∃ p : Nat, F.getD a 0 = (p : Int) := ⟨(F.getD a 0).toNat, by have := hall a ha; omega⟩
  obtain ⟨q, hq⟩ : ∃ q : Nat, F.getD b 0 = (q : Int) := ⟨(F.getD b 0).toNat, by have := hall b hb2; omega⟩
  have h1 := far_par hb hcol p a ha hp
  have h2 := far_par hb hcol q b hb2 hq
  have hne := hcol a b ha hb2 hE
  have e1 : (sdL F g.length g.length).getD a 0 = ((p % 2 : Nat) : Int) := by
    have : (sdL F g.length g.length).getD a 0 = Int.tmod (F.getD a 0) 2 := by simp [sdL, ha]
    rw [this, hp]
    exact (Int.ofNat_tmod p 2).symm
  have e2 : (sdL F g.length g.length).getD b 0 = ((q % 2 : Nat) : Int) := by
    have : (sdL F g.length g.length).getD b 0 = Int.tmod (F.getD b 0) 2 := by simp [sdL, hb2]
    rw [this, hq]
    exact (Int.ofNat_tmod q 2).symm
  rw [e1, e2]
  have h3 : ¬ (p % 2 = 0 ↔ q % 2 = 0) := by
    rw [h1, h2]
    revert hne
    generalize col a = a'
    generalize col b = b'
    generalize col u = d
    revert a' b' d
    decide
  omega
theorem cell_far {w : World} {b i : Nat} {p : Addr} {u : Value} (h : b ≠ p.block) : (w.setCell p u).cell? ⟨b, i, none⟩ = w.cell? ⟨b, i, none⟩ := by
  unfold World.cell?
  rw [show (⟨b, i, none⟩ : Addr).block = b from rfl, Below.heap_setCell _ _ _ _ h]

/-- What the walk holds: the sides, the parts, apart from each other. -/
structure SdI (W0 wr : World) (sb B4 n ob oc : Nat) (v0 : Value) (S : List Int) : Prop where
  side : wr.ownsRow sb 2 1 (.slice (some ⟨sb, 0, none⟩) n n) n (S.map (Value.int .i64))
  out : wr.ownsRow B4 33 1 (.slice (some ⟨ob, 0, none⟩) 1 oc) 1 [v0]
  row : wr.ownsRow B4 2 1 v0 n ((natInts (List.range n)).map (Value.int .i64))
  bel : Below W0.heap.size W0 wr
  lo : W0.heap.size ≤ sb
  hi : sb < B4
theorem SdI.next {W0 wr wx : World} {sb B4 n ob oc : Nat} {v0 : Value} {S : List Int} (h : SdI W0 wr sb B4 n ob oc v0 S) (hb : Below wr.heap.size wr wx) : SdI W0 wx sb B4 n ob oc v0 S :=
  ⟨ownsRow_below h.side hb, ownsRow_below h.out hb, ownsRow_below h.row hb, h.bel.trans (hb.mono h.bel.size), h.lo, h.hi⟩
theorem SdI.set {W0 wr : World} {sb B4 n ob oc : Nat} {v0 : Value} {S : List Int} (h : SdI W0 wr sb B4 n ob oc v0 S) (k : Nat) (z : Int) : SdI W0 (wr.setCell ⟨sb, k, none⟩ (.int .i64 z)) sb B4 n ob oc v0 (S.set k z) :=
  ⟨by have := (h.side.stored k (.int .i64 z)).1; rw [List.map_set]; exact this, ownsRow_far h.out h.hi _, ownsRow_far h.row h.hi _, h.bel.setCell (p := ⟨sb, k, none⟩) h.lo _, h.lo, h.hi⟩

set_option maxRecDepth 100000 in
set_option maxHeartbeats 4000000 in
theorem specSides_yes (v : Value) (g : List (List Int)) (hok : GOk g) (hps : Parts (ofG g) (List.range g.length) [List.range g.length]) (col : Nat → Bool) (hcol : ∀ x y, x < g.length → y < g.length → ofG g x y = true → col x ≠ col y) (w : World) (hg : Gr w v g) :
    Calls Tryd.prog 57 #[v] w fun e w' => ∃ u, e = .returned (.tuple #[u, .bool true]) ∧ Below w.heap.size w w' := by
  have hg0 := hg
  obtain ⟨gu, rfl, hr⟩ := hg
  obtain ⟨p, c, rfl, _⟩ := hr.shape
  obtain ⟨W0, hW0⟩ : ∃ W0, W0 = w.alloc (.cells #[.slice p g.length c] 29) := ⟨_, rfl⟩
  have hb0 : Below w.heap.size w W0 := by rw [hW0]; exact below_alloc _ _
  have HB0 := Lib.hid hb0
  have HBX : Hid (Box W0 w.heap.size 29 (.slice p g.length c)) := Lib.hid (by rw [hW0]; exact Box.new _ _ _)
  have HG := Lib.hid (hg0.below hb0)
  have HOK := Lib.hid hok
  have HD := Lib.hid (dec_true hok)
  have h16 := hok.le
  have hpos := hok.pos
  have c0 := HBX.out.cell
  have hbl : w.heap.size < W0.heap.size := HBX.out.lt
  have PRT : Hid (∀ wz v, Gr wz v g → Calls Tryd.prog 61 #[v] wz fun e w' => ∃ ob oc v0, e = .returned (.slice (some ⟨ob, 0, none⟩) 1 oc) ∧ w'.ownsRow wz.heap.size 33 1 (.slice (some ⟨ob, 0, none⟩) 1 oc) 1 [v0] ∧ w'.ownsRow wz.heap.size 2 1 v0 g.length ((natInts (List.range g.length)).map (Value.int .i64)) ∧ Below wz.heap.size wz w') := Lib.hid fun wz v hz => by
    refine (specPartsO_yes v g hok wz hz).mono ?_
    rintro e w' ⟨u, ps, rfl, hp, ⟨vals, h1, h2, h3⟩, hb⟩
    obtain rfl := parts_det hp hps
    obtain ⟨ob, oc, rfl⟩ := own_shapeC h2 (by simp)
    obtain ⟨v0, rfl⟩ : ∃ v0, vals = [v0] := by
      match vals, h1 with
      | [v0], _ => exact ⟨v0, rfl⟩
    have h4 := h3 0 (by simp)
    simp only [List.getD_cons_zero, List.length_range] at h4
    exact ⟨ob, oc, v0, rfl, h2, h4, hb⟩
  have DST : Hid (∀ wz v, Gr wz v g → Calls Tryd.prog 141 #[v, .int .i64 0] wz fun e w' => ∃ (fb fc : Nat) (F : List Int), e = .returned (.slice (some ⟨fb, 0, none⟩) g.length fc) ∧ SidG g (sdL F g.length g.length) ∧ (∀ x, x < g.length → 0 ≤ F.getD x 0) ∧ F.length = g.length ∧ w'.ownsRow wz.heap.size 2 1 (.slice (some ⟨fb, 0, none⟩) g.length fc) g.length (F.map (Value.int .i64)) ∧ Below wz.heap.size wz w') := Lib.hid fun wz v hz => by
    refine (specDistances_yes v _ 0 rfl g hok hpos wz hz).mono ?_
    rintro e w' ⟨ov, F, rfl, ⟨M, hb⟩, hsg, ho, hbw⟩
    obtain ⟨fb, fc, rfl⟩ := own_shapeC ho hpos
    have hall : ∀ x, x < g.length → 0 ≤ F.getD x 0 := fun x hx => (hsg x hx).2 (by
      have h0 : (0 : Nat) ∈ List.range g.length := List.mem_range.2 hpos
      have := (parts_at (ofG_sym hok) hps (List.mem_singleton.2 rfl) h0).1
      rw [← this]
      exact List.mem_range.2 hx)
    exact ⟨fb, fc, F, rfl, sdL_good hb hall hcol, hall, hb.len, ho, hbw⟩
  clear hr hg0 hb0 hok hps hcol
  go_enter Tryd.func57, Tryd.ntmps57
  go_upto_region 1 with fail
  rw [← hW0]
  clear hW0
  go_upto_region 4 with (first
    | (at_make; refine wpList_mk ty_i64 rfl rfl rfl g.length rfl rfl rfl rfl (by omega) ?_; intro w4 hown4 hg4)
    | (have X := hb2; go_at_call 132; refine (l1Size_any _ g _ (HG.out.below hb2)).mono ?_; rintro e w3 ⟨rfl, hb3⟩; have HB3 := Lib.hid (hb2.trans (hb3.mono hb2.size)); have d3 := hb3.at' d2)
    | (go_at_call 73; refine (specGraphOk_any _ g _ HG.out).mono ?_; rintro e w2 ⟨he, hb2⟩; rw [HD.out] at he; subst he; have d2 := hb2.at' c0))
  have hb34 := grown_below hg4
  have HB4 := Lib.hid (HB3.out.trans (hb34.mono HB3.out.size))
  have d4 := hb34.at' d3
  have HS4 : Hid (w4.ownsRow w3.heap.size 2 1 (.slice (some ⟨w3.heap.size, 0, none⟩) g.length g.length) g.length ((List.replicate g.length (0 : Int)).map (Value.int .i64))) := Lib.hid (by rw [List.map_replicate]; exact hown4)
  have hs34 : w3.heap.size < w4.heap.size := (HS4.out.lt w3.heap.size rfl).2
  have hs03 : W0.heap.size ≤ w3.heap.size := HB3.out.size
  obtain ⟨sb, hsb⟩ : ∃ sb, sb = w3.heap.size := ⟨_, rfl⟩
  rw [← hsb] at HS4 hs34 hs03 ⊢
  clear hb2 hb3 hb34 hown4 hg4 d2 d3 c0 hsb
  go_upto_region 5 with (go_at_call 61; refine (PRT.out _ _ (HG.out.below HB4.out)).mono ?_; rintro e w5 ⟨ob, oc, v0, rfl, ho5, hr5, hb5⟩; have HO5 := Lib.hid ho5; have HR5 := Lib.hid hr5; have HB5x := Lib.hid hb5; have d5 := hb5.at' d4; clear ho5 hr5 hb5)
  obtain ⟨ib, ic, rfl⟩ := own_shapeC HR5.out hpos
  have HI5 : Hid (SdI W0 w5 sb w4.heap.size g.length ob oc (.slice (some ⟨ib, 0, none⟩) g.length ic) (List.replicate g.length 0)) := Lib.hid ⟨ownsRow_below HS4.out HB5x.out, HO5.out, HR5.out, HB4.out.trans (HB5x.out.mono HB4.out.size), hs03, hs34⟩
  obtain ⟨B4, hB4⟩ : ∃ B4, B4 = w4.heap.size := ⟨_, rfl⟩
  rw [← hB4] at HI5
  have hobs : sb < ob := by have h1 := (HI5.out.out.lt ob rfl).1; have h2 := HI5.out.hi; omega
  have hibs : sb < ib := by have h1 := (HI5.out.row.lt ib rfl).1; have h2 := HI5.out.hi; omega
  clear hB4 HO5 HR5 HB5x HS4 hs34 d4 d5 HB4
  go_wp2_with fail
  go_loopw [6] (fun iv wr => ∃ (i : Nat) (S : List Int), i ≤ 1 ∧ iv = .int .i64 (i : Int) ∧ S.length = g.length ∧ Hid ((i = 0 → S = List.replicate g.length 0) ∧ (i = 1 → SidG g S)) ∧ Hid (SdI W0 wr sb B4 g.length ob oc (.slice (some ⟨ib, 0, none⟩) g.length ic) S)) (fun iv _ => 1 - (intOf iv).toNat)
  case atStart => exact ⟨0, _, by omega, rfl, by simp, Lib.hid ⟨fun _ => rfl, fun h => by omega⟩, HI5⟩
  case round =>
    clear HI5
    obtain ⟨i, S, hi, rfl, hSl, HSG, HI⟩ := hrel
    by_cases hi0 : i = 0
    · subst hi0
      rw [show (((0 : Nat) : Int)) = 0 from rfl]
      have cx := HBX.out.keep HI.out.bel |>.cell
      have co := HI.out.out.cellAt 0 (by decide)
      have ci := HI.out.row.cellAt 0 (by omega)
      have e1 : ((natInts (List.range g.length)).map (Value.int .i64))[0]? = some (.int .i64 0) := by
        rw [List.getElem?_map]
        have : (natInts (List.range g.length))[0]? = some 0 := by unfold natInts; rw [List.getElem?_map, List.getElem?_range (by omega)]; rfl
        rw [this]; rfl
      rw [e1] at ci
      simp only [List.getElem?_cons_zero] at co
      have hpi : (0 : Int) < (g.length : Int) := by omega
      have hpn : 0 < g.length := hpos
      clear e1
      go_upto_region 8 with fail
      go_cut [7] (fun fv wx => ∃ (fb fc : Nat) (F : List Int), fv = .slice (some ⟨fb, 0, none⟩) g.length fc ∧ SidG g (sdL F g.length g.length) ∧ (∀ x, x < g.length → 0 ≤ F.getD x 0) ∧ F.length = g.length ∧ wx.ownsRow wr.heap.size 2 1 (.slice (some ⟨fb, 0, none⟩) g.length fc) g.length (F.map (Value.int .i64)) ∧ Below wr.heap.size wr wx)
      case first =>
        go_region_held3 (fun w' => w'.cell? ⟨w.heap.size, 0, none⟩ = some (.slice p g.length c) ∧ w'.cell? ⟨ob, 0, none⟩ = some (.slice (some ⟨ib, 0, none⟩) g.length ic) ∧ w'.cell? ⟨ib, 0, none⟩ = some (.int .i64 0))
          (first | exact ⟨cx, co, ci⟩ | go_keep | exact ⟨BWA.at' cx, BWA.at' co, BWA.at' ci⟩)
          (first | (go_at_call 141; refine (DST.out _ _ ((HG.out.below HI.out.bel).below (below_dN (Below.refl _ _) 1))).mono ?_; rintro e w7 ⟨fb, fc, F, rfl, hsg, hal, hfl, hof, hb7⟩; have HSGF := Lib.hid hsg; have HAL := Lib.hid hal; have HFL := Lib.hid hfl; have HOF := Lib.hid (ownsRow_base (base' := wr.heap.size) hof (below_dN (Below.refl wr.heap.size wr) 1).size); have BWA : Below wr.heap.size wr w7 := (below_dN (Below.refl _ _) 1).trans hb7; clear hsg hal hfl hof hb7))
        all_goals go_wp2
        all_goals go_meet
        all_goals exact ⟨fb, fc, F, rfl, HSGF.out, HAL.out, HFL.out, HOF.out, BWA⟩
      case rest =>
      obtain ⟨fb, fc, F, rfl, hsg, hal, hfl, hof, hbz⟩ := hcut
      have HSGF := Lib.hid hsg
      have hwlt : sb < wr.heap.size := (HI.out.side.lt sb rfl).2
      have HIc := Lib.hid (HI.out.next hbz)
      have HOF := Lib.hid hof
      obtain ⟨B5, hB5⟩ : ∃ B5, B5 = wr.heap.size := ⟨_, rfl⟩
      rw [← hB5] at HOF hwlt
      have hfbs : sb < fb := by have h1 := (HOF.out.lt fb rfl).1; omega
      have HFL := Lib.hid hfl
      have HAL := Lib.hid hal
      have HI0 : Hid (SdI W0 wc sb B4 g.length ob oc (.slice (some ⟨ib, 0, none⟩) g.length ic) (sdL F g.length 0)) := Lib.hid (by
        rw [sdL_zero, ← HSG.out.1 rfl]
        exact HIc.out)
      clear hsg hal hfl hof hbz hB5 HIc HI HSG cx co ci hSl
      go_wp2_with fail
      go_loopw [8] (fun kv wr => ∃ k : Nat, k ≤ g.length ∧ kv = .int .i64 (k : Int) ∧ Hid (SdI W0 wr sb B4 g.length ob oc (.slice (some ⟨ib, 0, none⟩) g.length ic) (sdL F g.length k)) ∧ Hid (wr.ownsRow B5 2 1 (.slice (some ⟨fb, 0, none⟩) g.length fc) g.length (F.map (Value.int .i64)))) (fun kv _ => g.length - (intOf kv).toNat)
      case atStart => exact ⟨0, Nat.zero_le _, rfl, HI0, HOF⟩
      case round =>
        clear HI0 HOF
        obtain ⟨k, hk, rfl, HI, HOF⟩ := hrel
        have co := HI.out.out.cellAt 0 (by decide)
        simp only [List.getElem?_cons_zero] at co
        by_cases hlt : k < g.length
        · have hki : (k : Int) < (g.length : Int) := by omega
          have ck := HI.out.row.cellAt k (by omega)
          have e1 : ((natInts (List.range g.length)).map (Value.int .i64))[k]? = some (.int .i64 (k : Int)) := by
            rw [List.getElem?_map]
            have : (natInts (List.range g.length))[k]? = some (k : Int) := by unfold natInts; rw [List.getElem?_map, List.getElem?_range hlt]; rfl
            rw [this]; rfl
          rw [e1] at ck
          have hkF : k < F.length := by rw [HFL.out]; exact hlt
          obtain ⟨q, hq⟩ : ∃ q : Nat, F.getD k 0 = (q : Int) := ⟨(F.getD k 0).toNat, by have := HAL.out k hlt; omega⟩
          have cf := HOF.out.cellAt k (by omega)
          have e2 : (F.map (Value.int .i64))[k]? = some (.int .i64 (q : Int)) := by
            rw [List.getElem?_map, List.getElem?_eq_getElem hkF]
            have : F[k] = (q : Int) := by rw [← hq]; simp [hkF]
            rw [this]; rfl
          rw [e2] at cf
          obtain ⟨z, hz⟩ : ∃ z : Nat, z = q % 2 := ⟨_, rfl⟩
          have hz2 : z < 2 := by rw [hz]; exact Nat.mod_lt _ (by decide)
          have htm : Int.tmod (q : Int) 2 = (z : Int) := by rw [hz]; exact (Int.ofNat_tmod q 2).symm
          have hwz : IntKind.i64.wrap (z : Int) = (z : Int) := by rw [IntKind.wrap_i64]; omega
          have HNEW : Hid ((sdL F g.length k).set k (z : Int) = sdL F g.length (k + 1)) := Lib.hid (by
            have := sdL_set (F := F) hlt
            rw [hq, htm] at this
            exact this)
          obtain ⟨qv, hqv⟩ : ∃ qv, wr.cell? ⟨sb, k, none⟩ = some qv := ⟨_, (HI.out.side.cellAt k (by omega)).trans (List.getElem?_eq_getElem (by rw [List.length_map, sdL_len]; exact hlt))⟩
          have hfz := HI.out.side.frozenAt k
          have hn1 : ob ≠ sb := by omega
          have hn2 : ib ≠ sb := by omega
          have hn3 : fb ≠ sb := by omega
          clear e1 e2 hkF hq hz
          go_upto_region 12 with fail
          go_region_held3 (fun w' => w'.cell? ⟨ob, 0, none⟩ = some (.slice (some ⟨ib, 0, none⟩) g.length ic) ∧ w'.cell? ⟨ib, k, none⟩ = some (.int .i64 (k : Int)) ∧ w'.cell? ⟨fb, k, none⟩ = some (.int .i64 (q : Int)))
            (first | exact ⟨co, ck, cf⟩ | exact ⟨(cell_far hn1).trans co, (cell_far hn2).trans ck, (cell_far hn3).trans cf⟩ | go_keep)
            (fail)
          all_goals go_wp2
          all_goals go_roundw
          case rel => exact ⟨k + 1, by omega, by go_num, Lib.hid (by rw [← HNEW.out]; exact (HI.out.next (below_dN (Below.refl _ _) 1)).set k (z : Int)), Lib.hid (ownsRow_far (ownsRow_below HOF.out (below_dN (Below.refl _ _) 1)) hwlt _)⟩
          case measure => simp [intOf]; omega
        · obtain rfl : k = g.length := by omega
          have HSGN := Lib.hid HSGF.out
          go_wp2_with fail
          go_roundw
          case rel => exact ⟨1, _, by omega, by go_num, sdL_len F g.length g.length, Lib.hid ⟨fun h => by omega, fun _ => HSGF.out⟩, HI⟩
          case measure => simp [intOf]
    · obtain rfl : i = 1 := by omega
      have HSGS := Lib.hid (HSG.out.2 rfl)
      have cx := HBX.out.keep HI.out.bel |>.cell
      clear HSG hi hi0
      go_upto_region 14 with (go_at_call 140; refine (l1EdgesC_any _ g HOK.out _ (HG.out.below HI.out.bel)).mono ?_; rintro e w8 ⟨qv, rfl, hpq, hb8⟩; have HPQ := Lib.hid hpq; have HI8 := Lib.hid (HI.out.next hb8); clear hpq hb8)
      obtain ⟨l, hldef⟩ : ∃ l, l = edN g.length (ofG g) g.length := ⟨_, rfl⟩
      rw [← hldef] at HPQ
      obtain ⟨qp, qc, hqv⟩ := HPQ.out.shape
      subst hqv
      have HLM : Hid (∀ e ∈ l, e.1 < g.length ∧ e.2 < g.length ∧ ofG g e.1 e.2 = true) := Lib.hid fun e he => by
        rw [hldef] at he
        have := mem_edN (Nat.le_refl _) he
        exact ⟨this.1, this.2.1, this.2.2.2⟩
      have hl256 : l.length ≤ 256 := by
        rw [hldef]
        have h1 := edN_length g.length (ofG g) g.length
        have h2 := Nat.mul_le_mul h16 h16
        omega
      clear hldef HI cx
      go_wp2_with fail
      go_loopw [10] (fun iv wx => ∃ i : Nat, i ≤ l.length ∧ iv = .int .i64 (i : Int) ∧ Below w8.heap.size w8 wx) (fun iv _ => l.length - (intOf iv).toNat)
      case atStart => exact ⟨0, Nat.zero_le _, rfl, Below.refl _ _⟩
      case round =>
        obtain ⟨i, hi, rfl, hbi⟩ := hrel
        have HBI := Lib.hid hbi
        have HIi := Lib.hid (HI8.out.next hbi)
        clear hbi
        by_cases hil : i < l.length
        · have e4 : (i : Int) < (l.length : Int) := by omega
          obtain ⟨qb, qo, rb, ec, hqp, cq, hne⟩ := (HPQ.out.below HBI.out).get hil
          subst hqp
          obtain ⟨⟨a, b⟩, hab⟩ : ∃ e : Nat × Nat, e = l[i] := ⟨_, rfl⟩
          have hmem : (a, b) ∈ l := by rw [hab]; exact List.getElem_mem hil
          rw [← hab] at hne
          simp only at hne
          obtain ⟨eb, eo, hrb, ca⟩ := hne.get (k := 0) (by simp)
          subst hrb
          obtain ⟨_, _, e1, cb⟩ := hne.get (k := 1) (by simp)
          cases e1
          simp only [List.getElem_cons_zero, List.getElem_cons_succ, Nat.add_zero] at ca cb
          obtain ⟨han, hbn, hE⟩ := HLM.out (a, b) hmem
          simp only at han hbn hE
          have hdf := HSGS.out a b han hbn hE
          have haS : a < S.length := by omega
          have hbS : b < S.length := by omega
          have c1 := HIi.out.side.cellAt a (by omega)
          rw [List.getElem?_map, List.getElem?_eq_getElem haS] at c1
          change _ = some (Value.int .i64 S[a]) at c1
          have c2 := HIi.out.side.cellAt b (by omega)
          rw [List.getElem?_map, List.getElem?_eq_getElem hbS] at c2
          change _ = some (Value.int .i64 S[b]) at c2
          have ea : S.getD a 0 = S[a] := by simp [haS]
          have eb2 : S.getD b 0 = S[b] := by simp [hbS]
          rw [ea, eb2] at hdf
          clear ea eb2
          generalize S[a] = x at c1 hdf
          generalize S[b] = y at c2 hdf
          have hxy : (x == y) = false := beq_eq_false_iff_ne.2 hdf
          have hai : (a : Int) < (g.length : Int) := by omega
          have hbi : (b : Int) < (g.length : Int) := by omega
          clear hne hab hmem hE hdf haS hbS
          go_upto_region 17 with fail
          go_cut [89] (fun s wx => s = .bool false ∧ Below wr.heap.size wr wx)
          case first =>
            go_region_held3 (fun w' => w'.cell? ⟨qb, qo + i, none⟩ = some (.slice (some ⟨eb, eo, none⟩) 2 ec) ∧ w'.cell? ⟨eb, eo, none⟩ = some (.int .i64 (a : Int)) ∧ w'.cell? ⟨eb, eo + 1, none⟩ = some (.int .i64 (b : Int)) ∧ w'.cell? ⟨sb, a, none⟩ = some (.int .i64 x) ∧ w'.cell? ⟨sb, b, none⟩ = some (.int .i64 y))
              (first | exact ⟨cq, ca, cb, c1, c2⟩ | go_keep)
              (fail)
            all_goals go_wp2
            all_goals go_meet
            all_goals exact ⟨by first | rfl | rw [hxy], below_dN (Below.refl _ _) 1⟩
          case rest =>
          obtain ⟨rfl, hbz⟩ := hcut
          go_wp2_with fail
          go_roundw
          case rel => exact ⟨i + 1, by omega, by go_num, HBI.out.trans (hbz.mono HBI.out.size)⟩
          case measure => simp [intOf]; omega
        · obtain rfl : i = l.length := by omega
          go_wp2_with fail
          go_ret2
          exact ⟨_, rfl, HB0.out.trans (HIi.out.bel.mono HB0.out.size)⟩

end Go.Proofs.YtkppbmfliejnmaaDoor

/- The state of the program's count of symmetries: how many maps fit; what its blocks hold. -/
namespace Go.Proofs.YtkppbmfliejnmaaDoor
open Go.RowKit

def okB (E F : Nat → Nat → Bool) (pre : List Nat) (v : Nat) : Bool := !(pre.contains v) && (List.range pre.length).all fun k => E v (pre.getD k 0) == F pre.length k
theorem okB_iff {E F : Nat → Nat → Bool} {pre : List Nat} {v : Nat} : okB E F pre v = true ↔ okV E F pre v := by
  unfold okB okV
  rw [Bool.and_eq_true, List.all_eq_true]
  constructor
  · rintro ⟨h1, h2⟩
    refine ⟨by simpa using h1, fun k hk => ?_⟩
    have := h2 k (List.mem_range.2 hk)
    rw [List.getD_eq_getElem?_getD, List.getElem?_eq_getElem hk] at this
    simpa using this
  · rintro ⟨h1, h2⟩
    refine ⟨by simpa using h1, fun k hk => ?_⟩
    have hk := List.mem_range.1 hk
    rw [List.getD_eq_getElem?_getD, List.getElem?_eq_getElem hk]
    simpa using h2 k hk
/-- How many completions by r more. -/
def cntF (n : Nat) (E F : Nat → Nat → Bool) : Nat → List Nat → Nat
  | 0, _ => 1
  | r + 1, pre => ((List.range n).map fun v => if okB E F pre v then cntF n E F r (pre ++ [v]) else 0).sum
def cntV (n : Nat) (E F : Nat → Nat → Bool) (r : Nat) (pre : List Nat) (v : Nat) : Nat := ((List.range v).map fun v => if okB E F pre v then cntF n E F r (pre ++ [v]) else 0).sum
theorem cntV_zero (n : Nat) (E F : Nat → Nat → Bool) (r : Nat) (pre : List Nat) : cntV n E F r pre 0 = 0 := rfl
theorem cntV_no {n : Nat} {E F : Nat → Nat → Bool} {r : Nat} {pre : List Nat} {v : Nat} (h : ¬ okV E F pre v) : cntV n E F r pre (v + 1) = cntV n E F r pre v := by
  have : okB E F pre v = false := Bool.eq_false_iff.2 fun k => h (okB_iff.1 k)
  unfold cntV
  rw [List.range_succ, List.map_append, List.sum_append]
  simp [this]
theorem cntV_yes {n : Nat} {E F : Nat → Nat → Bool} {r : Nat} {pre : List Nat} {v : Nat} (h : okV E F pre v) : cntV n E F r pre (v + 1) = cntV n E F r pre v + cntF n E F r (pre ++ [v]) := by
  have := okB_iff.2 h
  unfold cntV
  rw [List.range_succ, List.map_append, List.sum_append]
  simp [this]
theorem cntF_le (n : Nat) (E F : Nat → Nat → Bool) : ∀ (r : Nat) (pre : List Nat), cntF n E F r pre ≤ n ^ r
  | 0, _ => by simp [cntF]
  | r + 1, pre => by
    have h : ∀ l : List Nat, (l.map fun v => if okB E F pre v then cntF n E F r (pre ++ [v]) else 0).sum ≤ l.length * n ^ r := fun l => by
      induction l with
      | nil => simp
      | cons x l ih =>
        rw [List.map_cons, List.sum_cons, List.length_cons, Nat.succ_mul]
        have := cntF_le n E F r (pre ++ [x])
        by_cases e : okB E F pre x = true
        · rw [if_pos e]; omega
        · rw [if_neg e]; omega
    have := h (List.range n)
    rw [List.length_range] at this
    unfold cntF
    rw [Nat.pow_succ, Nat.mul_comm]
    exact this
theorem cntV_le (n : Nat) (E F : Nat → Nat → Bool) (r : Nat) (pre : List Nat) {v : Nat} (hv : v ≤ n) : cntV n E F r pre v ≤ cntF n E F (r + 1) pre := by
  have h : ∀ d, cntV n E F r pre v ≤ cntV n E F r pre (v + d) := fun d => by
    induction d with
    | zero => exact Nat.le_refl _
    | succ d ih =>
      refine Nat.le_trans ih ?_
      show cntV n E F r pre (v + d) ≤ cntV n E F r pre (v + d + 1)
      unfold cntV
      rw [List.range_succ (n := v + d), List.map_append, List.sum_append]
      omega
  have := h (n - v)
  rw [show v + (n - v) = n by omega] at this
  exact this

theorem Sl.setFS {w : World} {xb i : Nat} {v0 v1 v2 v3 v4 : Value} (h : FS w xb v0 v1 v2 v3 v4) {v : Value} {n : Nat} {vals : List Value} (hs : Sl w 70 v n vals) (u : Value) : Sl (w.setCell ⟨xb, i, none⟩ u) 70 v n vals :=
  hs.keep fun b cur fz hb => by
    have hne : b ≠ xb := fun e => by
      subst e
      have := h.blk
      rw [hb] at this
      simp only [Option.some.injEq, Obj.cells.injEq] at this
      exact absurd this.2.1 (by decide)
    exact Below.heap_setCell _ _ _ _ hne
/-- The count as it stands. -/
structure FcI (w1 w : World) (eb xb : Nat) (hv : Value) (n : Nat) (E : Nat → Nat → Bool) (pre : List Nat) (us : Nat) (ov : Value) (c : Nat) : Prop where
  bel : Below w1.heap.size w1 w
  lo1 : w1.heap.size < eb
  lo2 : eb < xb
  cs : FS w xb hv hv ov (.int .u32 (us : Int)) (.func (.func 205) #[] #[.pointer (some ⟨eb, 0, none⟩)])
  ord : w.ownsRow (xb + 1) 3 1 ov pre.length ((natInts pre).map (Value.int .i64))
  many : Box w w1.heap.size 2 (.int .i64 (c : Int))
  each : Box w eb 115 (.func (.func 145) #[] #[.pointer (some ⟨w1.heap.size, 0, none⟩)])
  net : NE w hv n E
section
variable {w1 w w' : World} {eb xb n us c : Nat} {hv ov : Value} {E : Nat → Nat → Bool} {pre : List Nat}
theorem FcI.next (h : FcI w1 w eb xb hv n E pre us ov c) (hb : Below w.heap.size w w') : FcI w1 w' eb xb hv n E pre us ov c :=
  ⟨h.bel.trans (hb.mono h.bel.size), h.lo1, h.lo2, h.cs.to (hb.block _ h.cs.lt), ownsRow_below h.ord hb, h.many.keep hb, h.each.keep hb, h.net.next hb⟩
/-- A vertex more. -/
theorem FcI.push (h : FcI w1 w eb xb hv n E pre us ov c) {x us' b' c' : Nat}
    (ho : w'.ownsRow (xb + 1) 3 1 (.slice (some ⟨b', 0, none⟩) (pre.length + 1) c') (pre.length + 1) ((natInts pre).map (Value.int .i64) ++ [.int .i64 (x : Int)]))
    (hg : w.grownBy w' ov.ownBlock) :
    FcI w1 ((w'.setCell ⟨xb, 2, none⟩ (.slice (some ⟨b', 0, none⟩) (pre.length + 1) c')).setCell ⟨xb, 3, none⟩ (.int .u32 (us' : Int))) eb xb hv n E (pre ++ [x]) us' (.slice (some ⟨b', 0, none⟩) (pre.length + 1) c') c := by
  have l1 := h.lo1
  have l2 := h.lo2
  have hcs := h.cs.to (hg.block _ h.cs.lt fun e => by have := (h.ord.lt _ e.symm).1; omega)
  have hsz := h.bel.size
  exact
  { bel := ((below_grown h.bel h.ord hg (by omega) hsz).setCell (p := ⟨xb, 2, none⟩) (by show w1.heap.size ≤ xb; omega) _).setCell (p := ⟨xb, 3, none⟩) (by show w1.heap.size ≤ xb; omega) _
    lo1 := l1
    lo2 := l2
    cs := (hcs.s2 _).s3 _
    ord := by
      rw [natInts_snoc, List.map_append, List.length_append]
      exact ownsRow_far (ownsRow_far ho (Nat.lt_succ_self _) _) (Nat.lt_succ_self _) _
    many := ((h.many.grown hg (fun e => by have := (h.ord.lt _ e.symm).1; omega)).setOther (by show w1.heap.size ≠ xb; omega) _).setOther (by show w1.heap.size ≠ xb; omega) _
    each := ((h.each.grown hg (fun e => by have := (h.ord.lt _ e.symm).1; omega)).setOther (by show eb ≠ xb; omega) _).setOther (by show eb ≠ xb; omega) _
    net := ⟨h.net.le, Sl.setFS (hcs.s2 _) (Sl.setFS hcs (Sl.other h.net.sl h.ord hg (by decide)) _) _⟩ }
/-- Back by a vertex. -/
theorem FcI.cut {op : Option Addr} {oc : Nat} (h : FcI w1 w eb xb hv n E pre us (.slice op pre.length oc) c) {i : Nat} (hi : i ≤ pre.length) (us' : Nat) :
    FcI w1 ((w.setCell ⟨xb, 2, none⟩ (.slice op i oc)).setCell ⟨xb, 3, none⟩ (.int .u32 (us' : Int))) eb xb hv n E (pre.take i) us' (.slice op i oc) c := by
  have l1 := h.lo1
  have l2 := h.lo2
  exact
  { bel := (h.bel.setCell (p := ⟨xb, 2, none⟩) (by show w1.heap.size ≤ xb; omega) _).setCell (p := ⟨xb, 3, none⟩) (by show w1.heap.size ≤ xb; omega) _
    lo1 := l1
    lo2 := l2
    cs := (h.cs.s2 _).s3 _
    ord := by
      have := ownsRow_cut h.ord hi
      rw [← List.map_take] at this
      rw [List.length_take, Nat.min_eq_left hi, natInts, List.map_take]
      exact ownsRow_far (ownsRow_far this (Nat.lt_succ_self _) _) (Nat.lt_succ_self _) _
    many := (h.many.setOther (by show w1.heap.size ≠ xb; omega) _).setOther (by show w1.heap.size ≠ xb; omega) _
    each := (h.each.setOther (by show eb ≠ xb; omega) _).setOther (by show eb ≠ xb; omega) _
    net := ⟨h.net.le, Sl.setFS (h.cs.s2 _) (Sl.setFS h.cs h.net.sl _) _⟩ }
/-- One more map. -/
theorem FcI.one (h : FcI w1 w eb xb hv n E pre us ov c) : FcI w1 (w.setCell ⟨w1.heap.size, 0, none⟩ (.int .i64 ((c + 1 : Nat) : Int))) eb xb hv n E pre us ov (c + 1) := by
  have l1 := h.lo1
  have l2 := h.lo2
  exact
  { bel := h.bel.setCell (p := ⟨w1.heap.size, 0, none⟩) (Nat.le_refl _) _
    lo1 := l1
    lo2 := l2
    cs := h.cs.to (Below.heap_setCell _ _ _ _ (by show xb ≠ w1.heap.size; omega))
    ord := ownsRow_far h.ord (by omega) _
    many := h.many.set _
    each := h.each.setOther (by show eb ≠ w1.heap.size; omega) _
    net := ⟨h.net.le, Sl.setBox h.net.sl h.many (by decide) _⟩ }
end

end Go.Proofs.YtkppbmfliejnmaaDoor

/- Plain facts: the made graphs, one by one. -/
namespace Go.Proofs.YtkppbmfliejnmaaDoor
open Go.RowKit

def pthM (r j : Nat) : Bool := r + 1 == j || j + 1 == r
def lopE (n r j : Nat) : Bool := r + 1 == j || j + 1 == r || (r == 0 && j + 1 == n) || (j == 0 && r + 1 == n)
def strE (r j : Nat) : Bool := (r == 0) != (j == 0)
def whlE (n r j : Nat) : Bool := (decide (r < n) && decide (j < n) && lopE n r j) || (r == n && decide (j < n)) || (j == n && decide (r < n))
def sidE (a r j : Nat) : Bool := decide (r < a) != decide (j < a)
def grdE (b r j : Nat) : Bool := (r + 1 == j && !(j % b == 0)) || (j + 1 == r && !(r % b == 0)) || r + b == j || j + b == r
/-- Each vertex but the first has a neighbour ahead of it. -/
def ahdB (m : Nat) (E : Nat → Nat → Bool) : Bool := (List.range m).all fun x => x == 0 || (List.range x).any fun y => E y x
theorem parts_oneM {m : Nat} {E : Nat → Nat → Bool} (hm : 1 ≤ m) (h : ahdB m E = true) : Parts E (List.range m) [List.range m] := by
  have hr : ∀ x, x < m → Rch E (· ∈ List.range m) 0 x := by
    intro x
    induction x using Nat.strongRecOn with
    | _ x ih =>
      intro hx
      unfold ahdB at h
      rw [List.all_eq_true] at h
      have h1 := h x (List.mem_range.2 hx)
      rw [Bool.or_eq_true, beq_iff_eq, List.any_eq_true] at h1
      rcases h1 with h1 | ⟨y, hy, hE⟩
      · rw [h1]; exact .base
      · have hyx := List.mem_range.1 hy
        exact .step (ih y hyx (by omega)) hE (List.mem_range.2 hx)
  obtain ⟨k, rfl⟩ : ∃ k, m = k + 1 := ⟨m - 1, by omega⟩
  have e : List.range (k + 1) = 0 :: (List.range k).map (· + 1) := by rw [List.range_succ_eq_map]
  rw [e] at hr ⊢
  have hp : partL E (0 :: (List.range k).map (· + 1)) 0 = 0 :: (List.range k).map (· + 1) := List.filter_eq_self.2 fun x hx => dec_true (hr x (by
    rw [← e] at hx
    exact List.mem_range.1 hx))
  have hq : restL E (0 :: (List.range k).map (· + 1)) 0 = [] := List.filter_eq_nil_iff.2 fun x hx => by
    rw [dec_true (hr x (by
      rw [← e] at hx
      exact List.mem_range.1 hx))]
    simp
  have := Parts.step (E := E) 0 ((List.range k).map (· + 1)) [] (by rw [hq]; exact .done)
  rw [hp] at this
  exact this
/-- Ends of an edge differ in colour. -/
def colB (m : Nat) (E : Nat → Nat → Bool) (col : Nat → Bool) : Bool := (List.range m).all fun x => (List.range m).all fun y => !E x y || (col x != col y)
theorem colB_ok {m : Nat} {E : Nat → Nat → Bool} {col : Nat → Bool} (h : colB m E col = true) : ∀ x y, x < m → y < m → E x y = true → col x ≠ col y := fun x y hx hy hE => by
  unfold colB at h
  rw [List.all_eq_true] at h
  have h1 := h x (List.mem_range.2 hx)
  rw [List.all_eq_true] at h1
  have h2 := h1 y (List.mem_range.2 hy)
  rw [hE] at h2
  simpa using h2
def grdC (b x : Nat) : Bool := (x / b + x % b) % 2 == 0
def cntM (m : Nat) (E : Nat → Nat → Bool) : Nat := cntE (matG m E) m
def chkN (n : Nat) : Bool :=
  decide (rowsOf (itP n (n - 1)) = matG n pthM) && decide (rowsOf (joinL (itP n (n - 1)) 0 (n - 1)) = matG n (lopE n)) && decide (rowsOf (itS (n + 1) n) = matG (n + 1) strE)
   && decide (rowsOf (itW (netL (matG n (lopE n)) ++ [0]) n n) = matG (n + 1) (whlE n)) && decide (indL (matG (n + 1) (whlE n)) (natInts (restN (n + 1) n)) = matG n (lopE n))
   && decide (cntM n pthM = n - 1) && decide (cntM n (lopE n) = n) && decide (cntM n (compE fun _ _ => false) = n * (n - 1) / 2) && decide (cntM (n + 1) (whlE n) = 2 * n) && decide (cntM (n + 1) strE = n)
   && ahdB (n + 1) (ofG (matG (n + 1) strE))
def chkS (n : Nat) : Bool := decide (cntF n (ofG (matG n (lopE n))) (ofG (matG n (lopE n))) n [] = 2 * n) && decide (cntF n (ofG (matG n pthM)) (ofG (matG n pthM)) n [] = 2)
def chkA (a b : Nat) : Bool :=
  decide (rowsOf (itT a b (a * b)) = matG (a + b) (sidE a)) && decide (rowsOf (itG a b (a * b)) = matG (a * b) (grdE b)) && decide (cntM (a + b) (sidE a) = a * b) && decide (cntM (a * b) (grdE b) = a * (b - 1) + b * (a - 1))
   && ahdB (a * b) (ofG (matG (a * b) (grdE b))) && colB (a * b) (ofG (matG (a * b) (grdE b))) (grdC b)
theorem chkN_all : ([3, 4, 5, 6, 7].all chkN) = true := by decide +kernel
theorem chkS_all : ([3, 4, 5, 6, 7].all chkS) = true := by decide +kernel
theorem chkA_all : ([1, 2, 3, 4].all fun a => [1, 2, 3, 4].all fun b => chkA a b) = true := by decide +kernel

end Go.Proofs.YtkppbmfliejnmaaDoor
