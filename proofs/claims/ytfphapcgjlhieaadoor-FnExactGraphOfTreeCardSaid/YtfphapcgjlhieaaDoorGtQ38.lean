/- Walks: is a tree one of union and join, by the program. -/
import Derived.Test.YtfphapcgjlhieaaDoorGtQ37
import Derived.Test.YtfphapcgjlhieaaDoorGtQ17
namespace Go.Proofs.YtfphapcgjlhieaaDoor
open Go.RowKit

def SameK (ts : List Pt) (k y : Int) : Prop := ∃ q, ts[y.toNat]? = some q ∧ q.k = k
theorem decide_dec_iffT {z : Int} {p : Prop} (h : 0 ≤ z ↔ p) : decide (0 ≤ z) = dec p := by rw [decide_dec, dec_congr h]

/-- What the closure reads. -/
structure CoW (w : World) (vp : Option Addr) (vc : Nat) (ts : List Pt) (tb pb : Nat) (pk : Int) : Prop where
  trs : Trs w (.slice vp ts.length vc) ts
  tree : Box w tb 29 (.slice vp ts.length vc)
  node : ∃ a b, T3 w pb 54 (.int .i64 pk) a b
theorem CoW.next {w w' : World} {vp : Option Addr} {vc : Nat} {ts : List Pt} {tb pb : Nat} {pk : Int} (h : CoW w vp vc ts tb pb pk) (hb : Below w.heap.size w w') : CoW w' vp vc ts tb pb pk :=
  ⟨h.trs.below hb, h.tree.keep hb, by obtain ⟨a, b, h3⟩ := h.node; exact ⟨a, b, h3.keep hb⟩⟩

set_option maxRecDepth 100000 in
set_option maxHeartbeats 1000000 in
theorem coOne_any (z : Int) (x : Nat) (hz : z = x) (vp : Option Addr) (vc : Nat) (ts : List Pt) (tb pb : Nat) (pk : Int) (hx : x < ts.length) (w : World) (h : CoW w vp vc ts tb pb pk) :
    Calls Tryd.prog 78 #[.int .i64 z, .pointer (some ⟨tb, 0, none⟩), .pointer (some ⟨pb, 0, none⟩)] w fun e w' => e = .returned (.bool (dec (SameK ts pk z))) ∧ Below w.heap.size w w' := by
  subst hz
  obtain ⟨⟨qk, qv, qs⟩, hq⟩ : ∃ p, ts[x]? = some p := ⟨_, List.getElem?_eq_getElem hx⟩
  obtain ⟨b, o, _, _, e, y0, _⟩ := h.trs.at hq
  subst e
  simp only at y0
  have c0 := h.tree.cell
  obtain ⟨a3, b3, h3⟩ := h.node
  have c1 := h3.cells.1
  have HS : Hid (SameK ts pk (x : Int) ↔ qk = pk) := Lib.hid ⟨fun ⟨q, h1, h2⟩ => by
    rw [Int.toNat_natCast] at h1
    obtain rfl := Option.some.inj (h1.symm.trans hq)
    exact h2, fun e => ⟨_, by rw [Int.toNat_natCast]; exact hq, e⟩⟩
  have hxi : ((x : Nat) : Int) < (ts.length : Int) := by omega
  clear h h3 hq
  go_enter Tryd.func78, Tryd.ntmps78
  go_upto_region 1 with fail
  refine wp_region_held_drew (S := fun w' => w'.cell? ⟨tb, 0, none⟩ = some (.slice (some ⟨b, o, none⟩) ts.length vc) ∧ w'.cell? ⟨b, o + x * 3, none⟩ = some (.int .i64 qk) ∧ w'.cell? ⟨pb, 0, none⟩ = some (.int .i64 pk)) (by kernel_rfl) ?_ (fun hHeld => ?_)
  · exact ⟨c0, y0, c1⟩
  refine wpAnyH_take (i := 0) (v := ?_) rfl (by kernel_rfl) (by kernel_rfl) (by kernel_rfl) (fun _ _ _ h => h) (Or.inl ⟨by rfl, ?_⟩) (by assumption) ?_
  rotate_left
  · intro wz hSw; (try dsimp only at hSw); go_simp; try rfl
  try simp only [Act.put, List.getElem_toArray, List.getElem_cons_succ, List.getElem_cons_zero, List.setIfInBounds_toArray, List.set_cons_zero, List.set_cons_succ]
  refine wpAnyH_take (i := 1) (v := ?_) rfl (by kernel_rfl) (by kernel_rfl) (by kernel_rfl) (fun _ _ _ h => h) (Or.inl ⟨by rfl, ?_⟩) (by assumption) ?_
  rotate_left
  · intro wz hSw; (try dsimp only at hSw); go_simp; try rfl
  try simp only [Act.put, List.getElem_toArray, List.getElem_cons_succ, List.getElem_cons_zero, List.setIfInBounds_toArray, List.set_cons_zero, List.set_cons_succ]
  refine wpAnyH_take (i := 2) (v := ?_) rfl (by kernel_rfl) (by kernel_rfl) (by kernel_rfl) (fun _ _ _ h => h) (Or.inl ⟨by rfl, ?_⟩) (by assumption) ?_
  rotate_left
  · intro wz hSw; (try dsimp only at hSw); go_simp; try rfl
  try simp only [Act.put, List.getElem_toArray, List.getElem_cons_succ, List.getElem_cons_zero, List.setIfInBounds_toArray, List.set_cons_zero, List.set_cons_succ]
  refine wpAnyH_take (i := 3) (v := ?_) rfl (by kernel_rfl) (by kernel_rfl) (by kernel_rfl) (fun _ _ _ h => h) (Or.inl ⟨by rfl, ?_⟩) (by assumption) ?_
  rotate_left
  · intro wz hSw; (try dsimp only at hSw); go_simp; try rfl
  try simp only [Act.put, List.getElem_toArray, List.getElem_cons_succ, List.getElem_cons_zero, List.setIfInBounds_toArray, List.set_cons_zero, List.set_cons_succ]
  refine wpAnyH_take (i := 4) (v := ?_) rfl (by kernel_rfl) (by kernel_rfl) (by kernel_rfl) (fun _ _ _ h => h) (Or.inl ⟨by rfl, ?_⟩) (by assumption) ?_
  rotate_left
  · intro wz hSw; (try dsimp only at hSw); go_simp; try rfl
  try simp only [Act.put, List.getElem_toArray, List.getElem_cons_succ, List.getElem_cons_zero, List.setIfInBounds_toArray, List.set_cons_zero, List.set_cons_succ]
  refine wpAnyH_take (i := 5) (v := ?_) rfl (by kernel_rfl) (by kernel_rfl) (by kernel_rfl) (fun _ _ _ h => h) (Or.inl ⟨by rfl, ?_⟩) (by assumption) ?_
  rotate_left
  · intro wz hSw; (try dsimp only at hSw); go_simp; try rfl
  try simp only [Act.put, List.getElem_toArray, List.getElem_cons_succ, List.getElem_cons_zero, List.setIfInBounds_toArray, List.set_cons_zero, List.set_cons_succ]
  refine wpAnyH_take (i := 6) (v := ?_) rfl (by kernel_rfl) (by kernel_rfl) (by kernel_rfl) (fun _ _ _ h => h) (Or.inl ⟨by rfl, ?_⟩) (by assumption) ?_
  rotate_left
  · intro wz hSw; (try dsimp only at hSw); go_simp; try rfl
  try simp only [Act.put, List.getElem_toArray, List.getElem_cons_succ, List.getElem_cons_zero, List.setIfInBounds_toArray, List.set_cons_zero, List.set_cons_succ]
  refine wpAnyH_take (i := 7) (v := ?_) rfl (by kernel_rfl) (by kernel_rfl) (by kernel_rfl) (fun _ _ _ h => h) (Or.inl ⟨by rfl, ?_⟩) (by assumption) ?_
  rotate_left
  · intro wz hSw; (try dsimp only at hSw); go_simp; try rfl
  try simp only [Act.put, List.getElem_toArray, List.getElem_cons_succ, List.getElem_cons_zero, List.setIfInBounds_toArray, List.set_cons_zero, List.set_cons_succ]
  refine wpAnyH_take (i := 8) (v := ?_) rfl (by kernel_rfl) (by kernel_rfl) (by kernel_rfl) (fun _ _ _ h => h) (Or.inl ⟨by rfl, ?_⟩) (by assumption) ?_
  rotate_left
  · intro wz hSw; (try dsimp only at hSw); go_simp; try rfl
  try simp only [Act.put, List.getElem_toArray, List.getElem_cons_succ, List.getElem_cons_zero, List.setIfInBounds_toArray, List.set_cons_zero, List.set_cons_succ]
  refine wpAnyH_done (by kernel_rfl) ?_ _
  go_wp2
  go_ret
  refine ⟨ret_bool ?_, (Below.refl _ _).drew⟩
  by_cases h : qk = pk
  · rw [dec_true (HS.out.2 h)]; simp [h]
  · rw [dec_false fun k => h (HS.out.1 k)]; simpa using h

set_option maxRecDepth 100000 in
set_option maxHeartbeats 1000000 in
theorem indexCo_any (sv : Value) (xs : List Int) (vp : Option Addr) (vc : Nat) (ts : List Pt) (tb pb : Nat) (pk : Int) (hr : ∀ x ∈ xs, 0 ≤ x ∧ x < ts.length) (w : World) (hn : Nums w 2 .i64 sv xs) (h : CoW w vp vc ts tb pb pk) :
    Calls Tryd.prog 131 #[sv, .func (.func 78) #[] #[.pointer (some ⟨tb, 0, none⟩), .pointer (some ⟨pb, 0, none⟩)]] w fun e w' =>
      ∃ z : Int, e = .returned (.int .i64 z) ∧ (0 ≤ z ↔ ∃ y ∈ xs, SameK ts pk y) ∧ Below w.heap.size w w' := by
  obtain ⟨sp, sc, rfl, _, _, hnl, hat⟩ := id hn
  have HN := Lib.hid hn
  have HC := Lib.hid h
  have HR := Lib.hid hr
  clear h hr hn hat
  go_enter Tryd.func131, Tryd.ntmps131
  go_wp2
  go_loopw [8] (fun i wr => ∃ k : Nat, k ≤ xs.length ∧ i = .int .i64 k ∧ Hid (∀ j (hj : j < xs.length), j < k → ¬ SameK ts pk xs[j]) ∧ Below w.heap.size w wr) (fun i _ => xs.length - (intOf i).toNat)
  case atStart => exact ⟨0, Nat.zero_le _, rfl, Lib.hid (fun j _ hj => absurd hj (Nat.not_lt_zero _)), Below.refl _ _⟩
  case round =>
    obtain ⟨k, hk, rfl, HNO, hbel⟩ := hrel
    have HB := Lib.hid hbel
    by_cases hlt : k < xs.length
    · obtain ⟨qb, qo, e, hq⟩ : ∃ b o, sp = some ⟨b, o, none⟩ ∧ wr.cell? ⟨b, o + k, none⟩ = some (.int .i64 xs[k]) := by
        obtain ⟨p', c', e, _, _, _, hat⟩ := HN.out.below hbel
        cases e
        exact hat.num hlt
      subst e
      have hx := HR.out xs[k] (List.getElem_mem _)
      obtain ⟨x, hxe⟩ : ∃ x : Nat, xs[k] = (x : Int) := ⟨xs[k].toNat, by omega⟩
      have HX := Lib.hid hxe
      rw [hxe] at hq hx
      have hxl : x < ts.length := by omega
      clear hxe hbel
      by_cases hj : SameK ts pk (x : Int)
      · have HJ := Lib.hid hj
        have hd := Lib.hid (dec_true hj)
        clear hj
        go_wp2_with (go_at_call 78; refine (coOne_any _ x rfl vp vc ts tb pb pk hxl _ (HC.out.next HB.out)).mono ?_; rintro e w2 ⟨he, hb2⟩; rw [hd.out] at he; subst he)
        go_ret
        exact ⟨k, rfl, ⟨fun _ => ⟨xs[k], List.getElem_mem _, by rw [HX.out]; exact HJ.out⟩, fun _ => by omega⟩, HB.out.trans (hb2.mono HB.out.size)⟩
      · have HJ := Lib.hid hj
        have hd := Lib.hid (dec_false hj)
        clear hj
        go_wp2_with (go_at_call 78; refine (coOne_any _ x rfl vp vc ts tb pb pk hxl _ (HC.out.next HB.out)).mono ?_; rintro e w2 ⟨he, hb2⟩; rw [hd.out] at he; subst he)
        go_roundw
        case rel => exact ⟨k + 1, by omega, by go_num, Lib.hid (fun j hjl hj => by
          by_cases e : j < k
          · exact HNO.out j hjl e
          · obtain rfl : j = k := by omega
            rw [HX.out]; exact HJ.out), HB.out.trans (hb2.mono HB.out.size)⟩
        case measure => simp [intOf]; omega
    · obtain rfl : k = xs.length := by omega
      clear hbel
      go_wp2
      go_ret
      exact ⟨-1, rfl, ⟨fun h => by omega, fun ⟨y, h1, h2⟩ => by
        obtain ⟨j, hj, rfl⟩ := List.mem_iff_getElem.1 h1
        exact absurd h2 (HNO.out j hj hj)⟩, HB.out⟩

set_option maxRecDepth 100000 in
set_option maxHeartbeats 1000000 in
theorem containsCo_any (sv : Value) (xs : List Int) (vp : Option Addr) (vc : Nat) (ts : List Pt) (tb pb : Nat) (pk : Int) (hr : ∀ x ∈ xs, 0 ≤ x ∧ x < ts.length) (w : World) (hn : Nums w 2 .i64 sv xs) (h : CoW w vp vc ts tb pb pk) :
    Calls Tryd.prog 77 #[sv, .func (.func 78) #[] #[.pointer (some ⟨tb, 0, none⟩), .pointer (some ⟨pb, 0, none⟩)]] w fun e w' =>
      e = .returned (.bool (dec (∃ y ∈ xs, SameK ts pk y))) ∧ Below w.heap.size w w' := by
  obtain ⟨sp, sc, rfl, _⟩ := hn.shapeT
  have HN := Lib.hid hn
  have HC := Lib.hid h
  have HR := Lib.hid hr
  clear h hr hn
  go_enter Tryd.func77, Tryd.ntmps77
  go_wp2_with (go_at_call 131; refine (indexCo_any _ xs vp vc ts tb pb pk HR.out _ HN.out HC.out).mono ?_; rintro e w2 ⟨z, rfl, hz, hb2⟩; have HZ := Lib.hid hz; clear hz)
  go_ret
  exact ⟨ret_bool (decide_dec_iffT HZ.out), hb2⟩

set_option maxRecDepth 100000 in
set_option maxHeartbeats 1000000 in
theorem implPartsOk_any (v : Value) (ts : List Pt) (w : World) (htr : Trs w v ts) (hT : Tab w) :
    Calls Tryd.prog 76 #[v] w fun e w' => e = .returned (.bool (dec (PartsI ts))) ∧ Below w.heap.size w w' := by
  obtain ⟨vp, vc, rfl, hlen⟩ := htr.shape
  have HTR := Lib.hid htr
  have HT := Lib.hid hT
  clear htr hT
  by_cases hpt : PartsI ts
  · have HPT := Lib.hid hpt
    clear hpt
    go_enter Tryd.func76, Tryd.ntmps76
    go_wp2_with (go_at_call 48; refine (leaves_yes _ ts _ HTR.out HT.out HPT.out).mono ?_; rintro e w2 ⟨lv, rfl, _, hb2⟩)
    go_ret
    exact ⟨ret_bool (true_dec HPT.out), hb2⟩
  · have HPT := Lib.hid hpt
    clear hpt
    go_enter Tryd.func76, Tryd.ntmps76
    go_wp2_with (go_at_call 48; refine (leaves_no _ ts _ HTR.out HT.out HPT.out).mono ?_; rintro e w2 ⟨lv, rfl, hb2⟩)
    go_ret
    exact ⟨ret_bool (false_dec HPT.out), hb2⟩

set_option maxRecDepth 100000 in
set_option maxHeartbeats 4000000 in
theorem implCoTreeOk_any (v : Value) (ts : List Pt) (w : World) (htr : Trs w v ts) (hT : Tab w) :
    Calls Tryd.prog 25 #[v] w fun e w' => e = .returned (.bool (dec (CoP ts))) ∧ Below w.heap.size w w' := by
  obtain ⟨vp, vc, rfl, hlen⟩ := htr.shape
  obtain ⟨W0, hW0⟩ : ∃ W, W = w.alloc (.cells #[.slice vp ts.length vc] 29) := ⟨_, rfl⟩
  have hbA : Below w.heap.size w W0 := by rw [hW0]; exact below_alloc _ _
  have HBA := Lib.hid hbA
  have HTR := Lib.hid (htr.below hbA)
  have HT := Lib.hid (hT.keep hbA)
  have HBX : Hid (Box W0 w.heap.size 29 (.slice vp ts.length vc)) := Lib.hid (by rw [hW0]; exact Box.new _ _ _)
  have c0 := HBX.out.cell
  clear htr hT hbA
  by_cases hpt : PartsI ts
  case neg =>
    have hd := dec_false hpt
    have HN := Lib.hid (false_dec (show ¬ CoP ts from fun h => hpt h.1))
    clear hpt
    go_enter Tryd.func25, Tryd.ntmps25
    go_upto_region 1 with fail
    rw [← hW0]
    clear hW0
    go_wp2_with (go_at_call 76; refine (implPartsOk_any _ ts _ HTR.out HT.out).mono ?_; rintro e w2 ⟨he, hb2⟩; rw [hd] at he; subst he)
    go_ret
    exact ⟨ret_bool HN.out, HBA.out.trans (hb2.mono HBA.out.size)⟩
  have hd := dec_true hpt
  have HPT := Lib.hid hpt
  clear hpt
  go_enter Tryd.func25, Tryd.ntmps25
  go_upto_region 1 with fail
  rw [← hW0]
  clear hW0
  go_wp2_with (go_at_call 76; refine (implPartsOk_any _ ts _ HTR.out HT.out).mono ?_; rintro e w2 ⟨he, hb2⟩; rw [hd] at he; subst he; have c02 := hb2.at' c0)
  go_loopw [10] (fun i wr => ∃ k : Nat, k ≤ ts.length ∧ i = .int .i64 k ∧ (∀ (j : Nat) (p : Pt), j < k → ts[j]? = some p → CoN ts p) ∧ Below W0.heap.size W0 wr) (fun i _ => ts.length - (intOf i).toNat)
  case atStart => exact ⟨0, Nat.zero_le _, rfl, fun j p hj => by omega, hb2⟩
  case round =>
    clear c0 c02
    obtain ⟨k, hk, rfl, hpre, hbel⟩ := hrel
    have HPR := Lib.hid hpre
    have HB := Lib.hid hbel
    clear hpre
    by_cases hlt : k < ts.length
    · obtain ⟨⟨pk, pv, ps⟩, hp⟩ : ∃ p, ts[k]? = some p := ⟨_, List.getElem?_eq_getElem hlt⟩
      have HP := Lib.hid hp
      have HKI : Hid (∀ x ∈ ps, 0 ≤ x ∧ x < (ts.length : Int)) := Lib.hid fun x hx => by
        have := parts_kids HPT.out hp x hx
        omega
      obtain ⟨b, o, rp, rc, e, c0, c1, c2, hkn, hkl⟩ := (HTR.out.below hbel).at hp
      subst e
      simp only at c0 c1 c2 hkn hkl
      obtain ⟨W1, hW1⟩ : ∃ W, W = wr.alloc (.cells #[.int .i64 pk, .int .i64 pv, .slice rp ps.length rc] 54) := ⟨_, rfl⟩
      have hb1 : Below wr.heap.size wr W1 := by rw [hW1]; exact below_alloc _ _
      have h3 : T3 W1 wr.heap.size 54 (.int .i64 pk) (.int .i64 pv) (.slice rp ps.length rc) := by rw [hW1]; exact T3.new _ _ _ _ _
      obtain ⟨z0, z1, z2⟩ := h3.cells
      have HKN := Lib.hid (hkn.below hb1)
      have HB1 := Lib.hid (HB.out.trans (hb1.mono HB.out.size))
      have HCW : Hid (CoW W1 (some ⟨b, o, none⟩) vc ts w.heap.size wr.heap.size pk) := Lib.hid ⟨HTR.out.below HB1.out, HBX.out.keep HB1.out, ⟨_, _, h3⟩⟩
      have HCN : Hid (CoN ts ⟨pk, pv, ps⟩ ↔ pk ≠ 4 ∧ ¬ ∃ y ∈ ps, SameK ts pk y) := Lib.hid ⟨fun h => ⟨h.1, fun ⟨y, h1, q, h2, h3⟩ => h.2 y h1 q h2 h3⟩, fun h => ⟨h.1, fun y h1 q h2 h3 => h.2 ⟨y, h1, q, h2, h3⟩⟩⟩
      clear hp hkn hbel h3 hb1
      go_upto_region 6 with fail
      rw [← hW1]
      clear hW1 c0 c1 c2
      by_cases h4 : pk = 4
      · subst h4
        have h4' : ((4 : Int) == 4) = true := rfl
        have HN : Hid (false = dec (CoP ts)) := Lib.hid (false_dec fun h => (h.2 _ _ HP.out).1 rfl)
        go_wp2
        go_ret
        exact ⟨ret_bool HN.out, HBA.out.trans (HB1.out.mono HBA.out.size)⟩
      have h4' : (pk == 4) = false := by simpa using h4
      have H4 := Lib.hid h4
      clear h4
      by_cases hs : ∃ y ∈ ps, SameK ts pk y
      · have hd := Lib.hid (dec_true hs)
        have HN : Hid (false = dec (CoP ts)) := Lib.hid (false_dec fun h => (HCN.out.1 (h.2 _ _ HP.out)).2 hs)
        clear hs
        go_wp2_with (go_at_call 77; refine (containsCo_any _ ps (some ⟨b, o, none⟩) vc ts w.heap.size wr.heap.size pk HKI.out _ HKN.out HCW.out).mono ?_; rintro e w5 ⟨he, hb5⟩; rw [hd.out] at he; subst he)
        go_ret
        exact ⟨ret_bool HN.out, HBA.out.trans ((HB1.out.trans (hb5.mono HB1.out.size)).mono HBA.out.size)⟩
      · have hd := Lib.hid (dec_false hs)
        have HY := Lib.hid (HCN.out.2 ⟨H4.out, hs⟩)
        clear hs
        go_wp2_with (go_at_call 77; refine (containsCo_any _ ps (some ⟨b, o, none⟩) vc ts w.heap.size wr.heap.size pk HKI.out _ HKN.out HCW.out).mono ?_; rintro e w5 ⟨he, hb5⟩; rw [hd.out] at he; subst he)
        go_roundw
        case rel =>
          refine ⟨k + 1, by omega, by go_num, fun j p hj hp => ?_, HB1.out.trans (hb5.mono HB1.out.size)⟩
          by_cases e : j = k
          · subst e
            obtain rfl := Option.some.inj (hp.symm.trans HP.out)
            exact HY.out
          · exact HPR.out j p (by omega) hp
        case measure => simp [intOf]; omega
    · obtain rfl : k = ts.length := by omega
      clear hbel
      go_wp2
      go_ret
      exact ⟨ret_bool (true_dec ⟨HPT.out, fun j p hp => HPR.out j p (List.getElem?_eq_some_iff.1 hp).1 hp⟩), HBA.out.trans (HB.out.mono HBA.out.size)⟩

end Go.Proofs.YtfphapcgjlhieaaDoor
