/- Walks: LaterOf, of both. -/
import Derived.Test.YtbdcolhmhbfdoaaDoorLaterA
import Derived.Test.YtbdcolhmhbfdoaaDoorFillF
namespace Go.Proofs.YtbdcolhmhbfdoaaDoor
open Go.RowKit

theorem rowsOf_laterN (n : Nat) (E : Nat → Nat → Bool) (l : List Nat) (k : Nat) : rowsOf (laterN n E l k) = laterRows n E l k := by
  refine List.ext_getElem (by rw [rowsOf_length, laterN_length, laterRows_length]) fun j h1 h2 => ?_
  rw [rowsOf_length] at h1
  have hj : j < n := by simpa [laterRows] using h2
  simp [rowsOf, laterRows, h1]

set_option maxRecDepth 100000 in
set_option maxHeartbeats 2000000 in
theorem specLaterOf_any (v lv : Value) (g : List (List Int)) (l : List Int) (w : World) (hg : Gr w v g) (hn : Nums w 2 .i64 lv l) :
    Calls Tryd.prog 23 #[v, lv] w fun e w' => ∃ (u : Value) (gg : List (List Int)), e = .returned u ∧ LaterS g l gg ∧ SG w' w.heap.size (.agg #[u]) gg ∧ gg.length ≤ 16 ∧ (∀ j, (row gg j).length ≤ 32) ∧ Below w.heap.size w w' := by
  have hg0 := hg
  obtain ⟨u, rfl, hr⟩ := hg
  obtain ⟨p, c, rfl, _⟩ := hr.shape
  obtain ⟨lp, lc, rfl, _⟩ := id hn.shape
  have hbA := Lib.hid (below_alloc w (.cells #[.slice p g.length c] 27))
  have BX := Lib.hid (Box.new w (.slice p g.length c) 27)
  have HG := Lib.hid (hg0.below hbA.out)
  have HN := Lib.hid (hn.below hbA.out)
  have h0 := hbA.out.size
  clear hr hg0 hn
  by_cases hok : GOk g ∧ OrdOk g.length l
  case neg =>
    have hd := dec_false hok
    have Hok := Lib.hid hok
    clear hok
    go_enter Tryd.func23, Tryd.ntmps23
    go_wp2_with (go_at_call 39; refine (specOrderOk_any _ _ g l _ HG.out HN.out).mono ?_; rintro e w2 ⟨rfl, hb2⟩)
    go_ret
    have s2 := hb2.size
    refine ⟨_, [], rfl, .inr ⟨rfl, Hok.out⟩, ⟨_, [], rfl, rfl, ownsRow_base (ownsRow_empty w2 _ _) (by omega), fun j hj => by simp at hj⟩, by simp, fun j => by simp [row], ?_⟩
    exact (hbA.out.trans (hb2.mono hbA.out.size)).alloc (by omega) _
  have hd := dec_true hok
  have hle := hok.1.le
  have hll16 : l.length ≤ 16 := by have := hok.2.1; omega
  have Hok := Lib.hid hok
  clear hok
  go_enter Tryd.func23, Tryd.ntmps23
  go_wp2_with (first
    | (go_at_call 39; refine (specOrderOk_any _ _ g l _ HG.out HN.out).mono ?_; rintro e w2 ⟨rfl, hb2⟩; have hbx := (BX.out.keep hb2).cell)
    | (go_at_call 49; refine (l7Later_any _ _ g l Hok.out.1 Hok.out.2 _ (HG.out.below hb2) (HN.out.below hb2)).mono ?_; rintro e w3 ⟨u3, rfl, hs3, hb3⟩))
  go_ret
  have s2 := hb2.size
  exact ⟨_, _, rfl, .inl ⟨Hok.out.1, Hok.out.2, rfl⟩, hs3.base (by omega), by rw [laterRows_length]; exact hle, fun j => laterRows_le, (hbA.out.trans (hb2.mono hbA.out.size)).trans (hb3.mono (by omega))⟩

set_option maxRecDepth 100000 in
set_option maxHeartbeats 2000000 in
theorem implLaterOf_any (v lv : Value) (g : List (List Int)) (l : List Int) (w : World) (hg : Gr w v g) (hn : Nums w 2 .i64 lv l) (hT : Tab w) :
    Calls Tryd.prog 24 #[v, lv] w fun e w' => ∃ (u : Value) (gg : List (List Int)), e = .returned u ∧ LaterS g l gg ∧ DG w' w.heap.size (.agg #[u]) gg ∧ gg.length ≤ 16 ∧ (∀ j, (row gg j).length ≤ 32) ∧ Below w.heap.size w w' := by
  have hg0 := hg
  obtain ⟨u, rfl, hr⟩ := hg
  obtain ⟨p, c, rfl, _⟩ := hr.shape
  obtain ⟨lp, lc, rfl, _⟩ := id hn.shape
  have hbA := Lib.hid (below_alloc w (.cells #[.slice p g.length c] 27))
  have BX := Lib.hid (Box.new w (.slice p g.length c) 27)
  have HG := Lib.hid (hg0.below hbA.out)
  have HN := Lib.hid (hn.below hbA.out)
  have HT := Lib.hid (hT.keep hbA.out)
  have h0 := hbA.out.size
  clear hr hg0 hn hT
  by_cases hok : GOk g ∧ OrdOk g.length l
  case neg =>
    have hd := dec_false hok
    have Hok := Lib.hid hok
    clear hok
    go_enter Tryd.func24, Tryd.ntmps24
    go_wp2_with (go_at_call 42; refine (implOrderOk_any _ _ g l _ HG.out HN.out).mono ?_; rintro e w2 ⟨rfl, hb2⟩)
    go_ret
    exact ⟨_, [], rfl, .inr ⟨rfl, Hok.out⟩, dg_nil' _ _, by simp, fun j => by simp [row], hbA.out.trans (hb2.mono hbA.out.size)⟩
  have hd := dec_true hok
  have hle := hok.1.le
  have hll16 : l.length ≤ 16 := by have := hok.2.1; omega
  have Hok := Lib.hid hok
  obtain ⟨ln, hln⟩ : ∃ ln, ln = l.map Int.toNat := ⟨_, rfl⟩
  have hlN : natInts ln = l := by rw [hln]; exact natInts_toNat fun x hx => (hok.2.2.1 x hx).1
  have hlnl := Lib.hid (show ln.length = l.length by rw [hln, List.length_map])
  have hln16 : ln.length ≤ 16 := by have := hlnl.out; omega
  have hlt : ∀ v ∈ ln, v < g.length := fun v hv => by
    rw [hln] at hv
    obtain ⟨x, hx, rfl⟩ := List.mem_map.1 hv
    have := hok.2.2.1 x hx
    omega
  have HLN := Lib.hid hlN
  have HLT := Lib.hid hlt
  have hlnE := Lib.hid hln
  clear hok hln hlN hlt
  go_enter Tryd.func24, Tryd.ntmps24
  go_wp2_with (first
    | (go_at_call 42; refine (implOrderOk_any _ _ g l _ HG.out HN.out).mono ?_; rintro e w2 ⟨rfl, hb2⟩; have hbx := (BX.out.keep hb2).cell)
    | (go_at_call 44; refine (netsOf_any _ g _ (HG.out.below hb2) Hok.out.1).mono ?_; rintro e w3 ⟨x, rfl, hown3, hb3⟩; have HX3 : Hid (Sl w3 73 x g.length ((indN g.length (ofG g)).map u32v)) := Lib.hid (by rw [indN_ofG Hok.out.1]; exact Sl.of_owns hown3 (by omega)); clear hown3)
    | (go_at_call 45; refine (narrow_any _ l _ ((HN.out.below hb2).below hb3)).mono ?_; rintro e w4 ⟨nv, rfl, hown4, hb4⟩; have HN4 : Hid (Nums w4 3 .i64 nv (natInts ln)) := Lib.hid (by rw [HLN.out]; exact Nums.of_owns hown4 rfl (by omega)); clear hown4)
    | (go_at_call 48; refine (elimination_any _ _ g.length (ofG g) ln Hok.out.1.pos hle HLT.out (by omega) _ (HX3.out.below hb4) HN4.out (((HT.out.keep hb2).keep hb3).keep hb4)).mono ?_; rintro e w5 ⟨u5b, u5, rfl, _, ho5, hb5⟩; have HX5 : Hid (Sl w5 73 u5 (laterN g.length (ofG g) ln ln.length).length ((laterN g.length (ofG g) ln ln.length).map u32v)) := Lib.hid (by rw [laterN_length]; exact Sl.of_owns ho5 (by omega)); clear ho5)
    | (go_at_call 50; refine (results_any _ (laterN g.length (ofG g) ln ln.length) (fun s hs => by have := laterN_lt hle _ _ _ s hs; omega) (by rw [laterN_length]; omega) _ HX5.out ((((HT.out.keep hb2).keep hb3).keep hb4).keep hb5)).mono ?_; rintro e w6 ⟨u6, rfl, hd6, hb6⟩))
  go_ret
  rw [rowsOf_laterN, hlnl.out, hlnE.out] at hd6
  have s2 := hb2.size
  have s3 := hb3.size
  have s4 := hb4.size
  have s5 := hb5.size
  exact ⟨_, _, rfl, .inl ⟨Hok.out.1, Hok.out.2, rfl⟩, hd6.base (by omega), by rw [laterRows_length]; exact hle, fun j => laterRows_le, ((((hbA.out.trans (hb2.mono h0)).trans (hb3.mono (by omega))).trans (hb4.mono (by omega))).trans (hb5.mono (by omega))).trans (hb6.mono (by omega))⟩

end Go.Proofs.YtbdcolhmhbfdoaaDoor
