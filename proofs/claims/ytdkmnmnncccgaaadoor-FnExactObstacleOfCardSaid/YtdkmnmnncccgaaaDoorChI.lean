/- Walks: the sets of so many, tried in their order (the program's chooseSets and its closures). -/
import Derived.Test.YtdkmnmnncccgaaaDoorObP
import Derived.Test.YtdkmnmnncccgaaaDoorPrE
namespace Go.Proofs.YtdkmnmnncccgaaaDoor
open Go.RowKit

theorem lOk_of_lt {g : List (List Int)} (h : GOk g) {s : Nat} (hs : s < 2 ^ g.length) : LOk g s where
  ok := h
  s16 := (cand_bits h.le hs).2
  inn := fun i hi => ((cand_bits h.le hs).1.inn i ((mem_bitsOf' (by have := (cand_bits h.le hs).2; omega)).2 hi)).2
theorem bits_len16 {g : List (List Int)} (h : GOk g) {s : Nat} (hs : s < 2 ^ g.length) : (bitsOf s).length ≤ 16 := by
  have hc := (cand_bits h.le hs).1
  have := h.le
  by_cases he : bitsOf s = []
  · rw [he]; simp
  · have := rising_room hc.ris hc.inn he
    omega

theorem bits_nil0 {l : Nat} (h : l < 65536) (e : ¬ natInts (bitsOf l) ≠ []) : l = 0 := by
  have e1 : natInts (bitsOf l) = [] := Decidable.byContradiction e
  have e2 : bitsOf l = [] := by simpa [natInts] using e1
  rw [← mask_bitsOf h, e2]
  rfl

/-- What stands below the call. -/
structure ObBase (w : World) (g : List (List Int)) (xp : Option Addr) (xc ba : Nat) : Prop where
  ok : GOk g
  h8 : g.length ≤ 8
  box : Box w ba 47 (.slice xp g.length xc)
  sl : Sl w 50 (.slice xp g.length xc) g.length ((netL g).map u32v)
  tab : Tab w
theorem ObBase.next {w w' : World} {g : List (List Int)} {xp : Option Addr} {xc ba : Nat} (h : ObBase w g xp xc ba) (hb : Below w.heap.size w w') : ObBase w' g xp xc ba :=
  ⟨h.ok, h.h8, h.box.keep hb, h.sl.below hb, h.tab.keep hb⟩

set_option maxRecDepth 100000 in
set_option maxHeartbeats 1000000 in
theorem fits_any (y : Int) (s : Nat) (hy : y = s) (g : List (List Int)) (xp : Option Addr) (xc ba : Nat) (hs : s < 2 ^ g.length) (w : World) (h : ObBase w g xp xc ba) :
    Calls Tryd.prog 32 #[.int .u32 y, .pointer (some ⟨ba, 0, none⟩)] w fun e w' => e = .returned (.bool (dec (StuckN g s))) ∧ Below w.heap.size w w' := by
  subst hy
  have hbx := h.box.cell
  have H := Lib.hid h
  have HS := Lib.hid hs
  clear h hs
  by_cases hst : StuckN g s
  · have HST := Lib.hid hst
    have hd := Lib.hid (dec_true hst)
    clear hst
    go_enter Tryd.func32, Tryd.ntmps32
    go_wp2_with (go_at_call 33; refine (prunedOf_any _ _ g s rfl _ ⟨lOk_of_lt H.out.ok HS.out, H.out.sl⟩ (bits_len16 H.out.ok HS.out) H.out.tab).mono ?_; rintro e w5 ⟨ov, fs, l, rfl, hF, ho5, hl16, hcnt5, hT5, hb5⟩; have hl0 : l ≠ 0 := (fun e0 => (stuck_iff hF).1 HST.out (by rw [e0, bitsOf_zero]; rfl)); clear hF ho5 hT5)
    go_ret
    exact ⟨by rw [hd.out]; exact ret_bool (by simpa using hl0), hb5⟩
  · have HST := Lib.hid hst
    have hd := Lib.hid (dec_false hst)
    clear hst
    go_enter Tryd.func32, Tryd.ntmps32
    go_wp2_with (go_at_call 33; refine (prunedOf_any _ _ g s rfl _ ⟨lOk_of_lt H.out.ok HS.out, H.out.sl⟩ (bits_len16 H.out.ok HS.out) H.out.tab).mono ?_; rintro e w5 ⟨ov, fs, l, rfl, hF, ho5, hl16, hcnt5, hT5, hb5⟩; have hl0 : l = 0 := bits_nil0 hl16 (fun e0 => HST.out ((stuck_iff hF).2 e0)); clear hF ho5 hT5)
    go_ret
    exact ⟨by rw [hd.out]; exact ret_bool (by simp [hl0]), hb5⟩

/-- The call's own variables: the function and what was found. -/
structure ObW (wB : World) (ba : Nat) (z : Int) (w : World) : Prop where
  bel : Below wB.heap.size wB w
  fit : Box w wB.heap.size 55 (.func (.func 32) #[] #[.pointer (some ⟨ba, 0, none⟩)])
  fnd : Box w (wB.heap.size + 1) 50 (.int .u32 z)
theorem ObW.next {wB w w' : World} {ba : Nat} {z : Int} (h : ObW wB ba z w) (hb : Below w.heap.size w w') : ObW wB ba z w' :=
  ⟨h.bel.trans (hb.mono h.bel.size), h.fit.keep hb, h.fnd.keep hb⟩
theorem ObW.set {wB w : World} {ba : Nat} {z : Int} (h : ObW wB ba z w) (y : Int) : ObW wB ba y (w.setCell ⟨wB.heap.size + 1, 0, none⟩ (.int .u32 y)) :=
  ⟨h.bel.setCell (by show wB.heap.size ≤ wB.heap.size + 1; omega) _, h.fit.setOther (by show wB.heap.size ≠ wB.heap.size + 1; omega) _, h.fnd.set _⟩

set_option maxRecDepth 100000 in
set_option maxHeartbeats 1000000 in
theorem each_any (y : Int) (s : Nat) (hy : y = s) (g : List (List Int)) (xp : Option Addr) (xc ba : Nat) (hs : s < 2 ^ g.length) (wB w : World) (z : Int) (hB : ObBase wB g xp xc ba) (hW : ObW wB ba z w) :
    Calls Tryd.prog 53 #[.int .u32 y, .pointer (some ⟨wB.heap.size + 1, 0, none⟩), .pointer (some ⟨wB.heap.size, 0, none⟩)] w fun e w' => e = .returned (.bool (dec (StuckN g s))) ∧ ObW wB ba s w' := by
  subst hy
  have c1 := hW.fnd.cell
  have f1 := hW.fnd.free
  have HB := Lib.hid hB
  have HW2 := Lib.hid (hW.set (s : Int))
  have c2 := HW2.out.fit.cell
  have HS := Lib.hid hs
  clear hB hW hs
  go_enter Tryd.func53, Tryd.ntmps53
  go_wp2_with (go_at_call 32; refine (fits_any _ s rfl g xp xc ba HS.out _ (HB.out.next HW2.out.bel)).mono ?_; rintro e w3 ⟨rfl, hb3⟩)
  go_ret
  exact ⟨rfl, HW2.out.next hb3⟩

end Go.Proofs.YtdkmnmnncccgaaaDoor
