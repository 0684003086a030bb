/- Walks: the order of sets (compareSets), with the word that the draws only grow. -/
import Derived.Test.YtdkmnmnncccgaaaDoorClP
import Derived.Test.YtdkmnmnncccgaaaDoorDrawn
import Derived.Test.YtdkmnmnncccgaaaDoorSetW
import Derived.Deep.RegionHeld3
namespace Go.Proofs.YtdkmnmnncccgaaaDoor
open Go.RowKit Go.Sort

set_option maxRecDepth 100000 in
set_option maxHeartbeats 1000000 in
theorem list_anyD (y : Int) (s : Nat) (hy : y = s) (hs : s < 4294967296) (w : World) (hT : Tab w) :
    Calls Tryd.prog 54 #[.int .u32 y] w fun e w' => ∃ v, e = .returned v ∧
      w'.ownsRow w.heap.size 3 1 v (bitsOf s).length ((natInts (bitsOf s)).map (Value.int .i64)) ∧ Below w.heap.size w w' ∧ w.drawn ≤ w'.drawn := by
  subst hy
  have hpos := hT.pos
  go_enter Tryd.func54, Tryd.ntmps54
  go_wp2
  go_loopw [0, 3] (fun x v wr => ∃ (r : Nat) (d : List Nat), x = .int .u32 r ∧ r < 4294967296 ∧ d ++ bitsOf r = bitsOf s ∧ wr.ownsRow w.heap.size 3 1 v d.length ((natInts d).map (Value.int .i64)) ∧ Below w.heap.size w wr ∧ w.drawn ≤ wr.drawn)
    (fun x _ _ => (bitsOf (intOf x).toNat).length)
  case atStart => exact ⟨s, [], rfl, hs, rfl, ownsRow_empty _ _ _, below_alloc _ _, Nat.le_refl _⟩
  case round =>
    obtain ⟨r, d, rfl, hr, hd, hown, hbel, hdr⟩ := hrel
    by_cases h0 : r = 0
    · subst h0
      rw [bitsOf_zero, List.append_nil] at hd
      subst hd
      go_wp2
      go_ret
      exact ⟨_, rfl, hown, hbel, hdr⟩
    · have h0' : ((r : Int) != 0) = true := by simp; omega
      have hTr : Tab wr := hT.below hbel hpos
      have hsz := hbel.size
      have hstep := Lib.hid (bitsOf_step r h0 hr)
      have hlow := Lib.hid (drop_low r hr h0)
      have hlen : d.length < 1000000000 := by
        have h1 := bitsOf_length s
        rw [← hd, List.length_append] at h1
        omega
      have Hd := Lib.hid hd
      clear hd
      go_wp2_with (first
        | (go_at_call 70; refine (least_any _ r rfl h0 hr _ hTr).mono ?_; rintro e w' ⟨rfl, rfl⟩)
        | (at_builtin; refine wpList_app1D ty_int rfl rfl rfl hown rfl rfl hlen hsz ?_; intro v' w1 hown' hg _ hdr1))
      go_roundw
      case rel =>
        refine ⟨r &&& (r - 1), d ++ [Lib.ctz 32 r], val_int hlow.out, and_lt32 _ _ hr, ?_, ?_, below_grown hbel hown hg (Nat.le_refl _) hsz, Nat.le_trans hdr hdr1⟩
        · rw [List.append_assoc, List.singleton_append, ← hstep.out]; exact Hd.out
        · simpa [natInts] using hown'
      case measure =>
        rw [hlow.out]
        simp [intOf, hstep.out]

end Go.Proofs.YtdkmnmnncccgaaaDoor
