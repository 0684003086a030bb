/- Walk: the laws' dice thrown (roll). -/
import Derived.Test.YtkppbmfliejnmaaDoorBkQ40
import Derived.Deep.RegionWith
namespace Go.Proofs.YtkppbmfliejnmaaDoor
open Go.RowKit

set_option maxRecDepth 100000 in
set_option maxHeartbeats 4000000 in
theorem roll_any (v : Value) (bs : List Int) (s : Int) (hl : bs.length ≤ 4096) (w : World) (ha : ArgB w v bs) :
    Calls Tryd.prog 12 #[v, .int .u64 s] w fun e w' => ∃ db : Nat, e = .returned (.pointer (some ⟨db, 0, none⟩)) ∧ Dice w w' db bs ∧ Below w.heap.size w w' := by
  obtain ⟨p, c, e, _⟩ := id ha
  subst e
  have HA := Lib.hid ha
  clear ha
  go_enter Tryd.func12, Tryd.ntmps12
  go_upto_region 1 with fail
  go_cut [5] (fun s5 wx => ∃ h : Int, s5 = .pointer (some ⟨w.heap.size, 0, none⟩) ∧ wx = w.alloc (.cells #[.slice p bs.length c, .int .i64 0, .int .u64 h] 66))
  case first =>
    go_wp2
    go_meet
    exact ⟨_, rfl, rfl⟩
  case rest =>
  obtain ⟨h, rfl, rfl⟩ := hcut
  go_wp2
  go_loopw [6] (fun i wr => ∃ (k : Nat) (z : Int), i = .int .i64 k ∧ k ≤ bs.length ∧ BoxD wr w.heap.size (.slice p bs.length c) (.int .i64 0) (.int .u64 z) ∧ Below w.heap.size w wr) (fun i _ => bs.length - (intOf i).toNat)
  case atStart => exact ⟨0, h, rfl, Nat.zero_le _, BoxD.new _ _ _ _, below_alloc _ _⟩
  case round =>
    obtain ⟨k, z, rfl, hk, hb, hbel⟩ := hrel
    have HB := Lib.hid hb
    have HBEL := Lib.hid hbel
    have c2 := hb.c2
    have f2 := hb.free 2
    clear hb hbel
    by_cases hlt : k < bs.length
    · obtain ⟨xb, xo, rfl, hcx, hx0, hx1⟩ := (HA.out.below HBEL.out).get hlt
      generalize bs[k] = x at hcx hx0 hx1
      go_upto_region 5 with fail
      go_region_with (fail)
      all_goals go_wp2
      all_goals go_roundw
      all_goals first
        | exact ⟨k + 1, _, by go_num, by omega, (HB.out.keep (below_dN (Below.refl _ _) _)).s2 _, (HBEL.out.trans ((below_dN (Below.refl wr.heap.size wr) _).mono HBEL.out.size)).setCell (p := ⟨w.heap.size, 2, none⟩) (Nat.le_refl _) _⟩
        | (simp [intOf]; omega)
    · obtain rfl : k = bs.length := by omega
      go_wp2
      go_ret
      exact ⟨_, rfl, ⟨⟨_, 0, z, HB.out, Nat.zero_le _, HA.out⟩, hl, Nat.le_refl _, HBEL.out⟩, HBEL.out⟩

end Go.Proofs.YtkppbmfliejnmaaDoor
