/- What the law FnMinors carries: a host, and a minor of it that shrinks. -/
import Derived.Test.YtmakhapdlkbbnaaDoorMnQ37
import Derived.Test.YtmakhapdlkbbnaaDoorMnQ39
import Derived.Test.YtmakhapdlkbbnaaDoorMnQ15
import Derived.Test.YtmakhapdlkbbnaaDoorMnQ40
import Derived.Test.YtmakhapdlkbbnaaDoorMnQ43
import Derived.Deep.RegionWith
namespace Go.Proofs.YtmakhapdlkbbnaaDoor
open Go.RowKit

theorem lenTo_edN {h : List (List Int)} (hh : GOk h) : lenTo h h.length = 2 * (edN h.length (ofG h) h.length).length := by
  have h1 := two_cntE hh
  rw [cntE_edN hh _ (Nat.le_refl _)] at h1
  rw [← h1]
  unfold lenTo totN
  congr 1
  exact List.map_congr_left fun v hv => row_degM hh (List.mem_range.1 hv)
theorem Rws.dicedMn {w0 w w' : World} {db : Nat} {bs : List Int} (h : Dice w0 w db bs) (hg : w.grownBy w' (some db)) {v : Value} {xss : List (List Int)} (hr : Rws w 36 2 v xss) : Rws w' 36 2 v xss := by
  obtain ⟨vals, h1, h2, h3⟩ := hr
  exact ⟨vals, h1, Sl.diced h hg (by decide) h2, fun j hj => Sl.diced h hg (by decide) (h3 j hj)⟩
theorem Gr.dicedMn {w0 w w' : World} {db : Nat} {bs : List Int} (h : Dice w0 w db bs) (hg : w.grownBy w' (some db)) {v : Value} {g : List (List Int)} (hr : Gr w v g) : Gr w' v g := by
  obtain ⟨u, rfl, h2⟩ := hr
  exact ⟨u, rfl, h2.dicedMn h hg⟩
theorem gr_setBoxMn {w : World} {b : Nat} {v x : Value} {g : List (List Int)} (h : Gr w v g) (hb : Box w b 29 x) (u : Value) : Gr (w.setCell ⟨b, 0, none⟩ u) v g := by
  obtain ⟨u0, rfl, vals, h1, h2, h3⟩ := h
  exact ⟨u0, rfl, vals, h1, h2.setBox hb (by decide) u, fun j hj => Sl.setBox (h3 j hj) hb (by decide) u⟩
theorem box_setOther {w : World} {b c : Nat} {T T' : TypeId} {x y : Value} (h : Box w b T x) (hc : Box w c T' y) (hne : b ≠ c) (u : Value) : Box (w.setCell ⟨c, 0, none⟩ u) b T x := by
  obtain ⟨h1, h2, h3, h4⟩ := h
  have hk : (w.setCell ⟨c, 0, none⟩ u).heap[b]? = w.heap[b]? := Below.heap_setCell _ _ _ _ hne
  refine ⟨(World.cell?_setCell_far _ _ _ _ (by simpa using hne.symm)).trans h1, ?_, by rw [World.size_setCell]; exact h3, ?_⟩
  · rw [← h2]; unfold World.frozen?; rw [hk]
  · exact hk.trans h4
/-- The host, and what has been made of it. -/
structure MnI (W wr : World) (db bg bh : Nat) (bs : List Int) (ga : Option Addr) (gc : Nat) (g : List (List Int)) (hp : Option Addr) (hc : Nat) (h : List (List Int)) : Prop where
  dice : Dice W wr db bs
  xg : Box wr bg 29 (.slice ga g.length gc)
  xh : Box wr bh 29 (.slice hp h.length hc)
  gg : Gr wr (.agg #[.slice ga g.length gc]) g
  gh : Gr wr (.agg #[.slice hp h.length hc]) h
  ne : bg ≠ bh
  lo : W.heap.size ≤ bh
  ok : GOk h
  six : h.length ≤ 6
  min : MinOf g h
section
variable {W wr w' : World} {db bg bh : Nat} {bs : List Int} {ga : Option Addr} {gc : Nat} {g : List (List Int)} {hp : Option Addr} {hc : Nat} {h : List (List Int)}
theorem MnI.next (I : MnI W wr db bg bh bs ga gc g hp hc h) (hb : Below wr.heap.size wr w') : MnI W w' db bg bh bs ga gc g hp hc h :=
  ⟨I.dice.keep hb, I.xg.keep hb, I.xh.keep hb, I.gg.below hb, I.gh.below hb, I.ne, I.lo, I.ok, I.six, I.min⟩
theorem MnI.throw (I : MnI W wr db bg bh bs ga gc g hp hc h) (hd : Dice W w' db bs) (hg : wr.grownBy w' (some db)) : MnI W w' db bg bh bs ga gc g hp hc h :=
  ⟨hd, I.xg.diced I.dice hg (by decide), I.xh.diced I.dice hg (by decide), I.gg.dicedMn I.dice hg, I.gh.dicedMn I.dice hg, I.ne, I.lo, I.ok, I.six, I.min⟩
theorem MnI.store (I : MnI W wr db bg bh bs ga gc g hp hc h) {xp : Option Addr} {xc : Nat} {x : List (List Int)} (hx : Gr wr (.agg #[.slice xp x.length xc]) x) (hok : GOk x) (h6 : x.length ≤ 6) (hm : MinOf h x) :
    MnI W (wr.setCell ⟨bh, 0, none⟩ (.slice xp x.length xc)) db bg bh bs ga gc g xp xc x := by
  obtain ⟨⟨bv, i, z, h1, h2, h3⟩, few, lo, bel⟩ := I.dice
  have hne : db ≠ bh := fun e => by
    subst e
    obtain ⟨_, _, _, k⟩ := I.xh
    have := h1.blk
    rw [k] at this
    simp at this
  refine ⟨⟨⟨bv, i, z, h1.to (Below.heap_setCell _ _ _ _ hne), h2, h3⟩, few, lo, bel.setCell (p := ⟨bh, 0, none⟩) I.lo _⟩, box_setOther I.xg I.xh I.ne _, I.xh.set _, gr_setBoxMn I.gg I.xh _, gr_setBoxMn hx I.xh _, I.ne, I.lo, hok, h6, I.min.trans hm⟩
theorem MnI.setX (I : MnI W wr db bg bh bs ga gc g hp hc h) {bx : Nat} {v : Value} (hb : Box wr bx 29 v) (h1 : bg ≠ bx) (h2 : bh ≠ bx) (lo : W.heap.size ≤ bx) (u : Value) : MnI W (wr.setCell ⟨bx, 0, none⟩ u) db bg bh bs ga gc g hp hc h := by
  obtain ⟨⟨bv, i, z, k1, k2, k3⟩, few, lo1, bel⟩ := I.dice
  have hne : db ≠ bx := fun e => by
    subst e
    obtain ⟨_, _, _, k⟩ := hb
    have := k1.blk
    rw [k] at this
    simp at this
  exact ⟨⟨⟨bv, i, z, k1.to (Below.heap_setCell _ _ _ _ hne), k2, k3⟩, few, lo1, bel.setCell (p := ⟨bx, 0, none⟩) lo _⟩, box_setOther I.xg hb h1 _, box_setOther I.xh hb h2 _, gr_setBoxMn I.gg hb _, gr_setBoxMn I.gh hb _, I.ne, I.lo, I.ok, I.six, I.min⟩
end

end Go.Proofs.YtmakhapdlkbbnaaDoor

/- Walk: the laws' dice thrown (roll). -/
namespace Go.Proofs.YtmakhapdlkbbnaaDoor
open Go.RowKit

set_option maxRecDepth 100000 in
set_option maxHeartbeats 4000000 in
theorem roll_any (v : Value) (bs : List Int) (s : Int) (hl : bs.length ≤ 4096) (w : World) (ha : ArgB w v bs) :
    Calls Tryd.prog 12 #[v, .int .u64 s] w fun e w' => ∃ db : Nat, e = .returned (.pointer (some ⟨db, 0, none⟩)) ∧ Dice w w' db bs ∧ Below w.heap.size w w' := by
  obtain ⟨p, c, e, _⟩ := id ha
  subst e
  have HA := Lib.hid ha
  clear ha
  go_enter Tryd.func12, Tryd.ntmps12
  go_upto_region 1 with fail
  go_cut [5] (fun s5 wx => ∃ h : Int, s5 = .pointer (some ⟨w.heap.size, 0, none⟩) ∧ wx = w.alloc (.cells #[.slice p bs.length c, .int .i64 0, .int .u64 h] 73))
  case first =>
    go_wp2
    go_meet
    exact ⟨_, rfl, rfl⟩
  case rest =>
  obtain ⟨h, rfl, rfl⟩ := hcut
  go_wp2
  go_loopw [6] (fun i wr => ∃ (k : Nat) (z : Int), i = .int .i64 k ∧ k ≤ bs.length ∧ BoxD wr w.heap.size (.slice p bs.length c) (.int .i64 0) (.int .u64 z) ∧ Below w.heap.size w wr) (fun i _ => bs.length - (intOf i).toNat)
  case atStart => exact ⟨0, h, rfl, Nat.zero_le _, BoxD.new _ _ _ _, below_alloc _ _⟩
  case round =>
    obtain ⟨k, z, rfl, hk, hb, hbel⟩ := hrel
    have HB := Lib.hid hb
    have HBEL := Lib.hid hbel
    have c2 := hb.c2
    have f2 := hb.free 2
    clear hb hbel
    by_cases hlt : k < bs.length
    · obtain ⟨xb, xo, rfl, hcx, hx0, hx1⟩ := (HA.out.below HBEL.out).get hlt
      generalize bs[k] = x at hcx hx0 hx1
      go_upto_region 5 with fail
      go_region_with (fail)
      all_goals go_wp2
      all_goals go_roundw
      all_goals first
        | exact ⟨k + 1, _, by go_num, by omega, (HB.out.keep (below_dN (Below.refl _ _) _)).s2 _, (HBEL.out.trans ((below_dN (Below.refl wr.heap.size wr) _).mono HBEL.out.size)).setCell (p := ⟨w.heap.size, 2, none⟩) (Nat.le_refl _) _⟩
        | (simp [intOf]; omega)
    · obtain rfl : k = bs.length := by omega
      go_wp2
      go_ret
      exact ⟨_, rfl, ⟨⟨_, 0, z, HB.out, Nat.zero_le _, HA.out⟩, hl, Nat.le_refl _, HBEL.out⟩, HBEL.out⟩

end Go.Proofs.YtmakhapdlkbbnaaDoor
