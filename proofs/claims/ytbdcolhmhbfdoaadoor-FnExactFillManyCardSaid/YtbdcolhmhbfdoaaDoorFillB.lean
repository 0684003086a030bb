/- Walks: the neighbours of a vertex that are left; all of a list linked. -/
import Derived.Test.YtbdcolhmhbfdoaaDoorFillA
namespace Go.Proofs.YtbdcolhmhbfdoaaDoor
open Go.RowKit

structure CQ (w wr : World) (base : Nat) (p : Option Addr) (c m : Nat) (lv : Value) (L : List Nat) (gg : List (List Int)) : Prop where
  sg : SG wr base (.agg #[.slice p m c]) gg
  box : Box wr w.heap.size 27 (.slice p m c)
  res : Box wr (w.heap.size + 1) 27 (.slice none 0 0)
  grown : w.grownBy wr (Value.slice p m c).ownBlock
  list : Nums wr 2 .i64 lv (natInts L)
  own : ∀ k, (Value.slice p m c).ownBlock = some k → k < w.heap.size

theorem SG.other {w w' : World} {base : Nat} {u v : Value} {g : List (List Int)} {xs : List Int} (h : SG w base (.agg #[u]) g) (hn : Nums w 2 .i64 v xs) (hg : w.grownBy w' u.ownBlock) : Nums w' 2 .i64 v xs := by
  obtain ⟨u0, vals, h1, h2, h3, h4⟩ := h
  cases h1
  exact hn.other h3 hg (by decide)

theorem CQ.link {w wr w2 : World} {base : Nat} {p : Option Addr} {c m : Nat} {lv : Value} {L : List Nat} {gg gg' : List (List Int)} (h : CQ w wr base p c m lv L gg)
    (hs : SG w2 base (.agg #[.slice p m c]) gg') (hg : wr.grownBy w2 (Value.slice p m c).ownBlock) : CQ w (w2.setCell ⟨w.heap.size, 0, none⟩ (.slice p m c)) base p c m lv L gg' := by
  have hbox := h.box.grown hg (fun e => by have := h.own _ e.symm; omega)
  have hres := h.res.grown hg (fun e => by have := h.own _ e.symm; omega)
  have hgr := grown_trans h.grown hg
  refine ⟨hs.setBox hbox _, hbox.set _, hres.setOther (by show w.heap.size + 1 ≠ w.heap.size; omega) _, ⟨hgr.os, hgr.tape, hgr.output, by have := hgr.size; simpa [World.setCell] using this, fun b hb hne => ?_⟩, (h.sg.other h.list hg).setBox hbox (by decide) _, h.own⟩
  rw [Below.heap_setCell _ _ _ _ (by show b ≠ w.heap.size; omega)]
  exact hgr.block b hb hne

theorem natInts_get {L : List Nat} {i : Nat} (h : i < L.length) : (natInts L)[i]'(by rw [natInts_length]; exact h) = ((L[i] : Nat) : Int) := by simp [natInts]

set_option maxRecDepth 100000 in
set_option maxHeartbeats 4000000 in
theorem l7Clique_any (p : Option Addr) (c m base : Nat) (lv : Value) (L : List Nat) (E : Nat → Nat → Bool) (hm : m ≤ 1000) (hs : L.Pairwise (· < ·)) (hL : ∀ x ∈ L, x < m) (w : World)
    (hsg : SG w base (.agg #[.slice p m c]) (matG m E)) (hn : Nums w 2 .i64 lv (natInts L)) :
    Calls Tryd.prog 78 #[.agg #[.slice p m c], lv] w fun e w' => e = .returned (.agg #[.slice p m c]) ∧ SG w' base (.agg #[.slice p m c]) (matG m (cliqE E L L.length 0)) ∧ w.grownBy w' (Value.slice p m c).ownBlock := by
  obtain ⟨lp, lc, rfl, _⟩ := id hn.shape
  have hll := natInts_length L
  have hL9 : L.length ≤ 1000000000 := by
    obtain ⟨_, _, _, _, _, h9, _⟩ := id hn.shape
    rw [hll] at h9; exact h9
  rw [hll]
  have hbb := below_alloc2 w (.cells #[.slice p m c] 27) (.cells #[.slice none 0 0] 27)
  have START : Hid (CQ w ((w.alloc (.cells #[.slice p m c] 27)).alloc (.cells #[.slice none 0 0] 27)) base p c m (.slice lp (natInts L).length lc) L (matG m (cliqE E L 0 0))) := Lib.hid
    ⟨by rw [cliq_start]; exact hsg.below hbb, (Box.new _ _ _).alloc _, by have := Box.new (w.alloc (.cells #[.slice p m c] 27)) (.slice none 0 0) 27; rw [size_alloc] at this; exact this, grown_of_below hbb _, hn.below hbb, fun k hk => (hsg.lt k hk).2⟩
  rw [hll] at START
  have HLL := Lib.hid hll
  clear hsg hn hbb hll
  go_enter Tryd.func78, Tryd.ntmps78
  go_upto_region 2 with fail
  go_loopw [5] (fun i wr => ∃ k : Nat, k ≤ L.length ∧ i = .int .i64 k ∧ CQ w wr base p c m (.slice lp L.length lc) L (matG m (cliqE E L k 0))) (fun i _ => L.length - (intOf i).toNat)
  case atStart => exact ⟨0, Nat.zero_le _, rfl, START.out⟩
  case round =>
    obtain ⟨i, hi, rfl, hC⟩ := hrel
    have HC := Lib.hid hC
    clear hC
    by_cases hlt : i < L.length
    · go_wp2_with fail
      go_loopw [6] (fun i' wr => ∃ k : Nat, k ≤ i ∧ i' = .int .i64 k ∧ CQ w wr base p c m (.slice lp L.length lc) L (matG m (cliqE E L i k))) (fun i' _ => i - (intOf i').toNat)
      case atStart => exact ⟨0, Nat.zero_le _, rfl, HC.out⟩
      case round =>
        clear HC
        obtain ⟨k, hk, rfl, hC⟩ := hrel
        have HC := Lib.hid hC
        clear hC
        by_cases hlt2 : k < i
        · have hkl : k < L.length := by omega
          have hn' := HC.out.list
          rw [← HLL.out] at hn'
          obtain ⟨b, o, rfl, hci⟩ := hn'.get (k := i) (by rw [HLL.out]; exact hlt)
          obtain ⟨_, _, hbo, hck⟩ := hn'.get (k := k) (by rw [HLL.out]; exact hkl)
          cases hbo
          rw [natInts_get hlt] at hci
          rw [natInts_get hkl] at hck
          have hlk : ∀ wz, wz = wr.drew → Calls Tryd.prog 67 #[.agg #[.slice p m c], .int .i64 (L[k] : Nat), .int .i64 (L[i] : Nat)] wz fun e w' => e = .returned (.agg #[.slice p m c]) ∧ SG w' base (.agg #[.slice p m c]) (matG m (cliqE E L i (k + 1))) ∧ wz.grownBy w' (Value.slice p m c).ownBlock := by
            rintro wz rfl
            have hml := matG_length m (cliqE E L i k)
            have := l1Link_any p c (matG m (cliqE E L i k)) L[k] L[i] L[k] L[i] base rfl rfl (by rw [hml]; exact hL _ (List.getElem_mem _)) (by rw [hml]; exact hL _ (List.getElem_mem _)) (fun j _ => Nat.le_trans (matG_row_le j) hm) wr.drew (by rw [hml]; exact HC.out.sg.below (below_dN (Below.refl _ _) 1))
            rw [hml, cliq_step hs hL hlt hlt2] at this
            exact this
          have Hlk := Lib.hid hlk
          have hb5 := HC.out.box.cell
          have hf5 := HC.out.box.free
          have e0 : (0 : Int) ≤ (k : Int) := by omega
          have e1 : (k : Int) < (L.length : Int) := by omega
          have e2 : (i : Int) < (L.length : Int) := by omega
          clear hn' hlk
          go_upto_region 7 with fail
          go_region_law (first | (go_simp; go_at_call 67; refine (Hlk.out _ rfl).mono ?_; rintro e w6 ⟨rfl, hs6, hg6⟩; have hg6' : wr.grownBy w6 (Value.slice p m c).ownBlock := ⟨hg6.os, (hg6.tape).trans rfl, hg6.output, hg6.size, hg6.block⟩; have hbx := HC.out.box.grown hg6' (fun e => by have := HC.out.own _ e.symm; omega); have hc6 := hbx.cell; have hf6 := hbx.free))
          all_goals go_wp2
          all_goals go_roundw
          all_goals first
            | exact ⟨k + 1, by omega, by go_num, HC.out.link hs6 hg6'⟩
            | (simp [intOf]; omega)
        · obtain rfl : k = i := by omega
          go_wp2
          go_roundw
          case rel => exact ⟨k + 1, by omega, by go_num, by rw [← cliq_row hs hlt]; exact HC.out⟩
          case measure => simp [intOf]; omega
    · obtain rfl : i = L.length := by omega
      have hb5 := HC.out.box.cell
      obtain ⟨nc, nf, _, _⟩ := HC.out.res
      go_wp2
      refine bodyPost_ret (v := .agg #[.slice p m c]) (by simp [results, Tryd.results78, go_sem, nc]) rfl ⟨rfl, HC.out.sg.setBox HC.out.res _, ?_⟩
      have hgr := HC.out.grown
      refine ⟨hgr.os, hgr.tape, hgr.output, by have := hgr.size; simpa [World.setCell] using this, fun b hb hne => ?_⟩
      rw [Below.heap_setCell _ _ _ _ (by show b ≠ w.heap.size + 1; omega)]
      exact hgr.block b hb hne

end Go.Proofs.YtbdcolhmhbfdoaaDoor
