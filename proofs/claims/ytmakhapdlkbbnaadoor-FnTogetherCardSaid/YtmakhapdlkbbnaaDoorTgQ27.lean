/- Walks: the program's two graphs beside each other, joined, and a part of a graph. -/
import Derived.Test.YtmakhapdlkbbnaaDoorTgQ24
import Derived.Test.YtmakhapdlkbbnaaDoorTgQ20
import Derived.Test.YtmakhapdlkbbnaaDoorTgQ25
import Derived.Test.YtmakhapdlkbbnaaDoorTgQ26
namespace Go.Proofs.YtmakhapdlkbbnaaDoor
open Go.RowKit

theorem mask_moved (n : Nat) (L : List Nat) : mask (natInts (L.map (n + ·))) = mask (natInts L) * 2 ^ n := by
  refine Nat.eq_of_testBit_eq fun j => ?_
  rw [mask_bit, Nat.testBit_mul_two_pow, mask_bit]
  by_cases hj : n ≤ j
  · have : j ∈ L.map (n + ·) ↔ j - n ∈ L := by
      rw [List.mem_map]
      constructor
      · rintro ⟨x, hx, rfl⟩
        rwa [show n + x - n = x by omega]
      · intro h
        exact ⟨j - n, h, by omega⟩
    simp [hj, this]
  · have : j ∉ L.map (n + ·) := by
      rw [List.mem_map]
      rintro ⟨x, _, rfl⟩
      omega
    simp [hj, this]
theorem netL_get {g : List (List Int)} (hg : GOk g) {j : Nat} (hj : j < g.length) : (netL g).getD j 0 = mask (natInts ((List.range g.length).filter (ofG g j))) := by
  rw [← indN_ofG hg, indN_get hj]
def shiftN (n : Nat) (l : List Nat) : List Nat := l.map fun s => s * 2 ^ n
theorem bes_nets {g h : List (List Int)} (hg : GOk g) (hh : GOk h) : netL g ++ shiftN g.length (netL h) = indN (g.length + h.length) (besE g.length (ofG g) (ofG h)) := by
  have l1 : (netL g).length = g.length := by simp [netL]
  have l2 : (netL h).length = h.length := by simp [netL]
  refine natList_ext (by rw [List.length_append, indN_length, l1]; simp [shiftN, l2]) fun j hj => ?_
  rw [List.length_append, l1] at hj
  have hj : j < g.length + h.length := by simpa [shiftN, l2] using hj
  rw [indN_get hj]
  by_cases hjg : j < g.length
  · have e1 : (netL g ++ shiftN g.length (netL h)).getD j 0 = (netL g).getD j 0 := by
      rw [List.getD_eq_getElem?_getD, List.getD_eq_getElem?_getD, List.getElem?_append_left (by omega)]
    rw [e1, netL_get hg hjg, filter_app_left fun x _ => by rw [bes_low hjg]; simp [show ¬ g.length + x < g.length by omega]]
    congr 2
    exact List.filter_congr fun x hx => by rw [bes_low hjg]; simp [List.mem_range.1 hx]
  · obtain ⟨k, rfl⟩ : ∃ k, j = g.length + k := ⟨j - g.length, by omega⟩
    have hk : k < h.length := by omega
    have e1 : (netL g ++ shiftN g.length (netL h)).getD (g.length + k) 0 = (netL h).getD k 0 * 2 ^ g.length := by
      rw [List.getD_eq_getElem?_getD, List.getElem?_append_right (by omega), l1, show g.length + k - g.length = k by omega]
      simp [shiftN, l2, hk, List.getD_eq_getElem?_getD]
    rw [e1, netL_get hh hk, filter_app_right fun x hx => by rw [bes_high]; simp; intro h3; omega, mask_moved]
    congr 3
    exact List.filter_congr fun x _ => by rw [bes_high, show g.length + x - g.length = x by omega]; simp
theorem shiftN_snoc (n : Nat) (l : List Nat) (s : Nat) : shiftN n (l ++ [s]) = shiftN n l ++ [s * 2 ^ n] := by simp [shiftN]

set_option maxRecDepth 100000 in
set_option maxHeartbeats 1000000 in
theorem cloneNets_any (v : Value) (n : Nat) (vals : List Value) (hn0 : 0 < n) (h1 : ∀ x ∈ vals, x.oneCell' = true) (hl : vals.length = n) (w : World) (hx : Sl w 79 v n vals) :
    Calls Tryd.prog 81 #[v] w fun e w' => ∃ u, e = .returned u ∧ w'.ownsRow w.heap.size 79 1 u n vals ∧ Below w.heap.size w w' := by
  have hn := hx
  obtain ⟨p, c, rfl, hp, _, hn, _⟩ := hn
  cases p with
  | none =>
    have := (hp rfl).1
    omega
  | some ad =>
    have hx' := hx.below (below_alloc w (.cells #[] 79))
    have ho := ownsRow_empty w 79 1
    have hb := below_alloc w (.cells #[] 79)
    have hsz : w.heap.size ≤ (w.alloc (.cells #[] 79)).heap.size := hb.size
    have Hl := Lib.hid hl
    clear hl
    have hnl : ∀ w, Sem.run Tryd.prog (binOp BinOp.eql 76 (.slice (some ad) n c) (.slice none 0 0)) w = .ok (.bool false) w := fun w => rfl
    go_enter Tryd.func81, Tryd.ntmps81
    go_wp2_with (at_builtin; refine wpList_app ty_nets rfl rfl rfl ho rfl hx' (by have := Hl.out; omega) h1 (by omega) hsz ?_; intro v' w1 hown' hg _)
    go_ret
    exact ⟨_, rfl, by simpa using hown', below_grown hb ho hg (Nat.le_refl _) hsz⟩

set_option maxRecDepth 100000 in
set_option maxHeartbeats 4000000 in
theorem implBeside_yes (v z : Value) (g h : List (List Int)) (hok : GOk g) (hoh : GOk h) (hle : g.length + h.length ≤ 16) (w : World) (hg : Gr w v g) (hh : Gr w z h) (hT : Tab w) :
    Calls Tryd.prog 14 #[v, z] w fun e w' => ∃ u, e = .returned (.tuple #[u, .bool true]) ∧ DG w' w.heap.size u (matG (g.length + h.length) (besE g.length (ofG g) (ofG h))) ∧ Below w.heap.size w w' := by
  have hg0 := hg
  have hh0 := hh
  obtain ⟨u, rfl, hr⟩ := hg
  obtain ⟨gp, gc, rfl, _⟩ := hr.shape
  obtain ⟨u', rfl, hr'⟩ := hh
  obtain ⟨hp, hc, rfl, _⟩ := hr'.shape
  obtain ⟨W0, hW0⟩ : ∃ W0, W0 = ((w.alloc (.cells #[.slice gp g.length gc] 29)).alloc (.cells #[.slice hp h.length hc] 29)).alloc (.cells #[.slice none 0 0] 29) := ⟨_, rfl⟩
  have hb0 : Below w.heap.size w W0 := by rw [hW0]; exact below_alloc3 _ _ _ _
  have hbg : Box W0 w.heap.size 29 (.slice gp g.length gc) := by rw [hW0]; exact ((Box.new _ _ _).alloc _).alloc _
  have hbh : Box W0 (w.heap.size + 1) 29 (.slice hp h.length hc) := by
    have := Box.new (w.alloc (.cells #[.slice gp g.length gc] 29)) (.slice hp h.length hc) 29
    rw [size_alloc] at this
    rw [hW0]; exact this.alloc _
  have hbn : Box W0 (w.heap.size + 1 + 1) 29 (.slice none 0 0) := by
    have := Box.new ((w.alloc (.cells #[.slice gp g.length gc] 29)).alloc (.cells #[.slice hp h.length hc] 29)) (.slice none 0 0) 29
    rw [size_alloc, size_alloc] at this
    rw [hW0]; exact this
  have HB0 := Lib.hid hb0
  have HBG := Lib.hid hbg
  have HBH := Lib.hid hbh
  have HBN := Lib.hid hbn
  have HG := Lib.hid (hg0.below hb0)
  have HH := Lib.hid (hh0.below hb0)
  have HT := Lib.hid (hT.keep hb0)
  have sz0 : W0.heap.size = w.heap.size + 3 := by rw [hW0, size_alloc, size_alloc, size_alloc]
  have HOK := Lib.hid hok
  have HOH := Lib.hid hoh
  have hd := Lib.hid (dec_true hok)
  have hd' := Lib.hid (dec_true hoh)
  have h1 := hok.le
  have h2 := hoh.le
  have hpos := hok.pos
  have hwr : IntKind.i64.wrap ((g.length : Int) + (h.length : Int)) = (g.length : Int) + (h.length : Int) := by rw [IntKind.wrap_i64]; omega
  have hle' : (g.length : Int) + (h.length : Int) ≤ 16 := by omega
  have cg0 := hbg.cell
  have ch0 := hbh.cell
  clear hr hr' hg0 hh0 hb0 hbg hbh hbn hok hoh hT
  go_enter Tryd.func14, Tryd.ntmps14
  go_upto_region 1 with fail
  rw [← hW0]
  clear hW0
  go_wp2_with (first
    | (go_at_call 82; refine (netsOf_any _ h _ ((((HH.out.below hb2).below hb3).below hb4).below hb5) HOH.out).mono ?_; rintro e w6 ⟨y, rfl, hown6, hb6⟩; obtain ⟨yp, yc, rfl⟩ := owns_shape hown6)
    | (go_at_call 81; refine (cloneNets_any _ g.length ((netL g).map u32v) hpos (fun x hx => by obtain ⟨s, _, rfl⟩ := List.mem_map.1 hx; rfl) (by simp [netL]) _ (Sl.of_owns hown4 (by omega))).mono ?_; rintro e w5 ⟨y5, rfl, hown5, hb5⟩; have hcb5 := hb5.at' (hb4.at' (hb3.at' (hb2.at' ch0))))
    | (go_at_call 82; refine (netsOf_any _ g _ ((HG.out.below hb2).below hb3) HOK.out).mono ?_; rintro e w4 ⟨x, rfl, hown4, hb4⟩)
    | (go_at_call 80; refine (implGraphOk_any _ h _ (HH.out.below hb2)).mono ?_; rintro e w3 ⟨he, hb3⟩; rw [hd'.out] at he; subst he; have cg3 := hb3.at' (hb2.at' cg0); have ch3 := hb3.at' (hb2.at' ch0))
    | (go_at_call 80; refine (implGraphOk_any _ g _ HG.out).mono ?_; rintro e w2 ⟨he, hb2⟩; rw [hd.out] at he; subst he; have ch2 := hb2.at' ch0))
  have HB4 := Lib.hid ((hb2.trans (hb3.mono hb2.size)).trans (hb4.mono (Nat.le_trans hb2.size hb3.size)))
  have HT4 := Lib.hid (HT.out.keep HB4.out)
  have HBW := Lib.hid (HB0.out.trans (HB4.out.mono HB0.out.size))
  have HBN4 := Lib.hid (HBN.out.keep HB4.out)
  have s4 := HB4.out.size
  have s5 := hb5.size
  have s6 := hb6.size
  have START : Hid (w6.ownsRow w4.heap.size 79 1 y5 (g.length + 0) ((netL g ++ shiftN g.length ((netL h).take 0)).map u32v)) := Lib.hid (by simpa [shiftN] using ownsRow_below hown5 hb6)
  have START2 := Lib.hid hown6
  have HYB : Hid (∀ b, (Value.slice yp h.length yc).ownBlock = some b → b < w6.heap.size) := Lib.hid (fun b hb => (hown6.lt b hb).2)
  have START3 : Hid (∀ b, y5.ownBlock = some b → b < w5.heap.size ∨ w6.heap.size ≤ b) := Lib.hid (fun b hb => .inl (hown5.lt b hb).2)
  have START4 := Lib.hid (hb5.trans (hb6.mono hb5.size))
  have Hl2 : Hid ((netL h).length = h.length) := Lib.hid (by simp [netL])
  have HLT := Lib.hid (netL_lt HOH.out)
  clear hb2 hb3 hb4 hb5 hb6 hown4 hown5 hown6 ch0 cg0 ch2 cg3 ch3 hcb5 HBG HBH hwr HB0 HG HH HT HBN
  go_loopw [7, 9, 36] (fun o _ i wr => ∃ k : Nat, k ≤ h.length ∧ i = .int .i64 k ∧ Hid (wr.ownsRow w4.heap.size 79 1 o (g.length + k) ((netL g ++ shiftN g.length ((netL h).take k)).map u32v)) ∧ Hid (wr.ownsRow w5.heap.size 79 1 (.slice yp h.length yc) h.length ((netL h).map u32v)) ∧ Hid (∀ b, o.ownBlock = some b → b < w5.heap.size ∨ w6.heap.size ≤ b) ∧ Hid (Below w4.heap.size w4 wr) ∧ w6.heap.size ≤ wr.heap.size) (fun _ _ i _ => h.length - (intOf i).toNat)
  case atStart => exact ⟨0, Nat.zero_le _, rfl, START, START2, START3, START4, Nat.le_refl _⟩
  case round =>
    clear START START2 START3 START4
    obtain ⟨k, hk, rfl, HO, HY, HF, HB, hsz⟩ := hrel
    by_cases hlt : k < h.length
    · have hsy := Sl.of_owns HY.out (by omega)
      obtain ⟨nb, no, hyp, hnc⟩ := nets_cell (a := netL h) (by rw [Hl2.out]; exact hsy) (v := k) (by rw [Hl2.out]; exact hlt)
      have hn16 := HLT.out _ (List.getElem_mem (l := netL h) (by rw [Hl2.out]; exact hlt))
      have htk := Lib.hid (take_snoc (netL h) k (by rw [Hl2.out]; exact hlt))
      have hs16 : (netL h)[k]'(by rw [Hl2.out]; exact hlt) * 2 ^ g.length < 65536 := by
        refine indN_lt16 (m := g.length + h.length) (E := besE g.length (ofG g) (ofG h)) (by omega) _ ?_
        rw [← bes_nets HOK.out HOH.out]
        exact List.mem_append_right _ (List.mem_map.2 ⟨_, List.getElem_mem _, rfl⟩)
      generalize (netL h)[k]'(by rw [Hl2.out]; exact hlt) = s at hnc hn16 htk hs16
      have HMOD : Hid (((s : Int) * 2 ^ g.length % 4294967296) = ((s * 2 ^ g.length : Nat) : Int)) := Lib.hid (by
        have e : ((s : Int) * 2 ^ g.length) = ((s * 2 ^ g.length : Nat) : Int) := by rw [Int.natCast_mul, Int.natCast_pow]; rfl
        rw [e]
        generalize s * 2 ^ g.length = q at hs16
        omega)
      subst hyp
      have hown := HO.out
      clear hsy hs16
      go_wp2_with (at_builtin; refine wpList_app1 ty_nets rfl rfl rfl hown rfl rfl (by omega) (by omega) ?_; intro v' w7 hown7 hg7 hfr7)
      go_roundw
      case rel =>
        refine ⟨k + 1, by omega, by go_num, Lib.hid ?_, Lib.hid (HY.out.kept hg7 ?_), Lib.hid (fun b hb => ?_), Lib.hid (below_grown HB.out hown hg7 (Nat.le_refl _) (by omega)), Nat.le_trans hsz hg7.size⟩
        · rw [htk.out, shiftN_snoc, ← List.append_assoc, List.map_append, ← Nat.add_assoc]
          rw [HMOD.out] at hown7
          exact hown7
        · cases hob : (Value.slice (some ⟨nb, no, none⟩) h.length yc).ownBlock with
          | none => exact .inl rfl
          | some kk =>
            refine .inr fun e2 => ?_
            have h1 := HY.out.lt kk hob
            have h2 := HYB.out kk hob
            rcases HF.out kk e2.symm with h3 | h3
            · omega
            · omega
        · rcases hfr7 b hb with h3 | h3
          · exact HF.out b h3
          · exact .inr (by omega)
      case measure => simp [intOf]; omega
    · obtain rfl : k = h.length := by omega
      have htl : (netL h).take h.length = netL h := by rw [← Hl2.out, List.take_length]
      have HO2 : Hid (Sl wr 79 _ (indN (g.length + h.length) (besE g.length (ofG g) (ofG h))).length ((indN (g.length + h.length) (besE g.length (ofG g) (ofG h))).map u32v)) := Lib.hid (by
        have := HO.out
        rw [htl, bes_nets HOK.out HOH.out] at this
        rw [indN_length]
        exact Sl.of_owns this (by omega))
      have HT5 := Lib.hid (HT4.out.keep HB.out)
      have HBN5 := Lib.hid (HBN4.out.keep HB.out)
      go_wp2_with (go_at_call 83; refine (graph_any _ (indN (g.length + h.length) (besE g.length (ofG g) (ofG h))) (indN_lt16 (by omega)) (by rw [indN_length]; omega) _ HO2.out HT5.out).mono ?_; rintro e w8 ⟨u8, rfl, hd8, hb8⟩; rw [rowsOf_indN (by omega)] at hd8; obtain ⟨p8, c8, rfl⟩ := hd8.shape; obtain ⟨mc, mf, ml, mB⟩ := HBN5.out.keep hb8)
      refine bodyPost_ret (v := .tuple #[.agg #[.slice p8 (matG (g.length + h.length) (besE g.length (ofG g) (ofG h))).length c8], .bool true]) (by simp [results, Tryd.results14, go_sem, mc]) rfl ⟨_, rfl, ?_, ?_⟩
      · exact (hd8.setBox ⟨mc, mf, ml, mB⟩ _).base (by omega)
      · exact (HBW.out.trans ((HB.out.trans (hb8.mono (by omega))).mono (by omega))).setCell (by show w.heap.size ≤ w.heap.size + 1 + 1; omega) _

end Go.Proofs.YtmakhapdlkbbnaaDoor
