/- Walk: a row of numbers narrowed (taken out of XOrdW, which lays it again under its own name). -/
import Derived.Test.YtkppbmfliejnmaaDoorSnQ10
import Derived.Test.YtkppbmfliejnmaaDoorSnQ43
import Derived.Test.YtkppbmfliejnmaaDoorSnQ12
import Derived.Test.YtkppbmfliejnmaaDoorSnQ26
import Derived.Test.YtkppbmfliejnmaaDoorSnQ8
import Derived.Test.YtkppbmfliejnmaaDoorSnQ22
import Derived.Test.YtkppbmfliejnmaaDoorSnQ30
import Derived.Test.YtkppbmfliejnmaaDoorSnQ37
import Derived.Test.YtkppbmfliejnmaaDoorSnQ16
namespace Go.Proofs.YtkppbmfliejnmaaDoor
open Go.RowKit

set_option maxRecDepth 100000 in
set_option maxHeartbeats 1000000 in
theorem narrowN_any (v : Value) (xs : List Int) (w : World) (hx : Nums w 2 .i64 v xs) :
    Calls Tryd.prog 117 #[v] w fun e w' => ∃ u, e = .returned u ∧
      w'.ownsRow w.heap.size 3 1 u xs.length (xs.map (Value.int .i64)) ∧ Below w.heap.size w w' := by
  obtain ⟨p, c, rfl, _, _, hn, hat⟩ := hx
  go_enter Tryd.func117, Tryd.ntmps117
  go_wp2_with (at_make; refine wpList_mk0 ty_int rfl rfl xs.length rfl rfl rfl hn ?_; intro w1 hown1 hg1)
  have hb1 := grown_below hg1
  clear hg1
  go_loopw [3, 5, 11] (fun u _ i wr => ∃ k : Nat, k ≤ xs.length ∧ i = .int .i64 k ∧ wr.ownsRow w.heap.size 3 1 u k ((xs.take k).map (Value.int .i64)) ∧ Below w.heap.size w wr)
    (fun _ _ i _ => xs.length - (intOf i).toNat)
  case atStart => exact ⟨0, Nat.zero_le _, rfl, by simpa using hown1, hb1⟩
  case round =>
    obtain ⟨k, hk, rfl, hown, hbel⟩ := hrel
    clear hown1 hb1
    by_cases hlt : k < xs.length
    · obtain ⟨b, o, rfl, hc⟩ := hat.num hlt
      have hcell := (hbel.cell (p := ⟨b, o + k, none⟩) (World.block_lt_of_cell? w _ hc)).trans hc
      have ht := Lib.hid (take_snoc xs k hlt)
      have hsz := hbel.size
      clear hc hat
      go_wp2_with (at_builtin; refine wpList_app1 ty_int rfl rfl rfl hown rfl rfl (by omega) hsz ?_; intro v' w1 hown' hg _)
      go_roundw
      case rel =>
        refine ⟨k + 1, by omega, by go_num, ?_, below_grown hbel hown hg (Nat.le_refl _) hsz⟩
        rw [ht.out, List.map_append]; exact hown'
      case measure => simp [intOf]; omega
    · obtain rfl : k = xs.length := by omega
      go_wp2
      go_ret
      rw [List.take_length] at hown
      exact ⟨_, rfl, hown, hbel⟩


end Go.Proofs.YtkppbmfliejnmaaDoor

/- Walks: the program's two graphs beside each other, joined, and a part of a graph. -/
namespace Go.Proofs.YtkppbmfliejnmaaDoor
open Go.RowKit

theorem mask_moved (n : Nat) (L : List Nat) : mask (natInts (L.map (n + ·))) = mask (natInts L) * 2 ^ n := by
  refine Nat.eq_of_testBit_eq fun j => ?_
  rw [mask_bit, Nat.testBit_mul_two_pow, mask_bit]
  by_cases hj : n ≤ j
  · have : j ∈ L.map (n + ·) ↔ j - n ∈ L := by
      rw [List.mem_map]
      constructor
      · rintro ⟨x, hx, rfl⟩
        rwa [show n + x - n = x by omega]
      · intro h
        exact ⟨j - n, h, by omega⟩
    simp [hj, this]
  · have : j ∉ L.map (n + ·) := by
      rw [List.mem_map]
      rintro ⟨x, _, rfl⟩
      omega
    simp [hj, this]
theorem netL_get {g : List (List Int)} (hg : GOk g) {j : Nat} (hj : j < g.length) : (netL g).getD j 0 = mask (natInts ((List.range g.length).filter (ofG g j))) := by
  rw [← indN_ofG hg, indN_get hj]
def shiftN (n : Nat) (l : List Nat) : List Nat := l.map fun s => s * 2 ^ n
theorem bes_nets {g h : List (List Int)} (hg : GOk g) (hh : GOk h) : netL g ++ shiftN g.length (netL h) = indN (g.length + h.length) (besE g.length (ofG g) (ofG h)) := by
  have l1 : (netL g).length = g.length := by simp [netL]
  have l2 : (netL h).length = h.length := by simp [netL]
  refine natList_ext (by rw [List.length_append, indN_length, l1]; simp [shiftN, l2]) fun j hj => ?_
  rw [List.length_append, l1] at hj
  have hj : j < g.length + h.length := by simpa [shiftN, l2] using hj
  rw [indN_get hj]
  by_cases hjg : j < g.length
  · have e1 : (netL g ++ shiftN g.length (netL h)).getD j 0 = (netL g).getD j 0 := by
      rw [List.getD_eq_getElem?_getD, List.getD_eq_getElem?_getD, List.getElem?_append_left (by omega)]
    rw [e1, netL_get hg hjg, filter_app_left fun x _ => by rw [bes_low hjg]; simp [show ¬ g.length + x < g.length by omega]]
    congr 2
    exact List.filter_congr fun x hx => by rw [bes_low hjg]; simp [List.mem_range.1 hx]
  · obtain ⟨k, rfl⟩ : ∃ k, j = g.length + k := ⟨j - g.length, by omega⟩
    have hk : k < h.length := by omega
    have e1 : (netL g ++ shiftN g.length (netL h)).getD (g.length + k) 0 = (netL h).getD k 0 * 2 ^ g.length := by
      rw [List.getD_eq_getElem?_getD, List.getElem?_append_right (by omega), l1, show g.length + k - g.length = k by omega]
      simp [shiftN, l2, hk, List.getD_eq_getElem?_getD]
    rw [e1, netL_get hh hk, filter_app_right fun x hx => by rw [bes_high]; simp; intro h3; omega, mask_moved]
    congr 3
    exact List.filter_congr fun x _ => by rw [bes_high, show g.length + x - g.length = x by omega]; simp
theorem shiftN_snoc (n : Nat) (l : List Nat) (s : Nat) : shiftN n (l ++ [s]) = shiftN n l ++ [s * 2 ^ n] := by simp [shiftN]



end Go.Proofs.YtkppbmfliejnmaaDoor

/- Walks: the program's part of a graph; two graphs joined. -/
namespace Go.Proofs.YtkppbmfliejnmaaDoor
open Go.RowKit

def joTo (n : Nat) (E F : Nat → Nat → Bool) (i k : Nat) : Nat → Nat → Bool := fun r j =>
  besE n E F r j || ((decide (r < n) != decide (j < n)) && (decide (min r j < i) || (decide (min r j = i) && decide (max r j < n + k))))
theorem joTo_start {n m : Nat} {E F : Nat → Nat → Bool} : indN m (joTo n E F 0 0) = indN m (besE n E F) := indN_congr fun r j _ _ => by
  unfold joTo
  by_cases h1 : r < n <;> by_cases h2 : j < n <;> simp [h1, h2] <;> omega
theorem joTo_row {n m : Nat} {E F : Nat → Nat → Bool} {i : Nat} : indN (n + m) (joTo n E F i m) = indN (n + m) (joTo n E F (i + 1) 0) := indN_congr fun r j hr hj => by
  unfold joTo
  congr 1
  by_cases h1 : r < n <;> by_cases h2 : j < n <;> simp [h1, h2]
  all_goals
    rw [Bool.eq_iff_iff]
    simp
    omega
theorem joTo_end {n m : Nat} {E F : Nat → Nat → Bool} : indN m (joTo n E F n 0) = indN m (joiE n E F) := indN_congr fun r j _ _ => by
  unfold joTo joiE
  congr 1
  by_cases h1 : r < n <;> by_cases h2 : j < n <;> simp [h1, h2] <;> omega
theorem joTo_step {n m : Nat} {E F : Nat → Nat → Bool} {i k : Nat} (hi : i < n) (hk : k < m) : joinL (indN (n + m) (joTo n E F i k)) i (n + k) = indN (n + m) (joTo n E F i (k + 1)) := by
  have h1 : joTo n E F i (k + 1) i (n + k) = true := by
    unfold joTo
    simp [hi, show min i (n + k) = i by omega, show max i (n + k) = n + k by omega]
  have h2 : joTo n E F i (k + 1) (n + k) i = true := by
    unfold joTo
    simp [hi, show min (n + k) i = i by omega, show max (n + k) i = n + k by omega]
  rw [← joinL_cut (show i < n + m by omega) (show n + k < n + m by omega) (by omega) h1 h2]
  congr 1
  refine indN_congr fun r j hr hj => ?_
  unfold cutE joTo
  by_cases hb : besE n E F r j = true
  · have hne : ¬ ((r = i ∧ j = n + k) ∨ (r = n + k ∧ j = i)) := by
      rintro (⟨rfl, rfl⟩ | ⟨rfl, rfl⟩)
      · rw [bes_low hi] at hb; simp at hb; omega
      · rw [bes_high] at hb; simp at hb; omega
    rw [hb, Bool.eq_iff_iff]
    simp
    omega
  · have hb' : besE n E F r j = false := by simpa using hb
    rw [hb', Bool.eq_iff_iff]
    by_cases h1 : r < n <;> by_cases h2 : j < n <;> simp [h1, h2] <;> omega

set_option maxRecDepth 100000 in
set_option maxHeartbeats 4000000 in
theorem implInduced_yes (v lv : Value) (g : List (List Int)) (ln : List Nat) (hok : GOk g) (hset : SetIn g.length (natInts ln)) (hne : ln ≠ []) (w : World) (hg : Gr w v g) (hn : Nums w 2 .i64 lv (natInts ln)) (hT : Tab w) :
    Calls Tryd.prog 39 #[v, lv] w fun e w' => ∃ u, e = .returned (.tuple #[u, .bool true]) ∧ DG w' w.heap.size u (indL g (natInts ln)) ∧ Below w.heap.size w w' := by
  have hg0 := hg
  obtain ⟨u, rfl, hr⟩ := hg
  obtain ⟨p, c, rfl, _⟩ := hr.shape
  obtain ⟨lp, lc, rfl, _⟩ := id hn.shape
  have hbA := Lib.hid (below_alloc2 w (.cells #[.slice p g.length c] 29) (.cells #[.slice none 0 0] 29))
  have BX := Lib.hid ((Box.new w (.slice p g.length c) 29).alloc (.cells #[.slice none 0 0] 29))
  have BN : Hid (Box ((w.alloc (.cells #[.slice p g.length c] 29)).alloc (.cells #[.slice none 0 0] 29)) (w.heap.size + 1) 29 (.slice none 0 0)) := by
    have := Box.new (w.alloc (.cells #[.slice p g.length c] 29)) (.slice none 0 0) 29
    rw [size_alloc] at this
    exact Lib.hid this
  have HG := Lib.hid (hg0.below hbA.out)
  have HN := Lib.hid (hn.below hbA.out)
  have HT := Lib.hid (hT.keep hbA.out)
  have h0 := hbA.out.size
  have h16 := hok.le
  have hll := setIn_length (by omega) hset
  rw [natInts_length] at hll
  have hd := Lib.hid (dec_true (show GOk g ∧ SetIn g.length (natInts ln) from ⟨hok, hset⟩))
  have HOK := Lib.hid hok
  have HLT : Hid (∀ v ∈ ln, v < g.length) := Lib.hid (fun v hv => by have := (hset.1 v (mem_natInts.2 ⟨v, hv, rfl⟩)).2; omega)
  have HLT2 : Hid (∀ v ∈ ln, v < (netL g).length) := Lib.hid (fun v hv => by rw [show (netL g).length = g.length by simp [netL]]; exact HLT.out v hv)
  have hNl : Hid ((netL g).length = g.length) := Lib.hid (by simp [netL])
  have hne' : (((natInts ln).length : Int) == 0) = false := by
    rw [natInts_length]
    have : 0 < ln.length := List.length_pos_iff.2 hne
    simp; omega
  rw [natInts_length] at hne'
  have hnl := natInts_length ln
  clear hr hg0 hn hT hok hset hne
  simp only [natInts_length] at *
  clear hnl
  go_enter Tryd.func39, Tryd.ntmps39
  go_wp2_with (first
    | (go_at_call 95; refine (implSetOk_any _ _ g (natInts ln) (by omega) _ HG.out HN.out).mono ?_; rintro e w2 ⟨he, hb2⟩; rw [hd.out] at he; subst he; have hbx := (BX.out.keep hb2).cell)
    | (go_at_call 89; refine (netsOf_any _ g _ (HG.out.below hb2) HOK.out).mono ?_; rintro e w3 ⟨x, rfl, hown3, hb3⟩; have HX3 : Hid (Sl w3 70 x (netL g).length ((netL g).map u32v)) := Lib.hid (by rw [hNl.out]; exact Sl.of_owns hown3 (by omega)); clear hown3)
    | (go_at_call 117; refine (narrowN_any _ (natInts ln) _ ((HN.out.below hb2).below hb3)).mono ?_; rintro e w4 ⟨nv, rfl, hown4, hb4⟩; have HN4 : Hid (Nums w4 3 .i64 nv (natInts ln)) := Lib.hid (Nums.of_owns hown4 rfl (by rw [natInts_length]; omega)); clear hown4)
    | (go_at_call 116; refine (induced_any _ _ (netL g) ln (by rw [hNl.out]; exact h16) (netL_lt HOK.out) HLT2.out (by omega) _ (HX3.out.below hb4) HN4.out).mono ?_; rintro e w5 ⟨u5, rfl, ho5, hb5⟩; have HX5 : Hid (Sl w5 70 u5 (indN ln.length (bitE (netL g) ln)).length ((indN ln.length (bitE (netL g) ln)).map u32v)) := Lib.hid (by rw [indN_length]; exact Sl.of_owns ho5 (by omega)); clear ho5)
    | (go_at_call 118; refine (graph_any _ (indN ln.length (bitE (netL g) ln)) (indN_lt16 (by omega)) (by rw [indN_length]; omega) _ HX5.out ((((HT.out.keep hb2).keep hb3).keep hb4).keep hb5)).mono ?_; rintro e w6 ⟨u6, rfl, hd6, hb6⟩; rw [rowsOf_indN (by omega), ← bitE_netL HOK.out HLT.out] at hd6; obtain ⟨p6, c6, rfl⟩ := hd6.shape; obtain ⟨mc, mf, ml, mB⟩ := ((((BN.out.keep hb2).keep hb3).keep hb4).keep hb5).keep hb6))
  have s2 := hb2.size
  rw [size_alloc, size_alloc] at s2
  have s3 := hb3.size
  have s4 := hb4.size
  have s5 := hb5.size
  refine bodyPost_ret (v := .tuple #[.agg #[.slice p6 (indL g (natInts ln)).length c6], .bool true]) (by simp [results, Tryd.results39, go_sem, mc]) rfl ⟨_, rfl, (hd6.setBox ⟨mc, mf, ml, mB⟩ _).base (by omega), ?_⟩
  exact (((((hbA.out.trans (hb2.mono h0)).trans (hb3.mono (by omega))).trans (hb4.mono (by omega))).trans (hb5.mono (by omega))).trans (hb6.mono (by omega))).setCell (by show w.heap.size ≤ w.heap.size + 1; omega) _


end Go.Proofs.YtkppbmfliejnmaaDoor

/- Walk: nothing induced. Plain: the inverse of an order, edges of the graph of some vertices. -/
namespace Go.Proofs.YtkppbmfliejnmaaDoor
open Go.RowKit

theorem Gr.dicedR {w0 w w' : World} {db : Nat} {bs : List Int} (h : Dice w0 w db bs) (hg : w.grownBy w' (some db)) {v : Value} {g : List (List Int)} (hs : Gr w v g) : Gr w' v g := by
  obtain ⟨u, rfl, vals, h1, h2, h3⟩ := hs
  exact ⟨u, rfl, vals, h1, Sl.diced h hg (by decide) h2, fun j hj => Sl.diced h hg (by decide) (h3 j hj)⟩

set_option maxRecDepth 100000 in
set_option maxHeartbeats 2000000 in
theorem implInduced_nil (v : Value) (g : List (List Int)) (p : Option Addr) (c : Nat) (hok : GOk g) (w : World) (hg : Gr w v g) (hn : Nums w 2 .i64 (.slice p 0 c) []) :
    Calls Tryd.prog 39 #[v, .slice p 0 c] w fun e w' => e = .returned (.tuple #[.agg #[.slice none 0 0], .bool false]) ∧ Below w.heap.size w w' := by
  have hg0 := hg
  obtain ⟨u, rfl, hr⟩ := hg
  obtain ⟨gp, gc, rfl, _⟩ := hr.shape
  obtain ⟨W0, hW0, hbA, SZ0, B0, B1⟩ := two_boxesC w (.slice gp g.length gc) (.slice none 0 0) 29 29
  have HBA := Lib.hid hbA
  have HG := Lib.hid (hg0.below hbA)
  have HN := Lib.hid (hn.below hbA)
  have HX0 := Lib.hid B0
  have HX1 := Lib.hid B1
  have HD := Lib.hid (dec_true (show GOk g ∧ SetIn g.length [] from ⟨hok, setIn_nil _⟩))
  have h16 := hok.le
  clear hr hg0 hbA B0 B1 SZ0 hok hn
  go_enter Tryd.func39, Tryd.ntmps39
  go_upto_region 1 with fail
  rw [← hW0]
  clear hW0
  have c0 := HX0.out.cell
  go_wp2_with (go_at_call 95; refine (implSetOk_any _ _ g [] (by omega) _ HG.out HN.out).mono ?_; rintro e w2 ⟨he, hb2⟩; rw [HD.out] at he; subst he; obtain ⟨nc, nf, nl, nB⟩ := HX1.out.keep hb2)
  refine bodyPost_ret (v := .tuple #[.agg #[.slice none 0 0], .bool false]) (by simp [results, Tryd.results39, go_sem, nc]) rfl ⟨rfl, ?_⟩
  exact (HBA.out.trans (hb2.mono HBA.out.size)).setCell (by show w.heap.size ≤ w.heap.size + 1; omega) _

/-! ### The inverse of an order -/
theorem nodup_len {o : List Nat} {n : Nat} (hl : o.length = n) (hn : o.Nodup) (hb : ∀ x ∈ o, x < n) {p : Nat} (hp : p < n) : p ∈ o := by
  refine Classical.byContradiction fun h => ?_
  have h1 : (p :: o).Nodup := List.nodup_cons.2 ⟨h, hn⟩
  have h2 : (p :: o).length ≤ n := by
    have := nodup_le n (p :: o) h1 fun x hx => by
      rcases List.mem_cons.1 hx with rfl | hx
      · exact hp
      · exact hb x hx
    exact this
  rw [List.length_cons] at h2
  omega
structure BackOf (n : Nat) (o b : List Nat) : Prop where
  ol : o.length = n
  ond : o.Nodup
  oin : ∀ x ∈ o, x < n
  bl : b.length = n
  bin : ∀ x ∈ b, x < n
  inv : ∀ i (h : i < b.length), o.getD b[i] 0 = i
theorem BackOf.of {n : Nat} {o b : List Nat} (hl : o.length = n) (hn : o.Nodup) (hb : ∀ x ∈ o, x < n) (hbl : b.length = n) (h : ∀ j, j < n → b.getD (o.getD j 0) 0 = j) : BackOf n o b := by
  have key : ∀ p (hp : p < b.length), ∃ j, j < n ∧ o.getD j 0 = p ∧ b[p] = j := fun p hp => by
    obtain ⟨j, hj, e⟩ := List.getElem_of_mem (nodup_len hl hn hb (p := p) (by omega))
    have e2 : o.getD j 0 = p := by rw [List.getD_eq_getElem?_getD, List.getElem?_eq_getElem hj]; exact e
    have h3 := h j (by omega)
    rw [e2, List.getD_eq_getElem?_getD, List.getElem?_eq_getElem hp] at h3
    exact ⟨j, by omega, e2, h3⟩
  refine ⟨hl, hn, hb, hbl, fun x hx => ?_, fun i hi => ?_⟩
  · obtain ⟨p, hp, rfl⟩ := List.getElem_of_mem hx
    obtain ⟨j, h1, _, h3⟩ := key p hp
    omega
  · obtain ⟨j, h1, h2, h3⟩ := key i hi
    rw [h3, h2]
theorem ordOk_nat {n : Nat} {o : List Nat} (hl : o.length = n) (hn : o.Nodup) (hb : ∀ x ∈ o, x < n) : OrdOk n (natInts o) := by
  refine ⟨by rw [natInts_length]; exact hl, fun x hx => ?_, ?_⟩
  · obtain ⟨i, hi, rfl⟩ := mem_natInts.1 hx
    have := hb i hi
    omega
  · exact List.Pairwise.map _ (fun a b h e => h (by omega)) hn
theorem BackOf.ord {n : Nat} {o b : List Nat} (h : BackOf n o b) : OrdOk n (natInts o) := ordOk_nat h.ol h.ond h.oin
theorem BackOf.bord {n : Nat} {o b : List Nat} (h : BackOf n o b) : OrdOk n (natInts b) := by
  refine ordOk_nat h.bl ?_ h.bin
  rw [List.Nodup, List.pairwise_iff_getElem]
  intro i j hi hj hij e
  have h1 := h.inv i hi
  have h2 := h.inv j hj
  rw [e] at h1
  omega
/-- An edge of the graph of some vertices. -/
theorem edg_ind {g : List (List Int)} (hg : GOk g) {S : List Nat} (hS : ∀ x ∈ S, x < g.length) (hs16 : S.length ≤ 16) {i k : Nat} (hi : i < S.length) (hk : k < S.length) : EdgP (indL g (natInts S)) (i : Int) (k : Int) ↔ EdgP g ((S[i] : Nat) : Int) ((S[k] : Nat) : Int) := by
  have hok := indL_gok hg hS (by omega) hs16
  have e : (indL g (natInts S)).length = S.length := by unfold indL; rw [matG_length, natInts_length]
  have h1 := hS _ (List.getElem_mem hi)
  have h2 := hS _ (List.getElem_mem hk)
  have h3 := ofG_ind (g := g) hi hk
  unfold ofG at h3
  unfold EdgP
  rw [Int.toNat_natCast, Int.toNat_natCast, e]
  rw [decide_eq_decide] at h3
  rw [h3]
  constructor
  · rintro ⟨_, _, h⟩
    exact ⟨hg, ⟨by omega, by omega⟩, h⟩
  · rintro ⟨_, _, h⟩
    exact ⟨hok, ⟨by omega, by omega⟩, h⟩

end Go.Proofs.YtkppbmfliejnmaaDoor
