/- Walk: masks as rows of numbers. -/
import Derived.Test.YtiklocamfgopbaaDoorFoQ26
import Derived.Test.YtiklocamfgopbaaDoorFoQ41
namespace Go.Proofs.YtiklocamfgopbaaDoor
open Go.RowKit

theorem ty_rows64 : SlTy Tryd.prog 22 37 (.slice none 0 0) 1 24 := ⟨Tryd.underlying22, by kernel_rfl, rfl, by decide, by decide⟩

set_option maxRecDepth 100000 in
set_option maxHeartbeats 4000000 in
theorem results_any (x : Value) (a : List Nat) (ha : ∀ s ∈ a, s < 4294967296) (hal : a.length ≤ 100000) (w : World) (hx : Sl w 56 x a.length (a.map u32v)) (hT : Tab w) :
    Calls Tryd.prog 37 #[x] w fun e w' => ∃ u, e = .returned u ∧ DG w' w.heap.size (.agg #[u]) (rowsOf a) ∧ Below w.heap.size w w' := by
  obtain ⟨p, c, rfl, _⟩ := id hx
  have HX := Lib.hid hx
  have HT := Lib.hid hT
  clear hx hT
  go_enter Tryd.func37, Tryd.ntmps37
  go_wp2
  go_loopw [3, 9] (fun ov i wr => ∃ (k : Nat) (vals : List Value), k ≤ a.length ∧ i = .int .i64 k ∧ Below w.heap.size w wr ∧ wr.ownsRow w.heap.size 37 1 ov k vals ∧ vals.length = k ∧ Dis wr w.heap.size k vals (rowsOf a))
    (fun _ i _ => a.length - (intOf i).toNat)
  case atStart => exact ⟨0, [], Nat.zero_le _, rfl, below_alloc _ _, ownsRow_empty _ _ _, rfl, ⟨fun j hj => by omega, fun i j hi => by omega⟩⟩
  case round =>
    obtain ⟨k, vals, hk, rfl, hbel, hown, hvl, hrows⟩ := hrel
    have Hvl := Lib.hid hvl
    have Hrows := Lib.hid hrows
    have Hown := Lib.hid hown
    clear hvl hrows
    have hsz := hbel.size
    by_cases hlt : k < a.length
    · obtain ⟨ab, ao, rfl, hca⟩ := nets_cell (HX.out.below hbel) hlt
      have hs16 := ha _ (List.getElem_mem hlt)
      have HTr := Lib.hid (HT.out.keep hbel)
      have Hrow := Lib.hid (row_rowsOf hlt)
      clear hown
      go_wp2_with (first
        | (go_at_call 66; refine (numbers_any _ a[k] rfl hs16 _ HTr.out).mono ?_; rintro e w5 ⟨rv, rfl, hown5, hb5⟩; obtain ⟨rvp, rvc, hrv⟩ : ∃ p c, rv = .slice p (bitsOf a[k]).length c := (by rcases hown5.2 with ⟨rfl, h0⟩ | ⟨b, c, _, rfl, _⟩; exact ⟨none, 0, by rw [h0]⟩; exact ⟨_, _, rfl⟩); subst hrv; have hownc := ownsRow_below Hown.out hb5; have hs5 := hb5.size)
        | (at_builtin; refine wpList_app1s ty_rows64 rfl rfl rfl hownc rfl rfl (by omega) (by omega) ?_; intro b7 c8 w7 hown7 hg7 _))
      have hd : Dis w5 w.heap.size k vals (rowsOf a) := ⟨fun j hj => ownsRow_below (Hrows.out.rows j hj) hb5, Hrows.out.dis⟩
      have Hd := Lib.hid hd
      clear hd
      go_roundw
      case rel =>
        refine ⟨k + 1, _, by omega, by go_num, below_grown (hbel.trans (hb5.mono hbel.size)) hownc hg7 (Nat.le_refl _) (by omega), hown7, by simp [Hvl.out], ?_⟩
        refine Hd.out.snoc Hvl.out (fun base size n v xs h => ownsRow_other h hownc hg7 (by decide)) (B := wr.heap.size) (by omega) (fun j hj b hb => ((Hrows.out.rows j hj).lt b hb).2) ?_
        rw [Hrow.out, natInts_length]
        exact hown5
      case measure => simp [intOf]; omega
    · obtain rfl : k = a.length := by omega
      have HO := Lib.hid hown
      clear hown
      go_wp2
      go_ret
      exact ⟨_, rfl, ⟨_, vals, rfl, by rw [rowsOf_length]; exact Hvl.out, by rw [rowsOf_length]; exact HO.out, by rw [rowsOf_length]; exact Hrows.out⟩, hbel⟩

end Go.Proofs.YtiklocamfgopbaaDoor

/- Walk: FourModel of the program. -/
namespace Go.Proofs.YtiklocamfgopbaaDoor
open Go.RowKit

theorem ty_vsets : SlTy Tryd.prog 52 56 (.int .u32 0) 1 4 := ⟨Tryd.underlying52, by kernel_rfl, rfl, by decide, by decide⟩

/-- One bit alone in each set. -/
def onesL (n : Nat) : List Nat := (List.range n).map fun i => 2 ^ i
theorem onesL_length (n : Nat) : (onesL n).length = n := by simp [onesL]
theorem onesL_succ (n : Nat) : onesL (n + 1) = onesL n ++ [2 ^ n] := by simp [onesL, List.range_succ]
theorem onesL_lt {n : Nat} (h : n ≤ 16) : ∀ s ∈ onesL n, s < 65536 := by
  intro s hs
  obtain ⟨i, hi, rfl⟩ := List.mem_map.1 hs
  exact pow_lt16 i (by have := List.mem_range.1 hi; omega)
theorem natInts_pow {i : Nat} (h : i < 32) : natInts (bitsOf (2 ^ i)) = [(i : Int)] := by
  refine rising_ext_int _ _ (natInts_rising (bitsOf_rising _)) (by simp) fun x => ?_
  rw [mem_natInts]
  constructor
  · rintro ⟨j, hj, rfl⟩
    rw [mem_bitsOf' (pow_lt32 i h), testBit_pow, decide_eq_true_eq] at hj
    simp [hj]
  · intro hx
    have hx : x = (i : Int) := by simpa using hx
    exact ⟨i, by rw [mem_bitsOf' (pow_lt32 i h), testBit_pow]; simp, hx.symm⟩
theorem rowsOf_ones {n : Nat} (h : n ≤ 16) : rowsOf (onesL n) = aloneL n := by
  unfold rowsOf onesL aloneL
  rw [List.map_map]
  refine List.map_congr_left fun i hi => ?_
  exact natInts_pow (by have := List.mem_range.1 hi; omega)
theorem rowsOf_set (ms : List Nat) (u s : Nat) : rowsOf (ms.set u s) = (rowsOf ms).set u (natInts (bitsOf s)) := by simp [rowsOf, List.map_set]
theorem row_rowsOf' (ms : List Nat) (j : Nat) : row (rowsOf ms) j = natInts (bitsOf (ms.getD j 0)) := by
  by_cases h : j < ms.length
  · rw [row_rowsOf h]; simp [h]
  · rw [row_over (by rw [rowsOf_length]; omega)]
    simp [h, bitsOf_zero, natInts]
theorem getD_lt16 {ms : List Nat} (h : ∀ s ∈ ms, s < 65536) (i : Nat) : ms.getD i 0 < 65536 := lt16_getD h i
theorem bit_16 {s i : Nat} (h : s < 65536) (hi : s.testBit i = true) : i < 16 := by
  by_cases h16 : i < 16
  · exact h16
  · have h2 : 2 ^ 16 ≤ 2 ^ i := Nat.pow_le_pow_right (by decide) (by omega)
    rw [Nat.testBit_lt_two_pow (Nat.lt_of_lt_of_le h h2)] at hi
    cases hi
theorem bits_16 {s : Nat} (h : s < 65536) : (bitsOf s).length ≤ 16 := by
  have h1 : SetIn 16 (natInts (bitsOf s)) := by
    refine ⟨fun x hx => ?_, natInts_rising (bitsOf_rising _)⟩
    obtain ⟨i, hi, rfl⟩ := mem_natInts.1 hx
    rw [mem_bitsOf' (by omega)] at hi
    have := bit_16 h hi
    omega
  have := setIn_length (by omega) h1
  rw [natInts_length] at this
  omega

/-- What the loop carries. -/
structure FnI (w wr : World) (n sb sc : Nat) (gg : List (List Int)) (L : List Int) (a ms : List Nat) (left : Nat) (xv : Value) : Prop where
  bel : Below w.heap.size w wr
  sz : w.heap.size + 2 ≤ wr.heap.size
  res : Box wr (w.heap.size + 1) 27 (.slice none 0 0)
  nets : Sl wr 56 xv a.length (a.map u32v)
  sets : wr.ownsRow (w.heap.size + 2) 56 1 (.slice (some ⟨sb, 0, none⟩) n sc) n (ms.map u32v)
  al : a.length = n
  ml : ms.length = n
  m16 : ∀ s ∈ ms, s < 65536
  same : Same gg L a left
  rg : RG gg
  tab : Tab wr

theorem sub_fewer {left v : Nat} (h : left < 65536) (hv : left.testBit v = true) : (bitsOf (sub left (2 ^ v))).length < (bitsOf left).length := by
  have hv16 := bit_16 h hv
  exact bits_sub_lt h hv hv16

theorem FnI.next {w wr wx : World} {n sb sc : Nat} {gg : List (List Int)} {L : List Int} {a ms : List Nat} {left : Nat} {xv : Value} (h : FnI w wr n sb sc gg L a ms left xv) (hb : Below wr.heap.size wr wx) : FnI w wx n sb sc gg L a ms left xv :=
  { bel := h.bel.trans (hb.mono h.bel.size), sz := Nat.le_trans h.sz hb.size, res := h.res.keep hb, nets := h.nets.below hb, sets := ownsRow_below h.sets hb, al := h.al, ml := h.ml, m16 := h.m16, same := h.same, rg := h.rg, tab := h.tab.keep hb }

/-- One step of the loop. -/
theorem FnI.step {w wr w' : World} {n sb sc : Nat} {g0 S0 gg : List (List Int)} {L0 L : List Int} {a ms : List Nat} {left l' : Nat} {xv r : Value} {ok : Bool} (h : FnI w wr n sb sc gg L a ms left xv) (hT : Tab w)
    (hon : FoursOn g0 L0 S0 gg L (rowsOf ms)) (hs : ShrS gg L a ms left (w.heap.size + 2) xv (.slice (some ⟨sb, 0, none⟩) n sc) wr w' r l' ok) :
    ∃ g1 L1 a1 ms1, FnI w w' n sb sc g1 L1 a1 ms1 l' r ∧ FoursOn g0 L0 S0 g1 L1 (rowsOf ms1) ∧ (ok = false → lessOf g1 L1 = none ∧ edgeOf g1 L1 = none) ∧ (bitsOf l').length * 2 + (if ok then 1 else 0) < (bitsOf left).length * 2 + 1 := by
  have hsb := h.sets.lt sb rfl
  have hpos := hT.pos
  cases hs with
  | stop h1 h2 h3 h4 h5 h6 =>
    subst h1; subst h2; subst h3
    exact ⟨gg, L, a, ms, { bel := h.bel.trans (h6.mono h.bel.size), sz := Nat.le_trans h.sz h6.size, res := h.res.keep h6, nets := h.nets.below h6, sets := ownsRow_below h.sets h6, al := h.al, ml := h.ml, m16 := h.m16, same := h.same, rg := h.rg, tab := h.tab.keep h6 }, hon, fun _ => ⟨h4, h5⟩, by simp⟩
  | less h1 h2 z h3 hz h4 h6 =>
    subst h1; subst h2; subst h4
    refine ⟨freeG gg z, lessL L z, a, ms, { bel := h.bel.trans (h6.mono h.bel.size), sz := Nat.le_trans h.sz h6.size, res := h.res.keep h6, nets := h.nets.below h6, sets := ownsRow_below h.sets h6, al := h.al, ml := h.ml, m16 := h.m16, same := h.same.free hz, rg := h.rg.free _, tab := h.tab.keep h6 }, fun _ _ k => hon _ _ (.less h3 k), (fun e => nomatch e), ?_⟩
    have := sub_fewer h.same.left16 hz
    simp; omega
  | edge h1 u v h2 h3 hu hv huv h4 h5 h6 h7 =>
    subst h1; subst h4
    have hul := h.same.inn u hu
    have hvl := h.same.inn v hv
    have hal := h.al
    have hml := h.ml
    have hlen := h.same.len
    obtain ⟨k1, k2⟩ := joinG_mem (v := (v : Int)) h.rg (by omega : (0 : Int) ≤ (u : Int)) (by omega : (u : Int) < gg.length)
    have hcl : (contrL a left u v).length = a.length := by rw [contrL, tieN_length]
    have hm1 := getD_lt16 h.m16 u
    have hm2 := getD_lt16 h.m16 v
    refine ⟨joinG gg u v, lessL L v, contrL a left u v, ms.set u (ms.getD u 0 ||| ms.getD v 0), { bel := h.bel.grown h7 h.bel.size (fun k hk => ?_), sz := Nat.le_trans h.sz h7.size, res := h.res.grown h7 (fun e => ?_), nets := ?_, sets := ?_, al := by rw [hcl]; exact h.al, ml := by simp [h.ml], m16 := fun s hs => ?_, same := h.same.join h.rg hu hv huv, rg := k1, tab := h.tab.grown h7 (fun e => ?_) }, fun _ _ k => hon _ _ (.edge h2 h3 ?_), (fun e => nomatch e), ?_⟩
    · have := (h.sets.lt k hk).1; omega
    · have := (h.sets.lt _ e.symm).1; omega
    · rw [hcl]; exact Sl.of_owns h5 (by have := h.same.le; omega)
    · rw [← h.ml]; rw [h.ml] at h6 ⊢; exact h6
    · rcases List.mem_or_eq_of_mem_set hs with e | e
      · exact h.m16 s e
      · subst e; exact or_lt16 _ _ hm1 hm2
    · have := (h.sets.lt _ e.symm).1; omega
    · rw [Int.toNat_natCast, Int.toNat_natCast, row_rowsOf', row_rowsOf', intoAll_bits _ _ hm1 hm2, ← rowsOf_set]; exact k
    · have := sub_fewer h.same.left16 hv
      simp; omega

end Go.Proofs.YtiklocamfgopbaaDoor
