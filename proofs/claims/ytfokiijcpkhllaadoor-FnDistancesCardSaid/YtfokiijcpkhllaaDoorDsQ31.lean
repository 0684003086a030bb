/- Walks: the reference's edges. -/
import Derived.Test.YtfokiijcpkhllaaDoorDsQ27
import Derived.Test.YtfokiijcpkhllaaDoorDsQ4
import Derived.Test.YtfokiijcpkhllaaDoorDsQ10
import Derived.Test.YtfokiijcpkhllaaDoorDsQ28
import Derived.Test.YtfokiijcpkhllaaDoorDsQ15
import Derived.Test.YtfokiijcpkhllaaDoorDsQ16
import Derived.Test.YtfokiijcpkhllaaDoorDsQ23
import Derived.Test.YtfokiijcpkhllaaDoorDsQ26
import Derived.Test.YtfokiijcpkhllaaDoorDsQ14
import Derived.Deep.DeepCutAuto
import Derived.Test.YtfokiijcpkhllaaDoorDsQ6
import Derived.Deep.RegionHeld3
namespace Go.Proofs.YtfokiijcpkhllaaDoor
open Go.RowKit

set_option maxRecDepth 100000 in
set_option maxHeartbeats 4000000 in
theorem l1EdgesC_any (v : Value) (g : List (List Int)) (hok : GOk g) (w : World) (hg : Gr w v g) :
    Calls Tryd.prog 130 #[v] w fun e w' => ∃ u : Value, e = .returned u ∧ PrsO w' w.heap.size u (edN g.length (ofG g) g.length) ∧ Below w.heap.size w w' := by
  have hg0 := hg
  obtain ⟨u, rfl, hr⟩ := hg
  obtain ⟨p, c, rfl, _⟩ := hr.shape
  have h16 := hok.le
  have hbA := below_alloc w (.cells #[.slice p g.length c] 29)
  have HB := Lib.hid hbA
  have BX := Lib.hid ((Box.new w (.slice p g.length c) 29).alloc (.cells #[] 32))
  have HG := Lib.hid hg0
  have H2 := Lib.hid (gOk_row_le hok)
  have HOK := Lib.hid hok
  have HR := Lib.hid hr
  have HC : Hid (∀ k, k ≤ g.length → (edN g.length (ofG g) k).length ≤ 256) := Lib.hid fun k hk => by
    have := edN_length g.length (ofG g) k
    have : k * g.length ≤ 16 * 16 := Nat.mul_le_mul (by omega) h16
    omega
  clear hr hg0 hbA hok
  go_enter Tryd.func130, Tryd.ntmps130
  go_wp2
  go_loopw [3, 4] (fun u i wr => ∃ k : Nat, k ≤ g.length ∧ i = .int .i64 k ∧ PrsO wr (w.heap.size + 1) u (edN g.length (ofG g) k) ∧ Below w.heap.size w wr ∧ Box wr w.heap.size 29 (.slice p g.length c))
    (fun _ i _ => g.length - (intOf i).toNat)
  case atStart => exact ⟨0, Nat.zero_le _, rfl, by have := PrsO.nil (w.alloc (.cells #[.slice p g.length c] 29)) (w.heap.size + 1) (by rw [size_alloc]; omega); rw [size_alloc] at this; exact this, HB.out.alloc HB.out.size _, BX.out⟩
  case round =>
    obtain ⟨k, hk, rfl, hown, hbel, hbx⟩ := hrel
    have hc := hbx.cell
    have Hbx := Lib.hid hbx
    obtain ⟨outp, outc, rfl⟩ := hown.shape
    have Hown := Lib.hid hown
    have hsz := hbel.size
    clear hown hbx
    by_cases hlt : k < g.length
    · obtain ⟨b, o, rp, rc, rfl, hcell, hnums⟩ := (HR.out.below hbel).get hlt
      change wr.cell? _ = some (.slice rp (row g k).length rc) at hcell
      have Hnums2 : Hid (Nums wr 2 .i64 (.slice rp (row g k).length rc) (row g k)) := Lib.hid hnums
      have hlen2 := H2.out k hlt
      have hck := HC.out k hk
      have HEND := Lib.hid (edT_end HOK.out hlt)
      clear hnums hcell
      go_wp2_with (go_at_call 60; refine (l1Size_any _ g _ (HG.out.below hbel)).mono ?_; rintro e w4 ⟨rfl, hb4⟩)
      have START : Hid (PrsO w4 (w.heap.size + 1) (.slice outp (edN g.length (ofG g) k).length outc) (edN g.length (ofG g) k ++ edT g k 0)) := Lib.hid (by
        have : edT g k 0 = [] := by simp [edT]
        rw [this, List.append_nil]; exact Hown.out.below hb4)
      have HBEL := Lib.hid (hbel.trans (hb4.mono hsz))
      have HBX4 := Lib.hid (Hbx.out.keep hb4)
      go_loopw [3, 5] (fun u i wx => ∃ t : Nat, t ≤ (row g k).length ∧ i = .int .i64 t ∧ PrsO wx (w.heap.size + 1) u (edN g.length (ofG g) k ++ edT g k t) ∧ Below w.heap.size w wx ∧ Box wx w.heap.size 29 (.slice (some ⟨b, o, none⟩) g.length c))
        (fun _ i _ => (row g k).length - (intOf i).toNat)
      case atStart => exact ⟨0, Nat.zero_le _, rfl, START.out, HBEL.out, HBX4.out⟩
      case round =>
        clear START Hown hbel HBEL hsz Hnums2 hc Hbx HBX4 hb4
        obtain ⟨t, ht, rfl, hown, hbel, hbx⟩ := hrel
        have hc := hbx.cell
        have Hbx := Lib.hid hbx
        obtain ⟨_, _, rp, rc, e, hcell, hnums⟩ := (HR.out.below hbel).get hlt
        simp only [Option.some.injEq, Addr.mk.injEq, and_true] at e
        obtain ⟨rfl, rfl⟩ := e
        replace hcell : wr.cell? _ = some (.slice rp (row g k).length rc) := hcell
        replace hnums : Nums wr 2 .i64 (.slice rp (row g k).length rc) (row g k) := hnums
        have hsz := hbel.size
        obtain ⟨outp, outc, rfl⟩ := hown.shape
        clear hbx
        have hte := edT_len g k t
        by_cases hlt2 : t < (row g k).length
        · obtain ⟨rb, ro, rfl, hcx⟩ := hnums.get hlt2
          have hsucc := Lib.hid (edT_succ (g := g) (k := k) hlt2)
          have hX0 := Lib.hid (((HOK.out.sets k hlt).1.1 _ (List.getElem_mem hlt2)).1)
          by_cases hgt : (k : Int) < (row g k)[t]
          · generalize (row g k)[t] = X at hcx hgt hsucc hX0
            obtain ⟨vals, hv1, hv2, hv3⟩ := hown
            have hll : (edN g.length (ofG g) k ++ edT g k t).length < 1000000000 := by rw [List.length_append]; omega
            have HV3 := Lib.hid hv3
            have HV1 := Lib.hid hv1
            clear hnums hv3 hv1 hte
            generalize hq : (edN g.length (ofG g) k ++ edT g k t).length = q at hll hv2
            go_wp2_with (at_builtin; refine wpList_app1s ty_rows64 rfl rfl rfl (hv2.alloc (.cells #[.int .i64 k, .int .i64 X] 2)) (by rw [size_alloc]; rfl) rfl hll (by rw [size_alloc]; omega) ?_; intro b7 c8 w7 hown7 hg7 _)
            go_roundw
            case rel =>
              have ha := below_alloc wr (.cells #[.int .i64 k, .int .i64 X] 2)
              have hrow : Nums (wr.alloc (.cells #[.int .i64 k, .int .i64 X] 2)) 2 .i64 (.slice (some ⟨wr.heap.size, 0, none⟩) 2 2) [((k : Nat) : Int), ((X.toNat : Nat) : Int)] := by
                rw [Int.toNat_of_nonneg hX0.out]
                exact Nums.of_owns (World.ownsRow_lit (size := 1) wr #[.int .i64 k, .int .i64 X] 2 (Nat.le_refl wr.heap.size) (by decide) rfl) rfl (by decide)
              subst hq
              refine ⟨t + 1, by omega, by go_num, ?_, below_grown (hbel.alloc hsz _) (hv2.alloc _) hg7 (by omega) (by rw [size_alloc]; omega), (Hbx.out.keep ha).below (below_grown (Below.refl (w.heap.size + 1) _) (hv2.alloc _) hg7 (Nat.le_refl _) (by rw [size_alloc]; omega)) (by omega)⟩
              rw [hsucc.out, if_pos hgt, ← List.append_assoc]
              exact PrsO.snoc (e := (k, X.toNat)) HV1.out (hv2.alloc _) (fun j hj => (HV3.out j hj).below ha) hown7 hg7 hrow
            case measure => simp [intOf]; omega
          · have Hown := Lib.hid hown
            generalize (row g k)[t] = X at hcx hgt hsucc hX0
            clear hown hnums
            go_wp2
            go_roundw
            case rel => exact ⟨t + 1, by omega, by go_num, by rw [hsucc.out, if_neg hgt]; exact Hown.out, hbel, Hbx.out⟩
            case measure => simp [intOf]; omega
        · obtain rfl : t = (row g k).length := by omega
          have Hown := Lib.hid hown
          clear hown hnums
          go_wp2
          go_roundw
          case rel =>
            refine ⟨k + 1, by omega, by go_num, ?_, hbel, Hbx.out⟩
            rw [edN_succ, ← HEND.out]
            exact Hown.out
          case measure => simp [intOf]; omega
    · obtain rfl : k = g.length := by omega
      go_wp2_with (go_at_call 60; refine (l1Size_any _ g _ (HG.out.below hbel)).mono ?_; rintro e w4 ⟨rfl, hb4⟩)
      go_ret
      exact ⟨_, rfl, (Hown.out.below hb4).base (by omega), hbel.trans (hb4.mono hsz)⟩

set_option maxHeartbeats 1000000 in
theorem specEdgesOf_any (v : Value) (g : List (List Int)) (hok : GOk g) (w : World) (hg : Gr w v g) :
    Calls Tryd.prog 90 #[v] w fun e w' => ∃ u : Value, e = .returned u ∧ PrsO w' w.heap.size u (edN g.length (ofG g) g.length) ∧ Below w.heap.size w w' := by
  have hg0 := hg
  obtain ⟨u, rfl, hr⟩ := hg
  obtain ⟨p, c, rfl, _⟩ := hr.shape
  have hbA := Lib.hid (below_alloc w (.cells #[.slice p g.length c] 29))
  have HG := Lib.hid (hg0.below hbA.out)
  have BX := Lib.hid (Box.new w (.slice p g.length c) 29)
  have HOK := Lib.hid hok
  have hd := Lib.hid (dec_true hok)
  clear hr hg0 hok
  go_enter Tryd.func90, Tryd.ntmps90
  go_wp2_with (first
    | (go_at_call 50; refine (specGraphOk_any _ g _ HG.out).mono ?_; rintro e w2 ⟨he, hb2⟩; rw [hd.out] at he; subst he; have hcx := (BX.out.keep hb2).cell)
    | (go_at_call 130; refine (l1EdgesC_any _ g HOK.out _ (HG.out.below hb2)).mono ?_; rintro e w3 ⟨u3, rfl, hp3, hb3⟩))
  go_ret
  have h1 := hbA.out.trans (hb2.mono hbA.out.size)
  exact ⟨_, rfl, hp3.base h1.size, h1.trans (hb3.mono h1.size)⟩

end Go.Proofs.YtfokiijcpkhllaaDoor

/- Walks: the program's edges, how many, an edge; the reference's edges, in whatever graph. -/
namespace Go.Proofs.YtfokiijcpkhllaaDoor
open Go.RowKit

theorem PrsO.rwsE {w : World} {base : Nat} {ov : Value} {l : List (Nat × Nat)} (h : PrsO w base ov l) (hl : l.length ≤ 1000000) : Rws w 32 2 ov (prsL l) := by
  obtain ⟨vals, h1, h2, h3⟩ := h
  have e : (prsL l).length = l.length := by simp [prsL]
  exact ⟨vals, by rw [e]; exact h1, by rw [e]; exact Sl.of_owns h2 (by omega), fun j hj => h3 j (by rw [← e]; exact hj)⟩

/-- How many edges a graph has; none where it is not right. -/
noncomputable def manE (g : List (List Int)) : Nat := if dec (GOk g) = true then (edN g.length (ofG g) g.length).length else 0
theorem manE_yes {g : List (List Int)} (h : GOk g) : manE g = (edN g.length (ofG g) g.length).length := by unfold manE; rw [if_pos (dec_true h)]
theorem manE_no {g : List (List Int)} (h : ¬ GOk g) : manE g = 0 := by unfold manE; rw [if_neg (by rw [dec_false h]; decide)]
set_option maxRecDepth 100000 in
set_option maxHeartbeats 1000000 in
theorem specEdgesE_any (v : Value) (g : List (List Int)) (w : World) (hg : Gr w v g) :
    Calls Tryd.prog 90 #[v] w fun e w' => ∃ (u : Value) (b : Nat), e = .returned u ∧ ((GOk g ∧ PrsO w' b u (edN g.length (ofG g) g.length)) ∨ (¬ GOk g ∧ PrsO w' b u [])) ∧ Below w.heap.size w w' := by
  by_cases hok : GOk g
  · refine (specEdgesOf_any v g hok w hg).mono ?_
    rintro e w2 ⟨u, rfl, hp, hb⟩
    exact ⟨u, _, rfl, .inl ⟨hok, hp⟩, hb⟩
  · have hg0 := hg
    obtain ⟨u, rfl, hr⟩ := hg
    obtain ⟨p, c, rfl, _⟩ := hr.shape
    have hbA := Lib.hid (below_alloc w (.cells #[.slice p g.length c] 29))
    have HG := Lib.hid (hg0.below hbA.out)
    have HD := Lib.hid (dec_false hok)
    have HOK := Lib.hid hok
    clear hr hg0 hok
    go_enter Tryd.func90, Tryd.ntmps90
    go_wp2_with (go_at_call 50; refine (specGraphOk_any _ g _ HG.out).mono ?_; rintro e w2 ⟨he, hb2⟩; rw [HD.out] at he; subst he)
    go_ret
    exact ⟨_, w2.heap.size, rfl, .inr ⟨HOK.out, PrsO.nil w2 _ (Nat.le_refl _)⟩, (hbA.out.trans (hb2.mono hbA.out.size)).alloc (Nat.le_trans hbA.out.size hb2.size) _⟩

end Go.Proofs.YtfokiijcpkhllaaDoor

/- Walks: an edge of whatever graph, the program's contraction. -/
namespace Go.Proofs.YtfokiijcpkhllaaDoor
open Go.RowKit

/-- y and z are joined in g, which is right. -/
def EdgP (g : List (List Int)) (y z : Int) : Prop := GOk g ∧ (0 ≤ y ∧ y < g.length) ∧ z ∈ row g y.toNat
def VtxP (g : List (List Int)) (y : Int) : Prop := GOk g ∧ 0 ≤ y ∧ y < g.length
theorem EdgP.nat {g : List (List Int)} {y z : Int} (h : EdgP g y z) : ∃ a b : Nat, y = a ∧ z = b ∧ a < g.length ∧ b < g.length ∧ a ≠ b ∧ ofG g a b = true := by
  obtain ⟨hg, ⟨h1, h2⟩, h3⟩ := h
  have h4 := (hg.sets y.toNat (by omega)).1.1 z h3
  have h5 := (hg.sets y.toNat (by omega)).2
  refine ⟨y.toNat, z.toNat, by omega, by omega, by omega, by omega, fun e => h5 ?_, ?_⟩
  · rw [show ((y.toNat : Nat) : Int) = z by omega]; exact h3
  · simp only [ofG, decide_eq_true_eq]
    rw [show ((z.toNat : Nat) : Int) = z by omega]; exact h3

set_option maxRecDepth 100000 in
theorem l1ThereC_any (v : Value) (g : List (List Int)) (x : Int) (w : World) (hg : Gr w v g) (hn : g.length ≤ 1000000000) :
    Calls Tryd.prog 59 #[v, .int .i64 x] w fun e w' => e = .returned (.bool (dec (0 ≤ x ∧ x < g.length))) ∧ Below w.heap.size w w' := by
  have hg0 := hg
  obtain ⟨u, rfl, hr⟩ := hg
  obtain ⟨p, c, rfl, _⟩ := hr.shape
  have hbA := Lib.hid (below_alloc w (.cells #[.slice p g.length c] 29))
  have HG := Lib.hid (hg0.below hbA.out)
  clear hr hg0
  go_enter Tryd.func59, Tryd.ntmps59
  go_wp2_with (first
    | (go_at_call 101; refine (l1In_any _ _ _ _).mono ?_; rintro e w3 ⟨rfl, rfl⟩)
    | (go_at_call 60; refine (l1Size_any _ g _ HG.out).mono ?_; rintro e w2 ⟨rfl, hb2⟩))
  go_ret
  exact ⟨ret_bool (dec_congr (by omega)), hbA.out.trans (hb2.mono hbA.out.size)⟩

end Go.Proofs.YtfokiijcpkhllaaDoor

/- Walk: the program's contraction of an edge. -/
namespace Go.Proofs.YtfokiijcpkhllaaDoor
open Go.RowKit

theorem two_boxesC (w : World) (a b : Value) (T1 T2 : TypeId) : ∃ W, W = (w.alloc (.cells #[a] T1)).alloc (.cells #[b] T2) ∧ Below w.heap.size w W ∧ W.heap.size = w.heap.size + 2 ∧ Box W w.heap.size T1 a ∧ Box W (w.heap.size + 1) T2 b := by
  have h2 := Box.new (w.alloc (.cells #[a] T1)) b T2
  rw [size_alloc] at h2
  exact ⟨_, rfl, below_alloc2 _ _ _, by rw [size_alloc, size_alloc], (Box.new w a T1).alloc _, h2⟩

theorem own_shapeC {w : World} {base n : Nat} {E : TypeId} {v : Value} {xs : List Value} (h : w.ownsRow base E 1 v n xs) (hn : 0 < n) : ∃ b c, v = .slice (some ⟨b, 0, none⟩) n c := by
  rcases h.2 with ⟨rfl, rfl⟩ | ⟨g, cap, cur, rfl, _⟩
  · omega
  · exact ⟨g, cap, rfl⟩
theorem mem_nbL {n a b j : Nat} {E : Nat → Nat → Bool} : j ∈ nbL n E a b ↔ j < n ∧ E b j = true ∧ j ≠ a := by simp [nbL]
theorem nbL_bits {g : List (List Int)} (hg : GOk g) {a b : Nat} (ha : a < g.length) (hb : b < g.length) : bitsOf (sub ((netL g).getD b 0) (2 ^ a)) = nbL g.length (ofG g) a b := by
  have h16 := hg.le
  have hnl : (netL g).getD b 0 < 4294967296 := by
    rw [← indN_ofG hg, indN_get hb]
    have := mask_lt16 (natInts ((List.range g.length).filter (ofG g b))) (fun x hx => by
      obtain ⟨i, hi, rfl⟩ := mem_natInts.1 hx
      have := List.mem_range.1 (List.mem_filter.1 hi).1
      omega)
    omega
  have hp := pow_lt32 a (by omega)
  refine rising_ext _ _ (bitsOf_rising _) (List.Pairwise.filter _ List.pairwise_lt_range) fun j => ?_
  rw [mem_bitsOf' (sub_lt32 _ _ hnl), testBit_sub _ _ hnl hp, ← indN_ofG hg, indN_bit hb, testBit_pow]
  have : j ∈ nbL g.length (ofG g) a b ↔ j < g.length ∧ ofG g b j = true ∧ j ≠ a := mem_nbL
  rw [this]
  simp only [Bool.and_eq_true, decide_eq_true_eq, Bool.not_eq_true', decide_eq_false_iff_not]
  constructor
  · exact fun h => ⟨h.1.1, h.1.2, fun e => h.2 e.symm⟩
  · exact fun h => ⟨⟨h.1, h.2.1⟩, fun e => h.2.2 e.symm⟩
theorem restN_bits {n b : Nat} (hn : n ≤ 16) (hb : b < n) : bitsOf (sub (2 ^ n - 1) (2 ^ b)) = restN n b := by
  have h1 : 2 ^ n - 1 < 4294967296 := by
    have := Nat.pow_le_pow_right (n := 2) (by decide) hn
    omega
  have hp := pow_lt32 b (by omega)
  refine rising_ext _ _ (bitsOf_rising _) (restN_rising _ _) fun j => ?_
  rw [mem_bitsOf' (sub_lt32 _ _ h1), testBit_sub _ _ h1 hp, testBit_firstOf, testBit_pow, mem_restN]
  simp only [Bool.and_eq_true, decide_eq_true_eq, Bool.not_eq_true', decide_eq_false_iff_not]
  exact ⟨fun h => ⟨h.1, fun e => h.2 e.symm⟩, fun h => ⟨h.1, fun e => h.2 e.symm⟩⟩
theorem conG_rows {g : List (List Int)} (hg : GOk g) {a b : Nat} (hb : b < g.length) : rowsOf (indN (restN g.length b).length (bitE (indN g.length (conE (ofG g) a b)) (restN g.length b))) = conG g a b := by
  have h16 := hg.le
  have hc : GOk (matG g.length (conE (ofG g) a b)) := gok_matG hg.pos h16 (conE_sym (ofG_sym hg) a b) (conE_irr (ofG_irr hg) a b)
  have e1 : netL (matG g.length (conE (ofG g) a b)) = indN g.length (conE (ofG g) a b) := by
    rw [← indN_ofG hc, matG_length]
    exact indN_congr fun r j hr hj => ofG_matG hr hj
  rw [rowsOf_indN (by rw [restN_length hb]; omega)]
  unfold conG
  rw [bitE_netL hc (fun v hv => by rw [matG_length]; exact (mem_restN.1 hv).1), e1]

end Go.Proofs.YtfokiijcpkhllaaDoor

/- Walk: the program's parts of a set. -/
namespace Go.Proofs.YtfokiijcpkhllaaDoor
open Go.RowKit

theorem ty_vsets : SlTy Tryd.prog 60 64 (.int .u32 0) 1 4 := ⟨Tryd.underlying60, by kernel_rfl, rfl, by decide, by decide⟩

theorem Tab.grownP {w w' : World} {r : Option Nat} (h : Tab w) (hg : w.grownBy w' r) (hr : some 0 ≠ r) : Tab w' := fun j hj => hg.cell (a := ⟨_, j, none⟩) (h j hj) hr

/-- Lists, as masks. -/
def mskL (ps : List (List Nat)) : List Nat := ps.map fun l => mask (natInts l)
theorem mskL_snoc (ps : List (List Nat)) (l : List Nat) : mskL (ps ++ [l]) = mskL ps ++ [mask (natInts l)] := by simp [mskL]
theorem mskL_length (ps : List (List Nat)) : (mskL ps).length = ps.length := by simp [mskL]


end Go.Proofs.YtfokiijcpkhllaaDoor

/- Walks: SameGraph, of both. -/
namespace Go.Proofs.YtfokiijcpkhllaaDoor
open Go.RowKit

set_option maxRecDepth 100000 in
set_option maxHeartbeats 1000000 in
theorem l1Same_any (u v : Value) (xs ys : List Int) (w : World) (hx : Nums w 2 .i64 u xs) (hy : Nums w 2 .i64 v ys) :
    Calls Tryd.prog 152 #[u, v] w fun e w' => e = .returned (.bool (dec (xs = ys))) ∧ ∃ q, w' = w.drewN q := by
  obtain ⟨p, c, rfl, hp, _, hn, hat⟩ := hx
  obtain ⟨p', c', rfl, hp', _, hn', hat'⟩ := hy
  by_cases hl : xs.length = ys.length
  case neg =>
    have hl' : ((xs.length : Int) != (ys.length : Int)) = true := by simp; omega
    go_enter Tryd.func152, Tryd.ntmps152
    go_wp2
    go_ret
    exact ⟨ret_bool (false_dec fun h => hl (by rw [h])), 0, rfl⟩
  have Hl := Lib.hid hl
  have hl' : ((xs.length : Int) != (ys.length : Int)) = false := by simp; omega
  clear hl
  go_enter Tryd.func152, Tryd.ntmps152
  go_wp2
  go_loopw [5] (fun i wr => ∃ k : Nat, k ≤ xs.length ∧ i = .int .i64 k ∧ xs.take k = ys.take k ∧ ∃ q, wr = w.drewN q) (fun i _ => xs.length - (intOf i).toNat)
  case atStart => exact ⟨0, Nat.zero_le _, rfl, by simp, 0, rfl⟩
  case round =>
    obtain ⟨k, hk, rfl, heq, q, rfl⟩ := hrel
    have Heq := Lib.hid heq
    clear heq
    by_cases hlt : k < xs.length
    · have hlt' : k < ys.length := by have := Hl.out; omega
      obtain ⟨b, o, rfl, hcell⟩ := hat.num hlt
      obtain ⟨b', o', rfl, hcell'⟩ := hat'.num hlt'
      clear hat hat'
      have e0 : (0 : Int) ≤ (k : Int) := by omega
      have e1 : (k : Int) < (xs.length : Int) := by omega
      have e2 : (k : Int) < (ys.length : Int) := by omega
      by_cases he : xs[k] = ys[k]
      · have he' : (xs[k] != ys[k]) = false := by simpa using he
        have He := Lib.hid he
        clear he
        go_wp2
        go_quiet (fail)
        go_wp2
        go_roundw
        case rel => exact ⟨k + 1, by omega, by go_num, by rw [take_snoc xs k hlt, take_snoc ys k hlt', Heq.out, He.out], _, rfl⟩
        case measure => simp [intOf]; omega
      · have he' : (xs[k] != ys[k]) = true := by simpa using he
        have He := Lib.hid he
        clear he
        go_wp2
        go_quiet (fail)
        go_wp2
        go_ret
        exact ⟨ret_bool (false_dec fun h => He.out (by subst h; rfl)), _, World.drewN_drewN _ _ _⟩
    · obtain rfl : k = xs.length := by omega
      go_wp2
      go_ret
      refine ⟨ret_bool (true_dec ?_), q, rfl⟩
      have h := Heq.out
      rwa [List.take_length, Hl.out, List.take_length] at h

end Go.Proofs.YtfokiijcpkhllaaDoor

/- Walks: how the reference says that a vertex may be pruned. -/
namespace Go.Proofs.YtfokiijcpkhllaaDoor
open Go.RowKit

theorem owns_shapeA {w : World} {base : Nat} {E : TypeId} {size n : Nat} {v : Value} {xs : List Value} (h : w.ownsRow base E size v n xs) : ∃ p c, v = .slice p n c := by
  rcases h.2 with ⟨rfl, h0⟩ | ⟨b, c, _, rfl, _⟩
  · exact ⟨none, 0, by rw [h0]⟩
  · exact ⟨_, _, rfl⟩

def nearT (g : List (List Int)) (L : List Int) (k : Nat) (b : Int) (t : Nat) : List Int := ((row g k).take t).filter fun x => decide (x ≠ b ∧ x ∈ L)
theorem nearT_succ {g : List (List Int)} {L : List Int} {k : Nat} {b : Int} {t : Nat} (h : t < (row g k).length) :
    nearT g L k b (t + 1) = if (row g k)[t] ≠ b ∧ (row g k)[t] ∈ L then nearT g L k b t ++ [(row g k)[t]] else nearT g L k b t := by
  unfold nearT
  rw [take_snoc _ t h, List.filter_append]
  split
  · rename_i hc; rw [List.filter_cons_of_pos (by simpa using hc)]; rfl
  · rename_i hc; rw [List.filter_cons_of_neg (by simpa using hc)]; simp
theorem nearT_len (g : List (List Int)) (L : List Int) (k : Nat) (b : Int) (t : Nat) : (nearT g L k b t).length ≤ (row g k).length :=
  Nat.le_trans (List.length_filter_le _ _) (by rw [List.length_take]; omega)
theorem nearT_end (g : List (List Int)) (L : List Int) (k : Nat) (b : Int) : nearT g L k b (row g k).length = nearB g L k b := by
  unfold nearT nearB; rw [List.take_length]

set_option maxRecDepth 100000 in
set_option maxHeartbeats 2000000 in
theorem l18Near_any (v lv : Value) (g : List (List Int)) (L : List Int) (y : Int) (k : Nat) (hy : y = k) (hk : k < g.length) (b : Int) (hrl : (row g k).length ≤ 1000) (w : World) (hg : Gr w v g) (hn : Nums w 2 .i64 lv L) :
    Calls Tryd.prog 151 #[v, lv, .int .i64 y, .int .i64 b] w fun e w' => ∃ u, e = .returned u ∧
      w'.ownsRow w.heap.size 2 1 u (nearB g L k b).length ((nearB g L k b).map (Value.int .i64)) ∧ Below w.heap.size w w' := by
  subst hy
  obtain ⟨u, rfl, hr⟩ := hg
  obtain ⟨p, c, rfl, _⟩ := hr.shape
  obtain ⟨lp, lc, rfl, _⟩ := id hn.shape
  have HR := Lib.hid hr
  have HN := Lib.hid hn
  have hbox := Box.new w (.slice p g.length c) 29
  have hb1 := below_alloc w (.cells #[.slice p g.length c] 29)
  clear hr hn
  go_enter Tryd.func151, Tryd.ntmps151
  go_wp2
  go_loopw [9, 10] (fun u i wr => ∃ t : Nat, t ≤ (row g k).length ∧ i = .int .i64 t ∧ wr.ownsRow (w.heap.size + 1) 2 1 u (nearT g L k b t).length ((nearT g L k b t).map (Value.int .i64)) ∧ Below w.heap.size w wr ∧ Box wr w.heap.size 29 (.slice p g.length c))
    (fun _ i _ => (row g k).length - (intOf i).toNat)
  case atStart => exact ⟨0, Nat.zero_le _, rfl, ownsRow_empty' _ _ _ _ _ (Nat.le_refl _), hb1.alloc (by rw [size_alloc]; omega) _, hbox.alloc _⟩
  case round =>
    clear hbox hb1
    obtain ⟨t, ht, rfl, hown, hbel, hbx⟩ := hrel
    obtain ⟨hc, hf, hlt0, _⟩ := id hbx
    have hsz := hbel.size
    obtain ⟨b0, o0, rp, rc, rfl, hcell, hnums⟩ := (HR.out.below hbel).get hk
    change wr.cell? _ = some (.slice rp (row g k).length rc) at hcell
    change Nums wr _ _ (.slice rp (row g k).length rc) (row g k) at hnums
    have hlen := nearT_len g L k b t
    obtain ⟨op, oc, rfl⟩ := owns_shapeA hown
    have e0 : (0 : Int) ≤ (k : Int) := by omega
    have e1 : (k : Int) < (g.length : Int) := by omega
    have Hown := Lib.hid hown
    have Hbel := Lib.hid hbel
    have Hbx := Lib.hid hbx
    have hnl := HN.out.below hbel
    clear hown hbel hbx
    by_cases hlt : t < (row g k).length
    · obtain ⟨rb, ro, rfl, hcx⟩ := hnums.get hlt
      have hsucc := Lib.hid (nearT_succ (g := g) (L := L) (k := k) (b := b) hlt)
      clear hnums
      generalize hX : (row g k)[t] = X at hcx hsucc
      clear hX
      by_cases hXb : X = b
      · have he : (X != b) = false := by simpa using hXb
        have HE := Lib.hid hXb
        clear hXb
        go_wp2
        go_roundw
        case rel => exact ⟨t + 1, by omega, by go_num, by rw [hsucc.out, if_neg (fun h => h.1 HE.out)]; exact Hown.out, Hbel.out, Hbx.out⟩
        case measure => simp [intOf]; omega
      · have he : (X != b) = true := by simpa using hXb
        have HE := Lib.hid hXb
        clear hXb
        by_cases hXL : X ∈ L
        · have hd := dec_true hXL
          have HL := Lib.hid hXL
          clear hXL
          generalize hq : (nearT g L k b t).length = q at hlen
          have hown : wr.ownsRow (w.heap.size + 1) 2 1 (.slice op q oc) q ((nearT g L k b t).map (Value.int .i64)) := by rw [← hq]; exact Hown.out
          go_wp2_with (first
            | (at_builtin; refine wpList_app1 ty_i64 rfl rfl rfl hown rfl rfl (by omega) (by omega) ?_; intro v' w5 hown' hg _)
            | (go_at_call 66; refine (l1Has_any _ L X _ hnl).mono ?_; rintro e w4 ⟨he4, rfl⟩; rw [hd] at he4; subst he4))
          go_roundw
          case rel =>
            refine ⟨t + 1, by omega, by go_num, ?_, below_grown Hbel.out hown hg (by omega) hsz, Hbx.out.below (below_grown (Below.refl (w.heap.size + 1) wr) hown hg (Nat.le_refl _) (by omega)) (by omega)⟩
            rw [hsucc.out, if_pos ⟨HE.out, HL.out⟩, List.length_append, List.map_append, hq]; exact hown'
          case measure => simp [intOf]; omega
        · have hd := dec_false hXL
          have HL := Lib.hid hXL
          clear hXL
          go_wp2_with (go_at_call 66; refine (l1Has_any _ L X _ hnl).mono ?_; rintro e w4 ⟨he4, rfl⟩; rw [hd] at he4; subst he4)
          go_roundw
          case rel => exact ⟨t + 1, by omega, by go_num, by rw [hsucc.out, if_neg (fun h => HL.out h.2)]; exact Hown.out, Hbel.out, Hbx.out⟩
          case measure => simp [intOf]; omega
    · obtain rfl : t = (row g k).length := by omega
      go_wp2
      go_ret
      have e := nearT_end g L k b
      exact ⟨_, rfl, by rw [← e]; exact ownsRow_base Hown.out (by omega), Hbel.out⟩

end Go.Proofs.YtfokiijcpkhllaaDoor
