/- Walks: the reference's edges. -/
import Derived.Test.YtiooindlpinjhaaDoorBbQ13
import Derived.Test.YtiooindlpinjhaaDoorBbQ3
import Derived.Test.YtiooindlpinjhaaDoorBbQ7
import Derived.Test.YtiooindlpinjhaaDoorBbQ41
import Derived.Test.YtiooindlpinjhaaDoorBbQ1
import Derived.Test.YtiooindlpinjhaaDoorBbQ5
import Derived.Test.YtiooindlpinjhaaDoorBbQ40
namespace Go.Proofs.YtiooindlpinjhaaDoor
open Go.RowKit

set_option maxRecDepth 100000 in
set_option maxHeartbeats 4000000 in
theorem l1EdgesC_any (v : Value) (g : List (List Int)) (hok : GOk g) (w : World) (hg : Gr w v g) :
    Calls Tryd.prog 161 #[v] w fun e w' => ∃ u : Value, e = .returned u ∧ PrsO w' w.heap.size u (edN g.length (ofG g) g.length) ∧ Below w.heap.size w w' := by
  have hg0 := hg
  obtain ⟨u, rfl, hr⟩ := hg
  obtain ⟨p, c, rfl, _⟩ := hr.shape
  have h16 := hok.le
  have hbA := below_alloc w (.cells #[.slice p g.length c] 28)
  have HB := Lib.hid hbA
  have BX := Lib.hid ((Box.new w (.slice p g.length c) 28).alloc (.cells #[] 26))
  have HG := Lib.hid hg0
  have H2 := Lib.hid (gOk_row_le hok)
  have HOK := Lib.hid hok
  have HR := Lib.hid hr
  have HC : Hid (∀ k, k ≤ g.length → (edN g.length (ofG g) k).length ≤ 256) := Lib.hid fun k hk => by
    have := edN_length g.length (ofG g) k
    have : k * g.length ≤ 16 * 16 := Nat.mul_le_mul (by omega) h16
    omega
  clear hr hg0 hbA hok
  go_enter Tryd.func161, Tryd.ntmps161
  go_wp2
  go_loopw [3, 4] (fun u i wr => ∃ k : Nat, k ≤ g.length ∧ i = .int .i64 k ∧ PrsO wr (w.heap.size + 1) u (edN g.length (ofG g) k) ∧ Below w.heap.size w wr ∧ Box wr w.heap.size 28 (.slice p g.length c))
    (fun _ i _ => g.length - (intOf i).toNat)
  case atStart => exact ⟨0, Nat.zero_le _, rfl, by have := PrsO.nil (w.alloc (.cells #[.slice p g.length c] 28)) (w.heap.size + 1) (by rw [size_alloc]; omega); rw [size_alloc] at this; exact this, HB.out.alloc HB.out.size _, BX.out⟩
  case round =>
    obtain ⟨k, hk, rfl, hown, hbel, hbx⟩ := hrel
    have hc := hbx.cell
    have Hbx := Lib.hid hbx
    obtain ⟨outp, outc, rfl⟩ := hown.shape
    have Hown := Lib.hid hown
    have hsz := hbel.size
    clear hown hbx
    by_cases hlt : k < g.length
    · obtain ⟨b, o, rp, rc, rfl, hcell, hnums⟩ := (HR.out.below hbel).get hlt
      change wr.cell? _ = some (.slice rp (row g k).length rc) at hcell
      have Hnums2 : Hid (Nums wr 2 .i64 (.slice rp (row g k).length rc) (row g k)) := Lib.hid hnums
      have hlen2 := H2.out k hlt
      have hck := HC.out k hk
      have HEND := Lib.hid (edT_end HOK.out hlt)
      clear hnums hcell
      go_wp2_with (go_at_call 75; refine (l1Size_any _ g _ (HG.out.below hbel)).mono ?_; rintro e w4 ⟨rfl, hb4⟩)
      have START : Hid (PrsO w4 (w.heap.size + 1) (.slice outp (edN g.length (ofG g) k).length outc) (edN g.length (ofG g) k ++ edT g k 0)) := Lib.hid (by
        have : edT g k 0 = [] := by simp [edT]
        rw [this, List.append_nil]; exact Hown.out.below hb4)
      have HBEL := Lib.hid (hbel.trans (hb4.mono hsz))
      have HBX4 := Lib.hid (Hbx.out.keep hb4)
      go_loopw [3, 5] (fun u i wx => ∃ t : Nat, t ≤ (row g k).length ∧ i = .int .i64 t ∧ PrsO wx (w.heap.size + 1) u (edN g.length (ofG g) k ++ edT g k t) ∧ Below w.heap.size w wx ∧ Box wx w.heap.size 28 (.slice (some ⟨b, o, none⟩) g.length c))
        (fun _ i _ => (row g k).length - (intOf i).toNat)
      case atStart => exact ⟨0, Nat.zero_le _, rfl, START.out, HBEL.out, HBX4.out⟩
      case round =>
        clear START Hown hbel HBEL hsz Hnums2 hc Hbx HBX4 hb4
        obtain ⟨t, ht, rfl, hown, hbel, hbx⟩ := hrel
        have hc := hbx.cell
        have Hbx := Lib.hid hbx
        obtain ⟨_, _, rp, rc, e, hcell, hnums⟩ := (HR.out.below hbel).get hlt
        simp only [Option.some.injEq, Addr.mk.injEq, and_true] at e
        obtain ⟨rfl, rfl⟩ := e
        replace hcell : wr.cell? _ = some (.slice rp (row g k).length rc) := hcell
        replace hnums : Nums wr 2 .i64 (.slice rp (row g k).length rc) (row g k) := hnums
        have hsz := hbel.size
        obtain ⟨outp, outc, rfl⟩ := hown.shape
        clear hbx
        have hte := edT_len g k t
        by_cases hlt2 : t < (row g k).length
        · obtain ⟨rb, ro, rfl, hcx⟩ := hnums.get hlt2
          have hsucc := Lib.hid (edT_succ (g := g) (k := k) hlt2)
          have hX0 := Lib.hid (((HOK.out.sets k hlt).1.1 _ (List.getElem_mem hlt2)).1)
          by_cases hgt : (k : Int) < (row g k)[t]
          · generalize (row g k)[t] = X at hcx hgt hsucc hX0
            obtain ⟨vals, hv1, hv2, hv3⟩ := hown
            have hll : (edN g.length (ofG g) k ++ edT g k t).length < 1000000000 := by rw [List.length_append]; omega
            have HV3 := Lib.hid hv3
            have HV1 := Lib.hid hv1
            clear hnums hv3 hv1 hte
            generalize hq : (edN g.length (ofG g) k ++ edT g k t).length = q at hll hv2
            go_wp2_with (at_builtin; refine wpList_app1s ty_rows64 rfl rfl rfl (hv2.alloc (.cells #[.int .i64 k, .int .i64 X] 2)) (by rw [size_alloc]; rfl) rfl hll (by rw [size_alloc]; omega) ?_; intro b7 c8 w7 hown7 hg7 _)
            go_roundw
            case rel =>
              have ha := below_alloc wr (.cells #[.int .i64 k, .int .i64 X] 2)
              have hrow : Nums (wr.alloc (.cells #[.int .i64 k, .int .i64 X] 2)) 2 .i64 (.slice (some ⟨wr.heap.size, 0, none⟩) 2 2) [((k : Nat) : Int), ((X.toNat : Nat) : Int)] := by
                rw [Int.toNat_of_nonneg hX0.out]
                exact Nums.of_owns (World.ownsRow_lit (size := 1) wr #[.int .i64 k, .int .i64 X] 2 (Nat.le_refl wr.heap.size) (by decide) rfl) rfl (by decide)
              subst hq
              refine ⟨t + 1, by omega, by go_num, ?_, below_grown (hbel.alloc hsz _) (hv2.alloc _) hg7 (by omega) (by rw [size_alloc]; omega), (Hbx.out.keep ha).below (below_grown (Below.refl (w.heap.size + 1) _) (hv2.alloc _) hg7 (Nat.le_refl _) (by rw [size_alloc]; omega)) (by omega)⟩
              rw [hsucc.out, if_pos hgt, ← List.append_assoc]
              exact PrsO.snoc (e := (k, X.toNat)) HV1.out (hv2.alloc _) (fun j hj => (HV3.out j hj).below ha) hown7 hg7 hrow
            case measure => simp [intOf]; omega
          · have Hown := Lib.hid hown
            generalize (row g k)[t] = X at hcx hgt hsucc hX0
            clear hown hnums
            go_wp2
            go_roundw
            case rel => exact ⟨t + 1, by omega, by go_num, by rw [hsucc.out, if_neg hgt]; exact Hown.out, hbel, Hbx.out⟩
            case measure => simp [intOf]; omega
        · obtain rfl : t = (row g k).length := by omega
          have Hown := Lib.hid hown
          clear hown hnums
          go_wp2
          go_roundw
          case rel =>
            refine ⟨k + 1, by omega, by go_num, ?_, hbel, Hbx.out⟩
            rw [edN_succ, ← HEND.out]
            exact Hown.out
          case measure => simp [intOf]; omega
    · obtain rfl : k = g.length := by omega
      go_wp2_with (go_at_call 75; refine (l1Size_any _ g _ (HG.out.below hbel)).mono ?_; rintro e w4 ⟨rfl, hb4⟩)
      go_ret
      exact ⟨_, rfl, (Hown.out.below hb4).base (by omega), hbel.trans (hb4.mono hsz)⟩

set_option maxHeartbeats 1000000 in
theorem specEdgesOf_any (v : Value) (g : List (List Int)) (hok : GOk g) (w : World) (hg : Gr w v g) :
    Calls Tryd.prog 146 #[v] w fun e w' => ∃ u : Value, e = .returned u ∧ PrsO w' w.heap.size u (edN g.length (ofG g) g.length) ∧ Below w.heap.size w w' := by
  have hg0 := hg
  obtain ⟨u, rfl, hr⟩ := hg
  obtain ⟨p, c, rfl, _⟩ := hr.shape
  have hbA := Lib.hid (below_alloc w (.cells #[.slice p g.length c] 28))
  have HG := Lib.hid (hg0.below hbA.out)
  have BX := Lib.hid (Box.new w (.slice p g.length c) 28)
  have HOK := Lib.hid hok
  have hd := Lib.hid (dec_true hok)
  clear hr hg0 hok
  go_enter Tryd.func146, Tryd.ntmps146
  go_wp2_with (first
    | (go_at_call 45; refine (specGraphOk_any _ g _ HG.out).mono ?_; rintro e w2 ⟨he, hb2⟩; rw [hd.out] at he; subst he; have hcx := (BX.out.keep hb2).cell)
    | (go_at_call 161; refine (l1EdgesC_any _ g HOK.out _ (HG.out.below hb2)).mono ?_; rintro e w3 ⟨u3, rfl, hp3, hb3⟩))
  go_ret
  have h1 := hbA.out.trans (hb2.mono hbA.out.size)
  exact ⟨_, rfl, hp3.base h1.size, h1.trans (hb3.mono h1.size)⟩

end Go.Proofs.YtiooindlpinjhaaDoor

/- Walk: the reference's least edge between two sets. -/
namespace Go.Proofs.YtiooindlpinjhaaDoor
open Go.RowKit

end Go.Proofs.YtiooindlpinjhaaDoor

/- Walk: how the reference tells a model. -/
namespace Go.Proofs.YtiooindlpinjhaaDoor
open Go.RowKit

theorem three_boxesM (w : World) (a b c : Value) (T1 T2 T3 : TypeId) : ∃ W, W = ((w.alloc (.cells #[a] T1)).alloc (.cells #[b] T2)).alloc (.cells #[c] T3) ∧ Below w.heap.size w W ∧ W.heap.size = w.heap.size + 3 ∧
    Box W w.heap.size T1 a ∧ Box W (w.heap.size + 1) T2 b ∧ Box W (w.heap.size + 2) T3 c := by
  refine ⟨_, rfl, (below_alloc2 _ _ _).alloc (by rw [size_alloc, size_alloc]; omega) _, by rw [size_alloc, size_alloc, size_alloc], ((Box.new w _ _).alloc _).alloc _, ?_, ?_⟩
  · have := Box.new (w.alloc (.cells #[a] T1)) b T2
    rw [size_alloc] at this
    exact this.alloc _
  · have := Box.new ((w.alloc (.cells #[a] T1)).alloc (.cells #[b] T2)) c T3
    rw [size_alloc, size_alloc] at this
    exact this

theorem mdOk_sets {g q M : List (List Int)} (h : MdOk g q M) {a : Nat} (ha : a < M.length) : SetIn g.length (row M a) := (h.1.1.1.2 a ha).1

end Go.Proofs.YtiooindlpinjhaaDoor

/- Two boxes. -/
namespace Go.Proofs.YtiooindlpinjhaaDoor
open Go.RowKit

theorem two_boxesM (w : World) (a b : Value) (T1 T2 : TypeId) : ∃ W, W = (w.alloc (.cells #[a] T1)).alloc (.cells #[b] T2) ∧ Below w.heap.size w W ∧ W.heap.size = w.heap.size + 2 ∧ Box W w.heap.size T1 a ∧ Box W (w.heap.size + 1) T2 b := by
  have h2 := Box.new (w.alloc (.cells #[a] T1)) b T2
  rw [size_alloc] at h2
  exact ⟨_, rfl, below_alloc2 _ _ _, by rw [size_alloc, size_alloc], (Box.new w a T1).alloc _, h2⟩

end Go.Proofs.YtiooindlpinjhaaDoor

/- What the laws of several arguments use: arguments of bounded size, what stands after some copies, boxes. -/
namespace Go.Proofs.YtiooindlpinjhaaDoor
open Go.RowKit

def SzG (g : List (List Int)) : Prop := g.length ≤ 1048576 ∧ ∀ j, j < g.length → (row g j).length ≤ 1048576
theorem OwnG.gr' {w : World} {base : Nat} {v : Value} {g : List (List Int)} (h : OwnG w base v g) (hs : SzG g) : Gr w v g :=
  h.gr (by have := hs.1; omega) fun j hj => by have := hs.2 j hj; omega
/-- What stands after some of the copies. -/
structure StM (W2 w' : World) (ys : List (Value × List (List Int))) : Prop where
  bel : Below W2.heap.size W2 w'
  own : ∀ y ∈ ys, OwnG w' W2.heap.size y.1 y.2
theorem StM.next {W2 w' w'' : World} {ys : List (Value × List (List Int))} (h : StM W2 w' ys) (hb : Below w'.heap.size w' w'') : StM W2 w'' ys :=
  ⟨h.bel.trans (hb.mono h.bel.size), fun y hy => (h.own y hy).below hb⟩
theorem StM.add {W2 w' w'' : World} {ys : List (Value × List (List Int))} {u : Value} {g : List (List Int)} (h : StM W2 w' ys) (hb : Below w'.heap.size w' w'') (ho : OwnG w'' w'.heap.size u g) : StM W2 w'' ((u, g) :: ys) :=
  ⟨(h.next hb).bel, fun y hy => by
    rcases List.mem_cons.1 hy with rfl | h1
    · exact ho.lower h.bel.size
    · exact (h.next hb).own y h1⟩
end Go.Proofs.YtiooindlpinjhaaDoor

/- Walks: the reference's TreeWidth of a right graph of ten vertices at most. -/
namespace Go.Proofs.YtiooindlpinjhaaDoor
open Go.RowKit

set_option maxRecDepth 100000 in
set_option maxHeartbeats 2000000 in
theorem l10Table_any (v : Value) (g : List (List Int)) (hok : GOk g) (w : World) (hg : Gr w v g) :
    Calls Tryd.prog 152 #[v] w fun e w' => ∃ kb, e = .returned (.slice (some ⟨kb, 0, none⟩) (2 ^ g.length) (2 ^ g.length)) ∧ w'.ownsRow w.heap.size 2 1 (.slice (some ⟨kb, 0, none⟩) (2 ^ g.length) (2 ^ g.length)) (2 ^ g.length) ((List.replicate (2 ^ g.length) (-1 : Int)).map (Value.int .i64)) ∧ Below w.heap.size w w' := by
  have h16 := hok.le
  have hg0 := hg
  obtain ⟨gu, rfl, hr⟩ := hg
  obtain ⟨p, c, rfl, _⟩ := hr.shape
  obtain ⟨W0, hW0⟩ : ∃ W0, W0 = w.alloc (.cells #[.slice p g.length c] 28) := ⟨_, rfl⟩
  have HB0 : Hid (Below w.heap.size w W0) := Lib.hid (by rw [hW0]; exact below_alloc _ _)
  have HBG : Hid (Box W0 w.heap.size 28 (.slice p g.length c)) := Lib.hid (by rw [hW0]; exact Box.new _ _ _)
  have HG := Lib.hid (hg0.below HB0.out)
  have SZ0 : Hid (W0.heap.size = w.heap.size + 1) := Lib.hid (by rw [hW0, size_alloc])
  clear hr hg0 hok
  go_enter Tryd.func152, Tryd.ntmps152
  go_upto_region 1 with fail
  rw [← hW0]
  clear hW0
  go_wp2_with fail
  go_loopw [3, 4] (fun sv iv wr => ∃ k : Nat, k ≤ g.length ∧ iv = .int .i64 k ∧ Hid (sv = .int .i64 ((2 ^ k : Nat) : Int)) ∧ Below W0.heap.size W0 wr) (fun _ iv _ => g.length - (intOf iv).toNat)
  case atStart => exact ⟨0, Nat.zero_le _, rfl, Lib.hid rfl, Below.refl _ _⟩
  case round =>
    obtain ⟨k, hk, rfl, hsv, hb⟩ := hrel
    have HB := Lib.hid hb
    have hcg := hb.at (by have := SZ0.out; omega) HBG.out.cell
    obtain ⟨q, hq⟩ : ∃ q, q = 2 ^ k := ⟨_, rfl⟩
    have hsv' := hsv.out
    rw [← hq] at hsv'
    subst hsv'
    have hq16 : q ≤ 65536 := by rw [hq]; exact Nat.le_trans (Nat.pow_le_pow_right (by omega) (show k ≤ 16 by omega)) (Nat.le_refl _)
    have HQ := Lib.hid hq
    clear hsv hb hq
    by_cases hlt : k < g.length
    · have hwr : IntKind.i64.wrap ((q : Int) * 2) = ((q * 2 : Nat) : Int) := by rw [IntKind.wrap_i64]; omega
      go_wp2_with (go_at_call 75; refine (l1Size_any _ g _ (HG.out.below HB.out)).mono ?_; rintro e w2 ⟨rfl, hb2⟩; have HB2 := Lib.hid (HB.out.trans (hb2.mono HB.out.size)); clear hb2)
      go_roundw
      case rel => exact ⟨k + 1, by omega, by go_num, Lib.hid (by rw [Nat.pow_succ, ← HQ.out]; first | rfl | (congr 1)), HB2.out⟩
      case measure => simp [intOf]; omega
    · obtain rfl : k = g.length := by omega
      have hq1 : 1 ≤ q := by rw [HQ.out]; exact Nat.one_le_two_pow
      go_upto_region 7 with (first
        | (go_at_call 75; refine (l1Size_any _ g _ (HG.out.below HB.out)).mono ?_; rintro e w2 ⟨rfl, hb2⟩; have HB2 := Lib.hid (HB.out.trans (hb2.mono HB.out.size)); clear hb2)
        | (at_make; refine wpList_mk ty_i64 rfl rfl rfl q rfl rfl (by rfl) (by rfl) (by omega) ?_; intro w3 hown3 hg3))
      have HO3 : Hid (w3.ownsRow w2.heap.size 2 1 (.slice (some ⟨w2.heap.size, 0, none⟩) q q) q ((List.replicate 0 (-1 : Int) ++ List.replicate (q - 0) 0).map (Value.int .i64))) := Lib.hid (by
        have e : (List.replicate 0 (-1 : Int) ++ List.replicate (q - 0) 0).map (Value.int .i64) = List.replicate q (Value.int .i64 0) := by simp
        rw [e]; exact hown3)
      have HB3 : Hid (Below W0.heap.size W0 w3) := Lib.hid (HB2.out.trans ((grown_below hg3).mono HB2.out.size))
      obtain ⟨kb, hkb⟩ : ∃ kb, kb = w2.heap.size := ⟨_, rfl⟩
      have hkb0 : W0.heap.size ≤ kb := by rw [hkb]; exact HB2.out.size
      rw [← hkb] at HO3 ⊢
      clear hown3 hg3 hkb hcg HB
      go_wp2_with fail
      go_loopw [6] (fun iv wr => ∃ k : Nat, k ≤ q ∧ iv = .int .i64 k ∧ Hid (wr.ownsRow kb 2 1 (.slice (some ⟨kb, 0, none⟩) q q) q ((List.replicate k (-1 : Int) ++ List.replicate (q - k) 0).map (Value.int .i64))) ∧ Hid (Below W0.heap.size W0 wr)) (fun iv _ => q - (intOf iv).toNat)
      case atStart => exact ⟨0, Nat.zero_le _, rfl, HO3, HB3⟩
      case round =>
        clear HO3 HB3
        obtain ⟨k, hk, rfl, HO, HB⟩ := hrel
        by_cases hlt : k < q
        · have hck : wr.cell? ⟨kb, k, none⟩ = some (.int .i64 0) := by
            rw [HO.out.cellAt k (by omega)]
            rw [List.getElem?_map, List.getElem?_append_right (by simp), List.length_replicate, Nat.sub_self, List.getElem?_replicate, if_pos (by omega)]
            rfl
          have hfk := HO.out.frozenAt k
          have HS : Hid ((wr.setCell ⟨kb, k, none⟩ (.int .i64 (-1))).ownsRow kb 2 1 (.slice (some ⟨kb, 0, none⟩) q q) q ((List.replicate (k + 1) (-1 : Int) ++ List.replicate (q - (k + 1)) 0).map (Value.int .i64))) := Lib.hid (by
            have h := (HO.out.stored k (.int .i64 (-1))).1
            rw [← List.map_set] at h
            have e : (List.replicate k (-1 : Int) ++ List.replicate (q - k) 0).set k (-1) = List.replicate (k + 1) (-1 : Int) ++ List.replicate (q - (k + 1)) 0 := by
              rw [List.set_append_right _ _ (by simp)]
              obtain ⟨d, hd⟩ : ∃ d, q - k = d + 1 := ⟨q - k - 1, by omega⟩
              rw [hd, List.replicate_succ, show q - (k + 1) = d by omega, List.replicate_succ']
              simp
            rwa [e] at h)
          have HBS : Hid (Below W0.heap.size W0 (wr.setCell ⟨kb, k, none⟩ (.int .i64 (-1)))) := Lib.hid (HB.out.setCell (p := ⟨kb, k, none⟩) hkb0 _)
          go_wp2_with fail
          go_roundw
          case rel => exact ⟨k + 1, by omega, by go_num, HS, HBS⟩
          case measure => simp [intOf]; omega
        · obtain rfl : k = q := by omega
          go_wp2_with fail
          go_ret
          rw [← HQ.out]
          refine ⟨kb, rfl, ?_, HB0.out.trans (HB.out.mono HB0.out.size)⟩
          have h := HO.out
          rw [Nat.sub_self, List.replicate_zero, List.append_nil] at h
          exact ownsRow_base h (by have := SZ0.out; omega)
set_option maxRecDepth 100000 in
set_option maxHeartbeats 1000000 in
theorem l10Marks_none (v : Value) (lp : Option Addr) (lc : Nat) (g : List (List Int)) (hok : GOk g) (w : World) (hg : Gr w v g) :
    Calls Tryd.prog 114 #[v, .slice lp 0 lc] w fun e w' => ∃ gb, e = .returned (.slice (some ⟨gb, 0, none⟩) g.length g.length) ∧ w'.ownsRow w.heap.size 4 1 (.slice (some ⟨gb, 0, none⟩) g.length g.length) g.length (boolsOf g.length (Nat.testBit 0)) ∧ Below w.heap.size w w' := by
  have h16 := hok.le
  have hg0 := hg
  obtain ⟨gu, rfl, hr⟩ := hg
  obtain ⟨p, c, rfl, _⟩ := hr.shape
  obtain ⟨W0, hW0⟩ : ∃ W0, W0 = w.alloc (.cells #[.slice p g.length c] 28) := ⟨_, rfl⟩
  have HB0 : Hid (Below w.heap.size w W0) := Lib.hid (by rw [hW0]; exact below_alloc _ _)
  have HBG : Hid (Box W0 w.heap.size 28 (.slice p g.length c)) := Lib.hid (by rw [hW0]; exact Box.new _ _ _)
  have HG := Lib.hid (hg0.below HB0.out)
  have hcg := HBG.out.cell
  have e0 : List.replicate g.length (Value.bool false) = boolsOf g.length (Nat.testBit 0) := List.ext_getElem (by simp [boolsOf]) fun j h1 h2 => by simp [boolsOf]
  have E0 := Lib.hid e0
  clear hr hg0 hok e0
  go_enter Tryd.func114, Tryd.ntmps114
  go_upto_region 1 with fail
  rw [← hW0]
  clear hW0
  go_upto_region 2 with (first
    | (go_at_call 75; refine (l1Size_any _ g _ HG.out).mono ?_; rintro e w2 ⟨rfl, hb2⟩; have HB2 := Lib.hid hb2; clear hb2)
    | (at_make; refine wpList_mk ty_bool rfl rfl rfl g.length rfl rfl rfl rfl (by omega) ?_; intro w3 hown3 hg3; have HO3 := Lib.hid hown3; have HB3 := Lib.hid (HB2.out.trans ((grown_below hg3).mono HB2.out.size)); clear hown3 hg3))
  have s2 := HB2.out.size
  have s0 := HB0.out.size
  go_wp2_with fail
  refine wp_loop_rounds 1 ?_
  rw [rounds_succ]
  go_wp2_with fail
  go_ret
  exact ⟨_, rfl, ownsRow_base (by rw [← E0.out]; exact HO3.out) (by omega), HB0.out.trans (HB3.out.mono s0)⟩
set_option maxRecDepth 100000 in
set_option maxHeartbeats 1000000 in
theorem l10Wide_yes (v : Value) (g : List (List Int)) (hok : GOk g) (h10 : g.length ≤ 10) (w : World) (hg : Gr w v g) :
    Calls Tryd.prog 150 #[v] w fun e w' => e = .returned (.bool true) ∧ Below w.heap.size w w' := by
  have hg0 := hg
  obtain ⟨gu, rfl, hr⟩ := hg
  obtain ⟨p, c, rfl, _⟩ := hr.shape
  obtain ⟨W0, hW0⟩ : ∃ W0, W0 = w.alloc (.cells #[.slice p g.length c] 28) := ⟨_, rfl⟩
  have HB0 : Hid (Below w.heap.size w W0) := Lib.hid (by rw [hW0]; exact below_alloc _ _)
  have HBG : Hid (Box W0 w.heap.size 28 (.slice p g.length c)) := Lib.hid (by rw [hW0]; exact Box.new _ _ _)
  have HG := Lib.hid (hg0.below HB0.out)
  have hcg := HBG.out.cell
  have HD := Lib.hid (dec_true hok)
  have s0 := HB0.out.size
  clear hr hg0 hok
  go_enter Tryd.func150, Tryd.ntmps150
  go_upto_region 1 with fail
  rw [← hW0]
  clear hW0
  go_wp2_with (first
    | (go_at_call 45; refine (specGraphOk_any _ g _ HG.out).mono ?_; rintro e w2 ⟨he, hb2⟩; rw [HD.out] at he; subst he; have hcg2 := hb2.at' hcg; have HB2 := Lib.hid hb2; clear hb2)
    | (go_at_call 75; refine (l1Size_any _ g _ (HG.out.below HB2.out)).mono ?_; rintro e w3 ⟨rfl, hb3⟩; have HB3 := Lib.hid (HB2.out.trans (hb3.mono HB2.out.size)); clear hb3))
  go_ret
  exact ⟨ret_bool (decide_eq_true (by omega)), HB0.out.trans (HB3.out.mono s0)⟩
theorem kok_start (n : Nat) (E : Nat → Nat → Bool) : KOk n E (2 ^ n) (List.replicate (2 ^ n) (-1)) := ⟨by simp, rfl, fun c hc => .inl (by simp [hc])⟩
set_option maxRecDepth 100000 in
set_option maxHeartbeats 4000000 in
theorem specWidthFrom_none (v : Value) (lp : Option Addr) (lc : Nat) (g : List (List Int)) (hok : GOk g) (h10 : g.length ≤ 10) (w : World) (hg : Gr w v g) (hn : Nums w 2 .i64 (.slice lp 0 lc) []) :
    Calls Tryd.prog 109 #[v, .slice lp 0 lc] w fun e w' => e = .returned (.int .i64 (twS g.length (ofG g) 0 : Int)) ∧ Below w.heap.size w w' := by
  have hg0 := hg
  obtain ⟨gu, rfl, hr⟩ := hg
  obtain ⟨p, c, rfl, _⟩ := hr.shape
  obtain ⟨W0, hW0⟩ : ∃ W0, W0 = w.alloc (.cells #[.slice p g.length c] 28) := ⟨_, rfl⟩
  have HB0 : Hid (Below w.heap.size w W0) := Lib.hid (by rw [hW0]; exact below_alloc _ _)
  have HBG : Hid (Box W0 w.heap.size 28 (.slice p g.length c)) := Lib.hid (by rw [hW0]; exact Box.new _ _ _)
  have HG := Lib.hid (hg0.below HB0.out)
  have HN := Lib.hid (hn.below HB0.out)
  have hcg := HBG.out.cell
  have HOK := Lib.hid hok
  have s0 := HB0.out.size
  have HD := Lib.hid (dec_true (setIn_nil (g.length : Int)))
  obtain ⟨N, hN⟩ : ∃ N, N = 2 ^ g.length := ⟨_, rfl⟩
  have HNN := Lib.hid hN
  have HKO : Hid (KOk g.length (ofG g) N (List.replicate N (-1))) := Lib.hid (by rw [hN]; exact kok_start _ _)
  have HTB : Hid (∀ w v, Gr w v g → Calls Tryd.prog 152 #[v] w fun e w' => ∃ kb, e = .returned (.slice (some ⟨kb, 0, none⟩) N N) ∧ w'.ownsRow w.heap.size 2 1 (.slice (some ⟨kb, 0, none⟩) N N) N ((List.replicate N (-1 : Int)).map (Value.int .i64)) ∧ Below w.heap.size w w') := Lib.hid (fun w v h => by rw [hN]; exact l10Table_any v g hok w h)
  have HN1 : Hid (0 < N) := Lib.hid (by rw [hN]; exact Nat.one_le_two_pow)
  have h16 := hok.le
  clear hr hg0 hok hn hN
  go_enter Tryd.func109, Tryd.ntmps109
  go_upto_region 1 with fail
  rw [← hW0]
  clear hW0
  go_upto_region 3 with (first
    | (go_at_call 150; refine (l10Wide_yes _ g HOK.out h10 _ HG.out).mono ?_; rintro e w2 ⟨rfl, hb2⟩; have hcg2 := hb2.at' hcg; have HB2 := Lib.hid hb2; clear hb2)
    | (go_at_call 75; refine (l1Size_any _ g _ (HG.out.below HB2.out)).mono ?_; rintro e w3 ⟨rfl, hb3⟩; have HB3 := Lib.hid (HB2.out.trans (hb3.mono HB2.out.size)); have hcg3 := hb3.at' hcg2; clear hb3 hcg2)
    | (go_at_call 117; refine (l1Set_any _ [] _ (by omega) (by omega) _ (HN.out.below HB3.out)).mono ?_; rintro e w4 ⟨he, hb4⟩; rw [HD.out] at he; subst he; have HB4 := Lib.hid (HB3.out.trans (hb4.mono HB3.out.size)); have hcg4 := hb4.at' hcg3; clear hb4 hcg3))
  clear hcg
  have HG4 := Lib.hid (HG.out.below HB4.out)
  have s4 := HB4.out.size
  go_region_held3 (fun w' => w'.cell? ⟨w.heap.size, 0, none⟩ = some (.slice p g.length c))
    (first | exact hcg4 | exact HZ.out.at' hcg4 | go_keep | exact BM.at' hcg4 | exact BT.at' hcg4 | exact HBL.out.at' hcg4)
    (first
      | (go_at_call 114; refine (l10Marks_none _ _ _ g HOK.out _ (HG4.out.below BT)).mono ?_; rintro e wf ⟨gb, rfl, ho, hb⟩; have HBL : Hid (Below w4.heap.size w4 wf) := Lib.hid (BT.trans (hb.mono BT.size)); have HLF : Hid (LfR wf w4.heap.size wf.heap.size gb kb g.length N 0 (List.replicate N (-1))) := Lib.hid ⟨ownsRow_base ho BT.size, ownsRow_below HT.out hb, fun e => (by have h1 := (ho.lt gb rfl).1; have h2 := (HT.out.lt kb rfl).2; omega), (ho.lt gb rfl).2, Nat.lt_of_lt_of_le (HT.out.lt kb rfl).2 hb.size, Nat.le_refl _⟩; clear ho hb)
      | (go_at_call 114; refine (l10Marks_none _ _ _ g HOK.out _ (HG4.out.below (below_dN (Below.refl _ _) 1))).mono ?_; rintro e wm ⟨gb, rfl, ho, hb⟩; have BM : Below w4.heap.size w4 wm := (below_dN (Below.refl _ _) 1).trans hb; have HM : Hid (wm.ownsRow w4.heap.size 4 1 (.slice (some ⟨gb, 0, none⟩) g.length g.length) g.length (boolsOf g.length (Nat.testBit 0))) := Lib.hid ho; clear ho hb)
      | (go_at_call 152; refine (HTB.out _ _ (HG4.out.below BM)).mono ?_; rintro e wf ⟨kb, rfl, ho, hb⟩; have HBL : Hid (Below w4.heap.size w4 wf) := Lib.hid (BM.trans (hb.mono BM.size)); have HLF : Hid (LfR wf w4.heap.size wf.heap.size gb kb g.length N 0 (List.replicate N (-1))) := Lib.hid ⟨ownsRow_below HM.out hb, ownsRow_base ho BM.size, fun e => (by have h1 := (ho.lt kb rfl).1; have h2 := (HM.out.lt gb rfl).2; omega), Nat.lt_of_lt_of_le (HM.out.lt gb rfl).2 hb.size, (ho.lt kb rfl).2, Nat.le_refl _⟩; clear ho hb)
      | (go_at_call 152; refine (HTB.out _ _ (HG4.out.below (below_dN (Below.refl _ _) 1))).mono ?_; rintro e wt ⟨kb, rfl, ho, hb⟩; have BT : Below w4.heap.size w4 wt := (below_dN (Below.refl _ _) 1).trans hb; have HT : Hid (wt.ownsRow w4.heap.size 2 1 (.slice (some ⟨kb, 0, none⟩) N N) N ((List.replicate N (-1 : Int)).map (Value.int .i64))) := Lib.hid ho; clear ho hb)
      | (go_at_call 151; refine (l10From_any _ g HOK.out w4.heap.size wf.heap.size gb kb N HNN.out w4 (Nat.le_refl _) HG4.out _ 0 (List.replicate N (-1)) _ rfl HN1.out HKO.out HLF.out HBL.out).mono ?_; rintro e wz ⟨rfl, K', _, _, ha⟩; have HZ : Hid (Below w4.heap.size w4 wz) := Lib.hid (HBL.out.trans (ha.below HBL.out.size)); clear ha))
  all_goals go_wp2
  all_goals go_ret
  all_goals exact ⟨rfl, HB0.out.trans ((HB4.out.trans (HZ.out.mono s4)).mono s0)⟩
set_option maxRecDepth 100000 in
set_option maxHeartbeats 1000000 in
theorem specTreeWidth_any (v : Value) (g : List (List Int)) (hok : GOk g) (h10 : g.length ≤ 10) (w : World) (hg : Gr w v g) :
    Calls Tryd.prog 40 #[v] w fun e w' => e = .returned (.int .i64 (twS g.length (ofG g) 0 : Int)) ∧ Below w.heap.size w w' := by
  have hg0 := hg
  obtain ⟨gu, rfl, hr⟩ := hg
  obtain ⟨p, c, rfl, _⟩ := hr.shape
  obtain ⟨W0, hW0⟩ : ∃ W0, W0 = w.alloc (.cells #[.slice p g.length c] 28) := ⟨_, rfl⟩
  have HB0 : Hid (Below w.heap.size w W0) := Lib.hid (by rw [hW0]; exact below_alloc _ _)
  have HBG : Hid (Box W0 w.heap.size 28 (.slice p g.length c)) := Lib.hid (by rw [hW0]; exact Box.new _ _ _)
  have HG := Lib.hid ((hg0.below HB0.out).below (below_alloc W0 (.cells #[] 2)))
  have HN : Hid (Nums (W0.alloc (.cells #[] 2)) 2 .i64 (.slice (some ⟨W0.heap.size, 0, none⟩) 0 0) []) := Lib.hid (Nums.of_owns (ownsRow_empty W0 2 1) rfl (by omega))
  have HBA := Lib.hid (below_alloc W0 (.cells #[] 2))
  have hcg := HBG.out.cell
  have HOK := Lib.hid hok
  have s0 := HB0.out.size
  clear hr hg0 hok
  go_enter Tryd.func40, Tryd.ntmps40
  go_upto_region 1 with fail
  rw [← hW0]
  clear hW0
  go_wp2_with (go_at_call 109; refine (specWidthFrom_none _ _ _ g HOK.out h10 _ HG.out HN.out).mono ?_; rintro e w2 ⟨rfl, hb2⟩; have HB2 := Lib.hid (HBA.out.trans (hb2.mono HBA.out.size)); clear hb2)
  go_ret
  exact ⟨rfl, HB0.out.trans (HB2.out.mono s0)⟩

end Go.Proofs.YtiooindlpinjhaaDoor
