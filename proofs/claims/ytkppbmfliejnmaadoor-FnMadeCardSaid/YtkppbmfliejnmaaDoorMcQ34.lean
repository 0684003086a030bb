/- Walks: the edges of a graph, of both; how many. -/
import Derived.Test.YtkppbmfliejnmaaDoorMcQ7
import Derived.Test.YtkppbmfliejnmaaDoorMcQ13
import Derived.Test.YtkppbmfliejnmaaDoorMcQ4
import Derived.Test.YtkppbmfliejnmaaDoorMcQ33
namespace Go.Proofs.YtkppbmfliejnmaaDoor
open Go.RowKit

theorem up_u (k : Nat) (xs : List Int) {i : Nat} (h : i < xs.length) (e : (k : Int) < xs[i]) : upL k (xs.take (i + 1)) = upL k (xs.take i) + 1 := by rw [upL_snoc h, if_pos e]
theorem up_n (k : Nat) (xs : List Int) {i : Nat} (h : i < xs.length) (e : ¬ (k : Int) < xs[i]) : upL k (xs.take (i + 1)) = upL k (xs.take i) := by rw [upL_snoc h, if_neg e, Nat.add_zero]

set_option maxRecDepth 100000 in
set_option maxHeartbeats 4000000 in
theorem l1Edges_any (v : Value) (g : List (List Int)) (h16 : g.length ≤ 16) (h2 : ∀ j, (row g j).length ≤ 16) (w : World) (hg : Gr w v g) :
    Calls Tryd.prog 140 #[v] w fun e w' => ∃ (u : Value) (vals : List Value), e = .returned u ∧ w'.ownsRow w.heap.size 33 1 u (cntE g g.length) vals ∧ Below w.heap.size w w' := by
  have hg0 := hg
  obtain ⟨u, rfl, hr⟩ := hg
  obtain ⟨p, c, rfl, _⟩ := hr.shape
  have hbA := below_alloc w (.cells #[.slice p g.length c] 29)
  have HB := Lib.hid hbA
  have BX := Lib.hid ((Box.new w (.slice p g.length c) 29).alloc (.cells #[] 33))
  have HG := Lib.hid hg0
  have H2 := Lib.hid h2
  have HR := Lib.hid hr
  have HC := Lib.hid (cntE_le h2)
  clear hr hg0 hbA h2
  go_enter Tryd.func140, Tryd.ntmps140
  go_wp2
  go_loopw [3, 4] (fun u i wr => ∃ (k : Nat) (vals : List Value), k ≤ g.length ∧ i = .int .i64 k ∧ wr.ownsRow (w.heap.size + 1) 33 1 u (cntE g k) vals ∧ Below w.heap.size w wr ∧ Box wr w.heap.size 29 (.slice p g.length c))
    (fun _ i _ => g.length - (intOf i).toNat)
  case atStart => exact ⟨0, [], Nat.zero_le _, rfl, ownsRow_empty' _ _ _ _ _ (Nat.le_refl _), HB.out.alloc HB.out.size _, BX.out⟩
  case round =>
    obtain ⟨k, vals, hk, rfl, hown, hbel, hbx⟩ := hrel
    have hc := hbx.cell
    obtain ⟨outp, outc, rfl⟩ := owns_shape hown
    have Hown := Lib.hid hown
    have Hbx := Lib.hid hbx
    have hsz := hbel.size
    clear hown hbx
    by_cases hlt : k < g.length
    · obtain ⟨b, o, rp, rc, rfl, hcell, hnums⟩ := (HR.out.below hbel).get hlt
      clear hcell hnums
      go_wp2_with (go_at_call 132; refine (l1Size_any _ g _ (HG.out.below hbel)).mono ?_; rintro e w4 ⟨rfl, hb4⟩)
      have START : Hid (w4.ownsRow (w.heap.size + 1) 33 1 (.slice outp (cntE g k) outc) (cntE g k) vals ∧ Below w.heap.size w w4 ∧ Box w4 w.heap.size 29 (.slice (some ⟨b, o, none⟩) g.length c)) := Lib.hid
        ⟨ownsRow_below Hown.out hb4, hbel.trans (hb4.mono hsz), Hbx.out.keep hb4⟩
      go_loopw [3, 5] (fun u i wr => ∃ (t : Nat) (vals : List Value), t ≤ (row g k).length ∧ i = .int .i64 t ∧ wr.ownsRow (w.heap.size + 1) 33 1 u (cntE g k + upL k ((row g k).take t)) vals ∧ Below w.heap.size w wr ∧ Box wr w.heap.size 29 (.slice (some ⟨b, o, none⟩) g.length c))
        (fun _ i _ => (row g k).length - (intOf i).toNat)
      case atStart => exact ⟨0, vals, Nat.zero_le _, rfl, START.out.1, START.out.2.1, START.out.2.2⟩
      case round =>
        clear START Hown Hbx hc hbel hsz
        obtain ⟨t, vals2, ht, rfl, hown, hbel, hbx⟩ := hrel
        have hc := hbx.cell
        have hsz := hbel.size
        obtain ⟨outp, outc, rfl⟩ := owns_shape hown
        obtain ⟨_, _, rp, rc, e1, hcell, hnums⟩ := (HR.out.below hbel).get hlt
        cases e1
        have hlen2 := H2.out k
        have hck := HC.out k
        change wr.cell? _ = some (.slice rp (row g k).length rc) at hcell
        change Nums wr _ _ (.slice rp (row g k).length rc) (row g k) at hnums
        have hcb : cntE g k + upL k ((row g k).take t) < 1000000000 := by
          have := upL_le k ((row g k).take t)
          rw [List.length_take] at this
          have : k * 16 ≤ 16 * 16 := Nat.mul_le_mul_right _ (by omega)
          omega
        have Hbx := Lib.hid hbx
        have Hhck := Lib.hid hck
        clear hbx hck
        by_cases hlt2 : t < (row g k).length
        · obtain ⟨rb, ro, rfl, hcx⟩ := hnums.get hlt2
          by_cases hgt : (k : Int) < (row g k)[t]
          · have Hup := Lib.hid (up_u k (row g k) hlt2 hgt)
            generalize (row g k)[t] = X at hcx hgt
            go_wp2_with (at_builtin; refine wpList_app1s ty_rows64 rfl rfl rfl (hown.alloc (.cells #[.int .i64 k, .int .i64 X] 2)) (by rw [size_alloc]; rfl) rfl hcb (by rw [size_alloc]; omega) ?_; intro b7 c8 w7 hown7 hg7 _)
            go_roundw
            case rel =>
              have ha := below_alloc wr (.cells #[.int .i64 k, .int .i64 X] 2)
              refine ⟨t + 1, _, by omega, by go_num, by rw [Hup.out, ← Nat.add_assoc]; exact hown7, below_grown (hbel.alloc hsz _) (hown.alloc _) hg7 (by omega) (by rw [size_alloc]; omega), ?_⟩
              exact (Hbx.out.keep ha).below (below_grown (Below.refl (w.heap.size + 1) _) (hown.alloc _) hg7 (Nat.le_refl _) (by rw [size_alloc]; omega)) (by omega)
            case measure => simp [intOf]; omega
          · have Hup := Lib.hid (up_n k (row g k) hlt2 hgt)
            have Hown := Lib.hid hown
            generalize (row g k)[t] = X at hcx hgt
            clear hown
            go_wp2
            go_roundw
            case rel => exact ⟨t + 1, _, by omega, by go_num, by rw [Hup.out]; exact Hown.out, hbel, Hbx.out⟩
            case measure => simp [intOf]; omega
        · obtain rfl : t = (row g k).length := by omega
          have Hown := Lib.hid hown
          clear hown hnums
          go_wp2
          go_roundw
          case rel =>
            refine ⟨k + 1, vals2, by omega, by go_num, ?_, hbel, Hbx.out⟩
            rw [show cntE g (k + 1) = cntE g k + upL k ((row g k).take (row g k).length) from by rw [List.take_length]; rfl]
            exact Hown.out
          case measure => simp [intOf]; omega
    · obtain rfl : k = g.length := by omega
      go_wp2_with (go_at_call 132; refine (l1Size_any _ g _ (HG.out.below hbel)).mono ?_; rintro e w4 ⟨rfl, hb4⟩)
      go_ret
      exact ⟨_, _, rfl, ownsRow_base (ownsRow_below Hown.out hb4) (by omega), hbel.trans (hb4.mono hsz)⟩

set_option maxRecDepth 100000 in
set_option maxHeartbeats 4000000 in
theorem edgesOf_any (v : Value) (g : List (List Int)) (h16 : g.length ≤ 16) (h2 : ∀ j, (row g j).length ≤ 16) (w : World) (hg : Gr w v g) :
    Calls Tryd.prog 217 #[v] w fun e w' => ∃ (u : Value) (vals : List Value), e = .returned u ∧ w'.ownsRow w.heap.size 33 1 u (cntE g g.length) vals ∧ Below w.heap.size w w' := by
  have hg0 := hg
  obtain ⟨u, rfl, hr⟩ := hg
  obtain ⟨p, c, rfl, _⟩ := hr.shape
  have hbA := below_alloc w (.cells #[.slice p g.length c] 29)
  have HB := Lib.hid hbA
  have BX := Lib.hid ((Box.new w (.slice p g.length c) 29).alloc (.cells #[] 33))
  have H2 := Lib.hid h2
  have HR := Lib.hid hr
  have HC := Lib.hid (cntE_le h2)
  clear hr hg0 hbA h2
  go_enter Tryd.func217, Tryd.ntmps217
  go_wp2
  go_loopw [3, 12] (fun u i wr => ∃ (k : Nat) (vals : List Value), k ≤ g.length ∧ i = .int .i64 k ∧ wr.ownsRow (w.heap.size + 1) 33 1 u (cntE g k) vals ∧ Below w.heap.size w wr)
    (fun _ i _ => g.length - (intOf i).toNat)
  case atStart => exact ⟨0, [], Nat.zero_le _, rfl, ownsRow_empty' _ _ _ _ _ (Nat.le_refl _), HB.out.alloc HB.out.size _⟩
  case round =>
    obtain ⟨k, vals, hk, rfl, hown, hbel⟩ := hrel
    obtain ⟨outp, outc, rfl⟩ := owns_shape hown
    have Hown := Lib.hid hown
    have hsz := hbel.size
    clear hown
    by_cases hlt : k < g.length
    · obtain ⟨b, o, rp, rc, rfl, hcell, hnums⟩ := (HR.out.below hbel).get hlt
      have Hnums := Lib.hid hnums
      clear hnums
      have hlen2 := H2.out k
      have hck := HC.out k
      have hcb : ∀ t, cntE g k + upL k ((row g k).take t) < 1000000000 := fun t => by
        have := upL_le k ((row g k).take t)
        rw [List.length_take] at this
        have : k * 16 ≤ 16 * 16 := Nat.mul_le_mul_right _ (by omega)
        omega
      have Hhck := Lib.hid hck
      have Hcb := Lib.hid hcb
      clear hck hcb
      change wr.cell? _ = some (.slice rp (row g k).length rc) at hcell
      have Hnums2 : Hid (Nums wr 2 .i64 (.slice rp (row g k).length rc) (row g k)) := Lib.hid Hnums.out
      clear Hnums
      go_wp2
      have START : Hid (wr.ownsRow (w.heap.size + 1) 33 1 (.slice outp (cntE g k) outc) (cntE g k) vals ∧ Below w.heap.size w wr) := Lib.hid ⟨Hown.out, hbel⟩
      go_loopw [3, 19] (fun u i wx => ∃ (t : Nat) (vals : List Value), t ≤ (row g k).length ∧ i = .int .i64 t ∧ wx.ownsRow (w.heap.size + 1) 33 1 u (cntE g k + upL k ((row g k).take t)) vals ∧ Below w.heap.size w wx ∧ Nums wx 2 .i64 (.slice rp (row g k).length rc) (row g k))
        (fun _ i _ => (row g k).length - (intOf i).toNat)
      case atStart => exact ⟨0, vals, Nat.zero_le _, rfl, START.out.1, START.out.2, Hnums2.out⟩
      case round =>
        clear START Hown hbel hsz hcell Hnums2
        obtain ⟨t, vals2, ht, rfl, hown, hbel, hnums⟩ := hrel
        have hsz := hbel.size
        obtain ⟨outp, outc, rfl⟩ := owns_shape hown
        have Hnums := Lib.hid hnums
        have hcb := Hcb.out t
        by_cases hlt2 : t < (row g k).length
        · obtain ⟨rb, ro, rfl, hcx⟩ := hnums.get hlt2
          by_cases hgt : (k : Int) < (row g k)[t]
          · have Hup := Lib.hid (up_u k (row g k) hlt2 hgt)
            generalize (row g k)[t] = X at hcx hgt
            clear hnums
            go_wp2_with (at_builtin; refine wpList_app1s ty_rows64 rfl rfl rfl (hown.alloc (.cells #[.int .i64 k, .int .i64 X] 2)) (by rw [size_alloc]; rfl) rfl hcb (by rw [size_alloc]; omega) ?_; intro b7 c8 w7 hown7 hg7 _)
            go_roundw
            case rel =>
              have ha := below_alloc wr (.cells #[.int .i64 k, .int .i64 X] 2)
              exact ⟨t + 1, _, by omega, by go_num, by rw [Hup.out, ← Nat.add_assoc]; exact hown7, below_grown (hbel.alloc hsz _) (hown.alloc _) hg7 (by omega) (by rw [size_alloc]; omega), (Hnums.out.below ha).other (hown.alloc _) hg7 (by decide)⟩
            case measure => simp [intOf]; omega
          · have Hup := Lib.hid (up_n k (row g k) hlt2 hgt)
            have Hown := Lib.hid hown
            generalize (row g k)[t] = X at hcx hgt
            clear hown hnums
            go_wp2
            go_roundw
            case rel => exact ⟨t + 1, _, by omega, by go_num, by rw [Hup.out]; exact Hown.out, hbel, Hnums.out⟩
            case measure => simp [intOf]; omega
        · obtain rfl : t = (row g k).length := by omega
          have Hown := Lib.hid hown
          clear hown hnums
          go_wp2
          go_roundw
          case rel =>
            refine ⟨k + 1, vals2, by omega, by go_num, ?_, hbel⟩
            rw [show cntE g (k + 1) = cntE g k + upL k ((row g k).take (row g k).length) from by rw [List.take_length]; rfl]
            exact Hown.out
          case measure => simp [intOf]; omega
    · obtain rfl : k = g.length := by omega
      go_wp2
      go_ret
      exact ⟨_, _, rfl, ownsRow_base Hown.out (by omega), hbel⟩

end Go.Proofs.YtkppbmfliejnmaaDoor

/- Walks: how many edges a graph has, of both (out of XFillM, without what that text needs besides). -/
namespace Go.Proofs.YtkppbmfliejnmaaDoor
open Go.RowKit

theorem gok_rowsN {g : List (List Int)} (hok : GOk g) (j : Nat) : (row g j).length ≤ 16 := by
  have h16 := hok.le
  by_cases hj : j < g.length
  · have h1 := setIn_length (by omega) (hok.sets j hj).1; omega
  · rw [row_out hj]; simp

theorem specManyN_any (v : Value) (g : List (List Int)) (hok : GOk g) (w : World) (hg : Gr w v g) :
    Calls Tryd.prog 56 #[v] w fun e w' => e = .returned (.int .i64 (cntE g g.length : Nat)) ∧ Below w.heap.size w w' := by
  have hg0 := hg
  obtain ⟨u, rfl, hr⟩ := hg
  obtain ⟨p, c, rfl, _⟩ := hr.shape
  have hbA := Lib.hid (below_alloc w (.cells #[.slice p g.length c] 29))
  have BX := Lib.hid (Box.new w (.slice p g.length c) 29)
  have HG := Lib.hid (hg0.below hbA.out)
  have hd := dec_true hok
  have Hok := Lib.hid hok
  have h16 := hok.le
  clear hr hg0 hok
  go_enter Tryd.func56, Tryd.ntmps56
  go_wp2_with (first
    | (go_at_call 73; refine (specGraphOk_any _ g _ HG.out).mono ?_; rintro e w2 ⟨rfl, hb2⟩; have hbx := (BX.out.keep hb2).cell)
    | (go_at_call 140; refine (l1Edges_any _ g h16 (gok_rowsN Hok.out) _ (HG.out.below hb2)).mono ?_; rintro e w3 ⟨u3, vals, rfl, ho3, hb3⟩; obtain ⟨p3, c3, rfl⟩ := owns_shape ho3))
  go_ret
  exact ⟨rfl, (hbA.out.trans (hb2.mono hbA.out.size)).trans (hb3.mono (Nat.le_trans hbA.out.size hb2.size))⟩

theorem implManyN_any (v : Value) (g : List (List Int)) (hok : GOk g) (w : World) (hg : Gr w v g) :
    Calls Tryd.prog 76 #[v] w fun e w' => e = .returned (.int .i64 (cntE g g.length : Nat)) ∧ Below w.heap.size w w' := by
  have hd := dec_true hok
  have Hok := Lib.hid hok
  have h16 := hok.le
  clear hok
  have E : Hid (∀ (w : World), Gr w v g → Calls Tryd.prog 171 #[v] w fun e w' => ∃ p c, e = .returned (.slice p (cntE g g.length) c) ∧ Below w.heap.size w w') := Lib.hid (by
    clear hg w
    intro w hg
    have hg0 := hg
    obtain ⟨u, rfl, hr⟩ := hg
    obtain ⟨p, c, rfl, _⟩ := hr.shape
    have hbA := Lib.hid (below_alloc w (.cells #[.slice p g.length c] 29))
    have BX := Lib.hid (Box.new w (.slice p g.length c) 29)
    have HG := Lib.hid (hg0.below hbA.out)
    clear hr hg0
    go_enter Tryd.func171, Tryd.ntmps171
    go_wp2_with (first
      | (go_at_call 87; refine (implGraphOk_any _ g _ HG.out).mono ?_; rintro e w2 ⟨rfl, hb2⟩; have hbx := (BX.out.keep hb2).cell)
      | (go_at_call 217; refine (edgesOf_any _ g h16 (gok_rowsN Hok.out) _ (HG.out.below hb2)).mono ?_; rintro e w3 ⟨u3, vals, rfl, ho3, hb3⟩; obtain ⟨p3, c3, rfl⟩ := owns_shape ho3))
    go_ret
    exact ⟨_, _, rfl, (hbA.out.trans (hb2.mono hbA.out.size)).trans (hb3.mono (Nat.le_trans hbA.out.size hb2.size))⟩)
  have hg0 := hg
  obtain ⟨u, rfl, hr⟩ := hg
  obtain ⟨p, c, rfl, _⟩ := hr.shape
  have hbA := Lib.hid (below_alloc w (.cells #[.slice p g.length c] 29))
  have HG := Lib.hid (hg0.below hbA.out)
  clear hr hg0
  go_enter Tryd.func76, Tryd.ntmps76
  go_wp2_with (go_at_call 171; refine (E.out _ HG.out).mono ?_; rintro e w2 ⟨p2, c2, rfl, hb2⟩)
  go_ret
  exact ⟨rfl, hbA.out.trans (hb2.mono hbA.out.size)⟩

end Go.Proofs.YtkppbmfliejnmaaDoor

/- Walks: graphs of two sides, grids and wheels of the program. -/
namespace Go.Proofs.YtkppbmfliejnmaaDoor
open Go.RowKit

def itT (a b : Nat) : Nat → List Nat
  | 0 => List.replicate (a + b) 0
  | t + 1 => joinL (itT a b t) (t / b) (a + t % b)
def stG (b t : Nat) (A : List Nat) : List Nat :=
  let A1 := if 0 < t % b then joinL A (t - 1) t else A
  if 0 < t / b then joinL A1 (t - b) t else A1
def itG (a b : Nat) : Nat → List Nat
  | 0 => List.replicate (a * b) 0
  | t + 1 => stG b t (itG a b t)
def itW (A : List Nat) (n : Nat) : Nat → List Nat
  | 0 => A
  | k + 1 => joinL (itW A n k) k n
theorem lin_div {i j b : Nat} (hj : j < b) : (i * b + j) / b = i := by
  rw [Nat.add_comm, Nat.add_mul_div_right _ _ (by omega), Nat.div_eq_of_lt hj, Nat.zero_add]
theorem lin_mod {i j b : Nat} (hj : j < b) : (i * b + j) % b = j := by
  rw [Nat.add_comm, Nat.add_mul_mod_self_right, Nat.mod_eq_of_lt hj]

set_option maxRecDepth 100000 in
set_option maxHeartbeats 4000000 in
theorem implSided_yes (a b m : Nat) (ha : 1 ≤ a) (hb : 1 ≤ b) (hm : m = a + b) (h16 : m ≤ 16) (w : World) (hT : Tab w) :
    Calls Tryd.prog 52 #[.int .i64 (a : Int), .int .i64 (b : Int)] w fun e w' => ∃ (p : Option Addr) (c : Nat), e = .returned (.tuple #[.agg #[.slice p m c], .bool true]) ∧ DG w' w.heap.size (.agg #[.slice p m c]) (rowsOf (itT a b (a * b))) ∧ Below w.heap.size w w' := by
  obtain ⟨W0, hW0⟩ : ∃ W0, W0 = w.alloc (.cells #[.slice none 0 0] 29) := ⟨_, rfl⟩
  have HR : Hid (Box W0 w.heap.size 29 (.slice none 0 0)) := Lib.hid (by rw [hW0]; exact Box.new _ _ _)
  have HB : Hid (Below w.heap.size w W0) := Lib.hid (by rw [hW0]; exact below_alloc _ _)
  have HDA := Lib.hid (dec_true (show (1 : Int) ≤ (a : Int) ∧ (a : Int) ≤ 16 from ⟨by omega, by omega⟩))
  have HDB := Lib.hid (dec_true (show (1 : Int) ≤ (b : Int) ∧ (b : Int) ≤ 16 from ⟨by omega, by omega⟩))
  have HT := Lib.hid (hT.keep HB.out)
  have hwm : IntKind.i64.wrap ((a : Int) + (b : Int)) = (m : Int) := by rw [IntKind.wrap_i64]; omega
  have hmi : ¬ (16 : Int) < (m : Int) := by omega
  have ha16 : a ≤ 16 := by omega
  have hb16 : b ≤ 16 := by omega
  have HME := Lib.hid hm
  clear hT hm
  go_enter Tryd.func52, Tryd.ntmps52
  go_upto_region 1 with fail
  rw [← hW0]
  clear hW0
  go_wp2_with (first
    | (at_make; refine wpList_mk ty_nets rfl rfl rfl m rfl rfl rfl rfl (by omega) ?_; intro w3 hown hg; have HN := Lib.hid (Nt.make hown hg); clear hown hg)
    | (have X := MK1; go_at_call 137; refine (inRange_any _ _ _ _).mono ?_; rintro e w2 ⟨he, rfl⟩; rw [HDB.out] at he; subst he)
    | (go_at_call 137; refine (inRange_any _ _ _ _).mono ?_; rintro e w2 ⟨he, rfl⟩; rw [HDA.out] at he; subst he; have MK1 := trivial))
  go_loopw [29] (fun iv wr => ∃ i : Nat, i ≤ a ∧ iv = .int .i64 (i : Int) ∧ Hid (Nt W0 wr (.slice (some ⟨W0.heap.size, 0, none⟩) m m) m (itT a b (i * b)))) (fun iv _ => a - (intOf iv).toNat)
  case atStart => exact ⟨0, by omega, rfl, Lib.hid (by have := HN.out; rw [HME.out] at this ⊢; rw [Nat.zero_mul]; exact this)⟩
  case round =>
    clear HN
    obtain ⟨i, hi, rfl, HN⟩ := hrel
    by_cases hlt : i < a
    · have hli : (i : Int) < (a : Int) := by omega
      go_wp2_with fail
      go_loopw [33] (fun jv wr => ∃ j : Nat, j ≤ b ∧ jv = .int .i64 (j : Int) ∧ Hid (Nt W0 wr (.slice (some ⟨W0.heap.size, 0, none⟩) m m) m (itT a b (i * b + j)))) (fun jv _ => b - (intOf jv).toNat)
      case atStart => exact ⟨0, by omega, rfl, HN⟩
      case round =>
        clear HN
        obtain ⟨j, hj, rfl, HN⟩ := hrel
        by_cases hjb : j < b
        · have hjl : (j : Int) < (b : Int) := by omega
          have hwr : IntKind.i64.wrap ((a : Int) + (j : Int)) = ((a + j : Nat) : Int) := by rw [IntKind.wrap_i64]; omega
          have J := Lib.hid (HN.out.join h16 (u := i) (v := a + j) (by have := HME.out; omega) (by have := HME.out; omega) (by omega) (y := (i : Int)) (z := ((a + j : Nat) : Int)) rfl rfl)
          have HST : Hid (itT a b (i * b + (j + 1)) = joinL (itT a b (i * b + j)) i (a + j)) := Lib.hid (by
            show joinL (itT a b (i * b + j)) ((i * b + j) / b) (a + (i * b + j) % b) = _
            rw [lin_div hjb, lin_mod hjb])
          go_wp2_with (go_at_call 139; refine J.out.mono ?_; rintro e w2 ⟨rfl, hn2⟩; have HN2 := Lib.hid hn2; clear hn2)
          go_roundw
          case rel => exact ⟨j + 1, by omega, by go_num, Lib.hid (by rw [HST.out]; exact HN2.out)⟩
          case measure => simp [intOf]; omega
        · obtain rfl : j = b := by omega
          go_wp2_with fail
          go_roundw
          case rel => exact ⟨i + 1, by omega, by go_num, Lib.hid (by rw [Nat.succ_mul]; exact HN.out)⟩
          case measure => simp [intOf]; omega
    · obtain rfl : i = a := by omega
      go_wp2_with (go_at_call 118; refine (HN.out.graph h16 (HT.out.keep HN.out.bel)).mono ?_; rintro e w8 ⟨p8, c8, rfl, hd8, hb8⟩; obtain ⟨mc, mf, ml, mB⟩ := (HR.out.keep HN.out.bel).keep hb8)
      have s8 := HN.out.bel.size
      have s0 := HB.out.size
      refine bodyPost_ret (v := .tuple #[.agg #[.slice p8 m c8], .bool true]) (by simp [results, Tryd.results52, go_sem, mc]) rfl ⟨p8, c8, rfl, ?_, ?_⟩
      · exact (hd8.setBox ⟨mc, mf, ml, mB⟩ _).base (by omega)
      · exact (HB.out.trans ((HN.out.bel.trans (hb8.mono (by omega))).mono (by omega))).setCell (by show w.heap.size ≤ w.heap.size; omega) _

set_option maxRecDepth 100000 in
set_option maxHeartbeats 4000000 in
theorem implGrid_yes (a b m : Nat) (ha : 1 ≤ a) (hb : 1 ≤ b) (hm : m = a * b) (h16 : m ≤ 16) (ha16 : a ≤ 16) (hb16 : b ≤ 16) (w : World) (hT : Tab w) :
    Calls Tryd.prog 53 #[.int .i64 (a : Int), .int .i64 (b : Int)] w fun e w' => ∃ (p : Option Addr) (c : Nat), e = .returned (.tuple #[.agg #[.slice p m c], .bool true]) ∧ DG w' w.heap.size (.agg #[.slice p m c]) (rowsOf (itG a b (a * b))) ∧ Below w.heap.size w w' := by
  obtain ⟨W0, hW0⟩ : ∃ W0, W0 = w.alloc (.cells #[.slice none 0 0] 29) := ⟨_, rfl⟩
  have HR : Hid (Box W0 w.heap.size 29 (.slice none 0 0)) := Lib.hid (by rw [hW0]; exact Box.new _ _ _)
  have HB : Hid (Below w.heap.size w W0) := Lib.hid (by rw [hW0]; exact below_alloc _ _)
  have HDA := Lib.hid (dec_true (show (1 : Int) ≤ (a : Int) ∧ (a : Int) ≤ 16 from ⟨by omega, by omega⟩))
  have HDB := Lib.hid (dec_true (show (1 : Int) ≤ (b : Int) ∧ (b : Int) ≤ 16 from ⟨by omega, by omega⟩))
  have HT := Lib.hid (hT.keep HB.out)
  have hmul : (a : Int) * (b : Int) = (m : Int) := by rw [hm]; exact (Int.natCast_mul a b).symm
  have hmi : ¬ (16 : Int) < (m : Int) := by omega
  have HME := Lib.hid hm
  clear hT hm
  go_enter Tryd.func53, Tryd.ntmps53
  go_upto_region 1 with fail
  rw [← hW0]
  clear hW0
  go_wp2_with (first
    | (at_make; refine wpList_mk ty_nets rfl rfl rfl m rfl rfl rfl rfl (by omega) ?_; intro w3 hown hg; have HN := Lib.hid (Nt.make hown hg); clear hown hg)
    | (have X := MK1; go_at_call 137; refine (inRange_any _ _ _ _).mono ?_; rintro e w2 ⟨he, rfl⟩; rw [HDB.out] at he; subst he)
    | (go_at_call 137; refine (inRange_any _ _ _ _).mono ?_; rintro e w2 ⟨he, rfl⟩; rw [HDA.out] at he; subst he; have MK1 := trivial))
  clear hmul
  go_loopw [30] (fun iv wr => ∃ i : Nat, i ≤ a ∧ iv = .int .i64 (i : Int) ∧ Hid (Nt W0 wr (.slice (some ⟨W0.heap.size, 0, none⟩) m m) m (itG a b (i * b)))) (fun iv _ => a - (intOf iv).toNat)
  case atStart => exact ⟨0, by omega, rfl, Lib.hid (by have := HN.out; rw [HME.out] at this ⊢; rw [Nat.zero_mul]; exact this)⟩
  case round =>
    clear HN
    obtain ⟨i, hi, rfl, HN⟩ := hrel
    by_cases hlt : i < a
    · have hli : (i : Int) < (a : Int) := by omega
      obtain ⟨q, hq⟩ : ∃ q, q = i * b := ⟨_, rfl⟩
      have hqm : q + b ≤ m := by
        have h1 := Nat.mul_le_mul_right b (show i + 1 ≤ a by omega)
        rw [Nat.succ_mul, ← hq, ← HME.out] at h1
        exact h1
      have hmul : (i : Int) * (b : Int) = (q : Int) := by rw [hq]; exact (Int.natCast_mul i b).symm
      have HQ := Lib.hid hq
      rw [← hq] at HN
      have hqi : 0 < i → b ≤ q := fun h => by
        rw [hq]
        exact Nat.le_mul_of_pos_left b h
      clear hq
      go_wp2_with fail
      go_loopw [34] (fun jv wr => ∃ j : Nat, j ≤ b ∧ jv = .int .i64 (j : Int) ∧ Hid (Nt W0 wr (.slice (some ⟨W0.heap.size, 0, none⟩) m m) m (itG a b (q + j)))) (fun jv _ => b - (intOf jv).toNat)
      case atStart => exact ⟨0, by omega, rfl, HN⟩
      case round =>
        clear HN
        obtain ⟨j, hj, rfl, HN⟩ := hrel
        by_cases hjb : j < b
        · have hjl : (j : Int) < (b : Int) := by omega
          obtain ⟨t, ht⟩ : ∃ t, t = q + j := ⟨_, rfl⟩
          have hwr : IntKind.i64.wrap ((q : Int) + (j : Int)) = (t : Int) := by rw [IntKind.wrap_i64]; omega
          have HST : Hid (itG a b (q + (j + 1)) = stG b t (itG a b t)) := Lib.hid (by rw [ht]; rfl)
          have HDV : Hid (t / b = i) := Lib.hid (by rw [ht, HQ.out]; exact lin_div hjb)
          have HMD : Hid (t % b = j) := Lib.hid (by rw [ht, HQ.out]; exact lin_mod hjb)
          rw [← ht] at HN
          have htm : t < m := by omega
          by_cases hj0 : 0 < j
          · have hj0i : (0 : Int) < (j : Int) := by omega
            have hw1 : IntKind.i64.wrap ((t : Int) - 1) = ((t - 1 : Nat) : Int) := by rw [IntKind.wrap_i64]; omega
            have J1 := Lib.hid (HN.out.join h16 (u := t - 1) (v := t) (by omega) htm (by omega) (y := ((t - 1 : Nat) : Int)) (z := (t : Int)) rfl rfl)
            by_cases hi0 : 0 < i
            · have hi0i : (0 : Int) < (i : Int) := by omega
              have hbq := hqi hi0
              have hw2 : IntKind.i64.wrap ((t : Int) - (b : Int)) = ((t - b : Nat) : Int) := by rw [IntKind.wrap_i64]; omega
              have HS2 : Hid (stG b t (itG a b t) = joinL (joinL (itG a b t) (t - 1) t) (t - b) t) := Lib.hid (by unfold stG; rw [HDV.out, HMD.out]; simp [hj0, hi0])
              have htb : t - b < m := by omega
              have htbt : t - b ≠ t := by omega
              clear ht hbq hqi
              go_wp2_with (first
                | (have X := MK1; go_at_call 139; refine (HN1.out.join h16 (u := t - b) (v := t) htb htm htbt (y := ((t - b : Nat) : Int)) (z := (t : Int)) rfl rfl).mono ?_; rintro e w2 ⟨rfl, hn2⟩; have HN2 := Lib.hid hn2; clear hn2)
                | (go_at_call 139; refine J1.out.mono ?_; rintro e w1 ⟨rfl, hn1⟩; have HN1 := Lib.hid hn1; have MK1 := trivial; clear hn1))
              go_roundw
              case rel => exact ⟨j + 1, by omega, by go_num, Lib.hid (by rw [HST.out, HS2.out]; exact HN2.out)⟩
              case measure => simp [intOf]; omega
            · have hi0i : ¬ (0 : Int) < (i : Int) := by omega
              have HS2 : Hid (stG b t (itG a b t) = joinL (itG a b t) (t - 1) t) := Lib.hid (by unfold stG; rw [HDV.out, HMD.out]; simp [hj0, hi0])
              clear ht hqi
              go_wp2_with (go_at_call 139; refine J1.out.mono ?_; rintro e w1 ⟨rfl, hn1⟩; have HN1 := Lib.hid hn1; clear hn1)
              go_roundw
              case rel => exact ⟨j + 1, by omega, by go_num, Lib.hid (by rw [HST.out, HS2.out]; exact HN1.out)⟩
              case measure => simp [intOf]; omega
          · have hj0i : ¬ (0 : Int) < (j : Int) := by omega
            by_cases hi0 : 0 < i
            · have hi0i : (0 : Int) < (i : Int) := by omega
              have hbq := hqi hi0
              have hw2 : IntKind.i64.wrap ((t : Int) - (b : Int)) = ((t - b : Nat) : Int) := by rw [IntKind.wrap_i64]; omega
              have HS2 : Hid (stG b t (itG a b t) = joinL (itG a b t) (t - b) t) := Lib.hid (by unfold stG; rw [HDV.out, HMD.out]; simp [hj0, hi0])
              have J2 := Lib.hid (HN.out.join h16 (u := t - b) (v := t) (by omega) htm (by omega) (y := ((t - b : Nat) : Int)) (z := (t : Int)) rfl rfl)
              clear ht hbq hqi
              go_wp2_with (go_at_call 139; refine J2.out.mono ?_; rintro e w1 ⟨rfl, hn1⟩; have HN1 := Lib.hid hn1; clear hn1)
              go_roundw
              case rel => exact ⟨j + 1, by omega, by go_num, Lib.hid (by rw [HST.out, HS2.out]; exact HN1.out)⟩
              case measure => simp [intOf]; omega
            · have hi0i : ¬ (0 : Int) < (i : Int) := by omega
              have HS2 : Hid (stG b t (itG a b t) = itG a b t) := Lib.hid (by unfold stG; rw [HDV.out, HMD.out]; simp [hj0, hi0])
              clear ht hqi
              go_wp2_with fail
              go_roundw
              case rel => exact ⟨j + 1, by omega, by go_num, Lib.hid (by rw [HST.out, HS2.out]; exact HN.out)⟩
              case measure => simp [intOf]; omega
        · obtain rfl : j = b := by omega
          go_wp2_with fail
          go_roundw
          case rel => exact ⟨i + 1, by omega, by go_num, Lib.hid (by rw [Nat.succ_mul, ← HQ.out]; exact HN.out)⟩
          case measure => simp [intOf]; omega
    · obtain rfl : i = a := by omega
      go_wp2_with (go_at_call 118; refine (HN.out.graph h16 (HT.out.keep HN.out.bel)).mono ?_; rintro e w8 ⟨p8, c8, rfl, hd8, hb8⟩; obtain ⟨mc, mf, ml, mB⟩ := (HR.out.keep HN.out.bel).keep hb8)
      have s8 := HN.out.bel.size
      have s0 := HB.out.size
      refine bodyPost_ret (v := .tuple #[.agg #[.slice p8 m c8], .bool true]) (by simp [results, Tryd.results53, go_sem, mc]) rfl ⟨p8, c8, rfl, ?_, ?_⟩
      · exact (hd8.setBox ⟨mc, mf, ml, mB⟩ _).base (by omega)
      · exact (HB.out.trans ((HN.out.bel.trans (hb8.mono (by omega))).mono (by omega))).setCell (by show w.heap.size ≤ w.heap.size; omega) _

set_option maxRecDepth 100000 in
set_option maxHeartbeats 4000000 in
theorem implWheel_yes (n m : Nat) (h1 : 3 ≤ n) (h15 : n ≤ 15) (hm : m = n + 1) (g : List (List Int)) (hg : g = rowsOf (joinL (itP n (n - 1)) 0 (n - 1))) (hgl : g.length = n) (hok : GOk g) (w : World) (hT : Tab w) :
    Calls Tryd.prog 54 #[.int .i64 (n : Int)] w fun e w' => ∃ (p : Option Addr) (c : Nat), e = .returned (.tuple #[.agg #[.slice p m c], .bool true]) ∧ DG w' w.heap.size (.agg #[.slice p m c]) (rowsOf (itW (netL g ++ [0]) n n)) ∧ Below w.heap.size w w' := by
  obtain ⟨W0, hW0⟩ : ∃ W0, W0 = w.alloc (.cells #[.slice none 0 0] 29) := ⟨_, rfl⟩
  have HR : Hid (Box W0 w.heap.size 29 (.slice none 0 0)) := Lib.hid (by rw [hW0]; exact Box.new _ _ _)
  have HB : Hid (Below w.heap.size w W0) := Lib.hid (by rw [hW0]; exact below_alloc _ _)
  have HT := Lib.hid (hT.keep HB.out)
  have HOK := Lib.hid hok
  have HGL := Lib.hid hgl
  have hne : ((n : Int) == 16) = false := by simp; omega
  have m16 : m ≤ 16 := by omega
  have HME := Lib.hid hm
  have LOOP : Hid (∀ wz, Tab wz → Calls Tryd.prog 50 #[.int .i64 (n : Int)] wz fun e w' => ∃ (p : Option Addr) (c : Nat), e = .returned (.tuple #[.agg #[.slice p n c], .bool true]) ∧ Gr w' (.agg #[.slice p n c]) g ∧ Below wz.heap.size wz w') := Lib.hid fun wz ht => by
    refine (implLoop_yes n h1 (by omega) wz ht).mono ?_
    rintro e w' ⟨p, c, rfl, hd, hb⟩
    rw [← hg] at hd
    exact ⟨p, c, rfl, hd.gr (by omega) (fun j _ => Nat.le_trans (gok_rowsN hok j) (by decide)), hb⟩
  clear hT hm hg hok hgl
  go_enter Tryd.func54, Tryd.ntmps54
  go_upto_region 1 with fail
  rw [← hW0]
  clear hW0
  go_upto_region 2 with (go_at_call 50; refine (LOOP.out _ HT.out).mono ?_; rintro e w1 ⟨lp, lc, rfl, hgr, hb1⟩; have HG1 := Lib.hid hgr; have HB1 := Lib.hid hb1; clear hgr hb1)
  obtain ⟨w2, hw2⟩ : ∃ w2, w2 = w1.alloc (.cells #[.slice lp n lc] 29) := ⟨_, rfl⟩
  rw [← hw2]
  have hb12 : Below w1.heap.size w1 w2 := by rw [hw2]; exact below_alloc _ _
  have HX2 : Hid (Box w2 w1.heap.size 29 (.slice lp n lc)) := Lib.hid (by rw [hw2]; exact Box.new _ _ _)
  have HG2 := Lib.hid (HG1.out.below hb12)
  have HB2 := Lib.hid (HB1.out.trans (hb12.mono HB1.out.size))
  have c2 := HX2.out.cell
  clear hw2 hb12 HG1
  go_wp2_with (first
    | (at_builtin; refine wpList_app1 ty_netsS rfl rfl rfl hown rfl rfl (by omega) hsz3 ?_; intro v7 w7 hown7 hg7 _)
    | (go_at_call 89; refine (netsOf_any _ g _ HG2.out HOK.out).mono ?_; rintro e w3 ⟨xv, rfl, hown, hb3⟩; rw [HGL.out] at hown; obtain ⟨xp, xc, rfl⟩ := own_shapeK hown; have HB3 := Lib.hid hb3; have hsz3 := hb3.size; clear hb3))
  have HN : Hid (Nt w2 w7 v7 m (netL g ++ [0])) := Lib.hid
    ⟨by rw [HME.out, List.map_append]; exact hown7, below_grown HB3.out hown hg7 (Nat.le_refl _) hsz3, by have h1 := HGL.out; have h2 := HME.out; simp [netL]; omega, fun s hs => by
      rcases List.mem_append.1 hs with h | h
      · exact netL_lt HOK.out s h
      · rw [List.mem_singleton.1 h]; decide⟩
  obtain ⟨op, oc, hov⟩ := own_shapeK HN.out.own
  subst hov
  clear hown hown7 hg7 c2 hsz3
  go_loopw [25] (fun iv wr => ∃ k : Nat, k ≤ n ∧ iv = .int .i64 (k : Int) ∧ Hid (Nt w2 wr (.slice op m oc) m (itW (netL g ++ [0]) n k))) (fun iv _ => n - (intOf iv).toNat)
  case atStart => exact ⟨0, by omega, rfl, HN⟩
  case round =>
    clear HN
    obtain ⟨k, hk, rfl, HN⟩ := hrel
    by_cases hlt : k < n
    · have hli : (k : Int) < (n : Int) := by omega
      have J := Lib.hid (HN.out.join m16 (u := k) (v := n) (by have := HME.out; omega) (by have := HME.out; omega) (by omega) (y := (k : Int)) (z := (n : Int)) rfl rfl)
      go_wp2_with (go_at_call 139; refine J.out.mono ?_; rintro e w4 ⟨rfl, hn2⟩; have HN2 := Lib.hid hn2; clear hn2)
      go_roundw
      case rel => exact ⟨k + 1, by omega, by go_num, HN2⟩
      case measure => simp [intOf]; omega
    · obtain rfl : k = n := by omega
      have HBW := Lib.hid (HB2.out.trans (HN.out.bel.mono HB2.out.size))
      go_wp2_with (go_at_call 118; refine (HN.out.graph m16 (HT.out.keep HBW.out)).mono ?_; rintro e w8 ⟨p8, c8, rfl, hd8, hb8⟩; obtain ⟨mc, mf, ml, mB⟩ := (HR.out.keep HBW.out).keep hb8)
      have s8 := HBW.out.size
      have s0 := HB.out.size
      refine bodyPost_ret (v := .tuple #[.agg #[.slice p8 m c8], .bool true]) (by simp [results, Tryd.results54, go_sem, mc]) rfl ⟨p8, c8, rfl, ?_, ?_⟩
      · exact (hd8.setBox ⟨mc, mf, ml, mB⟩ _).base (by omega)
      · exact (HB.out.trans ((HBW.out.trans (hb8.mono (by omega))).mono (by omega))).setCell (by show w.heap.size ≤ w.heap.size; omega) _

end Go.Proofs.YtkppbmfliejnmaaDoor
