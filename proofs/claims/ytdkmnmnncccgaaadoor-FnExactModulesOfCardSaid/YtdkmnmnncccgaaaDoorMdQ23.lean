/- Walks: SameGraph, of both. -/
import Derived.Test.YtdkmnmnncccgaaaDoorMdQ8
import Derived.Test.YtdkmnmnncccgaaaDoorMdQ11
import Derived.Deep.DeepCutAuto
import Derived.Test.YtdkmnmnncccgaaaDoorMdQ20
import Derived.Test.YtdkmnmnncccgaaaDoorMdQ16
import Derived.Deep.RegionHeld3
namespace Go.Proofs.YtdkmnmnncccgaaaDoor
open Go.RowKit

set_option maxRecDepth 100000 in
set_option maxHeartbeats 1000000 in
theorem l1Same_any (u v : Value) (xs ys : List Int) (w : World) (hx : Nums w 2 .i64 u xs) (hy : Nums w 2 .i64 v ys) :
    Calls Tryd.prog 80 #[u, v] w fun e w' => e = .returned (.bool (dec (xs = ys))) ∧ ∃ q, w' = w.drewN q := by
  obtain ⟨p, c, rfl, hp, _, hn, hat⟩ := hx
  obtain ⟨p', c', rfl, hp', _, hn', hat'⟩ := hy
  by_cases hl : xs.length = ys.length
  case neg =>
    have hl' : ((xs.length : Int) != (ys.length : Int)) = true := by simp; omega
    go_enter Tryd.func80, Tryd.ntmps80
    go_wp2
    go_ret
    exact ⟨ret_bool (false_dec fun h => hl (by rw [h])), 0, rfl⟩
  have Hl := Lib.hid hl
  have hl' : ((xs.length : Int) != (ys.length : Int)) = false := by simp; omega
  clear hl
  go_enter Tryd.func80, Tryd.ntmps80
  go_wp2
  go_loopw [5] (fun i wr => ∃ k : Nat, k ≤ xs.length ∧ i = .int .i64 k ∧ xs.take k = ys.take k ∧ ∃ q, wr = w.drewN q) (fun i _ => xs.length - (intOf i).toNat)
  case atStart => exact ⟨0, Nat.zero_le _, rfl, by simp, 0, rfl⟩
  case round =>
    obtain ⟨k, hk, rfl, heq, q, rfl⟩ := hrel
    have Heq := Lib.hid heq
    clear heq
    by_cases hlt : k < xs.length
    · have hlt' : k < ys.length := by have := Hl.out; omega
      obtain ⟨b, o, rfl, hcell⟩ := hat.num hlt
      obtain ⟨b', o', rfl, hcell'⟩ := hat'.num hlt'
      clear hat hat'
      have e0 : (0 : Int) ≤ (k : Int) := by omega
      have e1 : (k : Int) < (xs.length : Int) := by omega
      have e2 : (k : Int) < (ys.length : Int) := by omega
      by_cases he : xs[k] = ys[k]
      · have he' : (xs[k] != ys[k]) = false := by simpa using he
        have He := Lib.hid he
        clear he
        go_wp2
        go_quiet (fail)
        go_wp2
        go_roundw
        case rel => exact ⟨k + 1, by omega, by go_num, by rw [take_snoc xs k hlt, take_snoc ys k hlt', Heq.out, He.out], _, rfl⟩
        case measure => simp [intOf]; omega
      · have he' : (xs[k] != ys[k]) = true := by simpa using he
        have He := Lib.hid he
        clear he
        go_wp2
        go_quiet (fail)
        go_wp2
        go_ret
        exact ⟨ret_bool (false_dec fun h => He.out (by subst h; rfl)), _, World.drewN_drewN _ _ _⟩
    · obtain rfl : k = xs.length := by omega
      go_wp2
      go_ret
      refine ⟨ret_bool (true_dec ?_), q, rfl⟩
      have h := Heq.out
      rwa [List.take_length, Hl.out, List.take_length] at h

end Go.Proofs.YtdkmnmnncccgaaaDoor

/- Walks: how the reference says that a vertex may be pruned. -/
namespace Go.Proofs.YtdkmnmnncccgaaaDoor
open Go.RowKit

theorem owns_shapeA {w : World} {base : Nat} {E : TypeId} {size n : Nat} {v : Value} {xs : List Value} (h : w.ownsRow base E size v n xs) : ∃ p c, v = .slice p n c := by
  rcases h.2 with ⟨rfl, h0⟩ | ⟨b, c, _, rfl, _⟩
  · exact ⟨none, 0, by rw [h0]⟩
  · exact ⟨_, _, rfl⟩

def nearT (g : List (List Int)) (L : List Int) (k : Nat) (b : Int) (t : Nat) : List Int := ((row g k).take t).filter fun x => decide (x ≠ b ∧ x ∈ L)
theorem nearT_succ {g : List (List Int)} {L : List Int} {k : Nat} {b : Int} {t : Nat} (h : t < (row g k).length) :
    nearT g L k b (t + 1) = if (row g k)[t] ≠ b ∧ (row g k)[t] ∈ L then nearT g L k b t ++ [(row g k)[t]] else nearT g L k b t := by
  unfold nearT
  rw [take_snoc _ t h, List.filter_append]
  split
  · rename_i hc; rw [List.filter_cons_of_pos (by simpa using hc)]; rfl
  · rename_i hc; rw [List.filter_cons_of_neg (by simpa using hc)]; simp
theorem nearT_len (g : List (List Int)) (L : List Int) (k : Nat) (b : Int) (t : Nat) : (nearT g L k b t).length ≤ (row g k).length :=
  Nat.le_trans (List.length_filter_le _ _) (by rw [List.length_take]; omega)
theorem nearT_end (g : List (List Int)) (L : List Int) (k : Nat) (b : Int) : nearT g L k b (row g k).length = nearB g L k b := by
  unfold nearT nearB; rw [List.take_length]

set_option maxRecDepth 100000 in
set_option maxHeartbeats 2000000 in
theorem l18Near_any (v lv : Value) (g : List (List Int)) (L : List Int) (y : Int) (k : Nat) (hy : y = k) (hk : k < g.length) (b : Int) (hrl : (row g k).length ≤ 1000) (w : World) (hg : Gr w v g) (hn : Nums w 2 .i64 lv L) :
    Calls Tryd.prog 79 #[v, lv, .int .i64 y, .int .i64 b] w fun e w' => ∃ u, e = .returned u ∧
      w'.ownsRow w.heap.size 2 1 u (nearB g L k b).length ((nearB g L k b).map (Value.int .i64)) ∧ Below w.heap.size w w' := by
  subst hy
  obtain ⟨u, rfl, hr⟩ := hg
  obtain ⟨p, c, rfl, _⟩ := hr.shape
  obtain ⟨lp, lc, rfl, _⟩ := id hn.shape
  have HR := Lib.hid hr
  have HN := Lib.hid hn
  have hbox := Box.new w (.slice p g.length c) 29
  have hb1 := below_alloc w (.cells #[.slice p g.length c] 29)
  clear hr hn
  go_enter Tryd.func79, Tryd.ntmps79
  go_wp2
  go_loopw [9, 10] (fun u i wr => ∃ t : Nat, t ≤ (row g k).length ∧ i = .int .i64 t ∧ wr.ownsRow (w.heap.size + 1) 2 1 u (nearT g L k b t).length ((nearT g L k b t).map (Value.int .i64)) ∧ Below w.heap.size w wr ∧ Box wr w.heap.size 29 (.slice p g.length c))
    (fun _ i _ => (row g k).length - (intOf i).toNat)
  case atStart => exact ⟨0, Nat.zero_le _, rfl, ownsRow_empty' _ _ _ _ _ (Nat.le_refl _), hb1.alloc (by rw [size_alloc]; omega) _, hbox.alloc _⟩
  case round =>
    clear hbox hb1
    obtain ⟨t, ht, rfl, hown, hbel, hbx⟩ := hrel
    obtain ⟨hc, hf, hlt0, _⟩ := id hbx
    have hsz := hbel.size
    obtain ⟨b0, o0, rp, rc, rfl, hcell, hnums⟩ := (HR.out.below hbel).get hk
    change wr.cell? _ = some (.slice rp (row g k).length rc) at hcell
    change Nums wr _ _ (.slice rp (row g k).length rc) (row g k) at hnums
    have hlen := nearT_len g L k b t
    obtain ⟨op, oc, rfl⟩ := owns_shapeA hown
    have e0 : (0 : Int) ≤ (k : Int) := by omega
    have e1 : (k : Int) < (g.length : Int) := by omega
    have Hown := Lib.hid hown
    have Hbel := Lib.hid hbel
    have Hbx := Lib.hid hbx
    have hnl := HN.out.below hbel
    clear hown hbel hbx
    by_cases hlt : t < (row g k).length
    · obtain ⟨rb, ro, rfl, hcx⟩ := hnums.get hlt
      have hsucc := Lib.hid (nearT_succ (g := g) (L := L) (k := k) (b := b) hlt)
      clear hnums
      generalize hX : (row g k)[t] = X at hcx hsucc
      clear hX
      by_cases hXb : X = b
      · have he : (X != b) = false := by simpa using hXb
        have HE := Lib.hid hXb
        clear hXb
        go_wp2
        go_roundw
        case rel => exact ⟨t + 1, by omega, by go_num, by rw [hsucc.out, if_neg (fun h => h.1 HE.out)]; exact Hown.out, Hbel.out, Hbx.out⟩
        case measure => simp [intOf]; omega
      · have he : (X != b) = true := by simpa using hXb
        have HE := Lib.hid hXb
        clear hXb
        by_cases hXL : X ∈ L
        · have hd := dec_true hXL
          have HL := Lib.hid hXL
          clear hXL
          generalize hq : (nearT g L k b t).length = q at hlen
          have hown : wr.ownsRow (w.heap.size + 1) 2 1 (.slice op q oc) q ((nearT g L k b t).map (Value.int .i64)) := by rw [← hq]; exact Hown.out
          go_wp2_with (first
            | (at_builtin; refine wpList_app1 ty_i64 rfl rfl rfl hown rfl rfl (by omega) (by omega) ?_; intro v' w5 hown' hg _)
            | (go_at_call 47; refine (l1Has_any _ L X _ hnl).mono ?_; rintro e w4 ⟨he4, rfl⟩; rw [hd] at he4; subst he4))
          go_roundw
          case rel =>
            refine ⟨t + 1, by omega, by go_num, ?_, below_grown Hbel.out hown hg (by omega) hsz, Hbx.out.below (below_grown (Below.refl (w.heap.size + 1) wr) hown hg (Nat.le_refl _) (by omega)) (by omega)⟩
            rw [hsucc.out, if_pos ⟨HE.out, HL.out⟩, List.length_append, List.map_append, hq]; exact hown'
          case measure => simp [intOf]; omega
        · have hd := dec_false hXL
          have HL := Lib.hid hXL
          clear hXL
          go_wp2_with (go_at_call 47; refine (l1Has_any _ L X _ hnl).mono ?_; rintro e w4 ⟨he4, rfl⟩; rw [hd] at he4; subst he4)
          go_roundw
          case rel => exact ⟨t + 1, by omega, by go_num, by rw [hsucc.out, if_neg (fun h => HL.out h.2)]; exact Hown.out, Hbel.out, Hbx.out⟩
          case measure => simp [intOf]; omega
    · obtain rfl : t = (row g k).length := by omega
      go_wp2
      go_ret
      have e := nearT_end g L k b
      exact ⟨_, rfl, by rw [← e]; exact ownsRow_base Hown.out (by omega), Hbel.out⟩

end Go.Proofs.YtdkmnmnncccgaaaDoor
