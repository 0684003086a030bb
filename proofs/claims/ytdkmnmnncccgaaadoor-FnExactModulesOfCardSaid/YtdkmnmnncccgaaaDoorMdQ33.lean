/- Walks: splitters. -/
import Derived.Test.YtdkmnmnncccgaaaDoorMdQ28
import Derived.Test.YtdkmnmnncccgaaaDoorMdQ16
import Derived.Test.YtdkmnmnncccgaaaDoorMdQ32
import Derived.Deep.RegionHeld3
import Derived.Deep.DeepCutAuto
namespace Go.Proofs.YtdkmnmnncccgaaaDoor
open Go.RowKit

theorem nums_atA {w : World} {E : TypeId} {p : Option Addr} {m c : Nat} {xs : List Int} (h : Nums w E .i64 (.slice p m c) xs) : At w E p (xs.map (Value.int .i64)) := by
  obtain ⟨p', c', e, _, _, _, hat⟩ := h
  simp only [Value.slice.injEq] at e
  obtain ⟨rfl, _, _⟩ := e
  exact hat
set_option maxRecDepth 100000 in
set_option maxHeartbeats 2000000 in
theorem splitters_any (g : List (List Int)) (xp : Option Addr) (xc : Nat) (yw ys : Int) (W s : Nat) (hyw : yw = W) (hys : ys = s) (hW : W = 2 ^ g.length - 1) (hs : s < 2 ^ g.length) (hok : GOk g) (w : World) (hx : Sl w 50 (.slice xp g.length xc) g.length ((netL g).map u32v)) (hT : Tab w) :
    Calls Tryd.prog 60 #[.slice xp g.length xc, .int .u32 yw, .int .u32 ys] w fun e w' => ∃ z : Nat, e = .returned (.int .u32 z) ∧ z < 65536 ∧ (z = 0 ↔ ModN g s) ∧ Below w.heap.size w w' := by
  subst hyw hys
  have h16 := hok.le
  obtain ⟨_, hs16⟩ := cand_bits h16 hs
  have hW16 : W < 65536 := by
    have := Nat.pow_le_pow_right (show 0 < 2 by decide) h16
    have h2 : (2 : Nat) ^ 16 = 65536 := by decide
    have : 0 < 2 ^ g.length := Nat.two_pow_pos _
    omega
  have hand := Lib.hid (u32_andNot_nat W s (by omega) (by omega))
  obtain ⟨r, hr⟩ : ∃ r, r = sub W s := ⟨_, rfl⟩
  have hr16 : r < 65536 := by rw [hr]; exact sub_lt16 _ _ hW16
  have hrb : Hid (∀ v, v ∈ bitsOf r ↔ v < g.length ∧ s.testBit v = false) := Lib.hid (fun v => by
    rw [mem_bitsOf' (by omega), hr, testBit_sub _ _ (by omega) (by omega), hW, testBit_firstOf]
    simp)
  have HR := Lib.hid hr
  obtain ⟨L, hLe⟩ : ∃ L, bitsOf r = L := ⟨_, rfl⟩
  have HLe := Lib.hid hLe
  have hL32 : L.length ≤ 32 := by rw [← hLe]; exact bitsOf_length r
  rw [hLe] at hrb
  clear hLe
  have HX := Lib.hid hx
  have HT := Lib.hid hT
  have HOK := Lib.hid hok
  clear hx hT hr hW hok
  have HSP : Hid (ModN g s ↔ ∀ v ∈ L, ¬ SplN g v s) := Lib.hid (by
    rw [mod_iff]
    exact ⟨fun h v hv hs => h v ((hrb.out v).1 hv).1 ⟨((hrb.out v).1 hv).2, hs⟩, fun h v hv hs => h v ((hrb.out v).2 ⟨hv, hs.1⟩) hs.2⟩)
  go_enter Tryd.func60, Tryd.ntmps60
  go_wp2_with (go_at_call 54; refine (list_any _ r (by rw [hand.out, HR.out]; rfl) (by omega) _ HT.out).mono ?_; rintro e w1 ⟨lv, rfl, ho1, hb1⟩; rw [HLe.out] at ho1; obtain ⟨lp, lc, rfl⟩ := owns_shapeA ho1)
  have HN1 := Lib.hid (numsInt_of _ _ _ _ ho1 (by omega))
  have HB1 := Lib.hid hb1
  clear ho1 hb1
  go_loopw [7, 16] (fun o i wr => ∃ (k z : Nat), k ≤ L.length ∧ i = .int .i64 k ∧ o = .int .u32 z ∧ z < 65536 ∧ (z = 0 ↔ ∀ v ∈ L.take k, ¬ SplN g v s) ∧ wr = w1) (fun _ i _ => L.length - (intOf i).toNat)
  case atStart => exact ⟨0, 0, Nat.zero_le _, rfl, rfl, by decide, by simp, rfl⟩
  case round =>
    obtain ⟨k, z, hk, rfl, rfl, hz, hzi, rfl⟩ := hrel
    have HZ := Lib.hid hzi
    clear hzi
    by_cases hlt : k < L.length
    · obtain ⟨b, o1, rfl, hcell⟩ := (nums_atA HN1.out).num (k := k) (by rw [natInts_length]; exact hlt)
      rw [natInts_atL hlt] at hcell
      have htk := Lib.hid (take_snoc L k hlt)
      have hvg := ((hrb.out _).1 (List.getElem_mem hlt)).1
      generalize hV : L[k]'hlt = v at hcell hvg htk
      clear hV
      have e0 : (0 : Int) ≤ (v : Int) := by omega
      have e1 : (v : Int) < (g.length : Int) := by omega
      obtain ⟨nb, no, rfl, hnc⟩ := nets_cell (a := netL g) (by rw [netL_lenP]; exact HX.out.below HB1.out) (v := v) (by rw [netL_lenP]; exact hvg)
      have hn16 := netL_lt HOK.out _ (List.getElem_mem (l := netL g) (by rw [netL_lenP]; exact hvg))
      have hnv : Hid ((netL g)[v]'(by rw [netL_lenP]; exact hvg) = mask (row g v)) := Lib.hid (by
        rw [← netL_getD, List.getD_eq_getElem?_getD, List.getElem?_eq_getElem (by rw [netL_lenP]; exact hvg)]
        rfl)
      generalize hNV : (netL g)[v]'(by rw [netL_lenP]; exact hvg) = nv at hnc hn16 hnv
      clear hNV
      have hA := u32_and_nat nv s (by omega) (by omega)
      generalize hQ : nv &&& s = q at hA
      have HQ : Hid (mask (row g v) &&& s = q) := Lib.hid (by rw [← hnv.out]; exact hQ)
      clear hQ
      obtain ⟨t, ht⟩ : ∃ t, t = 2 ^ v := ⟨_, rfl⟩
      have ht16 : t < 65536 := by rw [ht]; exact pow_lt16 v (by omega)
      have ht0 : t ≠ 0 := by rw [ht]; exact Nat.ne_of_gt (Nat.two_pow_pos v)
      have HTT := Lib.hid ht
      have hOr := Lib.hid (u32_or_nat z t (by omega) (by omega))
      clear ht
      by_cases hsp : SplN g v s
      · have hq0 : ((q : Int) != 0) = true := by
          simp only [bne_iff_ne, ne_eq]
          intro h
          exact hsp (.inl (by rw [HQ.out]; omega))
        have hq1 : ((q : Int) != (s : Int)) = true := by
          simp only [bne_iff_ne, ne_eq]
          intro h
          exact hsp (.inr (by rw [HQ.out]; omega))
        have HS := Lib.hid hsp
        clear hsp
        go_wp2_with (go_at_call 56; refine (one_any _ v rfl (by omega) _).mono ?_; rintro e w2 ⟨he2, hw2⟩; rw [← HTT.out] at he2; subst he2; subst hw2)
        go_roundw
        case rel =>
          refine ⟨k + 1, z ||| t, by omega, by go_num, by rw [hOr.out], or_lt16 _ _ hz ht16, ?_, trivial⟩
          constructor
          · intro h
            exact absurd (Nat.or_eq_zero_iff.1 h).2 ht0
          · intro h
            rw [htk.out] at h
            exact absurd HS.out (h v (by simp))
        case measure => simp [intOf]; omega
      · have hq : q = 0 ∨ q = s := by
          have := Decidable.not_not.1 hsp
          rwa [HQ.out] at this
        have HS := Lib.hid hsp
        clear hsp
        have HREL : Hid (z = 0 ↔ ∀ v ∈ L.take (k + 1), ¬ SplN g v s) := Lib.hid (by
          rw [HZ.out, htk.out]
          constructor
          · intro h x hx
            rcases List.mem_append.1 hx with hx | hx
            · exact h x hx
            · obtain rfl : x = v := by simpa using hx
              exact HS.out
          · intro h x hx
            exact h x (List.mem_append.2 (.inl hx)))
        by_cases h0 : q = 0
        · have hq0 : ((q : Int) != 0) = false := by simp [h0]
          clear hq h0
          go_wp2
          go_roundw
          case rel => exact ⟨k + 1, z, by omega, by go_num, rfl, hz, HREL.out, trivial⟩
          case measure => simp [intOf]; omega
        · have hq0 : ((q : Int) != 0) = true := by simp; omega
          have hq1 : ((q : Int) != (s : Int)) = false := by simp; omega
          clear hq h0
          go_wp2
          go_roundw
          case rel => exact ⟨k + 1, z, by omega, by go_num, rfl, hz, HREL.out, trivial⟩
          case measure => simp [intOf]; omega
    · obtain rfl : k = L.length := by omega
      go_wp2
      go_ret
      exact ⟨z, rfl, hz, by rw [HZ.out, HSP.out, List.take_length], HB1.out⟩

end Go.Proofs.YtdkmnmnncccgaaaDoor
