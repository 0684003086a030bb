/- Plain: what both test of the odd ones. -/
import Derived.Test.YtfphapcgjlhieaaDoorGtQ33
import Derived.Test.YtfphapcgjlhieaaDoorGtQ32
import Derived.Test.YtfphapcgjlhieaaDoorGtQ29
import Derived.Lib.Tables
import Derived.Lib.BitFns
namespace Go.Proofs.YtfphapcgjlhieaaDoor

def oddsN (n : Nat) (E : Nat → Nat → Bool) (k : Nat) : Nat := (List.range k).countP fun v => degN n E v % 2 == 1
theorem oddsN_zero (n : Nat) (E : Nat → Nat → Bool) : oddsN n E 0 = 0 := rfl
theorem oddsN_succ (n : Nat) (E : Nat → Nat → Bool) (k : Nat) : oddsN n E (k + 1) = oddsN n E k + degN n E k % 2 := by
  unfold oddsN
  rw [List.range_succ, List.countP_append, List.countP_singleton]
  have : degN n E k % 2 = 0 ∨ degN n E k % 2 = 1 := by omega
  rcases this with h | h <;> simp [h]
theorem oddsN_le (n : Nat) (E : Nat → Nat → Bool) (k : Nat) : oddsN n E k ≤ k := by
  have := List.countP_le_length (p := fun v => degN n E v % 2 == 1) (l := List.range k)
  simpa [oddsN] using this
theorem oddC_iff {n : Nat} {E : Nat → Nat → Bool} (hs : ∀ r j, E r j = true → E j r = true) (hi : ∀ r, E r r = false) {v : Nat} (hv : v < n) : OddC n E v ↔ oddsN n E n ≤ 2 ∧ (oddsN n E n = 0 ∨ oddV n E v) := by
  constructor
  · intro h
    by_cases ho : oddV n E v
    · refine ⟨?_, .inr ho⟩
      have e1 := countP_but (p := fun v => degN n E v % 2 == 1) (v := v) (l := List.range n) List.nodup_range
      have e2 : (List.range n).countP (fun j => degN n E j % 2 == 1 && !(j == v)) ≤ 1 := by
        refine countP_le_one (List.Pairwise.imp_of_mem (R := (· ≠ ·)) (fun {a b} ha hb hab => ?_) List.nodup_range)
        rintro ⟨k1, k2⟩
        simp only [Bool.and_eq_true, beq_iff_eq, Bool.not_eq_true', beq_eq_false_iff_ne] at k1 k2
        exact hab (h a b (List.mem_range.1 ha) (List.mem_range.1 hb) k1.1 k2.1 k1.2 k2.2)
      unfold oddsN
      omega
    · have h0 : oddsN n E n = 0 := countP_none fun y hy hp => no_odd hs hi h ho y (List.mem_range.1 hy) (by unfold oddV; simpa using hp)
      omega
  · rintro ⟨h1, h2⟩ x y hx hy hox hoy hxv hyv
    have hpos : 0 < oddsN n E n := List.countP_pos_iff.2 ⟨x, List.mem_range.2 hx, by unfold oddV at hox; simpa using hox⟩
    rcases h2 with h2 | h2
    · omega
    · have c1 := countP_cut (f := fun v => degN n E v % 2 == 1) List.nodup_range (List.mem_range.2 hv) (by unfold oddV at h2; simpa using h2)
      unfold oddsN at h1
      refine countP_same (p := fun j => degN n E j % 2 == 1 && !(j == v)) (by omega) (List.mem_range.2 hx) (List.mem_range.2 hy) ?_ ?_
      · unfold oddV at hox; simp [hox, hxv]
      · unfold oddV at hoy; simp [hoy, hyv]
theorem odds_even {n : Nat} {E : Nat → Nat → Bool} (hs : ∀ r j, E r j = true → E j r = true) (hi : ∀ r, E r r = false) : oddsN n E n % 2 = 0 := by
  have he := odd_even hs hi (fun _ => true) (n := n) (fun _ _ _ _ _ => rfl)
  have ef : (List.range n).filter (fun _ => true) = List.range n := List.filter_eq_self.2 fun _ _ => rfl
  rw [ef] at he
  exact he
/-- Reached are all that have edges. -/
def AllR (n : Nat) (E : Nat → Nat → Bool) (v : Nat) : Prop := ∀ x, x < n → 0 < degN n E x → Rch E (· ∈ List.range n) v x
theorem tr_two {n : Nat} {E : Nat → Nat → Bool} (hs : ∀ r j, E r j = true → E j r = true) (hi : ∀ r, E r r = false) {v : Nat} (hv : v < n) : Tr n E v ↔ AllR n E v ∧ oddsN n E n ≤ 2 ∧ (oddsN n E n = 0 ∨ oddV n E v) := by
  unfold Tr AllR
  rw [oddC_iff hs hi hv]

end Go.Proofs.YtfphapcgjlhieaaDoor

/- Walks: the reference's sets of neighbours, what is reached, whether one can go on (l25Bits, l27Part, l28Goes). -/
namespace Go.Proofs.YtfphapcgjlhieaaDoor
open Go.RowKit

/-- A row of sets, in int64. -/
theorem i64_cell {w : World} {p : Option Addr} {n c : Nat} {a : List Nat} (h : Sl w 2 (.slice p n c) a.length (a.map i64v)) {v : Nat} (hv : v < a.length) :
    ∃ b o, p = some ⟨b, o, none⟩ ∧ w.cell? ⟨b, o + v, none⟩ = some (.int .i64 (a[v] : Int)) := by
  obtain ⟨p', c', he, _, _, _, hat⟩ := h
  simp only [Value.slice.injEq] at he
  obtain ⟨rfl, rfl, rfl⟩ := he
  obtain ⟨b, o, h1, h2⟩ := hat.cells (k := v) (by simpa using hv)
  exact ⟨b, o, h1, h2 v _ (by simp [hv, i64v])⟩

set_option maxRecDepth 100000 in
set_option maxHeartbeats 2000000 in
theorem l25Bits_any (v : Value) (g : List (List Int)) (w : World) (hg : Gr w v g) (hok : GOk g) :
    Calls Tryd.prog 145 #[v] w fun e w' => ∃ u, e = .returned u ∧
      w'.ownsRow w.heap.size 2 1 u g.length ((netL g).map i64v) ∧ Below w.heap.size w w' := by
  obtain ⟨u, rfl, hr⟩ := hg
  obtain ⟨p, c, rfl, _, _, hn⟩ := hr.shape
  have h16 := hok.le
  have hbb := below_alloc w (.cells #[.slice p g.length c] 26)
  have hbox := cell_new w (.slice p g.length c) 26
  have BX := Lib.hid (Box.new w (.slice p g.length c) 26)
  have HOK := Lib.hid hok
  clear hok
  go_enter Tryd.func145, Tryd.ntmps145
  go_wp2
  go_loopw [3, 4] (fun o i wr => ∃ k : Nat, k ≤ g.length ∧ i = .int .i64 k ∧ wr.ownsRow (w.heap.size + 1) 2 1 o k ((netL (g.take k)).map i64v) ∧ Below w.heap.size w wr ∧ Box wr w.heap.size 26 (.slice p g.length c)) (fun _ i _ => g.length - (intOf i).toNat)
  case atStart => exact ⟨0, Nat.zero_le _, rfl, ownsRow_empty' _ _ _ _ _ (by omega), hbb.alloc (by rw [size_alloc]; omega) _, BX.out.alloc _⟩
  case round =>
    clear hbox hbb
    obtain ⟨k, hk, rfl, hown, hbel, hbxr⟩ := hrel
    have hszr := hbel.size
    have hbc := hbxr.cell
    have HBX := Lib.hid hbxr
    clear hbxr
    by_cases hlt : k < g.length
    · obtain ⟨b, o, rp, rc, rfl, hcell, hnums⟩ := (hr.below hbel).get hlt
      change wr.cell? _ = some (.slice rp (row g k).length rc) at hcell
      change Nums wr _ _ (.slice rp (row g k).length rc) (row g k) at hnums
      have HIN : Hid (∀ x ∈ row g k, 0 ≤ x ∧ x < 16) := Lib.hid (fun x hx => by have := (HOK.out.sets k hlt).1.1 x hx; omega)
      have ht := Lib.hid (take_snoc' g k hlt)
      have He : Hid (g[k] = row g k) := Lib.hid (by simp [row, hlt])
      have hrl : (row g k).length ≤ 16 := gOk_row_le HOK.out k hlt
      have HN := Lib.hid hnums
      clear hnums
      obtain ⟨wo, rfl⟩ : ∃ wo, wo = wr := ⟨_, rfl⟩
      go_wp2
      go_loopw [5, 6] (fun m t wx => ∃ (a j : Nat), m = .int .i64 a ∧ t = .int .i64 j ∧ j ≤ (row g k).length ∧ a = mask ((row g k).take j) ∧ wx = wo) (fun _ t _ => (row g k).length - (intOf t).toNat)
      case atStart => exact ⟨0, 0, rfl, rfl, Nat.zero_le _, by simp [mask], rfl⟩
      case round =>
        obtain ⟨a, j, rfl, rfl, hj, ha, rfl⟩ := hrel
        by_cases hjl : j < (row g k).length
        · obtain ⟨rb, ro, rfl, hc⟩ := HN.out.get hjl
          have hxx := HIN.out _ (List.getElem_mem hjl)
          obtain ⟨x, hx⟩ : ∃ x : Nat, (row g k)[j] = (x : Int) := ⟨((row g k)[j]).toNat, by omega⟩
          have hts := Lib.hid (take_snoc (row g k) j hjl)
          rw [hx] at hc hxx
          have HX := Lib.hid hx
          have hx16 : x < 16 := by omega
          have hwp := wrap_pow x (by omega)
          have ha16 : a < 65536 := by rw [ha]; exact mask_take_lt16 HIN.out j
          have hp16 := pow_lt16 x hx16
          have HA := Lib.hid ha
          obtain ⟨q, hq⟩ : ∃ q, q = 2 ^ x := ⟨_, rfl⟩
          rw [← hq] at hwp hp16
          have HQ := Lib.hid hq
          have hor := i64_or_nat a q (Nat.lt_trans ha16 (by decide)) (Nat.lt_trans hp16 (by decide))
          have HM : Hid (a ||| q = mask ((row g k).take (j + 1))) := Lib.hid (by rw [hts.out, mask_snoc, ← ha, hx, hq]; rfl)
          generalize a ||| q = r at hor HM
          clear hx hq ha
          go_wp2
          go_roundw
          case rel => exact ⟨r, j + 1, rfl, by go_num, by omega, HM.out, trivial⟩
          case measure => simp [intOf]; omega
        · obtain rfl : j = (row g k).length := by omega
          rw [List.take_length] at ha
          have HA := Lib.hid ha
          have hk9 : k < 1000000000 := by omega
          clear ha
          go_wp2_with (at_builtin; refine wpList_app1 ty_i64 rfl rfl rfl hown rfl rfl hk9 HBX.out.lt ?_; intro v' w1 hown' hg _)
          go_roundw
          case rel =>
            refine ⟨k + 1, by omega, by go_num, ?_, below_grown hbel hown hg (Nat.le_succ _) hszr, ?_⟩
            · rw [ht.out, netL, List.map_append, List.map_append, List.map_singleton, List.map_singleton, He.out, ← HA.out]
              exact hown'
            · exact HBX.out.grown hg (fun e => by have := (hown.lt _ e.symm).1; omega)
          case measure => simp [intOf]; omega
    · obtain rfl : k = g.length := by omega
      go_wp2
      go_ret
      rw [List.take_length] at hown
      exact ⟨_, rfl, ownsRow_base hown (Nat.le_succ _), hbel⟩

end Go.Proofs.YtfphapcgjlhieaaDoor

/- Walks: size (of sets of sixteen), whether edges are left, canTrail (the program's). -/
namespace Go.Proofs.YtfphapcgjlhieaaDoor
open Go.RowKit

theorem pop8_bitsT : ∀ n : Fin 256, Lib.pop8 (n.val : Int) = ((bitsOf n.val).length : Int) := by decide +kernel
theorem bits_count (s : Nat) : (bitsOf s).length = (List.range 32).countP fun i => s.testBit i := by
  unfold bitsOf
  rw [List.countP_eq_length_filter]
theorem bits_split (s : Nat) (hs : s < 65536) : (bitsOf s).length = (bitsOf (s / 256)).length + (bitsOf (s % 256)).length := by
  rw [bits_count, bits_count, bits_count]
  have e1 : List.range 32 = List.range 8 ++ (List.range 24).map (8 + ·) := by decide
  have e2 : List.range 32 = List.range 24 ++ (List.range 8).map (24 + ·) := by decide
  have h1 : (List.range 32).countP (fun i => (s % 256).testBit i) = (List.range 8).countP fun i => s.testBit i := by
    rw [e1, List.countP_append, List.countP_map]
    have a : (List.range 8).countP (fun i => (s % 256).testBit i) = (List.range 8).countP fun i => s.testBit i := List.countP_congr fun i hi => by
      have := List.mem_range.1 hi
      rw [show 256 = 2 ^ 8 by decide, Nat.testBit_mod_two_pow]
      simp [this]
    have b : (List.range 24).countP ((fun i => (s % 256).testBit i) ∘ (8 + ·)) = 0 := List.countP_eq_zero.2 fun i _ => by
      simp only [Function.comp]
      rw [show 256 = 2 ^ 8 by decide, Nat.testBit_mod_two_pow]
      simp
      intro h
      omega
    rw [a, b, Nat.add_zero]
  have h2 : (List.range 32).countP (fun i => (s / 256).testBit i) = (List.range 24).countP fun i => s.testBit (8 + i) := by
    rw [e2, List.countP_append, List.countP_map]
    have a : (List.range 24).countP (fun i => (s / 256).testBit i) = (List.range 24).countP fun i => s.testBit (8 + i) := List.countP_congr fun i _ => by
      rw [show 256 = 2 ^ 8 by decide, Nat.testBit_div_two_pow, Nat.add_comm]
    have b : (List.range 8).countP ((fun i => (s / 256).testBit i) ∘ (24 + ·)) = 0 := List.countP_eq_zero.2 fun i _ => by
      simp only [Function.comp]
      have : (s / 256).testBit (24 + i) = false := Nat.testBit_lt_two_pow (Nat.lt_of_lt_of_le (show s / 256 < 2 ^ 24 by omega) (Nat.pow_le_pow_right (by decide) (by omega)))
      simp [this]
    rw [a, b, Nat.add_zero]
  rw [h1, h2, e1, List.countP_append, List.countP_map, Nat.add_comm]
  rfl

set_option maxRecDepth 100000 in
set_option maxHeartbeats 1000000 in
theorem ones16_any (s : Nat) (hs : s < 65536) (w : World) :
    Calls Tryd.prog 116 #[.int .u32 s] w fun e w' => e = .returned (.int .i64 (bitsOf s).length) ∧ ∃ q, w' = w.drewN q := by
  obtain ⟨q, hq⟩ : ∃ q, q = s / 256 := ⟨_, rfl⟩
  obtain ⟨r, hr⟩ : ∃ r, r = s % 256 := ⟨_, rfl⟩
  have h24 : (s : Int) / 16777216 = 0 := by omega
  have h16 : (s : Int) / 65536 = 0 := by omega
  have h8 : (s : Int) / 256 = (q : Int) := by omega
  have k24 : (s : Int) / 2 ^ 24 = 0 := by omega
  have k16 : (s : Int) / 2 ^ 16 = 0 := by omega
  have k8 : (s : Int) / 2 ^ 8 = (q : Int) := by omega
  have a0 : bits BinOp.and IntKind.u32 0 255 = 0 := by decide
  have a255 : bits BinOp.and IntKind.u32 (s : Int) 255 = (r : Int) := by
    have e := u32_and_nat s 255 (by omega) (by decide)
    have e2 : s &&& 255 = r := by
      have := Nat.and_two_pow_sub_one_eq_mod s 8
      rw [show (2 ^ 8 - 1 : Nat) = 255 by decide] at this
      omega
    rw [e2] at e
    exact e
  have aq : bits BinOp.and IntKind.u32 (q : Int) 255 = (q : Int) := by
    have e := u32_and_nat q 255 (by omega) (by decide)
    have e2 : q &&& 255 = q := by
      have := Nat.and_two_pow_sub_one_eq_mod q 8
      rw [show (2 ^ 8 - 1 : Nat) = 255 by decide] at this
      omega
    rw [e2] at e
    exact e
  have HH : Hid ((Lib.pop8 0 + Lib.pop8 0 + Lib.pop8 (q : Int) + Lib.pop8 (r : Int)) % 256 = ((bitsOf s).length : Int)) := Lib.hid (by
    have e0 : Lib.pop8 0 = 0 := by decide +kernel
    have e1 := pop8_bitsT ⟨q, by omega⟩
    have e2 := pop8_bitsT ⟨r, by omega⟩
    have e3 := bits_split s hs
    have e4 := bitsOf_length s
    rw [← hq, ← hr] at e3
    simp only at e1 e2
    rw [e0, e1, e2]
    omega)
  have i0 : (0 : Int) ≤ (r : Int) := by omega
  have i1 : (r : Int) ≤ 255 := by omega
  have j0 : (0 : Int) ≤ (q : Int) := by omega
  have j1 : (q : Int) ≤ 255 := by omega
  clear hq hr
  go_enter Tryd.func116, Tryd.ntmps116
  go_wp2
  go_quiet (fail)
  go_wp2
  go_ret
  exact ⟨by rw [← HH.out]; rfl, _, rfl⟩

set_option maxHeartbeats 400000 in
theorem size16_any (z : Int) (s : Nat) (hz : z = s) (hs : s < 65536) (w : World) :
    Calls Tryd.prog 49 #[.int .u32 z] w fun e w' => e = .returned (.int .i64 (bitsOf s).length) ∧ ∃ q, w' = w.drewN q := by
  subst hz
  go_enter Tryd.func49, Tryd.ntmps49
  go_wp2_with (go_at_call 116; refine (ones16_any s hs _).mono ?_; rintro e w2 ⟨rfl, q, rfl⟩)
  go_ret
  exact ⟨rfl, _, rfl⟩

theorem decide_decT {p q : Prop} [Decidable p] (h : p ↔ q) : decide p = dec q := by
  by_cases k : q
  · rw [dec_true k]; simpa using h.2 k
  · rw [dec_false k]; simpa using fun x => k (h.1 x)
/-! ### Edges left -/
theorem bits0_deg {n : Nat} (hn : n ≤ 16) {E : Nat → Nat → Bool} {v s : Nat} (hs : s < 65536) (hb : ∀ j, s.testBit j = (decide (j < n) && E v j)) : s = 0 ↔ degN n E v = 0 := by
  rw [← bits_deg hn hs hb]
  constructor
  · intro h; subst h; rfl
  · intro h
    have h1 : bitsOf s = [] := List.eq_nil_of_length_eq_zero h
    rw [← mask_bitsOf hs, h1]
    rfl

end Go.Proofs.YtfphapcgjlhieaaDoor
