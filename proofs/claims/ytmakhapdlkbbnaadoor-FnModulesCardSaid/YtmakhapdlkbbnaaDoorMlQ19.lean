/- Walks: how the program says that a vertex may be folded, and how it folds it away. -/
import Derived.Test.YtmakhapdlkbbnaaDoorMlQ8
import Derived.Test.YtmakhapdlkbbnaaDoorMlQ12
import Derived.Test.YtmakhapdlkbbnaaDoorMlQ2
import Derived.Test.YtmakhapdlkbbnaaDoorMlQ3
import Derived.Deep.RegionHeld3
import Derived.Deep.DeepCutAuto
import Derived.Test.YtmakhapdlkbbnaaDoorMlQ18
namespace Go.Proofs.YtmakhapdlkbbnaaDoor
open Go.RowKit

theorem and_near {a : List Nat} (ha : ∀ s ∈ a, s < 65536) {v left : Nat} (hv : v < a.length) (hl : left < 65536) : bits BinOp.and IntKind.u32 (a[v] : Int) (left : Int) = ((a.getD v 0 &&& left : Nat) : Int) := by
  have e : a.getD v 0 = a[v] := by simp [hv]
  rw [e]
  exact u32_and_nat _ _ (by have := ha _ (List.getElem_mem hv); omega) (by omega)

theorem nets_cell {w : World} {p : Option Addr} {n c : Nat} {a : List Nat} (h : Sl w 79 (.slice p n c) a.length (a.map u32v)) {v : Nat} (hv : v < a.length) :
    ∃ b o, p = some ⟨b, o, none⟩ ∧ w.cell? ⟨b, o + v, none⟩ = some (.int .u32 (a[v] : Int)) := by
  obtain ⟨p', c', he, _, _, _, hat⟩ := h
  simp only [Value.slice.injEq] at he
  obtain ⟨rfl, rfl, rfl⟩ := he
  obtain ⟨b, o, h1, h2⟩ := hat.cells (k := v) (by simpa using hv)
  exact ⟨b, o, h1, h2 v _ (by simp [hv, u32v])⟩


end Go.Proofs.YtmakhapdlkbbnaaDoor

/- Walk: the program says whether a vertex may be pruned so. -/
namespace Go.Proofs.YtmakhapdlkbbnaaDoor
open Go.RowKit

theorem netL_lenP (g : List (List Int)) : (netL g).length = g.length := by simp [netL]

/-- What the walk needs of the sets. -/
structure NetI (w : World) (x : Value) (g : List (List Int)) (s : Nat) : Prop where
  ok : LOk g s
  sl : Sl w 79 x g.length ((netL g).map u32v)
theorem NetI.next {w w' : World} {x : Value} {g : List (List Int)} {s : Nat} (h : NetI w x g s) (hb : Below w.heap.size w w') : NetI w' x g s := ⟨h.ok, h.sl.below hb⟩
theorem NetI.get {w : World} {p : Option Addr} {n c : Nat} {g : List (List Int)} {s : Nat} (h : NetI w (.slice p n c) g s) {v : Nat} (hv : v < g.length) :
    ∃ (b o : Nat) (a : Int), p = some ⟨b, o, none⟩ ∧ w.cell? ⟨b, o + v, none⟩ = some (.int .u32 a) ∧ bits BinOp.and IntKind.u32 a (s : Int) = ((mask (row g v) &&& s : Nat) : Int) := by
  have hvl : v < (netL g).length := by rw [netL_lenP]; exact hv
  obtain ⟨b, o, h1, h2⟩ := nets_cell (a := netL g) (by rw [netL_lenP]; exact h.sl) hvl
  have h3 := and_near (netL_lt h.ok.ok) hvl h.ok.s16
  rw [netL_getD] at h3
  exact ⟨b, o, _, h1, h2, h3⟩

theorem goP_aloneN {g : List (List Int)} {s : Nat} (h : LOk g s) {v : Nat} (hv : v < g.length) : GoP g (natInts (bitsOf s)) v (-1) 1 ↔ mask (row g v) &&& s = 0 := by
  rw [alone_mask h hv]
  constructor
  · rintro (⟨_, _, h1⟩ | ⟨h1, _⟩)
    · rwa [Int.toNat_natCast] at h1
    · obtain ⟨i, e, _⟩ := (mem_bitsZ h.s16).1 h1
      omega
  · intro h1
    exact .inl ⟨rfl, rfl, by rw [Int.toNat_natCast]; exact h1⟩
theorem goP_oneN {g : List (List Int)} {L : List Int} {v b : Int} (hb : b ≠ -1) : ¬ GoP g L v b 1 := by
  rintro (⟨_, h, _⟩ | ⟨_, _, h⟩)
  · exact hb h
  · have := condP_kind h; omega
theorem goP_outN {g : List (List Int)} {L : List Int} {v b k : Int} (hk : 2 ≤ k) (hb : ¬ (b ∈ L ∧ b ≠ v)) : ¬ GoP g L v b k := by
  rintro (⟨h, _⟩ | ⟨h1, h2, _⟩)
  · omega
  · exact hb ⟨h1, h2⟩
theorem goP_twoN {g : List (List Int)} {s : Nat} (h : LOk g s) {v b : Nat} (hv : v < g.length) (hb : s.testBit b = true) (hvb : b ≠ v) : GoP g (natInts (bitsOf s)) v b 2 ↔ mask (row g v) &&& s = 2 ^ b := by
  rw [pend_mask h hv hb]
  constructor
  · rintro (⟨h1, _⟩ | ⟨_, _, h1⟩)
    · omega
    · rcases h1 with ⟨_, h1⟩ | ⟨h1, _⟩ | ⟨h1, _⟩
      · simpa only [Int.toNat_natCast] using h1
      · omega
      · omega
  · intro h1
    exact .inr ⟨(mem_bitsI h.s16).2 hb, by omega, .inl ⟨rfl, by simpa only [Int.toNat_natCast] using h1⟩⟩
theorem goP_threeN {g : List (List Int)} {s : Nat} (h : LOk g s) {v b : Nat} (hv : s.testBit v = true) (hb : s.testBit b = true) (hvb : b ≠ v) : GoP g (natInts (bitsOf s)) v b 3 ↔ mask (row g v) &&& s = mask (row g b) &&& s := by
  rw [false_mask h hv hb (fun e => hvb e.symm)]
  constructor
  · rintro (⟨h1, _⟩ | ⟨_, _, h1⟩)
    · omega
    · rcases h1 with ⟨h1, _⟩ | ⟨_, h1⟩ | ⟨h1, _⟩
      · omega
      · simpa only [Int.toNat_natCast] using h1
      · omega
  · intro h1
    exact .inr ⟨(mem_bitsI h.s16).2 hb, by omega, .inr (.inl ⟨rfl, by simpa only [Int.toNat_natCast] using h1⟩)⟩
theorem goP_fourN {g : List (List Int)} {s : Nat} (h : LOk g s) {v b : Nat} (hv : s.testBit v = true) (hb : s.testBit b = true) (hvb : b ≠ v) :
    GoP g (natInts (bitsOf s)) v b 4 ↔ ((mask (row g v) &&& s).testBit b = true ∧ sub (mask (row g v) &&& s) (2 ^ b) = sub (mask (row g b) &&& s) (2 ^ v)) := by
  rw [true_mask h hv hb (fun e => hvb e.symm)]
  constructor
  · rintro (⟨h1, _⟩ | ⟨_, _, h1⟩)
    · omega
    · rcases h1 with ⟨h1, _⟩ | ⟨h1, _⟩ | ⟨_, h1⟩
      · omega
      · omega
      · simpa only [Int.toNat_natCast] using h1
  · intro h1
    exact .inr ⟨(mem_bitsI h.s16).2 hb, by omega, .inr (.inr ⟨rfl, by simpa only [Int.toNat_natCast] using h1⟩)⟩

end Go.Proofs.YtmakhapdlkbbnaaDoor

/- Walks: splitters. -/
namespace Go.Proofs.YtmakhapdlkbbnaaDoor
open Go.RowKit

theorem nums_atA {w : World} {E : TypeId} {p : Option Addr} {m c : Nat} {xs : List Int} (h : Nums w E .i64 (.slice p m c) xs) : At w E p (xs.map (Value.int .i64)) := by
  obtain ⟨p', c', e, _, _, _, hat⟩ := h
  simp only [Value.slice.injEq] at e
  obtain ⟨rfl, _, _⟩ := e
  exact hat
set_option maxRecDepth 100000 in
set_option maxHeartbeats 2000000 in
theorem splitters_any (g : List (List Int)) (xp : Option Addr) (xc : Nat) (yw ys : Int) (W s : Nat) (hyw : yw = W) (hys : ys = s) (hW : W = 2 ^ g.length - 1) (hs : s < 2 ^ g.length) (hok : GOk g) (w : World) (hx : Sl w 79 (.slice xp g.length xc) g.length ((netL g).map u32v)) (hT : Tab w) :
    Calls Tryd.prog 107 #[.slice xp g.length xc, .int .u32 yw, .int .u32 ys] w fun e w' => ∃ z : Nat, e = .returned (.int .u32 z) ∧ z < 65536 ∧ (z = 0 ↔ ModN g s) ∧ Below w.heap.size w w' := by
  subst hyw hys
  have h16 := hok.le
  obtain ⟨_, hs16⟩ := cand_bits h16 hs
  have hW16 : W < 65536 := by
    have := Nat.pow_le_pow_right (show 0 < 2 by decide) h16
    have h2 : (2 : Nat) ^ 16 = 65536 := by decide
    have : 0 < 2 ^ g.length := Nat.two_pow_pos _
    omega
  have hand := Lib.hid (u32_andNot_nat W s (by omega) (by omega))
  obtain ⟨r, hr⟩ : ∃ r, r = sub W s := ⟨_, rfl⟩
  have hr16 : r < 65536 := by rw [hr]; exact sub_lt16 _ _ hW16
  have hrb : Hid (∀ v, v ∈ bitsOf r ↔ v < g.length ∧ s.testBit v = false) := Lib.hid (fun v => by
    rw [mem_bitsOf' (by omega), hr, testBit_sub _ _ (by omega) (by omega), hW, testBit_firstOf]
    simp)
  have HR := Lib.hid hr
  obtain ⟨L, hLe⟩ : ∃ L, bitsOf r = L := ⟨_, rfl⟩
  have HLe := Lib.hid hLe
  have hL32 : L.length ≤ 32 := by rw [← hLe]; exact bitsOf_length r
  rw [hLe] at hrb
  clear hLe
  have HX := Lib.hid hx
  have HT := Lib.hid hT
  have HOK := Lib.hid hok
  clear hx hT hr hW hok
  have HSP : Hid (ModN g s ↔ ∀ v ∈ L, ¬ SplN g v s) := Lib.hid (by
    rw [mod_iff]
    exact ⟨fun h v hv hs => h v ((hrb.out v).1 hv).1 ⟨((hrb.out v).1 hv).2, hs⟩, fun h v hv hs => h v ((hrb.out v).2 ⟨hv, hs.1⟩) hs.2⟩)
  go_enter Tryd.func107, Tryd.ntmps107
  go_wp2_with (go_at_call 130; refine (list_any _ r (by rw [hand.out, HR.out]; rfl) (by omega) _ HT.out).mono ?_; rintro e w1 ⟨lv, rfl, ho1, hb1⟩; rw [HLe.out] at ho1; obtain ⟨lp, lc, rfl⟩ := owns_shapeA ho1)
  have HN1 := Lib.hid (numsInt_of _ _ _ _ ho1 (by omega))
  have HB1 := Lib.hid hb1
  clear ho1 hb1
  go_loopw [7, 16] (fun o i wr => ∃ (k z : Nat), k ≤ L.length ∧ i = .int .i64 k ∧ o = .int .u32 z ∧ z < 65536 ∧ (z = 0 ↔ ∀ v ∈ L.take k, ¬ SplN g v s) ∧ wr = w1) (fun _ i _ => L.length - (intOf i).toNat)
  case atStart => exact ⟨0, 0, Nat.zero_le _, rfl, rfl, by decide, by simp, rfl⟩
  case round =>
    obtain ⟨k, z, hk, rfl, rfl, hz, hzi, rfl⟩ := hrel
    have HZ := Lib.hid hzi
    clear hzi
    by_cases hlt : k < L.length
    · obtain ⟨b, o1, rfl, hcell⟩ := (nums_atA HN1.out).num (k := k) (by rw [natInts_length]; exact hlt)
      rw [natInts_atL hlt] at hcell
      have htk := Lib.hid (take_snoc L k hlt)
      have hvg := ((hrb.out _).1 (List.getElem_mem hlt)).1
      generalize hV : L[k]'hlt = v at hcell hvg htk
      clear hV
      have e0 : (0 : Int) ≤ (v : Int) := by omega
      have e1 : (v : Int) < (g.length : Int) := by omega
      obtain ⟨nb, no, rfl, hnc⟩ := nets_cell (a := netL g) (by rw [netL_lenP]; exact HX.out.below HB1.out) (v := v) (by rw [netL_lenP]; exact hvg)
      have hn16 := netL_lt HOK.out _ (List.getElem_mem (l := netL g) (by rw [netL_lenP]; exact hvg))
      have hnv : Hid ((netL g)[v]'(by rw [netL_lenP]; exact hvg) = mask (row g v)) := Lib.hid (by
        rw [← netL_getD, List.getD_eq_getElem?_getD, List.getElem?_eq_getElem (by rw [netL_lenP]; exact hvg)]
        rfl)
      generalize hNV : (netL g)[v]'(by rw [netL_lenP]; exact hvg) = nv at hnc hn16 hnv
      clear hNV
      have hA := u32_and_nat nv s (by omega) (by omega)
      generalize hQ : nv &&& s = q at hA
      have HQ : Hid (mask (row g v) &&& s = q) := Lib.hid (by rw [← hnv.out]; exact hQ)
      clear hQ
      obtain ⟨t, ht⟩ : ∃ t, t = 2 ^ v := ⟨_, rfl⟩
      have ht16 : t < 65536 := by rw [ht]; exact pow_lt16 v (by omega)
      have ht0 : t ≠ 0 := by rw [ht]; exact Nat.ne_of_gt (Nat.two_pow_pos v)
      have HTT := Lib.hid ht
      have hOr := Lib.hid (u32_or_nat z t (by omega) (by omega))
      clear ht
      by_cases hsp : SplN g v s
      · have hq0 : ((q : Int) != 0) = true := by
          simp only [bne_iff_ne, ne_eq]
          intro h
          exact hsp (.inl (by rw [HQ.out]; omega))
        have hq1 : ((q : Int) != (s : Int)) = true := by
          simp only [bne_iff_ne, ne_eq]
          intro h
          exact hsp (.inr (by rw [HQ.out]; omega))
        have HS := Lib.hid hsp
        clear hsp
        go_wp2_with (go_at_call 135; refine (one_any _ v rfl (by omega) _).mono ?_; rintro e w2 ⟨he2, hw2⟩; rw [← HTT.out] at he2; subst he2; subst hw2)
        go_roundw
        case rel =>
          refine ⟨k + 1, z ||| t, by omega, by go_num, by rw [hOr.out], or_lt16 _ _ hz ht16, ?_, trivial⟩
          constructor
          · intro h
            exact absurd (Nat.or_eq_zero_iff.1 h).2 ht0
          · intro h
            rw [htk.out] at h
            exact absurd HS.out (h v (by simp))
        case measure => simp [intOf]; omega
      · have hq : q = 0 ∨ q = s := by
          have := Decidable.not_not.1 hsp
          rwa [HQ.out] at this
        have HS := Lib.hid hsp
        clear hsp
        have HREL : Hid (z = 0 ↔ ∀ v ∈ L.take (k + 1), ¬ SplN g v s) := Lib.hid (by
          rw [HZ.out, htk.out]
          constructor
          · intro h x hx
            rcases List.mem_append.1 hx with hx | hx
            · exact h x hx
            · obtain rfl : x = v := by simpa using hx
              exact HS.out
          · intro h x hx
            exact h x (List.mem_append.2 (.inl hx)))
        by_cases h0 : q = 0
        · have hq0 : ((q : Int) != 0) = false := by simp [h0]
          clear hq h0
          go_wp2
          go_roundw
          case rel => exact ⟨k + 1, z, by omega, by go_num, rfl, hz, HREL.out, trivial⟩
          case measure => simp [intOf]; omega
        · have hq0 : ((q : Int) != 0) = true := by simp; omega
          have hq1 : ((q : Int) != (s : Int)) = false := by simp; omega
          clear hq h0
          go_wp2
          go_roundw
          case rel => exact ⟨k + 1, z, by omega, by go_num, rfl, hz, HREL.out, trivial⟩
          case measure => simp [intOf]; omega
    · obtain rfl : k = L.length := by omega
      go_wp2
      go_ret
      exact ⟨z, rfl, hz, by rw [HZ.out, HSP.out, List.take_length], HB1.out⟩

end Go.Proofs.YtmakhapdlkbbnaaDoor
