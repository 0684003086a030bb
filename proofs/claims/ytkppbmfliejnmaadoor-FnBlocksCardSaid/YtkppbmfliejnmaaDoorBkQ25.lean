/- Walks: an edge of whatever graph, the program's contraction. -/
import Derived.Test.YtkppbmfliejnmaaDoorBkQ23
import Derived.Test.YtkppbmfliejnmaaDoorBkQ24
import Derived.Test.YtkppbmfliejnmaaDoorBkQ13
import Derived.Test.YtkppbmfliejnmaaDoorBkQ14
import Derived.Test.YtkppbmfliejnmaaDoorBkQ12
import Derived.Test.YtkppbmfliejnmaaDoorBkQ15
namespace Go.Proofs.YtkppbmfliejnmaaDoor
open Go.RowKit

/-- y and z are joined in g, which is right. -/
def EdgP (g : List (List Int)) (y z : Int) : Prop := GOk g ∧ (0 ≤ y ∧ y < g.length) ∧ z ∈ row g y.toNat
def VtxP (g : List (List Int)) (y : Int) : Prop := GOk g ∧ 0 ≤ y ∧ y < g.length
theorem EdgP.nat {g : List (List Int)} {y z : Int} (h : EdgP g y z) : ∃ a b : Nat, y = a ∧ z = b ∧ a < g.length ∧ b < g.length ∧ a ≠ b ∧ ofG g a b = true := by
  obtain ⟨hg, ⟨h1, h2⟩, h3⟩ := h
  have h4 := (hg.sets y.toNat (by omega)).1.1 z h3
  have h5 := (hg.sets y.toNat (by omega)).2
  refine ⟨y.toNat, z.toNat, by omega, by omega, by omega, by omega, fun e => h5 ?_, ?_⟩
  · rw [show ((y.toNat : Nat) : Int) = z by omega]; exact h3
  · simp only [ofG, decide_eq_true_eq]
    rw [show ((z.toNat : Nat) : Int) = z by omega]; exact h3

set_option maxRecDepth 100000 in
set_option maxHeartbeats 1000000 in
theorem isVertexC_any (v : Value) (g : List (List Int)) (x : Int) (w : World) (hg : Gr w v g) :
    Calls Tryd.prog 121 #[v, .int .i64 x] w fun e w' => e = .returned (.bool (dec (VtxP g x))) ∧ Below w.heap.size w w' := by
  by_cases hok : GOk g
  · refine (isVertexE_any v g x hok w hg).mono ?_
    rintro e w2 ⟨rfl, hb⟩
    exact ⟨ret_bool (dec_congr ⟨fun h => ⟨hok, h⟩, fun h => h.2⟩), hb⟩
  · have hg0 := hg
    obtain ⟨u, rfl, hr⟩ := hg
    obtain ⟨p, c, rfl, _⟩ := hr.shape
    have hbA := Lib.hid (below_alloc w (.cells #[.slice p g.length c] 29))
    have HG := Lib.hid (hg0.below hbA.out)
    have HD := Lib.hid (dec_false hok)
    have HN := Lib.hid (dec_false (show ¬ VtxP g x from fun h => hok h.1))
    clear hr hg0 hok
    go_enter Tryd.func121, Tryd.ntmps121
    go_wp2_with (go_at_call 87; refine (implGraphOk_any _ g _ HG.out).mono ?_; rintro e w2 ⟨he, hb2⟩; rw [HD.out] at he; subst he)
    go_ret
    exact ⟨ret_bool HN.out.symm, hbA.out.trans (hb2.mono hbA.out.size)⟩

set_option maxRecDepth 100000 in
set_option maxHeartbeats 1000000 in
theorem implEdgeInC_any (v : Value) (g : List (List Int)) (y z : Int) (w : World) (hg : Gr w v g) :
    Calls Tryd.prog 41 #[v, .int .i64 y, .int .i64 z] w fun e w' => e = .returned (.bool (dec (EdgP g y z))) ∧ Below w.heap.size w w' := by
  have hg0 := hg
  obtain ⟨u, rfl, hr⟩ := hg
  obtain ⟨p, c, rfl, _⟩ := hr.shape
  have hbA := Lib.hid (below_alloc w (.cells #[.slice p g.length c] 29))
  have HG := Lib.hid (hg0.below hbA.out)
  have HR := Lib.hid (hr.below hbA.out)
  have BX := Lib.hid (Box.new w (.slice p g.length c) 29)
  by_cases hx : VtxP g y
  · obtain ⟨a, ha⟩ : ∃ a : Nat, y = a := ⟨y.toNat, by have := hx.2; omega⟩
    subst ha
    have hal : a < g.length := by have := hx.2; omega
    have HE : Hid (dec (EdgP g (a : Int) z) = dec (z ∈ row g a)) := Lib.hid (dec_congr (by
      unfold EdgP
      rw [Int.toNat_natCast]
      exact ⟨fun h => h.2.2, fun h => ⟨hx.1, hx.2, h⟩⟩))
    have HX := Lib.hid (dec_true hx)
    obtain ⟨rb, ro, rp, rc, rfl, _, _⟩ := HR.out.get hal
    have HRow : Hid (∀ wz, Below w.heap.size w wz → ∃ rp rc, wz.cell? ⟨rb, ro + a, none⟩ = some (.slice rp (row g a).length rc) ∧ Nums wz 2 .i64 (.slice rp (row g a).length rc) (row g a)) := Lib.hid fun wz hbz => by
      obtain ⟨b', o', rp', rc', e1, h1, h2⟩ := (hr.below hbz).get hal
      cases e1
      exact ⟨rp', rc', h1, h2⟩
    obtain ⟨d, hd⟩ : ∃ d, dec (z ∈ row g a) = d := ⟨_, rfl⟩
    have HD := Lib.hid hd
    clear hr hg0 hx hd
    go_enter Tryd.func41, Tryd.ntmps41
    go_wp2_with (first
      | (go_at_call 122; refine (contains_any _ (row g a) z _ (hrn.below (below_dN (Below.refl _ _) 1))).mono ?_; rintro e w3 ⟨he, hw⟩; rw [HD.out] at he; subst he; subst hw)
      | (go_at_call 122; refine (contains_any _ (row g a) z _ hrn).mono ?_; rintro e w3 ⟨he, hw⟩; rw [HD.out] at he; subst he; subst hw)
      | (go_at_call 121; refine (isVertexC_any _ g (a : Int) _ HG.out).mono ?_; rintro e w2 ⟨he, hb2⟩; rw [HX.out] at he; subst he; have hbx := (BX.out.keep hb2).cell; have hbw := hbA.out.trans (hb2.mono hbA.out.size); obtain ⟨rp2, rc2, hrc, hrn⟩ := HRow.out _ hbw))
    go_ret
    exact ⟨ret_bool (by rw [HE.out, HD.out]), hbw⟩
  · have HX := Lib.hid (dec_false hx)
    have HE := Lib.hid (dec_false (show ¬ EdgP g y z from fun h => hx ⟨h.1, h.2.1⟩))
    clear hr hg0 hx
    go_enter Tryd.func41, Tryd.ntmps41
    go_wp2_with (go_at_call 121; refine (isVertexC_any _ g y _ HG.out).mono ?_; rintro e w2 ⟨he, hb2⟩; rw [HX.out] at he; subst he)
    go_ret
    exact ⟨ret_bool HE.out.symm, hbA.out.trans (hb2.mono hbA.out.size)⟩

set_option maxRecDepth 100000 in
theorem l1ThereC_any (v : Value) (g : List (List Int)) (x : Int) (w : World) (hg : Gr w v g) (hn : g.length ≤ 1000000000) :
    Calls Tryd.prog 108 #[v, .int .i64 x] w fun e w' => e = .returned (.bool (dec (0 ≤ x ∧ x < g.length))) ∧ Below w.heap.size w w' := by
  have hg0 := hg
  obtain ⟨u, rfl, hr⟩ := hg
  obtain ⟨p, c, rfl, _⟩ := hr.shape
  have hbA := Lib.hid (below_alloc w (.cells #[.slice p g.length c] 29))
  have HG := Lib.hid (hg0.below hbA.out)
  clear hr hg0
  go_enter Tryd.func108, Tryd.ntmps108
  go_wp2_with (first
    | (go_at_call 153; refine (l1In_any _ _ _ _).mono ?_; rintro e w3 ⟨rfl, rfl⟩)
    | (go_at_call 132; refine (l1Size_any _ g _ HG.out).mono ?_; rintro e w2 ⟨rfl, hb2⟩))
  go_ret
  exact ⟨ret_bool (dec_congr (by omega)), hbA.out.trans (hb2.mono hbA.out.size)⟩

set_option maxRecDepth 100000 in
set_option maxHeartbeats 2000000 in
theorem specEdgeInC_any (v : Value) (g : List (List Int)) (y z : Int) (w : World) (hg : Gr w v g) :
    Calls Tryd.prog 31 #[v, .int .i64 y, .int .i64 z] w fun e w' => e = .returned (.bool (dec (EdgP g y z))) ∧ Below w.heap.size w w' := by
  have hg0 := hg
  obtain ⟨u, rfl, hr⟩ := hg
  obtain ⟨p, c, rfl, _, _, hn9⟩ := hr.shape
  have hbA := Lib.hid (below_alloc w (.cells #[.slice p g.length c] 29))
  have HG := Lib.hid (hg0.below hbA.out)
  have BX := Lib.hid (Box.new w (.slice p g.length c) 29)
  clear hr hg0
  by_cases hok : GOk g
  case neg =>
    have HD := Lib.hid (dec_false hok)
    have HE := Lib.hid (dec_false (show ¬ EdgP g y z from fun h => hok h.1))
    clear hok
    go_enter Tryd.func31, Tryd.ntmps31
    go_wp2_with (go_at_call 73; refine (specGraphOk_any _ g _ HG.out).mono ?_; rintro e w2 ⟨he, hb2⟩; rw [HD.out] at he; subst he)
    go_ret
    exact ⟨ret_bool HE.out.symm, hbA.out.trans (hb2.mono hbA.out.size)⟩
  have HD := Lib.hid (dec_true hok)
  by_cases hy : 0 ≤ y ∧ y < g.length
  case neg =>
    have HDY := Lib.hid (dec_false hy)
    have HE := Lib.hid (dec_false (show ¬ EdgP g y z from fun h => hy h.2.1))
    clear hok hy
    go_enter Tryd.func31, Tryd.ntmps31
    go_wp2_with (first
      | (go_at_call 73; refine (specGraphOk_any _ g _ HG.out).mono ?_; rintro e w2 ⟨he, hb2⟩; rw [HD.out] at he; subst he; have c2 := (BX.out.keep hb2).cell)
      | (go_at_call 108; refine (l1ThereC_any _ g y _ (HG.out.below hb2) hn9).mono ?_; rintro e w3 ⟨he, hb3⟩; rw [HDY.out] at he; subst he))
    go_ret
    exact ⟨ret_bool HE.out.symm, (hbA.out.trans (hb2.mono hbA.out.size)).trans (hb3.mono (Nat.le_trans hbA.out.size hb2.size))⟩
  obtain ⟨a, ha⟩ : ∃ a : Nat, y = a := ⟨y.toNat, by omega⟩
  subst ha
  have hal : a < g.length := by omega
  have HDY := Lib.hid (dec_true hy)
  by_cases hz : 0 ≤ z ∧ z < g.length
  case neg =>
    have HDZ := Lib.hid (dec_false hz)
    have HE := Lib.hid (dec_false (show ¬ EdgP g (a : Int) z from fun h => hz (by
      have := (hok.sets a hal).1.1 z (by have := h.2.2; rwa [Int.toNat_natCast] at this)
      omega)))
    clear hok hy hz
    go_enter Tryd.func31, Tryd.ntmps31
    go_wp2_with (first
      | (go_at_call 73; refine (specGraphOk_any _ g _ HG.out).mono ?_; rintro e w2 ⟨he, hb2⟩; rw [HD.out] at he; subst he; have c2 := (BX.out.keep hb2).cell)
      | (have X3 := hb3; go_at_call 108; refine (l1ThereC_any _ g z _ ((HG.out.below hb2).below X3) hn9).mono ?_; rintro e w4 ⟨he, hb4⟩; rw [HDZ.out] at he; subst he)
      | (go_at_call 108; refine (l1ThereC_any _ g (a : Int) _ (HG.out.below hb2) hn9).mono ?_; rintro e w3 ⟨he, hb3⟩; rw [HDY.out] at he; subst he; have c3 := hb3.at' c2))
    go_ret
    exact ⟨ret_bool HE.out.symm, ((hbA.out.trans (hb2.mono hbA.out.size)).trans (hb3.mono (Nat.le_trans hbA.out.size hb2.size))).trans (hb4.mono (Nat.le_trans (Nat.le_trans hbA.out.size hb2.size) hb3.size))⟩
  obtain ⟨b, hb⟩ : ∃ b : Nat, z = b := ⟨z.toNat, by omega⟩
  subst hb
  have HDZ := Lib.hid (dec_true hz)
  have HE : Hid (dec (EdgP g (a : Int) (b : Int)) = dec ((b : Int) ∈ row g a)) := Lib.hid (dec_congr (by
    unfold EdgP
    rw [Int.toNat_natCast]
    exact ⟨fun h => h.2.2, fun h => ⟨hok, hy, h⟩⟩))
  obtain ⟨d, hd⟩ : ∃ d, dec ((b : Int) ∈ row g a) = d := ⟨_, rfl⟩
  have HDD := Lib.hid hd
  clear hok hy hz hd
  go_enter Tryd.func31, Tryd.ntmps31
  go_wp2_with (first
    | (go_at_call 73; refine (specGraphOk_any _ g _ HG.out).mono ?_; rintro e w2 ⟨he, hb2⟩; rw [HD.out] at he; subst he; have c2 := (BX.out.keep hb2).cell)
    | (have X3 := hb3; go_at_call 108; refine (l1ThereC_any _ g (b : Int) _ ((HG.out.below hb2).below X3) hn9).mono ?_; rintro e w4 ⟨he, hb4⟩; rw [HDZ.out] at he; subst he; have c4 := hb4.at' c3)
    | (go_at_call 108; refine (l1ThereC_any _ g (a : Int) _ (HG.out.below hb2) hn9).mono ?_; rintro e w3 ⟨he, hb3⟩; rw [HDY.out] at he; subst he; have c3 := hb3.at' c2)
    | (go_at_call 109; refine (l1Edge_any _ g _ _ a b rfl rfl hal _ (((HG.out.below hb2).below hb3).below hb4)).mono ?_; rintro e w5 ⟨he, hb5⟩; rw [HDD.out] at he; subst he))
  go_ret
  exact ⟨ret_bool (by rw [HE.out, HDD.out]), (((hbA.out.trans (hb2.mono hbA.out.size)).trans (hb3.mono (Nat.le_trans hbA.out.size hb2.size))).trans (hb4.mono (Nat.le_trans (Nat.le_trans hbA.out.size hb2.size) hb3.size))).trans (hb5.mono (Nat.le_trans (Nat.le_trans (Nat.le_trans hbA.out.size hb2.size) hb3.size) hb4.size))⟩

end Go.Proofs.YtkppbmfliejnmaaDoor

/- Walk: the program's contraction of an edge. -/
namespace Go.Proofs.YtkppbmfliejnmaaDoor
open Go.RowKit

theorem two_boxesC (w : World) (a b : Value) (T1 T2 : TypeId) : ∃ W, W = (w.alloc (.cells #[a] T1)).alloc (.cells #[b] T2) ∧ Below w.heap.size w W ∧ W.heap.size = w.heap.size + 2 ∧ Box W w.heap.size T1 a ∧ Box W (w.heap.size + 1) T2 b := by
  have h2 := Box.new (w.alloc (.cells #[a] T1)) b T2
  rw [size_alloc] at h2
  exact ⟨_, rfl, below_alloc2 _ _ _, by rw [size_alloc, size_alloc], (Box.new w a T1).alloc _, h2⟩

theorem own_shapeC {w : World} {base n : Nat} {E : TypeId} {v : Value} {xs : List Value} (h : w.ownsRow base E 1 v n xs) (hn : 0 < n) : ∃ b c, v = .slice (some ⟨b, 0, none⟩) n c := by
  rcases h.2 with ⟨rfl, rfl⟩ | ⟨g, cap, cur, rfl, _⟩
  · omega
  · exact ⟨g, cap, rfl⟩
theorem mem_nbL {n a b j : Nat} {E : Nat → Nat → Bool} : j ∈ nbL n E a b ↔ j < n ∧ E b j = true ∧ j ≠ a := by simp [nbL]
theorem nbL_bits {g : List (List Int)} (hg : GOk g) {a b : Nat} (ha : a < g.length) (hb : b < g.length) : bitsOf (sub ((netL g).getD b 0) (2 ^ a)) = nbL g.length (ofG g) a b := by
  have h16 := hg.le
  have hnl : (netL g).getD b 0 < 4294967296 := by
    rw [← indN_ofG hg, indN_get hb]
    have := mask_lt16 (natInts ((List.range g.length).filter (ofG g b))) (fun x hx => by
      obtain ⟨i, hi, rfl⟩ := mem_natInts.1 hx
      have := List.mem_range.1 (List.mem_filter.1 hi).1
      omega)
    omega
  have hp := pow_lt32 a (by omega)
  refine rising_ext _ _ (bitsOf_rising _) (List.Pairwise.filter _ List.pairwise_lt_range) fun j => ?_
  rw [mem_bitsOf' (sub_lt32 _ _ hnl), testBit_sub _ _ hnl hp, ← indN_ofG hg, indN_bit hb, testBit_pow]
  have : j ∈ nbL g.length (ofG g) a b ↔ j < g.length ∧ ofG g b j = true ∧ j ≠ a := mem_nbL
  rw [this]
  simp only [Bool.and_eq_true, decide_eq_true_eq, Bool.not_eq_true', decide_eq_false_iff_not]
  constructor
  · exact fun h => ⟨h.1.1, h.1.2, fun e => h.2 e.symm⟩
  · exact fun h => ⟨⟨h.1, h.2.1⟩, fun e => h.2.2 e.symm⟩
theorem restN_bits {n b : Nat} (hn : n ≤ 16) (hb : b < n) : bitsOf (sub (2 ^ n - 1) (2 ^ b)) = restN n b := by
  have h1 : 2 ^ n - 1 < 4294967296 := by
    have := Nat.pow_le_pow_right (n := 2) (by decide) hn
    omega
  have hp := pow_lt32 b (by omega)
  refine rising_ext _ _ (bitsOf_rising _) (restN_rising _ _) fun j => ?_
  rw [mem_bitsOf' (sub_lt32 _ _ h1), testBit_sub _ _ h1 hp, testBit_firstOf, testBit_pow, mem_restN]
  simp only [Bool.and_eq_true, decide_eq_true_eq, Bool.not_eq_true', decide_eq_false_iff_not]
  exact ⟨fun h => ⟨h.1, fun e => h.2 e.symm⟩, fun h => ⟨h.1, fun e => h.2 e.symm⟩⟩
theorem conG_rows {g : List (List Int)} (hg : GOk g) {a b : Nat} (hb : b < g.length) : rowsOf (indN (restN g.length b).length (bitE (indN g.length (conE (ofG g) a b)) (restN g.length b))) = conG g a b := by
  have h16 := hg.le
  have hc : GOk (matG g.length (conE (ofG g) a b)) := gok_matG hg.pos h16 (conE_sym (ofG_sym hg) a b) (conE_irr (ofG_irr hg) a b)
  have e1 : netL (matG g.length (conE (ofG g) a b)) = indN g.length (conE (ofG g) a b) := by
    rw [← indN_ofG hc, matG_length]
    exact indN_congr fun r j hr hj => ofG_matG hr hj
  rw [rowsOf_indN (by rw [restN_length hb]; omega)]
  unfold conG
  rw [bitE_netL hc (fun v hv => by rw [matG_length]; exact (mem_restN.1 hv).1), e1]

end Go.Proofs.YtkppbmfliejnmaaDoor
