/- Walks: an edge of whatever graph, the program's contraction. -/
import Derived.Test.YtkppbmfliejnmaaDoorMcQ22
import Derived.Test.YtkppbmfliejnmaaDoorMcQ12
import Derived.Test.YtkppbmfliejnmaaDoorMcQ13
import Derived.Test.YtkppbmfliejnmaaDoorMcQ9
import Derived.Test.YtkppbmfliejnmaaDoorMcQ21
namespace Go.Proofs.YtkppbmfliejnmaaDoor
open Go.RowKit

/-- y and z are joined in g, which is right. -/
def EdgP (g : List (List Int)) (y z : Int) : Prop := GOk g ∧ (0 ≤ y ∧ y < g.length) ∧ z ∈ row g y.toNat
def VtxP (g : List (List Int)) (y : Int) : Prop := GOk g ∧ 0 ≤ y ∧ y < g.length
theorem EdgP.nat {g : List (List Int)} {y z : Int} (h : EdgP g y z) : ∃ a b : Nat, y = a ∧ z = b ∧ a < g.length ∧ b < g.length ∧ a ≠ b ∧ ofG g a b = true := by
  obtain ⟨hg, ⟨h1, h2⟩, h3⟩ := h
  have h4 := (hg.sets y.toNat (by omega)).1.1 z h3
  have h5 := (hg.sets y.toNat (by omega)).2
  refine ⟨y.toNat, z.toNat, by omega, by omega, by omega, by omega, fun e => h5 ?_, ?_⟩
  · rw [show ((y.toNat : Nat) : Int) = z by omega]; exact h3
  · simp only [ofG, decide_eq_true_eq]
    rw [show ((z.toNat : Nat) : Int) = z by omega]; exact h3

set_option maxRecDepth 100000 in
set_option maxHeartbeats 1000000 in
theorem isVertexC_any (v : Value) (g : List (List Int)) (x : Int) (w : World) (hg : Gr w v g) :
    Calls Tryd.prog 121 #[v, .int .i64 x] w fun e w' => e = .returned (.bool (dec (VtxP g x))) ∧ Below w.heap.size w w' := by
  by_cases hok : GOk g
  · refine (isVertexE_any v g x hok w hg).mono ?_
    rintro e w2 ⟨rfl, hb⟩
    exact ⟨ret_bool (dec_congr ⟨fun h => ⟨hok, h⟩, fun h => h.2⟩), hb⟩
  · have hg0 := hg
    obtain ⟨u, rfl, hr⟩ := hg
    obtain ⟨p, c, rfl, _⟩ := hr.shape
    have hbA := Lib.hid (below_alloc w (.cells #[.slice p g.length c] 29))
    have HG := Lib.hid (hg0.below hbA.out)
    have HD := Lib.hid (dec_false hok)
    have HN := Lib.hid (dec_false (show ¬ VtxP g x from fun h => hok h.1))
    clear hr hg0 hok
    go_enter Tryd.func121, Tryd.ntmps121
    go_wp2_with (go_at_call 87; refine (implGraphOk_any _ g _ HG.out).mono ?_; rintro e w2 ⟨he, hb2⟩; rw [HD.out] at he; subst he)
    go_ret
    exact ⟨ret_bool HN.out.symm, hbA.out.trans (hb2.mono hbA.out.size)⟩

set_option maxRecDepth 100000 in
set_option maxHeartbeats 1000000 in
theorem implEdgeInC_any (v : Value) (g : List (List Int)) (y z : Int) (w : World) (hg : Gr w v g) :
    Calls Tryd.prog 41 #[v, .int .i64 y, .int .i64 z] w fun e w' => e = .returned (.bool (dec (EdgP g y z))) ∧ Below w.heap.size w w' := by
  have hg0 := hg
  obtain ⟨u, rfl, hr⟩ := hg
  obtain ⟨p, c, rfl, _⟩ := hr.shape
  have hbA := Lib.hid (below_alloc w (.cells #[.slice p g.length c] 29))
  have HG := Lib.hid (hg0.below hbA.out)
  have HR := Lib.hid (hr.below hbA.out)
  have BX := Lib.hid (Box.new w (.slice p g.length c) 29)
  by_cases hx : VtxP g y
  · obtain ⟨a, ha⟩ : ∃ a : Nat, y = a := ⟨y.toNat, by have := hx.2; omega⟩
    subst ha
    have hal : a < g.length := by have := hx.2; omega
    have HE : Hid (dec (EdgP g (a : Int) z) = dec (z ∈ row g a)) := Lib.hid (dec_congr (by
      unfold EdgP
      rw [Int.toNat_natCast]
      exact ⟨fun h => h.2.2, fun h => ⟨hx.1, hx.2, h⟩⟩))
    have HX := Lib.hid (dec_true hx)
    obtain ⟨rb, ro, rp, rc, rfl, _, _⟩ := HR.out.get hal
    have HRow : Hid (∀ wz, Below w.heap.size w wz → ∃ rp rc, wz.cell? ⟨rb, ro + a, none⟩ = some (.slice rp (row g a).length rc) ∧ Nums wz 2 .i64 (.slice rp (row g a).length rc) (row g a)) := Lib.hid fun wz hbz => by
      obtain ⟨b', o', rp', rc', e1, h1, h2⟩ := (hr.below hbz).get hal
      cases e1
      exact ⟨rp', rc', h1, h2⟩
    obtain ⟨d, hd⟩ : ∃ d, dec (z ∈ row g a) = d := ⟨_, rfl⟩
    have HD := Lib.hid hd
    clear hr hg0 hx hd
    go_enter Tryd.func41, Tryd.ntmps41
    go_wp2_with (first
      | (go_at_call 122; refine (contains_any _ (row g a) z _ (hrn.below (below_dN (Below.refl _ _) 1))).mono ?_; rintro e w3 ⟨he, hw⟩; rw [HD.out] at he; subst he; subst hw)
      | (go_at_call 122; refine (contains_any _ (row g a) z _ hrn).mono ?_; rintro e w3 ⟨he, hw⟩; rw [HD.out] at he; subst he; subst hw)
      | (go_at_call 121; refine (isVertexC_any _ g (a : Int) _ HG.out).mono ?_; rintro e w2 ⟨he, hb2⟩; rw [HX.out] at he; subst he; have hbx := (BX.out.keep hb2).cell; have hbw := hbA.out.trans (hb2.mono hbA.out.size); obtain ⟨rp2, rc2, hrc, hrn⟩ := HRow.out _ hbw))
    go_ret
    exact ⟨ret_bool (by rw [HE.out, HD.out]), hbw⟩
  · have HX := Lib.hid (dec_false hx)
    have HE := Lib.hid (dec_false (show ¬ EdgP g y z from fun h => hx ⟨h.1, h.2.1⟩))
    clear hr hg0 hx
    go_enter Tryd.func41, Tryd.ntmps41
    go_wp2_with (go_at_call 121; refine (isVertexC_any _ g y _ HG.out).mono ?_; rintro e w2 ⟨he, hb2⟩; rw [HX.out] at he; subst he)
    go_ret
    exact ⟨ret_bool HE.out.symm, hbA.out.trans (hb2.mono hbA.out.size)⟩

set_option maxRecDepth 100000 in
theorem l1ThereC_any (v : Value) (g : List (List Int)) (x : Int) (w : World) (hg : Gr w v g) (hn : g.length ≤ 1000000000) :
    Calls Tryd.prog 108 #[v, .int .i64 x] w fun e w' => e = .returned (.bool (dec (0 ≤ x ∧ x < g.length))) ∧ Below w.heap.size w w' := by
  have hg0 := hg
  obtain ⟨u, rfl, hr⟩ := hg
  obtain ⟨p, c, rfl, _⟩ := hr.shape
  have hbA := Lib.hid (below_alloc w (.cells #[.slice p g.length c] 29))
  have HG := Lib.hid (hg0.below hbA.out)
  clear hr hg0
  go_enter Tryd.func108, Tryd.ntmps108
  go_wp2_with (first
    | (go_at_call 153; refine (l1In_any _ _ _ _).mono ?_; rintro e w3 ⟨rfl, rfl⟩)
    | (go_at_call 132; refine (l1Size_any _ g _ HG.out).mono ?_; rintro e w2 ⟨rfl, hb2⟩))
  go_ret
  exact ⟨ret_bool (dec_congr (by omega)), hbA.out.trans (hb2.mono hbA.out.size)⟩

set_option maxRecDepth 100000 in
set_option maxHeartbeats 2000000 in
theorem specEdgeInC_any (v : Value) (g : List (List Int)) (y z : Int) (w : World) (hg : Gr w v g) :
    Calls Tryd.prog 31 #[v, .int .i64 y, .int .i64 z] w fun e w' => e = .returned (.bool (dec (EdgP g y z))) ∧ Below w.heap.size w w' := by
  have hg0 := hg
  obtain ⟨u, rfl, hr⟩ := hg
  obtain ⟨p, c, rfl, _, _, hn9⟩ := hr.shape
  have hbA := Lib.hid (below_alloc w (.cells #[.slice p g.length c] 29))
  have HG := Lib.hid (hg0.below hbA.out)
  have BX := Lib.hid (Box.new w (.slice p g.length c) 29)
  clear hr hg0
  by_cases hok : GOk g
  case neg =>
    have HD := Lib.hid (dec_false hok)
    have HE := Lib.hid (dec_false (show ¬ EdgP g y z from fun h => hok h.1))
    clear hok
    go_enter Tryd.func31, Tryd.ntmps31
    go_wp2_with (go_at_call 73; refine (specGraphOk_any _ g _ HG.out).mono ?_; rintro e w2 ⟨he, hb2⟩; rw [HD.out] at he; subst he)
    go_ret
    exact ⟨ret_bool HE.out.symm, hbA.out.trans (hb2.mono hbA.out.size)⟩
  have HD := Lib.hid (dec_true hok)
  by_cases hy : 0 ≤ y ∧ y < g.length
  case neg =>
    have HDY := Lib.hid (dec_false hy)
    have HE := Lib.hid (dec_false (show ¬ EdgP g y z from fun h => hy h.2.1))
    clear hok hy
    go_enter Tryd.func31, Tryd.ntmps31
    go_wp2_with (first
      | (go_at_call 73; refine (specGraphOk_any _ g _ HG.out).mono ?_; rintro e w2 ⟨he, hb2⟩; rw [HD.out] at he; subst he; have c2 := (BX.out.keep hb2).cell)
      | (go_at_call 108; refine (l1ThereC_any _ g y _ (HG.out.below hb2) hn9).mono ?_; rintro e w3 ⟨he, hb3⟩; rw [HDY.out] at he; subst he))
    go_ret
    exact ⟨ret_bool HE.out.symm, (hbA.out.trans (hb2.mono hbA.out.size)).trans (hb3.mono (Nat.le_trans hbA.out.size hb2.size))⟩
  obtain ⟨a, ha⟩ : ∃ a : Nat, y = a := ⟨y.toNat, by omega⟩
  subst ha
  have hal : a < g.length := by omega
  have HDY := Lib.hid (dec_true hy)
  by_cases hz : 0 ≤ z ∧ z < g.length
  case neg =>
    have HDZ := Lib.hid (dec_false hz)
    have HE := Lib.hid (dec_false (show ¬ EdgP g (a : Int) z from fun h => hz (by
      have := (hok.sets a hal).1.1 z (by have := h.2.2; rwa [Int.toNat_natCast] at this)
      omega)))
    clear hok hy hz
    go_enter Tryd.func31, Tryd.ntmps31
    go_wp2_with (first
      | (go_at_call 73; refine (specGraphOk_any _ g _ HG.out).mono ?_; rintro e w2 ⟨he, hb2⟩; rw [HD.out] at he; subst he; have c2 := (BX.out.keep hb2).cell)
      | (have X3 := hb3; go_at_call 108; refine (l1ThereC_any _ g z _ ((HG.out.below hb2).below X3) hn9).mono ?_; rintro e w4 ⟨he, hb4⟩; rw [HDZ.out] at he; subst he)
      | (go_at_call 108; refine (l1ThereC_any _ g (a : Int) _ (HG.out.below hb2) hn9).mono ?_; rintro e w3 ⟨he, hb3⟩; rw [HDY.out] at he; subst he; have c3 := hb3.at' c2))
    go_ret
    exact ⟨ret_bool HE.out.symm, ((hbA.out.trans (hb2.mono hbA.out.size)).trans (hb3.mono (Nat.le_trans hbA.out.size hb2.size))).trans (hb4.mono (Nat.le_trans (Nat.le_trans hbA.out.size hb2.size) hb3.size))⟩
  obtain ⟨b, hb⟩ : ∃ b : Nat, z = b := ⟨z.toNat, by omega⟩
  subst hb
  have HDZ := Lib.hid (dec_true hz)
  have HE : Hid (dec (EdgP g (a : Int) (b : Int)) = dec ((b : Int) ∈ row g a)) := Lib.hid (dec_congr (by
    unfold EdgP
    rw [Int.toNat_natCast]
    exact ⟨fun h => h.2.2, fun h => ⟨hok, hy, h⟩⟩))
  obtain ⟨d, hd⟩ : ∃ d, dec ((b : Int) ∈ row g a) = d := ⟨_, rfl⟩
  have HDD := Lib.hid hd
  clear hok hy hz hd
  go_enter Tryd.func31, Tryd.ntmps31
  go_wp2_with (first
    | (go_at_call 73; refine (specGraphOk_any _ g _ HG.out).mono ?_; rintro e w2 ⟨he, hb2⟩; rw [HD.out] at he; subst he; have c2 := (BX.out.keep hb2).cell)
    | (have X3 := hb3; go_at_call 108; refine (l1ThereC_any _ g (b : Int) _ ((HG.out.below hb2).below X3) hn9).mono ?_; rintro e w4 ⟨he, hb4⟩; rw [HDZ.out] at he; subst he; have c4 := hb4.at' c3)
    | (go_at_call 108; refine (l1ThereC_any _ g (a : Int) _ (HG.out.below hb2) hn9).mono ?_; rintro e w3 ⟨he, hb3⟩; rw [HDY.out] at he; subst he; have c3 := hb3.at' c2)
    | (go_at_call 109; refine (l1Edge_any _ g _ _ a b rfl rfl hal _ (((HG.out.below hb2).below hb3).below hb4)).mono ?_; rintro e w5 ⟨he, hb5⟩; rw [HDD.out] at he; subst he))
  go_ret
  exact ⟨ret_bool (by rw [HE.out, HDD.out]), (((hbA.out.trans (hb2.mono hbA.out.size)).trans (hb3.mono (Nat.le_trans hbA.out.size hb2.size))).trans (hb4.mono (Nat.le_trans (Nat.le_trans hbA.out.size hb2.size) hb3.size))).trans (hb5.mono (Nat.le_trans (Nat.le_trans (Nat.le_trans hbA.out.size hb2.size) hb3.size) hb4.size))⟩

end Go.Proofs.YtkppbmfliejnmaaDoor

/- Walk: the program's contraction of an edge. -/
namespace Go.Proofs.YtkppbmfliejnmaaDoor
open Go.RowKit

theorem two_boxesC (w : World) (a b : Value) (T1 T2 : TypeId) : ∃ W, W = (w.alloc (.cells #[a] T1)).alloc (.cells #[b] T2) ∧ Below w.heap.size w W ∧ W.heap.size = w.heap.size + 2 ∧ Box W w.heap.size T1 a ∧ Box W (w.heap.size + 1) T2 b := by
  have h2 := Box.new (w.alloc (.cells #[a] T1)) b T2
  rw [size_alloc] at h2
  exact ⟨_, rfl, below_alloc2 _ _ _, by rw [size_alloc, size_alloc], (Box.new w a T1).alloc _, h2⟩

theorem own_shapeC {w : World} {base n : Nat} {E : TypeId} {v : Value} {xs : List Value} (h : w.ownsRow base E 1 v n xs) (hn : 0 < n) : ∃ b c, v = .slice (some ⟨b, 0, none⟩) n c := by
  rcases h.2 with ⟨rfl, rfl⟩ | ⟨g, cap, cur, rfl, _⟩
  · omega
  · exact ⟨g, cap, rfl⟩
theorem mem_nbL {n a b j : Nat} {E : Nat → Nat → Bool} : j ∈ nbL n E a b ↔ j < n ∧ E b j = true ∧ j ≠ a := by simp [nbL]
theorem nbL_bits {g : List (List Int)} (hg : GOk g) {a b : Nat} (ha : a < g.length) (hb : b < g.length) : bitsOf (sub ((netL g).getD b 0) (2 ^ a)) = nbL g.length (ofG g) a b := by
  have h16 := hg.le
  have hnl : (netL g).getD b 0 < 4294967296 := by
    rw [← indN_ofG hg, indN_get hb]
    have := mask_lt16 (natInts ((List.range g.length).filter (ofG g b))) (fun x hx => by
      obtain ⟨i, hi, rfl⟩ := mem_natInts.1 hx
      have := List.mem_range.1 (List.mem_filter.1 hi).1
      omega)
    omega
  have hp := pow_lt32 a (by omega)
  refine rising_ext _ _ (bitsOf_rising _) (List.Pairwise.filter _ List.pairwise_lt_range) fun j => ?_
  rw [mem_bitsOf' (sub_lt32 _ _ hnl), testBit_sub _ _ hnl hp, ← indN_ofG hg, indN_bit hb, testBit_pow]
  have : j ∈ nbL g.length (ofG g) a b ↔ j < g.length ∧ ofG g b j = true ∧ j ≠ a := mem_nbL
  rw [this]
  simp only [Bool.and_eq_true, decide_eq_true_eq, Bool.not_eq_true', decide_eq_false_iff_not]
  constructor
  · exact fun h => ⟨h.1.1, h.1.2, fun e => h.2 e.symm⟩
  · exact fun h => ⟨⟨h.1, h.2.1⟩, fun e => h.2.2 e.symm⟩
theorem restN_bits {n b : Nat} (hn : n ≤ 16) (hb : b < n) : bitsOf (sub (2 ^ n - 1) (2 ^ b)) = restN n b := by
  have h1 : 2 ^ n - 1 < 4294967296 := by
    have := Nat.pow_le_pow_right (n := 2) (by decide) hn
    omega
  have hp := pow_lt32 b (by omega)
  refine rising_ext _ _ (bitsOf_rising _) (restN_rising _ _) fun j => ?_
  rw [mem_bitsOf' (sub_lt32 _ _ h1), testBit_sub _ _ h1 hp, testBit_firstOf, testBit_pow, mem_restN]
  simp only [Bool.and_eq_true, decide_eq_true_eq, Bool.not_eq_true', decide_eq_false_iff_not]
  exact ⟨fun h => ⟨h.1, fun e => h.2 e.symm⟩, fun h => ⟨h.1, fun e => h.2 e.symm⟩⟩
theorem conG_rows {g : List (List Int)} (hg : GOk g) {a b : Nat} (hb : b < g.length) : rowsOf (indN (restN g.length b).length (bitE (indN g.length (conE (ofG g) a b)) (restN g.length b))) = conG g a b := by
  have h16 := hg.le
  have hc : GOk (matG g.length (conE (ofG g) a b)) := gok_matG hg.pos h16 (conE_sym (ofG_sym hg) a b) (conE_irr (ofG_irr hg) a b)
  have e1 : netL (matG g.length (conE (ofG g) a b)) = indN g.length (conE (ofG g) a b) := by
    rw [← indN_ofG hc, matG_length]
    exact indN_congr fun r j hr hj => ofG_matG hr hj
  rw [rowsOf_indN (by rw [restN_length hb]; omega)]
  unfold conG
  rw [bitE_netL hc (fun v hv => by rw [matG_length]; exact (mem_restN.1 hv).1), e1]

end Go.Proofs.YtkppbmfliejnmaaDoor

/- Walks: the program's first map that fits; are two graphs alike? -/
namespace Go.Proofs.YtkppbmfliejnmaaDoor
open Go.RowKit

set_option maxRecDepth 100000 in
set_option maxHeartbeats 4000000 in
theorem firstFit_any (hp pp : Option Addr) (hc pc n m : Nat) (E F : Nat → Nat → Bool) (hm0 : 0 < m) (w : World) (hH : NE w (.slice hp n hc) n E) (hP : NE w (.slice pp m pc) m F) :
    Calls Tryd.prog 124 #[.slice hp n hc, .slice pp m pc] w fun e w' => ∃ fv, e = .returned fv ∧ FndV w' w.heap.size (fitF n E F m []) fv ∧ Below w.heap.size w w' := by
  obtain ⟨W0, hW0⟩ : ∃ W0, W0 = (w.alloc (.cells #[.slice none 0 0] 93)).alloc (.cells #[.slice hp n hc, .slice pp m pc, .slice none 0 0, .int .u32 0, .func (.func 195) #[] #[.pointer (some ⟨w.heap.size, 0, none⟩)]] 150) := ⟨_, rfl⟩
  have HI : Hid (FiI w W0 (.slice hp n hc) (.slice pp m pc) [] 0 (.slice none 0 0) none (.slice none 0 0)) := Lib.hid (by
    have h1 := FS.new (w.alloc (.cells #[.slice none 0 0] 93)) (v0 := .slice hp n hc) (v1 := .slice pp m pc) (v2 := .slice none 0 0) (v3 := .int .u32 0) (v4 := .func (.func 195) #[] #[.pointer (some ⟨w.heap.size, 0, none⟩)])
    rw [size_alloc] at h1
    refine ⟨by rw [hW0]; exact below_alloc2 _ _ _, by rw [hW0]; exact h1, World.ownsRow_nil _ _ _ _, by rw [hW0]; exact (Box.new _ _ _).alloc _, rfl⟩)
  have GROW := Lib.hid (fitGrow_any w hp pp hc pc n m E F hm0 hH hP m [] 0 (.slice none 0 0) (.slice none 0 0) W0 rfl (fun x hx => (by cases hx)) (by simp) HI.out)
  clear hH hP
  go_enter Tryd.func124, Tryd.ntmps124
  go_upto_region 3 with fail
  rw [← hW0]
  clear hW0
  go_wp2_with (go_at_call 197; refine GROW.out.mono ?_; rintro e w2 ⟨rfl, ov2, fv2, hI2⟩; have HI2 := Lib.hid hI2; have hbx := hI2.box.cell; clear hI2)
  go_ret
  exact ⟨_, rfl, HI2.out.fnd, HI2.out.bel⟩

theorem neOfF {g : List (List Int)} (hok : GOk g) {w : World} {base : Nat} {x : Value} (h : w.ownsRow base 70 1 x g.length ((netL g).map u32v)) : NE w x g.length (ofG g) :=
  ⟨hok.le, by rw [indN_ofG hok]; exact Sl.of_owns h (by have := hok.le; omega)⟩
/-- What AlikeIn answers. -/
def AlkS (g h : List (List Int)) (l : List Int) (ok : Bool) : Prop :=
  (ok = true ∧ GOk g ∧ GOk h ∧ g.length ≤ 8 ∧ g.length = h.length ∧ ∃ o, fitF g.length (ofG g) (ofG h) h.length [] = some o ∧ l = natInts o) ∨
    (ok = false ∧ l = [] ∧ ¬ (GOk g ∧ GOk h ∧ g.length ≤ 8 ∧ g.length = h.length ∧ ∃ o, fitF g.length (ofG g) (ofG h) h.length [] = some o))
theorem alkS_det {g h : List (List Int)} {l l2 : List Int} {ok ok2 : Bool} (h1 : AlkS g h l ok) (h2 : AlkS g h l2 ok2) : l = l2 ∧ ok = ok2 := by
  rcases h1 with ⟨rfl, a1, a2, a3, a4, o, a5, rfl⟩ | ⟨rfl, rfl, a1⟩ <;> rcases h2 with ⟨rfl, b1, b2, b3, b4, o2, b5, rfl⟩ | ⟨rfl, rfl, b1⟩
  · rw [a5] at b5; cases b5; exact ⟨rfl, rfl⟩
  · exact absurd ⟨a1, a2, a3, a4, o, a5⟩ b1
  · exact absurd ⟨b1, b2, b3, b4, o2, b5⟩ a1
  · exact ⟨rfl, rfl⟩

set_option maxRecDepth 100000 in
set_option maxHeartbeats 4000000 in
theorem implAlikeIn_any (v z : Value) (g h : List (List Int)) (w : World) (hg : Gr w v g) (hh : Gr w z h) (_hT : Tab w) :
    Calls Tryd.prog 42 #[v, z] w fun e w' => ∃ (u : Value) (l : List Int) (ok : Bool), e = .returned (.tuple #[u, .bool ok]) ∧ AlkS g h l ok ∧ Nums w' 2 .i64 u l ∧ Below w.heap.size w w' := by
  have hg0 := hg
  have hh0 := hh
  obtain ⟨u, rfl, hr⟩ := hg
  obtain ⟨gp, gc, rfl, _⟩ := hr.shape
  obtain ⟨u', rfl, hr'⟩ := hh
  obtain ⟨hp, hc, rfl, _⟩ := hr'.shape
  obtain ⟨W0, hW0, hbA, SZ0, B0, B1⟩ := two_boxesC w (.slice gp g.length gc) (.slice hp h.length hc) 29 29
  have HBA := Lib.hid hbA
  have HG := Lib.hid (hg0.below hbA)
  have HH := Lib.hid (hh0.below hbA)
  have HX0 := Lib.hid B0
  have HX1 := Lib.hid B1
  have NILN : Hid (∀ wz, Nums wz 2 .i64 (.slice none 0 0) []) := Lib.hid (fun wz => Sl.nothing _ _ _ _ (fun _ => rfl))
  clear hr hr' hg0 hh0 hbA B0 B1 SZ0
  by_cases hsg : GOk g ∧ g.length ≤ 8
  case neg =>
    have HD := Lib.hid (dec_false hsg)
    have HNO : Hid (AlkS g h [] false) := Lib.hid (.inr ⟨rfl, rfl, fun k => hsg ⟨k.1, k.2.2.1⟩⟩)
    clear hsg
    go_enter Tryd.func42, Tryd.ntmps42
    go_upto_region 1 with fail
    rw [← hW0]
    clear hW0
    have c0 := HX0.out.cell
    go_wp2_with (go_at_call 123; refine (isSmall_any _ g _ HG.out).mono ?_; rintro e w2 ⟨he, hb2⟩; rw [HD.out] at he; subst he)
    go_ret2
    exact ⟨_, _, _, rfl, HNO.out, NILN.out _, HBA.out.trans (hb2.mono HBA.out.size)⟩
  have HDG := Lib.hid (dec_true hsg)
  by_cases hsh : GOk h ∧ h.length ≤ 8
  case neg =>
    have HD := Lib.hid (dec_false hsh)
    have HNO : Hid (AlkS g h [] false) := Lib.hid (.inr ⟨rfl, rfl, fun k => hsh ⟨k.2.1, by have := k.2.2.1; have := k.2.2.2.1; omega⟩⟩)
    clear hsg hsh
    go_enter Tryd.func42, Tryd.ntmps42
    go_upto_region 1 with fail
    rw [← hW0]
    clear hW0
    have c0 := HX0.out.cell
    have c1 := HX1.out.cell
    go_wp2_with (first
      | (have X2 := hb2; go_at_call 123; refine (isSmall_any _ h _ (HH.out.below X2)).mono ?_; rintro e w3 ⟨he, hb3⟩; rw [HD.out] at he; subst he)
      | (go_at_call 123; refine (isSmall_any _ g _ HG.out).mono ?_; rintro e w2 ⟨he, hb2⟩; rw [HDG.out] at he; subst he; have d1 := hb2.at' c1))
    go_ret2
    exact ⟨_, _, _, rfl, HNO.out, NILN.out _, (HBA.out.trans (hb2.mono HBA.out.size)).trans (hb3.mono (Nat.le_trans HBA.out.size hb2.size))⟩
  have HDH := Lib.hid (dec_true hsh)
  by_cases hlen : g.length = h.length
  case neg =>
    have hne : ((g.length : Int) != (h.length : Int)) = true := bne_iff_ne.2 (by omega)
    have HNO : Hid (AlkS g h [] false) := Lib.hid (.inr ⟨rfl, rfl, fun k => hlen k.2.2.2.1⟩)
    clear hsg hsh hlen
    go_enter Tryd.func42, Tryd.ntmps42
    go_upto_region 1 with fail
    rw [← hW0]
    clear hW0
    have c0 := HX0.out.cell
    have c1 := HX1.out.cell
    go_wp2_with (first
      | (have X2 := hb2; go_at_call 123; refine (isSmall_any _ h _ (HH.out.below X2)).mono ?_; rintro e w3 ⟨he, hb3⟩; rw [HDH.out] at he; subst he; have e0 := hb3.at' d0; have e1 := hb3.at' d1)
      | (go_at_call 123; refine (isSmall_any _ g _ HG.out).mono ?_; rintro e w2 ⟨he, hb2⟩; rw [HDG.out] at he; subst he; have d0 := hb2.at' c0; have d1 := hb2.at' c1))
    go_ret2
    exact ⟨_, _, _, rfl, HNO.out, NILN.out _, (HBA.out.trans (hb2.mono HBA.out.size)).trans (hb3.mono (Nat.le_trans HBA.out.size hb2.size))⟩
  have hne : ((g.length : Int) != (h.length : Int)) = false := by rw [hlen]; simp
  have h8 := hsg.2
  have h16 := hsg.1.le
  have HOG := Lib.hid hsg.1
  have HOH := Lib.hid hsh.1
  have HLEN := Lib.hid hlen
  have hpos := hsh.1.pos
  have hgpos := hsg.1.pos
  have h8h := hsh.2
  obtain ⟨res, hres⟩ : ∃ res, res = fitF g.length (ofG g) (ofG h) h.length [] := ⟨_, rfl⟩
  have HRES := Lib.hid hres
  have FF : Hid (∀ wz (xp yp : Option Addr) (xc yc : Nat), NE wz (.slice xp g.length xc) g.length (ofG g) → NE wz (.slice yp h.length yc) h.length (ofG h) → Calls Tryd.prog 124 #[.slice xp g.length xc, .slice yp h.length yc] wz fun e w' => ∃ fv, e = .returned fv ∧ FndV w' wz.heap.size res fv ∧ Below wz.heap.size wz w') := Lib.hid (fun wz xp yp xc yc hx hy => by
    rw [hres]
    exact firstFit_any xp yp xc yc g.length h.length (ofG g) (ofG h) hpos wz hx hy)
  clear hsg hsh hlen hres
  go_enter Tryd.func42, Tryd.ntmps42
  go_upto_region 1 with fail
  rw [← hW0]
  clear hW0
  have c0 := HX0.out.cell
  have c1 := HX1.out.cell
  go_upto_region 3 with (first
    | (have X2 := hb2; go_at_call 123; refine (isSmall_any _ h _ (HH.out.below X2)).mono ?_; rintro e w3 ⟨he, hb3⟩; rw [HDH.out] at he; subst he; have e0 := hb3.at' d0; have e1 := hb3.at' d1)
    | (go_at_call 123; refine (isSmall_any _ g _ HG.out).mono ?_; rintro e w2 ⟨he, hb2⟩; rw [HDG.out] at he; subst he; have d0 := hb2.at' c0; have d1 := hb2.at' c1))
  have HB3 := Lib.hid (hb2.trans (hb3.mono hb2.size))
  have HG3 := Lib.hid (HG.out.below HB3.out)
  have HH3 := Lib.hid (HH.out.below HB3.out)
  have HW3 := Lib.hid (HBA.out.trans (HB3.out.mono HBA.out.size))
  clear hb2 hb3 c0 c1 d0 d1 hne
  go_cut [6] (fun s wx => ∃ B, FndV wx B res s ∧ Below w3.heap.size w3 wx)
  case first =>
    go_region_held3 (fun w' => w'.cell? ⟨w.heap.size, 0, none⟩ = some (.slice gp g.length gc) ∧ w'.cell? ⟨w.heap.size + 1, 0, none⟩ = some (.slice hp h.length hc))
      (first | exact ⟨e0, e1⟩ | go_keep | exact ⟨BWC.at' e0, BWC.at' e1⟩ | exact ⟨BWB.at' e0, BWB.at' e1⟩ | exact ⟨BWA.at' e0, BWA.at' e1⟩)
      (first
        | (go_at_call 124; refine (FF.out _ _ _ _ _ (HNA.out.next HBAB.out) HNB.out).mono ?_; rintro e wc ⟨fv, rfl, hfv, hbq⟩; have HFV := Lib.hid hfv; have BWC : Below w3.heap.size w3 wc := BWB.trans (hbq.mono BWB.size); clear hbq hfv)
        | (have XA := BWA; go_at_call 89; refine (netsOf_any _ h _ (HH3.out.below XA) HOH.out).mono ?_; rintro e wb ⟨y, rfl, ho, hbq⟩; have HNB := Lib.hid (neOfF HOH.out ho); obtain ⟨yp, yc, rfl, _⟩ := owns_capL ho; have HBAB := Lib.hid hbq; have BWB : Below w3.heap.size w3 wb := BWA.trans (hbq.mono BWA.size); clear hbq ho)
        | (go_at_call 89; refine (netsOf_any _ g _ (HG3.out.below (below_dN (Below.refl _ _) 1)) HOG.out).mono ?_; rintro e wa ⟨x, rfl, ho, hbq⟩; have HNA := Lib.hid (neOfF HOG.out ho); obtain ⟨xp, xc, rfl, _⟩ := owns_capL ho; have BWA : Below w3.heap.size w3 wa := (below_dN (Below.refl _ _) 1).trans hbq; clear hbq ho))
    all_goals go_wp2
    all_goals go_meet
    all_goals exact ⟨_, HFV.out, BWC⟩
  case rest =>
  obtain ⟨B, hfv, hb4⟩ := hcut
  rename_i w4
  have HB4 := Lib.hid (HW3.out.trans (hb4.mono HW3.out.size))
  have HFV := Lib.hid hfv
  clear hfv hb4 e0 e1
  cases res
  · have hv := HFV.out
    change _ = Value.slice none 0 0 at hv
    subst hv
    have hnl : ∀ w, Sem.run Tryd.prog (binOp BinOp.eql 93 (.slice none 0 0) (.slice none 0 0)) w = .ok (.bool true) w := fun w => rfl
    have HNO : Hid (AlkS g h [] false) := Lib.hid (.inr ⟨rfl, rfl, fun k => by
      obtain ⟨_, _, _, _, o, ho⟩ := k
      rw [← HRES.out] at ho
      cases ho⟩)
    go_wp2_with fail
    go_ret2
    exact ⟨_, _, _, rfl, HNO.out, NILN.out _, HB4.out⟩
  · rename_i o
    have ho := HFV.out
    change World.ownsRow _ _ _ _ _ _ _ at ho
    have hol : 0 < o.length ∧ o.length ≤ 8 := by
      obtain ⟨u, h1, h2, _⟩ := fitF_some _ _ _ HRES.out.symm
      rw [h1]
      simp only [List.nil_append]
      omega
    obtain ⟨ob, oc, e1, _⟩ := owns_some ho hol.1
    subst e1
    have hnl : ∀ w, Sem.run Tryd.prog (binOp BinOp.eql 93 (.slice (some ⟨ob, 0, none⟩) o.length oc) (.slice none 0 0)) w = .ok (.bool false) w := fun w => rfl
    have HNU := Lib.hid (Nums.of_owns ho (natInts_length o).symm (by omega))
    have HYES : Hid (AlkS g h (natInts o) true) := Lib.hid (.inl ⟨rfl, HOG.out, HOH.out, h8, HLEN.out, o, HRES.out.symm, rfl⟩)
    clear ho
    go_wp2_with (go_at_call 125; refine (wide_any _ _ _ HNU.out).mono ?_; rintro e w5 ⟨r, rfl, ho5, hb5⟩)
    go_ret2
    exact ⟨_, _, _, rfl, HYES.out, Nums.of_owns ho5 rfl (by rw [natInts_length]; omega), HB4.out.trans (hb5.mono HB4.out.size)⟩

end Go.Proofs.YtkppbmfliejnmaaDoor
