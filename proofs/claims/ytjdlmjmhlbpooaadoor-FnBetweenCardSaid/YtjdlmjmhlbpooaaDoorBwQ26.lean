/- Walks: an edge of whatever graph, the program's contraction. -/
import Derived.Test.YtjdlmjmhlbpooaaDoorBwQ24
import Derived.Test.YtjdlmjmhlbpooaaDoorBwQ25
import Derived.Test.YtjdlmjmhlbpooaaDoorBwQ14
import Derived.Test.YtjdlmjmhlbpooaaDoorBwQ15
import Derived.Test.YtjdlmjmhlbpooaaDoorBwQ13
import Derived.Test.YtjdlmjmhlbpooaaDoorBwQ16
namespace Go.Proofs.YtjdlmjmhlbpooaaDoor
open Go.RowKit

/-- y and z are joined in g, which is right. -/
def EdgP (g : List (List Int)) (y z : Int) : Prop := GOk g ∧ (0 ≤ y ∧ y < g.length) ∧ z ∈ row g y.toNat
def VtxP (g : List (List Int)) (y : Int) : Prop := GOk g ∧ 0 ≤ y ∧ y < g.length
theorem EdgP.nat {g : List (List Int)} {y z : Int} (h : EdgP g y z) : ∃ a b : Nat, y = a ∧ z = b ∧ a < g.length ∧ b < g.length ∧ a ≠ b ∧ ofG g a b = true := by
  obtain ⟨hg, ⟨h1, h2⟩, h3⟩ := h
  have h4 := (hg.sets y.toNat (by omega)).1.1 z h3
  have h5 := (hg.sets y.toNat (by omega)).2
  refine ⟨y.toNat, z.toNat, by omega, by omega, by omega, by omega, fun e => h5 ?_, ?_⟩
  · rw [show ((y.toNat : Nat) : Int) = z by omega]; exact h3
  · simp only [ofG, decide_eq_true_eq]
    rw [show ((z.toNat : Nat) : Int) = z by omega]; exact h3

set_option maxRecDepth 100000 in
set_option maxHeartbeats 1000000 in
theorem isVertexC_any (v : Value) (g : List (List Int)) (x : Int) (w : World) (hg : Gr w v g) :
    Calls Tryd.prog 78 #[v, .int .i64 x] w fun e w' => e = .returned (.bool (dec (VtxP g x))) ∧ Below w.heap.size w w' := by
  by_cases hok : GOk g
  · refine (isVertexE_any v g x hok w hg).mono ?_
    rintro e w2 ⟨rfl, hb⟩
    exact ⟨ret_bool (dec_congr ⟨fun h => ⟨hok, h⟩, fun h => h.2⟩), hb⟩
  · have hg0 := hg
    obtain ⟨u, rfl, hr⟩ := hg
    obtain ⟨p, c, rfl, _⟩ := hr.shape
    have hbA := Lib.hid (below_alloc w (.cells #[.slice p g.length c] 29))
    have HG := Lib.hid (hg0.below hbA.out)
    have HD := Lib.hid (dec_false hok)
    have HN := Lib.hid (dec_false (show ¬ VtxP g x from fun h => hok h.1))
    clear hr hg0 hok
    go_enter Tryd.func78, Tryd.ntmps78
    go_wp2_with (go_at_call 32; refine (implGraphOk_any _ g _ HG.out).mono ?_; rintro e w2 ⟨he, hb2⟩; rw [HD.out] at he; subst he)
    go_ret
    exact ⟨ret_bool HN.out.symm, hbA.out.trans (hb2.mono hbA.out.size)⟩

set_option maxRecDepth 100000 in
set_option maxHeartbeats 1000000 in
theorem isPairC_any (v : Value) (g : List (List Int)) (x y : Int) (w : World) (hg : Gr w v g) :
    Calls Tryd.prog 99 #[v, .int .i64 x, .int .i64 y] w fun e w' => e = .returned (.bool (dec (VtxP g x ∧ VtxP g y))) ∧ Below w.heap.size w w' := by
  have hg0 := hg
  obtain ⟨u, rfl, hr⟩ := hg
  obtain ⟨p, c, rfl, _⟩ := hr.shape
  have hbA := Lib.hid (below_alloc w (.cells #[.slice p g.length c] 29))
  have HG := Lib.hid (hg0.below hbA.out)
  have BX := Lib.hid (Box.new w (.slice p g.length c) 29)
  clear hr hg0
  by_cases hx : VtxP g x
  · have HX := Lib.hid (dec_true hx)
    have HR : Hid (dec (VtxP g x ∧ VtxP g y) = dec (VtxP g y)) := Lib.hid (dec_congr ⟨fun h => h.2, fun h => ⟨hx, h⟩⟩)
    obtain ⟨d, hd⟩ : ∃ d, dec (VtxP g y) = d := ⟨_, rfl⟩
    have HD := Lib.hid hd
    clear hx hd
    go_enter Tryd.func99, Tryd.ntmps99
    go_wp2_with (first
      | (have X2 := hb2; go_at_call 78; refine (isVertexC_any _ g y _ (HG.out.below X2)).mono ?_; rintro e w3 ⟨he, hb3⟩; rw [HD.out] at he; subst he)
      | (go_at_call 78; refine (isVertexC_any _ g x _ HG.out).mono ?_; rintro e w2 ⟨he, hb2⟩; rw [HX.out] at he; subst he; have hbx := (BX.out.keep hb2).cell))
    go_ret
    exact ⟨ret_bool (by rw [HR.out, HD.out]), (hbA.out.trans (hb2.mono hbA.out.size)).trans (hb3.mono (Nat.le_trans hbA.out.size hb2.size))⟩
  · have HX := Lib.hid (dec_false hx)
    have HR := Lib.hid (dec_false (show ¬ (VtxP g x ∧ VtxP g y) from fun h => hx h.1))
    clear hx
    go_enter Tryd.func99, Tryd.ntmps99
    go_wp2_with (go_at_call 78; refine (isVertexC_any _ g x _ HG.out).mono ?_; rintro e w2 ⟨he, hb2⟩; rw [HX.out] at he; subst he; have hbx := (BX.out.keep hb2).cell)
    go_ret
    exact ⟨ret_bool HR.out.symm, hbA.out.trans (hb2.mono hbA.out.size)⟩

set_option maxRecDepth 100000 in
set_option maxHeartbeats 1000000 in
theorem implEdgeInC_any (v : Value) (g : List (List Int)) (y z : Int) (w : World) (hg : Gr w v g) :
    Calls Tryd.prog 37 #[v, .int .i64 y, .int .i64 z] w fun e w' => e = .returned (.bool (dec (EdgP g y z))) ∧ Below w.heap.size w w' := by
  have hg0 := hg
  obtain ⟨u, rfl, hr⟩ := hg
  obtain ⟨p, c, rfl, _⟩ := hr.shape
  have hbA := Lib.hid (below_alloc w (.cells #[.slice p g.length c] 29))
  have HG := Lib.hid (hg0.below hbA.out)
  have HR := Lib.hid (hr.below hbA.out)
  have BX := Lib.hid (Box.new w (.slice p g.length c) 29)
  by_cases hx : VtxP g y
  · obtain ⟨a, ha⟩ : ∃ a : Nat, y = a := ⟨y.toNat, by have := hx.2; omega⟩
    subst ha
    have hal : a < g.length := by have := hx.2; omega
    have HE : Hid (dec (EdgP g (a : Int) z) = dec (z ∈ row g a)) := Lib.hid (dec_congr (by
      unfold EdgP
      rw [Int.toNat_natCast]
      exact ⟨fun h => h.2.2, fun h => ⟨hx.1, hx.2, h⟩⟩))
    have HX := Lib.hid (dec_true hx)
    obtain ⟨rb, ro, rp, rc, rfl, _, _⟩ := HR.out.get hal
    have HRow : Hid (∀ wz, Below w.heap.size w wz → ∃ rp rc, wz.cell? ⟨rb, ro + a, none⟩ = some (.slice rp (row g a).length rc) ∧ Nums wz 2 .i64 (.slice rp (row g a).length rc) (row g a)) := Lib.hid fun wz hbz => by
      obtain ⟨b', o', rp', rc', e1, h1, h2⟩ := (hr.below hbz).get hal
      cases e1
      exact ⟨rp', rc', h1, h2⟩
    obtain ⟨d, hd⟩ : ∃ d, dec (z ∈ row g a) = d := ⟨_, rfl⟩
    have HD := Lib.hid hd
    clear hr hg0 hx hd
    go_enter Tryd.func37, Tryd.ntmps37
    go_wp2_with (first
      | (go_at_call 92; refine (contains_any _ (row g a) z _ (hrn.below (below_dN (Below.refl _ _) 1))).mono ?_; rintro e w3 ⟨he, hw⟩; rw [HD.out] at he; subst he; subst hw)
      | (go_at_call 92; refine (contains_any _ (row g a) z _ hrn).mono ?_; rintro e w3 ⟨he, hw⟩; rw [HD.out] at he; subst he; subst hw)
      | (go_at_call 78; refine (isVertexC_any _ g (a : Int) _ HG.out).mono ?_; rintro e w2 ⟨he, hb2⟩; rw [HX.out] at he; subst he; have hbx := (BX.out.keep hb2).cell; have hbw := hbA.out.trans (hb2.mono hbA.out.size); obtain ⟨rp2, rc2, hrc, hrn⟩ := HRow.out _ hbw))
    go_ret
    exact ⟨ret_bool (by rw [HE.out, HD.out]), hbw⟩
  · have HX := Lib.hid (dec_false hx)
    have HE := Lib.hid (dec_false (show ¬ EdgP g y z from fun h => hx ⟨h.1, h.2.1⟩))
    clear hr hg0 hx
    go_enter Tryd.func37, Tryd.ntmps37
    go_wp2_with (go_at_call 78; refine (isVertexC_any _ g y _ HG.out).mono ?_; rintro e w2 ⟨he, hb2⟩; rw [HX.out] at he; subst he)
    go_ret
    exact ⟨ret_bool HE.out.symm, hbA.out.trans (hb2.mono hbA.out.size)⟩

set_option maxRecDepth 100000 in
theorem l1ThereC_any (v : Value) (g : List (List Int)) (x : Int) (w : World) (hg : Gr w v g) (hn : g.length ≤ 1000000000) :
    Calls Tryd.prog 75 #[v, .int .i64 x] w fun e w' => e = .returned (.bool (dec (0 ≤ x ∧ x < g.length))) ∧ Below w.heap.size w w' := by
  have hg0 := hg
  obtain ⟨u, rfl, hr⟩ := hg
  obtain ⟨p, c, rfl, _⟩ := hr.shape
  have hbA := Lib.hid (below_alloc w (.cells #[.slice p g.length c] 29))
  have HG := Lib.hid (hg0.below hbA.out)
  clear hr hg0
  go_enter Tryd.func75, Tryd.ntmps75
  go_wp2_with (first
    | (go_at_call 74; refine (l1In_any _ _ _ _).mono ?_; rintro e w3 ⟨rfl, rfl⟩)
    | (go_at_call 53; refine (l1Size_any _ g _ HG.out).mono ?_; rintro e w2 ⟨rfl, hb2⟩))
  go_ret
  exact ⟨ret_bool (dec_congr (by omega)), hbA.out.trans (hb2.mono hbA.out.size)⟩

set_option maxRecDepth 100000 in
set_option maxHeartbeats 2000000 in
theorem specEdgeInC_any (v : Value) (g : List (List Int)) (y z : Int) (w : World) (hg : Gr w v g) :
    Calls Tryd.prog 49 #[v, .int .i64 y, .int .i64 z] w fun e w' => e = .returned (.bool (dec (EdgP g y z))) ∧ Below w.heap.size w w' := by
  have hg0 := hg
  obtain ⟨u, rfl, hr⟩ := hg
  obtain ⟨p, c, rfl, _, _, hn9⟩ := hr.shape
  have hbA := Lib.hid (below_alloc w (.cells #[.slice p g.length c] 29))
  have HG := Lib.hid (hg0.below hbA.out)
  have BX := Lib.hid (Box.new w (.slice p g.length c) 29)
  clear hr hg0
  by_cases hok : GOk g
  case neg =>
    have HD := Lib.hid (dec_false hok)
    have HE := Lib.hid (dec_false (show ¬ EdgP g y z from fun h => hok h.1))
    clear hok
    go_enter Tryd.func49, Tryd.ntmps49
    go_wp2_with (go_at_call 29; refine (specGraphOk_any _ g _ HG.out).mono ?_; rintro e w2 ⟨he, hb2⟩; rw [HD.out] at he; subst he)
    go_ret
    exact ⟨ret_bool HE.out.symm, hbA.out.trans (hb2.mono hbA.out.size)⟩
  have HD := Lib.hid (dec_true hok)
  by_cases hy : 0 ≤ y ∧ y < g.length
  case neg =>
    have HDY := Lib.hid (dec_false hy)
    have HE := Lib.hid (dec_false (show ¬ EdgP g y z from fun h => hy h.2.1))
    clear hok hy
    go_enter Tryd.func49, Tryd.ntmps49
    go_wp2_with (first
      | (go_at_call 29; refine (specGraphOk_any _ g _ HG.out).mono ?_; rintro e w2 ⟨he, hb2⟩; rw [HD.out] at he; subst he; have c2 := (BX.out.keep hb2).cell)
      | (go_at_call 75; refine (l1ThereC_any _ g y _ (HG.out.below hb2) hn9).mono ?_; rintro e w3 ⟨he, hb3⟩; rw [HDY.out] at he; subst he))
    go_ret
    exact ⟨ret_bool HE.out.symm, (hbA.out.trans (hb2.mono hbA.out.size)).trans (hb3.mono (Nat.le_trans hbA.out.size hb2.size))⟩
  obtain ⟨a, ha⟩ : ∃ a : Nat, y = a := ⟨y.toNat, by omega⟩
  subst ha
  have hal : a < g.length := by omega
  have HDY := Lib.hid (dec_true hy)
  by_cases hz : 0 ≤ z ∧ z < g.length
  case neg =>
    have HDZ := Lib.hid (dec_false hz)
    have HE := Lib.hid (dec_false (show ¬ EdgP g (a : Int) z from fun h => hz (by
      have := (hok.sets a hal).1.1 z (by have := h.2.2; rwa [Int.toNat_natCast] at this)
      omega)))
    clear hok hy hz
    go_enter Tryd.func49, Tryd.ntmps49
    go_wp2_with (first
      | (go_at_call 29; refine (specGraphOk_any _ g _ HG.out).mono ?_; rintro e w2 ⟨he, hb2⟩; rw [HD.out] at he; subst he; have c2 := (BX.out.keep hb2).cell)
      | (have X3 := hb3; go_at_call 75; refine (l1ThereC_any _ g z _ ((HG.out.below hb2).below X3) hn9).mono ?_; rintro e w4 ⟨he, hb4⟩; rw [HDZ.out] at he; subst he)
      | (go_at_call 75; refine (l1ThereC_any _ g (a : Int) _ (HG.out.below hb2) hn9).mono ?_; rintro e w3 ⟨he, hb3⟩; rw [HDY.out] at he; subst he; have c3 := hb3.at' c2))
    go_ret
    exact ⟨ret_bool HE.out.symm, ((hbA.out.trans (hb2.mono hbA.out.size)).trans (hb3.mono (Nat.le_trans hbA.out.size hb2.size))).trans (hb4.mono (Nat.le_trans (Nat.le_trans hbA.out.size hb2.size) hb3.size))⟩
  obtain ⟨b, hb⟩ : ∃ b : Nat, z = b := ⟨z.toNat, by omega⟩
  subst hb
  have HDZ := Lib.hid (dec_true hz)
  have HE : Hid (dec (EdgP g (a : Int) (b : Int)) = dec ((b : Int) ∈ row g a)) := Lib.hid (dec_congr (by
    unfold EdgP
    rw [Int.toNat_natCast]
    exact ⟨fun h => h.2.2, fun h => ⟨hok, hy, h⟩⟩))
  obtain ⟨d, hd⟩ : ∃ d, dec ((b : Int) ∈ row g a) = d := ⟨_, rfl⟩
  have HDD := Lib.hid hd
  clear hok hy hz hd
  go_enter Tryd.func49, Tryd.ntmps49
  go_wp2_with (first
    | (go_at_call 29; refine (specGraphOk_any _ g _ HG.out).mono ?_; rintro e w2 ⟨he, hb2⟩; rw [HD.out] at he; subst he; have c2 := (BX.out.keep hb2).cell)
    | (have X3 := hb3; go_at_call 75; refine (l1ThereC_any _ g (b : Int) _ ((HG.out.below hb2).below X3) hn9).mono ?_; rintro e w4 ⟨he, hb4⟩; rw [HDZ.out] at he; subst he; have c4 := hb4.at' c3)
    | (go_at_call 75; refine (l1ThereC_any _ g (a : Int) _ (HG.out.below hb2) hn9).mono ?_; rintro e w3 ⟨he, hb3⟩; rw [HDY.out] at he; subst he; have c3 := hb3.at' c2)
    | (go_at_call 109; refine (l1Edge_any _ g _ _ a b rfl rfl hal _ (((HG.out.below hb2).below hb3).below hb4)).mono ?_; rintro e w5 ⟨he, hb5⟩; rw [HDD.out] at he; subst he))
  go_ret
  exact ⟨ret_bool (by rw [HE.out, HDD.out]), (((hbA.out.trans (hb2.mono hbA.out.size)).trans (hb3.mono (Nat.le_trans hbA.out.size hb2.size))).trans (hb4.mono (Nat.le_trans (Nat.le_trans hbA.out.size hb2.size) hb3.size))).trans (hb5.mono (Nat.le_trans (Nat.le_trans (Nat.le_trans hbA.out.size hb2.size) hb3.size) hb4.size))⟩

end Go.Proofs.YtjdlmjmhlbpooaaDoor
