/- Walk: the reference says whether a vertex may be pruned so. -/
import Derived.Test.YtfokiijcpkhllaaDoorDsQ31
import Derived.Test.YtfokiijcpkhllaaDoorDsQ4
import Derived.Test.YtfokiijcpkhllaaDoorDsQ23
import Derived.Test.YtfokiijcpkhllaaDoorDsQ26
import Derived.Deep.RegionWith
import Derived.Test.YtfokiijcpkhllaaDoorDsQ27
import Derived.Deep.RegionHeld3
import Derived.Deep.DeepCutAuto
import Derived.Test.YtfokiijcpkhllaaDoorDsQ30
namespace Go.Proofs.YtfokiijcpkhllaaDoor
open Go.RowKit

theorem cells3 (w : World) (a b c : Value) (T : TypeId) : (w.alloc (.cells #[a, b, c] T)).cell? ⟨w.heap.size, 0, none⟩ = some a ∧ (w.alloc (.cells #[a, b, c] T)).cell? ⟨w.heap.size, 1, none⟩ = some b ∧ (w.alloc (.cells #[a, b, c] T)).cell? ⟨w.heap.size, 2, none⟩ = some c := by
  have := heap_alloc_new w (.cells #[a, b, c] T)
  refine ⟨?_, ?_, ?_⟩ <;> (unfold World.cell?; rw [this]; rfl)

/-- The two blocks with which the walk begins. -/
theorem goes_start (w : World) (u V B K : Value) : ∃ W, W = (w.alloc (.cells #[u] 29)).alloc (.cells #[V, B, K] 129) ∧ Below w.heap.size w W ∧ Box W w.heap.size 29 u ∧
    W.cell? ⟨w.heap.size + 1, 0, none⟩ = some V ∧ W.cell? ⟨w.heap.size + 1, 1, none⟩ = some B ∧ W.cell? ⟨w.heap.size + 1, 2, none⟩ = some K := by
  refine ⟨_, rfl, below_alloc2 _ _ _, (Box.new _ _ _).alloc _, ?_⟩
  have := cells3 (w.alloc (.cells #[u] 29)) V B K 129
  rw [size_alloc] at this
  exact this

theorem nearB_16 {g : List (List Int)} (hok : GOk g) {L : List Int} {v : Nat} (hv : v < g.length) (b : Int) : (nearB g L v b).length ≤ 16 :=
  Nat.le_trans (nearB_len g L v b) (gOk_row_le hok v hv)

theorem goP_one {g : List (List Int)} {L : List Int} {v : Nat} (hL : ∀ x ∈ L, 0 ≤ x) : GoP g L v (-1) 1 ↔ (nearB g L v (-1)).length = 0 := by
  rw [nearB_nil]
  constructor
  · rintro (⟨_, _, h⟩ | ⟨h, _⟩)
    · intro x hx hr
      rw [Int.toNat_natCast] at h
      exact absurd hr (h x hx)
    · have := hL _ h; omega
  · intro h
    refine .inl ⟨rfl, rfl, fun x hx hr => ?_⟩
    rw [Int.toNat_natCast] at hr
    have := h x hx hr
    have := hL x hx
    omega
theorem goP_two {g : List (List Int)} (hok : GOk g) {L : List Int} {v b : Nat} (hv : v < g.length) (hb : (b : Int) ∈ L) (hvb : b ≠ v) :
    GoP g L v b 2 ↔ (b : Int) ∈ row g v ∧ (nearB g L v b).length = 0 := by
  rw [nearB_nil]
  constructor
  · rintro (⟨h, _⟩ | ⟨_, _, h⟩)
    · omega
    · rcases h with ⟨_, h⟩ | ⟨h, _⟩ | ⟨h, _⟩
      · simp only [Int.toNat_natCast] at h
        exact ⟨(h _ hb).2 rfl, fun x hx hr => (h x hx).1 hr⟩
      · omega
      · omega
  · rintro ⟨h1, h2⟩
    refine .inr ⟨hb, by omega, .inl ⟨rfl, fun x hx => ?_⟩⟩
    rw [Int.toNat_natCast]
    exact ⟨fun hr => h2 x hx hr, fun e => by subst e; exact h1⟩
theorem goP_three {g : List (List Int)} (hok : GOk g) {L : List Int} {v b : Nat} (hv : v < g.length) (hbl : b < g.length) (hvL : (v : Int) ∈ L) (hb : (b : Int) ∈ L) (hvb : b ≠ v) :
    GoP g L v b 3 ↔ (b : Int) ∉ row g v ∧ nearB g L v b = nearB g L b v := by
  rw [nearB_same hok hv hbl hvL hb (fun e => hvb e.symm)]
  constructor
  · rintro (⟨h, _⟩ | ⟨_, _, h⟩)
    · omega
    · rcases h with ⟨h, _⟩ | ⟨_, h⟩ | ⟨h, _⟩
      · omega
      · simpa only [Int.toNat_natCast] using h
      · omega
  · intro h
    exact .inr ⟨hb, by omega, .inr (.inl ⟨rfl, by simpa only [Int.toNat_natCast] using h⟩)⟩
theorem goP_four {g : List (List Int)} (hok : GOk g) {L : List Int} {v b : Nat} (hv : v < g.length) (hbl : b < g.length) (hvL : (v : Int) ∈ L) (hb : (b : Int) ∈ L) (hvb : b ≠ v) :
    GoP g L v b 4 ↔ (b : Int) ∈ row g v ∧ nearB g L v b = nearB g L b v := by
  rw [nearB_same hok hv hbl hvL hb (fun e => hvb e.symm)]
  constructor
  · rintro (⟨h, _⟩ | ⟨_, _, h⟩)
    · omega
    · rcases h with ⟨h, _⟩ | ⟨h, _⟩ | ⟨_, h⟩
      · omega
      · omega
      · simpa only [Int.toNat_natCast] using h
  · intro h
    exact .inr ⟨hb, by omega, .inr (.inr ⟨rfl, by simpa only [Int.toNat_natCast] using h⟩)⟩
theorem goP_self {g : List (List Int)} {L : List Int} {v k : Int} (hk : 2 ≤ k) : ¬ GoP g L v v k := by
  rintro (⟨h, _⟩ | ⟨_, h, _⟩)
  · omega
  · exact h rfl

set_option maxRecDepth 100000 in
set_option maxHeartbeats 2000000 in
theorem l18Goes_one (v lv : Value) (g : List (List Int)) (L : List Int) (hok : GOk g) (hL : ∀ x ∈ L, 0 ≤ x ∧ x < g.length) (k : Nat) (hk : k < g.length) (w : World) (hg : Gr w v g) (hn : Nums w 2 .i64 lv L) :
    Calls Tryd.prog 140 #[v, lv, .agg #[.int .i64 k, .int .i64 (-1), .int .i64 1]] w fun e w' => e = .returned (.bool (dec (GoP g L k (-1) 1))) ∧ Below w.heap.size w w' := by
  have hg0 := hg
  obtain ⟨u, rfl, hr⟩ := hg
  obtain ⟨p, c, rfl, _⟩ := hr.shape
  obtain ⟨lp, lc, rfl, _⟩ := id hn.shape
  obtain ⟨W, hW, hb0, hbx, q0, q1, q2⟩ := goes_start w (.slice p g.length c) (.int .i64 k) (.int .i64 (-1)) (.int .i64 1)
  have HB0 := Lib.hid hb0
  have HG := Lib.hid (hg0.below hb0)
  have HN := Lib.hid (hn.below hb0)
  have qx := hbx.cell
  have hrl := gOk_row_le hok k hk
  have hlen := nearB_16 (L := L) hok hk (-1)
  have HE := Lib.hid (dec_congr (goP_one (g := g) (v := k) (fun x hx => (hL x hx).1)))
  have HW := Lib.hid hW
  clear hr hg0 hn hbx hok hL hW
  by_cases h0 : (nearB g L k (-1)).length = 0
  · have hd := dec_true h0
    have h0' : (((nearB g L k (-1)).length : Int) == 0) = true := by simp [h0]
    have H0 := Lib.hid h0
    clear h0
    go_enter Tryd.func140, Tryd.ntmps140
    go_upto_region 1 with fail
    rw [← HW.out]
    go_wp2_with (go_at_call 151; refine (l18Near_any _ _ g L k k rfl hk (-1) (by omega) _ HG.out HN.out).mono ?_; rintro e w2 ⟨u2, rfl, ho2, hb2⟩; obtain ⟨np, nc, rfl⟩ := owns_shapeA ho2; have r0 := hb2.at' q0; have r1 := hb2.at' q1; have r2 := hb2.at' q2)
    go_ret
    exact ⟨ret_bool (by rw [HE.out, hd]), HB0.out.trans (hb2.mono HB0.out.size)⟩
  · have hd := dec_false h0
    have h0' : (((nearB g L k (-1)).length : Int) == 0) = false := by simpa using h0
    have H0 := Lib.hid h0
    clear h0
    go_enter Tryd.func140, Tryd.ntmps140
    go_upto_region 1 with fail
    rw [← HW.out]
    go_wp2_with (go_at_call 151; refine (l18Near_any _ _ g L k k rfl hk (-1) (by omega) _ HG.out HN.out).mono ?_; rintro e w2 ⟨u2, rfl, ho2, hb2⟩; obtain ⟨np, nc, rfl⟩ := owns_shapeA ho2; have r0 := hb2.at' q0; have r1 := hb2.at' q1; have r2 := hb2.at' q2)
    go_ret
    exact ⟨ret_bool (by rw [HE.out, hd]), HB0.out.trans (hb2.mono HB0.out.size)⟩

set_option maxRecDepth 100000 in
set_option maxHeartbeats 2000000 in
theorem l18Goes_self (v lv : Value) (g : List (List Int)) (L : List Int) (hok : GOk g) (k : Nat) (hk : k < g.length) (K : Int) (h2 : 2 ≤ K) (h4 : K ≤ 4) (w : World) (hg : Gr w v g) (hn : Nums w 2 .i64 lv L) :
    Calls Tryd.prog 140 #[v, lv, .agg #[.int .i64 k, .int .i64 k, .int .i64 K]] w fun e w' => e = .returned (.bool (dec (GoP g L k k K))) ∧ Below w.heap.size w w' := by
  have hg0 := hg
  obtain ⟨u, rfl, hr⟩ := hg
  obtain ⟨p, c, rfl, _⟩ := hr.shape
  obtain ⟨lp, lc, rfl, _⟩ := id hn.shape
  obtain ⟨W, hW, hb0, hbx, q0, q1, q2⟩ := goes_start w (.slice p g.length c) (.int .i64 k) (.int .i64 k) (.int .i64 K)
  have HB0 := Lib.hid hb0
  have HG := Lib.hid (hg0.below hb0)
  have HN := Lib.hid (hn.below hb0)
  have qx := hbx.cell
  have hrl := gOk_row_le hok k hk
  have HE := Lib.hid (dec_false (goP_self (g := g) (L := L) (v := k) h2))
  have HW := Lib.hid hW
  have hK : (K == 1) = false := by simp; omega
  clear hr hg0 hn hbx hok hW
  go_enter Tryd.func140, Tryd.ntmps140
  go_upto_region 1 with fail
  rw [← HW.out]
  go_wp2_with (go_at_call 151; refine (l18Near_any _ _ g L k k rfl hk k (by omega) _ HG.out HN.out).mono ?_; rintro e w2 ⟨u2, rfl, ho2, hb2⟩; obtain ⟨np, nc, rfl⟩ := owns_shapeA ho2; have r0 := hb2.at' q0; have r1 := hb2.at' q1; have r2 := hb2.at' q2)
  go_ret
  exact ⟨ret_bool HE.out.symm, HB0.out.trans (hb2.mono HB0.out.size)⟩

set_option maxRecDepth 100000 in
set_option maxHeartbeats 4000000 in
theorem l18Goes_two (v lv : Value) (g : List (List Int)) (L : List Int) (hok : GOk g) (k b : Nat) (hk : k < g.length) (hb : b < g.length) (hkL : (k : Int) ∈ L) (hbL : (b : Int) ∈ L) (hkb : b ≠ k) (w : World) (hg : Gr w v g) (hn : Nums w 2 .i64 lv L) :
    Calls Tryd.prog 140 #[v, lv, .agg #[.int .i64 k, .int .i64 b, .int .i64 2]] w fun e w' => e = .returned (.bool (dec (GoP g L k b 2))) ∧ Below w.heap.size w w' := by
  have hg0 := hg
  obtain ⟨u, rfl, hr⟩ := hg
  obtain ⟨p, c, rfl, _⟩ := hr.shape
  obtain ⟨lp, lc, rfl, _⟩ := id hn.shape
  obtain ⟨W, hW, hb0, hbx, q0, q1, q2⟩ := goes_start w (.slice p g.length c) (.int .i64 k) (.int .i64 b) (.int .i64 2)
  have HB0 := Lib.hid hb0
  have HG := Lib.hid (hg0.below hb0)
  have HR := Lib.hid (hr.below hb0)
  have HN := Lib.hid (hn.below hb0)
  have qx := hbx.cell
  have hrl := gOk_row_le hok k hk
  have hrlb := gOk_row_le hok b hb
  have hlen := nearB_16 (L := L) hok hk b
  have hlenb := nearB_16 (L := L) hok hb k
  have HE := Lib.hid (dec_congr (goP_two hok hk hbL hkb))
  have HW := Lib.hid hW
  have hdL := dec_true hbL
  have hne : (((b : Nat) : Int) == ((k : Nat) : Int)) = false := by simp; omega
  have e0 : (0 : Int) ≤ (k : Int) := by omega
  have e1 : (k : Int) < (g.length : Int) := by omega
  obtain ⟨b0, o0, _, _, rfl, _, _⟩ := hr.get hk
  clear hr hg0 hn hbx hok hW hkL hbL
  go_enter Tryd.func140, Tryd.ntmps140
  go_upto_region 1 with fail
  rw [← HW.out]
  go_upto_region 6 with (first
    | (go_at_call 66; refine (l1Has_any _ L b _ (HN.out.below hb2)).mono ?_; rintro e w3 ⟨he, rfl⟩; rw [hdL] at he; subst he)
    | (go_at_call 151; refine (l18Near_any _ _ g L k k rfl hk b (by omega) _ HG.out HN.out).mono ?_; rintro e w2 ⟨u2, rfl, ho2, hb2⟩; obtain ⟨np, nc, rfl⟩ := owns_shapeA ho2; have r0 := hb2.at' q0; have r1 := hb2.at' q1; have r2 := hb2.at' q2; have rx := hb2.at' qx; obtain ⟨_, _, rp, rc, e1, hrc, hrow⟩ := (HR.out.below hb2).get hk; cases e1; change w2.cell? _ = some (.slice rp (row g k).length rc) at hrc; change Nums w2 _ _ (.slice rp (row g k).length rc) (row g k) at hrow))
  have HO2 := Lib.hid ho2
  have HB2 := Lib.hid (HB0.out.trans (hb2.mono HB0.out.size))
  have HG2 := Lib.hid (HG.out.below hb2)
  have HN2 := Lib.hid (HN.out.below hb2)
  have HROW := Lib.hid hrow
  clear ho2 hb2 hrow q0 q1 q2 qx
  go_cut [8] (fun s wx => s = .bool (dec ((b : Int) ∈ row g k)) ∧ Below w2.heap.size w2 wx)
  case first =>
    go_region_held3 (fun w' => w'.cell? ⟨w.heap.size, 0, none⟩ = some (.slice (some ⟨b0, o0, none⟩) g.length c) ∧ w'.cell? ⟨w.heap.size + 1, 0, none⟩ = some (.int .i64 k) ∧ w'.cell? ⟨w.heap.size + 1, 1, none⟩ = some (.int .i64 b) ∧ w'.cell? ⟨b0, o0 + k, none⟩ = some (.slice rp (row g k).length rc))
      (first | go_keep | exact ⟨rx, r0, r1, hrc⟩ | exact ⟨BWA.at' rx, BWA.at' r0, BWA.at' r1, BWA.at' hrc⟩)
      (first | (go_at_call 66; refine (l1Has_any _ (row g k) b _ (HROW.out.below (below_dN (Below.refl _ _) 1))).mono ?_; rintro e w4 ⟨rfl, hw4⟩; have BWA : Below w2.heap.size w2 w4 := hw4 ▸ below_dN (Below.refl _ _) 1; clear hw4))
    all_goals go_wp2
    all_goals go_meet
    all_goals exact ⟨rfl, BWA⟩
  case rest =>
    obtain ⟨rfl, hbc⟩ := hcut
    have x0 := hbc.at' r0
    have x1 := hbc.at' r1
    have x2 := hbc.at' r2
    have xx := hbc.at' rx
    have HBC := Lib.hid (HB2.out.trans (hbc.mono HB2.out.size))
    have HOc := Lib.hid (ownsRow_below HO2.out hbc)
    have HGc := Lib.hid (HG2.out.below hbc)
    have HNc := Lib.hid (HN2.out.below hbc)
    clear hbc r0 r1 r2 rx hrc
    by_cases hN : (b : Int) ∈ row g k
    · have hd := dec_true hN
      have HNN := Lib.hid hN
      clear hN
      by_cases h0 : (nearB g L k b).length = 0
      · have h0' : (((nearB g L k b).length : Int) == 0) = true := by simp [h0]
        have H0 := Lib.hid h0
        clear h0
        rw [hd]
        go_wp2
        go_ret
        exact ⟨ret_bool (by rw [HE.out]; exact true_dec ⟨HNN.out, H0.out⟩), HBC.out⟩
      · have h0' : (((nearB g L k b).length : Int) == 0) = false := by simpa using h0
        have H0 := Lib.hid h0
        clear h0
        rw [hd]
        go_wp2
        go_ret
        exact ⟨ret_bool (by rw [HE.out]; exact false_dec fun h => H0.out h.2), HBC.out⟩
    · have hd := dec_false hN
      have HNN := Lib.hid hN
      clear hN
      rw [hd]
      go_wp2
      go_ret
      exact ⟨ret_bool (by rw [HE.out]; exact false_dec fun h => HNN.out h.1), HBC.out⟩

set_option maxRecDepth 100000 in
set_option maxHeartbeats 4000000 in
theorem l18Goes_three (v lv : Value) (g : List (List Int)) (L : List Int) (hok : GOk g) (k b : Nat) (hk : k < g.length) (hb : b < g.length) (hkL : (k : Int) ∈ L) (hbL : (b : Int) ∈ L) (hkb : b ≠ k) (w : World) (hg : Gr w v g) (hn : Nums w 2 .i64 lv L) :
    Calls Tryd.prog 140 #[v, lv, .agg #[.int .i64 k, .int .i64 b, .int .i64 3]] w fun e w' => e = .returned (.bool (dec (GoP g L k b 3))) ∧ Below w.heap.size w w' := by
  have hg0 := hg
  obtain ⟨u, rfl, hr⟩ := hg
  obtain ⟨p, c, rfl, _⟩ := hr.shape
  obtain ⟨lp, lc, rfl, _⟩ := id hn.shape
  obtain ⟨W, hW, hb0, hbx, q0, q1, q2⟩ := goes_start w (.slice p g.length c) (.int .i64 k) (.int .i64 b) (.int .i64 3)
  have HB0 := Lib.hid hb0
  have HG := Lib.hid (hg0.below hb0)
  have HR := Lib.hid (hr.below hb0)
  have HN := Lib.hid (hn.below hb0)
  have qx := hbx.cell
  have hrl := gOk_row_le hok k hk
  have hrlb := gOk_row_le hok b hb
  have hlen := nearB_16 (L := L) hok hk b
  have hlenb := nearB_16 (L := L) hok hb k
  have HE := Lib.hid (dec_congr (goP_three hok hk hb hkL hbL hkb))
  have HW := Lib.hid hW
  have hdL := dec_true hbL
  have hne : (((b : Nat) : Int) == ((k : Nat) : Int)) = false := by simp; omega
  have e0 : (0 : Int) ≤ (k : Int) := by omega
  have e1 : (k : Int) < (g.length : Int) := by omega
  obtain ⟨b0, o0, _, _, rfl, _, _⟩ := hr.get hk
  clear hr hg0 hn hbx hok hW hkL hbL
  go_enter Tryd.func140, Tryd.ntmps140
  go_upto_region 1 with fail
  rw [← HW.out]
  go_upto_region 6 with (first
    | (go_at_call 66; refine (l1Has_any _ L b _ (HN.out.below hb2)).mono ?_; rintro e w3 ⟨he, rfl⟩; rw [hdL] at he; subst he)
    | (go_at_call 151; refine (l18Near_any _ _ g L k k rfl hk b (by omega) _ HG.out HN.out).mono ?_; rintro e w2 ⟨u2, rfl, ho2, hb2⟩; obtain ⟨np, nc, rfl⟩ := owns_shapeA ho2; have r0 := hb2.at' q0; have r1 := hb2.at' q1; have r2 := hb2.at' q2; have rx := hb2.at' qx; obtain ⟨_, _, rp, rc, e1, hrc, hrow⟩ := (HR.out.below hb2).get hk; cases e1; change w2.cell? _ = some (.slice rp (row g k).length rc) at hrc; change Nums w2 _ _ (.slice rp (row g k).length rc) (row g k) at hrow))
  have HO2 := Lib.hid ho2
  have HB2 := Lib.hid (HB0.out.trans (hb2.mono HB0.out.size))
  have HG2 := Lib.hid (HG.out.below hb2)
  have HN2 := Lib.hid (HN.out.below hb2)
  have HROW := Lib.hid hrow
  clear ho2 hb2 hrow q0 q1 q2 qx
  go_cut [8] (fun s wx => s = .bool (dec ((b : Int) ∈ row g k)) ∧ Below w2.heap.size w2 wx)
  case first =>
    go_region_held3 (fun w' => w'.cell? ⟨w.heap.size, 0, none⟩ = some (.slice (some ⟨b0, o0, none⟩) g.length c) ∧ w'.cell? ⟨w.heap.size + 1, 0, none⟩ = some (.int .i64 k) ∧ w'.cell? ⟨w.heap.size + 1, 1, none⟩ = some (.int .i64 b) ∧ w'.cell? ⟨b0, o0 + k, none⟩ = some (.slice rp (row g k).length rc))
      (first | go_keep | exact ⟨rx, r0, r1, hrc⟩ | exact ⟨BWA.at' rx, BWA.at' r0, BWA.at' r1, BWA.at' hrc⟩)
      (first | (go_at_call 66; refine (l1Has_any _ (row g k) b _ (HROW.out.below (below_dN (Below.refl _ _) 1))).mono ?_; rintro e w4 ⟨rfl, hw4⟩; have BWA : Below w2.heap.size w2 w4 := hw4 ▸ below_dN (Below.refl _ _) 1; clear hw4))
    all_goals go_wp2
    all_goals go_meet
    all_goals exact ⟨rfl, BWA⟩
  case rest =>
    obtain ⟨rfl, hbc⟩ := hcut
    have x0 := hbc.at' r0
    have x1 := hbc.at' r1
    have x2 := hbc.at' r2
    have xx := hbc.at' rx
    have HBC := Lib.hid (HB2.out.trans (hbc.mono HB2.out.size))
    have HOc := Lib.hid (ownsRow_below HO2.out hbc)
    have HGc := Lib.hid (HG2.out.below hbc)
    have HNc := Lib.hid (HN2.out.below hbc)
    clear hbc r0 r1 r2 rx hrc
    by_cases hN : (b : Int) ∈ row g k
    · have hd := dec_true hN
      have HNN := Lib.hid hN
      clear hN
      rw [hd]
      go_wp2
      go_ret
      exact ⟨ret_bool (by rw [HE.out]; exact false_dec fun h => h.1 HNN.out), HBC.out⟩
    · have hd := dec_false hN
      have HNN := Lib.hid hN
      clear hN
      rw [hd]
      go_wp2_with (first
        | (go_at_call 152; refine (l1Same_any _ _ (nearB g L k b) (nearB g L b k) _ (Nums.of_owns (ownsRow_below HOc.out hb6) rfl (by omega)) (Nums.of_owns ho6 rfl (by omega))).mono ?_; rintro e w7 ⟨rfl, q7, rfl⟩)
        | (go_at_call 151; refine (l18Near_any _ _ g L b b rfl hb k (by omega) _ HGc.out HNc.out).mono ?_; rintro e w6 ⟨u6, rfl, ho6, hb6⟩; obtain ⟨mp, mc, rfl⟩ := owns_shapeA ho6))
      go_ret
      exact ⟨ret_bool (by rw [HE.out]; exact dec_congr ⟨fun h => ⟨HNN.out, h⟩, fun h => h.2⟩), below_dN (HBC.out.trans (hb6.mono HBC.out.size)) _⟩

set_option maxRecDepth 100000 in
set_option maxHeartbeats 4000000 in
theorem l18Goes_four (v lv : Value) (g : List (List Int)) (L : List Int) (hok : GOk g) (k b : Nat) (hk : k < g.length) (hb : b < g.length) (hkL : (k : Int) ∈ L) (hbL : (b : Int) ∈ L) (hkb : b ≠ k) (w : World) (hg : Gr w v g) (hn : Nums w 2 .i64 lv L) :
    Calls Tryd.prog 140 #[v, lv, .agg #[.int .i64 k, .int .i64 b, .int .i64 4]] w fun e w' => e = .returned (.bool (dec (GoP g L k b 4))) ∧ Below w.heap.size w w' := by
  have hg0 := hg
  obtain ⟨u, rfl, hr⟩ := hg
  obtain ⟨p, c, rfl, _⟩ := hr.shape
  obtain ⟨lp, lc, rfl, _⟩ := id hn.shape
  obtain ⟨W, hW, hb0, hbx, q0, q1, q2⟩ := goes_start w (.slice p g.length c) (.int .i64 k) (.int .i64 b) (.int .i64 4)
  have HB0 := Lib.hid hb0
  have HG := Lib.hid (hg0.below hb0)
  have HR := Lib.hid (hr.below hb0)
  have HN := Lib.hid (hn.below hb0)
  have qx := hbx.cell
  have hrl := gOk_row_le hok k hk
  have hrlb := gOk_row_le hok b hb
  have hlen := nearB_16 (L := L) hok hk b
  have hlenb := nearB_16 (L := L) hok hb k
  have HE := Lib.hid (dec_congr (goP_four hok hk hb hkL hbL hkb))
  have HW := Lib.hid hW
  have hdL := dec_true hbL
  have hne : (((b : Nat) : Int) == ((k : Nat) : Int)) = false := by simp; omega
  have e0 : (0 : Int) ≤ (k : Int) := by omega
  have e1 : (k : Int) < (g.length : Int) := by omega
  obtain ⟨b0, o0, _, _, rfl, _, _⟩ := hr.get hk
  clear hr hg0 hn hbx hok hW hkL hbL
  go_enter Tryd.func140, Tryd.ntmps140
  go_upto_region 1 with fail
  rw [← HW.out]
  go_upto_region 6 with (first
    | (go_at_call 66; refine (l1Has_any _ L b _ (HN.out.below hb2)).mono ?_; rintro e w3 ⟨he, rfl⟩; rw [hdL] at he; subst he)
    | (go_at_call 151; refine (l18Near_any _ _ g L k k rfl hk b (by omega) _ HG.out HN.out).mono ?_; rintro e w2 ⟨u2, rfl, ho2, hb2⟩; obtain ⟨np, nc, rfl⟩ := owns_shapeA ho2; have r0 := hb2.at' q0; have r1 := hb2.at' q1; have r2 := hb2.at' q2; have rx := hb2.at' qx; obtain ⟨_, _, rp, rc, e1, hrc, hrow⟩ := (HR.out.below hb2).get hk; cases e1; change w2.cell? _ = some (.slice rp (row g k).length rc) at hrc; change Nums w2 _ _ (.slice rp (row g k).length rc) (row g k) at hrow))
  have HO2 := Lib.hid ho2
  have HB2 := Lib.hid (HB0.out.trans (hb2.mono HB0.out.size))
  have HG2 := Lib.hid (HG.out.below hb2)
  have HN2 := Lib.hid (HN.out.below hb2)
  have HROW := Lib.hid hrow
  clear ho2 hb2 hrow q0 q1 q2 qx
  go_cut [8] (fun s wx => s = .bool (dec ((b : Int) ∈ row g k)) ∧ Below w2.heap.size w2 wx)
  case first =>
    go_region_held3 (fun w' => w'.cell? ⟨w.heap.size, 0, none⟩ = some (.slice (some ⟨b0, o0, none⟩) g.length c) ∧ w'.cell? ⟨w.heap.size + 1, 0, none⟩ = some (.int .i64 k) ∧ w'.cell? ⟨w.heap.size + 1, 1, none⟩ = some (.int .i64 b) ∧ w'.cell? ⟨b0, o0 + k, none⟩ = some (.slice rp (row g k).length rc))
      (first | go_keep | exact ⟨rx, r0, r1, hrc⟩ | exact ⟨BWA.at' rx, BWA.at' r0, BWA.at' r1, BWA.at' hrc⟩)
      (first | (go_at_call 66; refine (l1Has_any _ (row g k) b _ (HROW.out.below (below_dN (Below.refl _ _) 1))).mono ?_; rintro e w4 ⟨rfl, hw4⟩; have BWA : Below w2.heap.size w2 w4 := hw4 ▸ below_dN (Below.refl _ _) 1; clear hw4))
    all_goals go_wp2
    all_goals go_meet
    all_goals exact ⟨rfl, BWA⟩
  case rest =>
    obtain ⟨rfl, hbc⟩ := hcut
    have x0 := hbc.at' r0
    have x1 := hbc.at' r1
    have x2 := hbc.at' r2
    have xx := hbc.at' rx
    have HBC := Lib.hid (HB2.out.trans (hbc.mono HB2.out.size))
    have HOc := Lib.hid (ownsRow_below HO2.out hbc)
    have HGc := Lib.hid (HG2.out.below hbc)
    have HNc := Lib.hid (HN2.out.below hbc)
    clear hbc r0 r1 r2 rx hrc
    by_cases hN : (b : Int) ∈ row g k
    · have hd := dec_true hN
      have HNN := Lib.hid hN
      clear hN
      rw [hd]
      go_wp2_with (first
        | (go_at_call 152; refine (l1Same_any _ _ (nearB g L k b) (nearB g L b k) _ (Nums.of_owns (ownsRow_below HOc.out hb6) rfl (by omega)) (Nums.of_owns ho6 rfl (by omega))).mono ?_; rintro e w7 ⟨rfl, q7, rfl⟩)
        | (go_at_call 151; refine (l18Near_any _ _ g L b b rfl hb k (by omega) _ HGc.out HNc.out).mono ?_; rintro e w6 ⟨u6, rfl, ho6, hb6⟩; obtain ⟨mp, mc, rfl⟩ := owns_shapeA ho6))
      go_ret
      exact ⟨ret_bool (by rw [HE.out]; exact dec_congr ⟨fun h => ⟨HNN.out, h⟩, fun h => h.2⟩), below_dN (HBC.out.trans (hb6.mono HBC.out.size)) _⟩
    · have hd := dec_false hN
      have HNN := Lib.hid hN
      clear hN
      rw [hd]
      go_wp2
      go_ret
      exact ⟨ret_bool (by rw [HE.out]; exact false_dec fun h => HNN.out h.1), HBC.out⟩

end Go.Proofs.YtfokiijcpkhllaaDoor

/- Walks: two vertices made no neighbours; the program's edges. -/
namespace Go.Proofs.YtfokiijcpkhllaaDoor
open Go.RowKit

end Go.Proofs.YtfokiijcpkhllaaDoor

/- Walk: the program's edges; two vertices made no neighbours. -/
namespace Go.Proofs.YtfokiijcpkhllaaDoor
end Go.Proofs.YtfokiijcpkhllaaDoor

/- Walk: the program's bridges. -/
namespace Go.Proofs.YtfokiijcpkhllaaDoor
open Go.RowKit

theorem bits_all {n : Nat} (hn : n ≤ 16) {W : Nat} (hW : W = 2 ^ n - 1) : bitsOf W = List.range n := by
  have h16 : W < 65536 := by
    have : 2 ^ n ≤ 2 ^ 16 := Nat.pow_le_pow_right (by decide) hn
    have h2 : (2 : Nat) ^ 16 = 65536 := by decide
    have : 0 < 2 ^ n := Nat.pow_pos (by decide)
    omega
  refine rising_ext _ _ (bitsOf_rising _) List.pairwise_lt_range fun i => ?_
  rw [mem_left h16, hW, testBit_firstOf]
  simp
theorem all_lt {n : Nat} (hn : n ≤ 16) {W : Nat} (hW : W = 2 ^ n - 1) : W < 65536 ∧ (∀ i, W.testBit i = true → i < n) ∧ ∀ i, i < n → W.testBit i = true := by
  have : 2 ^ n ≤ 2 ^ 16 := Nat.pow_le_pow_right (by decide) hn
  have h2 : (2 : Nat) ^ 16 = 65536 := by decide
  have : 0 < 2 ^ n := Nat.pow_pos (by decide)
  refine ⟨by omega, fun i hi => ?_, fun i hi => ?_⟩
  · rw [hW, testBit_firstOf] at hi; simpa using hi
  · rw [hW, testBit_firstOf]; simpa using hi
theorem PrsO.otherT {w w' : World} {base base2 : Nat} {ev v : Value} {l : List (Nat × Nat)} {n : Nat} {xs : List Value} (h : PrsO w base ev l) (ho : w.ownsRow base2 64 1 v n xs) (hg : w.grownBy w' v.ownBlock) : PrsO w' base ev l := by
  obtain ⟨vals, h1, h2, h3⟩ := h
  exact ⟨vals, h1, ownsRow_other h2 ho hg (by decide), fun j hj => (h3 j hj).other ho hg (by decide)⟩
theorem PrsO.keptO {w w' : World} {base base2 : Nat} {ev v : Value} {l : List (Nat × Nat)} {n : Nat} {xs : List Value} (h : PrsO w base ev l) (ho : w.ownsRow base2 32 1 v n xs) (hg : w.grownBy w' v.ownBlock) (hne : ∀ b, ev.ownBlock = some b → v.ownBlock ≠ some b) : PrsO w' base ev l := by
  obtain ⟨vals, h1, h2, h3⟩ := h
  refine ⟨vals, h1, h2.kept hg ?_, fun j hj => (h3 j hj).other ho hg (by decide)⟩
  cases hb : ev.ownBlock with
  | none => exact .inl rfl
  | some b => exact .inr fun e => hne b hb e.symm

/-- What the loop over the edges carries. -/
structure BrI (w wr : World) (x ev ov : Value) (B Bx Be : Nat) (n : Nat) (E : Nat → Nat → Bool) (t : Nat) : Prop where
  net : wr.ownsRow Bx 64 1 x n ((indN n E).map u32v)
  edg : PrsO wr Be ev (edN n E n)
  out : PrsO wr B ov (brdL n E ((edN n E n).take t))
  far : ∀ b, ev.ownBlock = some b → ov.ownBlock ≠ some b
  bel : Below w.heap.size w wr
  tab : Tab wr
  tpos : 0 < w.heap.size
  b1 : w.heap.size ≤ B
  b2 : w.heap.size ≤ Bx
  b3 : B ≤ wr.heap.size

theorem BrI.next {w wr wx : World} {x ev ov : Value} {B Bx Be n : Nat} {E : Nat → Nat → Bool} {t : Nat} (h : BrI w wr x ev ov B Bx Be n E t) (hb : Below wr.heap.size wr wx) : BrI w wx x ev ov B Bx Be n E t :=
  ⟨ownsRow_below h.net hb, h.edg.below hb, h.out.below hb, h.far, h.bel.trans (hb.mono h.bel.size), h.tab.keep hb, h.tpos, h.b1, h.b2, Nat.le_trans h.b3 hb.size⟩
/-- While an edge is cut. -/
structure BrC (w wr : World) (x ev ov : Value) (B Bx Be : Nat) (n : Nat) (E : Nat → Nat → Bool) (l : List (Nat × Nat)) (F : Nat → Nat → Bool) : Prop where
  net : wr.ownsRow Bx 64 1 x n ((indN n F).map u32v)
  edg : PrsO wr Be ev (edN n E n)
  out : PrsO wr B ov l
  far : ∀ b, ev.ownBlock = some b → ov.ownBlock ≠ some b
  bel : Below w.heap.size w wr
  tab : Tab wr
  tpos : 0 < w.heap.size
  b1 : w.heap.size ≤ B
  b2 : w.heap.size ≤ Bx
  b3 : B ≤ wr.heap.size
theorem BrC.next {w wr wx : World} {x ev ov : Value} {B Bx Be n : Nat} {E F : Nat → Nat → Bool} {l : List (Nat × Nat)} (h : BrC w wr x ev ov B Bx Be n E l F) (hb : Below wr.heap.size wr wx) : BrC w wx x ev ov B Bx Be n E l F :=
  ⟨ownsRow_below h.net hb, h.edg.below hb, h.out.below hb, h.far, h.bel.trans (hb.mono h.bel.size), h.tab.keep hb, h.tpos, h.b1, h.b2, Nat.le_trans h.b3 hb.size⟩
theorem BrC.turn {w wr wx : World} {x ev ov : Value} {B Bx Be n : Nat} {E F F' : Nat → Nat → Bool} {l : List (Nat × Nat)} (h : BrC w wr x ev ov B Bx Be n E l F) (ho : wx.ownsRow Bx 64 1 x n ((indN n F').map u32v)) (hg : wr.grownBy wx x.ownBlock) : BrC w wx x ev ov B Bx Be n E l F' :=
  ⟨ho, h.edg.otherT h.net hg, h.out.otherT h.net hg, h.far, below_grown h.bel h.net hg h.b2 h.bel.size, h.tab.grownP hg (fun e => by
    have e' : x.ownBlock = some 0 := e.symm
    have := (h.net.lt _ e').1
    have := h.b2
    have := h.tpos
    omega), h.tpos, h.b1, h.b2, Nat.le_trans h.b3 hg.size⟩
theorem BrC.put {w wr wx : World} {x ev ov rv : Value} {B Bx Be n b7 c7 : Nat} {E F : Nat → Nat → Bool} {l : List (Nat × Nat)} {e : Nat × Nat} {vals : List Value} (h : BrC w wr x ev ov B Bx Be n E l F) (hv : vals.length = l.length) (ho : wr.ownsRow B 32 1 ov l.length vals) (hr : ∀ j, j < l.length → Nums wr 2 .i64 (vals.getD j undef) (row (prsL l) j))
    (hn : Nums wr 2 .i64 rv [(e.1 : Int), (e.2 : Int)]) (ho' : wx.ownsRow B 32 1 (.slice (some ⟨b7, 0, none⟩) (l.length + 1) c7) (l.length + 1) (vals ++ [rv])) (hg : wr.grownBy wx ov.ownBlock) (hb7 : ov.ownBlock = some b7 ∨ wr.heap.size < b7) :
    BrC w wx x ev (.slice (some ⟨b7, 0, none⟩) (l.length + 1) c7) B Bx Be n E (l ++ [e]) F := by
  refine ⟨ownsRow_other h.net ho hg (by decide), h.edg.keptO ho hg h.far, PrsO.snoc hv ho hr ho' hg hn, fun b hb he => ?_, below_grown h.bel ho hg h.b1 h.bel.size, h.tab.grownP hg (fun e => by
    have e' : ov.ownBlock = some 0 := e.symm
    have := (ho.lt _ e').1
    have := h.b1
    have := h.tpos
    omega), h.tpos, h.b1, h.b2, Nat.le_trans h.b3 hg.size⟩
  have e2 : b7 = b := by simpa [Value.ownBlock] using he
  subst e2
  rcases hb7 with h7 | h7
  · exact h.far _ hb h7
  · obtain ⟨vals2, _, h2, _⟩ := h.edg
    have := (h2.lt _ hb).2
    omega

end Go.Proofs.YtfokiijcpkhllaaDoor

/- Walk: the program's EdgeParts. -/
namespace Go.Proofs.YtfokiijcpkhllaaDoor
open Go.RowKit

theorem mskL_lt {n : Nat} (hn : n ≤ 16) {ps : List (List Nat)} (h : ∀ l ∈ ps, l.Pairwise (· < ·) ∧ ∀ i ∈ l, i < n) : ∀ s ∈ mskL ps, s < 65536 := by
  intro s hs
  obtain ⟨l, hl, rfl⟩ := List.mem_map.1 hs
  exact mask_nat_lt16 fun i hi => by have := (h l hl).2 i hi; omega
theorem rowsOf_mskL {n : Nat} (hn : n ≤ 16) {ps : List (List Nat)} (h : ∀ l ∈ ps, l.Pairwise (· < ·) ∧ ∀ i ∈ l, i < n) : rowsOf (mskL ps) = ps.map natInts := by
  unfold rowsOf mskL
  rw [List.map_map]
  refine List.map_congr_left fun l hl => ?_
  show natInts (bitsOf (mask (natInts l))) = natInts l
  congr 1
  refine rising_ext _ _ (bitsOf_rising _) (h l hl).1 fun i => ?_
  rw [mem_left (mask_nat_lt16 fun i hi => by have := (h l hl).2 i hi; omega), mask_bit, decide_eq_true_eq]

/-- What the loop over the bridges carries. -/
structure EpI (w wr : World) (x ev : Value) (Bx Be n : Nat) (brs : List (Nat × Nat)) (F : Nat → Nat → Bool) : Prop where
  net : wr.ownsRow Bx 64 1 x n ((indN n F).map u32v)
  edg : PrsO wr Be ev brs
  bel : Below w.heap.size w wr
  tab : Tab wr
  tpos : 0 < w.heap.size
  b2 : w.heap.size ≤ Bx
theorem EpI.next {w wr wx : World} {x ev : Value} {Bx Be n : Nat} {brs : List (Nat × Nat)} {F : Nat → Nat → Bool} (h : EpI w wr x ev Bx Be n brs F) (hb : Below wr.heap.size wr wx) : EpI w wx x ev Bx Be n brs F :=
  ⟨ownsRow_below h.net hb, h.edg.below hb, h.bel.trans (hb.mono h.bel.size), h.tab.keep hb, h.tpos, h.b2⟩
theorem EpI.turn {w wr wx : World} {x ev : Value} {Bx Be n : Nat} {brs : List (Nat × Nat)} {F F' : Nat → Nat → Bool} (h : EpI w wr x ev Bx Be n brs F) (ho : wx.ownsRow Bx 64 1 x n ((indN n F').map u32v)) (hg : wr.grownBy wx x.ownBlock) : EpI w wx x ev Bx Be n brs F' :=
  ⟨ho, h.edg.otherT h.net hg, below_grown h.bel h.net hg h.b2 h.bel.size, h.tab.grownP hg (fun e => by
    have e' : x.ownBlock = some 0 := e.symm
    have := (h.net.lt _ e').1
    have := h.b2
    have := h.tpos
    omega), h.tpos, h.b2⟩

end Go.Proofs.YtfokiijcpkhllaaDoor

/- Walks: the program's cut vertices, what is between two, bridges. -/
namespace Go.Proofs.YtfokiijcpkhllaaDoor
open Go.RowKit

theorem bits_less {W v : Nat} (hW : W < 65536) (hv : v < 16) : bitsOf (sub W (2 ^ v)) = (bitsOf W).filter fun x => x != v := by
  have hp := pow_lt32 v (by omega)
  refine rising_ext _ _ (bitsOf_rising _) (List.Pairwise.filter _ (bitsOf_rising _)) fun j => ?_
  rw [mem_bitsOf' (sub_lt32 _ _ (by omega)), testBit_sub _ _ (by omega) hp, testBit_pow, List.mem_filter, mem_bitsOf' (by omega)]
  simp only [Bool.and_eq_true, Bool.not_eq_true', decide_eq_false_iff_not, bne_iff_ne]
  exact ⟨fun h => ⟨h.1, fun e => h.2 e.symm⟩, fun h => ⟨h.1, fun e => h.2 e.symm⟩⟩
theorem or_bit (m v i : Nat) : (m ||| 2 ^ v).testBit i = true ↔ m.testBit i = true ∨ i = v := by
  rw [Nat.testBit_or, testBit_pow, Bool.or_eq_true, decide_eq_true_eq]
  exact or_congr_right eq_comm

theorem own_shapeW {w : World} {base n : Nat} {E : TypeId} {v : Value} {xs : List Value} (h : w.ownsRow base E 1 v n xs) : ∃ p c, v = .slice p n c := by
  rcases h.2 with ⟨h1, h0⟩ | ⟨g, cap, cur, h1, _⟩
  · exact ⟨none, 0, by rw [h1, h0]⟩
  · exact ⟨_, _, h1⟩

theorem neOf {g : List (List Int)} (hok : GOk g) {w : World} {base : Nat} {x : Value} (h : w.ownsRow base 64 1 x g.length ((netL g).map u32v)) : NE w x g.length (ofG g) :=
  ⟨hok.le, by rw [indN_ofG hok]; exact Sl.of_owns h (by have := hok.le; omega)⟩

end Go.Proofs.YtfokiijcpkhllaaDoor
