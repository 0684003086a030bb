/- Walk: the reference's first prune of a vertex. -/
import Derived.Test.YtdkmnmnncccgaaaDoorMdQ24
namespace Go.Proofs.YtdkmnmnncccgaaaDoor
open Go.RowKit

/-- A block of three cells. -/
structure Box3 (w : World) (b : Nat) (T : TypeId) (x y z : Value) : Prop where
  blk : w.heap[b]? = some (.cells #[x, y, z] T (0, 0))
theorem Box3.cells {w : World} {b : Nat} {T : TypeId} {x y z : Value} (h : Box3 w b T x y z) : w.cell? ⟨b, 0, none⟩ = some x ∧ w.cell? ⟨b, 1, none⟩ = some y ∧ w.cell? ⟨b, 2, none⟩ = some z := by
  refine ⟨?_, ?_, ?_⟩ <;> (unfold World.cell?; rw [h.blk]; rfl)
theorem Box3.free {w : World} {b : Nat} {T : TypeId} {x y z : Value} (h : Box3 w b T x y z) (i : Nat) : w.frozen? ⟨b, i, none⟩ = false := by simp [World.frozen?, h.blk]
theorem Box3.lt {w : World} {b : Nat} {T : TypeId} {x y z : Value} (h : Box3 w b T x y z) : b < w.heap.size := lt_of_block h.blk
theorem Box3.new (w : World) (x y z : Value) (T : TypeId) : Box3 (w.alloc (.cells #[x, y, z] T)) w.heap.size T x y z := ⟨heap_alloc_new w _⟩
theorem Box3.below {w w' : World} {b : Nat} {T : TypeId} {x y z : Value} {B : Nat} (h : Box3 w b T x y z) (hb : Below B w w') (hB : b < B) : Box3 w' b T x y z := ⟨(hb.block b hB).trans h.blk⟩
theorem Box3.keep {w w' : World} {b : Nat} {T : TypeId} {x y z : Value} (h : Box3 w b T x y z) (hb : Below w.heap.size w w') : Box3 w' b T x y z := h.below hb h.lt
theorem Box3.set {w : World} {b : Nat} {T : TypeId} {x y z : Value} (h : Box3 w b T x y z) (p q r : Value) : Box3 (((w.setCell ⟨b, 0, none⟩ p).setCell ⟨b, 1, none⟩ q).setCell ⟨b, 2, none⟩ r) b T p q r := by
  constructor
  have h1 := heap_setCell_same w b 0 _ T p h.blk
  have h2 := heap_setCell_same _ b 1 _ T q h1
  have h3 := heap_setCell_same _ b 2 _ T r h2
  simpa using h3
theorem set3_belowP {B f : Nat} (w : World) (a b c : Value) (h : B ≤ f) : Below B w (((w.setCell ⟨f, 0, none⟩ a).setCell ⟨f, 1, none⟩ b).setCell ⟨f, 2, none⟩ c) :=
  (((Below.refl _ _).setCell h a).setCell h b).setCell h c

def prOut : Option Pr → Value
  | none => .agg #[.int .i64 0, .int .i64 0, .int .i64 0]
  | some p => .agg #[.int .i64 p.V, .int .i64 p.B, .int .i64 p.K]

/-- The three blocks with which the walk begins. -/
theorem at_start (w : World) (u V B K : Value) : ∃ W, W = ((w.alloc (.cells #[u] 29)).alloc (.cells #[.int .i64 0, .int .i64 0, .int .i64 0] 67)).alloc (.cells #[V, B, K] 67) ∧ Below w.heap.size w W ∧ w.heap.size + 3 ≤ W.heap.size ∧ Box W w.heap.size 29 u ∧
    Box3 W (w.heap.size + 1) 67 (.int .i64 0) (.int .i64 0) (.int .i64 0) ∧ Box3 W (w.heap.size + 1 + 1) 67 V B K := by
  refine ⟨_, rfl, below_alloc3 _ _ _ _, by rw [size_alloc, size_alloc, size_alloc]; omega, ((Box.new _ _ _).alloc _).alloc _, ?_, ?_⟩
  · have := (Box3.new (w.alloc (.cells #[u] 29)) (.int .i64 0) (.int .i64 0) (.int .i64 0) 67).keep (below_alloc _ (.cells #[V, B, K] 67))
    rw [size_alloc] at this
    exact this
  · have := Box3.new ((w.alloc (.cells #[u] 29)).alloc (.cells #[.int .i64 0, .int .i64 0, .int .i64 0] 67)) V B K 67
    rw [size_alloc, size_alloc] at this
    exact this

/-- What the loops of the walk carry. -/
structure AtI (w wr : World) (u : Value) : Prop where
  bel : Below w.heap.size w wr
  gb : Box wr w.heap.size 29 u
  res : Box3 wr (w.heap.size + 1) 67 (.int .i64 0) (.int .i64 0) (.int .i64 0)
  xb : ∃ a b c, Box3 wr (w.heap.size + 1 + 1) 67 a b c

theorem AtI.next {w wr wx : World} {u : Value} (h : AtI w wr u) (hb : Below wr.heap.size wr wx) : AtI w wx u := by
  obtain ⟨a, b, c, h4⟩ := h.xb
  exact ⟨h.bel.trans (hb.mono h.bel.size), h.gb.keep hb, h.res.keep hb, a, b, c, h4.keep hb⟩
theorem AtI.set {w wr : World} {u : Value} (h : AtI w wr u) (p q r : Value) : AtI w (((wr.setCell ⟨w.heap.size + 1 + 1, 0, none⟩ p).setCell ⟨w.heap.size + 1 + 1, 1, none⟩ q).setCell ⟨w.heap.size + 1 + 1, 2, none⟩ r) u := by
  obtain ⟨a, b, c, h4⟩ := h.xb
  have hs := set3_belowP (B := w.heap.size + 1 + 1) wr p q r (Nat.le_refl _)
  exact ⟨h.bel.trans (hs.mono (by omega)), h.gb.below hs (by omega), h.res.below hs (by omega), p, q, r, h4.set p q r⟩

theorem goP_none_step {g : List (List Int)} {L : List Int} {v K : Int} (hL : L.Pairwise (· < ·)) (h1 : 2 ≤ K) (h : ∀ j (hj : j < L.length), ¬ GoP g L v L[j] K) : ∀ b, ¬ GoP g L v b K := by
  intro b hb
  rcases id hb with ⟨e, _⟩ | ⟨hm, _⟩
  · omega
  · obtain ⟨j, hj, e⟩ := List.getElem_of_mem hm
    exact h j hj (by rw [e]; exact hb)
theorem goP_lt {g : List (List Int)} {L : List Int} {v K : Int} (hL : L.Pairwise (· < ·)) (h1 : 2 ≤ K) {t : Nat} (ht : t < L.length) (h : ∀ j (hj : j < L.length), j < t → ¬ GoP g L v L[j] K) : ∀ b, b < L[t] → ¬ GoP g L v b K := by
  intro b hb hgo
  rcases id hgo with ⟨e, _⟩ | ⟨hm, _⟩
  · omega
  · obtain ⟨j, hj, e⟩ := List.getElem_of_mem hm
    refine h j hj ?_ (by rw [e]; exact hgo)
    refine Classical.byContradiction fun hn => ?_
    rcases Nat.lt_or_ge t j with h2 | h2
    · have := List.pairwise_iff_getElem.1 hL t j ht hj h2
      omega
    · obtain rfl : t = j := by omega
      omega

/-- The call, where the reference asks it. -/
theorem l18Goes_any (v lv : Value) (g : List (List Int)) (L : List Int) (hok : GOk g) (hL : ∀ x ∈ L, 0 ≤ x ∧ x < g.length) (k : Nat) (hk : k < g.length) (hkL : (k : Int) ∈ L) (b K : Int) (hbL : b ∈ L) (h2 : 2 ≤ K) (h4 : K ≤ 4) (w : World) (hg : Gr w v g) (hn : Nums w 2 .i64 lv L) :
    Calls Tryd.prog 69 #[v, lv, .agg #[.int .i64 k, .int .i64 b, .int .i64 K]] w fun e w' => e = .returned (.bool (dec (GoP g L k b K))) ∧ Below w.heap.size w w' := by
  obtain ⟨hb0, hb1⟩ := hL b hbL
  obtain ⟨n, rfl⟩ : ∃ n : Nat, b = (n : Int) := ⟨b.toNat, (Int.toNat_of_nonneg hb0).symm⟩
  by_cases e : n = k
  · subst e
    exact l18Goes_self v lv g L hok n hk K h2 h4 w hg hn
  · have hK : K = 2 ∨ K = 3 ∨ K = 4 := by omega
    rcases hK with rfl | rfl | rfl
    · exact l18Goes_two v lv g L hok k n hk (by omega) hkL hbL e w hg hn
    · exact l18Goes_three v lv g L hok k n hk (by omega) hkL hbL e w hg hn
    · exact l18Goes_four v lv g L hok k n hk (by omega) hkL hbL e w hg hn

set_option maxRecDepth 100000 in
set_option maxHeartbeats 4000000 in
theorem l18At_any (v lv : Value) (g : List (List Int)) (L : List Int) (hok : GOk g) (hL : ∀ x ∈ L, 0 ≤ x ∧ x < g.length) (hri : L.Pairwise (· < ·)) (hll : L.length ≤ 16) (k : Nat) (hk : k < g.length) (hkL : (k : Int) ∈ L) (w : World) (hg : Gr w v g) (hn : Nums w 2 .i64 lv L) :
    Calls Tryd.prog 48 #[v, lv, .int .i64 k] w fun e w' => ∃ r, PrS g L k r ∧ e = .returned (.tuple #[prOut r, .bool r.isSome]) ∧ Below w.heap.size w w' := by
  have hg0 := hg
  obtain ⟨u, rfl, hr⟩ := hg
  obtain ⟨p, c, rfl, _⟩ := hr.shape
  obtain ⟨lp, lc, rfl, _⟩ := id hn.shape
  obtain ⟨W, hW, hb0, hsz, hgb, hres, hxb⟩ := at_start w (.slice p g.length c) (.int .i64 k) (.int .i64 (-1)) (.int .i64 1)
  have START := Lib.hid (show AtI w W (.slice p g.length c) from ⟨hb0, hgb, hres, _, _, _, hxb⟩)
  have HG := Lib.hid (hg0.below hb0)
  have HN := Lib.hid (hn.below hb0)
  have HG0 := Lib.hid hg0
  have HN0 := Lib.hid hn
  have HOK := Lib.hid hok
  have HL := Lib.hid hL
  have HRI := Lib.hid hri
  have HKL := Lib.hid hkL
  have HX := Lib.hid hxb
  have HW := Lib.hid hW
  have qg := hgb.cell
  obtain ⟨z0, z1, z2⟩ := hres.cells
  have zf := hres.free
  obtain ⟨x0, x1, x2⟩ := hxb.cells
  have xf := hxb.free
  clear hr hg0 hn hgb hres hok hL hri hkL hW hxb
  by_cases h1 : GoP g L k (-1) 1
  · have hd := dec_true h1
    have H1 := Lib.hid h1
    clear h1
    go_enter Tryd.func48, Tryd.ntmps48
    go_upto_region 2 with fail
    rw [← HW.out]
    go_wp2_with (go_at_call 69; refine (l18Goes_one _ _ g L HOK.out HL.out k hk _ HG.out HN.out).mono ?_; rintro e w2 ⟨he, hb2⟩; rw [hd] at he; subst he; obtain ⟨y0, y1, y2⟩ := (START.out.res.keep hb2).cells; have yf := (START.out.res.keep hb2).free; obtain ⟨v0, v1, v2⟩ := (HX.out.keep hb2).cells)
    obtain ⟨s0, s1, s2⟩ := ((START.out.res.keep hb2).set (.int .i64 k) (.int .i64 (-1)) (.int .i64 1)).cells
    refine bodyPost_ret (v := .tuple #[.agg #[.int .i64 k, .int .i64 (-1), .int .i64 1], .bool true]) (by simp [results, Tryd.results48, go_sem, s0, s1, s2]) rfl ⟨some ⟨k, -1, 1⟩, ⟨rfl, H1.out, ?_⟩, rfl, ?_⟩
    · rintro k' b (h | ⟨h, hb⟩) hgo
      · have := goP_kind hgo
        simp only at h
        omega
      · simp only at h hb
        rcases hgo with ⟨_, h2, _⟩ | ⟨hm, _⟩
        · omega
        · have := (HL.out _ hm).1
          omega
    · exact (START.out.bel.trans (hb2.mono START.out.bel.size)).trans ((set3_belowP (B := w.heap.size) _ _ _ _ (by omega)).mono (Nat.le_refl _))
  have hd := dec_false h1
  have H1 := Lib.hid h1
  clear h1
  go_enter Tryd.func48, Tryd.ntmps48
  go_upto_region 2 with fail
  rw [← HW.out]
  go_wp2_with (go_at_call 69; refine (l18Goes_one _ _ g L HOK.out HL.out k hk _ HG.out HN.out).mono ?_; rintro e w2 ⟨he, hb2⟩; rw [hd] at he; subst he)
  have START2 := Lib.hid (START.out.next hb2)
  have HBASE : Hid (∀ k' b, k' < 2 → ¬ GoP g L k b k') := Lib.hid (by
    intro k' b hlt h
    rcases id h with ⟨e1, e2, h3⟩ | ⟨_, _, h3⟩
    · subst e1; subst e2
      exact H1.out h
    · have := condP_kind h3; omega)
  clear hb2 qg z0 z1 z2 zf x0 x1 x2 xf hd H1
  go_loopw [9] (fun i wr => ∃ K : Int, 2 ≤ K ∧ K ≤ 5 ∧ i = .int .i64 K ∧ (∀ k' b, k' < K → ¬ GoP g L k b k') ∧ AtI w wr (.slice p g.length c)) (fun i _ => (5 - intOf i).toNat)
  case atStart => exact ⟨2, by omega, by omega, rfl, HBASE.out, START2.out⟩
  case round =>
    obtain ⟨K, hK2, hK5, rfl, hno, hI⟩ := hrel
    have HNO := Lib.hid hno
    have HI := Lib.hid hI
    clear hno hI
    by_cases hK : K ≤ 4
    · go_wp2_with fail
      go_loopw [10] (fun i wx => ∃ t : Nat, t ≤ L.length ∧ i = .int .i64 t ∧ (∀ j (hj : j < L.length), j < t → ¬ GoP g L k L[j] K) ∧ AtI w wx (.slice p g.length c)) (fun i _ => L.length - (intOf i).toNat)
      case atStart => exact ⟨0, Nat.zero_le _, rfl, fun j _ h => by omega, HI.out⟩
      case round =>
        obtain ⟨t, ht, rfl, hno, hI⟩ := hrel
        have HNO2 := Lib.hid hno
        have HI2 := Lib.hid hI
        clear hno HI
        by_cases hlt : t < L.length
        · obtain ⟨rb, ro, rfl, hcx⟩ := (HN0.out.below hI.bel).get hlt
          obtain ⟨a0, a1, a2, h4⟩ := hI.xb
          obtain ⟨x0, x1, x2⟩ := h4.cells
          have xf := h4.free
          have hXL := List.getElem_mem hlt
          have HLT := Lib.hid (goP_lt HRI.out hK2 hlt HNO2.out)
          have HX4 := Lib.hid h4
          clear hI h4
          go_upto_region 11 with fail
          obtain ⟨W3, hW3⟩ : ∃ W3, W3 = ((wr.setCell ⟨w.heap.size + 1 + 1, 0, none⟩ (.int .i64 k)).setCell ⟨w.heap.size + 1 + 1, 1, none⟩ (.int .i64 L[t])).setCell ⟨w.heap.size + 1 + 1, 2, none⟩ (.int .i64 K) := ⟨_, rfl⟩
          rw [← hW3]
          have hI3 : AtI w W3 (.slice p g.length c) := by rw [hW3]; exact HI2.out.set _ _ _
          have h43 : Box3 W3 (w.heap.size + 1 + 1) 67 (.int .i64 k) (.int .i64 L[t]) (.int .i64 K) := by rw [hW3]; exact HX4.out.set _ _ _
          have q3 := hI3.gb.cell
          obtain ⟨y0, y1, y2⟩ := h43.cells
          have HI3 := Lib.hid hI3
          have H43 := Lib.hid h43
          clear hW3 hI3 h43 x0 x1 x2 xf hcx HX4
          have HXL := Lib.hid hXL
          clear hXL
          by_cases hgo : GoP g L k L[t] K
          · have hd := dec_true hgo
            have HGO := Lib.hid hgo
            clear hgo
            go_wp2_with (go_at_call 69; refine (l18Goes_any _ _ g L HOK.out HL.out k hk HKL.out _ K HXL.out hK2 hK _ (HG0.out.below HI3.out.bel) (HN0.out.below HI3.out.bel)).mono ?_; rintro e w4 ⟨he, hb4⟩; rw [hd] at he; subst he; obtain ⟨v0, v1, v2⟩ := (H43.out.keep hb4).cells; obtain ⟨r0, r1, r2⟩ := (HI3.out.res.keep hb4).cells; have rf := (HI3.out.res.keep hb4).free)
            obtain ⟨s0, s1, s2⟩ := ((HI3.out.res.keep hb4).set (.int .i64 k) (.int .i64 L[t]) (.int .i64 K)).cells
            refine bodyPost_ret (v := .tuple #[.agg #[.int .i64 k, .int .i64 L[t], .int .i64 K], .bool true]) (by simp [results, Tryd.results48, go_sem, s0, s1, s2]) rfl ⟨some ⟨k, L[t], K⟩, ⟨rfl, HGO.out, ?_⟩, rfl, ?_⟩
            · rintro k' b (h | ⟨h, hb⟩)
              · exact HNO.out k' b h
              · simp only at h hb
                subst h
                exact HLT.out b hb
            · exact (HI3.out.bel.trans (hb4.mono HI3.out.bel.size)).trans ((set3_belowP (B := w.heap.size) _ _ _ _ (by omega)).mono (Nat.le_refl _))
          · have hd := dec_false hgo
            have HGO := Lib.hid hgo
            clear hgo
            go_wp2_with (go_at_call 69; refine (l18Goes_any _ _ g L HOK.out HL.out k hk HKL.out _ K HXL.out hK2 hK _ (HG0.out.below HI3.out.bel) (HN0.out.below HI3.out.bel)).mono ?_; rintro e w4 ⟨he, hb4⟩; rw [hd] at he; subst he)
            go_roundw
            case rel =>
              refine ⟨t + 1, by omega, by go_num, fun j hj h => ?_, HI3.out.next hb4⟩
              by_cases e : j = t
              · subst e; exact HGO.out
              · exact HNO2.out j hj (by omega)
            case measure => simp [intOf]; omega
        · obtain rfl : t = L.length := by omega
          clear hI
          have HST := Lib.hid (goP_none_step HRI.out hK2 (fun j hj => HNO2.out j hj hj))
          go_wp2
          go_roundw
          case rel =>
            refine ⟨K + 1, by omega, by omega, by go_num, fun k' b h => ?_, HI2.out⟩
            by_cases e : k' = K
            · subst e; exact HST.out b
            · exact HNO.out k' b (by omega)
          case measure => simp [intOf]; omega
    · obtain rfl : K = 5 := by omega
      obtain ⟨r0, r1, r2⟩ := HI.out.res.cells
      have rf := HI.out.res.free
      go_wp2
      obtain ⟨s0, s1, s2⟩ := (HI.out.res.set (.int .i64 0) (.int .i64 0) (.int .i64 0)).cells
      refine bodyPost_ret (v := .tuple #[.agg #[.int .i64 0, .int .i64 0, .int .i64 0], .bool false]) (by simp [results, Tryd.results48, go_sem, s0, s1, s2]) rfl ⟨none, fun k' b hgo => ?_, rfl, ?_⟩
      · have := goP_kind hgo
        exact HNO.out k' b (by omega) hgo
      · exact HI.out.bel.trans ((set3_belowP (B := w.heap.size) _ _ _ _ (by omega)).mono (Nat.le_refl _))

end Go.Proofs.YtdkmnmnncccgaaaDoor
