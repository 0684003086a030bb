/- Walk: the reference's first prune of a vertex. -/
import Derived.Test.YtfokiijcpkhllaaDoorDsQ32
import Derived.Test.YtfokiijcpkhllaaDoorDsQ6
import Derived.Test.YtfokiijcpkhllaaDoorDsQ3
namespace Go.Proofs.YtfokiijcpkhllaaDoor
open Go.RowKit

/-- A block of three cells. -/
structure Box3 (w : World) (b : Nat) (T : TypeId) (x y z : Value) : Prop where
  blk : w.heap[b]? = some (.cells #[x, y, z] T (0, 0))
theorem Box3.cells {w : World} {b : Nat} {T : TypeId} {x y z : Value} (h : Box3 w b T x y z) : w.cell? ⟨b, 0, none⟩ = some x ∧ w.cell? ⟨b, 1, none⟩ = some y ∧ w.cell? ⟨b, 2, none⟩ = some z := by
  refine ⟨?_, ?_, ?_⟩ <;> (unfold World.cell?; rw [h.blk]; rfl)
theorem Box3.free {w : World} {b : Nat} {T : TypeId} {x y z : Value} (h : Box3 w b T x y z) (i : Nat) : w.frozen? ⟨b, i, none⟩ = false := by simp [World.frozen?, h.blk]
theorem Box3.lt {w : World} {b : Nat} {T : TypeId} {x y z : Value} (h : Box3 w b T x y z) : b < w.heap.size := lt_of_block h.blk
theorem Box3.new (w : World) (x y z : Value) (T : TypeId) : Box3 (w.alloc (.cells #[x, y, z] T)) w.heap.size T x y z := ⟨heap_alloc_new w _⟩
theorem Box3.below {w w' : World} {b : Nat} {T : TypeId} {x y z : Value} {B : Nat} (h : Box3 w b T x y z) (hb : Below B w w') (hB : b < B) : Box3 w' b T x y z := ⟨(hb.block b hB).trans h.blk⟩
theorem Box3.keep {w w' : World} {b : Nat} {T : TypeId} {x y z : Value} (h : Box3 w b T x y z) (hb : Below w.heap.size w w') : Box3 w' b T x y z := h.below hb h.lt
theorem Box3.set {w : World} {b : Nat} {T : TypeId} {x y z : Value} (h : Box3 w b T x y z) (p q r : Value) : Box3 (((w.setCell ⟨b, 0, none⟩ p).setCell ⟨b, 1, none⟩ q).setCell ⟨b, 2, none⟩ r) b T p q r := by
  constructor
  have h1 := heap_setCell_same w b 0 _ T p h.blk
  have h2 := heap_setCell_same _ b 1 _ T q h1
  have h3 := heap_setCell_same _ b 2 _ T r h2
  simpa using h3
theorem set3_belowP {B f : Nat} (w : World) (a b c : Value) (h : B ≤ f) : Below B w (((w.setCell ⟨f, 0, none⟩ a).setCell ⟨f, 1, none⟩ b).setCell ⟨f, 2, none⟩ c) :=
  (((Below.refl _ _).setCell h a).setCell h b).setCell h c

def prOut : Option Pr → Value
  | none => .agg #[.int .i64 0, .int .i64 0, .int .i64 0]
  | some p => .agg #[.int .i64 p.V, .int .i64 p.B, .int .i64 p.K]

/-- The three blocks with which the walk begins. -/
theorem at_start (w : World) (u V B K : Value) : ∃ W, W = ((w.alloc (.cells #[u] 29)).alloc (.cells #[.int .i64 0, .int .i64 0, .int .i64 0] 129)).alloc (.cells #[V, B, K] 129) ∧ Below w.heap.size w W ∧ w.heap.size + 3 ≤ W.heap.size ∧ Box W w.heap.size 29 u ∧
    Box3 W (w.heap.size + 1) 129 (.int .i64 0) (.int .i64 0) (.int .i64 0) ∧ Box3 W (w.heap.size + 1 + 1) 129 V B K := by
  refine ⟨_, rfl, below_alloc3 _ _ _ _, by rw [size_alloc, size_alloc, size_alloc]; omega, ((Box.new _ _ _).alloc _).alloc _, ?_, ?_⟩
  · have := (Box3.new (w.alloc (.cells #[u] 29)) (.int .i64 0) (.int .i64 0) (.int .i64 0) 129).keep (below_alloc _ (.cells #[V, B, K] 129))
    rw [size_alloc] at this
    exact this
  · have := Box3.new ((w.alloc (.cells #[u] 29)).alloc (.cells #[.int .i64 0, .int .i64 0, .int .i64 0] 129)) V B K 129
    rw [size_alloc, size_alloc] at this
    exact this

/-- What the loops of the walk carry. -/
structure AtI (w wr : World) (u : Value) : Prop where
  bel : Below w.heap.size w wr
  gb : Box wr w.heap.size 29 u
  res : Box3 wr (w.heap.size + 1) 129 (.int .i64 0) (.int .i64 0) (.int .i64 0)
  xb : ∃ a b c, Box3 wr (w.heap.size + 1 + 1) 129 a b c

theorem AtI.next {w wr wx : World} {u : Value} (h : AtI w wr u) (hb : Below wr.heap.size wr wx) : AtI w wx u := by
  obtain ⟨a, b, c, h4⟩ := h.xb
  exact ⟨h.bel.trans (hb.mono h.bel.size), h.gb.keep hb, h.res.keep hb, a, b, c, h4.keep hb⟩
theorem AtI.set {w wr : World} {u : Value} (h : AtI w wr u) (p q r : Value) : AtI w (((wr.setCell ⟨w.heap.size + 1 + 1, 0, none⟩ p).setCell ⟨w.heap.size + 1 + 1, 1, none⟩ q).setCell ⟨w.heap.size + 1 + 1, 2, none⟩ r) u := by
  obtain ⟨a, b, c, h4⟩ := h.xb
  have hs := set3_belowP (B := w.heap.size + 1 + 1) wr p q r (Nat.le_refl _)
  exact ⟨h.bel.trans (hs.mono (by omega)), h.gb.below hs (by omega), h.res.below hs (by omega), p, q, r, h4.set p q r⟩

theorem goP_none_step {g : List (List Int)} {L : List Int} {v K : Int} (hL : L.Pairwise (· < ·)) (h1 : 2 ≤ K) (h : ∀ j (hj : j < L.length), ¬ GoP g L v L[j] K) : ∀ b, ¬ GoP g L v b K := by
  intro b hb
  rcases id hb with ⟨e, _⟩ | ⟨hm, _⟩
  · omega
  · obtain ⟨j, hj, e⟩ := List.getElem_of_mem hm
    exact h j hj (by rw [e]; exact hb)
theorem goP_lt {g : List (List Int)} {L : List Int} {v K : Int} (hL : L.Pairwise (· < ·)) (h1 : 2 ≤ K) {t : Nat} (ht : t < L.length) (h : ∀ j (hj : j < L.length), j < t → ¬ GoP g L v L[j] K) : ∀ b, b < L[t] → ¬ GoP g L v b K := by
  intro b hb hgo
  rcases id hgo with ⟨e, _⟩ | ⟨hm, _⟩
  · omega
  · obtain ⟨j, hj, e⟩ := List.getElem_of_mem hm
    refine h j hj ?_ (by rw [e]; exact hgo)
    refine Classical.byContradiction fun hn => ?_
    rcases Nat.lt_or_ge t j with h2 | h2
    · have := List.pairwise_iff_getElem.1 hL t j ht hj h2
      omega
    · obtain rfl : t = j := by omega
      omega

/-- The call, where the reference asks it. -/
theorem l18Goes_any (v lv : Value) (g : List (List Int)) (L : List Int) (hok : GOk g) (hL : ∀ x ∈ L, 0 ≤ x ∧ x < g.length) (k : Nat) (hk : k < g.length) (hkL : (k : Int) ∈ L) (b K : Int) (hbL : b ∈ L) (h2 : 2 ≤ K) (h4 : K ≤ 4) (w : World) (hg : Gr w v g) (hn : Nums w 2 .i64 lv L) :
    Calls Tryd.prog 140 #[v, lv, .agg #[.int .i64 k, .int .i64 b, .int .i64 K]] w fun e w' => e = .returned (.bool (dec (GoP g L k b K))) ∧ Below w.heap.size w w' := by
  obtain ⟨hb0, hb1⟩ := hL b hbL
  obtain ⟨n, rfl⟩ : ∃ n : Nat, b = (n : Int) := ⟨b.toNat, (Int.toNat_of_nonneg hb0).symm⟩
  by_cases e : n = k
  · subst e
    exact l18Goes_self v lv g L hok n hk K h2 h4 w hg hn
  · have hK : K = 2 ∨ K = 3 ∨ K = 4 := by omega
    rcases hK with rfl | rfl | rfl
    · exact l18Goes_two v lv g L hok k n hk (by omega) hkL hbL e w hg hn
    · exact l18Goes_three v lv g L hok k n hk (by omega) hkL hbL e w hg hn
    · exact l18Goes_four v lv g L hok k n hk (by omega) hkL hbL e w hg hn

set_option maxRecDepth 100000 in
set_option maxHeartbeats 4000000 in
theorem l18At_any (v lv : Value) (g : List (List Int)) (L : List Int) (hok : GOk g) (hL : ∀ x ∈ L, 0 ≤ x ∧ x < g.length) (hri : L.Pairwise (· < ·)) (hll : L.length ≤ 16) (k : Nat) (hk : k < g.length) (hkL : (k : Int) ∈ L) (w : World) (hg : Gr w v g) (hn : Nums w 2 .i64 lv L) :
    Calls Tryd.prog 117 #[v, lv, .int .i64 k] w fun e w' => ∃ r, PrS g L k r ∧ e = .returned (.tuple #[prOut r, .bool r.isSome]) ∧ Below w.heap.size w w' := by
  have hg0 := hg
  obtain ⟨u, rfl, hr⟩ := hg
  obtain ⟨p, c, rfl, _⟩ := hr.shape
  obtain ⟨lp, lc, rfl, _⟩ := id hn.shape
  obtain ⟨W, hW, hb0, hsz, hgb, hres, hxb⟩ := at_start w (.slice p g.length c) (.int .i64 k) (.int .i64 (-1)) (.int .i64 1)
  have START := Lib.hid (show AtI w W (.slice p g.length c) from ⟨hb0, hgb, hres, _, _, _, hxb⟩)
  have HG := Lib.hid (hg0.below hb0)
  have HN := Lib.hid (hn.below hb0)
  have HG0 := Lib.hid hg0
  have HN0 := Lib.hid hn
  have HOK := Lib.hid hok
  have HL := Lib.hid hL
  have HRI := Lib.hid hri
  have HKL := Lib.hid hkL
  have HX := Lib.hid hxb
  have HW := Lib.hid hW
  have qg := hgb.cell
  obtain ⟨z0, z1, z2⟩ := hres.cells
  have zf := hres.free
  obtain ⟨x0, x1, x2⟩ := hxb.cells
  have xf := hxb.free
  clear hr hg0 hn hgb hres hok hL hri hkL hW hxb
  by_cases h1 : GoP g L k (-1) 1
  · have hd := dec_true h1
    have H1 := Lib.hid h1
    clear h1
    go_enter Tryd.func117, Tryd.ntmps117
    go_upto_region 2 with fail
    rw [← HW.out]
    go_wp2_with (go_at_call 140; refine (l18Goes_one _ _ g L HOK.out HL.out k hk _ HG.out HN.out).mono ?_; rintro e w2 ⟨he, hb2⟩; rw [hd] at he; subst he; obtain ⟨y0, y1, y2⟩ := (START.out.res.keep hb2).cells; have yf := (START.out.res.keep hb2).free; obtain ⟨v0, v1, v2⟩ := (HX.out.keep hb2).cells)
    obtain ⟨s0, s1, s2⟩ := ((START.out.res.keep hb2).set (.int .i64 k) (.int .i64 (-1)) (.int .i64 1)).cells
    refine bodyPost_ret (v := .tuple #[.agg #[.int .i64 k, .int .i64 (-1), .int .i64 1], .bool true]) (by simp [results, Tryd.results117, go_sem, s0, s1, s2]) rfl ⟨some ⟨k, -1, 1⟩, ⟨rfl, H1.out, ?_⟩, rfl, ?_⟩
    · rintro k' b (h | ⟨h, hb⟩) hgo
      · have := goP_kind hgo
        simp only at h
        omega
      · simp only at h hb
        rcases hgo with ⟨_, h2, _⟩ | ⟨hm, _⟩
        · omega
        · have := (HL.out _ hm).1
          omega
    · exact (START.out.bel.trans (hb2.mono START.out.bel.size)).trans ((set3_belowP (B := w.heap.size) _ _ _ _ (by omega)).mono (Nat.le_refl _))
  have hd := dec_false h1
  have H1 := Lib.hid h1
  clear h1
  go_enter Tryd.func117, Tryd.ntmps117
  go_upto_region 2 with fail
  rw [← HW.out]
  go_wp2_with (go_at_call 140; refine (l18Goes_one _ _ g L HOK.out HL.out k hk _ HG.out HN.out).mono ?_; rintro e w2 ⟨he, hb2⟩; rw [hd] at he; subst he)
  have START2 := Lib.hid (START.out.next hb2)
  have HBASE : Hid (∀ k' b, k' < 2 → ¬ GoP g L k b k') := Lib.hid (by
    intro k' b hlt h
    rcases id h with ⟨e1, e2, h3⟩ | ⟨_, _, h3⟩
    · subst e1; subst e2
      exact H1.out h
    · have := condP_kind h3; omega)
  clear hb2 qg z0 z1 z2 zf x0 x1 x2 xf hd H1
  go_loopw [9] (fun i wr => ∃ K : Int, 2 ≤ K ∧ K ≤ 5 ∧ i = .int .i64 K ∧ (∀ k' b, k' < K → ¬ GoP g L k b k') ∧ AtI w wr (.slice p g.length c)) (fun i _ => (5 - intOf i).toNat)
  case atStart => exact ⟨2, by omega, by omega, rfl, HBASE.out, START2.out⟩
  case round =>
    obtain ⟨K, hK2, hK5, rfl, hno, hI⟩ := hrel
    have HNO := Lib.hid hno
    have HI := Lib.hid hI
    clear hno hI
    by_cases hK : K ≤ 4
    · go_wp2_with fail
      go_loopw [10] (fun i wx => ∃ t : Nat, t ≤ L.length ∧ i = .int .i64 t ∧ (∀ j (hj : j < L.length), j < t → ¬ GoP g L k L[j] K) ∧ AtI w wx (.slice p g.length c)) (fun i _ => L.length - (intOf i).toNat)
      case atStart => exact ⟨0, Nat.zero_le _, rfl, fun j _ h => by omega, HI.out⟩
      case round =>
        obtain ⟨t, ht, rfl, hno, hI⟩ := hrel
        have HNO2 := Lib.hid hno
        have HI2 := Lib.hid hI
        clear hno HI
        by_cases hlt : t < L.length
        · obtain ⟨rb, ro, rfl, hcx⟩ := (HN0.out.below hI.bel).get hlt
          obtain ⟨a0, a1, a2, h4⟩ := hI.xb
          obtain ⟨x0, x1, x2⟩ := h4.cells
          have xf := h4.free
          have hXL := List.getElem_mem hlt
          have HLT := Lib.hid (goP_lt HRI.out hK2 hlt HNO2.out)
          have HX4 := Lib.hid h4
          clear hI h4
          go_upto_region 11 with fail
          obtain ⟨W3, hW3⟩ : ∃ W3, W3 = ((wr.setCell ⟨w.heap.size + 1 + 1, 0, none⟩ (.int .i64 k)).setCell ⟨w.heap.size + 1 + 1, 1, none⟩ (.int .i64 L[t])).setCell ⟨w.heap.size + 1 + 1, 2, none⟩ (.int .i64 K) := ⟨_, rfl⟩
          rw [← hW3]
          have hI3 : AtI w W3 (.slice p g.length c) := by rw [hW3]; exact HI2.out.set _ _ _
          have h43 : Box3 W3 (w.heap.size + 1 + 1) 129 (.int .i64 k) (.int .i64 L[t]) (.int .i64 K) := by rw [hW3]; exact HX4.out.set _ _ _
          have q3 := hI3.gb.cell
          obtain ⟨y0, y1, y2⟩ := h43.cells
          have HI3 := Lib.hid hI3
          have H43 := Lib.hid h43
          clear hW3 hI3 h43 x0 x1 x2 xf hcx HX4
          have HXL := Lib.hid hXL
          clear hXL
          by_cases hgo : GoP g L k L[t] K
          · have hd := dec_true hgo
            have HGO := Lib.hid hgo
            clear hgo
            go_wp2_with (go_at_call 140; refine (l18Goes_any _ _ g L HOK.out HL.out k hk HKL.out _ K HXL.out hK2 hK _ (HG0.out.below HI3.out.bel) (HN0.out.below HI3.out.bel)).mono ?_; rintro e w4 ⟨he, hb4⟩; rw [hd] at he; subst he; obtain ⟨v0, v1, v2⟩ := (H43.out.keep hb4).cells; obtain ⟨r0, r1, r2⟩ := (HI3.out.res.keep hb4).cells; have rf := (HI3.out.res.keep hb4).free)
            obtain ⟨s0, s1, s2⟩ := ((HI3.out.res.keep hb4).set (.int .i64 k) (.int .i64 L[t]) (.int .i64 K)).cells
            refine bodyPost_ret (v := .tuple #[.agg #[.int .i64 k, .int .i64 L[t], .int .i64 K], .bool true]) (by simp [results, Tryd.results117, go_sem, s0, s1, s2]) rfl ⟨some ⟨k, L[t], K⟩, ⟨rfl, HGO.out, ?_⟩, rfl, ?_⟩
            · rintro k' b (h | ⟨h, hb⟩)
              · exact HNO.out k' b h
              · simp only at h hb
                subst h
                exact HLT.out b hb
            · exact (HI3.out.bel.trans (hb4.mono HI3.out.bel.size)).trans ((set3_belowP (B := w.heap.size) _ _ _ _ (by omega)).mono (Nat.le_refl _))
          · have hd := dec_false hgo
            have HGO := Lib.hid hgo
            clear hgo
            go_wp2_with (go_at_call 140; refine (l18Goes_any _ _ g L HOK.out HL.out k hk HKL.out _ K HXL.out hK2 hK _ (HG0.out.below HI3.out.bel) (HN0.out.below HI3.out.bel)).mono ?_; rintro e w4 ⟨he, hb4⟩; rw [hd] at he; subst he)
            go_roundw
            case rel =>
              refine ⟨t + 1, by omega, by go_num, fun j hj h => ?_, HI3.out.next hb4⟩
              by_cases e : j = t
              · subst e; exact HGO.out
              · exact HNO2.out j hj (by omega)
            case measure => simp [intOf]; omega
        · obtain rfl : t = L.length := by omega
          clear hI
          have HST := Lib.hid (goP_none_step HRI.out hK2 (fun j hj => HNO2.out j hj hj))
          go_wp2
          go_roundw
          case rel =>
            refine ⟨K + 1, by omega, by omega, by go_num, fun k' b h => ?_, HI2.out⟩
            by_cases e : k' = K
            · subst e; exact HST.out b
            · exact HNO.out k' b (by omega)
          case measure => simp [intOf]; omega
    · obtain rfl : K = 5 := by omega
      obtain ⟨r0, r1, r2⟩ := HI.out.res.cells
      have rf := HI.out.res.free
      go_wp2
      obtain ⟨s0, s1, s2⟩ := (HI.out.res.set (.int .i64 0) (.int .i64 0) (.int .i64 0)).cells
      refine bodyPost_ret (v := .tuple #[.agg #[.int .i64 0, .int .i64 0, .int .i64 0], .bool false]) (by simp [results, Tryd.results117, go_sem, s0, s1, s2]) rfl ⟨none, fun k' b hgo => ?_, rfl, ?_⟩
      · have := goP_kind hgo
        exact HNO.out k' b (by omega) hgo
      · exact HI.out.bel.trans ((set3_belowP (B := w.heap.size) _ _ _ _ (by omega)).mono (Nat.le_refl _))

end Go.Proofs.YtfokiijcpkhllaaDoor

/- Rows of prunes: what a slice of them reads as. -/
namespace Go.Proofs.YtfokiijcpkhllaaDoor
open Go.RowKit

theorem ty_prunes : SlTy Tryd.prog 57 129 (.agg #[.int .i64 0, .int .i64 0, .int .i64 0]) 3 24 := ⟨Tryd.underlying57, by kernel_rfl, rfl, by decide, by decide⟩

/-- The cells of some prunes. -/
def prCells (l : List Pr) : List Value := l.flatMap fun f => [.int .i64 f.V, .int .i64 f.B, .int .i64 f.K]
theorem prCells_snoc (l : List Pr) (f : Pr) : prCells (l ++ [f]) = prCells l ++ [.int .i64 f.V, .int .i64 f.B, .int .i64 f.K] := by simp [prCells]
theorem prCells_length (l : List Pr) : (prCells l).length = l.length * 3 := by
  induction l with
  | nil => rfl
  | cons f l ih => simp only [prCells, List.flatMap_cons, List.length_append, List.length_cons, List.length_nil] at ih ⊢; omega


/-- v reads as the prunes fs. -/
def Prs (w : World) (v : Value) (fs : List Pr) : Prop := Sl w 129 v fs.length (prCells fs)
theorem prCells_get (fs : List Pr) : ∀ {k : Nat} (hk : k < fs.length), (prCells fs)[k * 3]? = some (.int .i64 fs[k].V) ∧ (prCells fs)[k * 3 + 1]? = some (.int .i64 fs[k].B) ∧ (prCells fs)[k * 3 + 2]? = some (.int .i64 fs[k].K) := by
  induction fs with
  | nil => intro k hk; simp at hk
  | cons f fs ih =>
    intro k hk
    have e : prCells (f :: fs) = .int .i64 f.V :: .int .i64 f.B :: .int .i64 f.K :: prCells fs := rfl
    rw [e]
    cases k with
    | zero => exact ⟨rfl, rfl, rfl⟩
    | succ k =>
      obtain ⟨h1, h2, h3⟩ := ih (k := k) (by simpa using hk)
      rw [show (k + 1) * 3 = k * 3 + 1 + 1 + 1 by omega, show k * 3 + 1 + 1 + 1 + 1 = k * 3 + 1 + 1 + 1 + 1 from rfl, show k * 3 + 1 + 1 + 1 + 2 = k * 3 + 2 + 1 + 1 + 1 by omega]
      simp only [List.getElem?_cons_succ, List.getElem_cons_succ]
      exact ⟨h1, h2, h3⟩
theorem Prs.of_owns {w : World} {base : Nat} {v : Value} {fs : List Pr} (h : w.ownsRow base 129 3 v fs.length (prCells fs)) (hn : fs.length ≤ 1000) : Prs w v fs := Sl.of_owns h (by omega)
theorem Prs.below {w w' : World} {v : Value} {fs : List Pr} (h : Prs w v fs) (hb : Below w.heap.size w w') : Prs w' v fs := Sl.below h hb
theorem Prs.shape {w : World} {v : Value} {fs : List Pr} (h : Prs w v fs) : ∃ p c, v = .slice p fs.length c ∧ (p = none → fs.length = 0 ∧ c = 0) ∧ fs.length ≤ c ∧ fs.length ≤ 1000000000 ∧ At w 129 p (prCells fs) := h
theorem At.prune {w : World} {p : Option Addr} {fs : List Pr} (h : At w 129 p (prCells fs)) {k : Nat} (hk : k < fs.length) :
    ∃ b o, p = some ⟨b, o, none⟩ ∧ w.cell? ⟨b, o + k * 3, none⟩ = some (.int .i64 fs[k].V) ∧ w.cell? ⟨b, o + k * 3 + 1, none⟩ = some (.int .i64 fs[k].B) ∧ w.cell? ⟨b, o + k * 3 + 2, none⟩ = some (.int .i64 fs[k].K) := by
  obtain ⟨b, o, h1, h2⟩ := h.cells (k := k) (by rw [prCells_length]; omega)
  obtain ⟨e1, e2, e3⟩ := prCells_get fs hk
  exact ⟨b, o, h1, h2 _ _ e1, by rw [Nat.add_assoc]; exact h2 _ _ e2, by rw [Nat.add_assoc]; exact h2 _ _ e3⟩


end Go.Proofs.YtfokiijcpkhllaaDoor

/- Walks: the reference prunes. -/
namespace Go.Proofs.YtfokiijcpkhllaaDoor
open Go.RowKit

theorem exists_min {P : Int → Prop} {lo : Int} (hlo : ∀ b, P b → lo ≤ b) : ∀ (n : Nat), (∃ b, P b ∧ (b - lo).toNat ≤ n) → ∃ b, P b ∧ ∀ c, c < b → ¬ P c
  | 0, ⟨b, hb, hn⟩ => ⟨b, hb, fun c hc h => by have := hlo c h; have := hlo b hb; omega⟩
  | n + 1, ⟨b, hb, hn⟩ => by
    by_cases h : ∃ c, c < b ∧ P c
    · obtain ⟨c, hc, hp⟩ := h
      exact exists_min hlo n ⟨c, hp, by have := hlo c hp; have := hlo b hb; omega⟩
    · exact ⟨b, hb, fun c hc hp => h ⟨c, hc, hp⟩⟩
theorem prS_ex {g : List (List Int)} {L : List Int} {v : Int} (hL : ∀ x ∈ L, 0 ≤ x) : ∃ r, PrS g L v r := by
  by_cases h : ∃ k b, GoP g L v b k
  · obtain ⟨k0, b0, h0⟩ := h
    obtain ⟨k, ⟨b1, hb1⟩, hk⟩ := exists_min (P := fun k => ∃ b, GoP g L v b k) (lo := 1) (fun k ⟨b, hb⟩ => (goP_kind hb).1) _ ⟨k0, ⟨b0, h0⟩, Nat.le_refl _⟩
    obtain ⟨b, hb, hbm⟩ := exists_min (P := fun b => GoP g L v b k) (lo := -1) (fun b hb => by
      rcases hb with ⟨_, h, _⟩ | ⟨h, _⟩
      · omega
      · have := hL b h; omega) _ ⟨b1, hb1, Nat.le_refl _⟩
    refine ⟨some ⟨v, b, k⟩, rfl, hb, ?_⟩
    rintro k' b' (h | ⟨h, h2⟩) hgo
    · exact hk k' h ⟨b', hgo⟩
    · simp only at h h2
      subst h
      exact hbm b' h2 hgo
  · exact ⟨none, fun k b hb => h ⟨k, b, hb⟩⟩

theorem l18At_yes (v lv : Value) (g : List (List Int)) (L : List Int) (hok : GOk g) (hL : ∀ x ∈ L, 0 ≤ x ∧ x < g.length) (hri : L.Pairwise (· < ·)) (hll : L.length ≤ 16) (k : Nat) (hk : k < g.length) (hkL : (k : Int) ∈ L) (w : World) (hg : Gr w v g) (hn : Nums w 2 .i64 lv L) {V B K : Int} (hr : PrS g L k (some ⟨V, B, K⟩)) :
    Calls Tryd.prog 117 #[v, lv, .int .i64 k] w fun e w' => e = .returned (.tuple #[.agg #[.int .i64 V, .int .i64 B, .int .i64 K], .bool true]) ∧ Below w.heap.size w w' :=
  (l18At_any v lv g L hok hL hri hll k hk hkL w hg hn).mono fun e w' ⟨r, h1, h2, h3⟩ => by
    obtain rfl := prS_det h1 hr
    exact ⟨h2, h3⟩
theorem l18At_no (v lv : Value) (g : List (List Int)) (L : List Int) (hok : GOk g) (hL : ∀ x ∈ L, 0 ≤ x ∧ x < g.length) (hri : L.Pairwise (· < ·)) (hll : L.length ≤ 16) (k : Nat) (hk : k < g.length) (hkL : (k : Int) ∈ L) (w : World) (hg : Gr w v g) (hn : Nums w 2 .i64 lv L) (hr : PrS g L k none) :
    Calls Tryd.prog 117 #[v, lv, .int .i64 k] w fun e w' => e = .returned (.tuple #[.agg #[.int .i64 0, .int .i64 0, .int .i64 0], .bool false]) ∧ Below w.heap.size w w' :=
  (l18At_any v lv g L hok hL hri hll k hk hkL w hg hn).mono fun e w' ⟨r, h1, h2, h3⟩ => by
    obtain rfl := prS_det h1 hr
    exact ⟨h2, h3⟩

/-- What the loop carries. -/
structure PruInv (w wr : World) (g : List (List Int)) (L0 : List Int) (k : Nat) (lv ov u : Value) (lf : List Int) (os : List Pr) : Prop where
  kl : k ≤ lf.length
  bel : Below w.heap.size w wr
  sz : w.heap.size + 1 ≤ wr.heap.size
  left : Nums wr 2 .i64 lv lf
  own : wr.ownsRow (w.heap.size + 1) 129 3 ov os.length (prCells os)
  box : Box wr w.heap.size 29 u
  on : PrOn g L0 os lf
  bad : ∀ j (hj : j < lf.length), j < k → PrS g lf lf[j] none
  inn : ∀ x ∈ lf, 0 ≤ x ∧ x < g.length
  ris : lf.Pairwise (· < ·)
  cnt : os.length + lf.length ≤ 16

theorem PruInv.next {w wr W : World} {g : List (List Int)} {L0 : List Int} {k : Nat} {lv ov u : Value} {lf : List Int} {os : List Pr} (h : PruInv w wr g L0 k lv ov u lf os)
    (hb : Below wr.heap.size wr W) (hk : k < lf.length) (hbad : PrS g lf lf[k] none) : PruInv w W g L0 (k + 1) lv ov u lf os where
  kl := hk
  bel := h.bel.trans (hb.mono h.bel.size)
  sz := by have := h.sz; have := hb.size; omega
  left := h.left.below hb
  own := ownsRow_below h.own hb
  box := h.box.keep hb
  on := h.on
  bad := fun j hj hjk => by
    by_cases e : j = k
    · subst e; exact hbad
    · exact h.bad j hj (by omega)
  inn := h.inn
  ris := h.ris
  cnt := h.cnt

theorem PruInv.step {w wr wc w7 w9 : World} {g : List (List Int)} {L0 : List Int} {k b7 c7 : Nat} {lv ov u lv9 : Value} {lf : List Int} {os : List Pr} {p : Pr} (h : PruInv w wr g L0 k lv ov u lf os) (hbc : Below wr.heap.size wr wc)
    (hk : k < lf.length) (hp : PrS g lf lf[k] (some p))
    (hown7 : w7.ownsRow (w.heap.size + 1) 129 3 (.slice (some ⟨b7, 0, none⟩) (os.length + 1) c7) (os.length + 1) (prCells os ++ [.int .i64 p.V, .int .i64 p.B, .int .i64 p.K])) (hg7 : wc.grownBy w7 ov.ownBlock)
    (hb9 : Below w7.heap.size w7 w9) (hl9 : Nums w9 2 .i64 lv9 (lessL lf lf[k])) :
    PruInv w w9 g L0 0 lv9 (.slice (some ⟨b7, 0, none⟩) (os.length + 1) c7) u (lessL lf lf[k]) (os ++ [p]) := by
  have hownc := ownsRow_below h.own hbc
  have hb7 : Below (w.heap.size + 1) wc w7 := below_grown (Below.refl _ _) hownc hg7 (Nat.le_refl _) (by have := h.sz; have := hbc.size; omega)
  have hs := h.sz
  have hsc := hbc.size
  have hs7 := hg7.size
  have hs9 := hb9.size
  have hall : Below (w.heap.size + 1) wr w9 := ((hbc.mono (by omega)).trans hb7).trans (hb9.mono (by omega))
  exact { kl := Nat.zero_le _, bel := h.bel.trans (hall.mono (by omega)), sz := by omega, left := hl9
          own := by
            have e : (os ++ [p]).length = os.length + 1 := by simp
            rw [e, prCells_snoc]
            exact ownsRow_below hown7 hb9
          box := h.box.below hall (by omega)
          on := prOn_step h.on hk h.bad hp
          bad := fun j hj hh => by omega
          inn := fun x hx => h.inn x (mem_lessL.1 hx).1
          ris := lessL_rising h.ris _
          cnt := by
            have := h.cnt
            have := lessL_length_lt (List.getElem_mem hk)
            simp; omega }

set_option maxRecDepth 100000 in
set_option maxHeartbeats 4000000 in
theorem l18Prune_any (v lv0 : Value) (g : List (List Int)) (L0 : List Int) (hok : GOk g) (hll : L0.length ≤ 16) (hin : ∀ x ∈ L0, 0 ≤ x ∧ x < g.length) (hri : L0.Pairwise (· < ·)) (w : World)
    (hg : Gr w v g) (hlv : Nums w 2 .i64 lv0 L0) :
    Calls Tryd.prog 58 #[v, lv0] w fun e w' => ∃ (ov lv : Value) (fs : List Pr) (l : List Int), e = .returned (.tuple #[ov, lv]) ∧ Prunes g L0 fs l ∧
      w'.ownsRow w.heap.size 129 3 ov fs.length (prCells fs) ∧ Nums w' 2 .i64 lv l ∧ fs.length ≤ 16 ∧ l.length ≤ 16 ∧ Below w.heap.size w w' := by
  have hg0 := hg
  obtain ⟨u, rfl, hr⟩ := hg
  obtain ⟨p, c, rfl, _, _, _⟩ := hr.shape
  obtain ⟨lp, lc, rfl, _⟩ := id hlv
  have START : Hid (PruInv w ((w.alloc (.cells #[.slice p g.length c] 29)).alloc (.cells #[] 129)) g L0 0 (.slice lp L0.length lc) (.slice (some ⟨w.heap.size + 1, 0, none⟩) 0 0) (.slice p g.length c) L0 []) := Lib.hid
    { kl := Nat.zero_le _, bel := below_alloc2 w _ _, sz := by rw [size_alloc, size_alloc]; omega, left := hlv.below (below_alloc2 w _ _), own := ownsRow_empty' _ _ _ _ _ (by omega)
      box := (Box.new w _ _).alloc _, on := prOn_start _ _, bad := fun j hj h => by omega, inn := hin, ris := hri, cnt := by simpa using hll }
  have HG0 := Lib.hid hg0
  have HOK := Lib.hid hok
  clear hr hlv hin hll hri hg0 hok
  go_enter Tryd.func58, Tryd.ntmps58
  go_wp2
  go_loopw [1, 6, 7] (fun lv ov i wr => ∃ (k : Nat) (lf : List Int) (os : List Pr), i = .int .i64 k ∧ PruInv w wr g L0 k lv ov (.slice p g.length c) lf os ∧ (∃ lp lc, lv = .slice lp lf.length lc))
    (fun lv _ i _ => (match lv with | .slice _ n _ => n * 20 + (n - (intOf i).toNat) | _ => 0))
  case atStart => exact ⟨0, _, _, rfl, START.out, _, _, rfl⟩
  case round =>
    clear START
    obtain ⟨k, lf, os, rfl, hinv, lp, lc, rfl⟩ := hrel
    have Hinv := Lib.hid hinv
    have hkl := hinv.kl
    have hcnt := hinv.cnt
    have hbox := hinv.box.cell
    have hbel := hinv.bel
    have hsz := hinv.sz
    by_cases hlt : k < lf.length
    · obtain ⟨m, hm, hmn⟩ : ∃ m : Nat, lf[k] = (m : Int) ∧ m < g.length := by
        have := hinv.inn _ (List.getElem_mem hlt)
        exact ⟨(lf[k]).toNat, by omega, by omega⟩
      obtain ⟨lb, lo, rfl, hcl⟩ := hinv.left.get hlt
      rw [hm] at hcl
      have HGR := Lib.hid (HG0.out.below hbel)
      have HLF := Lib.hid hinv.left
      have HIN := Lib.hid hinv.inn
      have HRI := Lib.hid hinv.ris
      have HMM : Hid ((m : Int) ∈ lf) := Lib.hid (hm ▸ List.getElem_mem hlt)
      have e0 : (0 : Int) ≤ (k : Int) := by omega
      have e1 : (k : Int) < (lf.length : Int) := by omega
      have hl16 : lf.length ≤ 16 := by omega
      obtain ⟨r, hpr⟩ := prS_ex (g := g) (v := (m : Int)) (fun x hx => (hinv.inn x hx).1)
      have Hm := Lib.hid hm
      clear hm hinv
      have n1 : w.heap.size ≠ wr.heap.size := by omega
      have n2 : lb ≠ wr.heap.size := by have := World.block_lt_of_cell? _ _ hcl; simp at this; omega
      have hlbl : lb < wr.heap.size := World.block_lt_of_cell? _ _ hcl
      have n3 := fun e => n1 (Eq.symm e)
      have n4 := fun e => n2 (Eq.symm e)
      cases r with
      | some f =>
        obtain ⟨V, B, K⟩ := f
        have HPR := Lib.hid hpr
        clear hpr
        go_upto_region 5 with (fail)
        go_cut [8, 9] (fun s9 s10 wx => ∃ fb, s9 = .pointer (some ⟨fb, 0, none⟩) ∧ s10 = .bool true ∧ wr.heap.size ≤ fb ∧ Below wr.heap.size wr wx ∧ wx.cell? ⟨fb, 0, none⟩ = some (.int .i64 V) ∧ wx.cell? ⟨fb, 1, none⟩ = some (.int .i64 B) ∧ wx.cell? ⟨fb, 2, none⟩ = some (.int .i64 K))
        case first =>
          go_region_held3 (fun w' => w'.cell? ⟨w.heap.size, 0, none⟩ = some (.slice p g.length c) ∧ w'.cell? ⟨lb, lo + k, none⟩ = some (.int .i64 m))
            (first | go_keep | exact ⟨q1, q2⟩ | exact ⟨(set3_belowP (f := wr.heap.size) w5 _ _ _ (Nat.le_refl _)).at (by omega) q1, (set3_belowP (f := wr.heap.size) w5 _ _ _ (Nat.le_refl _)).at hlbl q2⟩)
            (first | (go_at_call 117; refine (l18At_yes _ _ g lf HOK.out HIN.out HRI.out hl16 m hmn HMM.out _ (HGR.out.below (below_dN (Below.refl _ _) 1)) (HLF.out.below (below_dN (Below.refl _ _) 1)) HPR.out).mono ?_; rintro e w5 ⟨rfl, hb5⟩; have hb5' : Below wr.heap.size wr w5 := ⟨hb5.os, hb5.tape, hb5.output, hb5.size, hb5.block⟩; have q1 := hb5'.at' hbox; have q2 := hb5'.at' hcl) | (go_at_call 117; refine (l18At_yes _ _ g lf HOK.out HIN.out HRI.out hl16 m hmn HMM.out _ (HGR.out.below (below_dN (below_alloc _ _) 1)) (HLF.out.below (below_dN (below_alloc _ _) 1)) HPR.out).mono ?_; rintro e w5 ⟨rfl, hb5⟩; have hb5' : Below wr.heap.size wr w5 := (below_dN (below_alloc wr (.cells #[.int .i64 0, .int .i64 0, .int .i64 0] 129)) 1).trans (hb5.mono (below_alloc wr _).size); have q1 := hb5'.at' hbox; have q2 := hb5'.at' hcl; have hy := (Box3.new wr (.int .i64 0) (.int .i64 0) (.int .i64 0) 129).keep (show Below _ _ w5 from ⟨hb5.os, hb5.tape, hb5.output, hb5.size, hb5.block⟩); obtain ⟨y0, y1, y2⟩ := hy.cells; have yf := hy.free))
          · go_wp2
            go_meet
            obtain ⟨z0, z1, z2⟩ := (Box3.new w5 (.int .i64 V) (.int .i64 B) (.int .i64 K) 129).cells
            exact ⟨w5.heap.size, rfl, rfl, hb5'.size, hb5'.alloc hb5'.size _, z0, z1, z2⟩
          · go_wp2
            go_meet
            obtain ⟨x0, x1, x2⟩ := (hy.set (.int .i64 V) (.int .i64 B) (.int .i64 K)).cells
            exact ⟨wr.heap.size, rfl, rfl, Nat.le_refl _, hb5'.trans (set3_belowP _ _ _ _ (Nat.le_refl _)), x0, x1, x2⟩
        case rest =>
          clear n1 n2 n3 n4 hlbl hbox hcl
          obtain ⟨fb, rfl, rfl, hfb, hbc, f0, f1, f2⟩ := hcut
          have hownc := ownsRow_below Hinv.out.own hbc
          have HLF2 := Lib.hid (HLF.out.below hbc)
          have hszc := hbc.size
          have hne : some fb ≠ u6.ownBlock := fun e => by have := (Hinv.out.own.lt _ e.symm).2; omega
          have HNE := Lib.hid hne
          have hos : os.length < 1000000000 := by omega
          have hb2c : w.heap.size + 1 ≤ wc.heap.size := by omega
          clear hne
          go_wp2_with (first
            | (at_builtin; refine wpList_appE ty_prunes rfl rfl rfl hownc rfl rfl (by simp [Value.oneCell']) hos hb2c ?_; intro b7 c7 w7 hown7 hg7 _ _; have HL7 := Lib.hid (HLF2.out.other hownc hg7 (by decide)); obtain ⟨_, _, e9, hc7⟩ := HL7.out.get hlt; cases e9; rw [Hm.out] at hc7)
            | (go_at_call 69; refine (l19Less_any _ lf m _ HL7.out).mono ?_; rintro e w9 ⟨lv9, rfl, hown9, hb9⟩))
          have hl9 : Nums w9 2 .i64 lv9 (lessL lf lf[k]) := by
            rw [Hm.out]
            exact Nums.of_owns hown9 rfl (by have := lessL_length lf m; omega)
          obtain ⟨lp9, lc9, he9, _⟩ := id hl9
          go_roundw
          case rel =>
            have := Hinv.out.step hbc hlt (by rw [Hm.out]; exact HPR.out) hown7 hg7 hb9 hl9
            exact ⟨0, _, _, rfl, this, lp9, lc9, he9⟩
          case measure =>
            have := lessL_length_lt (List.getElem_mem hlt)
            subst he9
            simp [intOf]
            omega
      | none =>
        have HPR := Lib.hid hpr
        clear hpr
        go_upto_region 5 with (fail)
        go_cut [8, 9] (fun _ s10 wx => s10 = .bool false ∧ Below wr.heap.size wr wx)
        case first =>
          go_region_held3 (fun w' => w'.cell? ⟨w.heap.size, 0, none⟩ = some (.slice p g.length c) ∧ w'.cell? ⟨lb, lo + k, none⟩ = some (.int .i64 m))
            (first | go_keep | exact ⟨q1, q2⟩ | exact ⟨(set3_belowP (f := wr.heap.size) w5 _ _ _ (Nat.le_refl _)).at (by omega) q1, (set3_belowP (f := wr.heap.size) w5 _ _ _ (Nat.le_refl _)).at hlbl q2⟩)
            (first | (go_at_call 117; refine (l18At_no _ _ g lf HOK.out HIN.out HRI.out hl16 m hmn HMM.out _ (HGR.out.below (below_dN (Below.refl _ _) 1)) (HLF.out.below (below_dN (Below.refl _ _) 1)) HPR.out).mono ?_; rintro e w5 ⟨rfl, hb5⟩; have hb5' : Below wr.heap.size wr w5 := ⟨hb5.os, hb5.tape, hb5.output, hb5.size, hb5.block⟩; have q1 := hb5'.at' hbox; have q2 := hb5'.at' hcl) | (go_at_call 117; refine (l18At_no _ _ g lf HOK.out HIN.out HRI.out hl16 m hmn HMM.out _ (HGR.out.below (below_dN (below_alloc _ _) 1)) (HLF.out.below (below_dN (below_alloc _ _) 1)) HPR.out).mono ?_; rintro e w5 ⟨rfl, hb5⟩; have hb5' : Below wr.heap.size wr w5 := (below_dN (below_alloc wr (.cells #[.int .i64 0, .int .i64 0, .int .i64 0] 129)) 1).trans (hb5.mono (below_alloc wr _).size); have q1 := hb5'.at' hbox; have q2 := hb5'.at' hcl; have hy := (Box3.new wr (.int .i64 0) (.int .i64 0) (.int .i64 0) 129).keep (show Below _ _ w5 from ⟨hb5.os, hb5.tape, hb5.output, hb5.size, hb5.block⟩); obtain ⟨y0, y1, y2⟩ := hy.cells; have yf := hy.free))
          · go_wp2
            go_meet
            exact ⟨rfl, hb5'.alloc hb5'.size _⟩
          · go_wp2
            go_meet
            exact ⟨rfl, hb5'.trans (set3_belowP _ _ _ _ (Nat.le_refl _))⟩
        case rest =>
          clear n1 n2 n3 n4 hlbl hbox hcl
          obtain ⟨rfl, hbc⟩ := hcut
          go_wp2
          go_roundw
          case rel => exact ⟨k + 1, _, _, by go_num, Hinv.out.next hbc hlt (by rw [Hm.out]; exact HPR.out), _, _, rfl⟩
          case measure => simp [intOf]; omega
    · have hke : k = lf.length := by omega
      have hstop := prOn_stop hinv.on (fun j hj => hinv.bad j hj (by omega))
      have Hstop := Lib.hid hstop
      clear hinv hstop
      go_wp2
      go_ret2
      exact ⟨_, _, os, lf, rfl, Hstop.out, ownsRow_base Hinv.out.own (by omega), Hinv.out.left, by omega, by omega, hbel⟩


end Go.Proofs.YtfokiijcpkhllaaDoor
