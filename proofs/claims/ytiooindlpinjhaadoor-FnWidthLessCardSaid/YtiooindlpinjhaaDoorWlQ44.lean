/- Walks: the laws' own tests of lists: has, alike, all alike; a rising list with one more. -/
import Derived.Test.YtiooindlpinjhaaDoorWlQ11
import Derived.Test.YtiooindlpinjhaaDoorWlQ43
import Derived.Deep.RegionHeld3
import Derived.Deep.DeepCutAuto
import Derived.Test.YtiooindlpinjhaaDoorWlQ30
import Derived.Test.YtiooindlpinjhaaDoorWlQ40
import Derived.Deep.RegionLaw
namespace Go.Proofs.YtiooindlpinjhaaDoor
open Go.RowKit

set_option maxRecDepth 100000 in
set_option maxHeartbeats 400000 in
theorem w6Has_any (v : Value) (xs : List Int) (n : Int) (w : World) (hx : Nums w 2 .i64 v xs) :
    Calls Tryd.prog 67 #[v, .int .i64 n] w fun e w' => e = .returned (.bool (dec (n ∈ xs))) ∧ w = w' := by
  obtain ⟨p, c, rfl, _, _, hn, hat⟩ := hx
  go_enter Tryd.func67, Tryd.ntmps67
  go_wp2
  go_loop [5] (fun i => ∃ k : Nat, k ≤ xs.length ∧ i = .int .i64 k ∧ n ∉ xs.take k) (fun i => xs.length - (intOf i).toNat)
  case atStart => exact ⟨0, Nat.zero_le _, rfl, by simp⟩
  case round =>
    obtain ⟨k, hk, rfl, hnk⟩ := hrel
    by_cases hlt : k < xs.length
    · obtain ⟨b, o, rfl, hcell⟩ := hat.num hlt
      clear hat
      by_cases he : xs[k] = n
      · have he' : (xs[k] == n) = true := by simpa using he
        have H := Lib.hid he
        clear he
        go_wp2
        go_ret
        exact ⟨ret_bool (true_dec (mem_of_getElem hlt H.out)), rfl⟩
      · have he' : (xs[k] == n) = false := by simpa using he
        go_wp2
        go_round
        case rel => exact ⟨k + 1, by omega, by go_num, not_mem_take_succ hlt hnk he⟩
        case measure => simp [intOf]; omega
    · obtain rfl : k = xs.length := by omega
      go_wp2
      go_ret
      rw [List.take_length] at hnk
      exact ⟨ret_bool (false_dec hnk), rfl⟩

set_option maxRecDepth 100000 in
set_option maxHeartbeats 1000000 in
theorem likeQ_any (u v : Value) (xs ys : List Int) (w : World) (hx : Nums w 2 .i64 u xs) (hy : Nums w 2 .i64 v ys) :
    Calls Tryd.prog 26 #[u, v] w fun e w' => e = .returned (.bool (dec (xs = ys))) ∧ ∃ q, w' = w.drewN q := by
  obtain ⟨p, c, rfl, hp, _, hn, hat⟩ := hx
  obtain ⟨p', c', rfl, hp', _, hn', hat'⟩ := hy
  by_cases hl : xs.length = ys.length
  case neg =>
    have hl' : ((xs.length : Int) != (ys.length : Int)) = true := by simp; omega
    go_enter Tryd.func26, Tryd.ntmps26
    go_wp2
    go_ret
    exact ⟨ret_bool (false_dec fun h => hl (by rw [h])), 0, rfl⟩
  have Hl := Lib.hid hl
  have hl' : ((xs.length : Int) != (ys.length : Int)) = false := by simp; omega
  clear hl
  go_enter Tryd.func26, Tryd.ntmps26
  go_wp2
  go_loopw [5] (fun i wr => ∃ k : Nat, k ≤ xs.length ∧ i = .int .i64 k ∧ xs.take k = ys.take k ∧ ∃ q, wr = w.drewN q) (fun i _ => xs.length - (intOf i).toNat)
  case atStart => exact ⟨0, Nat.zero_le _, rfl, by simp, 0, rfl⟩
  case round =>
    obtain ⟨k, hk, rfl, heq, q, rfl⟩ := hrel
    have Heq := Lib.hid heq
    clear heq
    by_cases hlt : k < xs.length
    · have hlt' : k < ys.length := by have := Hl.out; omega
      obtain ⟨b, o, rfl, hcell⟩ := hat.num hlt
      obtain ⟨b', o', rfl, hcell'⟩ := hat'.num hlt'
      clear hat hat'
      have e0 : (0 : Int) ≤ (k : Int) := by omega
      have e1 : (k : Int) < (xs.length : Int) := by omega
      have e2 : (k : Int) < (ys.length : Int) := by omega
      by_cases he : xs[k] = ys[k]
      · have he' : (xs[k] != ys[k]) = false := by simpa using he
        have He := Lib.hid he
        clear he
        go_wp2
        go_quiet (fail)
        go_wp2
        go_roundw
        case rel => exact ⟨k + 1, by omega, by go_num, by rw [take_snoc xs k hlt, take_snoc ys k hlt', Heq.out, He.out], _, rfl⟩
        case measure => simp [intOf]; omega
      · have he' : (xs[k] != ys[k]) = true := by simpa using he
        have He := Lib.hid he
        clear he
        go_wp2
        go_quiet (fail)
        go_wp2
        go_ret
        exact ⟨ret_bool (false_dec fun h => He.out (by subst h; rfl)), _, World.drewN_drewN _ _ _⟩
    · obtain rfl : k = xs.length := by omega
      go_wp2
      go_ret
      refine ⟨ret_bool (true_dec ?_), q, rfl⟩
      have h := Heq.out
      rwa [List.take_length, Hl.out, List.take_length] at h

theorem likeInts_any (u v : Value) (xs ys : List Int) (w : World) (hx : Nums w 2 .i64 u xs) (hy : Nums w 2 .i64 v ys) :
    Calls Tryd.prog 26 #[u, v] w fun e w' => e = .returned (.bool (dec (xs = ys))) ∧ Below w.heap.size w w' :=
  (likeQ_any u v xs ys w hx hy).mono fun _ _ ⟨h1, q, h2⟩ => ⟨h1, h2 ▸ below_dN (Below.refl _ _) q⟩

theorem intoL_app {v x : Int} : ∀ {l : List Int}, (∃ y ∈ l, ¬ y < v) → intoL (l ++ [x]) v = intoL l v ++ [x]
  | [], h => by obtain ⟨y, hy, _⟩ := h; simp at hy
  | a :: l, h => by
    rw [List.cons_append]
    unfold intoL
    by_cases h1 : a < v
    · rw [if_pos h1, if_pos h1, intoL_app (l := l) (by
        obtain ⟨y, hy, h2⟩ := h
        rcases List.mem_cons.1 hy with rfl | hy
        · exact absurd h1 h2
        · exact ⟨y, hy, h2⟩)]
      rfl
    · rw [if_neg h1, if_neg h1]
      split <;> rfl
theorem intoL_low {v : Int} : ∀ {l : List Int}, (∀ y ∈ l, y < v) → intoL l v = l ++ [v]
  | [], _ => rfl
  | a :: l, h => by
    unfold intoL
    rw [if_pos (h a (List.mem_cons_self ..)), intoL_low fun y hy => h y (List.mem_cons_of_mem _ hy)]
    rfl
theorem intoL_at {v : Int} : ∀ {l : List Int}, (∀ y ∈ l, y < v) → intoL (l ++ [v]) v = l ++ [v]
  | [], _ => by simp [intoL]
  | a :: l, h => by
    rw [List.cons_append]
    unfold intoL
    rw [if_pos (h a (List.mem_cons_self ..)), intoL_at fun y hy => h y (List.mem_cons_of_mem _ hy)]
theorem intoL_up {v x : Int} (hx : v < x) : ∀ {l : List Int}, (∀ y ∈ l, y < v) → intoL (l ++ [x]) v = l ++ [v] ++ [x]
  | [], _ => by
    have h1 : ¬ x < v := by omega
    have h2 : ¬ x = v := by omega
    simp [intoL, h1, h2]
  | a :: l, h => by
    rw [List.cons_append]
    unfold intoL
    rw [if_pos (h a (List.mem_cons_self ..)), intoL_up hx fun y hy => h y (List.mem_cons_of_mem _ hy)]
    rfl

end Go.Proofs.YtiooindlpinjhaaDoor

/- Walks: what is drawn for the laws on parts and edges; lists of lists that are alike; two sets put together. -/
namespace Go.Proofs.YtiooindlpinjhaaDoor
open Go.RowKit

/-- The numbers of both, below sixteen. -/
def bothN (A B : List Nat) (k : Nat) : List Nat := (List.range k).filter fun v => decide (v ∈ A ++ B)
theorem bothN_succ (A B : List Nat) (k : Nat) : bothN A B (k + 1) = if k ∈ A ++ B then bothN A B k ++ [k] else bothN A B k := by
  unfold bothN
  rw [List.range_succ, List.filter_append]
  by_cases h : k ∈ A ++ B
  · rw [if_pos h, List.filter_cons, if_pos (decide_eq_true h)]; rfl
  · rw [if_neg h, List.filter_cons, if_neg (by simpa using h)]; simp
theorem bothN_len (A B : List Nat) (k : Nat) : (bothN A B k).length ≤ k := Nat.le_trans (List.length_filter_le _ _) (by simp)
theorem mem_bothN {A B : List Nat} {k x : Nat} : x ∈ bothN A B k ↔ x < k ∧ (x ∈ A ∨ x ∈ B) := by simp [bothN]


end Go.Proofs.YtiooindlpinjhaaDoor

/- Walks: a graph and two numbers, drawn (l1From, l1DrawPair, DrawCutEdge, DrawContracted). -/
namespace Go.Proofs.YtiooindlpinjhaaDoor
open Go.RowKit

theorem Gr.curedC {w0 w w' : World} {cb : Nat} {bs : List Int} (h : Cur w0 w cb bs) (hg : w.grownBy w' (some cb)) {v : Value} {g : List (List Int)} (hs : Gr w v g) : Gr w' v g := by
  obtain ⟨u, rfl, vals, h1, h2, h3⟩ := hs
  exact ⟨u, rfl, vals, h1, Sl.cured h hg (by decide) h2, fun j hj => Sl.cured h hg (by decide) (h3 j hj)⟩
theorem PrsO.curedC {w0 w w' : World} {cb base : Nat} {bs : List Int} (h : Cur w0 w cb bs) (hg : w.grownBy w' (some cb)) {v : Value} {l : List (Nat × Nat)} (hs : PrsO w base v l) : PrsO w' base v l := by
  obtain ⟨vals, h1, h2, h3⟩ := hs
  exact ⟨vals, h1, ownsRow_cured h hg (by decide) h2, fun j hj => Sl.cured h hg (by decide) (h3 j hj)⟩

set_option maxRecDepth 100000 in
set_option maxHeartbeats 1000000 in
theorem l1From_any (w0 : World) (cb : Nat) (bs : List Int) (hi : Int) (h0 : 0 ≤ hi) (h1 : hi ≤ 1000) (w : World) (hc : Cur w0 w cb bs) :
    Calls Tryd.prog 160 #[.pointer (some ⟨cb, 0, none⟩), .int .i64 (-1), .int .i64 hi] w fun e w' => ∃ z : Int, e = .returned (.int .i64 z) ∧ Cur w0 w' cb bs ∧ w.grownBy w' (some cb) := by
  have HC := Lib.hid hc
  have hwr : IntKind.i64.wrap (hi - (-1)) = hi + 1 := by rw [IntKind.wrap_i64]; omega
  have hwr1 : IntKind.i64.wrap (hi + 1) = hi + 1 := by rw [IntKind.wrap_i64]; omega
  have hwr2 : IntKind.i64.wrap (hi + 1 + 1) = hi + 2 := by rw [IntKind.wrap_i64]; omega
  clear hc
  go_enter Tryd.func160, Tryd.ntmps160
  go_wp2_with (go_at_call 148; refine (l1Below_any w0 cb bs (hi + 2) (by omega) _ HC.out).mono ?_; rintro e w2 ⟨r, rfl, _, _, hc2, hg2⟩; have HC2 := Lib.hid hc2; have HG2 := Lib.hid hg2; clear hc2 hg2)
  go_ret
  exact ⟨_, rfl, HC2.out, HG2.out⟩

set_option maxRecDepth 100000 in
set_option maxHeartbeats 4000000 in
theorem l1DrawPair_any (w0 : World) (cb : Nat) (bs : List Int) (w : World) (hc : Cur w0 w cb bs) :
    Calls Tryd.prog 145 #[.pointer (some ⟨cb, 0, none⟩)] w fun e w' => ∃ (p : Option Addr) (c : Nat) (g : List (List Int)) (x y : Int), e = .returned (.tuple #[.agg #[.slice p g.length c], .int .i64 x, .int .i64 y]) ∧ Gr w' (.agg #[.slice p g.length c]) g ∧ g.length ≤ 17 ∧ (∀ j, (row g j).length ≤ 17) ∧ Cur w0 w' cb bs ∧ w.grownBy w' (some cb) := by
  have hcb := hc.cb_lt
  have HB := Lib.hid (below_alloc w (.cells #[.slice none 0 0] 28))
  have HC1 := Lib.hid (hc.keep HB.out)
  have HR1 := Lib.hid (Box.new w (.slice none 0 0) 28)
  clear hc
  go_enter Tryd.func145, Tryd.ntmps145
  go_upto_region 2 with (go_at_call 159; refine (l1DrawAny_any w0 cb bs _ HC1.out).mono ?_; rintro e w2 ⟨u, g, rfl, hg, hgl, hgr, hc2, hg2⟩; obtain ⟨gu, rfl, hgr2⟩ := hg; obtain ⟨gp, gc, rfl, _⟩ := hgr2.shape; have HC2 := Lib.hid hc2; have HR2 := Lib.hid (HR1.out.cured HC1.out hg2 (by decide)); have HW2 := Lib.hid (grown_trans (grown_of_below HB.out _) hg2); clear hc2 hg2)
  obtain ⟨w3, hw3⟩ : ∃ w3, w3 = w2.alloc (.cells #[.slice gp g.length gc] 28) := ⟨_, rfl⟩
  rw [← hw3]
  have hba : Below w2.heap.size w2 w3 := by rw [hw3]; exact below_alloc _ _
  have HX3 : Hid (Box w3 w2.heap.size 28 (.slice gp g.length gc)) := Lib.hid (by rw [hw3]; exact Box.new _ _ _)
  have HG3 : Hid (Gr w3 (.agg #[.slice gp g.length gc]) g) := Lib.hid ⟨_, rfl, hgr2.below hba⟩
  have HC3 := Lib.hid (HC2.out.keep hba)
  have HR3 := Lib.hid (HR2.out.keep hba)
  have HW3 := Lib.hid (grown_trans HW2.out (grown_of_below hba _))
  have c3 := HX3.out.cell
  generalize w2.heap.size = bx at *
  clear hw3 hba hgr2 HC1 HR1 HC2 HR2 HW2
  go_upto_region 4 with (go_at_call 160; refine (l1From_any w0 cb bs (g.length : Int) (by omega) (by omega) _ HC3.out).mono ?_; rintro e w4 ⟨x, rfl, hc4, hg4⟩; have HC4 := Lib.hid hc4; have HX4 := Lib.hid (HX3.out.cured HC3.out hg4 (by decide)); have HG4 := Lib.hid (HG3.out.curedC HC3.out hg4); have HR4 := Lib.hid (HR3.out.cured HC3.out hg4 (by decide)); have HW4 := Lib.hid (grown_trans HW3.out hg4); have c4 := HX4.out.cell; clear hc4 hg4)
  have HBD := Lib.hid (below_dN (Below.refl w4.heap.size w4) 1)
  go_region_law (first | (go_simp; go_at_call 160; refine (l1From_any w0 cb bs (g.length : Int) (by omega) (by omega) _ (HC4.out.keep (below_dN (Below.refl _ _) 1))).mono ?_; rintro e w5 ⟨y, rfl, hc5, hg5⟩; have HC5 := Lib.hid hc5; have HCD := Lib.hid (HC4.out.keep (below_dN (Below.refl w4.heap.size w4) 1)); have HX5 := Lib.hid ((HX4.out.keep (below_dN (Below.refl _ _) 1)).cured HCD.out hg5 (by decide)); have HG5 := Lib.hid ((HG4.out.below (below_dN (Below.refl _ _) 1)).curedC HCD.out hg5); have HR5 := Lib.hid ((HR4.out.keep (below_dN (Below.refl _ _) 1)).cured HCD.out hg5 (by decide)); have HW5 := Lib.hid (grown_trans (grown_trans HW4.out (grown_of_below (below_dN (Below.refl w4.heap.size w4) 1) _)) hg5); have c5 := HX5.out.cell; obtain ⟨nc, nf, nl, nB⟩ := id HR5.out; clear hc5 hg5))
  all_goals go_wp2
  all_goals
    obtain ⟨nc, nf, nl, nB⟩ := id HR5.out
    refine bodyPost_ret (v := .tuple #[.agg #[.slice gp g.length gc], .int .i64 x, .int .i64 y]) (by simp [results, Tryd.results145, go_sem, nc]) rfl ⟨gp, gc, g, x, y, rfl, gr_setBox HG5.out ⟨nc, nf, nl, nB⟩ _, hgl, hgr, HC5.out.setCell hcb _, ?_⟩
    exact grown_newD HW5.out (Nat.le_refl _) _

theorem edgesE_bound {g : List (List Int)} {w : World} {be : Nat} {u : Value} (hp : (GOk g ∧ PrsO w be u (edN g.length (ofG g) g.length)) ∨ (¬ GOk g ∧ PrsO w be u [])) : ∃ l : List (Nat × Nat), l.length ≤ 256 ∧ PrsO w be u l := by
  rcases hp with h | h
  · refine ⟨_, ?_, h.2⟩
    have h1 := edN_length g.length (ofG g) g.length
    have h16 := h.1.le
    have : g.length * g.length ≤ 16 * 16 := Nat.mul_le_mul h16 h16
    omega
  · exact ⟨[], by simp, h.2⟩

set_option maxRecDepth 100000 in
set_option maxHeartbeats 4000000 in
theorem drawCutEdge_any (v : Value) (bs : List Int) (hl : bs.length ≤ 4096) (w : World) (ha : ArgB w v bs) :
    Calls Tryd.prog 97 #[v] w fun e w' => ∃ (p : Option Addr) (c : Nat) (g : List (List Int)) (x y : Int), e = .returned (.tuple #[.agg #[.slice p g.length c], .int .i64 x, .int .i64 y]) ∧ Gr w' (.agg #[.slice p g.length c]) g ∧ g.length ≤ 17 ∧ (∀ j, (row g j).length ≤ 17) ∧ Below w.heap.size w w' := by
  obtain ⟨p, c, e0, _⟩ := id ha
  subst e0
  obtain ⟨W0, hW0⟩ : ∃ W0, W0 = w.alloc (.cells #[.slice none 0 0] 28) := ⟨_, rfl⟩
  have HB : Hid (Below w.heap.size w W0) := Lib.hid (by rw [hW0]; exact below_alloc _ _)
  have HA := Lib.hid (ha.below HB.out)
  have HR : Hid (Box W0 w.heap.size 28 (.slice none 0 0)) := Lib.hid (by rw [hW0]; exact Box.new _ _ _)
  clear ha
  go_enter Tryd.func97, Tryd.ntmps97
  go_upto_region 1 with fail
  rw [← hW0]
  clear hW0
  go_upto_region 3 with (first
    | (go_at_call 145; refine (l1DrawPair_any W0 cb bs _ HC1.out).mono ?_; rintro e w2 ⟨gp, gc, g, x, y, rfl, hg, hgl, hgr, hc2, hg2⟩; have HC2 := Lib.hid hc2; have HG2 := Lib.hid hg; have HR2 := Lib.hid (HR1.out.cured HC1.out hg2 (by decide)); clear hc2 hg hg2)
    | (go_at_call 144; refine (l1New_any _ bs hl _ HA.out).mono ?_; rintro e w1 ⟨cb, rfl, hc1, hb1⟩; have HC1 := Lib.hid hc1; have HR1 := Lib.hid (HR.out.keep hb1); clear hc1 hb1))
  obtain ⟨w3, hw3⟩ : ∃ w3, w3 = w2.alloc (.cells #[.slice gp g.length gc] 28) := ⟨_, rfl⟩
  rw [← hw3]
  have hba : Below w2.heap.size w2 w3 := by rw [hw3]; exact below_alloc _ _
  have HX3 : Hid (Box w3 w2.heap.size 28 (.slice gp g.length gc)) := Lib.hid (by rw [hw3]; exact Box.new _ _ _)
  have HG3 := Lib.hid (HG2.out.below hba)
  have HC3 := Lib.hid (HC2.out.keep hba)
  have HR3 := Lib.hid (HR2.out.keep hba)
  have c3 := HX3.out.cell
  generalize w2.heap.size = bx at *
  clear hw3 hba HC2 HR2 HG2 HC1 HR1
  go_upto_region 4 with (go_at_call 146; refine (specEdgesE_any _ g _ HG3.out).mono ?_; rintro e w4 ⟨u, be, rfl, hp, hb4⟩; obtain ⟨l, hl256, hpl⟩ := edgesE_bound hp; obtain ⟨ep, ec, rfl⟩ := hpl.shape; have HP4 := Lib.hid hpl; have HC4 := Lib.hid (HC3.out.keep hb4); have HX4 := Lib.hid (HX3.out.keep hb4); have HG4 := Lib.hid (HG3.out.below hb4); have HR4 := Lib.hid (HR3.out.keep hb4); clear hp hpl hb4)
  clear HC3 HX3 HG3 HR3 c3
  go_cut [28] (fun s wx => ∃ z : Bool, s = .bool z ∧ (z = true → 0 < l.length) ∧ Cur W0 wx cb bs ∧ Box wx bx 28 (.slice gp g.length gc) ∧ Gr wx (.agg #[.slice gp g.length gc]) g ∧ Box wx w.heap.size 28 (.slice none 0 0) ∧ PrsO wx be (.slice ep l.length ec) l)
  case first =>
    by_cases he : l.length = 0
    · obtain rfl : l = [] := List.eq_nil_of_length_eq_zero he
      clear he
      go_wp2_with fail
      go_meet
      exact ⟨false, rfl, by simp, HC4.out, HX4.out, HG4.out, HR4.out, HP4.out⟩
    · have e3 : (0 : Int) < (l.length : Int) := by omega
      have hl0 : 0 < l.length := by omega
      clear he
      go_wp2_with (go_at_call 147; refine (l1Once_any W0 cb bs 3 (by decide) _ HC4.out).mono ?_; rintro e w5 ⟨b, rfl, hc5, hg5⟩; have HC5 := Lib.hid hc5; have HX5 := Lib.hid (HX4.out.cured HC4.out hg5 (by decide)); have HG5 := Lib.hid (HG4.out.curedC HC4.out hg5); have HR5 := Lib.hid (HR4.out.cured HC4.out hg5 (by decide)); have HP5 := Lib.hid (HP4.out.curedC HC4.out hg5); clear hc5 hg5)
      go_meet
      exact ⟨_, rfl, fun _ => hl0, HC5.out, HX5.out, HG5.out, HR5.out, HP5.out⟩
  case rest =>
  obtain ⟨z, rfl, hz, hc5, hx5, hg5, hr5, hp5⟩ := hcut
  have HC5 := Lib.hid hc5
  have HX5 := Lib.hid hx5
  have HG5 := Lib.hid hg5
  have HR5 := Lib.hid hr5
  have HP5 := Lib.hid hp5
  clear hc5 hx5 hg5 hr5 hp5 HC4 HX4 HG4 HR4 HP4
  cases z
  · have cx := HX5.out.cell
    obtain ⟨nc, nf, nl, nB⟩ := id HR5.out
    go_wp2_with fail
    refine bodyPost_ret (v := .tuple #[.agg #[.slice gp g.length gc], .int .i64 x, .int .i64 y]) (by simp [results, Tryd.results97, go_sem, nc]) rfl ⟨gp, gc, g, x, y, rfl, gr_setBox HG5.out ⟨nc, nf, nl, nB⟩ _, hgl, hgr, ?_⟩
    exact (HB.out.trans (HC5.out.bel.mono HB.out.size)).setCell (by show w.heap.size ≤ w.heap.size; omega) _
  · have hl0 := hz rfl
    go_upto_region 6 with (go_at_call 148; refine (l1Below_any W0 cb bs (l.length : Int) (by omega) _ HC5.out).mono ?_; rintro e w6 ⟨r, rfl, hr, _, hc6, hg6⟩; have hr0 := hr (by omega); (have hr1 : r < l.length := (by omega)); have HC6 := Lib.hid hc6; have HX6 := Lib.hid (HX5.out.cured HC5.out hg6 (by decide)); have HG6 := Lib.hid (HG5.out.curedC HC5.out hg6); have HR6 := Lib.hid (HR5.out.cured HC5.out hg6 (by decide)); obtain ⟨eb, eo, rp, rc, hepp, hce, hne⟩ := (HP5.out.curedC HC5.out hg6).get hr1; subst hepp; have HNE := Lib.hid hne; have HNS := Lib.hid (hne.setBox HR6.out (by decide) (.slice gp g.length gc)); clear hr hr0 hc6 hg6 hne)
    obtain ⟨⟨a, b⟩, hab⟩ : ∃ e : Nat × Nat, e = l[r] := ⟨_, rfl⟩
    have hne := HNE.out
    rw [← hab] at hne
    simp only at hne
    obtain ⟨rb, ro, rfl, hc0⟩ := hne.get (k := 0) (by simp)
    obtain ⟨_, _, e1, hc1⟩ := hne.get (k := 1) (by simp)
    cases e1
    have hns := HNS.out
    rw [← hab] at hns
    obtain ⟨_, _, e1, hs0⟩ := hns.get (k := 0) (by simp)
    cases e1
    obtain ⟨_, _, e1, hs1⟩ := hns.get (k := 1) (by simp)
    cases e1
    simp only [List.getElem_cons_zero, List.getElem_cons_succ, Nat.add_zero] at hc0 hc1 hs0 hs1
    clear hne hab HNE HNS hns HP5 HX5 HG5 HR5
    have cx := HX6.out.cell
    obtain ⟨nc, nf, nl, nB⟩ := id HR6.out
    have HFB := Lib.hid (HB.out.trans (HC6.out.bel.mono HB.out.size))
    go_region_law (fail)
    all_goals go_wp2
    all_goals
      refine bodyPost_ret (v := .tuple #[.agg #[.slice gp g.length gc], .int .i64 (b : Int), .int .i64 (a : Int)]) (by simp [results, Tryd.results97, go_sem, nc]) rfl ⟨gp, gc, g, (b : Int), (a : Int), rfl, ?_, hgl, hgr, ?_⟩
      all_goals first
        | exact gr_setBox HG6.out ⟨nc, nf, nl, nB⟩ _
        | exact (gr_setBox HG6.out ⟨nc, nf, nl, nB⟩ _).below (below_dN (Below.refl _ _) 1)
        | exact HFB.out.setCell (Nat.le_refl _) _
        | exact below_dN (HFB.out.setCell (Nat.le_refl _) _) 1
        | trace_state

set_option maxRecDepth 100000 in
set_option maxHeartbeats 4000000 in
theorem drawContracted_any (v : Value) (bs : List Int) (hl : bs.length ≤ 4096) (w : World) (ha : ArgB w v bs) :
    Calls Tryd.prog 34 #[v] w fun e w' => ∃ (p : Option Addr) (c : Nat) (g : List (List Int)) (x y : Int), e = .returned (.tuple #[.agg #[.slice p g.length c], .int .i64 x, .int .i64 y]) ∧ Gr w' (.agg #[.slice p g.length c]) g ∧ g.length ≤ 17 ∧ (∀ j, (row g j).length ≤ 17) ∧ Below w.heap.size w w' := by
  obtain ⟨p, c, e0, _⟩ := id ha
  subst e0
  have HB := Lib.hid (below_alloc w (.cells #[.slice none 0 0] 28))
  have HA := Lib.hid (ha.below HB.out)
  have HR := Lib.hid (Box.new w (.slice none 0 0) 28)
  clear ha
  go_enter Tryd.func34, Tryd.ntmps34
  go_wp2_with (go_at_call 97; refine (drawCutEdge_any _ bs hl _ HA.out).mono ?_; rintro e w2 ⟨gp, gc, g, x, y, rfl, hg, hgl, hgr, hb2⟩; have HG2 := Lib.hid hg; have HB2 := Lib.hid hb2; obtain ⟨nc, nf, nl, nB⟩ := HR.out.keep hb2; clear hg hb2)
  refine bodyPost_ret (v := .tuple #[.agg #[.slice gp g.length gc], .int .i64 x, .int .i64 y]) (by simp [results, Tryd.results34, go_sem, nc]) rfl ⟨gp, gc, g, x, y, rfl, gr_setBox HG2.out ⟨nc, nf, nl, nB⟩ _, hgl, hgr, ?_⟩
  exact (HB.out.trans (HB2.out.mono HB.out.size)).setCell (by show w.heap.size ≤ w.heap.size; omega) _

end Go.Proofs.YtiooindlpinjhaaDoor

/- Walks: the laws' dice (big, roll, below). -/
namespace Go.Proofs.YtiooindlpinjhaaDoor
open Go.RowKit

structure BoxD (w : World) (b : Nat) (x y z : Value) : Prop where
  blk : w.heap[b]? = some (.cells #[x, y, z] 80 (0, 0))
section
variable {w w' : World} {b : Nat} {x y z : Value}
theorem BoxD.c0 (h : BoxD w b x y z) : w.cell? ⟨b, 0, none⟩ = some x := by unfold World.cell?; rw [h.blk]; rfl
theorem BoxD.c1 (h : BoxD w b x y z) : w.cell? ⟨b, 1, none⟩ = some y := by unfold World.cell?; rw [h.blk]; rfl
theorem BoxD.c2 (h : BoxD w b x y z) : w.cell? ⟨b, 2, none⟩ = some z := by unfold World.cell?; rw [h.blk]; rfl
theorem BoxD.free (h : BoxD w b x y z) (i : Nat) : w.frozen? ⟨b, i, none⟩ = false := by simp [World.frozen?, h.blk]
theorem BoxD.lt (h : BoxD w b x y z) : b < w.heap.size := lt_of_block h.blk
theorem BoxD.new (w : World) (x y z : Value) : BoxD (w.alloc (.cells #[x, y, z] 80)) w.heap.size x y z := ⟨heap_alloc_new w _⟩
theorem BoxD.to (h : BoxD w b x y z) (hk : w'.heap[b]? = w.heap[b]?) : BoxD w' b x y z := ⟨hk.trans h.blk⟩
theorem BoxD.s1 (h : BoxD w b x y z) (u : Value) : BoxD (w.setCell ⟨b, 1, none⟩ u) b x u z := ⟨by have := heap_setCell_same w b 1 _ _ u h.blk; simpa using this⟩
theorem BoxD.s2 (h : BoxD w b x y z) (u : Value) : BoxD (w.setCell ⟨b, 2, none⟩ u) b x y u := ⟨by have := heap_setCell_same w b 2 _ _ u h.blk; simpa using this⟩
theorem BoxD.keep (h : BoxD w b x y z) (hb : Below w.heap.size w w') : BoxD w' b x y z := h.to (hb.block b h.lt)
end

theorem grown_setD (w : World) (b i : Nat) (u : Value) : w.grownBy (w.setCell ⟨b, i, none⟩ u) (some b) :=
  ⟨rfl, rfl, rfl, by rw [World.size_setCell]; exact Nat.le_refl _, fun k _ hne => Below.heap_setCell _ _ _ _ (fun e => hne (by simp only at e; rw [e]))⟩

/-- The dice stand in block db: the bytes, how many were read, a number. -/
structure Dice (w0 w : World) (db : Nat) (bs : List Int) : Prop where
  ex : ∃ (bv : Value) (i : Nat) (h : Int), BoxD w db bv (.int .i64 i) (.int .u64 h) ∧ i ≤ bs.length ∧ ArgB w0 bv bs
  few : bs.length ≤ 4096
  lo : w0.heap.size ≤ db
  bel : Below w0.heap.size w0 w
theorem Dice.keep {w0 w w' : World} {db : Nat} {bs : List Int} (h : Dice w0 w db bs) (hb : Below w.heap.size w w') : Dice w0 w' db bs := by
  obtain ⟨bv, i, z, h1, h2, h3⟩ := h.ex
  exact ⟨⟨bv, i, z, h1.keep hb, h2, h3⟩, h.few, h.lo, h.bel.trans (hb.mono h.bel.size)⟩
theorem below_grownD {w0 w w' : World} {cb : Nat} (h : Below w0.heap.size w0 w) (hg : w.grownBy w' (some cb)) (hl : w0.heap.size ≤ cb) : Below w0.heap.size w0 w' :=
  ⟨hg.os.trans h.os, hg.tape.trans h.tape, hg.output.trans h.output, Nat.le_trans h.size hg.size, fun k hk => (hg.block k (Nat.lt_of_lt_of_le hk h.size) (fun e => by simp only [Option.some.injEq] at e; omega)).trans (h.block k hk)⟩
theorem andM (x : Int) : ∃ r : Nat, bits BinOp.and IntKind.u64 x 16777215 = (r : Int) ∧ r ≤ 16777215 := by
  refine ⟨(BitVec.ofInt 64 x &&& BitVec.ofInt 64 16777215).toNat, ?_, ?_⟩
  · show IntKind.u64.wrap ((BitVec.ofInt 64 x &&& BitVec.ofInt 64 16777215).toNat : Int) = _
    have h : (BitVec.ofInt 64 x &&& BitVec.ofInt 64 16777215).toNat ≤ 16777215 := by
      rw [BitVec.toNat_and]
      exact Nat.le_trans Nat.and_le_right (by decide)
    generalize (BitVec.ofInt 64 x &&& BitVec.ofInt 64 16777215).toNat = r at h
    simp [IntKind.wrap, IntKind.bits, IntKind.signed]
    omega
  · rw [BitVec.toNat_and]
    exact Nat.le_trans Nat.and_le_right (by decide)

set_option maxRecDepth 100000 in
theorem big_any (v : Value) (bs : List Int) (w : World) (h : ArgB w v bs) :
    Calls Tryd.prog 16 #[v] w fun e w' => e = .returned (.bool (decide (4096 < bs.length))) ∧ w = w' := by
  obtain ⟨p, c, rfl, hl, _⟩ := h
  go_enter Tryd.func16, Tryd.ntmps16
  go_wp2
  go_ret
  exact ⟨ret_bool (by simp; omega), rfl⟩

set_option maxRecDepth 100000 in
set_option maxHeartbeats 4000000 in
theorem below_any (w0 : World) (cb : Nat) (bs : List Int) (k : Nat) (n : Int) (hkn : n = k) (hkp : 0 < k) (hk : k ≤ 1000000) (w : World) (hc : Dice w0 w cb bs) :
    Calls Tryd.prog 62 #[.pointer (some ⟨cb, 0, none⟩), .int .i64 n] w fun e w' => ∃ r : Nat, e = .returned (.int .i64 (r : Int)) ∧ r < k ∧ Dice w0 w' cb bs ∧ w.grownBy w' (some cb) := by
  subst hkn
  have hk0 : ((k : Int) == 0) = false := by simp; omega
  have htm : ∀ r : Nat, Int.tmod (r : Int) (k : Int) = ((r % k : Nat) : Int) := fun r => (Int.ofNat_tmod r k).symm
  have HML : Hid (∀ r : Nat, r % k < k) := Lib.hid (fun r => Nat.mod_lt r hkp)
  obtain ⟨⟨bv, i, h, hb, hi, ha⟩, few, lo, bel⟩ := hc
  obtain ⟨bp, bc, e, ha2⟩ := id ha
  subst e
  have c2 := hb.c2
  have f2 := hb.free 2
  have HB := Lib.hid hb
  have HA := Lib.hid ha
  have HBEL := Lib.hid bel
  clear ha2 ha hb bel
  go_enter Tryd.func62, Tryd.ntmps62
  go_upto_region 1 with fail
  go_cut [14] (fun _ wx => ∃ h2 : Int, wx = w.setCell ⟨cb, 2, none⟩ (.int .u64 h2))
  case first =>
    go_wp2
    go_meet
    exact ⟨_, rfl⟩
  case rest =>
    obtain ⟨h2, rfl⟩ := hcut
    have HB2 := Lib.hid (HB.out.s2 (.int .u64 h2))
    have HG2 := Lib.hid (grown_setD w cb 2 (.int .u64 h2))
    have c2 := HB2.out.c2
    obtain ⟨w2, hw2⟩ : ∃ w2, w2 = w.setCell ⟨cb, 2, none⟩ (.int .u64 h2) := ⟨_, rfl⟩
    rw [← hw2] at c2 HB2 HG2 ⊢
    clear hw2 f2
    obtain ⟨r, hr1, hr⟩ := andM (h2 / 8589934592)
    have hrw : wrap64 (bits BinOp.and IntKind.u64 (h2 / 8589934592) 16777215) = (r : Int) := by rw [hr1]; unfold wrap64; omega
    have c0 := HB2.out.c0
    have c1 := HB2.out.c1
    go_upto_region 3 with fail
    go_cut [31] (fun s wx => s = .bool (decide (i < bs.length)) ∧ Below w2.heap.size w2 wx)
    case first =>
      go_region_held3 (fun w' => w'.cell? ⟨cb, 1, none⟩ = some (.int .i64 i) ∧ w'.cell? ⟨cb, 0, none⟩ = some (.slice bp bs.length bc))
        (first | go_keep | exact ⟨c1, c0⟩)
        (fail)
      all_goals go_wp2
      all_goals go_meet
      all_goals exact ⟨rfl, below_dN (Below.refl _ _) _⟩
    case rest =>
      obtain ⟨rfl, hb4⟩ := hcut
      have HB4 := Lib.hid (HB2.out.keep hb4)
      have HG4 := Lib.hid (grown_trans HG2.out (grown_of_below hb4 _))
      have HL4 := Lib.hid (below_grownD HBEL.out HG4.out lo)
      have c0 := HB4.out.c0
      have c1 := HB4.out.c1
      clear hb4 c2
      by_cases hlt : i < bs.length
      · obtain ⟨xb, xo, rfl, hcx, hx0, hx1⟩ := (HA.out.below HL4.out).get hlt
        generalize bs[i] = x at hcx hx0 hx1
        have hdt : decide (i < bs.length) = true := by simp [hlt]
        have e0 : (0 : Int) ≤ (i : Int) := by omega
        have e1 : (i : Int) < (bs.length : Int) := by omega
        obtain ⟨y, rfl⟩ : ∃ y : Nat, x = (y : Int) := ⟨x.toNat, by omega⟩
        have hwy : IntKind.i64.wrap (y : Int) = (y : Int) := by rw [IntKind.wrap_i64]; omega
        have hws : IntKind.i64.wrap ((r : Int) + (y : Int)) = ((r + y : Nat) : Int) := by rw [IntKind.wrap_i64]; omega
        go_upto_region 4 with fail
        go_cut [5] (fun s wx => s = .int .i64 ((r + y : Nat) : Int) ∧ Below wc.heap.size wc wx)
        case first =>
          go_region_held3 (fun w' => w'.cell? ⟨cb, 1, none⟩ = some (.int .i64 i) ∧ w'.cell? ⟨cb, 0, none⟩ = some (.slice (some ⟨xb, xo, none⟩) bs.length bc) ∧ w'.cell? ⟨xb, xo + i, none⟩ = some (.int .u8 (y : Int)))
            (first | go_keep | exact ⟨c1, c0, hcx⟩)
            (fail)
          all_goals go_wp2
          all_goals go_meet
          all_goals exact ⟨by first | rfl | exact val_int (by omega), below_dN (Below.refl _ _) _⟩
        case rest =>
          obtain ⟨rfl, hb5⟩ := hcut
          have HB5 := Lib.hid (HB4.out.keep hb5)
          have HG5 := Lib.hid (grown_trans HG4.out (grown_of_below hb5 _))
          have c1 := HB5.out.c1
          have f1 := HB5.out.free 1
          have htm2 := htm (r + y)
          clear hb5 hcx c0 htm
          generalize r + y = z at *
          go_wp2
          go_ret
          have HB6 := HB5.out.s1 (.int .i64 ((i + 1 : Nat) : Int))
          have HG6 := grown_trans HG5.out (grown_setD wc cb 1 (.int .i64 ((i + 1 : Nat) : Int)))
          exact ⟨z % k, by first | rfl | (rw [← htm2]; rfl), HML.out _, ⟨⟨_, i + 1, h2, HB6, by omega, HA.out⟩, few, lo, below_grownD HBEL.out HG6 lo⟩, HG6⟩
      · have hdt : decide (i < bs.length) = false := by simp [hlt]
        have htm2 := htm r
        go_wp2
        go_ret
        exact ⟨r % k, by first | rfl | (rw [← htm2]; rfl), HML.out _, ⟨⟨_, i, h2, HB4.out, hi, HA.out⟩, few, lo, HL4.out⟩, HG4.out⟩

end Go.Proofs.YtiooindlpinjhaaDoor
