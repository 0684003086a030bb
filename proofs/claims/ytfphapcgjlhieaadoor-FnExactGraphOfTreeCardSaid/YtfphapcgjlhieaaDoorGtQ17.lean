/- Walks: what the exact laws do with trees as arguments: size, copy, compare, mark. -/
import Derived.Test.YtfphapcgjlhieaaDoorGtQ16
import Derived.Test.YtfphapcgjlhieaaDoorGtQ5
import Derived.Test.YtfphapcgjlhieaaDoorGtQ7
namespace Go.Proofs.YtfphapcgjlhieaaDoor
open Go.RowKit

/-- A block of three cells. -/
structure T3 (w : World) (b : Nat) (T : TypeId) (x y z : Value) : Prop where
  blk : w.heap[b]? = some (.cells #[x, y, z] T (0, 0))
theorem T3.cells {w : World} {b : Nat} {T : TypeId} {x y z : Value} (h : T3 w b T x y z) : w.cell? ⟨b, 0, none⟩ = some x ∧ w.cell? ⟨b, 1, none⟩ = some y ∧ w.cell? ⟨b, 2, none⟩ = some z := by
  refine ⟨?_, ?_, ?_⟩ <;> (unfold World.cell?; rw [h.blk]; rfl)
theorem T3.free {w : World} {b : Nat} {T : TypeId} {x y z : Value} (h : T3 w b T x y z) (i : Nat) : w.frozen? ⟨b, i, none⟩ = false := by simp [World.frozen?, h.blk]
theorem T3.lt {w : World} {b : Nat} {T : TypeId} {x y z : Value} (h : T3 w b T x y z) : b < w.heap.size := (Array.getElem?_eq_some_iff.1 h.blk).1
theorem T3.new (w : World) (x y z : Value) (T : TypeId) : T3 (w.alloc (.cells #[x, y, z] T)) w.heap.size T x y z := ⟨heap_alloc_new w _⟩
theorem T3.keep {w w' : World} {b : Nat} {T : TypeId} {x y z : Value} (h : T3 w b T x y z) (hb : Below w.heap.size w w') : T3 w' b T x y z := ⟨(hb.block b h.lt).trans h.blk⟩
theorem T3.alloc {w : World} {b : Nat} {T : TypeId} {x y z : Value} (h : T3 w b T x y z) (o : Obj) : T3 (w.alloc o) b T x y z := h.keep (below_alloc w o)
theorem T3.set {w : World} {b : Nat} {T : TypeId} {x y z : Value} (h : T3 w b T x y z) (p q r : Value) : T3 (((w.setCell ⟨b, 0, none⟩ p).setCell ⟨b, 1, none⟩ q).setCell ⟨b, 2, none⟩ r) b T p q r := by
  constructor
  have h1 := heap_setCell_same w b 0 _ T p h.blk
  have h2 := heap_setCell_same _ b 1 _ T q h1
  have h3 := heap_setCell_same _ b 2 _ T r h2
  simpa using h3
/-- A law's list of nodes. -/
def ArgPs (w : World) (v : Value) (ts : List Pt) : Prop :=
  ∃ p c us, v = .slice p ts.length c ∧ ts.length ≤ 9223372036854775807 ∧ us.length = ts.length ∧ Cl w p (ptCells ts us) ∧ ∀ (j : Nat) (q : Pt), ts[j]? = some q → ArgN w (us.getD j undef) q.s
theorem ArgPs.below {w w' : World} {v : Value} {ts : List Pt} (h : ArgPs w v ts) (hb : Below w.heap.size w w') : ArgPs w' v ts := by
  obtain ⟨p, c, us, h1, h2, h3, h4, h5⟩ := h
  exact ⟨p, c, us, h1, h2, h3, h4.below hb, fun j q hq => (h5 j q hq).below hb⟩
theorem ArgPs.at {w : World} {p : Option Addr} {n c : Nat} {ts : List Pt} (h : ArgPs w (.slice p n c) ts) {k : Nat} {x : Pt} (hx : ts[k]? = some x) :
    ∃ b o rp rc, p = some ⟨b, o, none⟩ ∧ w.cell? ⟨b, o + k * 3, none⟩ = some (.int .i64 x.k) ∧ w.cell? ⟨b, o + k * 3 + 1, none⟩ = some (.int .i64 x.v) ∧
      w.cell? ⟨b, o + k * 3 + 2, none⟩ = some (.slice rp x.s.length rc) ∧ ArgN w (.slice rp x.s.length rc) x.s := by
  obtain ⟨p', c', us, e, _, h1, hcl, h3⟩ := h
  simp only [Value.slice.injEq] at e
  obtain ⟨rfl, rfl, rfl⟩ := e
  have hk := (List.getElem?_eq_some_iff.1 hx).1
  obtain ⟨g1, g2, g3⟩ := ptCells_get h1 hx
  have hn := h3 k x hx
  obtain ⟨rp, rc, hv, _⟩ := id hn
  rw [hv] at g3 hn
  rcases hcl with h0 | ⟨b, o, hp, hc⟩
  · rw [h0] at g1; simp at g1
  · exact ⟨b, o, rp, rc, hp, hc _ _ g1, by rw [Nat.add_assoc]; exact hc _ _ g2, by rw [Nat.add_assoc]; exact hc _ _ g3, hn⟩

/-- Nodes of bounded size. -/
def SzP (ts : List Pt) : Prop := ts.length ≤ 1048576 ∧ ∀ (j : Nat) (q : Pt), ts[j]? = some q → q.s.length ≤ 1048576

set_option maxRecDepth 100000 in
set_option maxHeartbeats 1000000 in
theorem szPart_any (a b : Int) (u : Value) (xs : List Int) (left : Int) (h0 : 0 ≤ left) (h1 : left ≤ 1048576) (w : World) (hx : ArgN w u xs) :
    Calls Tryd.prog 45 #[.agg #[.int .i64 a, .int .i64 b, u], .int .i64 left] w fun e w' => (∃ z : Int, e = .returned (.int .i64 z) ∧ -1 ≤ z ∧ z ≤ left ∧ (0 ≤ z → (xs.length : Int) ≤ left)) ∧ Below w.heap.size w w' := by
  obtain ⟨p, c, rfl, hn, _⟩ := id hx
  have hb1 := below_alloc w (.cells #[.int .i64 a, .int .i64 b, .slice p xs.length c] 68)
  have hx1 := hx.below hb1
  obtain ⟨z0, z1, z2⟩ := cells3Te w (.int .i64 a) (.int .i64 b) (.slice p xs.length c) 68
  clear hx
  go_enter Tryd.func45, Tryd.ntmps45
  go_wp2_with (go_at_call 111; refine (szInt64S_any _ xs left h0 h1 _ hx1).mono ?_; rintro e w2 ⟨⟨y, rfl, hy1, hy2, hy3⟩, rfl⟩)
  · go_ret
    exact ⟨⟨-1, rfl, by omega, by omega, fun h => by omega⟩, hb1⟩
  · go_ret
    exact ⟨⟨y, rfl, hy1, hy2, hy3⟩, hb1⟩

set_option maxRecDepth 100000 in
set_option maxHeartbeats 1000000 in
theorem szPartS_any (v : Value) (ts : List Pt) (left : Int) (h0 : 0 ≤ left) (h1 : left ≤ 1048576) (w : World) (hx : ArgPs w v ts) :
    Calls Tryd.prog 7 #[v, .int .i64 left] w fun e w' => (∃ z : Int, e = .returned (.int .i64 z) ∧ -1 ≤ z ∧ z ≤ left ∧ (0 ≤ z → SzP ts)) ∧ Below w.heap.size w w' := by
  obtain ⟨p, c, us, rfl, hn, hr⟩ := id hx
  clear hr
  by_cases h : left - ts.length < 0
  · go_enter Tryd.func7, Tryd.ntmps7
    go_wp2
    go_ret
    exact ⟨⟨-1, rfl, by omega, by omega, fun h => by omega⟩, Below.refl _ _⟩
  · go_enter Tryd.func7, Tryd.ntmps7
    go_wp2
    go_loopw [1, 5] (fun l i wr => ∃ (k : Nat) (z : Int), k ≤ ts.length ∧ i = .int .i64 k ∧ l = .int .i64 z ∧ 0 ≤ z ∧ z ≤ left ∧ (∀ (j : Nat) (q : Pt), j < k → ts[j]? = some q → (q.s.length : Int) ≤ left) ∧ Below w.heap.size w wr) (fun _ i _ => ts.length - (intOf i).toNat)
    case atStart => exact ⟨0, _, Nat.zero_le _, rfl, rfl, by omega, by omega, fun j q hj => by omega, Below.refl _ _⟩
    case round =>
      obtain ⟨k, z, hk, rfl, rfl, hz0, hz1, hrows, hbel⟩ := hrel
      have Hrows := Lib.hid hrows
      have HB := Lib.hid hbel
      clear hrows
      by_cases hlt : k < ts.length
      · obtain ⟨⟨pk, pv, ps⟩, hp⟩ : ∃ p, ts[k]? = some p := ⟨_, List.getElem?_eq_getElem hlt⟩
        have HP := Lib.hid hp
        obtain ⟨b, o, rp, rc, rfl, c0, c1, c2, harg⟩ := (hx.below hbel).at hp
        simp only at c0 c1 c2 harg
        have HA := Lib.hid harg
        clear harg hp hbel
        go_wp2_with (go_at_call 45; refine (szPart_any pk pv _ ps z hz0 (by omega) _ HA.out).mono ?_; rintro e w2 ⟨⟨y, rfl, hy1, hy2, hy3⟩, hb2⟩)
        · go_ret
          exact ⟨⟨-1, rfl, by omega, by omega, fun h => by omega⟩, HB.out.trans (hb2.mono HB.out.size)⟩
        · go_roundw
          case rel =>
            refine ⟨k + 1, y, by omega, by go_num, rfl, by omega, by omega, fun j q hj hq => ?_, HB.out.trans (hb2.mono HB.out.size)⟩
            by_cases e : j = k
            · subst e
              obtain rfl := Option.some.inj (hq.symm.trans HP.out)
              have := hy3 (by omega)
              simp only
              omega
            · exact Hrows.out j q (by omega) hq
          case measure => simp [intOf]; omega
      · obtain rfl : k = ts.length := by omega
        clear hbel
        go_wp2
        go_ret
        exact ⟨⟨z, rfl, by omega, by omega, fun _ => ⟨by omega, fun j q hq => by have := Hrows.out j q (List.getElem?_eq_some_iff.1 hq).1 hq; omega⟩⟩, HB.out⟩

set_option maxRecDepth 100000 in
set_option maxHeartbeats 1000000 in
theorem toPart_any (a b : Int) (u : Value) (xs : List Int) (h1 : xs.length ≤ 1048576) (w : World) (hx : ArgN w u xs) :
    Calls Tryd.prog 47 #[.agg #[.int .i64 a, .int .i64 b, u]] w fun e w' => ∃ b2 c2, e = .returned (.agg #[.int .i64 a, .int .i64 b, .slice (some ⟨b2, 0, none⟩) xs.length c2]) ∧
      w'.ownsRow w.heap.size 2 1 (.slice (some ⟨b2, 0, none⟩) xs.length c2) xs.length (xs.map (Value.int .i64)) ∧ Below w.heap.size w w' := by
  obtain ⟨p, c, rfl, hn, _⟩ := id hx
  go_enter Tryd.func47, Tryd.ntmps47
  go_upto_region 4 with fail
  obtain ⟨W, hW⟩ : ∃ W, W = (((w.alloc (.cells #[.int .i64 a, .int .i64 b, .slice p xs.length c] 68)).alloc (.cells #[.int .i64 0, .int .i64 0, .slice none 0 0] 54)).alloc (.cells #[.int .i64 a, .int .i64 b, .slice none 0 0] 54)) := ⟨_, rfl⟩
  rw [← hW]
  have hb0 : Below w.heap.size w W := by rw [hW]; exact ((below_alloc w _).alloc (by rw [size_alloc]; omega) _).alloc (by rw [size_alloc, size_alloc]; omega) _
  have hsz : W.heap.size = w.heap.size + 3 := by rw [hW, size_alloc, size_alloc, size_alloc]
  have A1 : T3 W w.heap.size 68 (.int .i64 a) (.int .i64 b) (.slice p xs.length c) := by
    rw [hW]; exact ((T3.new w _ _ _ _).alloc _).alloc _
  have A2 : T3 W (w.heap.size + 1) 54 (.int .i64 0) (.int .i64 0) (.slice none 0 0) := by
    rw [hW]
    have := (T3.new (w.alloc (.cells #[.int .i64 a, .int .i64 b, .slice p xs.length c] 68)) (.int .i64 0) (.int .i64 0) (.slice none 0 0) 54).alloc (.cells #[.int .i64 a, .int .i64 b, .slice none 0 0] 54)
    rw [size_alloc] at this
    exact this
  have A3 : T3 W (w.heap.size + 1 + 1) 54 (.int .i64 a) (.int .i64 b) (.slice none 0 0) := by
    rw [hW]
    have := T3.new ((w.alloc (.cells #[.int .i64 a, .int .i64 b, .slice p xs.length c] 68)).alloc (.cells #[.int .i64 0, .int .i64 0, .slice none 0 0] 54)) (.int .i64 a) (.int .i64 b) (.slice none 0 0) 54
    rw [size_alloc, size_alloc] at this
    exact this
  have HX := Lib.hid (hx.below hb0)
  have HB := Lib.hid hb0
  have HA2 := Lib.hid A2
  have HA3 := Lib.hid A3
  obtain ⟨y0, y1, y2⟩ := A1.cells
  clear hW hx A1 A2 A3 hb0
  go_wp2_with (go_at_call 114; refine (toInt64S_any _ xs h1 _ HX.out).mono ?_; rintro e w2 ⟨_, rfl, ⟨b2, c2, rfl⟩, hown2, hb2⟩; have q3 := HA3.out.keep hb2; have q2 := HA2.out.keep hb2; obtain ⟨x0, x1, x2⟩ := q3.cells; obtain ⟨v0, v1, v2⟩ := q2.cells; have f3 := q3.free; have f2 := q2.free; have Q2 := Lib.hid q2; have Q3 := Lib.hid q3; have HO2 := Lib.hid hown2; clear q2 q3 hown2)
  have hs2 := hb2.size
  have QA : T3 (w2.setCell ⟨w.heap.size + 1 + 1, 2, none⟩ (.slice (some ⟨b2, 0, none⟩) xs.length c2)) (w.heap.size + 1) 54 (.int .i64 0) (.int .i64 0) (.slice none 0 0) :=
    ⟨((Below.setCell (B := w.heap.size + 2) (Below.refl _ w2) (show w.heap.size + 2 ≤ w.heap.size + 1 + 1 by omega) (.slice (some ⟨b2, 0, none⟩) xs.length c2)).block _ (by omega)).trans Q2.out.blk⟩
  obtain ⟨r0, r1, r2⟩ := (QA.set (.int .i64 a) (.int .i64 b) (.slice (some ⟨b2, 0, none⟩) xs.length c2)).cells
  refine bodyPost_ret (v := .agg #[.int .i64 a, .int .i64 b, .slice (some ⟨b2, 0, none⟩) xs.length c2]) (by simp [results, Tryd.results47, go_sem, r0, r1, r2]) rfl ⟨_, _, rfl, ?_, ?_⟩
  · exact ownsRow_base (ownsRow_setCell_below (ownsRow_setCell_below (ownsRow_setCell_below (ownsRow_setCell_below HO2.out (by show w.heap.size + 1 + 1 < W.heap.size; omega) _) (by show w.heap.size + 1 < W.heap.size; omega) _) (by show w.heap.size + 1 < W.heap.size; omega) _) (by show w.heap.size + 1 < W.heap.size; omega) _) HB.out.size
  · refine Below.setCell (Below.setCell (Below.setCell (Below.setCell (HB.out.trans (hb2.mono HB.out.size)) ?_ _) ?_ _) ?_ _) ?_ _
    · show w.heap.size ≤ w.heap.size + 1 + 1; omega
    · show w.heap.size ≤ w.heap.size + 1; omega
    · show w.heap.size ≤ w.heap.size + 1; omega
    · show w.heap.size ≤ w.heap.size + 1; omega

/-- Nodes of their own: the kids too. -/
def OwnPs (w : World) (base : Nat) (v : Value) (ts : List Pt) : Prop :=
  ∃ us, us.length = ts.length ∧ w.ownsRow base 54 3 v ts.length (ptCells ts us) ∧ ∀ (j : Nat) (q : Pt), ts[j]? = some q → w.ownsRow base 2 1 (us.getD j undef) q.s.length (q.s.map (Value.int .i64))
theorem OwnPs.below {w w' : World} {base : Nat} {v : Value} {ts : List Pt} (h : OwnPs w base v ts) (hb : Below w.heap.size w w') : OwnPs w' base v ts := by
  obtain ⟨us, h1, h2, h3⟩ := h
  exact ⟨us, h1, ownsRow_below h2 hb, fun j q hq => ownsRow_below (h3 j q hq) hb⟩
theorem OwnPs.lower {w : World} {base base' : Nat} {v : Value} {ts : List Pt} (h : OwnPs w base v ts) (hb : base' ≤ base) : OwnPs w base' v ts := by
  obtain ⟨us, h1, h2, h3⟩ := h
  exact ⟨us, h1, ownsRow_base h2 hb, fun j q hq => ownsRow_base (h3 j q hq) hb⟩
theorem OwnPs.shape {w : World} {base : Nat} {v : Value} {ts : List Pt} (h : OwnPs w base v ts) : ∃ p c, v = .slice p ts.length c := by
  obtain ⟨us, h1, h2, h3⟩ := h
  rcases h2.2 with ⟨h1, h0⟩ | ⟨g, cap, cur, h1, _⟩
  · exact ⟨none, 0, by rw [h1, h0]⟩
  · exact ⟨_, _, h1⟩
theorem OwnPs.trs {w : World} {base : Nat} {v : Value} {ts : List Pt} (h : OwnPs w base v ts) (hs : SzP ts) : Trs w v ts := by
  obtain ⟨us, h1, h2, h3⟩ := h
  exact ⟨us, h1, Sl.of_owns h2 (by have := hs.1; omega), fun j q hq => Nums.of_owns (h3 j q hq) rfl (by have := hs.2 j q hq; omega)⟩

theorem ptCells_set {ts : List Pt} : ∀ {us : List Value}, us.length = ts.length → ∀ (k : Nat) (p : Pt) (u : Value), k < ts.length →
    ((((ptCells ts us).set (k * 3) (.int .i64 p.k)).set (k * 3 + 1) (.int .i64 p.v)).set (k * 3 + 2) u) = ptCells (ts.set k p) (us.set k u) := by
  induction ts with
  | nil => intro us _ k p u hk; simp at hk
  | cons q ts ih =>
    intro us h k p u hk
    cases us with
    | nil => simp at h
    | cons x us =>
      have e : ptCells (q :: ts) (x :: us) = .int .i64 q.k :: .int .i64 q.v :: x :: ptCells ts us := rfl
      rw [e]
      cases k with
      | zero => rfl
      | succ k =>
        have h2 := ih (us := us) (by simpa using h) k p u (by simpa using hk)
        rw [show (k + 1) * 3 = k * 3 + 1 + 1 + 1 by omega, show k * 3 + 1 + 1 + 1 + 2 = k * 3 + 2 + 1 + 1 + 1 by omega]
        simp only [List.set_cons_succ, h2]
        rfl

theorem wpList_mkE {P : Program} {T E : TypeId} {z : Value} {size bytes : Nat} (S : SlTy P T E z size bytes) {w : World} {ops : Array Oper} {rest : List Oper} {o : Oper} {a : Act} {Q : Exit → Act → World → Prop}
    (hgd : o.guard = none) {l c : Operand} (hop : o.op = Op.makeSlice T l c) {kl kc : IntKind} {L C : Int} (n : Nat) (hl : a.eval l = .int kl L) (hc : a.eval c = .int kc C) (hL : L = (n : Int)) (hC : C = (n : Int))
    (hn : n ≤ 1000000000)
    (hK : ∀ xs w', w'.ownsRow w.heap.size E size (.slice (some ⟨w.heap.size, 0, none⟩) n n) n xs → w.grownBy w' none → wpList P ops Q rest (a.put o.dst (.slice (some ⟨w.heap.size, 0, none⟩) n n)) w') :
    wpList P ops Q (o :: rest) a w := by
  obtain ⟨i, hi, hz, hsz, hby⟩ := info_parts S.info
  have hsm := S.small
  refine wpList_make_full w hgd l c T hop w.heap.size E i z size S.under hi hz hsz kl kc L C n hl hc hL hC ?_ (by unfold maxLen; omega) (Nat.le_refl _) fun w' h1 h2 => hK _ w' h1 h2
  rw [hby]
  have : bytes * n ≤ 100 * 1000000000 := Nat.mul_le_mul hsm hn
  omega
theorem three_getT {A R : List Value} {a b c : Value} {n : Nat} (h : A.length = n) : (A ++ a :: b :: c :: R)[n]? = some a ∧ (A ++ a :: b :: c :: R)[n + 1]? = some b ∧ (A ++ a :: b :: c :: R)[n + 2]? = some c := by
  subst h
  refine ⟨by simp, ?_, ?_⟩
  · rw [List.getElem?_append_right (by omega), show A.length + 1 - A.length = 1 by omega]; rfl
  · rw [List.getElem?_append_right (by omega), show A.length + 2 - A.length = 2 by omega]; rfl
theorem three_setT {A R : List Value} {a b c x y z : Value} {n : Nat} (h : A.length = n) : (((A ++ a :: b :: c :: R).set n x).set (n + 1) y).set (n + 2) z = A ++ x :: y :: z :: R := by
  subst h
  rw [List.set_append, if_neg (by omega), List.set_append, if_neg (by omega), List.set_append, if_neg (by omega), Nat.sub_self, show A.length + 1 - A.length = 1 by omega, show A.length + 2 - A.length = 2 by omega]
  rfl
theorem ptCells_snoc : ∀ {ts : List Pt} {us : List Value}, us.length = ts.length → ∀ (p : Pt) (u : Value), ptCells (ts ++ [p]) (us ++ [u]) = ptCells ts us ++ [.int .i64 p.k, .int .i64 p.v, u]
  | [], [], _, p, u => rfl
  | [], _ :: _, h, _, _ => by simp at h
  | _ :: _, [], h, _, _ => by simp at h
  | q :: ts, x :: us, h, p, u => by
    show _ :: _ :: _ :: ptCells (ts ++ [p]) (us ++ [u]) = _
    rw [ptCells_snoc (by simpa using h)]
    rfl

set_option maxRecDepth 100000 in
set_option maxHeartbeats 1000000 in
theorem toPartS_any (v : Value) (ts : List Pt) (hs : SzP ts) (w : World) (hx : ArgPs w v ts) :
    Calls Tryd.prog 9 #[v] w fun e w' => ∃ u, e = .returned u ∧ OwnPs w' w.heap.size u ts ∧ Below w.heap.size w w' := by
  obtain ⟨p, c, us0, rfl, hn, hr⟩ := id hx
  have HX := Lib.hid hx
  have hl := hs.1
  have HS := Lib.hid hs
  clear hr hx hs
  go_enter Tryd.func9, Tryd.ntmps9
  go_wp2_with (at_make; refine wpList_mkE ty_parts rfl rfl ts.length rfl rfl rfl rfl (by omega) ?_; intro xs0 w1 hown1 hg1)
  have hb1 := grown_below hg1
  clear hg1
  go_loopw [4] (fun i wr => ∃ (k : Nat) (us : List Value) (rest : List Value), k ≤ ts.length ∧ i = .int .i64 k ∧ us.length = k ∧ wr.ownsRow w.heap.size 54 3 (.slice (some ⟨w.heap.size, 0, none⟩) ts.length ts.length) ts.length (ptCells (ts.take k) us ++ rest) ∧
      (∀ (j : Nat) (q : Pt), j < k → ts[j]? = some q → wr.ownsRow w.heap.size 2 1 (us.getD j undef) q.s.length (q.s.map (Value.int .i64))) ∧ Below w.heap.size w wr)
    (fun i _ => ts.length - (intOf i).toNat)
  case atStart => exact ⟨0, [], xs0, Nat.zero_le _, rfl, rfl, by simpa [ptCells] using hown1, fun j q hj => by omega, hb1⟩
  case round =>
    clear hown1 hb1
    obtain ⟨k, us, rest, hk, rfl, hul, hown, hrows, hbel⟩ := hrel
    have HR := Lib.hid hrows
    have HUL := Lib.hid hul
    have HB := Lib.hid hbel
    have hpl : (ptCells (ts.take k) us).length = k * 3 := by
      rw [ptCells_length (by rw [List.length_take]; omega), List.length_take]; omega
    have HPL := Lib.hid hpl
    have hrl : rest.length = (ts.length - k) * 3 := by
      have := hown.1
      rw [List.length_append, hpl] at this
      omega
    clear hrows hul
    by_cases hlt : k < ts.length
    · obtain ⟨⟨pk, pv, ps⟩, hp⟩ : ∃ p, ts[k]? = some p := ⟨_, List.getElem?_eq_getElem hlt⟩
      have HP := Lib.hid hp
      have hpl1 := HS.out.2 k _ hp
      obtain ⟨b, o, rp, rc, rfl, c0, c1, c2, harg⟩ := (HX.out.below hbel).at hp
      simp only at c0 c1 c2 harg hpl1
      have HA := Lib.hid harg
      have HO := Lib.hid hown
      obtain ⟨o0, o1, o2, rest', hrest⟩ : ∃ a b c r, rest = a :: b :: c :: r := by
        match rest, hrl with
        | [], h => simp at h; omega
        | [a], h => simp at h; omega
        | [a, b], h => simp at h; omega
        | a :: b :: c :: r, _ => exact ⟨a, b, c, r, rfl⟩
      have HRE := Lib.hid hrest
      clear harg hp hbel hown hrest hrl hpl
      go_wp2_with (go_at_call 47; refine (toPart_any pk pv _ ps hpl1 _ HA.out).mono ?_; rintro e w2 ⟨b2, c2', rfl, ho2, hb2⟩; have HO2 := Lib.hid ho2; have HB2 := Lib.hid hb2; have hor := Lib.hid (ownsRow_below HO.out hb2); have d0 := hor.out.cellAt (k * 3) (by omega); have d1 := hor.out.cellAt (k * 3 + 1) (by omega); have d2 := hor.out.cellAt (k * 3 + 2) (by omega); have f0 := hor.out.frozenAt (k * 3); have f1 := hor.out.frozenAt (k * 3 + 1); have f2 := hor.out.frozenAt (k * 3 + 2); rw [HRE.out] at d0 d1 d2; rw [(three_getT HPL.out).1] at d0; rw [(three_getT HPL.out).2.1] at d1; rw [(three_getT HPL.out).2.2] at d2; clear ho2 hb2)
      obtain ⟨s1, g1⟩ := hor.out.stored (k * 3) (.int .i64 pk)
      obtain ⟨s2, g2⟩ := s1.stored (k * 3 + 1) (.int .i64 pv)
      obtain ⟨s3, g3⟩ := s2.stored (k * 3 + 2) (.slice (some ⟨b2, 0, none⟩) ps.length c2')
      rw [HRE.out, three_setT HPL.out] at s3
      have hbs := HB2.out.size
      have hbw := HB.out.size
      have hbo := HB.out.trans (HB2.out.mono HB.out.size)
      have h1 := below_grown hbo hor.out g1 (Nat.le_refl _) (by omega)
      have h2 := below_grown h1 s1 g2 (Nat.le_refl _) h1.size
      have h3 := below_grown h2 s2 g3 (Nat.le_refl _) h2.size
      have S3 := Lib.hid s3
      have H3 := Lib.hid h3
      have KEEP : Hid (∀ (x : Value) (n base : Nat) (ys : List Value), w2.ownsRow base 2 1 x n ys → (((w2.setCell ⟨w.heap.size, k * 3, none⟩ (.int .i64 pk)).setCell ⟨w.heap.size, k * 3 + 1, none⟩ (.int .i64 pv)).setCell ⟨w.heap.size, k * 3 + 2, none⟩ (.slice (some ⟨b2, 0, none⟩) ps.length c2')).ownsRow base 2 1 x n ys) :=
        Lib.hid fun x n base ys h => ownsRow_other (ownsRow_other (ownsRow_other h hor.out g1 (by decide)) s1 g2 (by decide)) s2 g3 (by decide)
      clear s1 s2 s3 g1 g2 g3 h1 h2 h3 d0 d1 d2 f0 f1 f2 c0 c1 c2 hbo
      go_roundw
      case rel =>
        have hul := HUL.out
        refine ⟨k + 1, us ++ [.slice (some ⟨b2, 0, none⟩) ps.length c2'], rest', by omega, by go_num, by simp [hul], ?_, fun j q hj hq => ?_, H3.out⟩
        · have et : ts.take (k + 1) = ts.take k ++ [⟨pk, pv, ps⟩] := by
            rw [List.take_succ_eq_append_getElem hlt, (List.getElem?_eq_some_iff.1 HP.out).2]
          rw [et, ptCells_snoc (by rw [List.length_take]; omega), List.append_assoc]
          exact S3.out
        · by_cases e : j = k
          · subst e
            obtain rfl := Option.some.inj (hq.symm.trans HP.out)
            have e2 : (us ++ [Value.slice (some ⟨b2, 0, none⟩) ps.length c2']).getD j undef = .slice (some ⟨b2, 0, none⟩) ps.length c2' := by
              rw [List.getD_eq_getElem?_getD, List.getElem?_append_right (by omega), hul, Nat.sub_self]; rfl
            rw [e2]
            exact KEEP.out _ _ _ _ (ownsRow_base HO2.out hbw)
          · have e2 : (us ++ [Value.slice (some ⟨b2, 0, none⟩) ps.length c2']).getD j undef = us.getD j undef := by
              rw [List.getD_eq_getElem?_getD, List.getElem?_append_left (by omega), ← List.getD_eq_getElem?_getD]
            rw [e2]
            exact KEEP.out _ _ _ _ (ownsRow_below (HR.out j q (by omega) hq) HB2.out)
      case measure => simp [intOf]; omega
    · obtain rfl : k = ts.length := by omega
      go_wp2
      go_ret
      have hr0 : rest = [] := List.eq_nil_of_length_eq_zero (by rw [hrl]; simp)
      subst hr0
      rw [List.take_length, List.append_nil] at hown
      exact ⟨_, rfl, ⟨us, HUL.out, hown, fun j q hq => HR.out j q (List.getElem?_eq_some_iff.1 hq).1 hq⟩, hbel⟩

end Go.Proofs.YtfphapcgjlhieaaDoor
