/- What a slice reads as, what a call keeps, and the laws on append and make in these words: over any program. -/
import Derived.WalkKit
import Derived.WalkSpells
import Derived.Lib.Hide
import Derived.BigQuiet
import Derived.Deep.QuietTactic
namespace Go.Proofs.YtfphapcgjlhieaaDoor
open Go.RowKit

/-- From p on lie the cells vals, in a block of elements of type E. -/
def At (w : World) (E : TypeId) (p : Option Addr) (vals : List Value) : Prop :=
  vals = [] ∨ ∃ b o cur fz, p = some ⟨b, o, none⟩ ∧ w.heap[b]? = some (.cells cur E fz) ∧ ∀ j u, vals[j]? = some u → cur[o + j]? = some u

/-- v is a slice of n elements, whose cells are vals. -/
def Sl (w : World) (E : TypeId) (v : Value) (n : Nat) (vals : List Value) : Prop :=
  ∃ p c, v = .slice p n c ∧ (p = none → n = 0 ∧ c = 0) ∧ n ≤ c ∧ n ≤ 1000000000 ∧ At w E p vals

/-- v is a slice of the numbers xs, of kind K. -/
def Nums (w : World) (E : TypeId) (K : IntKind) (v : Value) (xs : List Int) : Prop := Sl w E v xs.length (xs.map (Value.int K))

/-- v is a slice of slices of numbers. -/
def Rws (w : World) (EO EI : TypeId) (v : Value) (xss : List (List Int)) : Prop :=
  ∃ vals, vals.length = xss.length ∧ Sl w EO v xss.length vals ∧ ∀ j, j < xss.length → Nums w EI .i64 (vals.getD j undef) (xss.getD j [])

theorem At.lt {w : World} {E : TypeId} {p : Option Addr} {vals : List Value} (h : At w E p vals) (hv : vals ≠ []) : ∃ b o, p = some ⟨b, o, none⟩ ∧ b < w.heap.size := by
  rcases h with h | ⟨b, o, cur, fz, h1, h2, _⟩
  · exact absurd h hv
  · exact ⟨b, o, h1, (Array.getElem?_eq_some_iff.1 h2).1⟩

/-- What is kept: whatever keeps the block keeps what lies there. -/
theorem At.keep {w w' : World} {E : TypeId} {p : Option Addr} {vals : List Value} (h : At w E p vals)
    (hk : ∀ (b o : Nat) (cur : Array Value) (fz : Nat × Nat), p = some ⟨b, o, none⟩ → w.heap[b]? = some (Obj.cells cur E fz) → w'.heap[b]? = w.heap[b]?) : At w' E p vals := by
  rcases h with h | ⟨b, o, cur, fz, h1, h2, h3⟩
  · exact .inl h
  · exact .inr ⟨b, o, cur, fz, h1, (hk b o cur fz h1 h2).trans h2, h3⟩

theorem Sl.keep {w w' : World} {E : TypeId} {v : Value} {n : Nat} {vals : List Value} (h : Sl w E v n vals)
    (hk : ∀ (b : Nat) (cur : Array Value) (fz : Nat × Nat), w.heap[b]? = some (Obj.cells cur E fz) → w'.heap[b]? = w.heap[b]?) : Sl w' E v n vals := by
  obtain ⟨p, c, h1, h2, h3, h4, h5⟩ := h
  exact ⟨p, c, h1, h2, h3, h4, h5.keep fun b _ cur fz _ hb => hk b cur fz hb⟩

theorem Sl.below {w w' : World} {E : TypeId} {v : Value} {n : Nat} {vals : List Value} (h : Sl w E v n vals) (hb : Below w.heap.size w w') : Sl w' E v n vals :=
  h.keep fun b _ _ hbb => hb.block b (Array.getElem?_eq_some_iff.1 hbb).1
theorem Nums.below {w w' : World} {E : TypeId} {K : IntKind} {v : Value} {xs : List Int} (h : Nums w E K v xs) (hb : Below w.heap.size w w') : Nums w' E K v xs := Sl.below h hb
theorem Rws.below {w w' : World} {EO EI : TypeId} {v : Value} {xss : List (List Int)} (h : Rws w EO EI v xss) (hb : Below w.heap.size w w') : Rws w' EO EI v xss := by
  obtain ⟨vals, h1, h2, h3⟩ := h
  exact ⟨vals, h1, h2.below hb, fun j hj => (h3 j hj).below hb⟩

/-- Only the row of v, of elements E', is written: what has elements of another type stays. -/
theorem Sl.other {w w' : World} {E E' : TypeId} {v u : Value} {n m : Nat} {vals ys : List Value} {base size : Nat} (h : Sl w E v n vals)
    (ho : w.ownsRow base E' size u m ys) (hg : w.grownBy w' u.ownBlock) (hE : E ≠ E') : Sl w' E v n vals := by
  refine h.keep fun b cur fz hb => hg.block b (Array.getElem?_eq_some_iff.1 hb).1 fun e => ?_
  rcases ho.2 with ⟨rfl, _⟩ | ⟨g, cap, cur', rfl, _, hgg, _⟩
  · simp [Value.ownBlock] at e
  · simp [Value.ownBlock] at e
    subst e
    rw [hb] at hgg
    simp only [Option.some.injEq, Obj.cells.injEq] at hgg
    exact hE hgg.2.1

theorem Nums.other {w w' : World} {E E' : TypeId} {K : IntKind} {v u : Value} {m : Nat} {xs : List Int} {ys : List Value} {base size : Nat} (h : Nums w E K v xs)
    (ho : w.ownsRow base E' size u m ys) (hg : w.grownBy w' u.ownBlock) (hE : E ≠ E') : Nums w' E K v xs := Sl.other h ho hg hE

theorem Rws.other {w w' : World} {EO EI E' : TypeId} {v u : Value} {m : Nat} {g : List (List Int)} {ys : List Value} {base size : Nat} (h : Rws w EO EI v g)
    (ho : w.ownsRow base E' size u m ys) (hg : w.grownBy w' u.ownBlock) (h1 : EO ≠ E') (h2 : EI ≠ E') : Rws w' EO EI v g := by
  obtain ⟨vals, e1, e2, e3⟩ := h
  exact ⟨vals, e1, e2.other ho hg h1, fun j hj => (e3 j hj).other ho hg h2⟩

/-- Of the same type, but below base, where the row of u begins. -/
theorem Sl.under {w w' : World} {E E' : TypeId} {v u : Value} {n m : Nat} {vals ys : List Value} {base size : Nat} (h : Sl w E v n vals)
    (hlt : ∀ p c, v = .slice p n c → vals = [] ∨ ∃ b o, p = some ⟨b, o, none⟩ ∧ b < base)
    (ho : w.ownsRow base E' size u m ys) (hg : w.grownBy w' u.ownBlock) : Sl w' E v n vals := by
  obtain ⟨p, c, h1, h2, h3, h4, h5⟩ := h
  refine ⟨p, c, h1, h2, h3, h4, ?_⟩
  rcases hlt p c h1 with e | ⟨b', o', e1, e2⟩
  · exact .inl e
  · refine h5.keep fun b o cur fz hp hb => hg.block b (Array.getElem?_eq_some_iff.1 hb).1 fun e => ?_
    rw [hp] at e1
    simp only [Option.some.injEq, Addr.mk.injEq, and_true] at e1
    have := (ho.lt b e.symm).1
    omega

/-- What is owned can be read. -/
theorem At.of_owns {w : World} {base : Nat} {E : TypeId} {size n c : Nat} {p : Option Addr} {xs : List Value} (h : w.ownsRow base E size (.slice p n c) n xs) : At w E p xs := by
  rcases h.2 with ⟨h1, rfl⟩ | ⟨g, cap, cur, h1, _, hg, _, _, _, ht⟩
  · left
    exact List.eq_nil_of_length_eq_zero (by simpa using h.1)
  · right
    simp only [Value.slice.injEq] at h1
    refine ⟨g, 0, cur, _, h1.1, hg, fun j u hu => ?_⟩
    rw [← ht, List.getElem?_take] at hu
    split at hu
    · simpa using hu
    · cases hu

theorem Sl.of_owns {w : World} {base : Nat} {E : TypeId} {size n : Nat} {v : Value} {xs : List Value} (h : w.ownsRow base E size v n xs) (hn : n ≤ 1000000000) : Sl w E v n xs := by
  rcases h.2 with ⟨rfl, rfl⟩ | ⟨g, cap, cur, rfl, _, _, hnc, _⟩
  · exact ⟨none, 0, rfl, fun _ => ⟨rfl, rfl⟩, Nat.le_refl _, hn, At.of_owns h⟩
  · exact ⟨_, cap, rfl, (fun e => by cases e), hnc, hn, At.of_owns h⟩

theorem Nums.of_owns {w : World} {base : Nat} {E : TypeId} {K : IntKind} {size n : Nat} {v : Value} {xs : List Int} (h : w.ownsRow base E size v n (xs.map (Value.int K))) (he : n = xs.length) (hn : n ≤ 1000000000) : Nums w E K v xs := by
  subst he; exact Sl.of_owns h hn

/-- The cells, for the walk. -/
theorem At.cells {w : World} {E : TypeId} {p : Option Addr} {vals : List Value} (h : At w E p vals) {k : Nat} (hk : k < vals.length) :
    ∃ b o, p = some ⟨b, o, none⟩ ∧ ∀ j u, vals[j]? = some u → w.cell? ⟨b, o + j, none⟩ = some u := by
  rcases h with h | ⟨b, o, cur, fz, h1, h2, h3⟩
  · subst h; simp at hk
  · exact ⟨b, o, h1, fun j u hu => by simp [World.cell?, h2, h3 j u hu]⟩

theorem At.num {w : World} {E : TypeId} {K : IntKind} {p : Option Addr} {xs : List Int} (h : At w E p (xs.map (Value.int K))) {k : Nat} (hk : k < xs.length) :
    ∃ b o, p = some ⟨b, o, none⟩ ∧ w.cell? ⟨b, o + k, none⟩ = some (.int K xs[k]) := by
  obtain ⟨b, o, h1, h2⟩ := h.cells (k := k) (by simpa using hk)
  exact ⟨b, o, h1, h2 k _ (by simp [hk])⟩

theorem ownsRow_below {w w' : World} {base : Nat} {E : TypeId} {size n : Nat} {v : Value} {xs : List Value} (h : w.ownsRow base E size v n xs) (hb : Below w.heap.size w w') : w'.ownsRow base E size v n xs := by
  refine ⟨h.1, ?_⟩
  rcases h.2 with h2 | ⟨g, cap, cur, h1, h2, h3, h4⟩
  · exact .inl h2
  · exact .inr ⟨g, cap, cur, h1, h2, (hb.block g (Array.getElem?_eq_some_iff.1 h3).1).trans h3, h4⟩

theorem ownsRow_base {w : World} {base base' : Nat} {E : TypeId} {size n : Nat} {v : Value} {xs : List Value} (h : w.ownsRow base E size v n xs) (hb : base' ≤ base) : w.ownsRow base' E size v n xs := by
  refine ⟨h.1, ?_⟩
  rcases h.2 with h2 | ⟨g, cap, cur, h1, h2, h3, h4⟩
  · exact .inl h2
  · exact .inr ⟨g, cap, cur, h1, Nat.le_trans hb h2, h3, h4⟩

/-- An owned row of elements E stays while another row, of elements E', is written. -/
theorem ownsRow_other {w w' : World} {base base' : Nat} {E E' : TypeId} {size size' n m : Nat} {v u : Value} {xs ys : List Value} (h : w.ownsRow base E size v n xs)
    (ho : w.ownsRow base' E' size' u m ys) (hg : w.grownBy w' u.ownBlock) (hE : E ≠ E') : w'.ownsRow base E size v n xs := by
  refine ⟨h.1, ?_⟩
  rcases h.2 with h2 | ⟨g, cap, cur, h1, h2, h3, h4⟩
  · exact .inl h2
  · refine .inr ⟨g, cap, cur, h1, h2, (hg.block g (Array.getElem?_eq_some_iff.1 h3).1 fun e => ?_).trans h3, h4⟩
    rcases ho.2 with ⟨rfl, _⟩ | ⟨g', cap', cur', rfl, _, hgg, _⟩
    · simp [Value.ownBlock] at e
    · simp [Value.ownBlock] at e
      subst e
      rw [h3] at hgg
      simp only [Option.some.injEq, Obj.cells.injEq] at hgg
      exact hE hgg.2.1

/-- Below, behind a row of the call's own. -/
theorem below_grown {B : Nat} {w0 w w' : World} {base : Nat} {E : TypeId} {size n : Nat} {v : Value} {xs : List Value} (hb : Below B w0 w) (ho : w.ownsRow base E size v n xs)
    (hg : w.grownBy w' v.ownBlock) (h1 : B ≤ base) (h2 : B ≤ w.heap.size) : Below B w0 w' :=
  hb.grown hg h2 fun k hk => Nat.le_trans h1 (ho.lt k hk).1

theorem below_le {B : Nat} {w w' w'' : World} (h : Below B w w') (h' : Below w'.heap.size w' w'') (hB : B ≤ w'.heap.size) : Below B w w'' := h.trans (h'.mono hB)

/-- A slice type and its elements, of one cell. -/
structure SlTy (P : Program) (T E : TypeId) (z : Value) (size bytes : Nat) : Prop where
  under : P.underlying T = some (.slice E)
  info : (P.info? E).map (fun i => (i.zero, i.size, i.bytes)) = some (some z, size, bytes)
  cells : z.cells.size = size
  pos : 0 < size
  small : bytes ≤ 100

/-- append: what is owned behind it, and where it lies. -/
theorem run_app {P : Program} {T E : TypeId} {z : Value} {size bytes : Nat} (S : SlTy P T E z size bytes) (w : World) (ty : TypeId) (base : Nat)
    (v : Value) (n : Nat) (xs : List Value) (hown : w.ownsRow base E size v n xs) (u : Value) (m : Nat) (news : List Value) (hu : Sl w E u m news) (hl : news.length = m * size)
    (h1 : ∀ x ∈ news, x.oneCell' = true) (hnm : n + m ≤ 1000000000) (hbase : base ≤ w.heap.size) :
    ∃ v' w', (Builtin.append_ #[T, T] ty #[v, u]).run P w = .ok v' w' ∧ w'.ownsRow base E size v' (n + m) (xs ++ news) ∧ w.grownBy w' v.ownBlock ∧
      (∀ k, v'.ownBlock = some k → v.ownBlock = some k ∨ w.heap.size ≤ k) := by
  obtain ⟨i, hi, hz, hsz, hby⟩ := info_parts S.info
  have hbytes : (n + m) * bytes ≤ 140737488355328 := by
    have := S.small
    have h2 : (n + m) * bytes ≤ 1000000000 * 100 := Nat.mul_le_mul hnm this
    omega
  have hmax : n + m ≤ maxLen := by unfold maxLen; omega
  obtain ⟨p, c, rfl, hp, hmc, _, hat⟩ := hu
  cases p with
  | none =>
    obtain ⟨rfl, rfl⟩ := hp rfl
    have hnews : news = [] := List.eq_nil_of_length_eq_zero (by simpa using hl)
    subst hnews
    have hr := run_append_owned_none (P := P) w base T ty E i size S.under hi v n xs hown
    exact ⟨v, w, hr, by simpa using hown, World.grownBy.refl _ _, fun k hk => .inl hk⟩
  | some ad =>
    have hcell : ∀ j x, news[j]? = some x → w.cell? (ad.add j) = some x := by
      rcases hat with rfl | ⟨b, o, cur, fz, hpe, hb, hc⟩
      · intro j x hx; simp at hx
      · simp only [Option.some.injEq] at hpe
        subst hpe
        intro j x hx
        have hadd : (⟨b, o, none⟩ : Addr).add j = ⟨b, o + j, none⟩ := by unfold Addr.add; split <;> simp_all
        rw [hadd]
        simp [World.cell?, hb, hc j x hx]
    have hcells := S.cells
    have hpos := S.pos
    have hund := S.under
    subst hsz
    subst hby
    -- the ways of an append
    rcases hown.2 with ⟨rfl, rfl⟩ | ⟨g, cap, cur, rfl, hbg, hg, hnc, hcm, hcs, htake⟩
    · obtain ⟨v', w', hr, ho, hgr, _⟩ := run_append_own (P := P) w base T ty E i z i.size i.bytes hund hi hz rfl rfl hcells hpos _ 0 xs hown ad m c news hl hcell h1 hmax hbytes hbase
      by_cases hm0 : m = 0
      · subst hm0
        have hnews : news = [] := List.eq_nil_of_length_eq_zero (by simpa using hl)
        subst hnews
        refine ⟨v', w', hr, ho, hgr, fun k hk => ?_⟩
        have hxs : xs = [] := List.eq_nil_of_length_eq_zero (by simpa using hown.1)
        have hr2 : (Builtin.append_ #[T, T] ty #[.slice none 0 0, .slice (some ad) 0 c]).run P w = .ok (.slice none 0 0) w := by
          simp [Builtin.append_, run_underlying hund, sizeOf, typeInfo, hi, Builtin.lenOf, Builtin.firstCells, loadCells, loadCellsFrom]
        rw [hr2] at hr
        simp only [Result.ok.injEq] at hr
        obtain ⟨rfl, rfl⟩ := hr
        simp [Value.ownBlock] at hk
      · have hr2 := run_append_nil (P := P) w T ty E i z hund hi hz ad m c news hl hcell (by omega) (by omega) (by have hb := hbytes; simp only [Nat.zero_add] at hb; omega)
        have heq := hr.symm.trans hr2
        simp only [Result.ok.injEq] at heq
        refine ⟨v', w', hr, ho, hgr, fun k hk => .inr ?_⟩
        rw [heq.1] at hk
        simp [Value.ownBlock] at hk
        omega
    · obtain ⟨v', w', hr, ho, hgr, _⟩ := run_append_own (P := P) w base T ty E i z i.size i.bytes hund hi hz rfl rfl hcells hpos _ n xs hown ad m c news hl hcell h1 hmax hbytes hbase
      by_cases hroom : n + m ≤ cap
      · have hfit : n * i.size + news.length ≤ cur.size := by rw [hl, hcs, ← Nat.add_mul]; exact Nat.mul_le_mul_right _ hroom
        have hr2 := run_append_room (P := P) w T ty E i hund hi g n cap cur hg ad m c news hl hcell h1 hroom hfit
        have heq := hr.symm.trans hr2
        simp only [Result.ok.injEq] at heq
        refine ⟨v', w', hr, ho, hgr, fun k hk => .inl ?_⟩
        rw [heq.1] at hk
        simpa [Value.ownBlock] using hk
      · have holds : ∀ j x, xs[j]? = some x → w.cell? ((⟨g, 0, none⟩ : Addr).add j) = some x := hown.cells (g := g) rfl
        have hr2 := run_append_grow (P := P) w T ty E i z hund hi hz ⟨g, 0, none⟩ n cap xs hown.1 holds ad m c news hl hcell (by omega) (by omega) (growslice_fits (by omega) hbytes)
        have heq := hr.symm.trans hr2
        simp only [Result.ok.injEq] at heq
        refine ⟨v', w', hr, ho, hgr, fun k hk => .inr ?_⟩
        rw [heq.1] at hk
        simp [Value.ownBlock] at hk
        omega

/-- 'append(s, x...)' as an arm of the walk: s the call's own, x any slice that reads. -/
theorem wpList_app {P : Program} {T E : TypeId} {z : Value} {size bytes : Nat} (S : SlTy P T E z size bytes) {w : World} {ops : Array Oper} {rest : List Oper} {o : Oper} {a : Act} {Q : Exit → Act → World → Prop}
    (hgd : o.guard = none) {s x : Operand} (ho : o.op = .call { callee := .builtin .append, args := #[s, x], argTypes := #[T, T] })
    {base : Nat} {v : Value} {n : Nat} {xs : List Value} (hs : a.eval s = v) (hown : w.ownsRow base E size v n xs)
    {u : Value} {m : Nat} {news : List Value} (hx : a.eval x = u) (hu : Sl w E u m news) (hl : news.length = m * size) (h1 : ∀ x ∈ news, x.oneCell' = true)
    (hnm : n + m ≤ 1000000000) (hbase : base ≤ w.heap.size)
    (h : ∀ v' w', w'.ownsRow base E size v' (n + m) (xs ++ news) → w.grownBy w' v.ownBlock → (∀ k, v'.ownBlock = some k → v.ownBlock = some k ∨ w.heap.size ≤ k) → wpList P ops Q rest (a.put o.dst v') w') :
    wpList P ops Q (o :: rest) a w := by
  refine wpList_plain hgd fun _ hK => ?_
  obtain ⟨v', w', hr, h2, h3, h4⟩ := run_app S w o.type base v n xs hown u m news hu hl h1 hnm hbase
  unfold Oper.wp execOp
  simp only [ho, resolve, invoke, builtin, Sem.run_bind, Sem.run_pure, Result.andThen_ok, List.map_toArray, List.map_cons, List.map_nil, hs, hx, hr]
  exact hK _ _ (h v' w' h2 h3 h4)

/-- 'append(s, x)' of one element of one cell: x lies in the block that was just laid. -/
theorem wpList_app1 {P : Program} {T E : TypeId} {z : Value} {bytes : Nat} (S : SlTy P T E z 1 bytes) {w : World} {ops : Array Oper} {rest : List Oper} {o : Oper} {a : Act} {Q : Exit → Act → World → Prop}
    (hgd : o.guard = none) {s x : Operand} (ho : o.op = .call { callee := .builtin .append, args := #[s, x], argTypes := #[T, T] })
    {base : Nat} {v : Value} {n : Nat} {xs : List Value} {el : Value} (hs : a.eval s = v) (hown : w.ownsRow base E 1 v n xs)
    (hx : a.eval x = .slice (some ⟨w.heap.size, 0, none⟩) 1 1) (h1 : el.oneCell' = true)
    (hnm : n < 1000000000) (hbase : base ≤ w.heap.size)
    (h : ∀ v' w', w'.ownsRow base E 1 v' (n + 1) (xs ++ [el]) → w.grownBy w' v.ownBlock → (∀ k, v'.ownBlock = some k → v.ownBlock = some k ∨ w.heap.size < k) → wpList P ops Q rest (a.put o.dst v') w') :
    wpList P ops Q (o :: rest) a (w.alloc (.cells #[el] E)) := by
  have hal : (w.alloc (.cells #[el] E)).heap.size = w.heap.size + 1 := by show (w.heap.push _).size = _; simp
  refine wpList_app S (w := w.alloc (.cells #[el] E)) (m := 1) (news := [el]) hgd ho hs (hown.alloc _) hx ⟨_, 1, rfl, (fun e => by cases e), Nat.le_refl _, by omega, Or.inr ⟨w.heap.size, 0, #[el], (0, 0), rfl, heap_alloc_new w _, ?_⟩⟩ (by simp) (by simpa using h1) (by omega) (by omega) fun v' w' h2 h3 h4 => h v' w' h2 ?_ fun k hk => ?_
  · intro j u hu
    match j, hu with
    | 0, hu => simpa using hu
    | j + 1, hu => simp at hu
  · exact ⟨h3.os, h3.tape, h3.output, by have := h3.size; omega, fun k hk hne => (h3.block k (by omega) hne).trans (Below.heap_alloc w _ k hk)⟩
  · rcases h4 k hk with h5 | h5
    · exact .inl h5
    · exact .inr (by omega)

/-- 'append(s, x)' of one element of several cells: x lies in the block that was just laid. -/
theorem wpList_appE {P : Program} {T E : TypeId} {z : Value} {size bytes : Nat} (S : SlTy P T E z size bytes) {w : World} {ops : Array Oper} {rest : List Oper} {o : Oper} {a : Act} {Q : Exit → Act → World → Prop}
    (hgd : o.guard = none) {s x : Operand} (ho : o.op = .call { callee := .builtin .append, args := #[s, x], argTypes := #[T, T] })
    {base : Nat} {v : Value} {n : Nat} {xs : List Value} {cs : Array Value} (hs : a.eval s = v) (hown : w.ownsRow base E size v n xs)
    (hx : a.eval x = .slice (some ⟨w.heap.size, 0, none⟩) 1 1) (hcs : cs.size = size) (h1 : ∀ c ∈ cs.toList, c.oneCell' = true)
    (hnm : n < 1000000000) (hbase : base ≤ w.heap.size)
    (h : ∀ b c w', w'.ownsRow base E size (.slice (some ⟨b, 0, none⟩) (n + 1) c) (n + 1) (xs ++ cs.toList) → w.grownBy w' v.ownBlock → (v.ownBlock = some b ∨ w.heap.size < b) → (w.alloc (.cells cs E)).grownBy w' v.ownBlock → wpList P ops Q rest (a.put o.dst (.slice (some ⟨b, 0, none⟩) (n + 1) c)) w') :
    wpList P ops Q (o :: rest) a (w.alloc (.cells cs E)) := by
  have hal : (w.alloc (.cells cs E)).heap.size = w.heap.size + 1 := by show (w.heap.push _).size = _; simp
  refine wpList_app S (w := w.alloc (.cells cs E)) (m := 1) (news := cs.toList) hgd ho hs (hown.alloc _) hx ⟨_, 1, rfl, (fun e => by cases e), Nat.le_refl _, by omega, Or.inr ⟨w.heap.size, 0, cs, (0, 0), rfl, heap_alloc_new w _, ?_⟩⟩ (by simp [hcs]) h1 (by omega) (by omega) fun v' w' h2 h3 h4 => ?_
  · intro j u hu
    rw [Nat.zero_add]
    simpa using hu
  · rcases id h2.2 with ⟨_, h0⟩ | ⟨g, cap, cur, rfl, _⟩
    · omega
    · refine h g cap w' h2 ⟨h3.os, h3.tape, h3.output, by have := h3.size; omega, fun k hk hne => (h3.block k (by omega) hne).trans (Below.heap_alloc w _ k hk)⟩ ?_ h3
      rcases h4 g rfl with h5 | h5
      · exact .inl h5
      · exact .inr (by omega)

/-- The same, the value's shape told. -/
theorem wpList_app1s {P : Program} {T E : TypeId} {z : Value} {bytes : Nat} (S : SlTy P T E z 1 bytes) {w : World} {ops : Array Oper} {rest : List Oper} {o : Oper} {a : Act} {Q : Exit → Act → World → Prop}
    (hgd : o.guard = none) {s x : Operand} (ho : o.op = .call { callee := .builtin .append, args := #[s, x], argTypes := #[T, T] })
    {base : Nat} {v : Value} {n : Nat} {xs : List Value} {el : Value} (hs : a.eval s = v) (hown : w.ownsRow base E 1 v n xs)
    (hx : a.eval x = .slice (some ⟨w.heap.size, 0, none⟩) 1 1) (h1 : el.oneCell' = true)
    (hnm : n < 1000000000) (hbase : base ≤ w.heap.size)
    (h : ∀ b c w', w'.ownsRow base E 1 (.slice (some ⟨b, 0, none⟩) (n + 1) c) (n + 1) (xs ++ [el]) → w.grownBy w' v.ownBlock → (v.ownBlock = some b ∨ w.heap.size < b) → wpList P ops Q rest (a.put o.dst (.slice (some ⟨b, 0, none⟩) (n + 1) c)) w') :
    wpList P ops Q (o :: rest) a (w.alloc (.cells #[el] E)) :=
  wpList_app1 S hgd ho hs hown hx h1 hnm hbase fun v' w' h2 h3 h4 => by
    rcases id h2.2 with ⟨_, h0⟩ | ⟨g, cap, cur, rfl, _⟩
    · omega
    · exact h g cap w' h2 h3 (h4 g rfl)

/-- 'make([]T, n)' of elements of one cell. -/
theorem wpList_mk {P : Program} {T E : TypeId} {z : Value} {bytes : Nat} (S : SlTy P T E z 1 bytes) (hz1 : z.cells = #[z]) {w : World} {ops : Array Oper} {rest : List Oper} {o : Oper} {a : Act} {Q : Exit → Act → World → Prop}
    (hgd : o.guard = none) {l c : Operand} (hop : o.op = Op.makeSlice T l c) {kl kc : IntKind} {L C : Int} (n : Nat) (hl : a.eval l = .int kl L) (hc : a.eval c = .int kc C) (hL : L = (n : Int)) (hC : C = (n : Int))
    (hn : n ≤ 1000000000)
    (hK : ∀ w', w'.ownsRow w.heap.size E 1 (.slice (some ⟨w.heap.size, 0, none⟩) n n) n (List.replicate n z) → w.grownBy w' none → wpList P ops Q rest (a.put o.dst (.slice (some ⟨w.heap.size, 0, none⟩) n n)) w') :
    wpList P ops Q (o :: rest) a w := by
  obtain ⟨i, hi, hz, hsz, hby⟩ := info_parts S.info
  have hsm := S.small
  refine wpList_make_full w hgd l c T hop w.heap.size E i z 1 S.under hi hz hsz kl kc L C n hl hc hL hC ?_ (by unfold maxLen; omega) (Nat.le_refl _) fun w' h1 h2 => hK w' ?_ h2
  · rw [hby]
    have : bytes * n ≤ 100 * 1000000000 := Nat.mul_le_mul hsm hn
    omega
  · rw [hz1, Nat.mul_one, toList_madeCells_one] at h1
    exact h1

/-- 'make([]T, 0, n)'. -/
theorem wpList_mk0 {P : Program} {T E : TypeId} {z : Value} {size bytes : Nat} (S : SlTy P T E z size bytes) {w : World} {ops : Array Oper} {rest : List Oper} {o : Oper} {a : Act} {Q : Exit → Act → World → Prop}
    (hgd : o.guard = none) {l c : Operand} (hop : o.op = Op.makeSlice T l c) {kl kc : IntKind} {C : Int} (n : Nat) (hl : a.eval l = .int kl 0) (hc : a.eval c = .int kc C) (hC : C = (n : Int))
    (hn : n ≤ 1000000000)
    (hK : ∀ w', w'.ownsRow w.heap.size E size (.slice (some ⟨w.heap.size, 0, none⟩) 0 n) 0 [] → w.grownBy w' none → wpList P ops Q rest (a.put o.dst (.slice (some ⟨w.heap.size, 0, none⟩) 0 n)) w') :
    wpList P ops Q (o :: rest) a w := by
  obtain ⟨i, hi, hz, hsz, hby⟩ := info_parts S.info
  have hsm := S.small
  refine wpList_make_own w hgd l c T hop w.heap.size E i z size S.under hi hz hsz kl kc C n hl hc hC ?_ (by unfold maxLen; omega) (Nat.le_refl _) fun w' h1 h2 => hK w' h1 h2
  rw [hby]
  have : bytes * n ≤ 100 * 1000000000 := Nat.mul_le_mul hsm hn
  omega

/-- 'T{}': an empty slice in a new block of its own. -/
theorem ownsRow_empty (w : World) (E : TypeId) (size : Nat) : (w.alloc (.cells #[] E)).ownsRow w.heap.size E size (.slice (some ⟨w.heap.size, 0, none⟩) 0 0) 0 [] :=
  World.ownsRow_lit w #[] 0 (Nat.le_refl _) (Nat.zero_le _) (by simp)

theorem ownsRow_empty' (w : World) (o : Obj) (E : TypeId) (size base : Nat) (hb : base ≤ w.heap.size + 1) : ((w.alloc o).alloc (.cells #[] E)).ownsRow base E size (.slice (some ⟨w.heap.size + 1, 0, none⟩) 0 0) 0 [] := by
  have hs : (w.alloc o).heap.size = w.heap.size + 1 := by show (w.heap.push o).size = _; simp
  have := World.ownsRow_lit (w.alloc o) #[] 0 (base := base) (e := E) (size := size) (by omega) (Nat.zero_le _) (by simp)
  rwa [hs] at this

theorem grown_trans {a b c : World} {r : Option Nat} (h : a.grownBy b r) (k : b.grownBy c r) : a.grownBy c r :=
  ⟨k.os.trans h.os, k.tape.trans h.tape, k.output.trans h.output, Nat.le_trans h.size k.size, fun i hi hn => (k.block i (Nat.lt_of_lt_of_le hi h.size) hn).trans (h.block i hi hn)⟩
theorem grown_of_below {a b : World} (h : Below a.heap.size a b) (r : Option Nat) : a.grownBy b r := ⟨h.os, h.tape, h.output, h.size, fun i hi _ => h.block i hi⟩

theorem grown_below {w w' : World} (h : w.grownBy w' none) : Below w.heap.size w w' := ⟨h.os, h.tape, h.output, h.size, fun k hk => h.block k hk (by simp)⟩

theorem flip {P : Program} {f : FuncId} {args : Array Value} {w : World} {X : Ending} (h : Calls P f args w fun e w' => e = X ∧ w = w') : Calls P f args w fun e w' => e = X ∧ w' = w :=
  h.mono fun _ _ ⟨a, b⟩ => ⟨a, b.symm⟩
theorem ret_bool {a b : Bool} (h : a = b) : Ending.returned (.bool a) = .returned (.bool b) := by rw [h]
theorem ret_int {k : IntKind} {a b : Int} (h : a = b) : Ending.returned (.int k a) = .returned (.int k b) := by rw [h]
theorem val_int {k : IntKind} {a b : Int} (h : a = b) : Value.int k a = .int k b := by rw [h]
theorem size_alloc (w : World) (o : Obj) : (w.alloc o).heap.size = w.heap.size + 1 := by show (w.heap.push _).size = _; simp
theorem take_snoc {α : Type} (l : List α) (k : Nat) (h : k < l.length) : l.take (k + 1) = l.take k ++ [l[k]] := List.take_succ_eq_append_getElem h
theorem below_dN {B : Nat} {a w : World} (h : Below B a w) (n : Nat) : Below B a (w.drewN n) := ⟨h.os, h.tape, h.output, h.size, h.block⟩
theorem below_alloc (w : World) (o : Obj) : Below w.heap.size w (w.alloc o) := (Below.refl _ _).alloc (Nat.le_refl _) o

theorem At.take {w : World} {E : TypeId} {p : Option Addr} {vals : List Value} (h : At w E p vals) (k : Nat) : At w E p (vals.take k) := by
  rcases h with rfl | ⟨b, o, cur, fz, h1, h2, h3⟩
  · left; simp
  · right
    refine ⟨b, o, cur, fz, h1, h2, fun j u hu => h3 j u ?_⟩
    rw [List.getElem?_take] at hu
    split at hu
    · exact hu
    · cases hu
theorem At.drop {w : World} {E : TypeId} {b o : Nat} {vals : List Value} (h : At w E (some ⟨b, o, none⟩) vals) (k : Nat) : At w E (some ⟨b, o + k, none⟩) (vals.drop k) := by
  rcases h with rfl | ⟨b', o', cur, fz, h1, h2, h3⟩
  · left; simp
  · right
    simp only [Option.some.injEq, Addr.mk.injEq, and_true] at h1
    obtain ⟨rfl, rfl⟩ := h1
    refine ⟨b, o + k, cur, fz, rfl, h2, fun j u hu => ?_⟩
    rw [List.getElem?_drop] at hu
    rw [Nat.add_assoc]
    exact h3 (k + j) u hu
theorem At.end_ {w : World} {E : TypeId} {p : Option Addr} {vals : List Value} (k : Nat) (h : vals.length ≤ k) : At w E p (vals.drop k) := .inl (List.drop_of_length_le h)
theorem At.below {w w' : World} {E : TypeId} {p : Option Addr} {vals : List Value} (h : At w E p vals) (hb : Below w.heap.size w w') : At w' E p vals :=
  h.keep fun b _ _ _ _ hbb => hb.block b (Array.getElem?_eq_some_iff.1 hbb).1

theorem Sl.nothing (w : World) (E : TypeId) (p : Option Addr) (c : Nat) (h : p = none → c = 0) : Sl w E (.slice p 0 c) 0 [] := ⟨p, c, rfl, fun e => ⟨rfl, h e⟩, Nat.zero_le _, by omega, .inl rfl⟩

/-- Row k of a slice of slices, for the walk. -/
theorem Rws.get {w : World} {EO EI : TypeId} {p : Option Addr} {n c : Nat} {g : List (List Int)} (h : Rws w EO EI (.slice p n c) g) {k : Nat} (hk : k < g.length) :
    ∃ b o rp rc, p = some ⟨b, o, none⟩ ∧ w.cell? ⟨b, o + k, none⟩ = some (.slice rp (g.getD k []).length rc) ∧ Nums w EI .i64 (.slice rp (g.getD k []).length rc) (g.getD k []) := by
  obtain ⟨vals, hl, ⟨p', c', he, _, _, _, hat⟩, hr⟩ := h
  simp only [Value.slice.injEq] at he
  obtain ⟨rfl, rfl, rfl⟩ := he
  obtain ⟨b, o, hp, hc⟩ := hat.cells (k := k) (by omega)
  have hrow := hr k hk
  obtain ⟨rp, rc, hv, _⟩ := id hrow
  have hck := hc k (vals.getD k undef) (by rw [List.getD_eq_getElem?_getD, List.getElem?_eq_getElem (by omega)]; rfl)
  rw [hv] at hck hrow
  exact ⟨b, o, rp, rc, hp, hck, hrow⟩

theorem Rws.shape {w : World} {EO EI : TypeId} {v : Value} {g : List (List Int)} (h : Rws w EO EI v g) : ∃ p c, v = .slice p g.length c ∧ (p = none → g.length = 0 ∧ c = 0) ∧ g.length ≤ c ∧ g.length ≤ 1000000000 := by
  obtain ⟨vals, hl, ⟨p, c, rfl, h1, h2, h3, _⟩, hr⟩ := h
  exact ⟨p, c, rfl, h1, h2, h3⟩

theorem Nums.get {w : World} {E : TypeId} {K : IntKind} {p : Option Addr} {n c : Nat} {xs : List Int} (h : Nums w E K (.slice p n c) xs) {k : Nat} (hk : k < xs.length) : ∃ b o, p = some ⟨b, o, none⟩ ∧ w.cell? ⟨b, o + k, none⟩ = some (.int K xs[k]) := by
  obtain ⟨p', c', he, _, _, _, hat⟩ := h
  simp only [Value.slice.injEq] at he
  obtain ⟨rfl, rfl, rfl⟩ := he
  exact hat.num hk
theorem Nums.shape {w : World} {E : TypeId} {K : IntKind} {v : Value} {xs : List Int} (h : Nums w E K v xs) : ∃ p c, v = .slice p xs.length c ∧ (p = none → xs.length = 0 ∧ c = 0) ∧ xs.length ≤ c ∧ xs.length ≤ 1000000000 ∧ At w E p (xs.map (Value.int K)) := h

theorem cell_new (w : World) (v : Value) (T : TypeId) : (w.alloc (.cells #[v] T)).cell? ⟨w.heap.size, 0, none⟩ = some v := by
  have := heap_alloc_new w (.cells #[v] T)
  unfold World.cell?; rw [this]; rfl
theorem frozen_new (w : World) (cs : Array Value) (T : TypeId) (o : Nat) : (w.alloc (.cells cs T)).frozen? ⟨w.heap.size, o, none⟩ = false := by
  have := heap_alloc_new w (.cells cs T)
  unfold World.frozen?; rw [this]; simp

/-- A block of one cell, and what is kept of it. -/
structure Box (w : World) (b : Nat) (T : TypeId) (v : Value) : Prop where
  cell : w.cell? ⟨b, 0, none⟩ = some v
  free : w.frozen? ⟨b, 0, none⟩ = false
  lt : b < w.heap.size
  blk : w.heap[b]? = some (.cells #[v] T (0, 0))
theorem Box.of {w : World} {b : Nat} {T : TypeId} {v : Value} (h : w.heap[b]? = some (.cells #[v] T (0, 0))) : Box w b T v := ⟨cell_of_one h, free_of_one h, lt_of_block h, h⟩
theorem Box.new (w : World) (v : Value) (T : TypeId) : Box (w.alloc (.cells #[v] T)) w.heap.size T v := .of (heap_alloc_new w _)
theorem Box.below {w w' : World} {b : Nat} {T : TypeId} {v : Value} {B : Nat} (h : Box w b T v) (hb : Below B w w') (hB : b < B) : Box w' b T v := .of ((hb.block b hB).trans h.blk)
theorem Box.keep {w w' : World} {b : Nat} {T : TypeId} {v : Value} (h : Box w b T v) (hb : Below w.heap.size w w') : Box w' b T v := h.below hb h.lt
theorem Box.alloc {w : World} {b : Nat} {T : TypeId} {v : Value} (h : Box w b T v) (o : Obj) : Box (w.alloc o) b T v := h.keep (below_alloc w o)
theorem Box.set {w : World} {b : Nat} {T : TypeId} {v : Value} (h : Box w b T v) (u : Value) : Box (w.setCell ⟨b, 0, none⟩ u) b T u := .of (one_setCell h.blk)
theorem Box.setOther {w : World} {b : Nat} {T : TypeId} {v : Value} (h : Box w b T v) {a : Addr} (ha : b ≠ a.block) (u : Value) : Box (w.setCell a u) b T v := .of ((Below.heap_setCell _ _ _ _ ha).trans h.blk)
theorem Box.grown {w w' : World} {b : Nat} {T : TypeId} {v : Value} (h : Box w b T v) {r : Option Nat} (hg : w.grownBy w' r) (hr : some b ≠ r) : Box w' b T v := .of ((hg.block b h.lt hr).trans h.blk)
/-- What has elements of another type stays while the box is written. -/
theorem Sl.setBox {w : World} {E T : TypeId} {v : Value} {n b : Nat} {vals : List Value} {x : Value} (h : Sl w E v n vals) (hb : Box w b T x) (hE : E ≠ T) (u : Value) : Sl (w.setCell ⟨b, 0, none⟩ u) E v n vals :=
  h.keep fun i cur fz hi => Below.heap_setCell _ _ _ _ fun e => by
    have e' : i = b := e
    subst e'
    rw [hb.blk] at hi
    simp only [Option.some.injEq, Obj.cells.injEq] at hi
    exact hE hi.2.1.symm
theorem Nums.setBox {w : World} {E T : TypeId} {K : IntKind} {v : Value} {b : Nat} {xs : List Int} {x : Value} (h : Nums w E K v xs) (hb : Box w b T x) (hE : E ≠ T) (u : Value) : Nums (w.setCell ⟨b, 0, none⟩ u) E K v xs := Sl.setBox h hb hE u
theorem Rws.setBox {w : World} {EO EI T : TypeId} {v : Value} {b : Nat} {g : List (List Int)} {x : Value} (h : Rws w EO EI v g) (hb : Box w b T x) (h1 : EO ≠ T) (h2 : EI ≠ T) (u : Value) : Rws (w.setCell ⟨b, 0, none⟩ u) EO EI v g := by
  obtain ⟨vals, e1, e2, e3⟩ := h
  exact ⟨vals, e1, e2.setBox hb h1 u, fun j hj => (e3 j hj).setBox hb h2 u⟩
theorem ownsRow_setBox {w : World} {base : Nat} {E T : TypeId} {size n b : Nat} {v x : Value} {xs : List Value} (h : w.ownsRow base E size v n xs) (hb : Box w b T x) (hE : E ≠ T) (u : Value) : (w.setCell ⟨b, 0, none⟩ u).ownsRow base E size v n xs := by
  refine ownsRow_setCell_other h (fun e => ?_) u
  rcases h.2 with ⟨rfl, _⟩ | ⟨g, cap, cur, rfl, _, hg, _⟩
  · simp [Value.ownBlock] at e
  · simp [Value.ownBlock] at e
    subst e
    rw [hb.blk] at hg
    simp only [Option.some.injEq, Obj.cells.injEq] at hg
    exact hE hg.2.1.symm

theorem _root_.Go.RowKit.Below.at {B : Nat} {w w' : World} (h : Below B w w') {b o : Nat} {v : Value} (hB : b < B) (hc : w.cell? ⟨b, o, none⟩ = some v) : w'.cell? ⟨b, o, none⟩ = some v := (h.cell (p := ⟨b, o, none⟩) hB).trans hc
theorem _root_.Go.RowKit.Below.at' {w w' : World} (h : Below w.heap.size w w') {b o : Nat} {v : Value} (hc : w.cell? ⟨b, o, none⟩ = some v) : w'.cell? ⟨b, o, none⟩ = some v := h.at (World.block_lt_of_cell? w _ hc) hc
theorem At.num' {w : World} {E : TypeId} {K : IntKind} {p : Option Addr} {xs : List Int} (h : At w E p (xs.map (Value.int K))) {k : Nat} (hk : k < xs.length) (d : Int) :
    ∃ b o, p = some ⟨b, o, none⟩ ∧ w.cell? ⟨b, o + k, none⟩ = some (.int K (xs.getD k d)) := by
  obtain ⟨b, o, h1, h2⟩ := h.num hk
  exact ⟨b, o, h1, by rw [h2, List.getD_eq_getElem?_getD, List.getElem?_eq_getElem hk]; rfl⟩

theorem below_alloc2 (w : World) (o1 o2 : Obj) : Below w.heap.size w ((w.alloc o1).alloc o2) := (below_alloc w o1).trans ((below_alloc _ o2).mono (by rw [size_alloc]; omega))
theorem below_alloc3 (w : World) (o1 o2 o3 : Obj) : Below w.heap.size w (((w.alloc o1).alloc o2).alloc o3) := (below_alloc2 w o1 o2).trans ((below_alloc _ o3).mono (by rw [size_alloc, size_alloc]; omega))

end Go.Proofs.YtfphapcgjlhieaaDoor
