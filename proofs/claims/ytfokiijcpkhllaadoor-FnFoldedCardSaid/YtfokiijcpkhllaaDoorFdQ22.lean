/- Walk: the program's elimination. -/
import Derived.Test.YtfokiijcpkhllaaDoorFdQ18
import Derived.Test.YtfokiijcpkhllaaDoorFdQ21
import Derived.Laws.MakeOwn
import Derived.Deep.DeepCutAuto
namespace Go.Proofs.YtfokiijcpkhllaaDoor
open Go.RowKit

/-- 'append(s, x...)' as a step of a region that draws. -/
theorem step_app {P : Program} {T E : TypeId} {z : Value} {size bytes : Nat} (S : SlTy P T E z size bytes) {w : World} {ops : Array Oper} {o : Oper} {a : Act} {K : Act → World → Prop} {Q : Exit → Act → World → Prop} {F : Prop}
    (hgd : o.guard = none) {s x : Operand} (ho : o.op = .call { callee := .builtin .append, args := #[s, x], argTypes := #[T, T] })
    {base : Nat} {v : Value} {n : Nat} {xs : List Value} (hs : a.eval s = v) (hown : w.ownsRow base E size v n xs)
    {u : Value} {m : Nat} {news : List Value} (hx : a.eval x = u) (hu : Sl w E u m news) (hl : news.length = m * size) (h1 : ∀ x ∈ news, x.oneCell' = true)
    (hnm : n + m ≤ 1000000000) (hbase : base ≤ w.heap.size)
    (h : ∀ v' w', w'.ownsRow base E size v' (n + m) (xs ++ news) → w.grownBy w' v.ownBlock → (∀ k, v'.ownBlock = some k → v.ownBlock = some k ∨ w.heap.size ≤ k) → K (a.put o.dst v') w') :
    if Region.wanted o (yielded ops a.tmps) = true then Oper.wp P o a w K Q else F := by
  have hw : Region.wanted o (yielded ops a.tmps) = true := by simp [Region.wanted, hgd]
  rw [if_pos hw]
  obtain ⟨v', w', hr, h2, h3, h4⟩ := run_app S w o.type base v n xs hown u m news hu hl h1 hnm hbase
  unfold Oper.wp execOp
  simp only [ho, resolve, invoke, builtin, Sem.run_bind, Sem.run_pure, Result.andThen_ok, List.map_toArray, List.map_cons, List.map_nil, hs, hx, hr]
  exact h _ _ h2 h3 h4

theorem run_mk_nets (n : Nat) (hn : n ≤ 1000) (w : World) : (Instr.makeSlice 61 (.int .i64 n) (.int .i64 n)).run Tryd.prog w = .ok (.slice (some ⟨w.heap.size, 0, none⟩) n n) (w.alloc (.cells (Array.replicate n (.int .u32 0)) 64)) := by
  obtain ⟨i, hi, hz, hsz, hby⟩ := info_parts ty_nets.info
  have e : madeCells (Value.int .u32 0).cells ((n : Int).toNat * i.size) = Array.replicate n (Value.int .u32 0) := by
    rw [hsz, Int.toNat_natCast, Nat.mul_one]
    refine Array.ext (by simp [madeCells]) fun j h1 h2 => ?_
    simp [madeCells, Value.cells, Nat.mod_one]
  have h := run_make (P := Tryd.prog) w 61 64 i (.int .u32 0) ty_nets.under hi hz .i64 .i64 n n (by omega) (Int.le_refl _) (by rw [hby]; omega) (by omega)
  rw [e, Int.toNat_natCast] at h
  exact h

theorem owns_made (w : World) (n : Nat) (hn : n ≤ 1000) : (w.alloc (.cells (Array.replicate n (.int .u32 0)) 64)).ownsRow w.heap.size 64 1 (.slice (some ⟨w.heap.size, 0, none⟩) n n) n (List.replicate n (.int .u32 0)) :=
  ⟨by simp, .inr ⟨w.heap.size, n, Array.replicate n (.int .u32 0), rfl, Nat.le_refl _, heap_alloc_new w _, Nat.le_refl _, by simp only [maxLen]; omega, by simp, by simp⟩⟩

end Go.Proofs.YtfokiijcpkhllaaDoor

/- Walk: the program's elimination, its loops. -/
namespace Go.Proofs.YtfokiijcpkhllaaDoor
open Go.RowKit

def leftN (n : Nat) (l : List Nat) : Nat → Nat
  | 0 => 2 ^ n - 1
  | m + 1 => sub (leftN n l m) (2 ^ l.getD m 0)
def laterN (n : Nat) (E : Nat → Nat → Bool) (l : List Nat) : Nat → List Nat
  | 0 => List.replicate n 0
  | m + 1 => (laterN n E l m).set (l.getD m 0) (mask (natInts (lateL n E l m)))
theorem laterN_length (n : Nat) (E : Nat → Nat → Bool) (l : List Nat) : ∀ m, (laterN n E l m).length = n
  | 0 => by simp [laterN]
  | m + 1 => by simp [laterN, laterN_length n E l m]
theorem leftN_lt {n : Nat} (hn : n ≤ 16) (l : List Nat) : ∀ m, leftN n l m < 65536
  | 0 => by
    have : 2 ^ n ≤ 2 ^ 16 := Nat.pow_le_pow_right (by decide) hn
    simp only [leftN]; omega
  | m + 1 => sub_lt16 _ _ (leftN_lt hn l m)
theorem leftN_bit {n : Nat} (hn : n ≤ 16) {l : List Nat} (hl : ∀ v ∈ l, v < n) (j : Nat) : ∀ m, m ≤ l.length → (leftN n l m).testBit j = decide (j < n ∧ j ∉ l.take m)
  | 0, _ => by simp [leftN, Nat.testBit_two_pow_sub_one]
  | m + 1, h => by
    have hm : m < l.length := by omega
    have hlt := leftN_lt hn l m
    have hv := hl _ (List.getElem_mem hm)
    show (sub _ _).testBit j = _
    rw [getD_nat hm, testBit_sub _ _ (by omega) (pow_lt32 _ (by omega)), leftN_bit hn hl j m (by omega), testBit_pow, Bool.eq_iff_iff]
    simp only [Bool.and_eq_true, decide_eq_true_eq, Bool.not_eq_true', decide_eq_false_iff_not, take_snoc_mem hm]
    constructor
    · rintro ⟨⟨h1, h2⟩, h3⟩
      exact ⟨h1, fun h => h.elim h2 fun e => h3 e.symm⟩
    · rintro ⟨h1, h2⟩
      exact ⟨⟨h1, fun h => h2 (.inl h)⟩, fun e => h2 (.inr e.symm)⟩
/-- What is stored as the later neighbours. -/
theorem later_bit {n : Nat} (hn : n ≤ 16) {E : Nat → Nat → Bool} {l : List Nat} (hl : ∀ v ∈ l, v < n) {m : Nat} (hm : m < l.length) (j : Nat) :
    ((indN n (fillP E l m)).getD l[m] 0 &&& leftN n l (m + 1)).testBit j = decide (j ∈ lateL n E l m) := by
  rw [Nat.testBit_and, indN_bit (hl _ (List.getElem_mem hm)), leftN_bit hn hl j (m + 1) (by omega), Bool.eq_iff_iff]
  simp only [Bool.and_eq_true, decide_eq_true_eq, mem_lateL, laterE, getD_nat hm]
  constructor
  · rintro ⟨⟨h1, h2⟩, _, h3⟩; exact ⟨h1, h2, h3⟩
  · rintro ⟨h1, h2, h3⟩; exact ⟨⟨h1, h2⟩, h1, h3⟩
theorem later_eq {n : Nat} (hn : n ≤ 16) {E : Nat → Nat → Bool} {l : List Nat} (hl : ∀ v ∈ l, v < n) {m : Nat} (hm : m < l.length) :
    (indN n (fillP E l m)).getD l[m] 0 &&& leftN n l (m + 1) = mask (natInts (lateL n E l m)) :=
  Nat.eq_of_testBit_eq fun j => by rw [later_bit hn hl hm, mask_bit]
theorem later_bits {n : Nat} (hn : n ≤ 16) {E : Nat → Nat → Bool} {l : List Nat} {m : Nat} : bitsOf (mask (natInts (lateL n E l m))) = lateL n E l m := by
  have h16 : mask (natInts (lateL n E l m)) < 65536 := mask_nat_lt16 fun i hi => by have := (mem_lateL.1 hi).1; omega
  refine rising_ext _ _ (bitsOf_rising _) (lateL_rising _ _ _ _) fun x => ?_
  rw [mem_bitsOf' (by omega), mask_bit]
  simp

theorem natInts_at {l : List Nat} {k : Nat} (h : k < l.length) {h' : k < (natInts l).length} : (natInts l)[k] = ((l[k] : Nat) : Int) := by simp [natInts]

/-- What the loops of elimination carry. -/
structure EL (w wr : World) (fb fc lb n : Nat) (fs ls : List Nat) : Prop where
  f : wr.ownsRow w.heap.size 64 1 (.slice (some ⟨fb, 0, none⟩) n fc) n (fs.map u32v)
  l : wr.ownsRow w.heap.size 64 1 (.slice (some ⟨lb, 0, none⟩) n n) n (ls.map u32v)
  ne : fb ≠ lb
  bel : Below w.heap.size w wr
theorem EL.first {w X w1 : World} {fb fc n e : Nat} {fs : List Nat} (hn : n ≤ 1000) (ho : w1.ownsRow w.heap.size 64 1 (.slice (some ⟨fb, 0, none⟩) n fc) n (fs.map u32v)) (hX : Below w.heap.size w X) (hg : X.grownBy w1 (some e)) (he : w.heap.size ≤ e) :
    EL w (w1.alloc (.cells (Array.replicate n (.int .u32 0)) 64)) fb fc w1.heap.size n fs (List.replicate n 0) := by
  have hb := hX.grown hg hX.size (fun k hk => by cases hk; exact he)
  have hlt := (ho.lt fb rfl).2
  exact ⟨ho.alloc _, by rw [List.map_replicate]; exact ownsRow_base (owns_made w1 n hn) hb.size, by omega, hb.alloc hb.size _⟩
theorem EL.second {w X w1 : World} {fb fc n e lb : Nat} {fs : List Nat} (ho : w1.ownsRow w.heap.size 64 1 (.slice (some ⟨fb, 0, none⟩) n fc) n (fs.map u32v)) (hX : Below w.heap.size w X) (hg : X.grownBy w1 (some e)) (he : w.heap.size ≤ e)
    (hl : X.ownsRow w.heap.size 64 1 (.slice (some ⟨lb, 0, none⟩) n n) n (List.replicate n (.int .u32 0))) (h1 : e ≠ lb) (h2 : fb = e ∨ X.heap.size ≤ fb) : EL w w1 fb fc lb n fs (List.replicate n 0) := by
  have hb := hX.grown hg hX.size (fun k hk => by cases hk; exact he)
  have hlt := (hl.lt lb rfl).2
  exact ⟨ho, by rw [List.map_replicate]; exact hl.kept hg (.inr fun h => h1 (Option.some.inj h).symm), by omega, hb⟩
theorem EL.next {w wr W : World} {fb fc lb n : Nat} {fs ls : List Nat} (h : EL w wr fb fc lb n fs ls) (hb : Below wr.heap.size wr W) : EL w W fb fc lb n fs ls :=
  ⟨ownsRow_below h.f hb, ownsRow_below h.l hb, h.ne, h.bel.trans (hb.mono h.bel.size)⟩
theorem EL.setF {w wr : World} {fb fc lb n : Nat} {fs ls : List Nat} (h : EL w wr fb fc lb n fs ls) (u y : Nat) : EL w (wr.setCell ⟨fb, u, none⟩ (.int .u32 (y : Int))) fb fc lb n (fs.set u y) ls := by
  obtain ⟨h1, h2⟩ := h.f.stored u (.int .u32 (y : Int))
  refine ⟨by rw [List.map_set]; exact h1, h.l.kept h2 (.inr fun e => h.ne (Option.some.inj e).symm), h.ne, below_grown h.bel h.f h2 (Nat.le_refl _) h.bel.size⟩
theorem EL.setL {w wr : World} {fb fc lb n : Nat} {fs ls : List Nat} (h : EL w wr fb fc lb n fs ls) (u y : Nat) : EL w (wr.setCell ⟨lb, u, none⟩ (.int .u32 (y : Int))) fb fc lb n fs (ls.set u y) := by
  obtain ⟨h1, h2⟩ := h.l.stored u (.int .u32 (y : Int))
  refine ⟨h.f.kept h2 (.inr fun e => h.ne (Option.some.inj e)), by rw [List.map_set]; exact h1, h.ne, below_grown h.bel h.l h2 (Nat.le_refl _) h.bel.size⟩
theorem EL.cellF {w wr : World} {fb fc lb n : Nat} {fs ls : List Nat} (h : EL w wr fb fc lb n fs ls) (hl : fs.length = n) {u : Nat} (hu : u < n) : wr.cell? ⟨fb, u, none⟩ = some (.int .u32 ((fs.getD u 0 : Nat) : Int)) := by
  have h1 := h.f.cellAt u (by omega)
  rw [List.getElem?_map, List.getElem?_eq_getElem (by omega)] at h1
  rw [h1, getD_nat (by omega)]; rfl
theorem EL.cellL {w wr : World} {fb fc lb n : Nat} {fs ls : List Nat} (h : EL w wr fb fc lb n fs ls) (hl : ls.length = n) {u : Nat} (hu : u < n) : wr.cell? ⟨lb, u, none⟩ = some (.int .u32 ((ls.getD u 0 : Nat) : Int)) := by
  have h1 := h.l.cellAt u (by omega)
  rw [List.getElem?_map, List.getElem?_eq_getElem (by omega)] at h1
  rw [h1, getD_nat (by omega)]; rfl

end Go.Proofs.YtfokiijcpkhllaaDoor

/- Plain: the later neighbours along an order. -/
namespace Go.Proofs.YtfokiijcpkhllaaDoor

theorem fill_stay {E : Nat → Nat → Bool} {l : List Nat} {k : Nat} (hk : k < l.length) (x : Nat) : ∀ m, k ≤ m → fillP E l m l[k] x = fillP E l k l[k] x := by
  intro m h
  induction m with
  | zero => obtain rfl : k = 0 := by omega
            rfl
  | succ m ih =>
    by_cases e : k = m + 1
    · subst e; rfl
    · rw [← ih (by omega)]
      have hm : l[k] ∈ l.take (m + 1) := List.mem_take_iff_getElem.2 ⟨k, by omega, rfl⟩
      show elimE _ _ _ _ = _
      simp [elimE, laterE, hm]

theorem late_final {n : Nat} {E : Nat → Nat → Bool} {l : List Nat} {k : Nat} (hk : k < l.length) : ((List.range n).filter (fillP E l l.length l[k])).filter (fun x => !decide (x ∈ l.take (k + 1))) = lateL n E l k := by
  have e : fillP E l l.length l[k] = fillP E l k l[k] := funext fun x => fill_stay hk x _ (by omega)
  rw [e]
  unfold lateL
  rw [List.filter_filter, getD_nat hk]
  congr 1
  funext x
  unfold laterE
  rw [Bool.eq_iff_iff]
  simp only [Bool.and_eq_true, Bool.not_eq_true', decide_eq_false_iff_not, decide_eq_true_eq]
  exact and_comm

/-- The rows of the later neighbours behind k eliminations. -/
def laterRows (n : Nat) (E : Nat → Nat → Bool) (l : List Nat) (k : Nat) : List (List Int) := (List.range n).map fun v => natInts (bitsOf ((laterN n E l k).getD v 0))
theorem laterRows_length (n : Nat) (E : Nat → Nat → Bool) (l : List Nat) (k : Nat) : (laterRows n E l k).length = n := by simp [laterRows]
theorem row_laterRows {n : Nat} {E : Nat → Nat → Bool} {l : List Nat} {k v : Nat} (hv : v < n) : row (laterRows n E l k) v = natInts (bitsOf ((laterN n E l k).getD v 0)) := by
  simp [row, laterRows, hv]
theorem laterRows_start (n : Nat) (E : Nat → Nat → Bool) (l : List Nat) : laterRows n E l 0 = List.replicate n [] := by
  refine List.ext_getElem (by simp [laterRows]) fun j h1 h2 => ?_
  have hj : j < n := by simpa [laterRows] using h1
  simp [laterRows, laterN, hj, bitsOf_zero, natInts]
theorem laterRows_step {n : Nat} (hn : n ≤ 16) {E : Nat → Nat → Bool} {l : List Nat} (hl : ∀ v ∈ l, v < n) {k : Nat} (hk : k < l.length) :
    (laterRows n E l k).set l[k] (natInts (lateL n E l k)) = laterRows n E l (k + 1) := by
  have hv := hl _ (List.getElem_mem hk)
  refine List.ext_getElem (by simp [laterRows]) fun j h1 h2 => ?_
  have hj : j < n := by simpa [laterRows] using h2
  have e : ∀ m, (laterRows n E l m)[j]'(by rw [laterRows_length]; exact hj) = natInts (bitsOf ((laterN n E l m).getD j 0)) := fun m => by simp [laterRows]
  rw [List.getElem_set, e, e]
  show _ = natInts (bitsOf (((laterN n E l k).set (l.getD k 0) (mask (natInts (lateL n E l k)))).getD j 0))
  rw [getD_nat hk, getD_set _ _ _ _ (by rw [laterN_length]; exact hv)]
  by_cases h : l[k] = j
  · rw [if_pos h, if_pos h.symm, later_bits hn]
  · rw [if_neg h, if_neg (fun e => h e.symm)]
theorem laterN_lt {n : Nat} (hn : n ≤ 16) (E : Nat → Nat → Bool) (l : List Nat) : ∀ k, ∀ s ∈ laterN n E l k, s < 65536
  | 0, s, hs => by
    simp only [laterN, List.mem_replicate] at hs
    omega
  | k + 1, s, hs => by
    rcases List.mem_or_eq_of_mem_set hs with h | rfl
    · exact laterN_lt hn E l k s h
    · exact mask_nat_lt16 fun i hi => by have := (mem_lateL.1 hi).1; omega
theorem laterRows_le {n : Nat} {E : Nat → Nat → Bool} {l : List Nat} {k j : Nat} : (row (laterRows n E l k) j).length ≤ 32 := by
  by_cases h : j < n
  · rw [row_laterRows h, natInts_length]
    exact bitsOf_length _
  · rw [row_out (by rw [laterRows_length]; exact h)]; simp

/-- What LaterOf returns. -/
def LaterS (g : List (List Int)) (l : List Int) (rs : List (List Int)) : Prop :=
  (GOk g ∧ OrdOk g.length l ∧ rs = laterRows g.length (ofG g) (l.map Int.toNat) l.length) ∨ (rs = [] ∧ ¬ (GOk g ∧ OrdOk g.length l))
theorem laterS_det {g gg hh : List (List Int)} {l : List Int} (h : LaterS g l gg) (h' : LaterS g l hh) : gg = hh := by
  rcases h with ⟨h1, h2, rfl⟩ | ⟨rfl, h⟩ <;> rcases h' with ⟨h1', h2', rfl⟩ | ⟨rfl, h'⟩
  · rfl
  · exact absurd ⟨h1, h2⟩ h'
  · exact absurd ⟨h1', h2'⟩ h
  · rfl

end Go.Proofs.YtfokiijcpkhllaaDoor
