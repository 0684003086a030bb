/- Plain: two lines of the same numbers, and what crosses. -/
import Derived.Test.YtfokiijcpkhllaaDoorFuQ7
import Derived.Test.YtfokiijcpkhllaaDoorFuQ12
import Derived.Laws.MakeOwn
import Derived.Test.YtfokiijcpkhllaaDoorFuQ31
import Derived.Test.YtfokiijcpkhllaaDoorFuQ16
import Derived.Test.YtfokiijcpkhllaaDoorFuQ15
import Derived.Test.YtfokiijcpkhllaaDoorFuQ5
import Derived.Test.YtfokiijcpkhllaaDoorFuQ17
namespace Go.Proofs.YtfokiijcpkhllaaDoor

theorem ordOk_mem {n : Nat} {l : List Int} (h : OrdOk n l) {x : Int} (h0 : 0 ≤ x) (h1 : x < n) : x ∈ l := by
  refine Classical.byContradiction fun hx => ?_
  have hs : SetIn (n : Int) ((l ++ [x]).mergeSort fun x y => decide (x ≤ y)) := setIn_sort.2 ⟨fun y hy => by
    rcases List.mem_append.1 hy with hy | hy
    · exact h.2.1 y hy
    · simp only [List.mem_singleton] at hy; subst hy; exact ⟨h0, h1⟩, nodup_snoc.2 ⟨h.2.2, hx⟩⟩
  have := setIn_length (by omega) hs
  rw [List.length_mergeSort, List.length_append, h.1] at this
  simp at this
  omega

/-- Where a number stands first. -/
def plcN : List Int → Int → Nat
  | [], _ => 0
  | x :: l, v => if x = v then 0 else plcN l v + 1
def plc (a : List Int) (v : Int) : Int := if v ∈ a then ((plcN a v : Nat) : Int) else -1

theorem plcN_first : ∀ (a : List Int) (v : Int) (k : Nat) (hk : k < a.length), a[k] = v → v ∉ a.take k → plcN a v = k
  | [], _, _, hk, _, _ => by simp at hk
  | x :: l, v, 0, _, h, _ => by simp at h; simp [plcN, h]
  | x :: l, v, k + 1, hk, h, hn => by
    simp only [List.take_succ_cons, List.mem_cons, not_or] at hn
    simp only [List.getElem_cons_succ] at h
    simp only [List.length_cons] at hk
    have := plcN_first l v k (by omega) h hn.2
    unfold plcN
    rw [if_neg (fun e => hn.1 e.symm), this]
theorem plcN_get : ∀ (a : List Int) (v : Int), v ∈ a → a[plcN a v]? = some v
  | [], _, h => by simp at h
  | x :: l, v, h => by
    unfold plcN
    by_cases e : x = v
    · rw [if_pos e]; simp [e]
    · rw [if_neg e]
      simp only [List.mem_cons] at h
      rcases h with h | h
      · exact absurd h.symm e
      · simpa using plcN_get l v h
theorem plc_first {a : List Int} {v : Int} {k : Nat} (hk : k < a.length) (h : a[k] = v) (hn : v ∉ a.take k) : plc a v = k := by
  unfold plc
  rw [if_pos (mem_of_getElem hk h), plcN_first a v k hk h hn]
theorem plc_out {a : List Int} {v : Int} (h : v ∉ a) : plc a v = -1 := by unfold plc; rw [if_neg h]
theorem plc_at {a : List Int} (h : a.Nodup) {k : Nat} (hk : k < a.length) : plc a a[k] = k := by
  refine plc_first hk rfl ?_
  have h1 : (a.take (k + 1)).Nodup := h.sublist (List.take_sublist _ _)
  rw [take_snoc' a k hk] at h1
  exact (nodup_snoc.1 h1).2
theorem plc_inj {a : List Int} {u v : Int} (hu : u ∈ a) (hv : v ∈ a) (h : plc a u = plc a v) : u = v := by
  unfold plc at h
  rw [if_pos hu, if_pos hv] at h
  have e1 := plcN_get a u hu
  have e2 := plcN_get a v hv
  rw [show plcN a u = plcN a v by omega, e2] at e1
  exact (Option.some.inj e1).symm
theorem plc_lt {a : List Int} (v : Int) : -1 ≤ plc a v ∧ plc a v ≤ a.length := by
  unfold plc
  split
  · rename_i h
    have e1 := plcN_get a v h
    have := (List.getElem?_eq_some_iff.1 e1).1
    omega
  · omega

/-- Two numbers stand crosswise. -/
def crE (a b : List Int) (u v : Int) : Bool := decide (u ≠ v) && (decide (plc a u < plc a v) != decide (plc b u < plc b v))
def crN (a b : List Int) : Nat → Nat → Bool := fun u v => crE a b u v
def LineOk (a : List Int) : Prop := 1 ≤ a.length ∧ a.length ≤ 16 ∧ OrdOk a.length a
def LinesOk (a b : List Int) : Prop := LineOk a ∧ LineOk b ∧ a.length = b.length

theorem crN_sym {a b : List Int} (h : LinesOk a b) : SymE a.length (crN a b) := by
  refine ⟨fun r j hr hj => ?_, fun r hr => by simp [crN, crE]⟩
  unfold crN crE
  by_cases e : r = j
  · subst e; rfl
  have ha := h.1.2.2
  have hb := h.2.1.2.2
  have hl := h.2.2
  have e' : ((r : Int)) ≠ ((j : Nat) : Int) := fun q => e (by omega)
  have a1 : plc a r ≠ plc a j := fun q => e' (plc_inj (ordOk_mem ha (by omega) (by omega)) (ordOk_mem ha (by omega) (by omega)) q)
  have b1 : plc b r ≠ plc b j := fun q => e' (plc_inj (ordOk_mem hb (by omega) (by omega)) (ordOk_mem hb (by omega) (by omega)) q)
  have x1 : decide (plc a j < plc a r) = !decide (plc a r < plc a j) := by
    rw [Bool.eq_iff_iff]; simp; omega
  have x2 : decide (plc b j < plc b r) = !decide (plc b r < plc b j) := by
    rw [Bool.eq_iff_iff]; simp; omega
  have x3 : decide ((j : Int) ≠ (r : Int)) = decide ((r : Int) ≠ (j : Int)) := by
    rw [Bool.eq_iff_iff]; simp; omega
  rw [x1, x2, x3]
  cases decide (plc a r < plc a j) <;> cases decide (plc b r < plc b j) <;> rfl

/-- What PermGraph returns. -/
def PermS (a b : List Int) (gg : List (List Int)) (ok : Bool) : Prop :=
  (ok = true ∧ LinesOk a b ∧ gg = matG a.length (crN a b)) ∨ (ok = false ∧ gg = [] ∧ ¬ LinesOk a b)
theorem permS_det {a b : List Int} {gg hh : List (List Int)} {ok ok' : Bool} (h : PermS a b gg ok) (h' : PermS a b hh ok') : gg = hh ∧ ok = ok' := by
  rcases h with ⟨rfl, h1, rfl⟩ | ⟨rfl, rfl, h⟩ <;> rcases h' with ⟨rfl, h1', rfl⟩ | ⟨rfl, rfl, h'⟩
  · exact ⟨rfl, rfl⟩
  · exact absurd h1 h'
  · exact absurd h1' h
  · exact ⟨rfl, rfl⟩

theorem permS_yes {a b : List Int} {gg : List (List Int)} {ok : Bool} (h : PermS a b gg ok) (hl : LinesOk a b) : gg = matG a.length (crN a b) ∧ ok = true := by
  rcases h with ⟨h1, _, h2⟩ | ⟨_, _, h⟩
  · exact ⟨h2, h1⟩
  · exact absurd hl h
theorem permS_no {a b : List Int} {gg : List (List Int)} {ok : Bool} (h : PermS a b gg ok) (hl : ¬ LinesOk a b) : gg = [] ∧ ok = false := by
  rcases h with ⟨_, h, _⟩ | ⟨h1, h2, _⟩
  · exact absurd h hl
  · exact ⟨h2, h1⟩

/-- What stands in the places behind k rounds. -/
def placesL (a : List Int) (k : Nat) : List Int := (List.range a.length).map fun v => if ((v : Nat) : Int) ∈ a.take k then plc a v else 0
theorem placesL_length (a : List Int) (k : Nat) : (placesL a k).length = a.length := by simp [placesL]
theorem placesL_zero (a : List Int) : placesL a 0 = List.replicate a.length 0 := by
  refine List.ext_getElem (by simp [placesL]) fun j h1 h2 => ?_
  simp [placesL]
theorem placesL_step {a : List Int} (h : OrdOk a.length a) {k : Nat} (hk : k < a.length) : (placesL a k).set a[k].toNat k = placesL a (k + 1) := by
  have h0 := h.2.1 _ (List.getElem_mem hk)
  refine List.ext_getElem (by simp [placesL]) fun j h1 h2 => ?_
  rw [placesL_length] at h2
  rw [List.getElem_set]
  simp only [placesL, List.getElem_map, List.getElem_range]
  rw [take_snoc' a k hk]
  by_cases e : a[k].toNat = j
  · rw [if_pos e]
    have ej : ((j : Nat) : Int) = a[k] := by omega
    rw [if_pos (by rw [ej]; exact List.mem_append_right _ (List.mem_singleton.2 rfl)), ej, plc_at h.2.2 hk]
  · rw [if_neg e]
    have ej : ((j : Nat) : Int) ≠ a[k] := by omega
    have : ((j : Nat) : Int) ∈ a.take k ++ [a[k]] ↔ ((j : Nat) : Int) ∈ a.take k := by rw [List.mem_append, List.mem_singleton]; exact or_iff_left ej
    simp only [this]
theorem placesL_end {a : List Int} (h : OrdOk a.length a) : placesL a a.length = (List.range a.length).map fun v => plc a ((v : Nat) : Int) := by
  refine List.ext_getElem (by simp [placesL]) fun j h1 h2 => ?_
  rw [placesL_length] at h1
  simp only [placesL, List.getElem_map, List.getElem_range, List.take_length]
  rw [if_pos (ordOk_mem h (by omega) (by omega))]
theorem placesL_get {a : List Int} (h : OrdOk a.length a) {i : Nat} (hi : i < (placesL a a.length).length) : (placesL a a.length)[i] = plc a ((i : Nat) : Int) := by
  have e := placesL_end h
  simp only [e, List.getElem_map, List.getElem_range]

/-- The double loop of masks. -/
theorem matG_inj {m : Nat} {E F : Nat → Nat → Bool} (h : matG m E = matG m F) : ∀ r j, r < m → j < m → E r j = F r j := by
  intro r j hr hj
  have h1 : ((j : Nat) : Int) ∈ row (matG m E) r ↔ ((j : Nat) : Int) ∈ row (matG m F) r := by rw [h]
  rw [mem_matG hr, mem_matG hr] at h1
  rw [Bool.eq_iff_iff]
  constructor
  · intro h2
    obtain ⟨i, hi, _, h3⟩ := h1.1 ⟨j, rfl, hj, h2⟩
    obtain rfl : i = j := by omega
    exact h3
  · intro h2
    obtain ⟨i, hi, _, h3⟩ := h1.2 ⟨j, rfl, hj, h2⟩
    obtain rfl : i = j := by omega
    exact h3
theorem uptoN_start (m : Nat) (E : Nat → Nat → Bool) : indN m (uptoE E 0 0) = List.replicate m 0 := indN_none m fun r j _ _ => by simp [uptoE]
theorem uptoN_row {m : Nat} {E : Nat → Nat → Bool} (h : SymE m E) {i : Nat} : indN m (uptoE E i i) = indN m (uptoE E (i + 1) 0) := indN_congr (matG_inj (upto_row h))
theorem uptoN_end {m : Nat} {E : Nat → Nat → Bool} : indN m (uptoE E m 0) = indN m E := indN_congr (matG_inj upto_end)
theorem uptoN_no {m : Nat} {E : Nat → Nat → Bool} (h : SymE m E) {i k : Nat} (hi : i < m) (hk : k < i) (he : E i k = false) : indN m (uptoE E i k) = indN m (uptoE E i (k + 1)) := indN_congr (matG_inj (upto_no h hi hk he))
theorem uptoN_yes {m : Nat} {E : Nat → Nat → Bool} (h : SymE m E) {i k : Nat} (hi : i < m) (hk : k < i) (he : E i k = true) : joinL (indN m (uptoE E i k)) i k = indN m (uptoE E i (k + 1)) := by
  have h1 := upto_yes h hi hk he
  rw [link_matG (by omega) hi (by omega)] at h1
  have h2 := matG_inj h1
  refine natList_ext (by rw [joinL_length, indN_length, indN_length]) fun r hr => ?_
  rw [joinL_length, indN_length] at hr
  refine Nat.eq_of_testBit_eq fun j => ?_
  rw [Bool.eq_iff_iff, joinL_testBit (by rw [indN_length]; exact hi) (by rw [indN_length]; omega) (by omega), indN_bit hr, indN_bit hr]
  by_cases hj : j < m
  · rw [← h2 r j hr hj]
    simp only [hj, decide_true, Bool.true_and, Bool.or_eq_true, Bool.and_eq_true, beq_iff_eq]
    constructor
    · rintro (h | ⟨rfl, rfl⟩ | ⟨rfl, rfl⟩)
      · exact .inl (.inl h)
      · exact .inr ⟨rfl, rfl⟩
      · exact .inl (.inr ⟨rfl, rfl⟩)
    · rintro ((h | ⟨rfl, rfl⟩) | ⟨rfl, rfl⟩)
      · exact .inl h
      · exact .inr (.inr ⟨rfl, rfl⟩)
      · exact .inr (.inl ⟨rfl, rfl⟩)
  · simp only [hj, decide_false, Bool.false_and, Bool.false_eq_true, false_or, iff_false]
    rintro (⟨rfl, rfl⟩ | ⟨rfl, rfl⟩) <;> omega

end Go.Proofs.YtfokiijcpkhllaaDoor

/- Walk: the program's elimination. -/
namespace Go.Proofs.YtfokiijcpkhllaaDoor
open Go.RowKit

/-- 'append(s, x...)' as a step of a region that draws. -/
theorem step_app {P : Program} {T E : TypeId} {z : Value} {size bytes : Nat} (S : SlTy P T E z size bytes) {w : World} {ops : Array Oper} {o : Oper} {a : Act} {K : Act → World → Prop} {Q : Exit → Act → World → Prop} {F : Prop}
    (hgd : o.guard = none) {s x : Operand} (ho : o.op = .call { callee := .builtin .append, args := #[s, x], argTypes := #[T, T] })
    {base : Nat} {v : Value} {n : Nat} {xs : List Value} (hs : a.eval s = v) (hown : w.ownsRow base E size v n xs)
    {u : Value} {m : Nat} {news : List Value} (hx : a.eval x = u) (hu : Sl w E u m news) (hl : news.length = m * size) (h1 : ∀ x ∈ news, x.oneCell' = true)
    (hnm : n + m ≤ 1000000000) (hbase : base ≤ w.heap.size)
    (h : ∀ v' w', w'.ownsRow base E size v' (n + m) (xs ++ news) → w.grownBy w' v.ownBlock → (∀ k, v'.ownBlock = some k → v.ownBlock = some k ∨ w.heap.size ≤ k) → K (a.put o.dst v') w') :
    if Region.wanted o (yielded ops a.tmps) = true then Oper.wp P o a w K Q else F := by
  have hw : Region.wanted o (yielded ops a.tmps) = true := by simp [Region.wanted, hgd]
  rw [if_pos hw]
  obtain ⟨v', w', hr, h2, h3, h4⟩ := run_app S w o.type base v n xs hown u m news hu hl h1 hnm hbase
  unfold Oper.wp execOp
  simp only [ho, resolve, invoke, builtin, Sem.run_bind, Sem.run_pure, Result.andThen_ok, List.map_toArray, List.map_cons, List.map_nil, hs, hx, hr]
  exact h _ _ h2 h3 h4

theorem run_mk_nets (n : Nat) (hn : n ≤ 1000) (w : World) : (Instr.makeSlice 61 (.int .i64 n) (.int .i64 n)).run Tryd.prog w = .ok (.slice (some ⟨w.heap.size, 0, none⟩) n n) (w.alloc (.cells (Array.replicate n (.int .u32 0)) 64)) := by
  obtain ⟨i, hi, hz, hsz, hby⟩ := info_parts ty_nets.info
  have e : madeCells (Value.int .u32 0).cells ((n : Int).toNat * i.size) = Array.replicate n (Value.int .u32 0) := by
    rw [hsz, Int.toNat_natCast, Nat.mul_one]
    refine Array.ext (by simp [madeCells]) fun j h1 h2 => ?_
    simp [madeCells, Value.cells, Nat.mod_one]
  have h := run_make (P := Tryd.prog) w 61 64 i (.int .u32 0) ty_nets.under hi hz .i64 .i64 n n (by omega) (Int.le_refl _) (by rw [hby]; omega) (by omega)
  rw [e, Int.toNat_natCast] at h
  exact h

theorem owns_made (w : World) (n : Nat) (hn : n ≤ 1000) : (w.alloc (.cells (Array.replicate n (.int .u32 0)) 64)).ownsRow w.heap.size 64 1 (.slice (some ⟨w.heap.size, 0, none⟩) n n) n (List.replicate n (.int .u32 0)) :=
  ⟨by simp, .inr ⟨w.heap.size, n, Array.replicate n (.int .u32 0), rfl, Nat.le_refl _, heap_alloc_new w _, Nat.le_refl _, by simp only [maxLen]; omega, by simp, by simp⟩⟩

end Go.Proofs.YtfokiijcpkhllaaDoor

/- Walk: the program's QuotientBy of a model. -/
namespace Go.Proofs.YtfokiijcpkhllaaDoor
open Go.RowKit

/-- Two sets of a model are joined. -/
noncomputable def jnE (g M : List (List Int)) (i k : Nat) : Bool := dec (i ≠ k ∧ JoinP g (row M i) (row M k))
theorem joinP_sym {g : List (List Int)} (hg : GOk g) {A B : List Int} (hA : SetIn g.length A) (h : JoinP g A B) : JoinP g B A := by
  obtain ⟨x, hx, y, hy, e⟩ := h
  have h0 := hA.1 x hx
  have := hg.both x.toNat (by omega) y e
  rw [show ((x.toNat : Nat) : Int) = x by omega] at this
  exact ⟨y, hy, x, hx, this⟩
theorem jnE_sym {g M : List (List Int)} (h : MdW g M) : SymE M.length (jnE g M) where
  sym := fun i k hi hk => by
    unfold jnE
    exact dec_congr ⟨fun h1 => ⟨Ne.symm h1.1, joinP_sym h.1.1 (h.2 i hi).1 h1.2⟩, fun h1 => ⟨Ne.symm h1.1, joinP_sym h.1.1 (h.2 k hk).1 h1.2⟩⟩
  irr := fun i _ => dec_false fun h1 => h1.1 rfl

theorem below_grownQ {B : Nat} {w0 w w' : World} {b : Nat} (h : Below B w0 w) (hg : w.grownBy w' (some b)) (hl : B ≤ b) (hB : B ≤ w.heap.size) : Below B w0 w' :=
  ⟨hg.os.trans h.os, hg.tape.trans h.tape, hg.output.trans h.output, Nat.le_trans h.size hg.size, fun k hk => (hg.block k (Nat.lt_of_lt_of_le hk hB) (fun e => by
    have e : k = b := by simpa using e
    omega)).trans (h.block k hk)⟩


end Go.Proofs.YtfokiijcpkhllaaDoor

/- Plain: a model of a model is a model. -/
namespace Go.Proofs.YtfokiijcpkhllaaDoor

theorem connL_all {E : Nat → Nat → Bool} (hE : ∀ r j, E r j = true → E j r = true) {L : List Nat} (h : ConnL E L) {x y : Nat} (hx : x ∈ L) (hy : y ∈ L) : Rch E (· ∈ L) x y := by
  have h0 : L.headD 0 ∈ L := by
    cases L with
    | nil => exact absurd rfl h.1
    | cons a L => simp
  exact rch_trans (rch_sym hE h0 (h.2 x hx)) (h.2 y hy)
theorem connL_of {E : Nat → Nat → Bool} {L : List Nat} (h : L ≠ []) (h2 : ∀ x ∈ L, ∀ y ∈ L, Rch E (· ∈ L) x y) : ConnL E L := by
  refine ⟨h, fun x hx => h2 _ ?_ x hx⟩
  cases L with
  | nil => exact absurd rfl h
  | cons a L => simp
/-- All neighbours in the pattern are joined. -/
theorem mdOk_join {g p M : List (List Int)} (h : MdOk g p M) {i k : Nat} (hE : ofG p i k = true) : JoinP g (row M i) (row M k) := by
  have hp := h.1.1.2
  have hl := h.1.2
  have hk := ofG_to hp i k hE
  have hi := ofG_to hp k i (ofG_sym hp i k hE)
  rcases Nat.lt_trichotomy i k with hlt | rfl | hgt
  · exact h.2.2 (i, k) (mem_edN' hlt hk hE)
  · rw [ofG_irr hp] at hE; cases hE
  · exact joinP_sym h.1.1.1.1.1 (h.1.1.1.2 k (by omega)).1 (h.2.2 (k, i) (mem_edN' hgt hi (ofG_sym hp i k hE)))
theorem mdOk_conn {g p M : List (List Int)} (h : MdOk g p M) {a : Nat} (ha : a < M.length) {x y : Int} (hx : x ∈ row M a) (hy : y ∈ row M a) : Rch (ofG g) (· ∈ (row M a).map Int.toNat) x.toNat y.toNat :=
  connL_all (ofG_sym h.1.1.1.1.1) (h.2.1 a ha).2 (List.mem_map.2 ⟨x, hx, rfl⟩) (List.mem_map.2 ⟨y, hy, rfl⟩)
theorem mdOk_some {g p M : List (List Int)} (h : MdOk g p M) {a : Nat} (ha : a < M.length) : ∃ x, x ∈ row M a := by
  refine List.exists_mem_of_ne_nil _ fun e => (h.2.1 a ha).2.1 ?_
  rw [e]; rfl

theorem mdOk_comp {g p q M W R : List (List Int)} (h : MdOk g p M) (k : MdOk p q W) (hR : CmpS M W R) : MdOk g q R := by
  have hg := h.1.1.1.1.1
  have hql : W.length = q.length := k.1.2
  have hRl : R.length = W.length := hR.1
  have hW : ∀ a, a < W.length → ∀ z ∈ row W a, 0 ≤ z ∧ z.toNat < M.length := fun a ha z hz => by
    have := (k.1.1.1.2 a ha).1.1 z hz
    have := h.1.2
    omega
  have hin : ∀ a, a < W.length → SetIn g.length (row R a) := fun a ha => by
    refine ⟨fun x hx => ?_, (hR.2 a ha).1⟩
    obtain ⟨z, hz, hxz⟩ := ((hR.2 a ha).2 x).1 hx
    exact (h.1.1.1.2 z.toNat (hW a ha z hz).2).1.1 x hxz
  -- two sets of the model that meet are one
  have hone : ∀ i j, i < M.length → j < M.length → ∀ x, x ∈ row M i → x ∈ row M j → i = j := fun i j hi hj x h1 h2 => by
    rcases Nat.lt_trichotomy i j with hlt | e | hgt
    · exact absurd h1 ((h.1.1.1.2 j hj).2 i hlt x h2)
    · exact e
    · exact absurd h2 ((h.1.1.1.2 i hi).2 j hgt x h1)
  refine ⟨⟨⟨⟨⟨hg, by rw [hRl]; exact k.1.1.1.1.2⟩, fun a ha => ?_⟩, k.1.1.2⟩, by rw [hRl, hql]⟩, fun a ha => ?_, fun e he => ?_⟩
  · rw [hRl] at ha
    refine ⟨hin a ha, fun b hb x hx hxb => ?_⟩
    have hb2 : b < W.length := by omega
    obtain ⟨z, hz, hxz⟩ := ((hR.2 a ha).2 x).1 hx
    obtain ⟨y, hy, hxy⟩ := ((hR.2 b hb2).2 x).1 hxb
    have h1 := hW a ha z hz
    have h2 := hW b hb2 y hy
    have e := hone _ _ h1.2 h2.2 x hxz hxy
    have e2 : z = y := by omega
    subst e2
    exact (k.1.1.1.2 a ha).2 b hb z hz hy
  · rw [hRl] at ha
    have hmem : ∀ {z x : Int}, z ∈ row W a → x ∈ row M z.toNat → x ∈ row R a := fun hz hx => ((hR.2 a ha).2 _).2 ⟨_, hz, hx⟩
    have hmono : ∀ {z x y : Int}, z ∈ row W a → x ∈ row M z.toNat → y ∈ row M z.toNat → Rch (ofG g) (· ∈ (row R a).map Int.toNat) x.toNat y.toNat := fun {z x y} hz hx hy =>
      rch_mono (fun t ht => by
        obtain ⟨s, hs, rfl⟩ := List.mem_map.1 ht
        exact List.mem_map.2 ⟨s, hmem hz hs, rfl⟩) _ (mdOk_conn h (hW a ha z hz).2 hx hy)
    -- from one set on to all others
    have hto : ∀ z0 ∈ row W a, ∀ x0 ∈ row M z0.toNat, ∀ t, Rch (ofG p) (· ∈ (row W a).map Int.toNat) z0.toNat t → ∀ x ∈ row M t, Rch (ofG g) (· ∈ (row R a).map Int.toNat) x0.toNat x.toNat := by
      intro z0 hz0 x0 hx0 t ht
      have hz0in : z0.toNat ∈ (row W a).map Int.toNat := List.mem_map.2 ⟨z0, hz0, rfl⟩
      induction ht with
      | base => exact fun x hx => hmono hz0 hx0 hx
      | step h1 h2 h3 ih =>
        rename_i u v
        intro x hx
        obtain ⟨zu, hzu, e1⟩ := List.mem_map.1 (rch_in (S := (· ∈ (row W a).map Int.toNat)) hz0in _ h1)
        obtain ⟨zv, hzv, e2⟩ := List.mem_map.1 h3
        obtain ⟨s, hs, y, hy, hsy⟩ := mdOk_join h h2
        have hs0 := (h.1.1.1.2 u (by have := hW a ha zu hzu; omega)).1.1 s hs
        have hy0 := (h.1.1.1.2 v (by have := hW a ha zv hzv; omega)).1.1 y hy
        subst e1; subst e2
        refine rch_trans (ih s hs) (rch_trans (.step .base (y := y.toNat) ?_ ?_) (hmono hzv hy hx))
        · simp only [ofG, decide_eq_true_eq]
          rw [show ((y.toNat : Nat) : Int) = y by omega]
          exact hsy
        · exact List.mem_map.2 ⟨y, hmem hzv hy, rfl⟩
    refine ⟨⟨hg, hin a ha⟩, connL_of ?_ fun x hx y hy => ?_⟩
    · obtain ⟨z, hz⟩ := mdOk_some k ha
      obtain ⟨x, hx⟩ := mdOk_some h (hW a ha z hz).2
      exact List.ne_nil_of_mem (List.mem_map.2 ⟨x, hmem hz hx, rfl⟩)
    · obtain ⟨s, hs, rfl⟩ := List.mem_map.1 hx
      obtain ⟨t, ht, rfl⟩ := List.mem_map.1 hy
      obtain ⟨zs, hzs, hss⟩ := ((hR.2 a ha).2 s).1 hs
      obtain ⟨zt, hzt, htt⟩ := ((hR.2 a ha).2 t).1 ht
      exact hto zs hzs s hss zt.toNat (mdOk_conn k ha hzs hzt) t htt
  · obtain ⟨h1, h2, h3, h4⟩ := mem_edN (Nat.le_refl _) he
    obtain ⟨zx, hzx, zy, hzy, hj⟩ := k.2.2 e he
    have hx0 := hW e.1 (by omega) zx hzx
    have hy0 := hW e.2 (by omega) zy hzy
    obtain ⟨x, hx, y, hy, hxy⟩ := mdOk_join h (i := zx.toNat) (k := zy.toNat) (by
      simp only [ofG, decide_eq_true_eq]
      rw [show ((zy.toNat : Nat) : Int) = zy by omega]
      exact hj)
    exact ⟨x, ((hR.2 e.1 (by omega)).2 x).2 ⟨zx, hzx, hx⟩, y, ((hR.2 e.2 (by omega)).2 y).2 ⟨zy, hzy, hy⟩, hxy⟩

/-- A pattern's neighbours are neighbours in what a model makes. -/
theorem quot_has {g p M : List (List Int)} (h : MdOk g p M) {v : Nat} {y : Int} (hv : v < p.length) (hy : y ∈ row p v) : y ∈ row (matG M.length (jnE g M)) v := by
  have hp := h.1.1.2
  have h0 := (hp.sets v hv).1.1 y hy
  have hl := h.1.2
  rw [mem_matG (by omega)]
  refine ⟨y.toNat, by omega, by omega, dec_true ⟨fun e => ?_, ?_⟩⟩
  · have := (hp.sets v hv).2
    have e2 : (v : Int) = y := by omega
    rw [e2] at this
    exact this hy
  · refine mdOk_join h ?_
    simp only [ofG, decide_eq_true_eq]
    rw [show ((y.toNat : Nat) : Int) = y by omega]
    exact hy

end Go.Proofs.YtfokiijcpkhllaaDoor

/- Plain: lists that go along edges; read backwards; when one can go along all edges. -/
namespace Go.Proofs.YtfokiijcpkhllaaDoor

/-- The same edge. -/
def sameP (e f : Nat × Nat) : Bool := (e.1 == f.1 && e.2 == f.2) || (e.1 == f.2 && e.2 == f.1)
theorem sameP_iff {e f : Nat × Nat} : sameP e f = true ↔ (e.1 = f.1 ∧ e.2 = f.2) ∨ (e.1 = f.2 ∧ e.2 = f.1) := by simp [sameP]
theorem sameP_symm {e f : Nat × Nat} : sameP e f = sameP f e := by
  rw [Bool.eq_iff_iff, sameP_iff, sameP_iff]
  constructor <;> rintro (⟨h1, h2⟩ | ⟨h1, h2⟩)
  · exact .inl ⟨h1.symm, h2.symm⟩
  · exact .inr ⟨h2.symm, h1.symm⟩
  · exact .inl ⟨h1.symm, h2.symm⟩
  · exact .inr ⟨h2.symm, h1.symm⟩
theorem cutE_same (E : Nat → Nat → Bool) (p q r j : Nat) : cutE E p q r j = (E r j && !sameP (p, q) (r, j)) := by
  rw [Bool.eq_iff_iff]
  simp only [cutE, sameP, Bool.and_eq_true, Bool.not_eq_true', Bool.or_eq_false_iff, Bool.and_eq_false_iff, beq_eq_false_iff_ne]
  constructor
  · rintro ⟨h, h1, h2⟩
    refine ⟨h, ?_, ?_⟩
    · rcases h1 with h1 | h1
      · exact .inl fun e => h1 e.symm
      · exact .inr fun e => h1 e.symm
    · rcases h2 with h2 | h2
      · exact .inr fun e => h2 e.symm
      · exact .inl fun e => h2 e.symm
  · rintro ⟨h, h1, h2⟩
    refine ⟨h, ?_, ?_⟩
    · rcases h1 with h1 | h1
      · exact .inl fun e => h1 e.symm
      · exact .inr fun e => h1 e.symm
    · rcases h2 with h2 | h2
      · exact .inr fun e => h2 e.symm
      · exact .inl fun e => h2 e.symm
/-- The edges along a list. -/
def stepsL : Nat → List Nat → List (Nat × Nat)
  | _, [] => []
  | v, u :: l => (v, u) :: stepsL u l
theorem stepsL_length : ∀ (v : Nat) (l : List Nat), (stepsL v l).length = l.length
  | _, [] => rfl
  | v, u :: l => by simp [stepsL, stepsL_length u l]
theorem cutAll_cons (E : Nat → Nat → Bool) (e : Nat × Nat) (es : List (Nat × Nat)) : cutAll E (e :: es) = cutAll (cutE E e.1 e.2) es := rfl
theorem cutAll_at (es : List (Nat × Nat)) : ∀ (E : Nat → Nat → Bool) (r j : Nat), cutAll E es r j = (E r j && es.all fun e => !sameP e (r, j)) := by
  induction es with
  | nil => intro E r j; simp [cutAll]
  | cons e es ih =>
    intro E r j
    rw [cutAll_cons, ih, cutE_same, List.all_cons, Bool.and_assoc]
/-- Each edge is there when it is used. -/
def OkF : (Nat → Nat → Bool) → List (Nat × Nat) → Prop
  | _, [] => True
  | E, e :: es => E e.1 e.2 = true ∧ OkF (cutE E e.1 e.2) es
theorem okF_iff : ∀ (es : List (Nat × Nat)) (E : Nat → Nat → Bool), OkF E es ↔ (∀ e ∈ es, E e.1 e.2 = true) ∧ es.Pairwise fun e f => sameP e f = false
  | [], E => by simp [OkF]
  | e :: es, E => by
    rw [OkF, okF_iff es, List.pairwise_cons]
    constructor
    · rintro ⟨h1, h2, h3⟩
      refine ⟨fun f hf => ?_, fun f hf => ?_, h3⟩
      · rcases List.mem_cons.1 hf with rfl | hf
        · exact h1
        · have := h2 f hf
          rw [cutE_same] at this
          exact (Bool.and_eq_true_iff.1 this).1
      · have := h2 f hf
        rw [cutE_same] at this
        simpa using (Bool.and_eq_true_iff.1 this).2
    · rintro ⟨h1, h2, h3⟩
      refine ⟨h1 e (by simp), fun f hf => ?_, h3⟩
      rw [cutE_same, h1 f (by simp [hf]), h2 f hf]
      rfl
theorem stepsL_append : ∀ (v : Nat) (l : List Nat) (u : Nat), stepsL v (l ++ [u]) = stepsL v l ++ [((v :: l).getLastD 0, u)]
  | v, [], u => by simp [stepsL]
  | v, x :: l, u => by
    rw [List.cons_append, stepsL, stepsL, stepsL_append x l u]
    simp
/-- Read backwards. -/
def swapP (e : Nat × Nat) : Nat × Nat := (e.2, e.1)
def backL (v : Nat) (l : List Nat) : List Nat := (v :: l).reverse.tail
theorem steps_back : ∀ (l : List Nat) (v : Nat), stepsL ((v :: l).getLastD 0) (backL v l) = ((stepsL v l).map swapP).reverse
  | [], v => by simp [stepsL, backL]
  | u :: l, v => by
    have ih := steps_back l u
    have e1 : (v :: u :: l).getLastD 0 = (u :: l).getLastD 0 := by simp
    have hne : (u :: l).reverse ≠ [] := by simp
    have e2 : backL v (u :: l) = backL u l ++ [v] := by
      unfold backL
      rw [List.reverse_cons (a := v)]
      cases h : (u :: l).reverse with
      | nil => exact absurd h hne
      | cons a t => simp
    have e3 : (((u :: l).getLastD 0) :: backL u l).getLastD 0 = u := by
      have : ((u :: l).getLastD 0) :: backL u l = (u :: l).reverse := by
        unfold backL
        cases h : (u :: l).reverse with
        | nil => exact absurd h hne
        | cons a t =>
          have h2 : (u :: l) = (a :: t).reverse := by rw [← h, List.reverse_reverse]
          rw [h2]
          simp
      rw [this, List.reverse_cons, List.getLastD_eq_getLast?]
      simp
    rw [e1, e2, stepsL_append, ih, e3, stepsL]
    simp [swapP]
theorem okF_back {E : Nat → Nat → Bool} (hs : ∀ r j, E r j = true → E j r = true) {es : List (Nat × Nat)} (h : OkF E es) : OkF E (es.map swapP).reverse := by
  rw [okF_iff] at h ⊢
  refine ⟨fun e he => ?_, ?_⟩
  · rw [List.mem_reverse, List.mem_map] at he
    obtain ⟨f, hf, rfl⟩ := he
    exact hs _ _ (h.1 f hf)
  · rw [List.pairwise_reverse, List.pairwise_map]
    refine h.2.imp fun {a b} hab => ?_
    rw [sameP_symm]
    have e : sameP (swapP a) (swapP b) = sameP a b := by
      rw [Bool.eq_iff_iff, sameP_iff, sameP_iff]
      simp only [swapP]
      constructor <;> rintro (⟨h1, h2⟩ | ⟨h1, h2⟩)
      · exact .inl ⟨h2, h1⟩
      · exact .inr ⟨h2, h1⟩
      · exact .inl ⟨h2, h1⟩
      · exact .inr ⟨h2, h1⟩
    rw [e]; exact hab
theorem cut_back (E : Nat → Nat → Bool) (es : List (Nat × Nat)) : cutAll E (es.map swapP).reverse = cutAll E es := by
  funext r j
  rw [cutAll_at, cutAll_at, List.all_reverse, List.all_map]
  congr 2
  funext e
  simp only [Function.comp]
  congr 1
  rw [Bool.eq_iff_iff, sameP_iff, sameP_iff]
  simp only [swapP]
  constructor <;> rintro (⟨h1, h2⟩ | ⟨h1, h2⟩)
  · exact .inr ⟨h2, h1⟩
  · exact .inl ⟨h2, h1⟩
  · exact .inr ⟨h2, h1⟩
  · exact .inl ⟨h2, h1⟩

/-- Nothing is left. -/
def NoE (n : Nat) (E : Nat → Nat → Bool) : Prop := ∀ x, x < n → degN n E x = 0
/-- The list goes along each edge once. -/
def TrlOk (n : Nat) (E : Nat → Nat → Bool) (v : Nat) (l : List Nat) : Prop := (∀ x ∈ v :: l, x < n) ∧ OkF E (stepsL v l) ∧ NoE n (cutAll E (stepsL v l))
theorem trl_in {n : Nat} {E : Nat → Nat → Bool} {v : Nat} {l : List Nat} (h : Trl n E v l) : ∀ x ∈ l, x < n := by
  induction h with
  | done _ _ _ => intro x hx; simp at hx
  | step E v u l _ h2 _ ih =>
    intro x hx
    rcases List.mem_cons.1 hx with rfl | hx
    · exact List.mem_range.1 (List.mem_of_find?_eq_some h2)
    · exact ih x hx
theorem next_tr {n : Nat} {E : Nat → Nat → Bool} {v u : Nat} (h : nextT n E v = some u) : u < n ∧ E v u = true ∧ Tr n (cutE E v u) u := by
  have h1 := List.mem_range.1 (List.mem_of_find?_eq_some h)
  have h2 := List.find?_some h
  obtain ⟨h3, h4⟩ := Bool.and_eq_true_iff.1 h2
  exact ⟨h1, h3, dec_iff.1 h4⟩
theorem trl_ok {n : Nat} {E : Nat → Nat → Bool} {v : Nat} {l : List Nat} (h : Trl n E v l) : v < n → Tr n E v → OkF E (stepsL v l) ∧ NoE n (cutAll E (stepsL v l)) := by
  induction h with
  | done E v h0 =>
    intro hv hT
    refine ⟨trivial, fun x hx => ?_⟩
    have h1 := tr_left hv hT
    rcases Nat.eq_zero_or_pos (degN n E x) with h2 | h2
    · exact h2
    · have := h1.2 ⟨x, hx, h2⟩
      omega
  | step E v u l h1 h2 _ ih =>
    intro hv hT
    obtain ⟨hu, hE, hT2⟩ := next_tr h2
    obtain ⟨k1, k2⟩ := ih hu hT2
    exact ⟨⟨hE, k1⟩, k2⟩
theorem trl_trlOk {n : Nat} {E : Nat → Nat → Bool} {v : Nat} {l : List Nat} (h : Trl n E v l) (hv : v < n) (hT : Tr n E v) : TrlOk n E v l := by
  obtain ⟨h1, h2⟩ := trl_ok h hv hT
  refine ⟨fun x hx => ?_, h1, h2⟩
  rcases List.mem_cons.1 hx with rfl | hx
  · exact hv
  · exact trl_in h x hx
theorem last_mem (v : Nat) (l : List Nat) : (v :: l).getLastD 0 ∈ v :: l := by
  rw [List.getLastD_eq_getLast?]
  cases h : (v :: l).getLast? with
  | none => simp at h
  | some a => exact List.mem_of_getLast? h
theorem rev_back (v : Nat) (l : List Nat) : (v :: l).reverse = (v :: l).getLastD 0 :: backL v l := by
  unfold backL
  cases h : (v :: l).reverse with
  | nil => simp at h
  | cons a t =>
    have h2 : (v :: l) = (a :: t).reverse := by rw [← h, List.reverse_reverse]
    rw [h2]
    simp
theorem trlOk_back {n : Nat} {E : Nat → Nat → Bool} (hs : ∀ r j, E r j = true → E j r = true) {v : Nat} {l : List Nat} (h : TrlOk n E v l) : TrlOk n E ((v :: l).getLastD 0) (backL v l) := by
  refine ⟨fun x hx => ?_, ?_, ?_⟩
  · rw [← rev_back, List.mem_reverse] at hx
    exact h.1 x hx
  · rw [steps_back]; exact okF_back hs h.2.1
  · rw [steps_back, cut_back]; exact h.2.2
/-- Odd ones are the ends. -/
theorem trl_ends {n : Nat} : ∀ (l : List Nat) (E : Nat → Nat → Bool) (v : Nat), (∀ r, E r r = false) → (∀ r j, E r j = true → E j r = true) → v < n → (∀ x ∈ l, x < n) → OkF E (stepsL v l) → NoE n (cutAll E (stepsL v l)) → ∀ x, x < n → degN n E x % 2 = ((if x = v then 1 else 0) + (if x = (v :: l).getLastD 0 then 1 else 0)) % 2
  | [], E, v, _, _, _, _, _, h0, x, hx => by
    have := h0 x hx
    simp only [stepsL, cutAll, List.foldl_nil] at this
    rw [this]
    by_cases e : x = v
    · simp [e]
    · simp [e]
  | u :: l, E, v, hi, hs, hv, hl, hok, h0, x, hx => by
    have hu : u < n := hl u (by simp)
    have hE := hok.1
    simp only at hE
    have hvu : v ≠ u := fun e => by subst e; rw [hi] at hE; exact absurd hE (by decide)
    have ih := trl_ends l (cutE E v u) u (cutE_irr hi v u) (cutE_sym hs v u) hu (fun y hy => hl y (by simp [hy])) hok.2 h0 x hx
    have e1 : (v :: u :: l).getLastD 0 = (u :: l).getLastD 0 := by simp
    rw [e1]
    by_cases h1 : x = v
    · subst h1
      have := degN_cut_p hu hvu hE
      have h2 : ¬ x = u := hvu
      simp only [h2, if_false] at ih
      simp only [if_true]
      omega
    · by_cases h2 : x = u
      · subst h2
        have := degN_cut_q hv hvu (hs _ _ hE)
        simp only [if_true] at ih
        simp only [h1, if_false]
        omega
      · have := degN_cut_o (n := n) (E := E) h1 h2
        simp only [h2, if_false] at ih
        simp only [h1, if_false]
        omega
/-- Twice the edges used are the degrees used. -/
theorem totN_cut2 {n : Nat} {E : Nat → Nat → Bool} {v u : Nat} (hs : ∀ r j, E r j = true → E j r = true) (hi : ∀ r, E r r = false) (hv : v < n) (hu : u < n) (h : E v u = true) : totN n E = totN n (cutE E v u) + 2 := by
  have hvu : v ≠ u := fun e => by subst e; rw [hi] at h; exact absurd h (by decide)
  have h1 := degN_cut_p hu hvu h
  have h2 := degN_cut_q hv hvu (hs _ _ h)
  have key : ∀ l : List Nat, l.Nodup → (l.map (degN n E)).sum = (l.map (degN n (cutE E v u))).sum + ((if v ∈ l then 1 else 0) + (if u ∈ l then 1 else 0)) := by
    intro l
    induction l with
    | nil => intro _; simp
    | cons a l ih =>
      intro hn
      rw [List.nodup_cons] at hn
      have ih := ih hn.2
      simp only [List.map_cons, List.sum_cons, List.mem_cons]
      by_cases e1 : v = a
      · subst e1
        have : ¬ u = v := fun e => hvu e.symm
        simp only [hn.1, if_false] at ih
        simp only [true_or, if_true, this, false_or]
        omega
      · by_cases e2 : u = a
        · subst e2
          simp only [hn.1, if_false] at ih
          simp only [e1, false_or, true_or, if_true]
          omega
        · have := degN_cut_o (n := n) (E := E) (fun e => e1 e.symm : a ≠ v) (fun e => e2 e.symm : a ≠ u)
          simp only [e1, e2, false_or]
          omega
  have := key (List.range n) List.nodup_range
  simp only [List.mem_range, hv, hu, if_true] at this
  unfold totN
  omega
theorem trl_many {n : Nat} : ∀ (l : List Nat) (E : Nat → Nat → Bool) (v : Nat), (∀ r, E r r = false) → (∀ r j, E r j = true → E j r = true) → v < n → (∀ x ∈ l, x < n) → OkF E (stepsL v l) → totN n E = totN n (cutAll E (stepsL v l)) + 2 * l.length
  | [], E, v, _, _, _, _, _ => by simp [stepsL, cutAll]
  | u :: l, E, v, hi, hs, hv, hl, hok => by
    have hu : u < n := hl u (by simp)
    have h1 := totN_cut2 hs hi hv hu hok.1
    have h2 := trl_many l (cutE E v u) u (cutE_irr hi v u) (cutE_sym hs v u) hu (fun y hy => hl y (by simp [hy])) hok.2
    show totN n E = totN n (cutAll (cutE E v u) (stepsL u l)) + 2 * (l.length + 1)
    omega

end Go.Proofs.YtfokiijcpkhllaaDoor

/- Plain: the edges counted are half the degrees. -/
namespace Go.Proofs.YtfokiijcpkhllaaDoor

theorem cntE_edN {g : List (List Int)} (hg : GOk g) : ∀ k, k ≤ g.length → cntE g k = (edN g.length (ofG g) k).length
  | 0, _ => rfl
  | k + 1, hk => by
    have ih := cntE_edN hg k (by omega)
    have h1 := edT_end hg (show k < g.length by omega)
    have h2 : (edT g k (row g k).length).length = upL k (row g k) := by simp [edT, upL]
    rw [cntE, ih, edN_succ, List.length_append, ← h1, h2]
/-- The degrees within the first m. -/
def sumS (E : Nat → Nat → Bool) (m : Nat) : Nat := ((List.range m).map fun u => (List.range m).countP (E u)).sum
def sumP (E : Nat → Nat → Bool) (m : Nat) : Nat := ((List.range m).map fun u => (List.range m).countP fun v => decide (u < v) && E u v).sum
theorem sum_two {E : Nat → Nat → Bool} (hs : ∀ r j, E r j = true → E j r = true) (hi : ∀ r, E r r = false) : ∀ m, sumS E m = 2 * sumP E m
  | 0 => rfl
  | m + 1 => by
    have ih := sum_two hs hi m
    have e1 : sumS E (m + 1) = sumS E m + 2 * (List.range m).countP (E m) := by
      unfold sumS
      rw [List.range_succ, List.map_append, List.sum_append, List.map_singleton, List.sum_singleton]
      have a : ((List.range m).map fun u => (List.range m ++ [m]).countP (E u)) = (List.range m).map fun u => (List.range m).countP (E u) + (if E u m = true then 1 else 0) := List.map_congr_left fun u _ => by
        rw [List.countP_append, List.countP_singleton]
      have b := sum_add2 (fun u => (List.range m).countP (E u)) (fun u => if E u m = true then 1 else 0) (List.range m)
      have c := sum_ite (fun u => E u m) (List.range m)
      have d : (List.range m).countP (fun u => E u m) = (List.range m).countP (E m) := List.countP_congr fun v _ => ⟨fun h => hs _ _ h, fun h => hs _ _ h⟩
      rw [a, b, c, d, List.countP_append, List.countP_singleton, hi m]
      simp only [Bool.false_eq_true, if_false]
      omega
    have e2 : sumP E (m + 1) = sumP E m + (List.range m).countP (E m) := by
      unfold sumP
      rw [List.range_succ, List.map_append, List.sum_append, List.map_singleton, List.sum_singleton]
      have a : ((List.range m).map fun u => (List.range m ++ [m]).countP fun v => decide (u < v) && E u v) = (List.range m).map fun u => ((List.range m).countP fun v => decide (u < v) && E u v) + (if E u m = true then 1 else 0) := List.map_congr_left fun u hu => by
        have hum : u < m := List.mem_range.1 hu
        rw [List.countP_append, List.countP_singleton]
        simp [hum]
      have b := sum_add2 (fun u => (List.range m).countP fun v => decide (u < v) && E u v) (fun u => if E u m = true then 1 else 0) (List.range m)
      have c := sum_ite (fun u => E u m) (List.range m)
      have d : (List.range m).countP (fun u => E u m) = (List.range m).countP (E m) := List.countP_congr fun v _ => ⟨fun h => hs _ _ h, fun h => hs _ _ h⟩
      have f : (List.range m ++ [m]).countP (fun v => decide (m < v) && E m v) = 0 := List.countP_eq_zero.2 fun v hv => by
        rcases List.mem_append.1 hv with h | h
        · have := List.mem_range.1 h
          simp [show ¬ m < v by omega]
        · have : v = m := by simpa using h
          simp [this]
      rw [a, b, c, d, f]
      omega
    omega
theorem edN_sum (n : Nat) (E : Nat → Nat → Bool) : ∀ k, (edN n E k).length = ((List.range k).map fun u => (List.range n).countP fun v => decide (u < v) && E u v).sum
  | 0 => rfl
  | k + 1 => by
    rw [edN_succ, List.length_append, edN_sum n E k, List.range_succ, List.map_append, List.sum_append, List.map_singleton, List.sum_singleton]
    unfold edRow
    rw [List.length_map, ← List.countP_eq_length_filter]
/-- Twice the edges are the degrees. -/
theorem two_cntE {g : List (List Int)} (hg : GOk g) : totN g.length (ofG g) = 2 * cntE g g.length := by
  rw [cntE_edN hg g.length (Nat.le_refl _), edN_sum]
  exact sum_two (ofG_sym hg) (ofG_irr hg) g.length

end Go.Proofs.YtfokiijcpkhllaaDoor

/- Plain: a graph is made of its edges again; a sum does not depend on the order. -/
namespace Go.Proofs.YtfokiijcpkhllaaDoor

/-- The edges that a list of pairs has. -/
def memE (l : List (Nat × Nat)) : Nat → Nat → Bool := fun r j => decide ((r, j) ∈ l ∨ (j, r) ∈ l)
theorem memE_nil (n : Nat) : indN n (memE []) = List.replicate n 0 := indN_none n fun r j _ _ => by simp [memE]
theorem memE_snoc {n a b : Nat} {l : List (Nat × Nat)} (ha : a < n) (hb : b < n) (hab : a ≠ b) : joinL (indN n (memE l)) a b = indN n (memE (l ++ [(a, b)])) := by
  refine natList_ext (by rw [joinL_length, indN_length, indN_length]) fun r hr => ?_
  rw [joinL_length, indN_length] at hr
  refine Nat.eq_of_testBit_eq fun j => ?_
  rw [Bool.eq_iff_iff, joinL_testBit (by rw [indN_length]; exact ha) (by rw [indN_length]; exact hb) hab, indN_bit hr, indN_bit hr]
  simp only [memE, Bool.and_eq_true, decide_eq_true_eq, List.mem_append, List.mem_singleton, Prod.mk.injEq]
  constructor
  · rintro (⟨h1, h2⟩ | ⟨rfl, rfl⟩ | ⟨rfl, rfl⟩)
    · exact ⟨h1, h2.imp .inl .inl⟩
    · exact ⟨hb, .inl (.inr ⟨rfl, rfl⟩)⟩
    · exact ⟨ha, .inr (.inr ⟨rfl, rfl⟩)⟩
  · rintro ⟨h1, (h2 | ⟨rfl, rfl⟩) | (h2 | ⟨rfl, rfl⟩)⟩
    · exact .inl ⟨h1, .inl h2⟩
    · exact .inr (.inl ⟨rfl, rfl⟩)
    · exact .inl ⟨h1, .inr h2⟩
    · exact .inr (.inr ⟨rfl, rfl⟩)
theorem mem_edN_iff {n : Nat} {E : Nat → Nat → Bool} {a b : Nat} : (a, b) ∈ edN n E n ↔ a < b ∧ b < n ∧ E a b = true := by
  simp only [edN, edRow, List.mem_flatMap, List.mem_range, List.mem_map, List.mem_filter, Bool.and_eq_true, decide_eq_true_eq, Prod.mk.injEq]
  constructor
  · rintro ⟨u, hu, v, ⟨hv, h1, h2⟩, rfl, rfl⟩
    exact ⟨h1, hv, h2⟩
  · rintro ⟨h1, h2, h3⟩
    exact ⟨a, by omega, b, ⟨h2, h1, h3⟩, rfl, rfl⟩
theorem memE_edN {g : List (List Int)} (hg : GOk g) : matG g.length (memE (edN g.length (ofG g) g.length)) = g := by
  rw [← matG_congr (E := ofG g)]
  · exact matG_ofG hg
  · intro r j hr hj
    rw [Bool.eq_iff_iff]
    simp only [memE, decide_eq_true_eq, mem_edN_iff]
    constructor
    · intro h
      rcases Nat.lt_trichotomy r j with h1 | rfl | h1
      · exact .inl ⟨h1, hj, h⟩
      · rw [ofG_irr hg] at h; cases h
      · exact .inr ⟨h1, hr, ofG_sym hg _ _ h⟩
    · rintro (⟨_, _, h⟩ | ⟨_, _, h⟩)
      · exact h
      · exact ofG_sym hg _ _ h
theorem perm_sumI {a b : List Int} (h : a.Perm b) : a.sum = b.sum := by
  induction h with
  | nil => rfl
  | cons x _ ih => simp [ih]
  | swap x y l => simp; omega
  | trans _ _ h1 h2 => exact h1.trans h2
theorem sum_take_snoc {l : List Int} {k : Nat} (h : k < l.length) : (l.take (k + 1)).sum = (l.take k).sum + l[k] := by
  rw [List.take_succ_eq_append_getElem h, List.sum_append]
  simp
theorem sum_bound {l : List Int} {c : Int} (h : ∀ x ∈ l, 0 ≤ x ∧ x ≤ c) : 0 ≤ l.sum ∧ l.sum ≤ c * l.length := by
  induction l with
  | nil => simp
  | cons a l ih =>
    have h1 := h a (by simp)
    have h2 := ih fun x hx => h x (by simp [hx])
    rw [List.sum_cons, List.length_cons]
    have e : c * ((l.length + 1 : Nat) : Int) = c * (l.length : Int) + c := by rw [Int.natCast_add, Int.mul_add]; simp
    rw [e]
    omega
/-- The degrees of the first vertices. -/
def degL (g : List (List Int)) (k : Nat) : List Int := (List.range k).map fun v => ((row g v).length : Int)
theorem degL_succ (g : List (List Int)) (k : Nat) : degL g (k + 1) = degL g k ++ [((row g k).length : Int)] := by simp [degL, List.range_succ]
theorem degL_length (g : List (List Int)) (k : Nat) : (degL g k).length = k := by simp [degL]
theorem row_degE {g : List (List Int)} (hg : GOk g) {v : Nat} (hv : v < g.length) : (row g v).length = degN g.length (ofG g) v := by
  have hs := (hg.sets v hv).1
  have e : (row g v).map Int.toNat = (List.range g.length).filter (ofG g v) := by
    refine rising_ext _ _ ?_ (List.Pairwise.filter _ List.pairwise_lt_range) fun x => ?_
    · rw [List.pairwise_map]
      refine hs.2.imp_of_mem fun {a b} ha hb hab => ?_
      have := hs.1 a ha
      have := hs.1 b hb
      omega
    · rw [List.mem_map, List.mem_filter, List.mem_range]
      simp only [ofG, decide_eq_true_eq]
      constructor
      · rintro ⟨y, hy, rfl⟩
        have := hs.1 y hy
        exact ⟨by omega, by rw [show ((y.toNat : Nat) : Int) = y by omega]; exact hy⟩
      · rintro ⟨_, h⟩
        exact ⟨_, h, by simp⟩
  have := congrArg List.length e
  rw [List.length_map] at this
  rw [this, degN, List.countP_eq_length_filter]
theorem degL_sum {g : List (List Int)} (hg : GOk g) : (degL g g.length).sum = ((2 * (edN g.length (ofG g) g.length).length : Nat) : Int) := by
  have h1 := two_cntE hg
  rw [cntE_edN hg _ (Nat.le_refl _)] at h1
  rw [← h1]
  unfold degL totN
  have : ∀ k, k ≤ g.length → ((List.range k).map fun v => ((row g v).length : Int)).sum = ((((List.range k).map (degN g.length (ofG g))).sum : Nat) : Int) := by
    intro k
    induction k with
    | zero => intro _; rfl
    | succ k ih =>
      intro hk
      rw [List.range_succ, List.map_append, List.map_append, List.sum_append, List.sum_append, ih (by omega)]
      have := row_degE hg (v := k) (by omega)
      simp [this]
  exact this g.length (Nat.le_refl _)

end Go.Proofs.YtfokiijcpkhllaaDoor

/- Plain: the vertices that are left when one is cut; an edge contracted; the graph of some vertices. -/
namespace Go.Proofs.YtfokiijcpkhllaaDoor

/-- The vertices that are left when one is cut. -/
def restN (n b : Nat) : List Nat := (List.range n).filter fun v => v != b
theorem mem_restN {n b v : Nat} : v ∈ restN n b ↔ v < n ∧ v ≠ b := by simp [restN]
theorem restN_rising (n b : Nat) : (restN n b).Pairwise (· < ·) := List.Pairwise.filter _ List.pairwise_lt_range
/-- Sets of a pattern's vertices: row i holds the i-th of a rising list, and perhaps one more vertex. -/
theorem rising_inj {l : List Nat} (h : l.Pairwise (· < ·)) {i k : Nat} (hi : i < l.length) (hk : k < l.length) (e : l[i] = l[k]) : i = k := by
  rcases Nat.lt_trichotomy i k with h1 | h1 | h1
  · have := List.pairwise_iff_getElem.1 h i k hi hk h1; omega
  · exact h1
  · have := List.pairwise_iff_getElem.1 h k i hk hi h1; omega

theorem natInts_at {l : List Nat} {i : Nat} (h : i < l.length) : (natInts l).getD i 0 = (l[i] : Int) := by simp [natInts, h]
theorem indE_nat {g : List (List Int)} {l : List Nat} {i k : Nat} (hi : i < l.length) (hk : k < l.length) : indE g (natInts l) i k = ofG g l[i] l[k] := by
  unfold indE ofG
  rw [natInts_at hi, natInts_at hk, Int.toNat_natCast]
theorem indL_gok {g : List (List Int)} {l : List Nat} (hg : GOk g) (hl : ∀ v ∈ l, v < g.length) (h1 : 1 ≤ l.length) (h16 : l.length ≤ 16) : GOk (indL g (natInts l)) := by
  have hs := indE_sym hg (l := natInts l) fun x hx => by
    obtain ⟨i, hi, rfl⟩ := mem_natInts.1 hx
    have := hl i hi
    omega
  unfold indL
  rw [natInts_length] at hs ⊢
  rw [show matG l.length (indE g (natInts l)) = matG l.length (fun r j => decide (r < l.length) && decide (j < l.length) && indE g (natInts l) r j) from matG_congr fun r j hr hj => by simp [hr, hj]]
  refine gok_matG h1 h16 (fun r j h => ?_) fun r => ?_
  · simp only [Bool.and_eq_true, decide_eq_true_eq] at h ⊢
    exact ⟨⟨h.1.2, h.1.1⟩, by rw [← hs.sym r j h.1.1 h.1.2]; exact h.2⟩
  · by_cases hr : r < l.length
    · rw [hs.irr r hr]; simp
    · simp [hr]
theorem matG_to {m : Nat} {E : Nat → Nat → Bool} {i k : Nat} (hi : i < m) (_hk : k < m) (h : ofG (matG m E) i k = true) : E i k = true := by
  simp only [ofG, decide_eq_true_eq] at h
  obtain ⟨j, hj, _, hE⟩ := (mem_matG hi).1 h
  obtain rfl : j = k := by omega
  exact hE
/-- The edges when what b has is given to a. -/
def conE (E : Nat → Nat → Bool) (a b : Nat) : Nat → Nat → Bool := fun r j => E r j || (r == a && (E b j && j != a)) || (j == a && (E b r && r != a))
theorem conE_sym {E : Nat → Nat → Bool} (hs : ∀ r j, E r j = true → E j r = true) (a b r j : Nat) (h : conE E a b r j = true) : conE E a b j r = true := by
  unfold conE at h ⊢
  simp only [Bool.or_eq_true, Bool.and_eq_true] at h ⊢
  rcases h with (h | h) | h
  · exact .inl (.inl (hs _ _ h))
  · exact .inr h
  · exact .inl (.inr h)
theorem conE_irr {E : Nat → Nat → Bool} (hi : ∀ r, E r r = false) (a b r : Nat) : conE E a b r r = false := by
  unfold conE
  rw [hi]
  by_cases e : r = a
  · subst e; simp
  · simp [e]
end Go.Proofs.YtfokiijcpkhllaaDoor
