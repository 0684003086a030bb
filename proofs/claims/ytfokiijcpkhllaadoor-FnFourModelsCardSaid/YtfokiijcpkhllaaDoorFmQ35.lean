/- Plain: two lines of the same numbers, and what crosses. -/
import Derived.Test.YtfokiijcpkhllaaDoorFmQ7
import Derived.Test.YtfokiijcpkhllaaDoorFmQ13
import Derived.Laws.MakeOwn
import Derived.Test.YtfokiijcpkhllaaDoorFmQ34
namespace Go.Proofs.YtfokiijcpkhllaaDoor

theorem ordOk_mem {n : Nat} {l : List Int} (h : OrdOk n l) {x : Int} (h0 : 0 ≤ x) (h1 : x < n) : x ∈ l := by
  refine Classical.byContradiction fun hx => ?_
  have hs : SetIn (n : Int) ((l ++ [x]).mergeSort fun x y => decide (x ≤ y)) := setIn_sort.2 ⟨fun y hy => by
    rcases List.mem_append.1 hy with hy | hy
    · exact h.2.1 y hy
    · simp only [List.mem_singleton] at hy; subst hy; exact ⟨h0, h1⟩, nodup_snoc.2 ⟨h.2.2, hx⟩⟩
  have := setIn_length (by omega) hs
  rw [List.length_mergeSort, List.length_append, h.1] at this
  simp at this
  omega

/-- Where a number stands first. -/
def plcN : List Int → Int → Nat
  | [], _ => 0
  | x :: l, v => if x = v then 0 else plcN l v + 1
def plc (a : List Int) (v : Int) : Int := if v ∈ a then ((plcN a v : Nat) : Int) else -1

theorem plcN_first : ∀ (a : List Int) (v : Int) (k : Nat) (hk : k < a.length), a[k] = v → v ∉ a.take k → plcN a v = k
  | [], _, _, hk, _, _ => by simp at hk
  | x :: l, v, 0, _, h, _ => by simp at h; simp [plcN, h]
  | x :: l, v, k + 1, hk, h, hn => by
    simp only [List.take_succ_cons, List.mem_cons, not_or] at hn
    simp only [List.getElem_cons_succ] at h
    simp only [List.length_cons] at hk
    have := plcN_first l v k (by omega) h hn.2
    unfold plcN
    rw [if_neg (fun e => hn.1 e.symm), this]
theorem plcN_get : ∀ (a : List Int) (v : Int), v ∈ a → a[plcN a v]? = some v
  | [], _, h => by simp at h
  | x :: l, v, h => by
    unfold plcN
    by_cases e : x = v
    · rw [if_pos e]; simp [e]
    · rw [if_neg e]
      simp only [List.mem_cons] at h
      rcases h with h | h
      · exact absurd h.symm e
      · simpa using plcN_get l v h
theorem plc_first {a : List Int} {v : Int} {k : Nat} (hk : k < a.length) (h : a[k] = v) (hn : v ∉ a.take k) : plc a v = k := by
  unfold plc
  rw [if_pos (mem_of_getElem hk h), plcN_first a v k hk h hn]
theorem plc_out {a : List Int} {v : Int} (h : v ∉ a) : plc a v = -1 := by unfold plc; rw [if_neg h]
theorem plc_at {a : List Int} (h : a.Nodup) {k : Nat} (hk : k < a.length) : plc a a[k] = k := by
  refine plc_first hk rfl ?_
  have h1 : (a.take (k + 1)).Nodup := h.sublist (List.take_sublist _ _)
  rw [take_snoc' a k hk] at h1
  exact (nodup_snoc.1 h1).2
theorem plc_inj {a : List Int} {u v : Int} (hu : u ∈ a) (hv : v ∈ a) (h : plc a u = plc a v) : u = v := by
  unfold plc at h
  rw [if_pos hu, if_pos hv] at h
  have e1 := plcN_get a u hu
  have e2 := plcN_get a v hv
  rw [show plcN a u = plcN a v by omega, e2] at e1
  exact (Option.some.inj e1).symm
theorem plc_lt {a : List Int} (v : Int) : -1 ≤ plc a v ∧ plc a v ≤ a.length := by
  unfold plc
  split
  · rename_i h
    have e1 := plcN_get a v h
    have := (List.getElem?_eq_some_iff.1 e1).1
    omega
  · omega

/-- Two numbers stand crosswise. -/
def crE (a b : List Int) (u v : Int) : Bool := decide (u ≠ v) && (decide (plc a u < plc a v) != decide (plc b u < plc b v))
def crN (a b : List Int) : Nat → Nat → Bool := fun u v => crE a b u v
def LineOk (a : List Int) : Prop := 1 ≤ a.length ∧ a.length ≤ 16 ∧ OrdOk a.length a
def LinesOk (a b : List Int) : Prop := LineOk a ∧ LineOk b ∧ a.length = b.length

theorem crN_sym {a b : List Int} (h : LinesOk a b) : SymE a.length (crN a b) := by
  refine ⟨fun r j hr hj => ?_, fun r hr => by simp [crN, crE]⟩
  unfold crN crE
  by_cases e : r = j
  · subst e; rfl
  have ha := h.1.2.2
  have hb := h.2.1.2.2
  have hl := h.2.2
  have e' : ((r : Int)) ≠ ((j : Nat) : Int) := fun q => e (by omega)
  have a1 : plc a r ≠ plc a j := fun q => e' (plc_inj (ordOk_mem ha (by omega) (by omega)) (ordOk_mem ha (by omega) (by omega)) q)
  have b1 : plc b r ≠ plc b j := fun q => e' (plc_inj (ordOk_mem hb (by omega) (by omega)) (ordOk_mem hb (by omega) (by omega)) q)
  have x1 : decide (plc a j < plc a r) = !decide (plc a r < plc a j) := by
    rw [Bool.eq_iff_iff]; simp; omega
  have x2 : decide (plc b j < plc b r) = !decide (plc b r < plc b j) := by
    rw [Bool.eq_iff_iff]; simp; omega
  have x3 : decide ((j : Int) ≠ (r : Int)) = decide ((r : Int) ≠ (j : Int)) := by
    rw [Bool.eq_iff_iff]; simp; omega
  rw [x1, x2, x3]
  cases decide (plc a r < plc a j) <;> cases decide (plc b r < plc b j) <;> rfl

/-- What PermGraph returns. -/
def PermS (a b : List Int) (gg : List (List Int)) (ok : Bool) : Prop :=
  (ok = true ∧ LinesOk a b ∧ gg = matG a.length (crN a b)) ∨ (ok = false ∧ gg = [] ∧ ¬ LinesOk a b)
theorem permS_det {a b : List Int} {gg hh : List (List Int)} {ok ok' : Bool} (h : PermS a b gg ok) (h' : PermS a b hh ok') : gg = hh ∧ ok = ok' := by
  rcases h with ⟨rfl, h1, rfl⟩ | ⟨rfl, rfl, h⟩ <;> rcases h' with ⟨rfl, h1', rfl⟩ | ⟨rfl, rfl, h'⟩
  · exact ⟨rfl, rfl⟩
  · exact absurd h1 h'
  · exact absurd h1' h
  · exact ⟨rfl, rfl⟩

theorem permS_yes {a b : List Int} {gg : List (List Int)} {ok : Bool} (h : PermS a b gg ok) (hl : LinesOk a b) : gg = matG a.length (crN a b) ∧ ok = true := by
  rcases h with ⟨h1, _, h2⟩ | ⟨_, _, h⟩
  · exact ⟨h2, h1⟩
  · exact absurd hl h
theorem permS_no {a b : List Int} {gg : List (List Int)} {ok : Bool} (h : PermS a b gg ok) (hl : ¬ LinesOk a b) : gg = [] ∧ ok = false := by
  rcases h with ⟨_, h, _⟩ | ⟨h1, h2, _⟩
  · exact absurd h hl
  · exact ⟨h2, h1⟩

/-- What stands in the places behind k rounds. -/
def placesL (a : List Int) (k : Nat) : List Int := (List.range a.length).map fun v => if ((v : Nat) : Int) ∈ a.take k then plc a v else 0
theorem placesL_length (a : List Int) (k : Nat) : (placesL a k).length = a.length := by simp [placesL]
theorem placesL_zero (a : List Int) : placesL a 0 = List.replicate a.length 0 := by
  refine List.ext_getElem (by simp [placesL]) fun j h1 h2 => ?_
  simp [placesL]
theorem placesL_step {a : List Int} (h : OrdOk a.length a) {k : Nat} (hk : k < a.length) : (placesL a k).set a[k].toNat k = placesL a (k + 1) := by
  have h0 := h.2.1 _ (List.getElem_mem hk)
  refine List.ext_getElem (by simp [placesL]) fun j h1 h2 => ?_
  rw [placesL_length] at h2
  rw [List.getElem_set]
  simp only [placesL, List.getElem_map, List.getElem_range]
  rw [take_snoc' a k hk]
  by_cases e : a[k].toNat = j
  · rw [if_pos e]
    have ej : ((j : Nat) : Int) = a[k] := by omega
    rw [if_pos (by rw [ej]; exact List.mem_append_right _ (List.mem_singleton.2 rfl)), ej, plc_at h.2.2 hk]
  · rw [if_neg e]
    have ej : ((j : Nat) : Int) ≠ a[k] := by omega
    have : ((j : Nat) : Int) ∈ a.take k ++ [a[k]] ↔ ((j : Nat) : Int) ∈ a.take k := by rw [List.mem_append, List.mem_singleton]; exact or_iff_left ej
    simp only [this]
theorem placesL_end {a : List Int} (h : OrdOk a.length a) : placesL a a.length = (List.range a.length).map fun v => plc a ((v : Nat) : Int) := by
  refine List.ext_getElem (by simp [placesL]) fun j h1 h2 => ?_
  rw [placesL_length] at h1
  simp only [placesL, List.getElem_map, List.getElem_range, List.take_length]
  rw [if_pos (ordOk_mem h (by omega) (by omega))]
theorem placesL_get {a : List Int} (h : OrdOk a.length a) {i : Nat} (hi : i < (placesL a a.length).length) : (placesL a a.length)[i] = plc a ((i : Nat) : Int) := by
  have e := placesL_end h
  simp only [e, List.getElem_map, List.getElem_range]

/-- The double loop of masks. -/
theorem matG_inj {m : Nat} {E F : Nat → Nat → Bool} (h : matG m E = matG m F) : ∀ r j, r < m → j < m → E r j = F r j := by
  intro r j hr hj
  have h1 : ((j : Nat) : Int) ∈ row (matG m E) r ↔ ((j : Nat) : Int) ∈ row (matG m F) r := by rw [h]
  rw [mem_matG hr, mem_matG hr] at h1
  rw [Bool.eq_iff_iff]
  constructor
  · intro h2
    obtain ⟨i, hi, _, h3⟩ := h1.1 ⟨j, rfl, hj, h2⟩
    obtain rfl : i = j := by omega
    exact h3
  · intro h2
    obtain ⟨i, hi, _, h3⟩ := h1.2 ⟨j, rfl, hj, h2⟩
    obtain rfl : i = j := by omega
    exact h3
theorem uptoN_start (m : Nat) (E : Nat → Nat → Bool) : indN m (uptoE E 0 0) = List.replicate m 0 := indN_none m fun r j _ _ => by simp [uptoE]
theorem uptoN_row {m : Nat} {E : Nat → Nat → Bool} (h : SymE m E) {i : Nat} : indN m (uptoE E i i) = indN m (uptoE E (i + 1) 0) := indN_congr (matG_inj (upto_row h))
theorem uptoN_end {m : Nat} {E : Nat → Nat → Bool} : indN m (uptoE E m 0) = indN m E := indN_congr (matG_inj upto_end)
theorem uptoN_no {m : Nat} {E : Nat → Nat → Bool} (h : SymE m E) {i k : Nat} (hi : i < m) (hk : k < i) (he : E i k = false) : indN m (uptoE E i k) = indN m (uptoE E i (k + 1)) := indN_congr (matG_inj (upto_no h hi hk he))
theorem uptoN_yes {m : Nat} {E : Nat → Nat → Bool} (h : SymE m E) {i k : Nat} (hi : i < m) (hk : k < i) (he : E i k = true) : joinL (indN m (uptoE E i k)) i k = indN m (uptoE E i (k + 1)) := by
  have h1 := upto_yes h hi hk he
  rw [link_matG (by omega) hi (by omega)] at h1
  have h2 := matG_inj h1
  refine natList_ext (by rw [joinL_length, indN_length, indN_length]) fun r hr => ?_
  rw [joinL_length, indN_length] at hr
  refine Nat.eq_of_testBit_eq fun j => ?_
  rw [Bool.eq_iff_iff, joinL_testBit (by rw [indN_length]; exact hi) (by rw [indN_length]; omega) (by omega), indN_bit hr, indN_bit hr]
  by_cases hj : j < m
  · rw [← h2 r j hr hj]
    simp only [hj, decide_true, Bool.true_and, Bool.or_eq_true, Bool.and_eq_true, beq_iff_eq]
    constructor
    · rintro (h | ⟨rfl, rfl⟩ | ⟨rfl, rfl⟩)
      · exact .inl (.inl h)
      · exact .inr ⟨rfl, rfl⟩
      · exact .inl (.inr ⟨rfl, rfl⟩)
    · rintro ((h | ⟨rfl, rfl⟩) | ⟨rfl, rfl⟩)
      · exact .inl h
      · exact .inr (.inr ⟨rfl, rfl⟩)
      · exact .inr (.inl ⟨rfl, rfl⟩)
  · simp only [hj, decide_false, Bool.false_and, Bool.false_eq_true, false_or, iff_false]
    rintro (⟨rfl, rfl⟩ | ⟨rfl, rfl⟩) <;> omega

end Go.Proofs.YtfokiijcpkhllaaDoor

/- Walk: the program's elimination. -/
namespace Go.Proofs.YtfokiijcpkhllaaDoor
open Go.RowKit

/-- 'append(s, x...)' as a step of a region that draws. -/
theorem step_app {P : Program} {T E : TypeId} {z : Value} {size bytes : Nat} (S : SlTy P T E z size bytes) {w : World} {ops : Array Oper} {o : Oper} {a : Act} {K : Act → World → Prop} {Q : Exit → Act → World → Prop} {F : Prop}
    (hgd : o.guard = none) {s x : Operand} (ho : o.op = .call { callee := .builtin .append, args := #[s, x], argTypes := #[T, T] })
    {base : Nat} {v : Value} {n : Nat} {xs : List Value} (hs : a.eval s = v) (hown : w.ownsRow base E size v n xs)
    {u : Value} {m : Nat} {news : List Value} (hx : a.eval x = u) (hu : Sl w E u m news) (hl : news.length = m * size) (h1 : ∀ x ∈ news, x.oneCell' = true)
    (hnm : n + m ≤ 1000000000) (hbase : base ≤ w.heap.size)
    (h : ∀ v' w', w'.ownsRow base E size v' (n + m) (xs ++ news) → w.grownBy w' v.ownBlock → (∀ k, v'.ownBlock = some k → v.ownBlock = some k ∨ w.heap.size ≤ k) → K (a.put o.dst v') w') :
    if Region.wanted o (yielded ops a.tmps) = true then Oper.wp P o a w K Q else F := by
  have hw : Region.wanted o (yielded ops a.tmps) = true := by simp [Region.wanted, hgd]
  rw [if_pos hw]
  obtain ⟨v', w', hr, h2, h3, h4⟩ := run_app S w o.type base v n xs hown u m news hu hl h1 hnm hbase
  unfold Oper.wp execOp
  simp only [ho, resolve, invoke, builtin, Sem.run_bind, Sem.run_pure, Result.andThen_ok, List.map_toArray, List.map_cons, List.map_nil, hs, hx, hr]
  exact h _ _ h2 h3 h4

theorem run_mk_nets (n : Nat) (hn : n ≤ 1000) (w : World) : (Instr.makeSlice 61 (.int .i64 n) (.int .i64 n)).run Tryd.prog w = .ok (.slice (some ⟨w.heap.size, 0, none⟩) n n) (w.alloc (.cells (Array.replicate n (.int .u32 0)) 64)) := by
  obtain ⟨i, hi, hz, hsz, hby⟩ := info_parts ty_nets.info
  have e : madeCells (Value.int .u32 0).cells ((n : Int).toNat * i.size) = Array.replicate n (Value.int .u32 0) := by
    rw [hsz, Int.toNat_natCast, Nat.mul_one]
    refine Array.ext (by simp [madeCells]) fun j h1 h2 => ?_
    simp [madeCells, Value.cells, Nat.mod_one]
  have h := run_make (P := Tryd.prog) w 61 64 i (.int .u32 0) ty_nets.under hi hz .i64 .i64 n n (by omega) (Int.le_refl _) (by rw [hby]; omega) (by omega)
  rw [e, Int.toNat_natCast] at h
  exact h

theorem owns_made (w : World) (n : Nat) (hn : n ≤ 1000) : (w.alloc (.cells (Array.replicate n (.int .u32 0)) 64)).ownsRow w.heap.size 64 1 (.slice (some ⟨w.heap.size, 0, none⟩) n n) n (List.replicate n (.int .u32 0)) :=
  ⟨by simp, .inr ⟨w.heap.size, n, Array.replicate n (.int .u32 0), rfl, Nat.le_refl _, heap_alloc_new w _, Nat.le_refl _, by simp only [maxLen]; omega, by simp, by simp⟩⟩

end Go.Proofs.YtfokiijcpkhllaaDoor

/- Walk: the program's QuotientBy of a model. -/
namespace Go.Proofs.YtfokiijcpkhllaaDoor
open Go.RowKit

/-- Two sets of a model are joined. -/
noncomputable def jnE (g M : List (List Int)) (i k : Nat) : Bool := dec (i ≠ k ∧ JoinP g (row M i) (row M k))
theorem joinP_sym {g : List (List Int)} (hg : GOk g) {A B : List Int} (hA : SetIn g.length A) (h : JoinP g A B) : JoinP g B A := by
  obtain ⟨x, hx, y, hy, e⟩ := h
  have h0 := hA.1 x hx
  have := hg.both x.toNat (by omega) y e
  rw [show ((x.toNat : Nat) : Int) = x by omega] at this
  exact ⟨y, hy, x, hx, this⟩
theorem jnE_sym {g M : List (List Int)} (h : MdW g M) : SymE M.length (jnE g M) where
  sym := fun i k hi hk => by
    unfold jnE
    exact dec_congr ⟨fun h1 => ⟨Ne.symm h1.1, joinP_sym h.1.1 (h.2 i hi).1 h1.2⟩, fun h1 => ⟨Ne.symm h1.1, joinP_sym h.1.1 (h.2 k hk).1 h1.2⟩⟩
  irr := fun i _ => dec_false fun h1 => h1.1 rfl

theorem below_grownQ {B : Nat} {w0 w w' : World} {b : Nat} (h : Below B w0 w) (hg : w.grownBy w' (some b)) (hl : B ≤ b) (hB : B ≤ w.heap.size) : Below B w0 w' :=
  ⟨hg.os.trans h.os, hg.tape.trans h.tape, hg.output.trans h.output, Nat.le_trans h.size hg.size, fun k hk => (hg.block k (Nat.lt_of_lt_of_le hk hB) (fun e => by
    have e : k = b := by simpa using e
    omega)).trans (h.block k hk)⟩


end Go.Proofs.YtfokiijcpkhllaaDoor

/- Plain: a model of a model is a model. -/
namespace Go.Proofs.YtfokiijcpkhllaaDoor

theorem connL_all {E : Nat → Nat → Bool} (hE : ∀ r j, E r j = true → E j r = true) {L : List Nat} (h : ConnL E L) {x y : Nat} (hx : x ∈ L) (hy : y ∈ L) : Rch E (· ∈ L) x y := by
  have h0 : L.headD 0 ∈ L := by
    cases L with
    | nil => exact absurd rfl h.1
    | cons a L => simp
  exact rch_trans (rch_sym hE h0 (h.2 x hx)) (h.2 y hy)
theorem connL_of {E : Nat → Nat → Bool} {L : List Nat} (h : L ≠ []) (h2 : ∀ x ∈ L, ∀ y ∈ L, Rch E (· ∈ L) x y) : ConnL E L := by
  refine ⟨h, fun x hx => h2 _ ?_ x hx⟩
  cases L with
  | nil => exact absurd rfl h
  | cons a L => simp
/-- All neighbours in the pattern are joined. -/
theorem mdOk_join {g p M : List (List Int)} (h : MdOk g p M) {i k : Nat} (hE : ofG p i k = true) : JoinP g (row M i) (row M k) := by
  have hp := h.1.1.2
  have hl := h.1.2
  have hk := ofG_to hp i k hE
  have hi := ofG_to hp k i (ofG_sym hp i k hE)
  rcases Nat.lt_trichotomy i k with hlt | rfl | hgt
  · exact h.2.2 (i, k) (mem_edN' hlt hk hE)
  · rw [ofG_irr hp] at hE; cases hE
  · exact joinP_sym h.1.1.1.1.1 (h.1.1.1.2 k (by omega)).1 (h.2.2 (k, i) (mem_edN' hgt hi (ofG_sym hp i k hE)))
theorem mdOk_conn {g p M : List (List Int)} (h : MdOk g p M) {a : Nat} (ha : a < M.length) {x y : Int} (hx : x ∈ row M a) (hy : y ∈ row M a) : Rch (ofG g) (· ∈ (row M a).map Int.toNat) x.toNat y.toNat :=
  connL_all (ofG_sym h.1.1.1.1.1) (h.2.1 a ha).2 (List.mem_map.2 ⟨x, hx, rfl⟩) (List.mem_map.2 ⟨y, hy, rfl⟩)
theorem mdOk_some {g p M : List (List Int)} (h : MdOk g p M) {a : Nat} (ha : a < M.length) : ∃ x, x ∈ row M a := by
  refine List.exists_mem_of_ne_nil _ fun e => (h.2.1 a ha).2.1 ?_
  rw [e]; rfl

theorem mdOk_comp {g p q M W R : List (List Int)} (h : MdOk g p M) (k : MdOk p q W) (hR : CmpS M W R) : MdOk g q R := by
  have hg := h.1.1.1.1.1
  have hql : W.length = q.length := k.1.2
  have hRl : R.length = W.length := hR.1
  have hW : ∀ a, a < W.length → ∀ z ∈ row W a, 0 ≤ z ∧ z.toNat < M.length := fun a ha z hz => by
    have := (k.1.1.1.2 a ha).1.1 z hz
    have := h.1.2
    omega
  have hin : ∀ a, a < W.length → SetIn g.length (row R a) := fun a ha => by
    refine ⟨fun x hx => ?_, (hR.2 a ha).1⟩
    obtain ⟨z, hz, hxz⟩ := ((hR.2 a ha).2 x).1 hx
    exact (h.1.1.1.2 z.toNat (hW a ha z hz).2).1.1 x hxz
  -- two sets of the model that meet are one
  have hone : ∀ i j, i < M.length → j < M.length → ∀ x, x ∈ row M i → x ∈ row M j → i = j := fun i j hi hj x h1 h2 => by
    rcases Nat.lt_trichotomy i j with hlt | e | hgt
    · exact absurd h1 ((h.1.1.1.2 j hj).2 i hlt x h2)
    · exact e
    · exact absurd h2 ((h.1.1.1.2 i hi).2 j hgt x h1)
  refine ⟨⟨⟨⟨⟨hg, by rw [hRl]; exact k.1.1.1.1.2⟩, fun a ha => ?_⟩, k.1.1.2⟩, by rw [hRl, hql]⟩, fun a ha => ?_, fun e he => ?_⟩
  · rw [hRl] at ha
    refine ⟨hin a ha, fun b hb x hx hxb => ?_⟩
    have hb2 : b < W.length := by omega
    obtain ⟨z, hz, hxz⟩ := ((hR.2 a ha).2 x).1 hx
    obtain ⟨y, hy, hxy⟩ := ((hR.2 b hb2).2 x).1 hxb
    have h1 := hW a ha z hz
    have h2 := hW b hb2 y hy
    have e := hone _ _ h1.2 h2.2 x hxz hxy
    have e2 : z = y := by omega
    subst e2
    exact (k.1.1.1.2 a ha).2 b hb z hz hy
  · rw [hRl] at ha
    have hmem : ∀ {z x : Int}, z ∈ row W a → x ∈ row M z.toNat → x ∈ row R a := fun hz hx => ((hR.2 a ha).2 _).2 ⟨_, hz, hx⟩
    have hmono : ∀ {z x y : Int}, z ∈ row W a → x ∈ row M z.toNat → y ∈ row M z.toNat → Rch (ofG g) (· ∈ (row R a).map Int.toNat) x.toNat y.toNat := fun {z x y} hz hx hy =>
      rch_mono (fun t ht => by
        obtain ⟨s, hs, rfl⟩ := List.mem_map.1 ht
        exact List.mem_map.2 ⟨s, hmem hz hs, rfl⟩) _ (mdOk_conn h (hW a ha z hz).2 hx hy)
    -- from one set on to all others
    have hto : ∀ z0 ∈ row W a, ∀ x0 ∈ row M z0.toNat, ∀ t, Rch (ofG p) (· ∈ (row W a).map Int.toNat) z0.toNat t → ∀ x ∈ row M t, Rch (ofG g) (· ∈ (row R a).map Int.toNat) x0.toNat x.toNat := by
      intro z0 hz0 x0 hx0 t ht
      have hz0in : z0.toNat ∈ (row W a).map Int.toNat := List.mem_map.2 ⟨z0, hz0, rfl⟩
      induction ht with
      | base => exact fun x hx => hmono hz0 hx0 hx
      | step h1 h2 h3 ih =>
        rename_i u v
        intro x hx
        obtain ⟨zu, hzu, e1⟩ := List.mem_map.1 (rch_in (S := (· ∈ (row W a).map Int.toNat)) hz0in _ h1)
        obtain ⟨zv, hzv, e2⟩ := List.mem_map.1 h3
        obtain ⟨s, hs, y, hy, hsy⟩ := mdOk_join h h2
        have hs0 := (h.1.1.1.2 u (by have := hW a ha zu hzu; omega)).1.1 s hs
        have hy0 := (h.1.1.1.2 v (by have := hW a ha zv hzv; omega)).1.1 y hy
        subst e1; subst e2
        refine rch_trans (ih s hs) (rch_trans (.step .base (y := y.toNat) ?_ ?_) (hmono hzv hy hx))
        · simp only [ofG, decide_eq_true_eq]
          rw [show ((y.toNat : Nat) : Int) = y by omega]
          exact hsy
        · exact List.mem_map.2 ⟨y, hmem hzv hy, rfl⟩
    refine ⟨⟨hg, hin a ha⟩, connL_of ?_ fun x hx y hy => ?_⟩
    · obtain ⟨z, hz⟩ := mdOk_some k ha
      obtain ⟨x, hx⟩ := mdOk_some h (hW a ha z hz).2
      exact List.ne_nil_of_mem (List.mem_map.2 ⟨x, hmem hz hx, rfl⟩)
    · obtain ⟨s, hs, rfl⟩ := List.mem_map.1 hx
      obtain ⟨t, ht, rfl⟩ := List.mem_map.1 hy
      obtain ⟨zs, hzs, hss⟩ := ((hR.2 a ha).2 s).1 hs
      obtain ⟨zt, hzt, htt⟩ := ((hR.2 a ha).2 t).1 ht
      exact hto zs hzs s hss zt.toNat (mdOk_conn k ha hzs hzt) t htt
  · obtain ⟨h1, h2, h3, h4⟩ := mem_edN (Nat.le_refl _) he
    obtain ⟨zx, hzx, zy, hzy, hj⟩ := k.2.2 e he
    have hx0 := hW e.1 (by omega) zx hzx
    have hy0 := hW e.2 (by omega) zy hzy
    obtain ⟨x, hx, y, hy, hxy⟩ := mdOk_join h (i := zx.toNat) (k := zy.toNat) (by
      simp only [ofG, decide_eq_true_eq]
      rw [show ((zy.toNat : Nat) : Int) = zy by omega]
      exact hj)
    exact ⟨x, ((hR.2 e.1 (by omega)).2 x).2 ⟨zx, hzx, hx⟩, y, ((hR.2 e.2 (by omega)).2 y).2 ⟨zy, hzy, hy⟩, hxy⟩

/-- A pattern's neighbours are neighbours in what a model makes. -/
theorem quot_has {g p M : List (List Int)} (h : MdOk g p M) {v : Nat} {y : Int} (hv : v < p.length) (hy : y ∈ row p v) : y ∈ row (matG M.length (jnE g M)) v := by
  have hp := h.1.1.2
  have h0 := (hp.sets v hv).1.1 y hy
  have hl := h.1.2
  rw [mem_matG (by omega)]
  refine ⟨y.toNat, by omega, by omega, dec_true ⟨fun e => ?_, ?_⟩⟩
  · have := (hp.sets v hv).2
    have e2 : (v : Int) = y := by omega
    rw [e2] at this
    exact this hy
  · refine mdOk_join h ?_
    simp only [ofG, decide_eq_true_eq]
    rw [show ((y.toNat : Nat) : Int) = y by omega]
    exact hy

end Go.Proofs.YtfokiijcpkhllaaDoor
