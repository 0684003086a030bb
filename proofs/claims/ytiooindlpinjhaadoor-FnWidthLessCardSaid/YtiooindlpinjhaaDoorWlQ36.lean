/- Plain: two lines of the same numbers, and what crosses. -/
import Derived.Test.YtiooindlpinjhaaDoorWlQ8
import Derived.Test.YtiooindlpinjhaaDoorWlQ12
import Derived.Laws.MakeOwn
import Derived.Test.YtiooindlpinjhaaDoorWlQ35
import Derived.Test.YtiooindlpinjhaaDoorWlQ29
namespace Go.Proofs.YtiooindlpinjhaaDoor

theorem ordOk_mem {n : Nat} {l : List Int} (h : OrdOk n l) {x : Int} (h0 : 0 ≤ x) (h1 : x < n) : x ∈ l := by
  refine Classical.byContradiction fun hx => ?_
  have hs : SetIn (n : Int) ((l ++ [x]).mergeSort fun x y => decide (x ≤ y)) := setIn_sort.2 ⟨fun y hy => by
    rcases List.mem_append.1 hy with hy | hy
    · exact h.2.1 y hy
    · simp only [List.mem_singleton] at hy; subst hy; exact ⟨h0, h1⟩, nodup_snoc.2 ⟨h.2.2, hx⟩⟩
  have := setIn_length (by omega) hs
  rw [List.length_mergeSort, List.length_append, h.1] at this
  simp at this
  omega

/-- Where a number stands first. -/
def plcN : List Int → Int → Nat
  | [], _ => 0
  | x :: l, v => if x = v then 0 else plcN l v + 1
def plc (a : List Int) (v : Int) : Int := if v ∈ a then ((plcN a v : Nat) : Int) else -1

theorem plcN_first : ∀ (a : List Int) (v : Int) (k : Nat) (hk : k < a.length), a[k] = v → v ∉ a.take k → plcN a v = k
  | [], _, _, hk, _, _ => by simp at hk
  | x :: l, v, 0, _, h, _ => by simp at h; simp [plcN, h]
  | x :: l, v, k + 1, hk, h, hn => by
    simp only [List.take_succ_cons, List.mem_cons, not_or] at hn
    simp only [List.getElem_cons_succ] at h
    simp only [List.length_cons] at hk
    have := plcN_first l v k (by omega) h hn.2
    unfold plcN
    rw [if_neg (fun e => hn.1 e.symm), this]
theorem plcN_get : ∀ (a : List Int) (v : Int), v ∈ a → a[plcN a v]? = some v
  | [], _, h => by simp at h
  | x :: l, v, h => by
    unfold plcN
    by_cases e : x = v
    · rw [if_pos e]; simp [e]
    · rw [if_neg e]
      simp only [List.mem_cons] at h
      rcases h with h | h
      · exact absurd h.symm e
      · simpa using plcN_get l v h
theorem plc_first {a : List Int} {v : Int} {k : Nat} (hk : k < a.length) (h : a[k] = v) (hn : v ∉ a.take k) : plc a v = k := by
  unfold plc
  rw [if_pos (mem_of_getElem hk h), plcN_first a v k hk h hn]
theorem plc_out {a : List Int} {v : Int} (h : v ∉ a) : plc a v = -1 := by unfold plc; rw [if_neg h]
theorem plc_at {a : List Int} (h : a.Nodup) {k : Nat} (hk : k < a.length) : plc a a[k] = k := by
  refine plc_first hk rfl ?_
  have h1 : (a.take (k + 1)).Nodup := h.sublist (List.take_sublist _ _)
  rw [take_snoc' a k hk] at h1
  exact (nodup_snoc.1 h1).2
theorem plc_inj {a : List Int} {u v : Int} (hu : u ∈ a) (hv : v ∈ a) (h : plc a u = plc a v) : u = v := by
  unfold plc at h
  rw [if_pos hu, if_pos hv] at h
  have e1 := plcN_get a u hu
  have e2 := plcN_get a v hv
  rw [show plcN a u = plcN a v by omega, e2] at e1
  exact (Option.some.inj e1).symm
theorem plc_lt {a : List Int} (v : Int) : -1 ≤ plc a v ∧ plc a v ≤ a.length := by
  unfold plc
  split
  · rename_i h
    have e1 := plcN_get a v h
    have := (List.getElem?_eq_some_iff.1 e1).1
    omega
  · omega

/-- Two numbers stand crosswise. -/
def crE (a b : List Int) (u v : Int) : Bool := decide (u ≠ v) && (decide (plc a u < plc a v) != decide (plc b u < plc b v))
def crN (a b : List Int) : Nat → Nat → Bool := fun u v => crE a b u v
def LineOk (a : List Int) : Prop := 1 ≤ a.length ∧ a.length ≤ 16 ∧ OrdOk a.length a
def LinesOk (a b : List Int) : Prop := LineOk a ∧ LineOk b ∧ a.length = b.length

theorem crN_sym {a b : List Int} (h : LinesOk a b) : SymE a.length (crN a b) := by
  refine ⟨fun r j hr hj => ?_, fun r hr => by simp [crN, crE]⟩
  unfold crN crE
  by_cases e : r = j
  · subst e; rfl
  have ha := h.1.2.2
  have hb := h.2.1.2.2
  have hl := h.2.2
  have e' : ((r : Int)) ≠ ((j : Nat) : Int) := fun q => e (by omega)
  have a1 : plc a r ≠ plc a j := fun q => e' (plc_inj (ordOk_mem ha (by omega) (by omega)) (ordOk_mem ha (by omega) (by omega)) q)
  have b1 : plc b r ≠ plc b j := fun q => e' (plc_inj (ordOk_mem hb (by omega) (by omega)) (ordOk_mem hb (by omega) (by omega)) q)
  have x1 : decide (plc a j < plc a r) = !decide (plc a r < plc a j) := by
    rw [Bool.eq_iff_iff]; simp; omega
  have x2 : decide (plc b j < plc b r) = !decide (plc b r < plc b j) := by
    rw [Bool.eq_iff_iff]; simp; omega
  have x3 : decide ((j : Int) ≠ (r : Int)) = decide ((r : Int) ≠ (j : Int)) := by
    rw [Bool.eq_iff_iff]; simp; omega
  rw [x1, x2, x3]
  cases decide (plc a r < plc a j) <;> cases decide (plc b r < plc b j) <;> rfl

/-- What PermGraph returns. -/
def PermS (a b : List Int) (gg : List (List Int)) (ok : Bool) : Prop :=
  (ok = true ∧ LinesOk a b ∧ gg = matG a.length (crN a b)) ∨ (ok = false ∧ gg = [] ∧ ¬ LinesOk a b)
theorem permS_det {a b : List Int} {gg hh : List (List Int)} {ok ok' : Bool} (h : PermS a b gg ok) (h' : PermS a b hh ok') : gg = hh ∧ ok = ok' := by
  rcases h with ⟨rfl, h1, rfl⟩ | ⟨rfl, rfl, h⟩ <;> rcases h' with ⟨rfl, h1', rfl⟩ | ⟨rfl, rfl, h'⟩
  · exact ⟨rfl, rfl⟩
  · exact absurd h1 h'
  · exact absurd h1' h
  · exact ⟨rfl, rfl⟩

theorem permS_yes {a b : List Int} {gg : List (List Int)} {ok : Bool} (h : PermS a b gg ok) (hl : LinesOk a b) : gg = matG a.length (crN a b) ∧ ok = true := by
  rcases h with ⟨h1, _, h2⟩ | ⟨_, _, h⟩
  · exact ⟨h2, h1⟩
  · exact absurd hl h
theorem permS_no {a b : List Int} {gg : List (List Int)} {ok : Bool} (h : PermS a b gg ok) (hl : ¬ LinesOk a b) : gg = [] ∧ ok = false := by
  rcases h with ⟨_, h, _⟩ | ⟨h1, h2, _⟩
  · exact absurd h hl
  · exact ⟨h2, h1⟩

/-- What stands in the places behind k rounds. -/
def placesL (a : List Int) (k : Nat) : List Int := (List.range a.length).map fun v => if ((v : Nat) : Int) ∈ a.take k then plc a v else 0
theorem placesL_length (a : List Int) (k : Nat) : (placesL a k).length = a.length := by simp [placesL]
theorem placesL_zero (a : List Int) : placesL a 0 = List.replicate a.length 0 := by
  refine List.ext_getElem (by simp [placesL]) fun j h1 h2 => ?_
  simp [placesL]
theorem placesL_step {a : List Int} (h : OrdOk a.length a) {k : Nat} (hk : k < a.length) : (placesL a k).set a[k].toNat k = placesL a (k + 1) := by
  have h0 := h.2.1 _ (List.getElem_mem hk)
  refine List.ext_getElem (by simp [placesL]) fun j h1 h2 => ?_
  rw [placesL_length] at h2
  rw [List.getElem_set]
  simp only [placesL, List.getElem_map, List.getElem_range]
  rw [take_snoc' a k hk]
  by_cases e : a[k].toNat = j
  · rw [if_pos e]
    have ej : ((j : Nat) : Int) = a[k] := by omega
    rw [if_pos (by rw [ej]; exact List.mem_append_right _ (List.mem_singleton.2 rfl)), ej, plc_at h.2.2 hk]
  · rw [if_neg e]
    have ej : ((j : Nat) : Int) ≠ a[k] := by omega
    have : ((j : Nat) : Int) ∈ a.take k ++ [a[k]] ↔ ((j : Nat) : Int) ∈ a.take k := by rw [List.mem_append, List.mem_singleton]; exact or_iff_left ej
    simp only [this]
theorem placesL_end {a : List Int} (h : OrdOk a.length a) : placesL a a.length = (List.range a.length).map fun v => plc a ((v : Nat) : Int) := by
  refine List.ext_getElem (by simp [placesL]) fun j h1 h2 => ?_
  rw [placesL_length] at h1
  simp only [placesL, List.getElem_map, List.getElem_range, List.take_length]
  rw [if_pos (ordOk_mem h (by omega) (by omega))]
theorem placesL_get {a : List Int} (h : OrdOk a.length a) {i : Nat} (hi : i < (placesL a a.length).length) : (placesL a a.length)[i] = plc a ((i : Nat) : Int) := by
  have e := placesL_end h
  simp only [e, List.getElem_map, List.getElem_range]

/-- The double loop of masks. -/
theorem matG_inj {m : Nat} {E F : Nat → Nat → Bool} (h : matG m E = matG m F) : ∀ r j, r < m → j < m → E r j = F r j := by
  intro r j hr hj
  have h1 : ((j : Nat) : Int) ∈ row (matG m E) r ↔ ((j : Nat) : Int) ∈ row (matG m F) r := by rw [h]
  rw [mem_matG hr, mem_matG hr] at h1
  rw [Bool.eq_iff_iff]
  constructor
  · intro h2
    obtain ⟨i, hi, _, h3⟩ := h1.1 ⟨j, rfl, hj, h2⟩
    obtain rfl : i = j := by omega
    exact h3
  · intro h2
    obtain ⟨i, hi, _, h3⟩ := h1.2 ⟨j, rfl, hj, h2⟩
    obtain rfl : i = j := by omega
    exact h3
theorem uptoN_start (m : Nat) (E : Nat → Nat → Bool) : indN m (uptoE E 0 0) = List.replicate m 0 := indN_none m fun r j _ _ => by simp [uptoE]
theorem uptoN_row {m : Nat} {E : Nat → Nat → Bool} (h : SymE m E) {i : Nat} : indN m (uptoE E i i) = indN m (uptoE E (i + 1) 0) := indN_congr (matG_inj (upto_row h))
theorem uptoN_end {m : Nat} {E : Nat → Nat → Bool} : indN m (uptoE E m 0) = indN m E := indN_congr (matG_inj upto_end)
theorem uptoN_no {m : Nat} {E : Nat → Nat → Bool} (h : SymE m E) {i k : Nat} (hi : i < m) (hk : k < i) (he : E i k = false) : indN m (uptoE E i k) = indN m (uptoE E i (k + 1)) := indN_congr (matG_inj (upto_no h hi hk he))
theorem uptoN_yes {m : Nat} {E : Nat → Nat → Bool} (h : SymE m E) {i k : Nat} (hi : i < m) (hk : k < i) (he : E i k = true) : joinL (indN m (uptoE E i k)) i k = indN m (uptoE E i (k + 1)) := by
  have h1 := upto_yes h hi hk he
  rw [link_matG (by omega) hi (by omega)] at h1
  have h2 := matG_inj h1
  refine natList_ext (by rw [joinL_length, indN_length, indN_length]) fun r hr => ?_
  rw [joinL_length, indN_length] at hr
  refine Nat.eq_of_testBit_eq fun j => ?_
  rw [Bool.eq_iff_iff, joinL_testBit (by rw [indN_length]; exact hi) (by rw [indN_length]; omega) (by omega), indN_bit hr, indN_bit hr]
  by_cases hj : j < m
  · rw [← h2 r j hr hj]
    simp only [hj, decide_true, Bool.true_and, Bool.or_eq_true, Bool.and_eq_true, beq_iff_eq]
    constructor
    · rintro (h | ⟨rfl, rfl⟩ | ⟨rfl, rfl⟩)
      · exact .inl (.inl h)
      · exact .inr ⟨rfl, rfl⟩
      · exact .inl (.inr ⟨rfl, rfl⟩)
    · rintro ((h | ⟨rfl, rfl⟩) | ⟨rfl, rfl⟩)
      · exact .inl h
      · exact .inr (.inr ⟨rfl, rfl⟩)
      · exact .inr (.inl ⟨rfl, rfl⟩)
  · simp only [hj, decide_false, Bool.false_and, Bool.false_eq_true, false_or, iff_false]
    rintro (⟨rfl, rfl⟩ | ⟨rfl, rfl⟩) <;> omega

end Go.Proofs.YtiooindlpinjhaaDoor

/- Walk: the program's elimination. -/
namespace Go.Proofs.YtiooindlpinjhaaDoor
open Go.RowKit

/-- 'append(s, x...)' as a step of a region that draws. -/
theorem step_app {P : Program} {T E : TypeId} {z : Value} {size bytes : Nat} (S : SlTy P T E z size bytes) {w : World} {ops : Array Oper} {o : Oper} {a : Act} {K : Act → World → Prop} {Q : Exit → Act → World → Prop} {F : Prop}
    (hgd : o.guard = none) {s x : Operand} (ho : o.op = .call { callee := .builtin .append, args := #[s, x], argTypes := #[T, T] })
    {base : Nat} {v : Value} {n : Nat} {xs : List Value} (hs : a.eval s = v) (hown : w.ownsRow base E size v n xs)
    {u : Value} {m : Nat} {news : List Value} (hx : a.eval x = u) (hu : Sl w E u m news) (hl : news.length = m * size) (h1 : ∀ x ∈ news, x.oneCell' = true)
    (hnm : n + m ≤ 1000000000) (hbase : base ≤ w.heap.size)
    (h : ∀ v' w', w'.ownsRow base E size v' (n + m) (xs ++ news) → w.grownBy w' v.ownBlock → (∀ k, v'.ownBlock = some k → v.ownBlock = some k ∨ w.heap.size ≤ k) → K (a.put o.dst v') w') :
    if Region.wanted o (yielded ops a.tmps) = true then Oper.wp P o a w K Q else F := by
  have hw : Region.wanted o (yielded ops a.tmps) = true := by simp [Region.wanted, hgd]
  rw [if_pos hw]
  obtain ⟨v', w', hr, h2, h3, h4⟩ := run_app S w o.type base v n xs hown u m news hu hl h1 hnm hbase
  unfold Oper.wp execOp
  simp only [ho, resolve, invoke, builtin, Sem.run_bind, Sem.run_pure, Result.andThen_ok, List.map_toArray, List.map_cons, List.map_nil, hs, hx, hr]
  exact h _ _ h2 h3 h4

theorem run_mk_nets (n : Nat) (hn : n ≤ 1000) (w : World) : (Instr.makeSlice 67 (.int .i64 n) (.int .i64 n)).run Tryd.prog w = .ok (.slice (some ⟨w.heap.size, 0, none⟩) n n) (w.alloc (.cells (Array.replicate n (.int .u32 0)) 71)) := by
  obtain ⟨i, hi, hz, hsz, hby⟩ := info_parts ty_nets.info
  have e : madeCells (Value.int .u32 0).cells ((n : Int).toNat * i.size) = Array.replicate n (Value.int .u32 0) := by
    rw [hsz, Int.toNat_natCast, Nat.mul_one]
    refine Array.ext (by simp [madeCells]) fun j h1 h2 => ?_
    simp [madeCells, Value.cells, Nat.mod_one]
  have h := run_make (P := Tryd.prog) w 67 71 i (.int .u32 0) ty_nets.under hi hz .i64 .i64 n n (by omega) (Int.le_refl _) (by rw [hby]; omega) (by omega)
  rw [e, Int.toNat_natCast] at h
  exact h

theorem owns_made (w : World) (n : Nat) (hn : n ≤ 1000) : (w.alloc (.cells (Array.replicate n (.int .u32 0)) 71)).ownsRow w.heap.size 71 1 (.slice (some ⟨w.heap.size, 0, none⟩) n n) n (List.replicate n (.int .u32 0)) :=
  ⟨by simp, .inr ⟨w.heap.size, n, Array.replicate n (.int .u32 0), rfl, Nat.le_refl _, heap_alloc_new w _, Nat.le_refl _, by simp only [maxLen]; omega, by simp, by simp⟩⟩

end Go.Proofs.YtiooindlpinjhaaDoor

/- Walk: the program's QuotientBy of a model. -/
namespace Go.Proofs.YtiooindlpinjhaaDoor
open Go.RowKit

/-- Two sets of a model are joined. -/
noncomputable def jnE (g M : List (List Int)) (i k : Nat) : Bool := dec (i ≠ k ∧ JoinP g (row M i) (row M k))
theorem joinP_sym {g : List (List Int)} (hg : GOk g) {A B : List Int} (hA : SetIn g.length A) (h : JoinP g A B) : JoinP g B A := by
  obtain ⟨x, hx, y, hy, e⟩ := h
  have h0 := hA.1 x hx
  have := hg.both x.toNat (by omega) y e
  rw [show ((x.toNat : Nat) : Int) = x by omega] at this
  exact ⟨y, hy, x, hx, this⟩
theorem jnE_sym {g M : List (List Int)} (h : MdW g M) : SymE M.length (jnE g M) where
  sym := fun i k hi hk => by
    unfold jnE
    exact dec_congr ⟨fun h1 => ⟨Ne.symm h1.1, joinP_sym h.1.1 (h.2 i hi).1 h1.2⟩, fun h1 => ⟨Ne.symm h1.1, joinP_sym h.1.1 (h.2 k hk).1 h1.2⟩⟩
  irr := fun i _ => dec_false fun h1 => h1.1 rfl

theorem below_grownQ {B : Nat} {w0 w w' : World} {b : Nat} (h : Below B w0 w) (hg : w.grownBy w' (some b)) (hl : B ≤ b) (hB : B ≤ w.heap.size) : Below B w0 w' :=
  ⟨hg.os.trans h.os, hg.tape.trans h.tape, hg.output.trans h.output, Nat.le_trans h.size hg.size, fun k hk => (hg.block k (Nat.lt_of_lt_of_le hk hB) (fun e => by
    have e : k = b := by simpa using e
    omega)).trans (h.block k hk)⟩


end Go.Proofs.YtiooindlpinjhaaDoor

/- Plain: a model of a model is a model. -/
namespace Go.Proofs.YtiooindlpinjhaaDoor

theorem connL_all {E : Nat → Nat → Bool} (hE : ∀ r j, E r j = true → E j r = true) {L : List Nat} (h : ConnL E L) {x y : Nat} (hx : x ∈ L) (hy : y ∈ L) : Rch E (· ∈ L) x y := by
  have h0 : L.headD 0 ∈ L := by
    cases L with
    | nil => exact absurd rfl h.1
    | cons a L => simp
  exact rch_trans (rch_sym hE h0 (h.2 x hx)) (h.2 y hy)
theorem connL_of {E : Nat → Nat → Bool} {L : List Nat} (h : L ≠ []) (h2 : ∀ x ∈ L, ∀ y ∈ L, Rch E (· ∈ L) x y) : ConnL E L := by
  refine ⟨h, fun x hx => h2 _ ?_ x hx⟩
  cases L with
  | nil => exact absurd rfl h
  | cons a L => simp
/-- All neighbours in the pattern are joined. -/
theorem mdOk_join {g p M : List (List Int)} (h : MdOk g p M) {i k : Nat} (hE : ofG p i k = true) : JoinP g (row M i) (row M k) := by
  have hp := h.1.1.2
  have hl := h.1.2
  have hk := ofG_to hp i k hE
  have hi := ofG_to hp k i (ofG_sym hp i k hE)
  rcases Nat.lt_trichotomy i k with hlt | rfl | hgt
  · exact h.2.2 (i, k) (mem_edN' hlt hk hE)
  · rw [ofG_irr hp] at hE; cases hE
  · exact joinP_sym h.1.1.1.1.1 (h.1.1.1.2 k (by omega)).1 (h.2.2 (k, i) (mem_edN' hgt hi (ofG_sym hp i k hE)))
theorem mdOk_conn {g p M : List (List Int)} (h : MdOk g p M) {a : Nat} (ha : a < M.length) {x y : Int} (hx : x ∈ row M a) (hy : y ∈ row M a) : Rch (ofG g) (· ∈ (row M a).map Int.toNat) x.toNat y.toNat :=
  connL_all (ofG_sym h.1.1.1.1.1) (h.2.1 a ha).2 (List.mem_map.2 ⟨x, hx, rfl⟩) (List.mem_map.2 ⟨y, hy, rfl⟩)
theorem mdOk_some {g p M : List (List Int)} (h : MdOk g p M) {a : Nat} (ha : a < M.length) : ∃ x, x ∈ row M a := by
  refine List.exists_mem_of_ne_nil _ fun e => (h.2.1 a ha).2.1 ?_
  rw [e]; rfl

theorem mdOk_comp {g p q M W R : List (List Int)} (h : MdOk g p M) (k : MdOk p q W) (hR : CmpS M W R) : MdOk g q R := by
  have hg := h.1.1.1.1.1
  have hql : W.length = q.length := k.1.2
  have hRl : R.length = W.length := hR.1
  have hW : ∀ a, a < W.length → ∀ z ∈ row W a, 0 ≤ z ∧ z.toNat < M.length := fun a ha z hz => by
    have := (k.1.1.1.2 a ha).1.1 z hz
    have := h.1.2
    omega
  have hin : ∀ a, a < W.length → SetIn g.length (row R a) := fun a ha => by
    refine ⟨fun x hx => ?_, (hR.2 a ha).1⟩
    obtain ⟨z, hz, hxz⟩ := ((hR.2 a ha).2 x).1 hx
    exact (h.1.1.1.2 z.toNat (hW a ha z hz).2).1.1 x hxz
  -- two sets of the model that meet are one
  have hone : ∀ i j, i < M.length → j < M.length → ∀ x, x ∈ row M i → x ∈ row M j → i = j := fun i j hi hj x h1 h2 => by
    rcases Nat.lt_trichotomy i j with hlt | e | hgt
    · exact absurd h1 ((h.1.1.1.2 j hj).2 i hlt x h2)
    · exact e
    · exact absurd h2 ((h.1.1.1.2 i hi).2 j hgt x h1)
  refine ⟨⟨⟨⟨⟨hg, by rw [hRl]; exact k.1.1.1.1.2⟩, fun a ha => ?_⟩, k.1.1.2⟩, by rw [hRl, hql]⟩, fun a ha => ?_, fun e he => ?_⟩
  · rw [hRl] at ha
    refine ⟨hin a ha, fun b hb x hx hxb => ?_⟩
    have hb2 : b < W.length := by omega
    obtain ⟨z, hz, hxz⟩ := ((hR.2 a ha).2 x).1 hx
    obtain ⟨y, hy, hxy⟩ := ((hR.2 b hb2).2 x).1 hxb
    have h1 := hW a ha z hz
    have h2 := hW b hb2 y hy
    have e := hone _ _ h1.2 h2.2 x hxz hxy
    have e2 : z = y := by omega
    subst e2
    exact (k.1.1.1.2 a ha).2 b hb z hz hy
  · rw [hRl] at ha
    have hmem : ∀ {z x : Int}, z ∈ row W a → x ∈ row M z.toNat → x ∈ row R a := fun hz hx => ((hR.2 a ha).2 _).2 ⟨_, hz, hx⟩
    have hmono : ∀ {z x y : Int}, z ∈ row W a → x ∈ row M z.toNat → y ∈ row M z.toNat → Rch (ofG g) (· ∈ (row R a).map Int.toNat) x.toNat y.toNat := fun {z x y} hz hx hy =>
      rch_mono (fun t ht => by
        obtain ⟨s, hs, rfl⟩ := List.mem_map.1 ht
        exact List.mem_map.2 ⟨s, hmem hz hs, rfl⟩) _ (mdOk_conn h (hW a ha z hz).2 hx hy)
    -- from one set on to all others
    have hto : ∀ z0 ∈ row W a, ∀ x0 ∈ row M z0.toNat, ∀ t, Rch (ofG p) (· ∈ (row W a).map Int.toNat) z0.toNat t → ∀ x ∈ row M t, Rch (ofG g) (· ∈ (row R a).map Int.toNat) x0.toNat x.toNat := by
      intro z0 hz0 x0 hx0 t ht
      have hz0in : z0.toNat ∈ (row W a).map Int.toNat := List.mem_map.2 ⟨z0, hz0, rfl⟩
      induction ht with
      | base => exact fun x hx => hmono hz0 hx0 hx
      | step h1 h2 h3 ih =>
        rename_i u v
        intro x hx
        obtain ⟨zu, hzu, e1⟩ := List.mem_map.1 (rch_in (S := (· ∈ (row W a).map Int.toNat)) hz0in _ h1)
        obtain ⟨zv, hzv, e2⟩ := List.mem_map.1 h3
        obtain ⟨s, hs, y, hy, hsy⟩ := mdOk_join h h2
        have hs0 := (h.1.1.1.2 u (by have := hW a ha zu hzu; omega)).1.1 s hs
        have hy0 := (h.1.1.1.2 v (by have := hW a ha zv hzv; omega)).1.1 y hy
        subst e1; subst e2
        refine rch_trans (ih s hs) (rch_trans (.step .base (y := y.toNat) ?_ ?_) (hmono hzv hy hx))
        · simp only [ofG, decide_eq_true_eq]
          rw [show ((y.toNat : Nat) : Int) = y by omega]
          exact hsy
        · exact List.mem_map.2 ⟨y, hmem hzv hy, rfl⟩
    refine ⟨⟨hg, hin a ha⟩, connL_of ?_ fun x hx y hy => ?_⟩
    · obtain ⟨z, hz⟩ := mdOk_some k ha
      obtain ⟨x, hx⟩ := mdOk_some h (hW a ha z hz).2
      exact List.ne_nil_of_mem (List.mem_map.2 ⟨x, hmem hz hx, rfl⟩)
    · obtain ⟨s, hs, rfl⟩ := List.mem_map.1 hx
      obtain ⟨t, ht, rfl⟩ := List.mem_map.1 hy
      obtain ⟨zs, hzs, hss⟩ := ((hR.2 a ha).2 s).1 hs
      obtain ⟨zt, hzt, htt⟩ := ((hR.2 a ha).2 t).1 ht
      exact hto zs hzs s hss zt.toNat (mdOk_conn k ha hzs hzt) t htt
  · obtain ⟨h1, h2, h3, h4⟩ := mem_edN (Nat.le_refl _) he
    obtain ⟨zx, hzx, zy, hzy, hj⟩ := k.2.2 e he
    have hx0 := hW e.1 (by omega) zx hzx
    have hy0 := hW e.2 (by omega) zy hzy
    obtain ⟨x, hx, y, hy, hxy⟩ := mdOk_join h (i := zx.toNat) (k := zy.toNat) (by
      simp only [ofG, decide_eq_true_eq]
      rw [show ((zy.toNat : Nat) : Int) = zy by omega]
      exact hj)
    exact ⟨x, ((hR.2 e.1 (by omega)).2 x).2 ⟨zx, hzx, hx⟩, y, ((hR.2 e.2 (by omega)).2 y).2 ⟨zy, hzy, hy⟩, hxy⟩

/-- A pattern's neighbours are neighbours in what a model makes. -/
theorem quot_has {g p M : List (List Int)} (h : MdOk g p M) {v : Nat} {y : Int} (hv : v < p.length) (hy : y ∈ row p v) : y ∈ row (matG M.length (jnE g M)) v := by
  have hp := h.1.1.2
  have h0 := (hp.sets v hv).1.1 y hy
  have hl := h.1.2
  rw [mem_matG (by omega)]
  refine ⟨y.toNat, by omega, by omega, dec_true ⟨fun e => ?_, ?_⟩⟩
  · have := (hp.sets v hv).2
    have e2 : (v : Int) = y := by omega
    rw [e2] at this
    exact this hy
  · refine mdOk_join h ?_
    simp only [ofG, decide_eq_true_eq]
    rw [show ((y.toNat : Nat) : Int) = y by omega]
    exact hy

end Go.Proofs.YtiooindlpinjhaaDoor

/- Plain: what is made by cutting and contracting is a minor: models of single vertices, of a contracted edge; a model's word. -/
namespace Go.Proofs.YtiooindlpinjhaaDoor

theorem connL_one (E : Nat → Nat → Bool) (x : Nat) : ConnL E [x] := ⟨by simp, fun y hy => by
  obtain rfl : y = x := by simpa using hy
  exact .base⟩
def oneL (l : List Nat) : List (List Int) := l.map fun v : Nat => [((v : Nat) : Int)]
theorem oneL_length (l : List Nat) : (oneL l).length = l.length := by simp [oneL]
theorem row_oneL {l : List Nat} {i : Nat} (h : i < l.length) : row (oneL l) i = [(l[i] : Int)] := by simp [row, oneL, h]
/-- Single vertices are a model of what lies between them. -/
theorem mdOk_one {h x : List (List Int)} {l : List Nat} (hh : GOk h) (hx : GOk x) (hl : x.length = l.length) (hr : l.Pairwise (· < ·)) (hlt : ∀ v ∈ l, v < h.length)
    (hE : ∀ i k (hi : i < l.length) (hk : k < l.length), ofG x i k = true → ofG h l[i] l[k] = true) : MdOk h x (oneL l) := by
  refine ⟨⟨⟨⟨⟨hh, by rw [oneL_length, ← hl]; exact hx.le⟩, fun a ha => ?_⟩, hx⟩, by rw [oneL_length, hl]⟩, fun a ha => ?_, fun e he => ?_⟩
  · rw [oneL_length] at ha
    rw [row_oneL ha]
    have h1 := hlt _ (List.getElem_mem ha)
    refine ⟨⟨fun y hy => ?_, by simp⟩, fun b hb y hy hyb => ?_⟩
    · obtain rfl : y = (l[a] : Int) := by simpa using hy
      omega
    · rw [row_oneL (show b < l.length by omega)] at hyb
      obtain rfl : y = (l[a] : Int) := by simpa using hy
      have e : (l[a] : Int) = (l[b]'(by omega) : Int) := by simpa using hyb
      have e2 : l[a] = l[b]'(by omega) := by omega
      have := rising_inj hr ha (by omega) e2
      omega
  · rw [oneL_length] at ha
    rw [row_oneL ha]
    have h1 := hlt _ (List.getElem_mem ha)
    refine ⟨⟨hh, ⟨fun y hy => ?_, by simp⟩⟩, ?_⟩
    · obtain rfl : y = (l[a] : Int) := by simpa using hy
      omega
    · have : ([(l[a] : Int)]).map Int.toNat = [l[a]] := by simp
      rw [this]
      exact connL_one _ _
  · obtain ⟨h1, h2, _, h4⟩ := mem_edN (Nat.le_refl _) he
    have k1 : e.1 < l.length := by omega
    have k2 : e.2 < l.length := by omega
    rw [row_oneL k1, row_oneL k2]
    have := hE e.1 e.2 k1 k2 h4
    exact ⟨(l[e.1] : Int), by simp, (l[e.2] : Int), by simp, by simpa [ofG] using this⟩

/-- A graph is a minor of itself. -/
theorem minor_self {g : List (List Int)} (hg : GOk g) : MdOk g g (oneL (List.range g.length)) :=
  mdOk_one hg hg (by simp) List.pairwise_lt_range (fun v hv => List.mem_range.1 hv) fun i k hi hk h => by simpa using h
/-- What is left when a vertex is cut is a minor. -/
theorem minor_cut {h : List (List Int)} (hh : GOk h) {b : Nat} (_hb : b < h.length) (h2 : 2 ≤ h.length) : GOk (indL h (natInts (restN h.length b))) ∧ MdOk h (indL h (natInts (restN h.length b))) (oneL (restN h.length b)) := by
  have hlt : ∀ v ∈ restN h.length b, v < h.length := fun v hv => (mem_restN.1 hv).1
  have hne : 1 ≤ (restN h.length b).length := by
    refine List.length_pos_of_mem (a := if b = 0 then 1 else 0) (mem_restN.2 ?_)
    by_cases e : b = 0
    · rw [if_pos e]; omega
    · rw [if_neg e]; omega
  have hle : (restN h.length b).length ≤ 16 := Nat.le_trans (List.length_filter_le _ _) (by rw [List.length_range]; exact hh.le)
  have hx := indL_gok hh hlt hne hle
  refine ⟨hx, mdOk_one hh hx (by unfold indL; rw [matG_length, natInts_length]) (restN_rising _ _) hlt fun i k hi hk e => ?_⟩
  unfold indL at e
  rw [natInts_length] at e
  rw [← indE_nat hi hk]
  exact matG_to hi hk e

/-! ### A contracted edge -/
def conL (l : List Nat) (a b : Nat) : List (List Int) := l.map fun v : Nat => if v = a then [(a : Int), (b : Int)] else [((v : Nat) : Int)]
theorem conL_length (l : List Nat) (a b : Nat) : (conL l a b).length = l.length := by simp [conL]
theorem row_conL {l : List Nat} {a b i : Nat} (h : i < l.length) : row (conL l a b) i = if l[i] = a then [(a : Int), (b : Int)] else [(l[i] : Int)] := by simp [row, conL, h]
theorem mem_conL {l : List Nat} {a b i : Nat} {x : Int} (h : i < l.length) (hx : x ∈ row (conL l a b) i) : x = (l[i] : Int) ∨ (l[i] = a ∧ x = (b : Int)) := by
  rw [row_conL h] at hx
  by_cases e : l[i] = a
  · rw [if_pos e] at hx
    rcases List.mem_cons.1 hx with h1 | h1
    · exact .inl (by rw [h1, e])
    · exact .inr ⟨e, by simpa using h1⟩
  · rw [if_neg e] at hx
    exact .inl (by simpa using hx)
theorem minor_con {h : List (List Int)} (hh : GOk h) {a b : Nat} (hab : a < b) (hb : b < h.length) (hE : ofG h a b = true) :
    GOk (indL (matG h.length (conE (ofG h) a b)) (natInts (restN h.length b))) ∧ MdOk h (indL (matG h.length (conE (ofG h) a b)) (natInts (restN h.length b))) (conL (restN h.length b) a b) := by
  have hc : GOk (matG h.length (conE (ofG h) a b)) := gok_matG hh.pos hh.le (conE_sym (ofG_sym hh) a b) (conE_irr (ofG_irr hh) a b)
  have hlt : ∀ v ∈ restN h.length b, v < h.length := fun v hv => (mem_restN.1 hv).1
  have hnb : ∀ v ∈ restN h.length b, v ≠ b := fun v hv => (mem_restN.1 hv).2
  have hne : 1 ≤ (restN h.length b).length := List.length_pos_of_mem (a := a) (mem_restN.2 ⟨by omega, by omega⟩)
  have hle : (restN h.length b).length ≤ 16 := Nat.le_trans (List.length_filter_le _ _) (by rw [List.length_range]; exact hh.le)
  have hr := restN_rising h.length b
  have hx := indL_gok hc (l := restN h.length b) (fun v hv => by rw [matG_length]; exact hlt v hv) hne hle
  have hxl : (indL (matG h.length (conE (ofG h) a b)) (natInts (restN h.length b))).length = (restN h.length b).length := by unfold indL; rw [matG_length, natInts_length]
  generalize hl : restN h.length b = l at hlt hnb hne hle hr hx hxl
  have hset : ∀ i, i < l.length → SetIn h.length (row (conL l a b) i) := fun i hi => by
    have h1 := hlt _ (List.getElem_mem hi)
    rw [row_conL hi]
    by_cases e : l[i] = a
    · rw [if_pos e]
      refine ⟨fun y hy => ?_, by simp; omega⟩
      rcases List.mem_cons.1 hy with rfl | hy
      · omega
      · obtain rfl : y = (b : Int) := by simpa using hy
        omega
    · rw [if_neg e]
      refine ⟨fun y hy => ?_, by simp⟩
      obtain rfl : y = (l[i] : Int) := by simpa using hy
      omega
  refine ⟨hx, ⟨⟨⟨⟨hh, by rw [conL_length]; exact hle⟩, fun i hi => ?_⟩, hx⟩, by rw [conL_length, hxl]⟩, fun i hi => ?_, fun e he => ?_⟩
  · rw [conL_length] at hi
    refine ⟨hset i hi, fun k hk y hy hyk => ?_⟩
    have hkl : k < l.length := by omega
    have n1 := hnb _ (List.getElem_mem hi)
    have n2 := hnb _ (List.getElem_mem hkl)
    rcases mem_conL hi hy with e1 | ⟨e1, e1'⟩ <;> rcases mem_conL hkl hyk with e2 | ⟨e2, e2'⟩
    · have := rising_inj hr hi hkl (by omega)
      omega
    · omega
    · omega
    · have := rising_inj hr hi hkl (by omega)
      omega
  · rw [conL_length] at hi
    refine ⟨⟨hh, hset i hi⟩, ?_⟩
    rw [row_conL hi]
    by_cases e : l[i] = a
    · rw [if_pos e]
      have e2 : ([(a : Int), (b : Int)]).map Int.toNat = [a, b] := by simp
      rw [e2]
      refine connL_of (by simp) fun x hx y hy => ?_
      have step1 : Rch (ofG h) (· ∈ [a, b]) a b := .step .base hE (by simp)
      have step2 : Rch (ofG h) (· ∈ [a, b]) b a := .step .base (ofG_sym hh _ _ hE) (by simp)
      simp only [List.mem_cons, List.not_mem_nil, or_false] at hx hy
      rcases hx with rfl | rfl <;> rcases hy with rfl | rfl
      · exact .base
      · exact step1
      · exact step2
      · exact .base
    · rw [if_neg e]
      have e2 : ([(l[i] : Int)]).map Int.toNat = [l[i]] := by simp
      rw [e2]
      exact connL_one _ _
  · obtain ⟨h1, h2, _, h4⟩ := mem_edN (Nat.le_refl _) he
    rw [hxl] at h1 h2
    have hin : ∀ i (hi : i < l.length), (l[i] : Int) ∈ row (conL l a b) i := fun i hi => by
      rw [row_conL hi]
      by_cases e : l[i] = a
      · rw [if_pos e, e]; simp
      · rw [if_neg e]; simp
    have hinb : ∀ i (hi : i < l.length), l[i] = a → (b : Int) ∈ row (conL l a b) i := fun i hi e => by
      rw [row_conL hi, if_pos e]; simp
    have hc4 : conE (ofG h) a b l[e.1] l[e.2] = true := by
      unfold indL at h4
      rw [natInts_length] at h4
      have h5 := matG_to h1 h2 h4
      rw [indE_nat h1 h2] at h5
      exact matG_to (hlt _ (List.getElem_mem h1)) (hlt _ (List.getElem_mem h2)) h5
    unfold conE at hc4
    simp only [Bool.or_eq_true, Bool.and_eq_true, beq_iff_eq] at hc4
    have hto : ∀ u v : Nat, ofG h u v = true → (v : Int) ∈ row h ((u : Int)).toNat := fun u v h => by simpa [ofG] using h
    rcases hc4 with (k | ⟨k1, k2, _⟩) | ⟨k1, k2, _⟩
    · exact ⟨_, hin e.1 h1, _, hin e.2 h2, hto _ _ k⟩
    · exact ⟨_, hinb e.1 h1 k1, _, hin e.2 h2, hto _ _ k2⟩
    · exact ⟨_, hin e.1 h1, _, hinb e.2 h2 k1, hto _ _ (ofG_sym hh _ _ k2)⟩

/-! ### The model of a minor of a minor; a model's word -/
theorem cmpS_ex (n : Nat) (M W : List (List Int)) (hM : ∀ j, ∀ x ∈ row M j, 0 ≤ x ∧ x < n) : ∃ R, CmpS M W R := by
  refine ⟨(List.range W.length).map fun i => natInts ((List.range n).filter fun v => dec (∃ k ∈ row W i, (v : Int) ∈ row M k.toNat)), by simp, fun i hi => ?_⟩
  have e : row ((List.range W.length).map fun i => natInts ((List.range n).filter fun v => dec (∃ k ∈ row W i, (v : Int) ∈ row M k.toNat))) i = natInts ((List.range n).filter fun v => dec (∃ k ∈ row W i, (v : Int) ∈ row M k.toNat)) := by simp [row, hi]
  rw [e]
  refine ⟨natInts_rising (List.Pairwise.filter _ List.pairwise_lt_range), fun x => ?_⟩
  rw [mem_natInts]
  constructor
  · rintro ⟨v, hv, rfl⟩
    exact dec_iff.1 (List.mem_filter.1 hv).2
  · rintro ⟨k, hk, hx⟩
    have h0 := hM _ x hx
    have ex : ((x.toNat : Nat) : Int) = x := by omega
    exact ⟨x.toNat, List.mem_filter.2 ⟨List.mem_range.2 (by omega), dec_true ⟨k, hk, by rw [ex]; exact hx⟩⟩, ex⟩
theorem mdOk_rows {g p M : List (List Int)} (h : MdOk g p M) (j : Nat) : ∀ x ∈ row M j, 0 ≤ x ∧ x < g.length := fun x hx => by
  by_cases hj : j < M.length
  · exact (h.1.1.1.2 j hj).1.1 x hx
  · have : row M j = [] := by simp [row, List.getElem?_eq_none (show M.length ≤ j by omega)]
    rw [this] at hx; simp at hx
/-- g has p as a minor. -/
def MinOf (g p : List (List Int)) : Prop := ∃ M, MdOk g p M
theorem MinOf.trans {g p q : List (List Int)} (h : MinOf g p) (k : MinOf p q) : MinOf g q := by
  obtain ⟨M, hM⟩ := h
  obtain ⟨W, hW⟩ := k
  obtain ⟨R, hR⟩ := cmpS_ex g.length M W (mdOk_rows hM)
  exact ⟨R, mdOk_comp hM hW hR⟩
/-- A model's word. -/
noncomputable def wordM (n : Nat) (M : List (List Int)) : List Nat := (List.range n).map fun v : Nat => ((List.range M.length).find? fun i => dec (((v : Nat) : Int) ∈ row M i)).elim 0 (· + 1)
theorem wordM_length (n : Nat) (M : List (List Int)) : (wordM n M).length = n := by simp [wordM]
theorem wordM_le {n : Nat} {M : List (List Int)} : ∀ c ∈ wordM n M, c ≤ M.length := fun c hc => by
  obtain ⟨v, _, rfl⟩ := List.mem_map.1 hc
  cases h : (List.range M.length).find? fun i => dec ((v : Int) ∈ row M i) with
  | none => simp
  | some i =>
    have := List.mem_range.1 (List.mem_of_find?_eq_some h)
    simp; omega
theorem wordM_at {g p M : List (List Int)} (h : MdOk g p M) {v i : Nat} (hv : v < g.length) (hi : i < M.length) : (wordM g.length M).getD v 0 = i + 1 ↔ (v : Int) ∈ row M i := by
  have e : (wordM g.length M).getD v 0 = ((List.range M.length).find? fun i => dec ((v : Int) ∈ row M i)).elim 0 (· + 1) := by simp [wordM, List.getD_eq_getElem?_getD, hv]
  rw [e]
  have hone : ∀ i j, i < M.length → j < M.length → (v : Int) ∈ row M i → (v : Int) ∈ row M j → i = j := fun i j hi hj h1 h2 => by
    rcases Nat.lt_trichotomy i j with hlt | e | hgt
    · exact absurd h1 ((h.1.1.1.2 j hj).2 i hlt _ h2)
    · exact e
    · exact absurd h2 ((h.1.1.1.2 i hi).2 j hgt _ h1)
  cases hf : (List.range M.length).find? fun i => dec ((v : Int) ∈ row M i) with
  | none =>
    have := List.find?_eq_none.1 hf i (List.mem_range.2 hi)
    simp only [dec_iff] at this
    simp [this]
  | some j =>
    have hj := List.mem_range.1 (List.mem_of_find?_eq_some hf)
    have hjm := dec_iff.1 (List.find?_some (p := fun i => dec ((v : Int) ∈ row M i)) hf)
    simp only [Option.elim_some, Nat.add_right_cancel_iff]
    constructor
    · rintro rfl; exact hjm
    · exact fun hm => hone j i hj hi hjm hm
theorem setW_wordM {g p M : List (List Int)} (h : MdOk g p M) {i : Nat} (hi : i < M.length) : setW (wordM g.length M) i = (row M i).map Int.toNat := by
  have hs := (h.1.1.1.2 i hi).1
  refine rising_ext _ _ (setW_rising _ _) ?_ fun x => ?_
  · rw [List.pairwise_map]
    refine hs.2.imp_of_mem fun {a b} ha hb hab => ?_
    have := hs.1 a ha
    have := hs.1 b hb
    omega
  · rw [mem_setW, wordM_length, List.mem_map]
    constructor
    · rintro ⟨h1, h2⟩
      exact ⟨x, (wordM_at h h1 hi).1 h2, by simp⟩
    · rintro ⟨y, hy, rfl⟩
      have := hs.1 y hy
      have e : ((y.toNat : Nat) : Int) = y := by omega
      refine ⟨by omega, (wordM_at h (by omega) hi).2 (by rw [e]; exact hy)⟩
/-- The search finds a minor. -/
theorem minor_found {g p : List (List Int)} (h : MinOf g p) : ∃ w, findN p.length (FitW p.length (ofG g) (ofG p)) g.length [] = some w := by
  obtain ⟨M, hM⟩ := h
  have hl := hM.1.2
  have hfit : FitW p.length (ofG g) (ofG p) (wordM g.length M) := by
    refine ⟨fun k hk => ?_, fun i hi k hk hE => ?_⟩
    · rw [setW_wordM hM (by omega)]
      exact (hM.2.1 k (by omega)).2
    · rw [setW_wordM hM (by omega), setW_wordM hM (by omega)]
      obtain ⟨x, hx, y, hy, hj⟩ := mdOk_join hM hE
      have h1 := mdOk_rows hM i x hx
      have h2 := mdOk_rows hM k y hy
      refine ⟨x.toNat, List.mem_map.2 ⟨x, hx, rfl⟩, y.toNat, List.mem_map.2 ⟨y, hy, rfl⟩, ?_⟩
      simp only [ofG, decide_eq_true_eq]
      rw [show ((y.toNat : Nat) : Int) = y by omega]
      exact hj
  cases hf : findN p.length (FitW p.length (ofG g) (ofG p)) g.length [] with
  | some w => exact ⟨w, rfl⟩
  | none =>
    refine absurd hfit ?_
    have := findN_none (fun w h => fitW_has h) _ _ hf (wordM g.length M) (wordM_length _ _) (fun c hc => by have := wordM_le c hc; omega)
    rwa [List.nil_append] at this

end Go.Proofs.YtiooindlpinjhaaDoor
