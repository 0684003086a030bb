/- A queue (a slice that was cut at its front, and append behind it); plain: the reference's search for what is reached, its parts. -/
import Derived.Test.YtiooindlpinjhaaDoorBbQ2
import Derived.ArgAppend
import Derived.Test.YtiooindlpinjhaaDoorBbQ1
import Derived.Test.YtiooindlpinjhaaDoorBbQ10
namespace Go.Proofs.YtiooindlpinjhaaDoor
open Go.RowKit

theorem owns_shapeR {w : World} {base : Nat} {E : TypeId} {size n : Nat} {v : Value} {xs : List Value} (h : w.ownsRow base E size v n xs) : ∃ p c, v = .slice p n c := by
  rcases h.2 with ⟨rfl, h0⟩ | ⟨b, c, _, rfl, _⟩
  · exact ⟨none, 0, by rw [h0]⟩
  · exact ⟨_, _, rfl⟩

/-- v reads as xs, in a block of its own, from some place on. -/
def QRow (w : World) (base : Nat) (E : TypeId) (v : Value) (xs : List Value) : Prop :=
  ∃ (g off cap : Nat) (cur : Array Value), v = .slice (some ⟨g, off, none⟩) xs.length cap ∧ base ≤ g ∧ w.heap[g]? = some (.cells cur E (0, 0)) ∧ xs.length ≤ cap ∧ off + cap ≤ cur.size ∧ ∀ j u, xs[j]? = some u → cur[off + j]? = some u

theorem QRow.shape {w : World} {base : Nat} {E : TypeId} {v : Value} {xs : List Value} (h : QRow w base E v xs) : ∃ g off cap, v = .slice (some ⟨g, off, none⟩) xs.length cap := by
  obtain ⟨g, off, cap, _, e, _⟩ := h
  exact ⟨g, off, cap, e⟩
theorem QRow.lt {w : World} {base : Nat} {E : TypeId} {v : Value} {xs : List Value} (h : QRow w base E v xs) : ∀ b, v.ownBlock = some b → base ≤ b ∧ b < w.heap.size := by
  obtain ⟨g, off, cap, cur, rfl, hb, hg, _⟩ := h
  intro b e
  have : g = b := by simpa [Value.ownBlock] using e
  subst this
  exact ⟨hb, lt_of_block hg⟩
theorem QRow.kept {w w' : World} {base : Nat} {E : TypeId} {v : Value} {xs : List Value} (h : QRow w base E v xs) (hk : ∀ b, v.ownBlock = some b → w'.heap[b]? = w.heap[b]?) : QRow w' base E v xs := by
  obtain ⟨g, off, cap, cur, rfl, hb, hg, r⟩ := h
  exact ⟨g, off, cap, cur, rfl, hb, (hk g rfl).trans hg, r⟩
theorem QRow.below {w w' : World} {base : Nat} {E : TypeId} {v : Value} {xs : List Value} (h : QRow w base E v xs) (hb : Below w.heap.size w w') : QRow w' base E v xs := h.kept fun b e => hb.block b (h.lt b e).2
theorem QRow.cell {w : World} {base : Nat} {E : TypeId} {g off n cap : Nat} {xs : List Value} (h : QRow w base E (.slice (some ⟨g, off, none⟩) n cap) xs) {j : Nat} {u : Value} (hu : xs[j]? = some u) : w.cell? ⟨g, off + j, none⟩ = some u := by
  obtain ⟨g', off', cap', cur, e, _, hg, _, _, hc⟩ := h
  simp only [Value.slice.injEq, Option.some.injEq, Addr.mk.injEq, and_true] at e
  obtain ⟨⟨rfl, rfl⟩, _, _⟩ := e
  have := hc j u hu
  unfold World.cell?
  simp [hg, this]
theorem QRow.cap {w : World} {base : Nat} {E : TypeId} {g off n cap : Nat} {xs : List Value} (h : QRow w base E (.slice (some ⟨g, off, none⟩) n cap) xs) : xs.length ≤ cap ∧ n = xs.length := by
  obtain ⟨g', off', cap', cur, e, _, hg, h1, _, hc⟩ := h
  simp only [Value.slice.injEq, Option.some.injEq, Addr.mk.injEq, and_true] at e
  obtain ⟨⟨rfl, rfl⟩, rfl, rfl⟩ := e
  exact ⟨h1, rfl⟩
theorem QRow.tail {w : World} {base : Nat} {E : TypeId} {g off n cap : Nat} {x : Value} {xs : List Value} (h : QRow w base E (.slice (some ⟨g, off, none⟩) n cap) (x :: xs)) : QRow w base E (.slice (some ⟨g, off + 1, none⟩) xs.length (cap - 1)) xs := by
  obtain ⟨g', off', cap', cur, e, hb, hg, h1, h2, hc⟩ := h
  simp only [Value.slice.injEq, Option.some.injEq, Addr.mk.injEq, and_true] at e
  obtain ⟨⟨rfl, rfl⟩, _, rfl⟩ := e
  simp only [List.length_cons] at h1
  refine ⟨g, off + 1, cap - 1, cur, rfl, hb, hg, by omega, by omega, fun j u hu => ?_⟩
  have := hc (j + 1) u (by simpa using hu)
  rw [show off + 1 + j = off + (j + 1) by omega]
  exact this
theorem QRow.tail0 {w : World} {base : Nat} {E : TypeId} {g off n : Nat} {x : Value} {xs : List Value} (h : QRow w base E (.slice (some ⟨g, off, none⟩) n 1) (x :: xs)) : QRow w base E (.slice (some ⟨g, off, none⟩) xs.length 0) xs := by
  obtain ⟨g', off', cap', cur, e, hb, hg, h1, h2, hc⟩ := h
  simp only [Value.slice.injEq, Option.some.injEq, Addr.mk.injEq, and_true] at e
  obtain ⟨⟨rfl, rfl⟩, _, rfl⟩ := e
  have h0 : xs = [] := List.eq_nil_of_length_eq_zero (by simp only [List.length_cons] at h1; omega)
  subst h0
  exact ⟨g, off, 0, cur, rfl, hb, hg, Nat.le_refl _, by omega, fun j u hu => by simp at hu⟩
theorem QRow.one (w : World) (E : TypeId) (x : Value) : QRow (w.alloc (.cells #[x] E)) w.heap.size E (.slice (some ⟨w.heap.size, 0, none⟩) 1 1) [x] :=
  ⟨w.heap.size, 0, 1, #[x], rfl, Nat.le_refl _, heap_alloc_new w _, Nat.le_refl _, Nat.le_refl _, fun j u hu => by
    rw [Nat.zero_add]
    simpa using hu⟩
theorem QRow.base {w : World} {base base' : Nat} {E : TypeId} {v : Value} {xs : List Value} (h : QRow w base E v xs) (hb : base' ≤ base) : QRow w base' E v xs := by
  obtain ⟨g, off, cap, cur, e, h1, r⟩ := h
  exact ⟨g, off, cap, cur, e, by omega, r⟩

theorem QRow.grow {w w' : World} {B : Nat} {w0 : World} {base : Nat} {E : TypeId} {v : Value} {xs : List Value} (h : QRow w base E v xs) (hb : Below B w0 w) (hg : w.grownBy w' v.ownBlock) (hB : B ≤ base) (hs : B ≤ w.heap.size) : Below B w0 w' :=
  hb.grown hg hs fun k hk => Nat.le_trans hB (h.lt k hk).1
theorem run_append_q {P : Program} {T E : TypeId} {z : Value} {bytes : Nat} (S : SlTy P T E z 1 bytes) (hz1 : z.cells.size = 1) (w : World) (ty : TypeId) {base : Nat} {v : Value} {xs : List Value} (hq : QRow w base E v xs) (hbase : base ≤ w.heap.size)
    (a : Addr) (c : Nat) (el : Value) (ha : w.cell? a = some el) (h1 : el.oneCell' = true) (hnm : xs.length < 1000000000) :
    ∃ v' w', (Builtin.append_ #[T, T] ty #[v, .slice (some a) 1 c]).run P w = .ok v' w' ∧ QRow w' base E v' (xs ++ [el]) ∧ w.grownBy w' v.ownBlock ∧ ∀ b, v'.ownBlock = some b → v.ownBlock = some b ∨ w.heap.size ≤ b := by
  obtain ⟨i, hi, hz, hsz, hby⟩ := info_parts S.info
  have hsm := S.small
  obtain ⟨g, off, cap, cur, rfl, hb, hg, hnc, hcs, hc⟩ := hq
  have hnews : ∀ j u, [el][j]? = some u → w.cell? (a.add j) = some u := fun j u hu => by
    cases j with
    | zero =>
      simp at hu; subst hu
      simpa [Addr.add] using ha
    | succ j => simp at hu
  by_cases hroom : xs.length + 1 ≤ cap
  · have hlt : off + xs.length < cur.size := by omega
    have hr := run_append_room_cells (P := P) w T ty E i S.under hi g off xs.length cap a 1 c [el] (by rw [hsz]; rfl) hnews (fun u hu => by simp at hu; subst hu; exact h1) hroom
      (fun j hj => by
        have : j = 0 := by simpa using hj
        subst this
        rw [hsz, Nat.mul_one, Nat.add_zero]
        unfold World.cell?
        simp [hg, hlt])
      (fun j hj => by unfold World.frozen?; simp [hg])
    rw [hsz, Nat.mul_one] at hr
    have hset : w.setCells g (off + xs.length) [el] = w.setCell ⟨g, off + xs.length, none⟩ el := rfl
    rw [hset] at hr
    refine ⟨_, _, hr, ⟨g, off, cap, cur.setIfInBounds (off + xs.length) el, ?_, hb, heap_setCell_same w g _ cur E el hg, ?_, ?_, ?_⟩, ?_⟩
    · simp
    · simpa using hroom
    · simpa using hcs
    · intro j u hu
      rw [List.getElem?_append] at hu
      rw [Array.getElem?_setIfInBounds]
      split at hu
      · rename_i hj
        rw [if_neg (by omega)]
        exact hc j u hu
      · rename_i hj
        have hj0 : j - xs.length = 0 := by
          rcases Nat.eq_zero_or_pos (j - xs.length) with h | h
          · exact h
          · rw [List.getElem?_eq_none (by simp only [List.length_cons, List.length_nil]; omega)] at hu
            exact absurd hu (by simp)
        rw [hj0] at hu
        have hjx : j = xs.length := by omega
        subst hjx
        simp only [List.getElem?_cons_zero] at hu
        rw [if_pos rfl, if_pos hlt]
        exact hu
    · refine ⟨?_, fun b e => .inl e⟩
      exact ⟨rfl, rfl, rfl, by simp, fun k _ hk => heap_setCell_other w ⟨g, off + xs.length, none⟩ k el (by intro e; exact hk (by rw [e]; rfl))⟩
  · have holds : ∀ j u, xs[j]? = some u → w.cell? ((⟨g, off, none⟩ : Addr).add j) = some u := fun j u hu => by
      have := hc j u hu
      have ea : (⟨g, off, none⟩ : Addr).add j = ⟨g, off + j, none⟩ := by
        unfold Addr.add
        split
        · rename_i h; subst h; rfl
        · rfl
      rw [ea]
      unfold World.cell?
      simp [hg, this]
    have hr := run_append_grow (P := P) w T ty E i z S.under hi hz ⟨g, off, none⟩ xs.length cap xs (by rw [hsz, Nat.mul_one]) holds a 1 c [el] (by rw [hsz]; rfl) hnews (by omega) (by omega) (growslice_fits (by omega) (by rw [hby]; have : (xs.length + 1) * bytes ≤ 1000000000 * 100 := Nat.mul_le_mul (by omega) hsm; omega))
    have hge := grownCap_ge w (xs.length + 1) cap E
    refine ⟨_, _, hr, ⟨w.heap.size, 0, grownCap w (xs.length + 1) cap E, _, ?_, hbase, heap_alloc_new w.drew _, ?_, ?_, ?_⟩, ?_⟩
    · simp
    · simpa using hge
    · simp only [Array.size_append, List.size_toArray, size_zeroCells, hz1, List.length_cons, List.length_nil]
      omega
    · intro j u hu
      rw [Nat.zero_add]
      have hj : j < (xs ++ [el]).length := (List.getElem?_eq_some_iff.1 hu).1
      rw [Array.getElem?_append_left (by simpa using hj)]
      simpa using hu
    · refine ⟨⟨rfl, rfl, rfl, by simp, fun k hk _ => Below.heap_alloc w.drew _ k hk⟩, fun b e => .inr ?_⟩
      have : w.heap.size = b := by simpa [Value.ownBlock] using e
      omega

theorem step_appQ {P : Program} {T E : TypeId} {z : Value} {bytes : Nat} (S : SlTy P T E z 1 bytes) (hz1 : z.cells.size = 1) {w : World} {ops : Array Oper} {o : Oper} {a : Act} {K : Act → World → Prop} {Q : Exit → Act → World → Prop} {F : Prop}
    (hgd : o.guard = none) {s x : Operand} (ho : o.op = .call { callee := .builtin .append, args := #[s, x], argTypes := #[T, T] })
    {base : Nat} {v : Value} {xs : List Value} {el : Value} (hs : a.eval s = v) (hown : QRow w base E v xs)
    (hx : a.eval x = .slice (some ⟨w.heap.size, 0, none⟩) 1 1) (h1 : el.oneCell' = true)
    (hnm : xs.length < 1000000000) (hbase : base ≤ w.heap.size)
    (h : ∀ b off c w', QRow w' base E (.slice (some ⟨b, off, none⟩) (xs.length + 1) c) (xs ++ [el]) → w.grownBy w' v.ownBlock → (v.ownBlock = some b ∨ w.heap.size ≤ b) → K (a.put o.dst (.slice (some ⟨b, off, none⟩) (xs.length + 1) c)) w') :
    if Region.wanted o (yielded ops a.tmps) = true then Oper.wp P o a (w.alloc (.cells #[el] E)) K Q else F := by
  have hw : Region.wanted o (yielded ops a.tmps) = true := by simp [Region.wanted, hgd]
  rw [if_pos hw]
  have hal : (w.alloc (.cells #[el] E)).heap.size = w.heap.size + 1 := by show (w.heap.push _).size = _; simp
  have hownA : QRow (w.alloc (.cells #[el] E)) base E v xs := hown.kept fun b e => Below.heap_alloc w _ b (hown.lt b e).2
  obtain ⟨v', w', hr, h2, h3, h4⟩ := run_append_q S hz1 (w.alloc (.cells #[el] E)) o.type hownA (by omega) ⟨w.heap.size, 0, none⟩ 1 el (by unfold World.cell?; rw [heap_alloc_new w (.cells #[el] E)]; simp) h1 hnm
  unfold Oper.wp execOp
  simp only [ho, resolve, invoke, builtin, Sem.run_bind, Sem.run_pure, Result.andThen_ok, List.map_toArray, List.map_cons, List.map_nil, hs, hx, hr]
  obtain ⟨g, off, cap, e⟩ := h2.shape
  subst e
  have h2' := h2
  rw [List.length_append] at h2' ⊢
  exact h g off cap w' h2' ⟨h3.os, h3.tape, h3.output, by have := h3.size; omega, fun k hk hne => (h3.block k (by omega) hne).trans (Below.heap_alloc w _ k hk)⟩ ((h4 g rfl).imp id fun k => by omega)

theorem wpList_appQ {P : Program} {T E : TypeId} {z : Value} {bytes : Nat} (S : SlTy P T E z 1 bytes) (hz1 : z.cells.size = 1) {w : World} {ops : Array Oper} {rest : List Oper} {o : Oper} {a : Act} {Q : Exit → Act → World → Prop}
    (hgd : o.guard = none) {s x : Operand} (ho : o.op = .call { callee := .builtin .append, args := #[s, x], argTypes := #[T, T] })
    {base : Nat} {v : Value} {xs : List Value} {el : Value} (hs : a.eval s = v) (hown : QRow w base E v xs)
    (hx : a.eval x = .slice (some ⟨w.heap.size, 0, none⟩) 1 1) (h1 : el.oneCell' = true)
    (hnm : xs.length < 1000000000) (hbase : base ≤ w.heap.size)
    (h : ∀ b off c w', QRow w' base E (.slice (some ⟨b, off, none⟩) (xs.length + 1) c) (xs ++ [el]) → w.grownBy w' v.ownBlock → (v.ownBlock = some b ∨ w.heap.size ≤ b) → wpList P ops Q rest (a.put o.dst (.slice (some ⟨b, off, none⟩) (xs.length + 1) c)) w') :
    wpList P ops Q (o :: rest) a (w.alloc (.cells #[el] E)) :=
  wpList_plain hgd fun K hK => by
    have := step_appQ (P := P) (Q := Q) (K := K) (F := True) (ops := ops) S hz1 hgd ho hs hown hx h1 hnm hbase (fun b off c w' h2 h3 h4 => hK _ _ (h b off c w' h2 h3 h4))
    rw [if_pos (by simp [Region.wanted, hgd])] at this
    exact this

structure ReI (E : Nat → Nat → Bool) (L : List Nat) (v : Nat) (out todo : List Nat) (c : Option Nat) (i : Nat) : Prop where
  ris : out.Pairwise (· < ·)
  start : v ∈ out
  sub : ∀ x ∈ out, x ∈ L ∧ Rch E (· ∈ L) v x
  tsub : ∀ x ∈ todo, x ∈ out
  len : todo.length ≤ out.length
  cl : ∀ x ∈ out, x ∉ todo → some x ≠ c → ∀ y ∈ L, E x y = true → y ∈ out
  cur : ∀ x, c = some x → x ∈ out ∧ ∀ j (h : j < L.length), j < i → E x L[j] = true → L[j] ∈ out

theorem ReI.start' {E : Nat → Nat → Bool} {L : List Nat} {v : Nat} (hv : v ∈ L) : ReI E L v [v] [v] none 0 :=
  ⟨by simp, by simp, fun x hx => by
    obtain rfl : x = v := by simpa using hx
    exact ⟨hv, .base⟩, fun x hx => hx, Nat.le_refl _, fun x hx h => absurd hx h, fun x h => by cases h⟩
theorem ReI.pop {E : Nat → Nat → Bool} {L : List Nat} {v c i : Nat} {out todo : List Nat} (h : ReI E L v out (c :: todo) none i) : ReI E L v out todo (some c) 0 :=
  ⟨h.ris, h.start, h.sub, fun x hx => h.tsub x (by simp [hx]), by have := h.len; simp at this; omega, fun x hx hn hc => h.cl x hx (by
    simp only [List.mem_cons, not_or]
    exact ⟨fun e => hc (by rw [e]), hn⟩) (by simp), fun x e => by
    cases e
    exact ⟨h.tsub c (by simp), fun j _ hj => by omega⟩⟩
theorem ReI.skip {E : Nat → Nat → Bool} {L : List Nat} {v c i : Nat} {out todo : List Nat} (h : ReI E L v out todo (some c) i) (hi : i < L.length) (hs : L[i] = c ∨ ¬ E c L[i] = true ∨ L[i] ∈ out) : ReI E L v out todo (some c) (i + 1) :=
  ⟨h.ris, h.start, h.sub, h.tsub, h.len, h.cl, fun x e => by
    obtain ⟨h1, h2⟩ := h.cur x e
    cases e
    refine ⟨h1, fun j hj hji hE => ?_⟩
    by_cases e2 : j = i
    · subst e2
      rcases hs with hs | hs | hs
      · rw [hs]; exact h1
      · exact absurd hE hs
      · exact hs
    · exact h2 j hj (by omega) hE⟩
theorem ReI.add {E : Nat → Nat → Bool} {L : List Nat} {v c i : Nat} {out todo out' : List Nat} (h : ReI E L v out todo (some c) i) (hi : i < L.length) (hE : E c L[i] = true) (hr : out'.Pairwise (· < ·)) (hm : ∀ x, x ∈ out' ↔ x ∈ out ∨ x = L[i]) (hl : out.length < out'.length) :
    ReI E L v out' (todo ++ [L[i]]) (some c) (i + 1) := by
  obtain ⟨hc1, hc2⟩ := h.cur c rfl
  refine ⟨hr, (hm v).2 (.inl h.start), fun x hx => ?_, fun x hx => ?_, ?_, fun x hx hn hc y hy hxy => ?_, fun x e => ?_⟩
  · rcases (hm x).1 hx with hx | e
    · exact h.sub x hx
    · subst e
      exact ⟨List.getElem_mem hi, .step (h.sub c hc1).2 hE (List.getElem_mem hi)⟩
  · rcases List.mem_append.1 hx with hx | hx
    · exact (hm x).2 (.inl (h.tsub x hx))
    · exact (hm x).2 (.inr (by simpa using hx))
  · have := h.len; simp; omega
  · rcases (hm x).1 hx with hx | e
    · exact (hm y).2 (.inl (h.cl x hx (fun k => hn (by simp [k])) hc y hy hxy))
    · exact absurd (by simp [e]) hn
  · cases e
    refine ⟨(hm c).2 (.inl hc1), fun j hj hji hE2 => ?_⟩
    by_cases e2 : j = i
    · subst e2; exact (hm _).2 (.inr rfl)
    · exact (hm _).2 (.inl (hc2 j hj (by omega) hE2))
theorem ReI.fin {E : Nat → Nat → Bool} {L : List Nat} {v c : Nat} {out todo : List Nat} (h : ReI E L v out todo (some c) L.length) : ReI E L v out todo none 0 :=
  ⟨h.ris, h.start, h.sub, h.tsub, h.len, fun x hx hn _ y hy hxy => by
    by_cases e : x = c
    · subst e
      obtain ⟨k, hk, rfl⟩ := List.getElem_of_mem hy
      exact (h.cur x rfl).2 k hk hk hxy
    · exact h.cl x hx hn (fun e2 => e (by cases e2; rfl)) y hy hxy, fun x e => by cases e⟩
theorem ReI.done {E : Nat → Nat → Bool} {L : List Nat} {v i : Nat} {out : List Nat} (hL : L.Pairwise (· < ·)) (h : ReI E L v out [] none i) : out = partL E L v := by
  refine rising_ext _ _ h.ris (partL_rising hL v) fun x => ⟨fun hx => mem_partL.2 (h.sub x hx), fun hx => ?_⟩
  exact rch_closed (T := (· ∈ out)) h.start (fun a b ha hab hb => h.cl a ha (by simp) (by simp) b hb hab) x (mem_partL.1 hx).2
theorem ReI.bound {E : Nat → Nat → Bool} {L : List Nat} {v i : Nat} {c : Option Nat} {out todo : List Nat} (hL : L.Pairwise (· < ·)) (h : ReI E L v out todo c i) : out.length ≤ L.length := by
  have e : out = L.filter (fun x => decide (x ∈ out)) := rising_ext _ _ h.ris (List.Pairwise.filter _ hL) fun x => by
    rw [List.mem_filter]
    exact ⟨fun hx => ⟨(h.sub x hx).1, by simpa using hx⟩, fun hx => by simpa using hx.2⟩
  rw [e]
  exact List.length_filter_le _ _

theorem into_nat {out : List Nat} {u : Nat} (hr : out.Pairwise (· < ·)) (hu : u ∉ out) : ∃ out', intoL (natInts out) (u : Int) = natInts out' ∧ out'.Pairwise (· < ·) ∧ (∀ x, x ∈ out' ↔ x ∈ out ∨ x = u) ∧ out'.length = out.length + 1 := by
  have h0 : ∀ x ∈ intoL (natInts out) (u : Int), 0 ≤ x := fun x hx => by
    rcases mem_intoL.1 hx with h | h
    · obtain ⟨i, _, e⟩ := mem_natInts.1 h; omega
    · omega
  have e1 : natInts ((intoL (natInts out) (u : Int)).map Int.toNat) = intoL (natInts out) (u : Int) := by
    unfold natInts
    rw [List.map_map]
    conv => rhs; rw [← List.map_id (intoL _ _)]
    refine List.map_congr_left fun x hx => ?_
    have := h0 x hx
    simp only [Function.comp, id]
    unfold natInts at *
    omega
  have hm : ∀ x, x ∈ (intoL (natInts out) (u : Int)).map Int.toNat ↔ x ∈ out ∨ x = u := fun x => by
    have : x ∈ (intoL (natInts out) (u : Int)).map Int.toNat ↔ (x : Int) ∈ natInts ((intoL (natInts out) (u : Int)).map Int.toNat) := by
      rw [mem_natInts]
      exact ⟨fun h => ⟨x, h, rfl⟩, fun ⟨i, h, e⟩ => by
        obtain rfl : i = x := by omega
        exact h⟩
    rw [this, e1, mem_intoL, mem_natInts]
    constructor
    · rintro (⟨i, h, e⟩ | h)
      · obtain rfl : i = x := by omega
        exact .inl h
      · exact .inr (by omega)
    · rintro (h | h)
      · exact .inl ⟨x, h, rfl⟩
      · exact .inr (by omega)
  have hris : ((intoL (natInts out) (u : Int)).map Int.toNat).Pairwise (· < ·) := by
    have := intoL_rising (n := (u : Int)) (natInts_rising hr)
    rw [List.pairwise_map]
    refine this.imp_of_mem fun {a b} ha hb hab => ?_
    have := h0 a ha
    have := h0 b hb
    omega
  refine ⟨_, e1.symm, hris, hm, ?_⟩
  have hle := intoL_length (natInts out) (u : Int)
  rw [natInts_length] at hle
  have e2 : out = ((intoL (natInts out) (u : Int)).map Int.toNat).filter (fun x => decide (x ≠ u)) := rising_ext _ _ hr (List.Pairwise.filter _ hris) fun x => by
    rw [List.mem_filter, hm]
    constructor
    · intro h; exact ⟨.inl h, by simp; rintro rfl; exact hu h⟩
    · rintro ⟨h | h, h2⟩
      · exact h
      · simp [h] at h2
  have hlt : out.length < ((intoL (natInts out) (u : Int)).map Int.toNat).length := by
    conv => lhs; rw [e2]
    refine List.length_filter_lt_length_iff_exists.2 ⟨u, (hm u).2 (.inr rfl), by simp⟩
  rw [List.length_map] at hlt ⊢
  omega

noncomputable def offD (L D : List Nat) : List Nat := L.filter fun x => decide (x ∉ D)
theorem mem_offD {L D : List Nat} {x : Nat} : x ∈ offD L D ↔ x ∈ L ∧ x ∉ D := by simp [offD]
theorem offD_rising {L : List Nat} (h : L.Pairwise (· < ·)) (D : List Nat) : (offD L D).Pairwise (· < ·) := List.Pairwise.filter _ h
theorem head_least {R : List Nat} (h : R.Pairwise (· < ·)) {u : Nat} (hu : u ∈ R) (hm : ∀ x ∈ R, u ≤ x) : ∃ R', R = u :: R' := by
  cases R with
  | nil => simp at hu
  | cons a t =>
    rcases List.mem_cons.1 hu with e | e
    · exact ⟨t, by rw [e]⟩
    · have h1 := (List.pairwise_cons.1 h).1 u e
      have h2 := hm a (by simp)
      omega

structure PaI (E : Nat → Nat → Bool) (L : List Nat) (ps : List (List Nat)) (D : List Nat) (i : Nat) : Prop where
  ris : D.Pairwise (· < ·)
  sub : ∀ x ∈ D, x ∈ L
  cl : ∀ x y, x ∈ D → E x y = true → y ∈ L → y ∈ D
  seen : ∀ j (h : j < L.length), j < i → L[j] ∈ D
  on : PartOn E L ps (offD L D)
  all : ∀ l ∈ ps, l.Pairwise (· < ·) ∧ ∀ x ∈ l, x ∈ L
  len : ps.length ≤ i

theorem PaI.start' (E : Nat → Nat → Bool) (L : List Nat) : PaI E L [] [] 0 :=
  ⟨by simp, by simp, by simp, by omega, by
    have : offD L [] = L := by simp [offD]
    rw [this]; exact partOn_start E L, by simp, by simp⟩
theorem PaI.skip {E : Nat → Nat → Bool} {L : List Nat} {ps : List (List Nat)} {D : List Nat} {i : Nat} (h : PaI E L ps D i) (hi : i < L.length) (hd : L[i] ∈ D) : PaI E L ps D (i + 1) :=
  ⟨h.ris, h.sub, h.cl, fun j hj hji => by
    by_cases e : j = i
    · subst e; exact hd
    · exact h.seen j hj (by omega), h.on, h.all, by have := h.len; omega⟩
theorem PaI.take {E : Nat → Nat → Bool} (hE : ∀ r j, E r j = true → E j r = true) {L : List Nat} (hL : L.Pairwise (· < ·)) {ps : List (List Nat)} {D D' : List Nat} {i : Nat} (h : PaI E L ps D i) (hi : i < L.length) (hd : L[i] ∉ D)
    (hr : D'.Pairwise (· < ·)) (hm : ∀ x, x ∈ D' ↔ x ∈ D ∨ x ∈ partL E L L[i]) : PaI E L (ps ++ [partL E L L[i]]) D' (i + 1) := by
  have hu : L[i] ∈ L := List.getElem_mem hi
  have hbase : L[i] ∈ partL E L L[i] := mem_partL.2 ⟨hu, .base⟩
  have hnD : ∀ x, Rch E (· ∈ L) L[i] x → x ∉ D := fun x hx => by
    have := rch_in (S := fun y => y ∈ L ∧ ¬ y ∈ D) ⟨hu, hd⟩ x ((rch_away hE (D := (· ∈ D)) h.cl hu hd x).1 hx)
    exact this.2
  have hR : ∃ R', offD L D = L[i] :: R' := by
    refine head_least (offD_rising hL D) (mem_offD.2 ⟨hu, hd⟩) fun x hx => ?_
    obtain ⟨h1, h2⟩ := mem_offD.1 hx
    obtain ⟨j, hj, rfl⟩ := List.getElem_of_mem h1
    have hji : ¬ j < i := fun q => h2 (h.seen j hj q)
    rcases Nat.lt_or_ge i j with q | q
    · exact Nat.le_of_lt (List.pairwise_iff_getElem.1 hL i j hi hj q)
    · have : j = i := by omega
      subst this
      exact Nat.le_refl _
  obtain ⟨R', hR⟩ := hR
  have hrch : ∀ x, Rch E (· ∈ L) L[i] x ↔ Rch E (· ∈ offD L D) L[i] x := fun x => by
    rw [rch_away hE (D := (· ∈ D)) h.cl hu hd x]
    exact ⟨rch_mono (fun y hy => mem_offD.2 hy) x, rch_mono (fun y hy => mem_offD.1 hy) x⟩
  have e1 : partL E L L[i] = partL E (offD L D) L[i] := rising_ext _ _ (partL_rising hL _) (partL_rising (offD_rising hL D) _) fun x => by
    rw [mem_partL, mem_partL, hrch, mem_offD]
    exact ⟨fun ⟨a, b⟩ => ⟨⟨a, hnD x ((hrch x).2 b)⟩, b⟩, fun ⟨a, b⟩ => ⟨a.1, b⟩⟩
  have e2 : restL E (offD L D) L[i] = offD L D' := rising_ext _ _ (restL_rising (offD_rising hL D) _) (offD_rising hL D') fun x => by
    rw [mem_restL, mem_offD, mem_offD, hm, mem_partL, ← hrch]
    constructor
    · rintro ⟨⟨a, b⟩, c⟩; exact ⟨a, fun q => by rcases q with q | q; exact b q; exact c q.2⟩
    · rintro ⟨a, b⟩; exact ⟨⟨a, fun q => b (.inl q)⟩, fun q => b (.inr ⟨a, q⟩)⟩
  refine ⟨hr, fun x hx => ?_, fun x y hx hxy hy => ?_, fun j hj hji => ?_, ?_, fun l hl => ?_, ?_⟩
  · rcases (hm x).1 hx with q | q
    · exact h.sub x q
    · exact (mem_partL.1 q).1
  · rcases (hm x).1 hx with q | q
    · exact (hm y).2 (.inl (h.cl x y q hxy hy))
    · exact (hm y).2 (.inr (mem_partL.2 ⟨hy, .step (mem_partL.1 q).2 hxy hy⟩))
  · by_cases e : j = i
    · subst e; exact (hm _).2 (.inr hbase)
    · exact (hm _).2 (.inl (h.seen j hj (by omega)))
  · have := h.on
    rw [hR] at this e1 e2
    have := partOn_step this
    rw [← e1, e2] at this
    exact this
  · rcases List.mem_append.1 hl with q | q
    · exact h.all l q
    · obtain rfl : l = partL E L L[i] := by simpa using q
      exact ⟨partL_rising hL _, fun x hx => (mem_partL.1 hx).1⟩
  · have := h.len
    simp; omega
theorem PaI.done {E : Nat → Nat → Bool} {L : List Nat} {ps : List (List Nat)} {D : List Nat} (h : PaI E L ps D L.length) : Parts E L ps := by
  have e : offD L D = [] := by
    refine List.filter_eq_nil_iff.2 fun x hx => ?_
    obtain ⟨j, hj, rfl⟩ := List.getElem_of_mem hx
    simp [h.seen j hj hj]
  have := h.on
  rw [e] at this
  exact partOn_stop this

/-- A list put into another, one by one: some rising list with their members. -/
theorem into_any {D : List Nat} (hr : D.Pairwise (· < ·)) (u : Nat) : ∃ D', intoL (natInts D) (u : Int) = natInts D' ∧ D'.Pairwise (· < ·) ∧ (∀ x, x ∈ D' ↔ x ∈ D ∨ x = u) := by
  by_cases h : u ∈ D
  · refine ⟨D, ?_, hr, fun x => ⟨.inl, fun q => q.elim id fun e => e ▸ h⟩⟩
    refine rising_ext_int _ _ (intoL_rising (natInts_rising hr)) (natInts_rising hr) fun x => ?_
    rw [mem_intoL]
    exact ⟨fun q => q.elim id fun e => mem_natInts.2 ⟨u, h, e.symm⟩, .inl⟩
  · obtain ⟨D', h1, h2, h3, _⟩ := into_nat hr h
    exact ⟨D', h1, h2, h3⟩

end Go.Proofs.YtiooindlpinjhaaDoor
