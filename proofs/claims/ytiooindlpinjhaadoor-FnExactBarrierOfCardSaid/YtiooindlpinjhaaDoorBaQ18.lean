/- Walks: the program's graph of some vertices; a graph made of masks. -/
import Derived.Test.YtiooindlpinjhaaDoorBaQ12
import Derived.Test.YtiooindlpinjhaaDoorBaQ16
import Derived.Test.YtiooindlpinjhaaDoorBaQ17
import Derived.Deep.RegionLaw
namespace Go.Proofs.YtiooindlpinjhaaDoor
open Go.RowKit

theorem step_app1s {P : Program} {T E : TypeId} {z : Value} {bytes : Nat} (S : SlTy P T E z 1 bytes) {w : World} {ops : Array Oper} {o : Oper} {a : Act} {K : Act → World → Prop} {Q : Exit → Act → World → Prop} {F : Prop}
    (hgd : o.guard = none) {s x : Operand} (ho : o.op = .call { callee := .builtin .append, args := #[s, x], argTypes := #[T, T] })
    {base : Nat} {v : Value} {n : Nat} {xs : List Value} {el : Value} (hs : a.eval s = v) (hown : w.ownsRow base E 1 v n xs)
    (hx : a.eval x = .slice (some ⟨w.heap.size, 0, none⟩) 1 1) (h1 : el.oneCell' = true)
    (hnm : n < 1000000000) (hbase : base ≤ w.heap.size)
    (h : ∀ b c w', w'.ownsRow base E 1 (.slice (some ⟨b, 0, none⟩) (n + 1) c) (n + 1) (xs ++ [el]) → w.grownBy w' v.ownBlock → K (a.put o.dst (.slice (some ⟨b, 0, none⟩) (n + 1) c)) w') :
    if Region.wanted o (yielded ops a.tmps) = true then Oper.wp P o a (w.alloc (.cells #[el] E)) K Q else F := by
  have hw : Region.wanted o (yielded ops a.tmps) = true := by simp [Region.wanted, hgd]
  rw [if_pos hw]
  have hal : (w.alloc (.cells #[el] E)).heap.size = w.heap.size + 1 := by show (w.heap.push _).size = _; simp
  have hu : Sl (w.alloc (.cells #[el] E)) E (.slice (some ⟨w.heap.size, 0, none⟩) 1 1) 1 [el] := by
    refine ⟨_, 1, rfl, (fun e => by cases e), Nat.le_refl _, by omega, Or.inr ⟨w.heap.size, 0, #[el], (0, 0), rfl, heap_alloc_new w _, ?_⟩⟩
    intro j u hu
    match j, hu with
    | 0, hu => simpa using hu
    | j + 1, hu => simp at hu
  obtain ⟨v', w', hr, h2, h3, h4⟩ := run_app S (w.alloc (.cells #[el] E)) o.type base v n xs (hown.alloc _) _ 1 [el] hu (by simp) (by simpa using h1) (by omega) (by omega)
  unfold Oper.wp execOp
  simp only [ho, resolve, invoke, builtin, Sem.run_bind, Sem.run_pure, Result.andThen_ok, List.map_toArray, List.map_cons, List.map_nil, hs, hx, hr]
  rcases id h2.2 with ⟨_, h0⟩ | ⟨g, cap, cur, rfl, _⟩
  · omega
  · exact h g cap w' h2 ⟨h3.os, h3.tape, h3.output, by have := h3.size; omega, fun k hk hne => (h3.block k (by omega) hne).trans (Below.heap_alloc w _ k hk)⟩

end Go.Proofs.YtiooindlpinjhaaDoor

/- Walk: a graph made of masks. -/
namespace Go.Proofs.YtiooindlpinjhaaDoor
open Go.RowKit

/-- The first k rows are the callee's own, each in a block of its own. -/
structure Dis (w : World) (base k : Nat) (vals : List Value) (g : List (List Int)) : Prop where
  rows : ∀ j, j < k → w.ownsRow base 2 1 (vals.getD j undef) (row g j).length ((row g j).map (Value.int .i64))
  dis : ∀ i j, i < k → j < k → i ≠ j → ∀ b, (vals.getD i undef).ownBlock = some b → (vals.getD j undef).ownBlock ≠ some b
def DG (w : World) (base : Nat) (v : Value) (g : List (List Int)) : Prop :=
  ∃ u vals, v = .agg #[u] ∧ vals.length = g.length ∧ w.ownsRow base 26 1 u g.length vals ∧ Dis w base g.length vals g

theorem DG.below {w w' : World} {base : Nat} {v : Value} {g : List (List Int)} (h : DG w base v g) (hb : Below w.heap.size w w') : DG w' base v g := by
  obtain ⟨u, vals, h1, h2, h3, h4⟩ := h
  exact ⟨u, vals, h1, h2, ownsRow_below h3 hb, ⟨fun j hj => ownsRow_below (h4.rows j hj) hb, h4.dis⟩⟩
theorem DG.gr {w : World} {base : Nat} {v : Value} {g : List (List Int)} (h : DG w base v g) (hn : g.length ≤ 1000000000) (hr : ∀ j, j < g.length → (row g j).length ≤ 1000000000) : Gr w v g := by
  obtain ⟨u, vals, rfl, h2, h3, h4⟩ := h
  exact ⟨u, rfl, Rws.of_owned vals h2 h3 hn fun j hj => Nums.of_owns (h4.rows j hj) rfl (hr j hj)⟩
theorem DG.shape {w : World} {base : Nat} {v : Value} {g : List (List Int)} (h : DG w base v g) : ∃ p c, v = .agg #[.slice p g.length c] := by
  obtain ⟨u, vals, rfl, h2, h3, h4⟩ := h
  rcases h3.2 with ⟨rfl, h0⟩ | ⟨b, c, _, rfl, _⟩
  · exact ⟨none, 0, by rw [h0]⟩
  · exact ⟨_, _, rfl⟩
theorem DG.base {w : World} {base base' : Nat} {v : Value} {g : List (List Int)} (h : DG w base v g) (hb : base' ≤ base) : DG w base' v g := by
  obtain ⟨u, vals, h1, h2, h3, h4⟩ := h
  exact ⟨u, vals, h1, h2, ownsRow_base h3 hb, ⟨fun j hj => ownsRow_base (h4.rows j hj) hb, h4.dis⟩⟩
theorem DG.setBox {w : World} {base b : Nat} {v x : Value} {g : List (List Int)} (h : DG w base v g) (hb : Box w b 28 x) (u : Value) : DG (w.setCell ⟨b, 0, none⟩ u) base v g := by
  obtain ⟨u0, vals, h1, h2, h3, h4⟩ := h
  exact ⟨u0, vals, h1, h2, ownsRow_setBox h3 hb (by decide) _, ⟨fun j hj => ownsRow_setBox (h4.rows j hj) hb (by decide) _, h4.dis⟩⟩

/-- The masks' rows. -/
def rowsOf (a : List Nat) : List (List Int) := a.map fun s => natInts (bitsOf s)
theorem rowsOf_length (a : List Nat) : (rowsOf a).length = a.length := by simp [rowsOf]
theorem row_rowsOf {a : List Nat} {j : Nat} (h : j < a.length) : row (rowsOf a) j = natInts (bitsOf a[j]) := by simp [row, rowsOf, h]
theorem rowsOf_indN {m : Nat} (hm : m ≤ 16) (E : Nat → Nat → Bool) : rowsOf (indN m E) = matG m E := by
  refine graph_ext (by rw [rowsOf_length, indN_length, matG_length]) fun j hj => ?_
  rw [rowsOf_length, indN_length] at hj
  rw [row_rowsOf (by rw [indN_length]; exact hj), ← indN_rows hm hj]
  have : (indN m E).getD j 0 = (indN m E)[j]'(by rw [indN_length]; exact hj) := by simp [indN_length, hj]
  rw [this]

theorem Dis.snoc {w W : World} {base k : Nat} {vals : List Value} {g : List (List Int)} {rv : Value} (h : Dis w base k vals g) (hl : vals.length = k)
    (hk : ∀ base size n v (xs : List Value), w.ownsRow base 2 size v n xs → W.ownsRow base 2 size v n xs)
    {B : Nat} (hB : base ≤ B) (hold : ∀ j, j < k → ∀ b, (vals.getD j undef).ownBlock = some b → b < B)
    (hn : w.ownsRow B 2 1 rv (row g k).length ((row g k).map (Value.int .i64))) : Dis W base (k + 1) (vals ++ [rv]) g := by
  have e1 : ∀ j, j < k → (vals ++ [rv]).getD j undef = vals.getD j undef := fun j hj => getD_append_left _ _ _ _ (by omega)
  have e2 : (vals ++ [rv]).getD k undef = rv := by rw [← hl]; exact getD_append_last _ _ _
  refine ⟨fun j hj => ?_, fun i j hi hj hne b hb => ?_⟩
  · by_cases e : j = k
    · subst e; rw [e2]; exact hk _ _ _ _ _ (ownsRow_base hn hB)
    · rw [e1 j (by omega)]; exact hk _ _ _ _ _ (h.rows j (by omega))
  · by_cases ei : i = k
    · subst ei
      rw [e2] at hb
      rw [e1 j (by omega)]
      intro hc
      have := hold j (by omega) b hc
      have := (hn.lt b hb).1
      omega
    · rw [e1 i (by omega)] at hb
      by_cases ej : j = k
      · subst ej
        rw [e2]
        intro hc
        have := hold i (by omega) b hb
        have := (hn.lt b hc).1
        omega
      · rw [e1 j (by omega)]
        exact h.dis i j (by omega) (by omega) hne b hb

end Go.Proofs.YtiooindlpinjhaaDoor

/- Walk: masks as rows of numbers. -/
namespace Go.Proofs.YtiooindlpinjhaaDoor
open Go.RowKit

theorem ty_rows64 : SlTy Tryd.prog 22 26 (.slice none 0 0) 1 24 := ⟨Tryd.underlying22, by kernel_rfl, rfl, by decide, by decide⟩

set_option maxRecDepth 100000 in
set_option maxHeartbeats 4000000 in
theorem results_any (x : Value) (a : List Nat) (ha : ∀ s ∈ a, s < 4294967296) (hal : a.length ≤ 100000) (w : World) (hx : Sl w 71 x a.length (a.map u32v)) (hT : Tab w) :
    Calls Tryd.prog 96 #[x] w fun e w' => ∃ u, e = .returned u ∧ DG w' w.heap.size (.agg #[u]) (rowsOf a) ∧ Below w.heap.size w w' := by
  obtain ⟨p, c, rfl, _⟩ := id hx
  have HX := Lib.hid hx
  have HT := Lib.hid hT
  clear hx hT
  go_enter Tryd.func96, Tryd.ntmps96
  go_wp2
  go_loopw [3, 9] (fun ov i wr => ∃ (k : Nat) (vals : List Value), k ≤ a.length ∧ i = .int .i64 k ∧ Below w.heap.size w wr ∧ wr.ownsRow w.heap.size 26 1 ov k vals ∧ vals.length = k ∧ Dis wr w.heap.size k vals (rowsOf a))
    (fun _ i _ => a.length - (intOf i).toNat)
  case atStart => exact ⟨0, [], Nat.zero_le _, rfl, below_alloc _ _, ownsRow_empty _ _ _, rfl, ⟨fun j hj => by omega, fun i j hi => by omega⟩⟩
  case round =>
    obtain ⟨k, vals, hk, rfl, hbel, hown, hvl, hrows⟩ := hrel
    have Hvl := Lib.hid hvl
    have Hrows := Lib.hid hrows
    have Hown := Lib.hid hown
    clear hvl hrows
    have hsz := hbel.size
    by_cases hlt : k < a.length
    · obtain ⟨ab, ao, rfl, hca⟩ := nets_cell (HX.out.below hbel) hlt
      have hs16 := ha _ (List.getElem_mem hlt)
      have HTr := Lib.hid (HT.out.keep hbel)
      have Hrow := Lib.hid (row_rowsOf hlt)
      clear hown
      go_wp2_with (first
        | (go_at_call 61; refine (numbers_any _ a[k] rfl hs16 _ HTr.out).mono ?_; rintro e w5 ⟨rv, rfl, hown5, hb5⟩; obtain ⟨rvp, rvc, hrv⟩ : ∃ p c, rv = .slice p (bitsOf a[k]).length c := (by rcases hown5.2 with ⟨rfl, h0⟩ | ⟨b, c, _, rfl, _⟩; exact ⟨none, 0, by rw [h0]⟩; exact ⟨_, _, rfl⟩); subst hrv; have hownc := ownsRow_below Hown.out hb5; have hs5 := hb5.size)
        | (at_builtin; refine wpList_app1s ty_rows64 rfl rfl rfl hownc rfl rfl (by omega) (by omega) ?_; intro b7 c8 w7 hown7 hg7 _))
      have hd : Dis w5 w.heap.size k vals (rowsOf a) := ⟨fun j hj => ownsRow_below (Hrows.out.rows j hj) hb5, Hrows.out.dis⟩
      have Hd := Lib.hid hd
      clear hd
      go_roundw
      case rel =>
        refine ⟨k + 1, _, by omega, by go_num, below_grown (hbel.trans (hb5.mono hbel.size)) hownc hg7 (Nat.le_refl _) (by omega), hown7, by simp [Hvl.out], ?_⟩
        refine Hd.out.snoc Hvl.out (fun base size n v xs h => ownsRow_other h hownc hg7 (by decide)) (B := wr.heap.size) (by omega) (fun j hj b hb => ((Hrows.out.rows j hj).lt b hb).2) ?_
        rw [Hrow.out, natInts_length]
        exact hown5
      case measure => simp [intOf]; omega
    · obtain rfl : k = a.length := by omega
      have HO := Lib.hid hown
      clear hown
      go_wp2
      go_ret
      exact ⟨_, rfl, ⟨_, vals, rfl, by rw [rowsOf_length]; exact Hvl.out, by rw [rowsOf_length]; exact HO.out, by rw [rowsOf_length]; exact Hrows.out⟩, hbel⟩

end Go.Proofs.YtiooindlpinjhaaDoor
