/- A region that draws its order, some of whose stores hit the cells that it loads: facts on the world, each of which holds until a named operation of the region has come up. -/
import Derived.Test.YtfphapcgjlhieaaDoorGtQ1
import Derived.Deep.RegionHeld
import Derived.Deep.RegionLaw
namespace Go.Proofs.YtfphapcgjlhieaaDoor
open Go.RowKit

section
variable {P : Program} {ops : Array Oper} {Q : Exit → Act → World → Prop} {md : Region.Mode}

/-- Facts, each till the operation beside it has come up. -/
def Stg : List (Nat × (World → Prop)) → Array Bool → World → Prop
  | [], _, _ => True
  | f :: fs, l, w => (l.getD f.1 true = false → f.2 w) ∧ Stg fs l w
theorem Stg.nil {l : Array Bool} {w : World} : Stg [] l w := trivial
theorem Stg.keep {f : Nat × (World → Prop)} {fs : List (Nat × (World → Prop))} {l : Array Bool} {w : World} (h : f.2 w) (r : Stg fs l w) : Stg (f :: fs) l w := ⟨fun _ => h, r⟩
theorem Stg.skip {f : Nat × (World → Prop)} {fs : List (Nat × (World → Prop))} {l : Array Bool} {w : World} (h : l.getD f.1 true = true) (r : Stg fs l w) : Stg (f :: fs) l w := ⟨fun k => absurd (h.symm.trans k) (by decide), r⟩
theorem Stg.get : ∀ {fs : List (Nat × (World → Prop))} {l : Array Bool} {w : World} {m s : Nat} {F : World → Prop}, fs[m]? = some (s, F) → Stg fs l w → l.getD s true = false → F w
  | [], _, _, m, _, _, e, _, _ => by simp at e
  | f :: fs, _, _, 0, _, _, e, h, k => by
    simp only [List.getElem?_cons_zero, Option.some.injEq] at e
    subst e
    exact h.1 k
  | f :: fs, _, _, m + 1, _, _, e, h, k => Stg.get (fs := fs) (m := m) (by simpa using e) h.2 k
theorem Stg.set : ∀ {fs : List (Nat × (World → Prop))} {i : Nat} {l : Array Bool} {w : World}, ((fs.map (·.1)).all fun s => s != i) = true → (Stg fs (l.setIfInBounds i true) w ↔ Stg fs l w)
  | [], _, _, _, _ => Iff.rfl
  | f :: fs, i, l, w, h => by
    simp only [List.map_cons, List.all_cons, Bool.and_eq_true, bne_iff_ne] at h
    unfold Stg
    rw [getD_set_ne true (Ne.symm h.1), Stg.set h.2]

/-- Whatever order is picked from here on; behind each operation the facts hold that are still asked. -/
def wpStg (P : Program) (md : Region.Mode) (ops : Array Oper) (Q : Exit → Act → World → Prop) (fs : List (Nat × (World → Prop))) : Nat → Array Bool → Act → World → Prop
  | 0, l, a, w => Region.ready md ops l = [] ∧ Q .normal a w
  | fuel + 1, l, a, w =>
    (Region.ready md ops l = [] → Q .normal a w) ∧
      ∀ i ∈ Region.ready md ops l, wpOp P ops Q i (fun a' w' => Stg fs (l.setIfInBounds i true) w' ∧ wpStg P md ops Q fs fuel (l.setIfInBounds i true) a' w') a w
variable {fs : List (Nat × (World → Prop))}

theorem wpStg_any : ∀ (fuel : Nat) (l : Array Bool) (a : Act) (w : World), wpStg P md ops Q fs fuel l a w → wpAny P md ops Q fuel l a w
  | 0, _, _, _, h => h
  | fuel + 1, _, _, _, h => ⟨h.1, fun i hi => wpOp_mono (fun a' w' k => wpStg_any fuel _ a' w' k.2) (h.2 i hi)⟩

theorem not_ready_after {i s : Nat} {l : Array Bool} (hb : ((ops[s]?).map fun o => o.after.any fun e => Region.binds md e && e.on == i).getD false = true) (hi : l.getD i true = false) : s ∉ Region.ready md ops l := by
  intro h
  obtain ⟨_, o, ho, hall⟩ := mem_ready.1 h
  rw [ho] at hb
  simp only [Option.map_some, Option.getD_some, Array.any_eq_true'] at hb
  obtain ⟨e, he, hb⟩ := hb
  simp only [Bool.and_eq_true, beq_iff_eq] at hb
  have h2 := hall e he hb.1
  rw [hb.2] at h2
  rcases Nat.lt_or_ge i l.size with k | k
  · simp [k] at h2 hi; rw [hi] at h2; cases h2
  · simp [Array.getElem?_eq_none k] at h2

/-- An operation that yields its value wherever what is still asked holds may be taken first. -/
theorem wpStg_first {i : Nat} {oi : Oper} {v : Value} {F : World → Prop} (G : Array Bool → Prop) (hi : ops[i]? = some oi) (hsel : ∀ (j : Nat) (o : Oper) cs b, ops[j]? = some o → o.op ≠ .select cs b)
    (hQ : ∀ c a w, Q (.panic c) (a.put oi.dst v) w → Q (.panic c) a w) (hne : ((fs.map (·.1)).all fun s => s != i) = true)
    (hGs : ∀ l j, G l → l.getD i true = false → j ∈ Region.ready md ops l → j ≠ i → G (l.setIfInBounds j true)) (hGF : ∀ l w, G l → Stg fs l w → F w) :
    ∀ (fuel : Nat) (l : Array Bool) (a : Act) (w : World),
      (∀ j oj, ops[j]? = some oj → j ≠ i → l.getD j true = false → (∀ e ∈ oj.after, Region.binds md e = true → e.on ≠ i) → oi.apart ops oj = true) →
      i ∈ Region.ready md ops l → G l → YieldsIf P ops F oi v a → Stg fs l w →
      wpStg P md ops Q fs fuel (l.setIfInBounds i true) (a.put oi.dst v) w → wpStg P md ops Q fs (fuel + 1) l a w := by
  intro fuel
  induction fuel with
  | zero =>
    intro l a w _ hr hG hy hS H
    refine ⟨fun h => absurd (h ▸ hr) (by simp), fun j hj => ?_⟩
    by_cases e : j = i
    · subst e
      exact hy.wpOp hi (hGF l w hG hS) ⟨(Stg.set hne).2 hS, H⟩
    · have := ready_mono hj e
      rw [H.1] at this
      simp at this
  | succ fuel ih =>
    intro l a w hap hr hG hy hS H
    refine ⟨fun h => absurd (h ▸ hr) (by simp), fun j hj => ?_⟩
    by_cases e : j = i
    · subst e
      exact hy.wpOp hi (hGF l w hG hS) ⟨(Stg.set hne).2 hS, H⟩
    have hil := (mem_ready.1 hr).1
    obtain ⟨hjl, oj, hoj, hall⟩ := mem_ready.1 hj
    have hno : ∀ x ∈ oj.after, Region.binds md x = true → x.on ≠ i := fun x hx hb k => by
      refine not_ready_after (md := md) (ops := ops) (i := i) (s := j) (l := l) ?_ hil hj
      rw [hoj]
      simp only [Option.map_some, Option.getD_some, Array.any_eq_true']
      exact ⟨x, hx, by simp [hb, k]⟩
    have h2 := wpOp_putIf hoj (hap j oj hoj e hjl hno) (fun cs b => hsel i oi cs b hi) (fun cs b => hsel j oj cs b hoj) hQ hy (H.2 j (ready_mono hj e))
    refine wpOp_mono (fun a' w' h3 => ?_) h2
    obtain ⟨h4, h5, h6⟩ := h3
    rw [Array.setIfInBounds_comm _ _ (Ne.symm e)] at h5 h6
    have h7 := (Stg.set hne).1 h5
    refine ⟨h7, ih _ a' w' (fun k ok hk hki hun hnk => hap k ok hk hki ?_ hnk) (ready_mono hr (Ne.symm e)) (hGs l j hG hil hj e) h4 h7 h6⟩
    by_cases k2 : j = k
    · subst k2; exact hjl
    · rwa [getD_set_ne true k2] at hun

/-- A load is taken first: the store that ends its fact waits for it. -/
theorem wpStg_take {m i s : Nat} {oi : Oper} {v : Value} {F : World → Prop} {fuel : Nat} {l : Array Bool} {a : Act} {w : World} (hm : fs[m]? = some (s, F)) (hi : ops[i]? = some oi)
    (hs : Region.noSelect ops = true) (hf : Region.free md ops l i = true) (hr : (Region.ready md ops l).contains i = true)
    (hb : ((ops[s]?).map fun o => o.after.any fun e => Region.binds md e && e.on == i).getD false = true) (hl : l.getD s true = false) (hne : ((fs.map (·.1)).all fun s => s != i) = true)
    (hQ : ∀ c a w, Q (.panic c) (a.put oi.dst v) w → Q (.panic c) a w) (hy : YieldsIf P ops F oi v a) (hS : Stg fs l w)
    (h : wpStg P md ops Q fs fuel (l.setIfInBounds i true) (a.put oi.dst v) w) : wpStg P md ops Q fs (fuel + 1) l a w :=
  wpStg_first (fun l => l.getD s true = false) hi (Region.noSelect_spec hs) hQ hne
    (fun l j h1 h2 h3 _ => by rw [getD_set_ne true (fun e => not_ready_after hb h2 (by rw [← e]; exact h3))]; exact h1) (fun l w h1 h2 => Stg.get hm h2 h1) fuel l a w (Region.free_spec hi hf) (by simpa using hr) hl hy hS h
/-- What yields in whatever world is taken first. -/
theorem wpStg_pure {i : Nat} {oi : Oper} {v : Value} {fuel : Nat} {l : Array Bool} {a : Act} {w : World} (hi : ops[i]? = some oi)
    (hs : Region.noSelect ops = true) (hf : Region.free md ops l i = true) (hr : (Region.ready md ops l).contains i = true) (hne : ((fs.map (·.1)).all fun s => s != i) = true)
    (hQ : ∀ c a w, Q (.panic c) (a.put oi.dst v) w → Q (.panic c) a w) (hy : YieldsIf P ops (fun _ => True) oi v a) (hS : Stg fs l w)
    (h : wpStg P md ops Q fs fuel (l.setIfInBounds i true) (a.put oi.dst v) w) : wpStg P md ops Q fs (fuel + 1) l a w :=
  wpStg_first (fun _ => True) hi (Region.noSelect_spec hs) hQ hne (fun _ _ _ _ _ _ => trivial) (fun _ _ _ _ => trivial) fuel l a w (Region.free_spec hi hf) (by simpa using hr) trivial hy hS h

/-- Just one operation may come up: it is carried out. -/
theorem wpStg_one {i : Nat} {oi : Oper} {fuel : Nat} {l : Array Bool} {a : Act} {w : World} (hr : Region.ready md ops l = [i]) (hi : ops[i]? = some oi)
    (h : ∀ K' : Act → World → Prop, Shut (∀ a w, Stg fs (l.setIfInBounds i true) w → (Stg fs (l.setIfInBounds i true) w → wpStg P md ops Q fs fuel (l.setIfInBounds i true) a w) → K' a w) →
      if Region.wanted oi (yielded ops a.tmps) = true then Oper.wp P oi a w K' Q else K' (a.put oi.dst undef) w) : wpStg P md ops Q fs (fuel + 1) l a w := by
  refine ⟨fun h0 => ?_, fun j hj => ?_⟩
  · rw [hr] at h0; cases h0
  · rw [hr] at hj
    obtain rfl : j = i := by simpa using hj
    exact wpOp_step hi (fun K' hK => h K' (fun a w hS hW => hK a w ⟨hS, hW hS⟩))
theorem wpStg_done {l : Array Bool} {a : Act} {w : World} (hr : Region.ready md ops l = []) (h : Q .normal a w) : ∀ fuel, wpStg P md ops Q fs fuel l a w
  | 0 => ⟨hr, h⟩
  | _ + 1 => ⟨fun _ => h, by rw [hr]; simp⟩
theorem wp_region_stg {id : Nat} {a : Act} {w : World} (fs : List (Nat × (World → Prop))) (hm : P.follows .mixedOrders = true) (hS : Stg fs (Array.replicate ops.size false) w.drew)
    (h : Stg fs (Array.replicate ops.size false) w.drew → wpStg P .any ops Q fs ops.size (Array.replicate ops.size false) a w.drew) : (Code.region id ops true).wp P Q a w :=
  wp_region_any hm (wpStg_any _ _ _ _ (h hS))
end

/-- append as one operation of such a region; where the new row lies. -/
theorem step_app1f {P : Program} {T E : TypeId} {z : Value} {bytes : Nat} (S : SlTy P T E z 1 bytes) {w : World} {ops : Array Oper} {o : Oper} {a : Act} {K : Act → World → Prop} {Q : Exit → Act → World → Prop} {F : Prop}
    (hgd : o.guard = none) {s x : Operand} (ho : o.op = .call { callee := .builtin .append, args := #[s, x], argTypes := #[T, T] })
    {base : Nat} {v : Value} {n : Nat} {xs : List Value} {el : Value} (hs : a.eval s = v) (hown : w.ownsRow base E 1 v n xs)
    (hx : a.eval x = .slice (some ⟨w.heap.size, 0, none⟩) 1 1) (h1 : el.oneCell' = true)
    (hnm : n < 1000000000) (hbase : base ≤ w.heap.size)
    (h : ∀ b c w', w'.ownsRow base E 1 (.slice (some ⟨b, 0, none⟩) (n + 1) c) (n + 1) (xs ++ [el]) → w.grownBy w' v.ownBlock → (v.ownBlock = some b ∨ w.heap.size < b) → K (a.put o.dst (.slice (some ⟨b, 0, none⟩) (n + 1) c)) w') :
    if Region.wanted o (yielded ops a.tmps) = true then Oper.wp P o a (w.alloc (.cells #[el] E)) K Q else F := by
  have hw : Region.wanted o (yielded ops a.tmps) = true := by simp [Region.wanted, hgd]
  rw [if_pos hw]
  have hal := size_alloc w (.cells #[el] E)
  have hu : Sl (w.alloc (.cells #[el] E)) E (.slice (some ⟨w.heap.size, 0, none⟩) 1 1) 1 [el] := by
    refine ⟨_, 1, rfl, (fun e => by cases e), Nat.le_refl _, by omega, Or.inr ⟨w.heap.size, 0, #[el], (0, 0), rfl, heap_alloc_new w _, fun j u hu => ?_⟩⟩
    cases j with
    | zero => simpa using hu
    | succ j => simp at hu
  obtain ⟨v', w', hr, h2, h3, h4⟩ := run_app S (w.alloc (.cells #[el] E)) o.type base v n xs (hown.alloc _) _ 1 [el] hu (by simp) (by simpa using h1) (by omega) (by omega)
  unfold Oper.wp execOp
  simp only [ho, resolve, invoke, builtin, Sem.run_bind, Sem.run_pure, Result.andThen_ok, List.map_toArray, List.map_cons, List.map_nil, hs, hx, hr]
  rcases id h2.2 with ⟨_, h0⟩ | ⟨g, cap, cur, rfl, _⟩
  · omega
  · refine h g cap w' h2 ⟨h3.os, h3.tape, h3.output, by have := h3.size; omega, fun k hk hne => (h3.block k (by omega) hne).trans (Below.heap_alloc w _ k hk)⟩ ?_
    rcases h4 g rfl with h5 | h5
    · exact .inl h5
    · exact .inr (by omega)

end Go.Proofs.YtfphapcgjlhieaaDoor
