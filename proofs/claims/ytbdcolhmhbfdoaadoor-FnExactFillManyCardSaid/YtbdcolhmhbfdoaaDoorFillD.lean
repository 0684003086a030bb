/- Walk: the program's elimination. -/
import Derived.Test.YtbdcolhmhbfdoaaDoorFillP
import Derived.Test.YtbdcolhmhbfdoaaDoorImplR
import Derived.Laws.MakeOwn
namespace Go.Proofs.YtbdcolhmhbfdoaaDoor
open Go.RowKit

/-- 'append(s, x...)' as a step of a region that draws. -/
theorem step_app {P : Program} {T E : TypeId} {z : Value} {size bytes : Nat} (S : SlTy P T E z size bytes) {w : World} {ops : Array Oper} {o : Oper} {a : Act} {K : Act → World → Prop} {Q : Exit → Act → World → Prop} {F : Prop}
    (hgd : o.guard = none) {s x : Operand} (ho : o.op = .call { callee := .builtin .append, args := #[s, x], argTypes := #[T, T] })
    {base : Nat} {v : Value} {n : Nat} {xs : List Value} (hs : a.eval s = v) (hown : w.ownsRow base E size v n xs)
    {u : Value} {m : Nat} {news : List Value} (hx : a.eval x = u) (hu : Sl w E u m news) (hl : news.length = m * size) (h1 : ∀ x ∈ news, x.oneCell' = true)
    (hnm : n + m ≤ 1000000000) (hbase : base ≤ w.heap.size)
    (h : ∀ v' w', w'.ownsRow base E size v' (n + m) (xs ++ news) → w.grownBy w' v.ownBlock → (∀ k, v'.ownBlock = some k → v.ownBlock = some k ∨ w.heap.size ≤ k) → K (a.put o.dst v') w') :
    if Region.wanted o (yielded ops a.tmps) = true then Oper.wp P o a w K Q else F := by
  have hw : Region.wanted o (yielded ops a.tmps) = true := by simp [Region.wanted, hgd]
  rw [if_pos hw]
  obtain ⟨v', w', hr, h2, h3, h4⟩ := run_app S w o.type base v n xs hown u m news hu hl h1 hnm hbase
  unfold Oper.wp execOp
  simp only [ho, resolve, invoke, builtin, Sem.run_bind, Sem.run_pure, Result.andThen_ok, List.map_toArray, List.map_cons, List.map_nil, hs, hx, hr]
  exact h _ _ h2 h3 h4

theorem run_mk_nets (n : Nat) (hn : n ≤ 1000) (w : World) : (Instr.makeSlice 49 (.int .i64 n) (.int .i64 n)).run Tryd.prog w = .ok (.slice (some ⟨w.heap.size, 0, none⟩) n n) (w.alloc (.cells (Array.replicate n (.int .u32 0)) 73)) := by
  obtain ⟨i, hi, hz, hsz, hby⟩ := info_parts ty_nets.info
  have e : madeCells (Value.int .u32 0).cells ((n : Int).toNat * i.size) = Array.replicate n (Value.int .u32 0) := by
    rw [hsz, Int.toNat_natCast, Nat.mul_one]
    refine Array.ext (by simp [madeCells]) fun j h1 h2 => ?_
    simp [madeCells, Value.cells, Nat.mod_one]
  have h := run_make (P := Tryd.prog) w 49 73 i (.int .u32 0) ty_nets.under hi hz .i64 .i64 n n (by omega) (Int.le_refl _) (by rw [hby]; omega) (by omega)
  rw [e, Int.toNat_natCast] at h
  exact h

theorem owns_made (w : World) (n : Nat) (hn : n ≤ 1000) : (w.alloc (.cells (Array.replicate n (.int .u32 0)) 73)).ownsRow w.heap.size 73 1 (.slice (some ⟨w.heap.size, 0, none⟩) n n) n (List.replicate n (.int .u32 0)) :=
  ⟨by simp, .inr ⟨w.heap.size, n, Array.replicate n (.int .u32 0), rfl, Nat.le_refl _, heap_alloc_new w _, Nat.le_refl _, by simp only [maxLen]; omega, by simp, by simp⟩⟩

end Go.Proofs.YtbdcolhmhbfdoaaDoor
