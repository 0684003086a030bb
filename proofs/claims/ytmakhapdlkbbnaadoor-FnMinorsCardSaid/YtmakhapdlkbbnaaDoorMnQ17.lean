/- append in a drawn region: the old row is kept. -/
import Derived.Test.YtmakhapdlkbbnaaDoorMnQ10
import Derived.Test.YtmakhapdlkbbnaaDoorMnQ4
import Derived.Deep.RegionWith
namespace Go.Proofs.YtmakhapdlkbbnaaDoor
open Go.RowKit

/-- A shorter row of the same block. -/
theorem ownsRow_headK {w : World} {base : Nat} {E : TypeId} {g c m n : Nat} {xs : List Value} (h : w.ownsRow base E 1 (.slice (some ⟨g, 0, none⟩) m c) m xs) (hk : n ≤ m) : w.ownsRow base E 1 (.slice (some ⟨g, 0, none⟩) n c) n (xs.take n) := by
  have hl := h.1
  refine ⟨by rw [List.length_take]; omega, ?_⟩
  rcases h.2 with ⟨h2, h0⟩ | ⟨g', cap, cur, hv, h2, h3, h4, h5, h6, h7⟩
  · simp at h2
  · simp only [Value.slice.injEq, Option.some.injEq, Addr.mk.injEq] at hv
    obtain ⟨⟨rfl, _⟩, _, rfl⟩ := hv
    exact .inr ⟨g, c, cur, rfl, h2, h3, by omega, h5, h6, by rw [← h7, List.take_take, Nat.mul_one, Nat.mul_one, Nat.min_eq_left hk]⟩

theorem owns_shapeK {w : World} {base : Nat} {E : TypeId} {size n : Nat} {v : Value} {xs : List Value} (h : w.ownsRow base E size v n xs) : ∃ p c, v = .slice p n c := by
  rcases h.2 with ⟨rfl, rfl⟩ | ⟨g, cap, cur, rfl, _⟩
  · exact ⟨_, _, rfl⟩
  · exact ⟨_, _, rfl⟩
/-- What an append leaves of the row that it was made of, as long as only the new row is written. -/
def KeptK (w0 w : World) (base : Nat) (E : TypeId) (v : Value) (n : Nat) (xs : List Value) (v' : Value) (ys : List Value) : Prop :=
  ∀ w3, w.grownBy w3 v'.ownBlock → w3.ownsRow base E 1 v' (n + 1) ys → w3.ownsRow base E 1 v n xs ∧ w0.grownBy w3 v.ownBlock

theorem run_appK {P : Program} {T E : TypeId} {z : Value} {bytes : Nat} (S : SlTy P T E z 1 bytes) (w : World) (ty : TypeId) (base : Nat)
    (v : Value) (n : Nat) (xs : List Value) (hown : w.ownsRow base E 1 v n xs) (u el : Value) (hu : Sl w E u 1 [el])
    (h1 : el.oneCell' = true) (hnm : n < 1000000000) (hbase : base ≤ w.heap.size) :
    ∃ v' w', (Builtin.append_ #[T, T] ty #[v, u]).run P w = .ok v' w' ∧ w'.ownsRow base E 1 v' (n + 1) (xs ++ [el]) ∧ w.grownBy w' v.ownBlock ∧
      KeptK w w' base E v n xs v' (xs ++ [el]) ∧ (∀ k, v'.ownBlock = some k → v.ownBlock = some k ∨ w.heap.size ≤ k) := by
  obtain ⟨i, hi, hz, hsz, hby⟩ := info_parts S.info
  obtain ⟨v', w', hr, h2, h3, h4⟩ := run_app S w ty base v n xs hown u 1 [el] hu (by simp) (by simpa using h1) (by omega) hbase
  refine ⟨v', w', hr, h2, h3, fun w3 hg ho => ?_, h4⟩
  have hgr : w.grownBy w3 v.ownBlock := ⟨hg.os.trans h3.os, hg.tape.trans h3.tape, hg.output.trans h3.output, Nat.le_trans h3.size hg.size, fun k hk hne => (hg.block k (Nat.lt_of_lt_of_le hk h3.size) fun e => by
    rcases h4 k e.symm with h5 | h5
    · exact hne h5.symm
    · omega).trans (h3.block k hk hne)⟩
  refine ⟨?_, hgr⟩
  have hl := hown.1
  rcases hown.2 with ⟨rfl, rfl⟩ | ⟨g, cap, cur, rfl, hbg, hgc, hnc, hcm, hcs, htake⟩
  · obtain rfl := List.eq_nil_of_length_eq_zero (show xs.length = 0 by omega)
    exact World.ownsRow_nil _ _ _ _
  · obtain ⟨p, c, rfl, hp, hmc, _, hat⟩ := hu
    cases p with
    | none => have := (hp rfl).1; omega
    | some ad =>
      have hcell : ∀ j x, [el][j]? = some x → w.cell? (ad.add j) = some x := by
        rcases hat with h | ⟨b, o, cur2, fz, hpe, hb, hc⟩
        · simp at h
        · simp only [Option.some.injEq] at hpe
          subst hpe
          intro j x hx
          have hadd : (⟨b, o, none⟩ : Addr).add j = ⟨b, o + j, none⟩ := by unfold Addr.add; split <;> simp_all
          rw [hadd]
          simp [World.cell?, hb, hc j x hx]
      have hbytes : (n + 1) * i.bytes ≤ 140737488355328 := by
        have := S.small
        have h2 : (n + 1) * i.bytes ≤ 1000000000 * 100 := Nat.mul_le_mul (by omega) (by rw [hby]; exact this)
        omega
      by_cases hroom : n + 1 ≤ cap
      · have hr2 := run_append_room (P := P) w T ty E i S.under hi g n cap cur hgc ad 1 c [el] (by rw [hsz]; rfl) hcell (by simpa using h1) hroom (by rw [hsz, List.length_singleton]; omega)
        have heq := hr.symm.trans hr2
        simp only [Result.ok.injEq] at heq
        obtain ⟨rfl, _⟩ := heq
        have := ownsRow_headK ho (show n ≤ n + 1 by omega)
        rwa [List.take_append_of_le_length (by omega), List.take_of_length_le (by omega)] at this
      · have holds : ∀ j x, xs[j]? = some x → w.cell? ((⟨g, 0, none⟩ : Addr).add j) = some x := hown.cells (g := g) rfl
        have hr2 := run_append_grow (P := P) w T ty E i z S.under hi hz ⟨g, 0, none⟩ n cap xs (by rw [hsz]; omega) holds ad 1 c [el] (by rw [hsz]; rfl) hcell (by omega) (by omega) (growslice_fits (by omega) hbytes)
        have heq := hr.symm.trans hr2
        simp only [Result.ok.injEq] at heq
        obtain ⟨rfl, rfl⟩ := heq
        have hgl := (Array.getElem?_eq_some_iff.1 hgc).1
        refine ⟨hl, .inr ⟨g, cap, cur, rfl, hbg, ?_, hnc, hcm, hcs, htake⟩⟩
        refine (hg.block g (by simp; omega) (fun e => ?_)).trans ((heap_alloc_old w.drew _ hgl).trans hgc)
        simp [Value.ownBlock] at e
        omega

/-- 'append(s, x)' of one element in a drawn region; the old row is kept. -/
theorem step_app1K {P : Program} {T E : TypeId} {z : Value} {bytes : Nat} (S : SlTy P T E z 1 bytes) {w : World} {ops : Array Oper} {o : Oper} {a : Act} {K : Act → World → Prop} {Q : Exit → Act → World → Prop} {F : Prop}
    (hgd : o.guard = none) {s x : Operand} (ho : o.op = .call { callee := .builtin .append, args := #[s, x], argTypes := #[T, T] })
    {base : Nat} {v : Value} {n : Nat} {xs : List Value} {el : Value} (hs : a.eval s = v) (hown : w.ownsRow base E 1 v n xs)
    (hx : a.eval x = .slice (some ⟨w.heap.size, 0, none⟩) 1 1) (h1 : el.oneCell' = true)
    (hnm : n < 1000000000) (hbase : base ≤ w.heap.size)
    (h : ∀ b c w', w'.ownsRow base E 1 (.slice (some ⟨b, 0, none⟩) (n + 1) c) (n + 1) (xs ++ [el]) → w.grownBy w' v.ownBlock → KeptK w w' base E v n xs (.slice (some ⟨b, 0, none⟩) (n + 1) c) (xs ++ [el]) → (v.ownBlock = some b ∨ w.heap.size ≤ b) → K (a.put o.dst (.slice (some ⟨b, 0, none⟩) (n + 1) c)) w') :
    if Region.wanted o (yielded ops a.tmps) = true then Oper.wp P o a (w.alloc (.cells #[el] E)) K Q else F := by
  have hw : Region.wanted o (yielded ops a.tmps) = true := by simp [Region.wanted, hgd]
  rw [if_pos hw]
  have hal : (w.alloc (.cells #[el] E)).heap.size = w.heap.size + 1 := by show (w.heap.push _).size = _; simp
  have hu : Sl (w.alloc (.cells #[el] E)) E (.slice (some ⟨w.heap.size, 0, none⟩) 1 1) 1 [el] := by
    refine ⟨_, 1, rfl, (fun e => by cases e), Nat.le_refl _, by omega, Or.inr ⟨w.heap.size, 0, #[el], (0, 0), rfl, heap_alloc_new w _, ?_⟩⟩
    intro j u hu
    match j, hu with
    | 0, hu => simpa using hu
    | j + 1, hu => simp at hu
  obtain ⟨v', w', hr, h2, h3, h4, h5⟩ := run_appK S (w.alloc (.cells #[el] E)) o.type base v n xs (hown.alloc _) _ el hu h1 hnm (by omega)
  have hstep : ∀ w3 : World, ∀ row, (w.alloc (.cells #[el] E)).grownBy w3 row → w.grownBy w3 row := fun w3 row h3 =>
    ⟨h3.os, h3.tape, h3.output, by have := h3.size; omega, fun k hk hne => (h3.block k (by omega) hne).trans (Below.heap_alloc w _ k hk)⟩
  unfold Oper.wp execOp
  simp only [ho, resolve, invoke, builtin, Sem.run_bind, Sem.run_pure, Result.andThen_ok, List.map_toArray, List.map_cons, List.map_nil, hs, hx, hr]
  rcases id h2.2 with ⟨_, h0⟩ | ⟨g, cap, cur, rfl, _⟩
  · omega
  · exact h g cap w' h2 (hstep _ _ h3) (fun w3 hg ho => ⟨(h4 w3 hg ho).1, hstep _ _ (h4 w3 hg ho).2⟩) (by
      rcases h5 g rfl with h6 | h6
      · exact .inl h6
      · exact .inr (by omega))

/-- 'append(s, x)' of one element in a drawn region; where the new row lies. -/
theorem step_app1B {P : Program} {T E : TypeId} {z : Value} {bytes : Nat} (S : SlTy P T E z 1 bytes) {w : World} {ops : Array Oper} {o : Oper} {a : Act} {K : Act → World → Prop} {Q : Exit → Act → World → Prop} {F : Prop}
    (hgd : o.guard = none) {s x : Operand} (ho : o.op = .call { callee := .builtin .append, args := #[s, x], argTypes := #[T, T] })
    {base : Nat} {v : Value} {n : Nat} {xs : List Value} {el : Value} (hs : a.eval s = v) (hown : w.ownsRow base E 1 v n xs)
    (hx : a.eval x = .slice (some ⟨w.heap.size, 0, none⟩) 1 1) (h1 : el.oneCell' = true)
    (hnm : n < 1000000000) (hbase : base ≤ w.heap.size)
    (h : ∀ b c w', w'.ownsRow base E 1 (.slice (some ⟨b, 0, none⟩) (n + 1) c) (n + 1) (xs ++ [el]) → w.grownBy w' v.ownBlock → (v.ownBlock = some b ∨ w.heap.size ≤ b) → K (a.put o.dst (.slice (some ⟨b, 0, none⟩) (n + 1) c)) w') :
    if Region.wanted o (yielded ops a.tmps) = true then Oper.wp P o a (w.alloc (.cells #[el] E)) K Q else F := by
  have hw : Region.wanted o (yielded ops a.tmps) = true := by simp [Region.wanted, hgd]
  rw [if_pos hw]
  have hal : (w.alloc (.cells #[el] E)).heap.size = w.heap.size + 1 := by show (w.heap.push _).size = _; simp
  have hu : Sl (w.alloc (.cells #[el] E)) E (.slice (some ⟨w.heap.size, 0, none⟩) 1 1) 1 [el] := by
    refine ⟨_, 1, rfl, (fun e => by cases e), Nat.le_refl _, by omega, Or.inr ⟨w.heap.size, 0, #[el], (0, 0), rfl, heap_alloc_new w _, ?_⟩⟩
    intro j u hu
    match j, hu with
    | 0, hu => simpa using hu
    | j + 1, hu => simp at hu
  obtain ⟨v', w', hr, h2, h3, h4⟩ := run_app S (w.alloc (.cells #[el] E)) o.type base v n xs (hown.alloc _) _ 1 [el] hu (by simp) (by simpa using h1) (by omega) (by omega)
  unfold Oper.wp execOp
  simp only [ho, resolve, invoke, builtin, Sem.run_bind, Sem.run_pure, Result.andThen_ok, List.map_toArray, List.map_cons, List.map_nil, hs, hx, hr]
  rcases id h2.2 with ⟨_, h0⟩ | ⟨g, cap, cur, rfl, _⟩
  · omega
  · refine h g cap w' h2 ⟨h3.os, h3.tape, h3.output, by have := h3.size; omega, fun k hk hne => (h3.block k (by omega) hne).trans (Below.heap_alloc w _ k hk)⟩ ?_
    rcases h4 g rfl with h5 | h5
    · exact .inl h5
    · exact .inr (by omega)

end Go.Proofs.YtmakhapdlkbbnaaDoor

/- Walks: what the exact laws do with their arguments and results: size, copy, compare, mark, hold. -/
namespace Go.Proofs.YtmakhapdlkbbnaaDoor
open Go.RowKit

/-- From p on lie the cells vals, whatever the block says of its elements: what an argument reads as. -/
def Cl (w : World) (p : Option Addr) (vals : List Value) : Prop :=
  vals = [] ∨ ∃ b o, p = some ⟨b, o, none⟩ ∧ ∀ j u, vals[j]? = some u → w.cell? ⟨b, o + j, none⟩ = some u
def ArgN (w : World) (v : Value) (xs : List Int) : Prop := ∃ p c, v = .slice p xs.length c ∧ xs.length ≤ 9223372036854775807 ∧ Cl w p (xs.map (Value.int .i64))
def ArgR (w : World) (v : Value) (g : List (List Int)) : Prop :=
  ∃ p c vals, v = .slice p g.length c ∧ g.length ≤ 9223372036854775807 ∧ vals.length = g.length ∧ Cl w p vals ∧ ∀ j, j < g.length → ArgN w (vals.getD j undef) (g.getD j [])
/-- A law's graph. -/
def ArgG (w : World) (v : Value) (g : List (List Int)) : Prop := ∃ u, v = .agg #[u] ∧ ArgR w u g

theorem Cl.below {w w' : World} {p : Option Addr} {vals : List Value} (h : Cl w p vals) (hb : Below w.heap.size w w') : Cl w' p vals := by
  rcases h with h | ⟨b, o, h1, h2⟩
  · exact .inl h
  · exact .inr ⟨b, o, h1, fun j u hu => hb.at' (h2 j u hu)⟩
theorem ArgN.below {w w' : World} {v : Value} {xs : List Int} (h : ArgN w v xs) (hb : Below w.heap.size w w') : ArgN w' v xs := by
  obtain ⟨p, c, h1, h2, h3⟩ := h
  exact ⟨p, c, h1, h2, h3.below hb⟩
theorem ArgR.below {w w' : World} {v : Value} {g : List (List Int)} (h : ArgR w v g) (hb : Below w.heap.size w w') : ArgR w' v g := by
  obtain ⟨p, c, vals, h1, h2, h3, h4, h5⟩ := h
  exact ⟨p, c, vals, h1, h2, h3, h4.below hb, fun j hj => (h5 j hj).below hb⟩
theorem ArgG.below {w w' : World} {v : Value} {g : List (List Int)} (h : ArgG w v g) (hb : Below w.heap.size w w') : ArgG w' v g := by
  obtain ⟨u, h1, h2⟩ := h
  exact ⟨u, h1, h2.below hb⟩
theorem Cl.get {w : World} {p : Option Addr} {vals : List Value} (h : Cl w p vals) {k : Nat} (hk : k < vals.length) : ∃ b o, p = some ⟨b, o, none⟩ ∧ w.cell? ⟨b, o + k, none⟩ = some vals[k] := by
  rcases h with h | ⟨b, o, h1, h2⟩
  · subst h; simp at hk
  · exact ⟨b, o, h1, h2 k _ (by simp [hk])⟩
theorem Cl.num {w : World} {p : Option Addr} {xs : List Int} (h : Cl w p (xs.map (Value.int .i64))) {k : Nat} (hk : k < xs.length) : ∃ b o, p = some ⟨b, o, none⟩ ∧ w.cell? ⟨b, o + k, none⟩ = some (.int .i64 xs[k]) := by
  obtain ⟨b, o, h1, h2⟩ := h.get (k := k) (by simpa using hk)
  exact ⟨b, o, h1, by rw [h2]; simp⟩
theorem ArgR.get {w : World} {p : Option Addr} {n c : Nat} {g : List (List Int)} (h : ArgR w (.slice p n c) g) {k : Nat} (hk : k < g.length) :
    ∃ b o rp rc, p = some ⟨b, o, none⟩ ∧ w.cell? ⟨b, o + k, none⟩ = some (.slice rp (row g k).length rc) ∧ ArgN w (.slice rp (row g k).length rc) (row g k) := by
  obtain ⟨p', c', vals, he, _, hl, hcl, hr⟩ := h
  simp only [Value.slice.injEq] at he
  obtain ⟨rfl, rfl, rfl⟩ := he
  obtain ⟨b, o, hp, hc⟩ := hcl.get (k := k) (by omega)
  have hrow := hr k hk
  have e : vals.getD k undef = vals[k] := by simp [hl, hk]
  rw [e] at hrow
  obtain ⟨rp, rc, hv, _⟩ := id hrow
  rw [hv] at hc hrow
  exact ⟨b, o, rp, rc, hp, hc, hrow⟩

set_option maxRecDepth 100000 in
set_option maxHeartbeats 400000 in
theorem szInt64S_any (v : Value) (xs : List Int) (left : Int) (h0 : 0 ≤ left) (h1 : left ≤ 1048576) (w : World) (hx : ArgN w v xs) :
    Calls Tryd.prog 188 #[v, .int .i64 left] w fun e w' => (∃ z : Int, e = .returned (.int .i64 z) ∧ -1 ≤ z ∧ z ≤ left ∧ (0 ≤ z → (xs.length : Int) ≤ left)) ∧ w = w' := by
  obtain ⟨p, c, rfl, hn, _⟩ := hx
  by_cases h : left - xs.length < 0
  · go_enter Tryd.func188, Tryd.ntmps188
    go_wp2
    go_ret
    exact ⟨⟨-1, rfl, by omega, by omega, fun h => by omega⟩, rfl⟩
  · go_enter Tryd.func188, Tryd.ntmps188
    go_wp2
    go_ret
    exact ⟨⟨left - xs.length, rfl, by omega, by omega, fun h => by omega⟩, rfl⟩

set_option maxRecDepth 100000 in
set_option maxHeartbeats 1000000 in
theorem szInt64SS_any (v : Value) (g : List (List Int)) (left : Int) (h0 : 0 ≤ left) (h1 : left ≤ 1048576) (w : World) (hx : ArgR w v g) :
    Calls Tryd.prog 119 #[v, .int .i64 left] w fun e w' => (∃ z : Int, e = .returned (.int .i64 z) ∧ -1 ≤ z ∧ z ≤ left ∧ (0 ≤ z → (g.length : Int) ≤ left ∧ ∀ j, j < g.length → ((row g j).length : Int) ≤ left)) ∧ w = w' := by
  obtain ⟨p, c, vals, rfl, hn, hr⟩ := id hx
  clear hr
  by_cases h : left - g.length < 0
  · go_enter Tryd.func119, Tryd.ntmps119
    go_wp2
    go_ret
    exact ⟨⟨-1, rfl, by omega, by omega, fun h => by omega⟩, rfl⟩
  · go_enter Tryd.func119, Tryd.ntmps119
    go_wp2
    go_loop [1, 5] (fun l i => ∃ (k : Nat) (z : Int), k ≤ g.length ∧ i = .int .i64 k ∧ l = .int .i64 z ∧ 0 ≤ z ∧ z ≤ left ∧ ∀ j, j < k → ((row g j).length : Int) ≤ left) (fun _ i => g.length - (intOf i).toNat)
    case atStart => exact ⟨0, _, Nat.zero_le _, rfl, rfl, by omega, by omega, fun j hj => by omega⟩
    case round =>
      obtain ⟨k, z, hk, rfl, rfl, hz0, hz1, hrows⟩ := hrel
      have Hrows := Lib.hid hrows
      clear hrows
      by_cases hlt : k < g.length
      · obtain ⟨b, o, rp, rc, rfl, hcell, harg⟩ := hx.get hlt
        go_wp2_with (go_at_call 188; refine (szInt64S_any _ _ z hz0 (by omega) _ harg).mono ?_; rintro e w2 ⟨⟨y, rfl, hy1, hy2, hy3⟩, rfl⟩)
        · go_ret
          exact ⟨⟨-1, rfl, by omega, by omega, fun h => by omega⟩, rfl⟩
        · go_round
          case rel =>
            refine ⟨k + 1, y, by omega, by go_num, rfl, by omega, by omega, fun j hj => ?_⟩
            by_cases e : j = k
            · subst e; have := hy3 (by omega); omega
            · exact Hrows.out j (by omega)
          case measure => simp [intOf]; omega
      · obtain rfl : k = g.length := by omega
        go_wp2
        go_ret
        exact ⟨⟨z, rfl, by omega, by omega, fun _ => ⟨by omega, Hrows.out⟩⟩, rfl⟩

set_option maxRecDepth 100000 in
set_option maxHeartbeats 400000 in
theorem szGraph_any (v : Value) (g : List (List Int)) (left : Int) (h0 : 0 ≤ left) (h1 : left ≤ 1048576) (w : World) (hx : ArgG w v g) :
    Calls Tryd.prog 41 #[v, .int .i64 left] w fun e w' => (∃ z : Int, e = .returned (.int .i64 z) ∧ -1 ≤ z ∧ z ≤ left ∧ (0 ≤ z → (g.length : Int) ≤ left ∧ ∀ j, j < g.length → ((row g j).length : Int) ≤ left)) ∧ Below w.heap.size w w' := by
  obtain ⟨u, rfl, hr⟩ := hx
  obtain ⟨p, c, vals, rfl, hn, _⟩ := id hr
  have hb1 := below_alloc w (.cells #[.slice p g.length c] 51)
  have hr1 := hr.below hb1
  go_enter Tryd.func41, Tryd.ntmps41
  go_wp2_with (go_at_call 119; refine (szInt64SS_any _ g left h0 h1 _ hr1).mono ?_; rintro e w2 ⟨⟨y, rfl, hy1, hy2, hy3⟩, rfl⟩)
  · go_ret
    exact ⟨⟨-1, rfl, by omega, by omega, fun h => by omega⟩, hb1⟩
  · go_ret
    exact ⟨⟨y, rfl, hy1, hy2, hy3⟩, hb1⟩

theorem take_replicate_set {α : Type} (xs ys : List α) (k : Nat) (z : α) (hy : ys = xs.take k ++ List.replicate (xs.length - k) z) (hk : k < xs.length) :
    ys.set k xs[k] = xs.take (k + 1) ++ List.replicate (xs.length - (k + 1)) z := by
  subst hy
  have hl : (xs.take k).length = k := by rw [List.length_take]; omega
  have e : xs.length - k = (xs.length - (k + 1)) + 1 := by omega
  rw [List.set_append, if_neg (by omega), hl, Nat.sub_self, e, List.replicate_succ, List.set_cons_zero, take_snoc xs k hk, List.append_assoc]
  rfl

set_option maxRecDepth 100000 in
set_option maxHeartbeats 1000000 in
theorem toInt64S_any (v : Value) (xs : List Int) (h1 : xs.length ≤ 1048576) (w : World) (hx : ArgN w v xs) :
    Calls Tryd.prog 193 #[v] w fun e w' => ∃ u, e = .returned u ∧ (∃ b c, u = .slice (some ⟨b, 0, none⟩) xs.length c) ∧
      w'.ownsRow w.heap.size 2 1 u xs.length (xs.map (Value.int .i64)) ∧ Below w.heap.size w w' := by
  obtain ⟨p, c, rfl, hn, hat⟩ := hx
  go_enter Tryd.func193, Tryd.ntmps193
  go_wp2_with (at_make; refine wpList_mk ty_i64 rfl rfl rfl xs.length rfl rfl rfl rfl (by omega) ?_; intro w1 hown1 hg1)
  have hb1 := grown_below hg1
  clear hg1
  go_loopw [4] (fun i wr => ∃ k : Nat, k ≤ xs.length ∧ i = .int .i64 k ∧ wr.ownsRow w.heap.size 2 1 (.slice (some ⟨w.heap.size, 0, none⟩) xs.length xs.length) xs.length ((xs.map (Value.int .i64)).take k ++ List.replicate (xs.length - k) (.int .i64 0)) ∧ Below w.heap.size w wr)
    (fun i _ => xs.length - (intOf i).toNat)
  case atStart => exact ⟨0, Nat.zero_le _, rfl, by simpa using hown1, hb1⟩
  case round =>
    clear hown1 hb1
    obtain ⟨k, hk, rfl, hown, hbel⟩ := hrel
    by_cases hlt : k < xs.length
    · obtain ⟨b, o, rfl, hc⟩ := hat.num hlt
      have hcell := hbel.at (World.block_lt_of_cell? w _ hc) hc
      have hf := hown.frozenAt k
      have hc2 := hown.cellAt k (by omega)
      obtain ⟨old, hold⟩ : ∃ old, ((xs.map (Value.int .i64)).take k ++ List.replicate (xs.length - k) (.int .i64 0))[k]? = some old := ⟨_, List.getElem?_eq_getElem (by simp; omega)⟩
      rw [hold] at hc2
      obtain ⟨ho2, hg2⟩ := hown.stored k (.int .i64 xs[k])
      have Ho2 := Lib.hid ho2
      have hb2 := below_grown hbel hown hg2 (Nat.le_refl _) hbel.size
      clear hc hat hold hg2 ho2 hown
      go_wp2
      go_roundw
      case rel =>
        refine ⟨k + 1, by omega, by go_num, ?_, hb2⟩
        have e := take_replicate_set (xs.map (Value.int .i64)) _ k (.int .i64 0) rfl (by simpa using hlt)
        simp only [List.length_map, List.getElem_map] at e
        rw [← e]
        exact Ho2.out
      case measure => simp [intOf]; omega
    · obtain rfl : k = xs.length := by omega
      go_wp2
      go_ret
      have e : (xs.map (Value.int .i64)).take xs.length = xs.map (Value.int .i64) := List.take_of_length_le (by simp)
      rw [e, Nat.sub_self, List.replicate_zero, List.append_nil] at hown
      exact ⟨_, rfl, ⟨_, _, rfl⟩, hown, hbel⟩

end Go.Proofs.YtmakhapdlkbbnaaDoor
