/- The draws only grow: what an operation leaves has drawn no less; an append with that word. -/
import Derived.Test.YtkppbmfliejnmaaDoorBkQ3
import Derived.Lib.QuietBelow
import Derived.Test.YtkppbmfliejnmaaDoorBkQ32
import Derived.Test.YtkppbmfliejnmaaDoorBkQ4
import Derived.Deep.RegionHeld3
import Derived.Deep.DeepCutAuto
namespace Go.Proofs.YtkppbmfliejnmaaDoor
open Go.RowKit Go.Sort

theorem ask_drawn {α : Type} : ∀ (k : Ask α) (w : World), w.drawn ≤ (w.ask k).2.drawn
  | .done _, w => Nat.le_refl _
  | .ask what range k, w => by
    simp only [World.ask]
    split
    · exact ask_drawn (k 0) w
    · exact Nat.le_trans (Nat.le_succ _) (ask_drawn (k _) { w with drawn := w.drawn + 1 })
theorem sys_drawn (w : World) (c : Sys) : w.drawn ≤ (w.sys c).2.drawn := by
  have h := ask_drawn (Kernel.perform c w.os) w
  simp only [World.sys]
  split
  · exact Nat.le_refl _
  · rename_i heq
    rw [heq] at h
    exact h
theorem viewStore_drawn {P : Program} {w w' : World} {b : Addr} {u : TypeId} {k : Addr} {v : Value} {x : Bool} {l : List Addr} (h : w.viewStore P b u k v x = .ok (w', l)) : w'.drawn = w.drawn := by
  unfold World.viewStore at h
  simp only [bind, Except.bind, pure, Except.pure] at h
  repeat (split at h <;> try (simp at h; done))
  all_goals (try (simp only [Except.ok.injEq, Prod.mk.injEq] at h; obtain ⟨rfl, _⟩ := h; rfl))
theorem farStore_drawn {P : Program} {w w' : World} {k : Addr} {v : Value} {x : Bool} {l : List Addr} (h : w.farStore P k v x = .ok (w', l)) : w'.drawn = w.drawn := by
  unfold World.farStore at h
  split at h
  · split at h
    · rename_i r hr
      obtain ⟨w2, l2⟩ := r
      simp only [Except.ok.injEq, Prod.mk.injEq] at h
      obtain ⟨rfl, rfl⟩ := h
      exact viewStore_drawn hr
    · exact nomatch h
  · exact nomatch h

theorem freeze_drawn (w : World) (a : Addr) (n : Nat) : (w.freeze a n).drawn = w.drawn := by
  unfold World.freeze
  repeat (first | rfl | split)
def okDrawn {α : Type} (w : World) : Result α → Prop
  | .ok _ w' => w.drawn ≤ w'.drawn
  | .halt _ _ => True
theorem okDrawn.le {α : Type} {w v : World} {r : Result α} (h : okDrawn v r) (hw : w.drawn ≤ v.drawn) : okDrawn w r := by
  cases r with
  | ok a x => exact Nat.le_trans hw h
  | halt _ _ => trivial
theorem sem_drawn {α : Type} (P : Program) (s : Sem α) : ∀ w : World, okDrawn w (s.run P w) := by
  induction s with
  | pure a => intro w; exact Nat.le_refl _
  | load m a k ih =>
    intro w
    unfold Sem.run
    split
    · exact ih _ w
    · split
      · exact ih _ w
      · trivial
  | store m a v k ih =>
    intro w
    have main : okDrawn w (match w.cell? a with
        | some _ => if w.frozen? a then .halt (.unsupported (.unsafePointer "a write to bytes that a string shares")) w else k.run P (w.setCell a v)
        | none => match w.farStore P a v (m == .atomic) with
          | .ok (w, _) => k.run P w
          | .error h => .halt h w) := by
      split
      · split
        · trivial
        · exact (ih _).le (Nat.le_refl _)
      · split
        · rename_i heq
          exact (ih _).le (Nat.le_of_eq (farStore_drawn heq).symm)
        · trivial
    cases v <;> first | exact main | (simp only [Sem.run]; trivial)
  | new o k ih => intro w; unfold Sem.run; exact (ih _ _).le (Nat.le_refl _)
  | shape r k ih => intro w; unfold Sem.run; exact ih _ w
  | freeze a n k ih => intro w; unfold Sem.run; exact (ih _).le (Nat.le_of_eq (freeze_drawn w a n).symm)
  | frozen a k ih => intro w; unfold Sem.run; exact ih _ w
  | getObj r k ih =>
    intro w
    unfold Sem.run
    split
    · trivial
    · exact ih _ w
    · trivial
  | setObj r o k ih =>
    intro w
    unfold Sem.run
    split
    · trivial
    · exact ih _
    · trivial
  | choose q k ih =>
    intro w
    unfold Sem.run
    split
    · exact ih _ w
    · exact (ih _ _).le (Nat.le_succ _)
  | sys c k ih => intro w; unfold Sem.run; exact (ih _ _).le (sys_drawn w c)
  | program k ih => intro w; unfold Sem.run; exact ih _ w
  | mark m k ih => intro w; unfold Sem.run; exact ih w
  | halt h => intro w; trivial

/-- 'append(s, x...)' as an arm of the walk: s the call's own, x any slice that reads. -/
theorem wpList_appD {P : Program} {T E : TypeId} {z : Value} {size bytes : Nat} (S : SlTy P T E z size bytes) {w : World} {ops : Array Oper} {rest : List Oper} {o : Oper} {a : Act} {Q : Exit → Act → World → Prop}
    (hgd : o.guard = none) {s x : Operand} (ho : o.op = .call { callee := .builtin .append, args := #[s, x], argTypes := #[T, T] })
    {base : Nat} {v : Value} {n : Nat} {xs : List Value} (hs : a.eval s = v) (hown : w.ownsRow base E size v n xs)
    {u : Value} {m : Nat} {news : List Value} (hx : a.eval x = u) (hu : Sl w E u m news) (hl : news.length = m * size) (h1 : ∀ x ∈ news, x.oneCell' = true)
    (hnm : n + m ≤ 1000000000) (hbase : base ≤ w.heap.size)
    (h : ∀ v' w', w'.ownsRow base E size v' (n + m) (xs ++ news) → w.grownBy w' v.ownBlock → (∀ k, v'.ownBlock = some k → v.ownBlock = some k ∨ w.heap.size ≤ k) → w.drawn ≤ w'.drawn → wpList P ops Q rest (a.put o.dst v') w') :
    wpList P ops Q (o :: rest) a w := by
  refine wpList_plain hgd fun _ hK => ?_
  obtain ⟨v', w', hr, h2, h3, h4⟩ := run_app S w o.type base v n xs hown u m news hu hl h1 hnm hbase
  have hd : w.drawn ≤ w'.drawn := by
    have := sem_drawn P (Builtin.append_ #[T, T] o.type #[v, u]) w
    rw [hr] at this
    exact this
  unfold Oper.wp execOp
  simp only [ho, resolve, invoke, builtin, Sem.run_bind, Sem.run_pure, Result.andThen_ok, List.map_toArray, List.map_cons, List.map_nil, hs, hx, hr]
  exact hK _ _ (h v' w' h2 h3 h4 hd)

/-- 'append(s, x)' of one element of one cell: x lies in the block that was just laid. -/
theorem wpList_app1D {P : Program} {T E : TypeId} {z : Value} {bytes : Nat} (S : SlTy P T E z 1 bytes) {w : World} {ops : Array Oper} {rest : List Oper} {o : Oper} {a : Act} {Q : Exit → Act → World → Prop}
    (hgd : o.guard = none) {s x : Operand} (ho : o.op = .call { callee := .builtin .append, args := #[s, x], argTypes := #[T, T] })
    {base : Nat} {v : Value} {n : Nat} {xs : List Value} {el : Value} (hs : a.eval s = v) (hown : w.ownsRow base E 1 v n xs)
    (hx : a.eval x = .slice (some ⟨w.heap.size, 0, none⟩) 1 1) (h1 : el.oneCell' = true)
    (hnm : n < 1000000000) (hbase : base ≤ w.heap.size)
    (h : ∀ v' w', w'.ownsRow base E 1 v' (n + 1) (xs ++ [el]) → w.grownBy w' v.ownBlock → (∀ k, v'.ownBlock = some k → v.ownBlock = some k ∨ w.heap.size < k) → w.drawn ≤ w'.drawn → wpList P ops Q rest (a.put o.dst v') w') :
    wpList P ops Q (o :: rest) a (w.alloc (.cells #[el] E)) := by
  have hal : (w.alloc (.cells #[el] E)).heap.size = w.heap.size + 1 := by show (w.heap.push _).size = _; simp
  refine wpList_appD S (w := w.alloc (.cells #[el] E)) (m := 1) (news := [el]) hgd ho hs (hown.alloc _) hx ⟨_, 1, rfl, (fun e => by cases e), Nat.le_refl _, by omega, Or.inr ⟨w.heap.size, 0, #[el], (0, 0), rfl, heap_alloc_new w _, ?_⟩⟩ (by simp) (by simpa using h1) (by omega) (by omega) fun v' w' h2 h3 h4 h5 => h v' w' h2 ?_ (fun k hk => ?_) h5
  · intro j u hu
    match j, hu with
    | 0, hu => simpa using hu
    | j + 1, hu => simp at hu
  · exact ⟨h3.os, h3.tape, h3.output, by have := h3.size; omega, fun k hk hne => (h3.block k (by omega) hne).trans (Below.heap_alloc w _ k hk)⟩
  · rcases h4 k hk with h5 | h5
    · exact .inl h5
    · exact .inr (by omega)

end Go.Proofs.YtkppbmfliejnmaaDoor

/- Walks: the order of sets (compareSets), with the word that the draws only grow. -/
namespace Go.Proofs.YtkppbmfliejnmaaDoor
open Go.RowKit Go.Sort

set_option maxRecDepth 100000 in
set_option maxHeartbeats 1000000 in
theorem list_anyD (y : Int) (s : Nat) (hy : y = s) (hs : s < 4294967296) (w : World) (hT : Tab w) :
    Calls Tryd.prog 180 #[.int .u32 y] w fun e w' => ∃ v, e = .returned v ∧
      w'.ownsRow w.heap.size 3 1 v (bitsOf s).length ((natInts (bitsOf s)).map (Value.int .i64)) ∧ Below w.heap.size w w' ∧ w.drawn ≤ w'.drawn := by
  subst hy
  have hpos := hT.pos
  go_enter Tryd.func180, Tryd.ntmps180
  go_wp2
  go_loopw [0, 3] (fun x v wr => ∃ (r : Nat) (d : List Nat), x = .int .u32 r ∧ r < 4294967296 ∧ d ++ bitsOf r = bitsOf s ∧ wr.ownsRow w.heap.size 3 1 v d.length ((natInts d).map (Value.int .i64)) ∧ Below w.heap.size w wr ∧ w.drawn ≤ wr.drawn)
    (fun x _ _ => (bitsOf (intOf x).toNat).length)
  case atStart => exact ⟨s, [], rfl, hs, rfl, ownsRow_empty _ _ _, below_alloc _ _, Nat.le_refl _⟩
  case round =>
    obtain ⟨r, d, rfl, hr, hd, hown, hbel, hdr⟩ := hrel
    by_cases h0 : r = 0
    · subst h0
      rw [bitsOf_zero, List.append_nil] at hd
      subst hd
      go_wp2
      go_ret
      exact ⟨_, rfl, hown, hbel, hdr⟩
    · have h0' : ((r : Int) != 0) = true := by simp; omega
      have hTr : Tab wr := hT.below hbel hpos
      have hsz := hbel.size
      have hstep := Lib.hid (bitsOf_step r h0 hr)
      have hlow := Lib.hid (drop_low r hr h0)
      have hlen : d.length < 1000000000 := by
        have h1 := bitsOf_length s
        rw [← hd, List.length_append] at h1
        omega
      have Hd := Lib.hid hd
      clear hd
      go_wp2_with (first
        | (go_at_call 185; refine (least_any _ r rfl h0 hr _ hTr).mono ?_; rintro e w' ⟨rfl, rfl⟩)
        | (at_builtin; refine wpList_app1D ty_int rfl rfl rfl hown rfl rfl hlen hsz ?_; intro v' w1 hown' hg _ hdr1))
      go_roundw
      case rel =>
        refine ⟨r &&& (r - 1), d ++ [Lib.ctz 32 r], val_int hlow.out, and_lt32 _ _ hr, ?_, ?_, below_grown hbel hown hg (Nat.le_refl _) hsz, Nat.le_trans hdr hdr1⟩
        · rw [List.append_assoc, List.singleton_append, ← hstep.out]; exact Hd.out
        · simpa [natInts] using hown'
      case measure =>
        rw [hlow.out]
        simp [intOf, hstep.out]

end Go.Proofs.YtkppbmfliejnmaaDoor

/- Walks: slices.Compare at numbers; compareSets. -/
namespace Go.Proofs.YtkppbmfliejnmaaDoor
open Go.RowKit Go.Sort

set_option maxHeartbeats 400000 in
theorem isNaN_int (x : Int) (w : World) : Calls Tryd.prog 260 #[.int .i64 x] w fun e w' => e = .returned (.bool false) ∧ w = w' := by
  go_enter Tryd.func260, Tryd.ntmps260
  go_wp2
  go_ret
  exact ⟨ret_bool (by simp), rfl⟩
set_option maxHeartbeats 400000 in
theorem cmp_less (x y : Int) (h : x < y) (w : World) : Calls Tryd.prog 247 #[.int .i64 x, .int .i64 y] w fun e w' => e = .returned (.int .i64 (-1)) ∧ w = w' := by
  go_enter Tryd.func247, Tryd.ntmps247
  go_wp2_with (go_at_call 260; refine (isNaN_int _ _).mono ?_; rintro e w' ⟨rfl, rfl⟩)
  go_ret
  exact ⟨rfl, rfl⟩
set_option maxHeartbeats 400000 in
theorem cmp_more (x y : Int) (h : y < x) (w : World) : Calls Tryd.prog 247 #[.int .i64 x, .int .i64 y] w fun e w' => e = .returned (.int .i64 1) ∧ w = w' := by
  have h2 : ¬ x < y := by omega
  go_enter Tryd.func247, Tryd.ntmps247
  go_wp2_with (go_at_call 260; refine (isNaN_int _ _).mono ?_; rintro e w' ⟨rfl, rfl⟩)
  go_ret
  exact ⟨rfl, rfl⟩
set_option maxHeartbeats 400000 in
theorem cmp_same (x y : Int) (h : x = y) (w : World) : Calls Tryd.prog 247 #[.int .i64 x, .int .i64 y] w fun e w' => e = .returned (.int .i64 0) ∧ w = w' := by
  subst h
  have h2 : ¬ x < x := by omega
  go_enter Tryd.func247, Tryd.ntmps247
  go_wp2_with (go_at_call 260; refine (isNaN_int _ _).mono ?_; rintro e w' ⟨rfl, rfl⟩)
  go_ret
  exact ⟨rfl, rfl⟩

theorem cmpL_neg {a b : List Nat} (h : lexL a b) : cmpL a b = -1 := if_pos h
theorem cmpL_pos {a b : List Nat} (h : lexL b a) : cmpL a b = 1 := by
  unfold cmpL
  rw [if_neg fun k => lexL_irrefl a (lexL_trans k h), if_pos h]
theorem cmpL_zero {a b : List Nat} (h : a = b) : cmpL a b = 0 := by
  subst h
  unfold cmpL
  rw [if_neg (lexL_irrefl a), if_neg (lexL_irrefl a)]
theorem lexL_pre : ∀ {a b : List Nat}, a.length < b.length → a = b.take a.length → lexL a b
  | [], [], h, _ => absurd h (by simp)
  | [], _ :: _, _, _ => trivial
  | _ :: _, [], h, _ => absurd h (by simp)
  | x :: a, y :: b, h, k => by
    simp only [List.length_cons, List.take_succ_cons, List.cons.injEq] at k
    simp only [List.length_cons] at h
    exact .inr ⟨k.1, lexL_pre (by omega) k.2⟩

set_option maxRecDepth 100000 in
set_option maxHeartbeats 2000000 in
theorem slCompare_any (u v : Value) (xs ys : List Nat) (w : World) (hx : Nums w 3 .i64 u (natInts xs)) (hy : Nums w 3 .i64 v (natInts ys)) :
    Calls Tryd.prog 222 #[u, v] w fun e w' => e = .returned (.int .i64 (cmpL xs ys)) ∧ ∃ q, w' = w.drewN q := by
  obtain ⟨p, c, rfl, hp, _, hn, hat⟩ := hx
  obtain ⟨p', c', rfl, hp', _, hn', hat'⟩ := hy
  rw [natInts_length] at hn hn'
  have Hat := Lib.hid hat
  have Hat' := Lib.hid hat'
  clear hat hat'
  simp only [natInts_length] at *
  go_enter Tryd.func222, Tryd.ntmps222
  go_wp2
  go_loopw [11] (fun i wr => ∃ k : Nat, k ≤ xs.length ∧ i = .int .i64 k ∧ k ≤ ys.length ∧ xs.take k = ys.take k ∧ ∃ q, wr = w.drewN q) (fun i _ => xs.length - (intOf i).toNat)
  case atStart => exact ⟨0, Nat.zero_le _, rfl, Nat.zero_le _, by simp, 0, rfl⟩
  case round =>
    obtain ⟨k, hk, rfl, hky, heq, q, rfl⟩ := hrel
    have Heq := Lib.hid heq
    clear heq
    by_cases hlt : k < xs.length
    · obtain ⟨b, o, rfl, hcell⟩ := Hat.out.num (k := k) (by rw [natInts_length]; exact hlt)
      rw [natInts_atL hlt] at hcell
      have e0 : (0 : Int) ≤ (k : Int) := by omega
      have e1 : (k : Int) < (xs.length : Int) := by omega
      have HLT := Lib.hid hlt
      by_cases hlt' : k < ys.length
      · obtain ⟨b', o', rfl, hcell'⟩ := Hat'.out.num (k := k) (by rw [natInts_length]; exact hlt')
        rw [natInts_atL hlt'] at hcell'
        have e2 : (k : Int) < (ys.length : Int) := by omega
        have HLT' := Lib.hid hlt'
        have H1 := Lib.hid (lexL_at k xs ys hlt hlt' Heq.out)
        have H2 := Lib.hid (lexL_at k ys xs hlt' hlt Heq.out.symm)
        generalize hX : xs[k]'hlt = x at hcell
        generalize hY : ys[k]'hlt' = y at hcell'
        have HX := Lib.hid hX
        have HY := Lib.hid hY
        clear hX hY
        rcases Nat.lt_trichotomy x y with h | h | h
        · have hi : (x : Int) < (y : Int) := by omega
          have HL : Hid (lexL xs ys) := Lib.hid ((H1.out (by rw [HX.out, HY.out]; omega)).2 (by rw [HX.out, HY.out]; exact h))
          clear h
          go_wp2_with (go_at_call 247; refine (cmp_less _ _ hi _).mono ?_; rintro e w' ⟨rfl, rfl⟩)
          go_ret
          exact ⟨by rw [cmpL_neg HL.out]; rfl, _, rfl⟩
        · subst h
          go_wp2_with (go_at_call 247; refine (cmp_same _ _ rfl _).mono ?_; rintro e w' ⟨rfl, rfl⟩)
          go_roundw
          case rel => exact ⟨k + 1, by omega, by go_num, by omega, by rw [take_snoc xs k HLT.out, take_snoc ys k HLT'.out, Heq.out]; exact congrArg (fun z => _ ++ [z]) (HX.out.trans HY.out.symm), _, rfl⟩
          case measure => simp [intOf]; omega
        · have hi : (y : Int) < (x : Int) := by omega
          have HL : Hid (lexL ys xs) := Lib.hid ((H2.out (by rw [HX.out, HY.out]; omega)).2 (by rw [HX.out, HY.out]; exact h))
          clear h
          go_wp2_with (go_at_call 247; refine (cmp_more _ _ hi _).mono ?_; rintro e w' ⟨rfl, rfl⟩)
          go_ret
          exact ⟨by rw [cmpL_pos HL.out]; rfl, _, rfl⟩
      · have e2 : (ys.length : Int) ≤ (k : Int) := by omega
        have HL : Hid (lexL ys xs) := Lib.hid (lexL_pre (by omega) (by
          have h := Heq.out
          obtain rfl : k = ys.length := by omega
          rw [List.take_length] at h
          exact h.symm))
        go_wp2
        go_ret
        exact ⟨by rw [cmpL_pos HL.out]; rfl, _, rfl⟩
    · obtain rfl : k = xs.length := by omega
      by_cases hlt' : xs.length < ys.length
      · have e2 : (xs.length : Int) < (ys.length : Int) := by omega
        have HL : Hid (lexL xs ys) := Lib.hid (lexL_pre hlt' (by
          have h := Heq.out
          rwa [List.take_length] at h))
        go_wp2
        go_ret
        exact ⟨by rw [cmpL_neg HL.out]; rfl, _, rfl⟩
      · have e2 : ¬ (xs.length : Int) < (ys.length : Int) := by omega
        have HL : Hid (xs = ys) := Lib.hid (by
          have h := Heq.out
          rw [List.take_length, List.take_of_length_le (by omega)] at h
          exact h)
        go_wp2
        go_ret
        exact ⟨by rw [cmpL_zero HL.out]; rfl, _, rfl⟩


set_option maxRecDepth 100000 in
set_option maxHeartbeats 1000000 in
theorem compareSets_any (s t : Nat) (hs : s < 4294967296) (ht : t < 4294967296) (w : World) (hT : Tab w) :
    Calls Tryd.prog 188 #[.int .u32 s, .int .u32 t] w fun e w' => e = .returned (.int .i64 (cmpL (bitsOf s) (bitsOf t))) ∧ Below w.heap.size w w' ∧ w.drawn ≤ w'.drawn := by
  have HT := Lib.hid hT
  have h1 := bitsOf_length s
  have h2 := bitsOf_length t
  clear hT
  go_enter Tryd.func188, Tryd.ntmps188
  go_wp2_with (first
    | (go_at_call 222; refine (slCompare_any _ _ (bitsOf s) (bitsOf t) _ (HN2.out.below hb3) (numsInt_of _ _ _ _ ho3 (by omega))).mono ?_; rintro e w4 ⟨rfl, q4, rfl⟩)
    | (go_at_call 180; refine (list_anyD _ t rfl ht _ (HT.out.keep hb2)).mono ?_; rintro e w3 ⟨v3, rfl, ho3, hb3, hd3⟩)
    | (go_at_call 180; refine (list_anyD _ s rfl hs _ HT.out).mono ?_; rintro e w2 ⟨v2, rfl, ho2, hb2, hd2⟩; have HN2 := Lib.hid (numsInt_of _ _ _ _ ho2 (by omega)); clear ho2))
  go_ret
  exact ⟨rfl, below_dN (hb2.trans (hb3.mono hb2.size)) _, by show w.drawn ≤ w3.drawn + q4; omega⟩

end Go.Proofs.YtkppbmfliejnmaaDoor
