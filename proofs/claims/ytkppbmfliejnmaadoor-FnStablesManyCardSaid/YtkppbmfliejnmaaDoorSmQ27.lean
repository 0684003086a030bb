/- The draws only grow: what an operation leaves has drawn no less; an append with that word. -/
import Derived.Test.YtkppbmfliejnmaaDoorSmQ2
import Derived.Lib.QuietBelow
import Derived.Test.YtkppbmfliejnmaaDoorSmQ13
import Derived.Test.YtkppbmfliejnmaaDoorSmQ3
import Derived.Deep.RegionHeld3
import Derived.Test.YtkppbmfliejnmaaDoorSmQ15
import Derived.Deep.DeepCutAuto
import Derived.Shelf.SlSortCmp.Whole1
import Derived.Shelf.SlGeneric
import Derived.Test.YtkppbmfliejnmaaDoorProg
import Derived.Shelf.SlSortCmp.NoneTotal
import Derived.Test.YtkppbmfliejnmaaDoorSmQ26
import Derived.Test.YtkppbmfliejnmaaDoorSmQ11
import Derived.Test.YtkppbmfliejnmaaDoorSmQ4
namespace Go.Proofs.YtkppbmfliejnmaaDoor
open Go.RowKit Go.Sort

theorem ask_drawn {α : Type} : ∀ (k : Ask α) (w : World), w.drawn ≤ (w.ask k).2.drawn
  | .done _, w => Nat.le_refl _
  | .ask what range k, w => by
    simp only [World.ask]
    split
    · exact ask_drawn (k 0) w
    · exact Nat.le_trans (Nat.le_succ _) (ask_drawn (k _) { w with drawn := w.drawn + 1 })
theorem sys_drawn (w : World) (c : Sys) : w.drawn ≤ (w.sys c).2.drawn := by
  have h := ask_drawn (Kernel.perform c w.os) w
  simp only [World.sys]
  split
  · exact Nat.le_refl _
  · rename_i heq
    rw [heq] at h
    exact h
theorem viewStore_drawn {P : Program} {w w' : World} {b : Addr} {u : TypeId} {k : Addr} {v : Value} {x : Bool} {l : List Addr} (h : w.viewStore P b u k v x = .ok (w', l)) : w'.drawn = w.drawn := by
  unfold World.viewStore at h
  simp only [bind, Except.bind, pure, Except.pure] at h
  repeat (split at h <;> try (simp at h; done))
  all_goals (try (simp only [Except.ok.injEq, Prod.mk.injEq] at h; obtain ⟨rfl, _⟩ := h; rfl))
theorem farStore_drawn {P : Program} {w w' : World} {k : Addr} {v : Value} {x : Bool} {l : List Addr} (h : w.farStore P k v x = .ok (w', l)) : w'.drawn = w.drawn := by
  unfold World.farStore at h
  split at h
  · split at h
    · rename_i r hr
      obtain ⟨w2, l2⟩ := r
      simp only [Except.ok.injEq, Prod.mk.injEq] at h
      obtain ⟨rfl, rfl⟩ := h
      exact viewStore_drawn hr
    · exact nomatch h
  · exact nomatch h

theorem freeze_drawn (w : World) (a : Addr) (n : Nat) : (w.freeze a n).drawn = w.drawn := by
  unfold World.freeze
  repeat (first | rfl | split)
def okDrawn {α : Type} (w : World) : Result α → Prop
  | .ok _ w' => w.drawn ≤ w'.drawn
  | .halt _ _ => True
theorem okDrawn.le {α : Type} {w v : World} {r : Result α} (h : okDrawn v r) (hw : w.drawn ≤ v.drawn) : okDrawn w r := by
  cases r with
  | ok a x => exact Nat.le_trans hw h
  | halt _ _ => trivial
theorem sem_drawn {α : Type} (P : Program) (s : Sem α) : ∀ w : World, okDrawn w (s.run P w) := by
  induction s with
  | pure a => intro w; exact Nat.le_refl _
  | load m a k ih =>
    intro w
    unfold Sem.run
    split
    · exact ih _ w
    · split
      · exact ih _ w
      · trivial
  | store m a v k ih =>
    intro w
    have main : okDrawn w (match w.cell? a with
        | some _ => if w.frozen? a then .halt (.unsupported (.unsafePointer "a write to bytes that a string shares")) w else k.run P (w.setCell a v)
        | none => match w.farStore P a v (m == .atomic) with
          | .ok (w, _) => k.run P w
          | .error h => .halt h w) := by
      split
      · split
        · trivial
        · exact (ih _).le (Nat.le_refl _)
      · split
        · rename_i heq
          exact (ih _).le (Nat.le_of_eq (farStore_drawn heq).symm)
        · trivial
    cases v <;> first | exact main | (simp only [Sem.run]; trivial)
  | new o k ih => intro w; unfold Sem.run; exact (ih _ _).le (Nat.le_refl _)
  | shape r k ih => intro w; unfold Sem.run; exact ih _ w
  | freeze a n k ih => intro w; unfold Sem.run; exact (ih _).le (Nat.le_of_eq (freeze_drawn w a n).symm)
  | frozen a k ih => intro w; unfold Sem.run; exact ih _ w
  | getObj r k ih =>
    intro w
    unfold Sem.run
    split
    · trivial
    · exact ih _ w
    · trivial
  | setObj r o k ih =>
    intro w
    unfold Sem.run
    split
    · trivial
    · exact ih _
    · trivial
  | choose q k ih =>
    intro w
    unfold Sem.run
    split
    · exact ih _ w
    · exact (ih _ _).le (Nat.le_succ _)
  | sys c k ih => intro w; unfold Sem.run; exact (ih _ _).le (sys_drawn w c)
  | program k ih => intro w; unfold Sem.run; exact ih _ w
  | mark m k ih => intro w; unfold Sem.run; exact ih w
  | halt h => intro w; trivial

/-- 'append(s, x...)' as an arm of the walk: s the call's own, x any slice that reads. -/
theorem wpList_appD {P : Program} {T E : TypeId} {z : Value} {size bytes : Nat} (S : SlTy P T E z size bytes) {w : World} {ops : Array Oper} {rest : List Oper} {o : Oper} {a : Act} {Q : Exit → Act → World → Prop}
    (hgd : o.guard = none) {s x : Operand} (ho : o.op = .call { callee := .builtin .append, args := #[s, x], argTypes := #[T, T] })
    {base : Nat} {v : Value} {n : Nat} {xs : List Value} (hs : a.eval s = v) (hown : w.ownsRow base E size v n xs)
    {u : Value} {m : Nat} {news : List Value} (hx : a.eval x = u) (hu : Sl w E u m news) (hl : news.length = m * size) (h1 : ∀ x ∈ news, x.oneCell' = true)
    (hnm : n + m ≤ 1000000000) (hbase : base ≤ w.heap.size)
    (h : ∀ v' w', w'.ownsRow base E size v' (n + m) (xs ++ news) → w.grownBy w' v.ownBlock → (∀ k, v'.ownBlock = some k → v.ownBlock = some k ∨ w.heap.size ≤ k) → w.drawn ≤ w'.drawn → wpList P ops Q rest (a.put o.dst v') w') :
    wpList P ops Q (o :: rest) a w := by
  refine wpList_plain hgd fun _ hK => ?_
  obtain ⟨v', w', hr, h2, h3, h4⟩ := run_app S w o.type base v n xs hown u m news hu hl h1 hnm hbase
  have hd : w.drawn ≤ w'.drawn := by
    have := sem_drawn P (Builtin.append_ #[T, T] o.type #[v, u]) w
    rw [hr] at this
    exact this
  unfold Oper.wp execOp
  simp only [ho, resolve, invoke, builtin, Sem.run_bind, Sem.run_pure, Result.andThen_ok, List.map_toArray, List.map_cons, List.map_nil, hs, hx, hr]
  exact hK _ _ (h v' w' h2 h3 h4 hd)

/-- 'append(s, x)' of one element of one cell: x lies in the block that was just laid. -/
theorem wpList_app1D {P : Program} {T E : TypeId} {z : Value} {bytes : Nat} (S : SlTy P T E z 1 bytes) {w : World} {ops : Array Oper} {rest : List Oper} {o : Oper} {a : Act} {Q : Exit → Act → World → Prop}
    (hgd : o.guard = none) {s x : Operand} (ho : o.op = .call { callee := .builtin .append, args := #[s, x], argTypes := #[T, T] })
    {base : Nat} {v : Value} {n : Nat} {xs : List Value} {el : Value} (hs : a.eval s = v) (hown : w.ownsRow base E 1 v n xs)
    (hx : a.eval x = .slice (some ⟨w.heap.size, 0, none⟩) 1 1) (h1 : el.oneCell' = true)
    (hnm : n < 1000000000) (hbase : base ≤ w.heap.size)
    (h : ∀ v' w', w'.ownsRow base E 1 v' (n + 1) (xs ++ [el]) → w.grownBy w' v.ownBlock → (∀ k, v'.ownBlock = some k → v.ownBlock = some k ∨ w.heap.size < k) → w.drawn ≤ w'.drawn → wpList P ops Q rest (a.put o.dst v') w') :
    wpList P ops Q (o :: rest) a (w.alloc (.cells #[el] E)) := by
  have hal : (w.alloc (.cells #[el] E)).heap.size = w.heap.size + 1 := by show (w.heap.push _).size = _; simp
  refine wpList_appD S (w := w.alloc (.cells #[el] E)) (m := 1) (news := [el]) hgd ho hs (hown.alloc _) hx ⟨_, 1, rfl, (fun e => by cases e), Nat.le_refl _, by omega, Or.inr ⟨w.heap.size, 0, #[el], (0, 0), rfl, heap_alloc_new w _, ?_⟩⟩ (by simp) (by simpa using h1) (by omega) (by omega) fun v' w' h2 h3 h4 h5 => h v' w' h2 ?_ (fun k hk => ?_) h5
  · intro j u hu
    match j, hu with
    | 0, hu => simpa using hu
    | j + 1, hu => simp at hu
  · exact ⟨h3.os, h3.tape, h3.output, by have := h3.size; omega, fun k hk hne => (h3.block k (by omega) hne).trans (Below.heap_alloc w _ k hk)⟩
  · rcases h4 k hk with h5 | h5
    · exact .inl h5
    · exact .inr (by omega)

end Go.Proofs.YtkppbmfliejnmaaDoor

/- Walks: the order of sets (compareSets), with the word that the draws only grow. -/
namespace Go.Proofs.YtkppbmfliejnmaaDoor
open Go.RowKit Go.Sort

set_option maxRecDepth 100000 in
set_option maxHeartbeats 1000000 in
theorem list_anyD (y : Int) (s : Nat) (hy : y = s) (hs : s < 4294967296) (w : World) (hT : Tab w) :
    Calls Tryd.prog 180 #[.int .u32 y] w fun e w' => ∃ v, e = .returned v ∧
      w'.ownsRow w.heap.size 3 1 v (bitsOf s).length ((natInts (bitsOf s)).map (Value.int .i64)) ∧ Below w.heap.size w w' ∧ w.drawn ≤ w'.drawn := by
  subst hy
  have hpos := hT.pos
  go_enter Tryd.func180, Tryd.ntmps180
  go_wp2
  go_loopw [0, 3] (fun x v wr => ∃ (r : Nat) (d : List Nat), x = .int .u32 r ∧ r < 4294967296 ∧ d ++ bitsOf r = bitsOf s ∧ wr.ownsRow w.heap.size 3 1 v d.length ((natInts d).map (Value.int .i64)) ∧ Below w.heap.size w wr ∧ w.drawn ≤ wr.drawn)
    (fun x _ _ => (bitsOf (intOf x).toNat).length)
  case atStart => exact ⟨s, [], rfl, hs, rfl, ownsRow_empty _ _ _, below_alloc _ _, Nat.le_refl _⟩
  case round =>
    obtain ⟨r, d, rfl, hr, hd, hown, hbel, hdr⟩ := hrel
    by_cases h0 : r = 0
    · subst h0
      rw [bitsOf_zero, List.append_nil] at hd
      subst hd
      go_wp2
      go_ret
      exact ⟨_, rfl, hown, hbel, hdr⟩
    · have h0' : ((r : Int) != 0) = true := by simp; omega
      have hTr : Tab wr := hT.below hbel hpos
      have hsz := hbel.size
      have hstep := Lib.hid (bitsOf_step r h0 hr)
      have hlow := Lib.hid (drop_low r hr h0)
      have hlen : d.length < 1000000000 := by
        have h1 := bitsOf_length s
        rw [← hd, List.length_append] at h1
        omega
      have Hd := Lib.hid hd
      clear hd
      go_wp2_with (first
        | (go_at_call 185; refine (least_any _ r rfl h0 hr _ hTr).mono ?_; rintro e w' ⟨rfl, rfl⟩)
        | (at_builtin; refine wpList_app1D ty_int rfl rfl rfl hown rfl rfl hlen hsz ?_; intro v' w1 hown' hg _ hdr1))
      go_roundw
      case rel =>
        refine ⟨r &&& (r - 1), d ++ [Lib.ctz 32 r], val_int hlow.out, and_lt32 _ _ hr, ?_, ?_, below_grown hbel hown hg (Nat.le_refl _) hsz, Nat.le_trans hdr hdr1⟩
        · rw [List.append_assoc, List.singleton_append, ← hstep.out]; exact Hd.out
        · simpa [natInts] using hown'
      case measure =>
        rw [hlow.out]
        simp [intOf, hstep.out]

end Go.Proofs.YtkppbmfliejnmaaDoor

/- Walks: slices.Compare at numbers; compareSets. -/
namespace Go.Proofs.YtkppbmfliejnmaaDoor
open Go.RowKit Go.Sort

set_option maxHeartbeats 400000 in
theorem isNaN_int (x : Int) (w : World) : Calls Tryd.prog 260 #[.int .i64 x] w fun e w' => e = .returned (.bool false) ∧ w = w' := by
  go_enter Tryd.func260, Tryd.ntmps260
  go_wp2
  go_ret
  exact ⟨ret_bool (by simp), rfl⟩
set_option maxHeartbeats 400000 in
theorem cmp_less (x y : Int) (h : x < y) (w : World) : Calls Tryd.prog 247 #[.int .i64 x, .int .i64 y] w fun e w' => e = .returned (.int .i64 (-1)) ∧ w = w' := by
  go_enter Tryd.func247, Tryd.ntmps247
  go_wp2_with (go_at_call 260; refine (isNaN_int _ _).mono ?_; rintro e w' ⟨rfl, rfl⟩)
  go_ret
  exact ⟨rfl, rfl⟩
set_option maxHeartbeats 400000 in
theorem cmp_more (x y : Int) (h : y < x) (w : World) : Calls Tryd.prog 247 #[.int .i64 x, .int .i64 y] w fun e w' => e = .returned (.int .i64 1) ∧ w = w' := by
  have h2 : ¬ x < y := by omega
  go_enter Tryd.func247, Tryd.ntmps247
  go_wp2_with (go_at_call 260; refine (isNaN_int _ _).mono ?_; rintro e w' ⟨rfl, rfl⟩)
  go_ret
  exact ⟨rfl, rfl⟩
set_option maxHeartbeats 400000 in
theorem cmp_same (x y : Int) (h : x = y) (w : World) : Calls Tryd.prog 247 #[.int .i64 x, .int .i64 y] w fun e w' => e = .returned (.int .i64 0) ∧ w = w' := by
  subst h
  have h2 : ¬ x < x := by omega
  go_enter Tryd.func247, Tryd.ntmps247
  go_wp2_with (go_at_call 260; refine (isNaN_int _ _).mono ?_; rintro e w' ⟨rfl, rfl⟩)
  go_ret
  exact ⟨rfl, rfl⟩

theorem cmpL_neg {a b : List Nat} (h : lexL a b) : cmpL a b = -1 := if_pos h
theorem cmpL_pos {a b : List Nat} (h : lexL b a) : cmpL a b = 1 := by
  unfold cmpL
  rw [if_neg fun k => lexL_irrefl a (lexL_trans k h), if_pos h]
theorem cmpL_zero {a b : List Nat} (h : a = b) : cmpL a b = 0 := by
  subst h
  unfold cmpL
  rw [if_neg (lexL_irrefl a), if_neg (lexL_irrefl a)]
theorem lexL_pre : ∀ {a b : List Nat}, a.length < b.length → a = b.take a.length → lexL a b
  | [], [], h, _ => absurd h (by simp)
  | [], _ :: _, _, _ => trivial
  | _ :: _, [], h, _ => absurd h (by simp)
  | x :: a, y :: b, h, k => by
    simp only [List.length_cons, List.take_succ_cons, List.cons.injEq] at k
    simp only [List.length_cons] at h
    exact .inr ⟨k.1, lexL_pre (by omega) k.2⟩

set_option maxRecDepth 100000 in
set_option maxHeartbeats 2000000 in
theorem slCompare_any (u v : Value) (xs ys : List Nat) (w : World) (hx : Nums w 3 .i64 u (natInts xs)) (hy : Nums w 3 .i64 v (natInts ys)) :
    Calls Tryd.prog 222 #[u, v] w fun e w' => e = .returned (.int .i64 (cmpL xs ys)) ∧ ∃ q, w' = w.drewN q := by
  obtain ⟨p, c, rfl, hp, _, hn, hat⟩ := hx
  obtain ⟨p', c', rfl, hp', _, hn', hat'⟩ := hy
  rw [natInts_length] at hn hn'
  have Hat := Lib.hid hat
  have Hat' := Lib.hid hat'
  clear hat hat'
  simp only [natInts_length] at *
  go_enter Tryd.func222, Tryd.ntmps222
  go_wp2
  go_loopw [11] (fun i wr => ∃ k : Nat, k ≤ xs.length ∧ i = .int .i64 k ∧ k ≤ ys.length ∧ xs.take k = ys.take k ∧ ∃ q, wr = w.drewN q) (fun i _ => xs.length - (intOf i).toNat)
  case atStart => exact ⟨0, Nat.zero_le _, rfl, Nat.zero_le _, by simp, 0, rfl⟩
  case round =>
    obtain ⟨k, hk, rfl, hky, heq, q, rfl⟩ := hrel
    have Heq := Lib.hid heq
    clear heq
    by_cases hlt : k < xs.length
    · obtain ⟨b, o, rfl, hcell⟩ := Hat.out.num (k := k) (by rw [natInts_length]; exact hlt)
      rw [natInts_atL hlt] at hcell
      have e0 : (0 : Int) ≤ (k : Int) := by omega
      have e1 : (k : Int) < (xs.length : Int) := by omega
      have HLT := Lib.hid hlt
      by_cases hlt' : k < ys.length
      · obtain ⟨b', o', rfl, hcell'⟩ := Hat'.out.num (k := k) (by rw [natInts_length]; exact hlt')
        rw [natInts_atL hlt'] at hcell'
        have e2 : (k : Int) < (ys.length : Int) := by omega
        have HLT' := Lib.hid hlt'
        have H1 := Lib.hid (lexL_at k xs ys hlt hlt' Heq.out)
        have H2 := Lib.hid (lexL_at k ys xs hlt' hlt Heq.out.symm)
        generalize hX : xs[k]'hlt = x at hcell
        generalize hY : ys[k]'hlt' = y at hcell'
        have HX := Lib.hid hX
        have HY := Lib.hid hY
        clear hX hY
        rcases Nat.lt_trichotomy x y with h | h | h
        · have hi : (x : Int) < (y : Int) := by omega
          have HL : Hid (lexL xs ys) := Lib.hid ((H1.out (by rw [HX.out, HY.out]; omega)).2 (by rw [HX.out, HY.out]; exact h))
          clear h
          go_wp2_with (go_at_call 247; refine (cmp_less _ _ hi _).mono ?_; rintro e w' ⟨rfl, rfl⟩)
          go_ret
          exact ⟨by rw [cmpL_neg HL.out]; rfl, _, rfl⟩
        · subst h
          go_wp2_with (go_at_call 247; refine (cmp_same _ _ rfl _).mono ?_; rintro e w' ⟨rfl, rfl⟩)
          go_roundw
          case rel => exact ⟨k + 1, by omega, by go_num, by omega, by rw [take_snoc xs k HLT.out, take_snoc ys k HLT'.out, Heq.out]; exact congrArg (fun z => _ ++ [z]) (HX.out.trans HY.out.symm), _, rfl⟩
          case measure => simp [intOf]; omega
        · have hi : (y : Int) < (x : Int) := by omega
          have HL : Hid (lexL ys xs) := Lib.hid ((H2.out (by rw [HX.out, HY.out]; omega)).2 (by rw [HX.out, HY.out]; exact h))
          clear h
          go_wp2_with (go_at_call 247; refine (cmp_more _ _ hi _).mono ?_; rintro e w' ⟨rfl, rfl⟩)
          go_ret
          exact ⟨by rw [cmpL_pos HL.out]; rfl, _, rfl⟩
      · have e2 : (ys.length : Int) ≤ (k : Int) := by omega
        have HL : Hid (lexL ys xs) := Lib.hid (lexL_pre (by omega) (by
          have h := Heq.out
          obtain rfl : k = ys.length := by omega
          rw [List.take_length] at h
          exact h.symm))
        go_wp2
        go_ret
        exact ⟨by rw [cmpL_pos HL.out]; rfl, _, rfl⟩
    · obtain rfl : k = xs.length := by omega
      by_cases hlt' : xs.length < ys.length
      · have e2 : (xs.length : Int) < (ys.length : Int) := by omega
        have HL : Hid (lexL xs ys) := Lib.hid (lexL_pre hlt' (by
          have h := Heq.out
          rwa [List.take_length] at h))
        go_wp2
        go_ret
        exact ⟨by rw [cmpL_neg HL.out]; rfl, _, rfl⟩
      · have e2 : ¬ (xs.length : Int) < (ys.length : Int) := by omega
        have HL : Hid (xs = ys) := Lib.hid (by
          have h := Heq.out
          rw [List.take_length, List.take_of_length_le (by omega)] at h
          exact h)
        go_wp2
        go_ret
        exact ⟨by rw [cmpL_zero HL.out]; rfl, _, rfl⟩


set_option maxRecDepth 100000 in
set_option maxHeartbeats 1000000 in
theorem compareSets_any (s t : Nat) (hs : s < 4294967296) (ht : t < 4294967296) (w : World) (hT : Tab w) :
    Calls Tryd.prog 188 #[.int .u32 s, .int .u32 t] w fun e w' => e = .returned (.int .i64 (cmpL (bitsOf s) (bitsOf t))) ∧ Below w.heap.size w w' ∧ w.drawn ≤ w'.drawn := by
  have HT := Lib.hid hT
  have h1 := bitsOf_length s
  have h2 := bitsOf_length t
  clear hT
  go_enter Tryd.func188, Tryd.ntmps188
  go_wp2_with (first
    | (go_at_call 222; refine (slCompare_any _ _ (bitsOf s) (bitsOf t) _ (HN2.out.below hb3) (numsInt_of _ _ _ _ ho3 (by omega))).mono ?_; rintro e w4 ⟨rfl, q4, rfl⟩)
    | (go_at_call 180; refine (list_anyD _ t rfl ht _ (HT.out.keep hb2)).mono ?_; rintro e w3 ⟨v3, rfl, ho3, hb3, hd3⟩)
    | (go_at_call 180; refine (list_anyD _ s rfl hs _ HT.out).mono ?_; rintro e w2 ⟨v2, rfl, ho2, hb2, hd2⟩; have HN2 := Lib.hid (numsInt_of _ _ _ _ ho2 (by omega)); clear ho2))
  go_ret
  exact ⟨rfl, below_dN (hb2.trans (hb3.mono hb2.size)) _, by show w.drawn ≤ w3.drawn + q4; omega⟩

end Go.Proofs.YtkppbmfliejnmaaDoor

/- The library's SortFunc at sets: its functions' bodies as they lie in this program. -/
namespace Go.Proofs.YtkppbmfliejnmaaDoor
open Go.Shelf

def sortF_ren : Go.Shelf.Ren := ⟨fun | 6 => 111 | 15 => 190 | 14 => 189 | 28 => 231 | 29 => 232 | 20 => 223 | 21 => 224 | 22 => 225 | 23 => 226 | 24 => 227 | 25 => 228 | 26 => 229 | 27 => 230 | 46 => 248 | 47 => 249 | 48 => 250 | 49 => 251 | 50 => 252 | 57 => 261 | n => n, fun | 22 => 72 | 24 => 70 | 25 => 90 | 3 => 3 | 39 => 83 | 0 => 0 | 53 => 69 | 55 => 26 | 4 => 4 | 46 => 172 | 45 => 171 | 50 => 176 | 5 => 5 | 9 => 9 | 66 => 189 | 70 => 193 | 76 => 198 | 77 => 199 | n => n, fun | n => n⟩
theorem sortF : Go.Proofs.SlLaysF.n6 Tryd.prog sortF_ren := {
  mixed := by kernel_rfl,
  f6 := ⟨Tryd.f111.name, by decide, Tryd.func111.trans (congrArg some (by kernel_rfl))⟩,
  f14 := ⟨Tryd.f189.name, by decide, Tryd.func189.trans (congrArg some (by kernel_rfl))⟩,
  f15 := Tryd.func190.trans (congrArg some (by kernel_rfl)),
  f20 := ⟨Tryd.f223.name, by decide, Tryd.func223.trans (congrArg some (by kernel_rfl))⟩,
  f21 := ⟨Tryd.f224.name, by decide, Tryd.func224.trans (congrArg some (by kernel_rfl))⟩,
  f22 := ⟨Tryd.f225.name, by decide, Tryd.func225.trans (congrArg some (by kernel_rfl))⟩,
  f23 := ⟨Tryd.f226.name, by decide, Tryd.func226.trans (congrArg some (by kernel_rfl))⟩,
  f24 := ⟨Tryd.f227.name, by decide, Tryd.func227.trans (congrArg some (by kernel_rfl))⟩,
  f25 := ⟨Tryd.f228.name, by decide, Tryd.func228.trans (congrArg some (by kernel_rfl))⟩,
  f26 := ⟨Tryd.f229.name, by decide, Tryd.func229.trans (congrArg some (by kernel_rfl))⟩,
  f27 := ⟨Tryd.f230.name, by decide, Tryd.func230.trans (congrArg some (by kernel_rfl))⟩,
  f28 := Tryd.func231.trans (congrArg some (by kernel_rfl)),
  f29 := Tryd.func232.trans (congrArg some (by kernel_rfl)),
  f46 := ⟨Tryd.f248.name, by decide, Tryd.func248.trans (congrArg some (by kernel_rfl))⟩,
  f47 := Tryd.func249.trans (congrArg some (by kernel_rfl)),
  f48 := Tryd.func250.trans (congrArg some (by kernel_rfl)),
  f49 := ⟨Tryd.f251.name, by decide, Tryd.func251.trans (congrArg some (by kernel_rfl))⟩,
  f50 := ⟨Tryd.f252.name, by decide, Tryd.func252.trans (congrArg some (by kernel_rfl))⟩,
  f57 := ⟨Tryd.f261.name, by decide, Tryd.func261.trans (congrArg some (by kernel_rfl))⟩,
  t0 := Tryd.underlying0,
  a0 := Tryd.isAgg0,
  z0 := Tryd.sizeOf0,
  v0 := Tryd.zeroValue0,
  t3 := Tryd.underlying3,
  a3 := Tryd.isAgg3,
  z3 := Tryd.sizeOf3,
  v3 := Tryd.zeroValue3,
  t4 := Tryd.underlying4,
  a4 := Tryd.isAgg4,
  z4 := Tryd.sizeOf4,
  v4 := Tryd.zeroValue4,
  t5 := Tryd.underlying5,
  a5 := Tryd.isAgg5,
  z5 := Tryd.sizeOf5,
  v5 := Tryd.zeroValue5,
  t9 := Tryd.underlying9,
  a9 := Tryd.isAgg9,
  z9 := Tryd.sizeOf9,
  v9 := Tryd.zeroValue9,
  t22 := Tryd.underlying72,
  a22 := Tryd.isAgg72,
  z22 := Tryd.sizeOf72,
  v22 := Tryd.zeroValue72,
  a24 := Tryd.isAgg70,
  z24 := Tryd.sizeOf70,
  t25 := Tryd.underlying90,
  a25 := Tryd.isAgg90,
  z25 := Tryd.sizeOf90,
  v25 := Tryd.zeroValue90,
  t39 := Tryd.underlying83,
  a39 := Tryd.isAgg83,
  z39 := Tryd.sizeOf83,
  v39 := Tryd.zeroValue83,
  t45 := Tryd.underlying171,
  a45 := Tryd.isAgg171,
  z45 := Tryd.sizeOf171,
  v45 := Tryd.zeroValue171,
  t46 := Tryd.underlying172,
  a46 := Tryd.isAgg172,
  z46 := Tryd.sizeOf172,
  v46 := Tryd.zeroValue172,
  t50 := Tryd.underlying176,
  a50 := Tryd.isAgg176,
  z50 := Tryd.sizeOf176,
  v50 := Tryd.zeroValue176,
  t53 := Tryd.underlying69,
  a53 := Tryd.isAgg69,
  z53 := Tryd.sizeOf69,
  v53 := Tryd.zeroValue69,
  t55 := Tryd.underlying26,
  a55 := Tryd.isAgg26,
  z55 := Tryd.sizeOf26,
  v55 := Tryd.zeroValue26,
  t66 := Tryd.underlying189,
  a66 := Tryd.isAgg189,
  z66 := Tryd.sizeOf189,
  v66 := Tryd.zeroValue189,
  t70 := Tryd.underlying193,
  a70 := Tryd.isAgg193,
  z70 := Tryd.sizeOf193,
  v70 := Tryd.zeroValue193,
  t76 := Tryd.underlying198,
  a76 := Tryd.isAgg198,
  z76 := Tryd.sizeOf198,
  v76 := Tryd.zeroValue198,
  t77 := Tryd.underlying199,
  a77 := Tryd.isAgg199,
  z77 := Tryd.sizeOf199,
  v77 := Tryd.zeroValue199 }

end Go.Proofs.YtkppbmfliejnmaaDoor

/- Walks: slices.SortFunc over a row of sets, under an order that parts any two. -/
namespace Go.Proofs.YtkppbmfliejnmaaDoor
open Go.Shelf Go.RowKit Go.Lib Go.Sort

/-- A set of 16 as a value. -/
def encF (x : Fin 65536) : Value := .int .u32 (x.val : Int)
theorem holds_of_block_f {w : World} {g : Nat} {cur : Array Value} {e : TypeId} {l : List (Fin 65536)} (hb : w.heap[g]? = some (.cells cur e (0, 0))) (ht : cur.toList.take l.length = l.map encF) : Holds encF w g 0 l.toArray := by
  intro j hj
  have hj' : j < l.length := by simpa using hj
  refine ⟨?_, by simp [World.frozen?, hb]⟩
  have h1 : (cur.toList.take l.length)[j]? = (l.map encF)[j]? := by rw [ht]
  rw [List.getElem?_take_of_lt hj'] at h1
  simp only [World.cell?, hb, Nat.zero_add]
  simp only [Option.isSome_none, Bool.false_eq_true, if_false]
  rw [← Array.getElem?_toList, h1]
  simp [hj']
theorem heap_sorted_f {w : World} {g n : Nat} {os : Array Obj} {cur : Array Value} {e : TypeId} {fr : Nat × Nat} (d : Array (Fin 65536)) (hb : w.heap[g]? = some (.cells cur e fr)) :
    (sortWorld encF w g 0 n d os).heap[g]? = some (.cells (putCells encF 0 d cur) e fr) := by
  have hg : g < w.heap.size := (Array.getElem?_eq_some_iff.1 hb).1
  unfold sortWorld
  rw [heap_grow_old _ _ (by simpa using hg)]
  simp [putRow, mapBlock, Sort.ahead, Array.getElem?_modify, hb, onCells]
theorem grownBy_sorted_f {w : World} {g n : Nat} {os : Array Obj} (d : Array (Fin 65536)) : w.grownBy (sortWorld encF w g 0 n d os) (some g) := by
  unfold sortWorld
  refine ⟨rfl, rfl, rfl, by simp, fun k hk hne => ?_⟩
  rw [heap_grow_old _ _ (by simpa using hk)]
  have : g ≠ k := fun e => hne (by rw [e])
  simp [putRow, mapBlock, Sort.ahead, Array.getElem?_modify, this]
theorem take_putCells_f (cur : Array Value) (ts : List (Fin 65536)) (h : ts.length ≤ cur.size) : (putCells encF 0 ts.toArray cur).toList.take ts.length = ts.map encF := by
  apply List.ext_getElem?
  intro j
  by_cases hj : j < ts.length
  · rw [List.getElem?_take_of_lt hj, Array.getElem?_toList]
    simp [putCells, hj, show j < cur.size by omega]
  · rw [List.getElem?_take_eq_none (by omega), List.getElem?_eq_none (by simp; omega)]
theorem ownsRow_sorted_f {w : World} {base g cap n : Nat} {e : TypeId} {os : Array Obj} {cur : Array Value} {ss ts : List (Fin 65536)} (hl : ts.length = ss.length) (hbase : base ≤ g) (hb : w.heap[g]? = some (.cells cur e (0, 0)))
    (h1 : ss.length ≤ cap) (h2 : cap ≤ maxLen) (h3 : cur.size = cap * 1) :
    (sortWorld encF w g 0 n ts.toArray os).ownsRow base e 1 (.slice (some ⟨g, 0, none⟩) ss.length cap) ss.length (ts.map encF) :=
  ⟨by simp [hl], .inr ⟨g, cap, _, rfl, hbase, heap_sorted_f _ hb, h1, h2, by simp [putCells, h3], by rw [Nat.mul_one, ← hl]; exact take_putCells_f cur ts (by omega)⟩⟩

/-- What is laid behind a world, and drawn, since it only grows. -/
theorem grow_of_below {w w' : World} (h : Below w.heap.size w w') (hd : w.drawn ≤ w'.drawn) : ∃ q os, w' = grow (w.drewN q) os := by
  obtain ⟨p, hp⟩ := regrown_of_below h
  subst hp
  have hd' : w.drawn ≤ p.d := hd
  refine ⟨p.d - w.drawn, p.os, ?_⟩
  have e : redrawn w p.d = w.drewN (p.d - w.drawn) := by
    unfold redrawn World.drewN
    rw [Nat.add_sub_cancel' hd']
  rw [e]
/-- What is asked of a comparison. -/
def CmpOk (f : FuncId) (cf : Fin 65536 → Fin 65536 → Int) : Prop :=
  ∀ (x y : Fin 65536) (W : World), Tab W → Calls Tryd.prog f #[encF x, encF y] W fun e w' => e = .returned (.int .i64 (cf x y)) ∧ Below W.heap.size W w' ∧ W.drawn ≤ w'.drawn
theorem CmpOk.lays {f : FuncId} {cf : Fin 65536 → Fin 65536 → Int} (h : CmpOk f cf) {blk size : Nat} {w : World} (hT : Tab w) (hne : 0 ≠ blk) : CmpLays1 Tryd.prog f #[] encF cf blk 0 size w := fun m os dk _ x y => by
  have hTW : Tab (sortWorld encF w blk 0 m dk os) := fun j hj => by
    unfold sortWorld
    have hl := World.block_lt_of_cell? w _ (hT j hj)
    rw [cell?_grow _ _ _ (by simpa using hl), cell?_putRow_other _ _ _ _ _ _ (.inl hne)]
    exact hT j hj
  refine (h x y _ hTW).mono fun e w' ⟨h1, h2, h3⟩ => ⟨h1, grow_of_below h2 h3⟩

set_option maxRecDepth 100000 in
theorem sortF_any (f : FuncId) (eg : ∀ args w, (callFunc f args).run Tryd.prog w = .ok (.enter f args) w) (cf : Fin 65536 → Fin 65536 → Int) (hO : SWO (ltOf cf)) (hT : ∀ x y, (ltOf cf) x y = false → (ltOf cf) y x = false → x = y) (hC : CmpOk f cf)
    (v : Value) (l : List (Fin 65536)) (base : Nat) (w : World) (hown : w.ownsRow base 70 1 v l.length (l.map encF)) (hTab : Tab w) (hb : 0 < base) (hl : l.length ≤ 1000000000) :
    Calls Tryd.prog 111 #[v, .func (.func f) #[] #[]] w fun e w' => e = .returned (.tuple #[]) ∧ w'.ownsRow base 70 1 v l.length ((l.mergeSort fun x y => !(ltOf cf) y x).map encF) ∧ w.grownBy w' v.ownBlock := by
  rcases id hown.2 with ⟨rfl, hz0⟩ | ⟨gb, cap, cur, rfl, hbase, hgb, r1, r2, r3, r4⟩
  · obtain rfl := List.eq_nil_of_length_eq_zero hz0
    have hc := AnyF.slices_SortFunc_none (P := Tryd.prog) (ρ := sortF_ren) { sortF with } none 0 (.func (.func f) #[] #[]) w
    refine Calls.mono hc ?_
    rintro e w3 ⟨rfl, rfl⟩
    exact ⟨rfl, by simpa using hown, World.grownBy.refl _ _⟩
  · have hH : Holds encF w gb 0 l.toArray := holds_of_block_f hgb (by simpa using r4)
    have hgl : gb < w.heap.size := (Array.getElem?_eq_some_iff.1 hgb).1
    have hc := Any.slices_SortFunc_total sortF encF (fun _ => rfl) cf hO f #[] gb 0 cap l.toArray w eg (hC.lays hTab (by omega)) hH hgl (by simp; omega) hT
    have hs : l.toArray.size = l.length := by simp
    rw [hs] at hc
    refine hc.mono ?_
    rintro e w3 ⟨rfl, nn, os, rfl⟩
    exact ⟨rfl, ownsRow_sorted_f (by simp) hbase hgb r1 r2 r3, grownBy_sorted_f _⟩

end Go.Proofs.YtkppbmfliejnmaaDoor

/- Walks: cliquesOf and CliquesOf of the program. -/
namespace Go.Proofs.YtkppbmfliejnmaaDoor
open Go.RowKit Go.Sort

noncomputable def cmpF (x y : Fin 65536) : Int := cmpL (bitsOf x.val) (bitsOf y.val)
theorem ltF {x y : Fin 65536} : ltOf cmpF x y = true ↔ lexL (bitsOf x.val) (bitsOf y.val) := by
  unfold ltOf cmpF
  rw [decide_eq_true_iff, cmpL_lt]
theorem ltF_no {x y : Fin 65536} : ltOf cmpF x y = false ↔ ¬ lexL (bitsOf x.val) (bitsOf y.val) := by
  rw [← ltF]
  simp
theorem swoF : SWO (ltOf cmpF) where
  irrefl x := ltF_no.2 (lexL_irrefl _)
  trans x y z h1 h2 := ltF.2 (lexL_trans (ltF.1 h1) (ltF.1 h2))
  ntrans x y z h1 h2 := by
    rw [ltF_no] at *
    intro h
    by_cases hyx : lexL (bitsOf y.val) (bitsOf x.val)
    · exact h2 (lexL_trans hyx h)
    · rw [lexL_tri _ _ h1 hyx] at h
      exact h2 h
theorem totF (x y : Fin 65536) (h1 : ltOf cmpF x y = false) (h2 : ltOf cmpF y x = false) : x = y := by
  have e := lexL_tri _ _ (ltF_no.1 h1) (ltF_no.1 h2)
  have := congrArg (fun l => mask (natInts l)) e
  simp only [mask_bitsOf x.isLt, mask_bitsOf y.isLt] at this
  exact Fin.ext this
theorem cmpOkF : CmpOk 188 cmpF := fun x y W hT =>
  compareSets_any x.val y.val (by have := x.isLt; omega) (by have := y.isLt; omega) W hT
def toF (L : List (List Nat)) : List (Fin 65536) := L.map fun l => ⟨mask (natInts l) % 65536, Nat.mod_lt _ (by decide)⟩
theorem toF_enc {L : List (List Nat)} (h : ∀ l ∈ L, mask (natInts l) < 65536) : (toF L).map encF = mskV L := by
  unfold toF mskV mskC
  rw [List.map_map, List.map_map]
  refine List.map_congr_left fun l hl => ?_
  simp only [Function.comp, encF, u32v, Nat.mod_eq_of_lt (h l hl)]
theorem toF_sort {L : List (List Nat)} (h : ∀ l ∈ L, l.Pairwise (· < ·) ∧ ∀ y ∈ l, y < 16) (hs : L.Pairwise lexL) : (toF L).mergeSort (fun x y => !ltOf cmpF y x) = toF L := by
  refine List.mergeSort_of_pairwise ?_
  unfold toF
  rw [List.pairwise_map]
  refine List.Pairwise.imp_of_mem (fun {a b} ha hb hab => ?_) hs
  have ea : bitsOf (mask (natInts a) % 65536) = a := by rw [Nat.mod_eq_of_lt (mask_nat_lt16 (h a ha).2)]; exact bitsOf_maskN (h a ha).1 (h a ha).2
  have eb : bitsOf (mask (natInts b) % 65536) = b := by rw [Nat.mod_eq_of_lt (mask_nat_lt16 (h b hb).2)]; exact bitsOf_maskN (h b hb).1 (h b hb).2
  have hn : ltOf cmpF ⟨mask (natInts b) % 65536, Nat.mod_lt _ (by decide)⟩ ⟨mask (natInts a) % 65536, Nat.mod_lt _ (by decide)⟩ = false := by
    rw [ltF_no]
    show ¬ lexL (bitsOf (mask (natInts b) % 65536)) (bitsOf (mask (natInts a) % 65536))
    rw [ea, eb]
    exact fun k => lexL_irrefl _ (lexL_trans hab k)
  simp [hn]
theorem bits_allC {n : Nat} (hn : n ≤ 16) : 2 ^ n - 1 < 65536 ∧ List.range n = bitsOf (2 ^ n - 1) := by
  have h16 : 2 ^ n - 1 < 65536 := by
    have : 2 ^ n ≤ 2 ^ 16 := Nat.pow_le_pow_right (by decide) hn
    have h2 : (2 : Nat) ^ 16 = 65536 := by decide
    have : 0 < 2 ^ n := Nat.two_pow_pos n
    omega
  refine ⟨h16, rising_ext _ _ List.pairwise_lt_range (bitsOf_rising _) fun i => ?_⟩
  rw [mem_bitsOf' (by omega), testBit_firstOf]
  simp

set_option maxRecDepth 100000 in
set_option maxHeartbeats 2000000 in
theorem cliquesOf_any (g : List (List Int)) (xp : Option Addr) (xc : Nat) (w : World) (hB : ClBase w g xp xc) :
    Calls Tryd.prog 110 #[.slice xp g.length xc] w fun e w' => ∃ v, e = .returned v ∧ w'.ownsRow w.heap.size 70 1 v (clsP g.length (adG g)).length (mskV (clsP g.length (adG g))) ∧ Below w.heap.size w w' := by
  have HB := Lib.hid hB
  have h16 := hB.ok.le
  obtain ⟨hM16, hMl⟩ := bits_allC h16
  obtain ⟨M, hM⟩ : ∃ M, M = 2 ^ g.length - 1 := ⟨_, rfl⟩
  rw [← hM] at hM16 hMl
  have HM := Lib.hid hM
  have HMl := Lib.hid hMl
  have hin : Hid (∀ l ∈ clsP g.length (adG g), l.Pairwise (· < ·) ∧ ∀ y ∈ l, y < 16) := Lib.hid (fun l hl => ⟨(clsP_mem hl).1, fun y hy => by have := (clsP_mem hl).2 y hy; omega⟩)
  have hpl : Hid ((clsP g.length (adG g)).length ≤ 65536) := Lib.hid (Nat.le_trans (clsP_len _ _) (Nat.le_trans (Nat.pow_le_pow_right (by decide) h16) (by decide)))
  have G1 : Hid (Calls Tryd.prog 187 #[.slice xp g.length xc, .int .u32 0, .int .u32 (M : Int), .int .u32 0, .slice none 0 0] w fun e w' => ClR w (clsP g.length (adG g)) w (.slice none 0 0) e w') := Lib.hid (by
    have := growCliques_any g xp xc w HB.out (g.length + 1) [] (List.range g.length) [] 0 M 0 0 M 0 rfl rfl rfl (by decide) hM16 (by decide) (fun j => by simp) HMl.out (fun j hj => List.mem_range.1 hj) (fun j => by simp) (by rw [List.length_range]; omega) w (.slice none 0 0) [] (Below.refl _ _) (World.ownsRow_nil _ _ _ _) (by
      rw [List.length_range]
      have := Nat.pow_le_pow_right (show 0 < 2 by decide) h16
      simp
      omega)
    simpa [clsP] using this)
  have heg : Hid (∀ args w, (callFunc 188 args).run Tryd.prog w = .ok (.enter 188 args) w) := Lib.hid (enters_of Tryd.func188 (by kernel_rfl) rfl)
  have htp := Lib.hid HB.out.tab.pos
  clear hB hM16 hMl hM
  go_enter Tryd.func110, Tryd.ntmps110
  go_wp2_with (first
    | (go_at_call 111; refine (sortF_any 188 heg.out cmpF swoF totF cmpOkF _ (toF (clsP g.length (adG g))) w.heap.size _ HO3.out (HB.out.tab.keep HB3.out) htp.out (by rw [show (toF (clsP g.length (adG g))).length = (clsP g.length (adG g)).length by simp [toF]]; have := hpl.out; omega)).mono ?_; rintro e w4 ⟨rfl, ho4, hg4⟩; have HO4 := Lib.hid ho4; clear ho4)
    | (go_at_call 187; refine G1.out.mono ?_; rintro e w3 ⟨v3, rfl, ho3, hg3, _⟩; have HB3 : Hid (Below w.heap.size w w3) := Lib.hid (grown_below hg3); have HO3 : Hid (w3.ownsRow w.heap.size 70 1 v3 (toF (clsP g.length (adG g))).length ((toF (clsP g.length (adG g))).map encF)) := Lib.hid (by rw [toF_enc fun l hl => mask_nat_lt16 (hin.out l hl).2, show (toF (clsP g.length (adG g))).length = (clsP g.length (adG g)).length by simp [toF]]; exact ho3); clear ho3 hg3)
    | (go_at_call 106; refine (all_any _ _ _ (by omega) _).mono ?_; rintro e w2 ⟨he2, hw2⟩; rw [← HM.out] at he2; subst he2; subst hw2))
  go_ret
  refine ⟨_, rfl, ?_, HB3.out.grown hg4 HB3.out.size (fun k hk => (HO3.out.lt k hk).1)⟩
  have h4 := HO4.out
  rw [toF_sort hin.out (clsP_sorted _ _), toF_enc fun l hl => mask_nat_lt16 (hin.out l hl).2, show (toF (clsP g.length (adG g))).length = (clsP g.length (adG g)).length by simp [toF]] at h4
  exact h4

end Go.Proofs.YtkppbmfliejnmaaDoor
