/- Walk: whether a set is a module (the reference's ModuleIn). -/
import Derived.Test.YtmakhapdlkbbnaaDoorMlQ26
import Derived.Test.YtmakhapdlkbbnaaDoorMlQ29
import Derived.Test.YtmakhapdlkbbnaaDoorMlQ30
import Derived.Deep.RegionHeld3
import Derived.Deep.DeepCutAuto
import Derived.Test.YtmakhapdlkbbnaaDoorMlQ1
import Derived.Lib.QuietBelow
import Derived.Test.YtmakhapdlkbbnaaDoorMlQ28
import Derived.Test.YtmakhapdlkbbnaaDoorMlQ2
namespace Go.Proofs.YtmakhapdlkbbnaaDoor
open Go.RowKit

set_option maxRecDepth 100000 in
set_option maxHeartbeats 2000000 in
theorem specModuleIn_yes (v lv : Value) (g : List (List Int)) (s : Nat) (hok : GOk g) (hs : s < 2 ^ g.length) (hs0 : s ≠ 0) (w : World) (hg : Gr w v g) (hn : Nums w 2 .i64 lv (natInts (bitsOf s))) :
    Calls Tryd.prog 28 #[v, lv] w fun e w' => e = .returned (.bool (dec (ModN g s))) ∧ Below w.heap.size w w' := by
  have hg0 := hg
  obtain ⟨u, rfl, hr⟩ := hg
  obtain ⟨p, c, rfl, _⟩ := hr.shape
  obtain ⟨lp, lc, rfl, _⟩ := id hn.shape
  obtain ⟨w1, hw1⟩ : ∃ w1, w1 = w.alloc (.cells #[.slice p g.length c] 29) := ⟨_, rfl⟩
  have hbA := Lib.hid (below_alloc w (.cells #[.slice p g.length c] 29))
  rw [← hw1] at hbA
  have HG := Lib.hid (hg0.below hbA.out)
  have HN := Lib.hid (hn.below hbA.out)
  have cb := (show Box w1 w.heap.size 29 (.slice p g.length c) from by rw [hw1]; exact Box.new w _ _).cell
  have h16 := hok.le
  have hs16 := (cand_bits h16 hs).2
  have hset := setIn_bits h16 hs
  have hd := Lib.hid (dec_true hok)
  have hd2 := Lib.hid (dec_true (show GOk g ∧ SetIn g.length (natInts (bitsOf s)) from ⟨hok, hset⟩))
  have hne := bits_len_pos hs0 hs16
  have HOK := Lib.hid hok
  have HS := Lib.hid hs
  have HW1 := Lib.hid hw1
  have hnl := natInts_length (bitsOf s)
  rw [hnl] at HN ⊢
  have hpos : (0 : Int) < ((bitsOf s).length : Int) := by omega
  clear hr hg0 hn hok hs hset hnl hw1
  go_enter Tryd.func28, Tryd.ntmps28
  go_upto_region 1 with fail
  rw [← HW1.out]
  go_cut [4] (fun x wx => x = .bool (dec (ModN g s)) ∧ Below w1.heap.size w1 wx)
  case first =>
    go_region_held3 (fun w' => w'.cell? ⟨w.heap.size, 0, none⟩ = some (.slice p g.length c))
      (first | go_keep | exact cb | exact BWD.at' cb | exact BWC.at' cb | exact BWB.at' cb | exact BWA.at' cb)
      (first
        | (go_at_call 105; refine (l17Splitter_any _ _ _ g HOK.out s HS.out _ (HG.out.below BWC) HA.out (HN.out.below BWC)).mono ?_; rintro e wd ⟨⟨z, rfl, hz⟩, hbq⟩; (have hdz : decide (z < 0) = dec (ModN g s) := (by
            rcases hz with ⟨rfl, hm⟩ | ⟨h1, _, hm⟩
            · rw [dec_true hm]; rfl
            · rw [dec_false hm]; simp; omega)); have BWD : Below w1.heap.size w1 wd := BWC.trans (hbq.mono BWC.size); clear hbq hz)
        | (go_at_call 106; refine (l16All_any _ g (by omega) _ (HG.out.below BWB)).mono ?_; rintro e wc ⟨av, rfl, ho, hbq⟩; have HA : Hid (Nums wc 2 .i64 av (natInts (List.range g.length))) := Lib.hid (Nums.of_owns ho (by rw [natInts_length, List.length_range]) (by omega)); have BWC : Below w1.heap.size w1 wc := BWB.trans (hbq.mono BWB.size); clear hbq ho)
        | (go_at_call 104; refine (specSetOk_any _ _ g (natInts (bitsOf s)) (by omega) _ (HG.out.below BWA) (HN.out.below BWA)).mono ?_; rintro e wb ⟨he, hbq⟩; rw [hd2.out] at he; subst he; have BWB : Below w1.heap.size w1 wb := BWA.trans (hbq.mono BWA.size); clear hbq)
        | (go_at_call 85; refine (specGraphOk_any _ g _ (HG.out.below (below_dN (Below.refl _ _) 1))).mono ?_; rintro e wa ⟨he, hbq⟩; rw [hd.out] at he; subst he; have BWA : Below w1.heap.size w1 wa := (below_dN (Below.refl _ _) 1).trans hbq; clear hbq))
    all_goals go_wp2
    all_goals go_meet
    all_goals exact ⟨by first | rfl | rw [hdz], BWD⟩
  case rest =>
    obtain ⟨rfl, hbz⟩ := hcut
    go_wp2
    go_ret
    exact ⟨rfl, hbA.out.trans (hbz.mono hbA.out.size)⟩

end Go.Proofs.YtmakhapdlkbbnaaDoor

/- The draws only grow: what an operation leaves has drawn no less; an append with that word. -/
namespace Go.Proofs.YtmakhapdlkbbnaaDoor
open Go.RowKit Go.Sort

theorem ask_drawn {α : Type} : ∀ (k : Ask α) (w : World), w.drawn ≤ (w.ask k).2.drawn
  | .done _, w => Nat.le_refl _
  | .ask what range k, w => by
    simp only [World.ask]
    split
    · exact ask_drawn (k 0) w
    · exact Nat.le_trans (Nat.le_succ _) (ask_drawn (k _) { w with drawn := w.drawn + 1 })
theorem sys_drawn (w : World) (c : Sys) : w.drawn ≤ (w.sys c).2.drawn := by
  have h := ask_drawn (Kernel.perform c w.os) w
  simp only [World.sys]
  split
  · exact Nat.le_refl _
  · rename_i heq
    rw [heq] at h
    exact h
theorem viewStore_drawn {P : Program} {w w' : World} {b : Addr} {u : TypeId} {k : Addr} {v : Value} {x : Bool} {l : List Addr} (h : w.viewStore P b u k v x = .ok (w', l)) : w'.drawn = w.drawn := by
  unfold World.viewStore at h
  simp only [bind, Except.bind, pure, Except.pure] at h
  repeat (split at h <;> try (simp at h; done))
  all_goals (try (simp only [Except.ok.injEq, Prod.mk.injEq] at h; obtain ⟨rfl, _⟩ := h; rfl))
theorem farStore_drawn {P : Program} {w w' : World} {k : Addr} {v : Value} {x : Bool} {l : List Addr} (h : w.farStore P k v x = .ok (w', l)) : w'.drawn = w.drawn := by
  unfold World.farStore at h
  split at h
  · split at h
    · rename_i r hr
      obtain ⟨w2, l2⟩ := r
      simp only [Except.ok.injEq, Prod.mk.injEq] at h
      obtain ⟨rfl, rfl⟩ := h
      exact viewStore_drawn hr
    · exact nomatch h
  · exact nomatch h

theorem freeze_drawn (w : World) (a : Addr) (n : Nat) : (w.freeze a n).drawn = w.drawn := by
  unfold World.freeze
  repeat (first | rfl | split)
def okDrawn {α : Type} (w : World) : Result α → Prop
  | .ok _ w' => w.drawn ≤ w'.drawn
  | .halt _ _ => True
theorem okDrawn.le {α : Type} {w v : World} {r : Result α} (h : okDrawn v r) (hw : w.drawn ≤ v.drawn) : okDrawn w r := by
  cases r with
  | ok a x => exact Nat.le_trans hw h
  | halt _ _ => trivial
theorem sem_drawn {α : Type} (P : Program) (s : Sem α) : ∀ w : World, okDrawn w (s.run P w) := by
  induction s with
  | pure a => intro w; exact Nat.le_refl _
  | load m a k ih =>
    intro w
    unfold Sem.run
    split
    · exact ih _ w
    · split
      · exact ih _ w
      · trivial
  | store m a v k ih =>
    intro w
    have main : okDrawn w (match w.cell? a with
        | some _ => if w.frozen? a then .halt (.unsupported (.unsafePointer "a write to bytes that a string shares")) w else k.run P (w.setCell a v)
        | none => match w.farStore P a v (m == .atomic) with
          | .ok (w, _) => k.run P w
          | .error h => .halt h w) := by
      split
      · split
        · trivial
        · exact (ih _).le (Nat.le_refl _)
      · split
        · rename_i heq
          exact (ih _).le (Nat.le_of_eq (farStore_drawn heq).symm)
        · trivial
    cases v <;> first | exact main | (simp only [Sem.run]; trivial)
  | new o k ih => intro w; unfold Sem.run; exact (ih _ _).le (Nat.le_refl _)
  | shape r k ih => intro w; unfold Sem.run; exact ih _ w
  | freeze a n k ih => intro w; unfold Sem.run; exact (ih _).le (Nat.le_of_eq (freeze_drawn w a n).symm)
  | frozen a k ih => intro w; unfold Sem.run; exact ih _ w
  | getObj r k ih =>
    intro w
    unfold Sem.run
    split
    · trivial
    · exact ih _ w
    · trivial
  | setObj r o k ih =>
    intro w
    unfold Sem.run
    split
    · trivial
    · exact ih _
    · trivial
  | choose q k ih =>
    intro w
    unfold Sem.run
    split
    · exact ih _ w
    · exact (ih _ _).le (Nat.le_succ _)
  | sys c k ih => intro w; unfold Sem.run; exact (ih _ _).le (sys_drawn w c)
  | program k ih => intro w; unfold Sem.run; exact ih _ w
  | mark m k ih => intro w; unfold Sem.run; exact ih w
  | halt h => intro w; trivial

/-- 'append(s, x...)' as an arm of the walk: s the call's own, x any slice that reads. -/
theorem wpList_appD {P : Program} {T E : TypeId} {z : Value} {size bytes : Nat} (S : SlTy P T E z size bytes) {w : World} {ops : Array Oper} {rest : List Oper} {o : Oper} {a : Act} {Q : Exit → Act → World → Prop}
    (hgd : o.guard = none) {s x : Operand} (ho : o.op = .call { callee := .builtin .append, args := #[s, x], argTypes := #[T, T] })
    {base : Nat} {v : Value} {n : Nat} {xs : List Value} (hs : a.eval s = v) (hown : w.ownsRow base E size v n xs)
    {u : Value} {m : Nat} {news : List Value} (hx : a.eval x = u) (hu : Sl w E u m news) (hl : news.length = m * size) (h1 : ∀ x ∈ news, x.oneCell' = true)
    (hnm : n + m ≤ 1000000000) (hbase : base ≤ w.heap.size)
    (h : ∀ v' w', w'.ownsRow base E size v' (n + m) (xs ++ news) → w.grownBy w' v.ownBlock → (∀ k, v'.ownBlock = some k → v.ownBlock = some k ∨ w.heap.size ≤ k) → w.drawn ≤ w'.drawn → wpList P ops Q rest (a.put o.dst v') w') :
    wpList P ops Q (o :: rest) a w := by
  refine wpList_plain hgd fun _ hK => ?_
  obtain ⟨v', w', hr, h2, h3, h4⟩ := run_app S w o.type base v n xs hown u m news hu hl h1 hnm hbase
  have hd : w.drawn ≤ w'.drawn := by
    have := sem_drawn P (Builtin.append_ #[T, T] o.type #[v, u]) w
    rw [hr] at this
    exact this
  unfold Oper.wp execOp
  simp only [ho, resolve, invoke, builtin, Sem.run_bind, Sem.run_pure, Result.andThen_ok, List.map_toArray, List.map_cons, List.map_nil, hs, hx, hr]
  exact hK _ _ (h v' w' h2 h3 h4 hd)

/-- 'append(s, x)' of one element of one cell: x lies in the block that was just laid. -/
theorem wpList_app1D {P : Program} {T E : TypeId} {z : Value} {bytes : Nat} (S : SlTy P T E z 1 bytes) {w : World} {ops : Array Oper} {rest : List Oper} {o : Oper} {a : Act} {Q : Exit → Act → World → Prop}
    (hgd : o.guard = none) {s x : Operand} (ho : o.op = .call { callee := .builtin .append, args := #[s, x], argTypes := #[T, T] })
    {base : Nat} {v : Value} {n : Nat} {xs : List Value} {el : Value} (hs : a.eval s = v) (hown : w.ownsRow base E 1 v n xs)
    (hx : a.eval x = .slice (some ⟨w.heap.size, 0, none⟩) 1 1) (h1 : el.oneCell' = true)
    (hnm : n < 1000000000) (hbase : base ≤ w.heap.size)
    (h : ∀ v' w', w'.ownsRow base E 1 v' (n + 1) (xs ++ [el]) → w.grownBy w' v.ownBlock → (∀ k, v'.ownBlock = some k → v.ownBlock = some k ∨ w.heap.size < k) → w.drawn ≤ w'.drawn → wpList P ops Q rest (a.put o.dst v') w') :
    wpList P ops Q (o :: rest) a (w.alloc (.cells #[el] E)) := by
  have hal : (w.alloc (.cells #[el] E)).heap.size = w.heap.size + 1 := by show (w.heap.push _).size = _; simp
  refine wpList_appD S (w := w.alloc (.cells #[el] E)) (m := 1) (news := [el]) hgd ho hs (hown.alloc _) hx ⟨_, 1, rfl, (fun e => by cases e), Nat.le_refl _, by omega, Or.inr ⟨w.heap.size, 0, #[el], (0, 0), rfl, heap_alloc_new w _, ?_⟩⟩ (by simp) (by simpa using h1) (by omega) (by omega) fun v' w' h2 h3 h4 h5 => h v' w' h2 ?_ (fun k hk => ?_) h5
  · intro j u hu
    match j, hu with
    | 0, hu => simpa using hu
    | j + 1, hu => simp at hu
  · exact ⟨h3.os, h3.tape, h3.output, by have := h3.size; omega, fun k hk hne => (h3.block k (by omega) hne).trans (Below.heap_alloc w _ k hk)⟩
  · rcases h4 k hk with h5 | h5
    · exact .inl h5
    · exact .inr (by omega)

end Go.Proofs.YtmakhapdlkbbnaaDoor

/- Walks: the order of sets (compareSets), with the word that the draws only grow. -/
namespace Go.Proofs.YtmakhapdlkbbnaaDoor
open Go.RowKit Go.Sort

set_option maxRecDepth 100000 in
set_option maxHeartbeats 1000000 in
theorem list_anyD (y : Int) (s : Nat) (hy : y = s) (hs : s < 4294967296) (w : World) (hT : Tab w) :
    Calls Tryd.prog 130 #[.int .u32 y] w fun e w' => ∃ v, e = .returned v ∧
      w'.ownsRow w.heap.size 3 1 v (bitsOf s).length ((natInts (bitsOf s)).map (Value.int .i64)) ∧ Below w.heap.size w w' ∧ w.drawn ≤ w'.drawn := by
  subst hy
  have hpos := hT.pos
  go_enter Tryd.func130, Tryd.ntmps130
  go_wp2
  go_loopw [0, 3] (fun x v wr => ∃ (r : Nat) (d : List Nat), x = .int .u32 r ∧ r < 4294967296 ∧ d ++ bitsOf r = bitsOf s ∧ wr.ownsRow w.heap.size 3 1 v d.length ((natInts d).map (Value.int .i64)) ∧ Below w.heap.size w wr ∧ w.drawn ≤ wr.drawn)
    (fun x _ _ => (bitsOf (intOf x).toNat).length)
  case atStart => exact ⟨s, [], rfl, hs, rfl, ownsRow_empty _ _ _, below_alloc _ _, Nat.le_refl _⟩
  case round =>
    obtain ⟨r, d, rfl, hr, hd, hown, hbel, hdr⟩ := hrel
    by_cases h0 : r = 0
    · subst h0
      rw [bitsOf_zero, List.append_nil] at hd
      subst hd
      go_wp2
      go_ret
      exact ⟨_, rfl, hown, hbel, hdr⟩
    · have h0' : ((r : Int) != 0) = true := by simp; omega
      have hTr : Tab wr := hT.below hbel hpos
      have hsz := hbel.size
      have hstep := Lib.hid (bitsOf_step r h0 hr)
      have hlow := Lib.hid (drop_low r hr h0)
      have hlen : d.length < 1000000000 := by
        have h1 := bitsOf_length s
        rw [← hd, List.length_append] at h1
        omega
      have Hd := Lib.hid hd
      clear hd
      go_wp2_with (first
        | (go_at_call 108; refine (least_any _ r rfl h0 hr _ hTr).mono ?_; rintro e w' ⟨rfl, rfl⟩)
        | (at_builtin; refine wpList_app1D ty_int rfl rfl rfl hown rfl rfl hlen hsz ?_; intro v' w1 hown' hg _ hdr1))
      go_roundw
      case rel =>
        refine ⟨r &&& (r - 1), d ++ [Lib.ctz 32 r], val_int hlow.out, and_lt32 _ _ hr, ?_, ?_, below_grown hbel hown hg (Nat.le_refl _) hsz, Nat.le_trans hdr hdr1⟩
        · rw [List.append_assoc, List.singleton_append, ← hstep.out]; exact Hd.out
        · simpa [natInts] using hown'
      case measure =>
        rw [hlow.out]
        simp [intOf, hstep.out]

end Go.Proofs.YtmakhapdlkbbnaaDoor
