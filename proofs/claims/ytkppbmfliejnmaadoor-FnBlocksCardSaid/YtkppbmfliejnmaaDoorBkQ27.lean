/- Walk: the program's parts of a set. -/
import Derived.Test.YtkppbmfliejnmaaDoorBkQ26
import Derived.Test.YtkppbmfliejnmaaDoorBkQ5
import Derived.Deep.RegionWith
namespace Go.Proofs.YtkppbmfliejnmaaDoor
open Go.RowKit

theorem ty_vsets : SlTy Tryd.prog 72 70 (.int .u32 0) 1 4 := ⟨Tryd.underlying72, by kernel_rfl, rfl, by decide, by decide⟩

theorem Tab.grownP {w w' : World} {r : Option Nat} (h : Tab w) (hg : w.grownBy w' r) (hr : some 0 ≠ r) : Tab w' := fun j hj => hg.cell (a := ⟨_, j, none⟩) (h j hj) hr

/-- Lists, as masks. -/
def mskL (ps : List (List Nat)) : List Nat := ps.map fun l => mask (natInts l)
theorem mskL_snoc (ps : List (List Nat)) (l : List Nat) : mskL (ps ++ [l]) = mskL ps ++ [mask (natInts l)] := by simp [mskL]
theorem mskL_length (ps : List (List Nat)) : (mskL ps).length = ps.length := by simp [mskL]

structure PtI (w wr : World) (x ov : Value) (n : Nat) (E : Nat → Nat → Bool) (W s : Nat) (os : List (List Nat)) : Prop where
  s16 : s < 65536
  sub : ∀ i, s.testBit i = true → i < n
  net : NE wr x n E
  own : wr.ownsRow w.heap.size 70 1 ov os.length ((mskL os).map u32v)
  bel : Below w.heap.size w wr
  on : PartOn E (bitsOf W) os (bitsOf s)
  cnt : os.length + (bitsOf s).length ≤ 32
  lt : ∀ l ∈ os, l.Pairwise (· < ·) ∧ ∀ i ∈ l, i < n
  tab : Tab wr
  tpos : 0 < w.heap.size

set_option maxRecDepth 100000 in
set_option maxHeartbeats 4000000 in
theorem partsOf_any (x : Value) (y : Int) (n : Nat) (E : Nat → Nat → Bool) (W : Nat) (hy : y = W) (hW : W < 65536) (hWn : ∀ i, W.testBit i = true → i < n) (w : World) (hx : NE w x n E) (hT : Tab w) :
    Calls Tryd.prog 212 #[x, .int .u32 y] w fun e w' => ∃ (ov : Value) (ps : List (List Nat)), e = .returned ov ∧ Parts E (bitsOf W) ps ∧
      w'.ownsRow w.heap.size 70 1 ov ps.length ((mskL ps).map u32v) ∧ ps.length ≤ 32 ∧ (∀ l ∈ ps, l.Pairwise (· < ·) ∧ ∀ i ∈ l, i < n) ∧ Tab w' ∧ Below w.heap.size w w' := by
  subst hy
  have hle := hx.le
  have hbA := below_alloc w (.cells #[] 70)
  have START := Lib.hid (show PtI w (w.alloc (.cells #[] 70)) x (.slice (some ⟨w.heap.size, 0, none⟩) 0 0) n E W W [] from
    { s16 := hW, sub := hWn, net := hx.next hbA, own := ownsRow_empty _ _ _, bel := hbA, on := partOn_start _ _, cnt := by have := bitsOf_length W; simp; omega, lt := by simp, tab := hT.keep hbA, tpos := hT.pos })
  obtain ⟨xp, xc, rfl⟩ : ∃ p c, x = .slice p n c := by obtain ⟨p, c, e, _⟩ := hx.sl; exact ⟨p, c, e⟩
  have HX := Lib.hid hx
  clear hbA hx hT hWn
  go_enter Tryd.func212, Tryd.ntmps212
  go_wp2
  go_loopw [1, 5] (fun s1 s5 wr => ∃ (s : Nat) (os : List (List Nat)), s1 = .int .u32 (s : Int) ∧ PtI w wr (.slice xp n xc) s5 n E W s os) (fun s1 _ _ => (bitsOf (intOf s1).toNat).length)
  case atStart => exact ⟨W, [], rfl, START.out⟩
  case round =>
    clear START
    obtain ⟨s, os, rfl, hI⟩ := hrel
    obtain ⟨op, oc, rfl⟩ : ∃ p c, u5 = .slice p os.length c := by
      rcases hI.own.2 with ⟨h1, h2⟩ | ⟨g1, cap, cur, h1, _⟩
      · exact ⟨none, 0, by rw [h1, h2]⟩
      · exact ⟨_, _, h1⟩
    have HI := Lib.hid hI
    have hs16 := hI.s16
    have hcnt := hI.cnt
    clear hI
    by_cases h0 : s = 0
    · have h0' : ((s : Int) != 0) = false := by simp [h0]
      have H0 := Lib.hid h0
      clear h0
      go_wp2
      go_ret
      have hon := HI.out.on
      rw [H0.out, bitsOf_zero] at hon
      exact ⟨_, os, rfl, partOn_stop hon, HI.out.own, by omega, HI.out.lt, HI.out.tab, HI.out.bel⟩
    · have h0' : ((s : Int) != 0) = true := by simp; omega
      have hst := bitsOf_step s h0 (by omega)
      obtain ⟨hub, hu32, _⟩ := testBit_ctz s h0 (by omega)
      have H0 := Lib.hid h0
      obtain ⟨u, hu⟩ : ∃ u, u = Lib.ctz 32 s := ⟨_, rfl⟩
      rw [← hu] at hst hub hu32
      have HU := Lib.hid hu
      have HST := Lib.hid hst
      have HUB := Lib.hid hub
      have hos : os.length < 1000000000 := by omega
      have hown := HI.out.own
      have htab := HI.out.tab
      clear h0 hu hst hub
      go_wp2_with (first
        | (at_builtin; refine wpList_app1 ty_vsets rfl rfl rfl ho4 rfl rfl hos (by have := HI.out.bel.size; have := hb4.size; omega) ?_; intro v' w5 hown' hg _)
        | (go_at_call 219; refine (reach_any _ _ _ n E u s rfl rfl hs16 HI.out.sub HUB.out _ HI.out.net htab).mono ?_; rintro e w4 ⟨m, rfl, hm16, hmb, hb4⟩; have ho4 := ownsRow_below hown hb4; have HM := Lib.hid hmb; have hmi : ((m : Nat) : Int) < 4294967296 := (by omega))
        | (go_at_call 185; refine (least_any _ s rfl H0.out (by omega) _ htab).mono ?_; rintro e w3 ⟨he3, rfl⟩; rw [← HU.out] at he3; subst he3))
      have hand : bits BinOp.andNot IntKind.u32 (s : Int) (m : Int) = ((sub s m : Nat) : Int) := u32_andNot_nat s m (by omega) (by omega)
      have hM' : m = mask (natInts (partL E (bitsOf s) u)) := Nat.eq_of_testBit_eq fun i => by
        rw [Bool.eq_iff_iff, mask_bit, decide_eq_true_eq]
        exact HM.out i
      have hrest : bitsOf (sub s m) = restL E (bitsOf s) u := by
        refine rising_ext _ _ (bitsOf_rising _) (restL_rising (bitsOf_rising _) u) fun i => ?_
        rw [mem_left (sub_lt16 _ _ hs16), testBit_sub s m (by omega) (by omega), mem_restL, mem_left hs16, Bool.and_eq_true, Bool.not_eq_true', Bool.eq_false_iff]
        constructor
        · rintro ⟨h1, h2⟩
          exact ⟨h1, fun hr => h2 ((HM.out i).2 (mem_partL.2 ⟨(mem_left hs16).2 h1, hr⟩))⟩
        · rintro ⟨h1, h2⟩
          exact ⟨h1, fun hm => h2 (mem_partL.1 ((HM.out i).1 hm)).2⟩
      have hlt := restL_lt (E := E) (L := bitsOf s) (u := u) ((mem_left hs16).2 HUB.out)
      have hon := HI.out.on
      rw [HST.out] at hon
      have hon2 := partOn_step hon
      rw [← HST.out, ← hrest] at hon2
      rw [← hrest] at hlt
      have hb5 := below_grown (HI.out.bel.trans (hb4.mono HI.out.bel.size)) ho4 hg (Nat.le_refl _) (by have := HI.out.bel.size; have := hb4.size; omega)
      go_roundw
      case rel =>
        refine ⟨sub s m, os ++ [partL E (bitsOf s) u], val_int hand, ?_⟩
        exact { s16 := sub_lt16 _ _ hs16
                sub := fun i hi => HI.out.sub i (by rw [testBit_sub s m (by omega) (by omega)] at hi; simp only [Bool.and_eq_true] at hi; exact hi.1)
                net := HX.out.next hb5
                own := by rw [mskL_snoc, ← hM', List.map_append, List.length_append]; exact hown'
                bel := hb5
                on := hon2
                cnt := by rw [List.length_append]; simp; omega
                lt := fun l hl => by
                  rcases List.mem_append.1 hl with h | h
                  · exact HI.out.lt l h
                  · simp only [List.mem_singleton] at h
                    subst h
                    exact ⟨partL_rising (bitsOf_rising _) u, fun i hi => HI.out.sub i ((mem_left hs16).1 (mem_partL.1 hi).1)⟩
                tab := (htab.keep hb4).grownP hg (fun e => by
                  have := (ho4.lt _ e.symm).1
                  have := HI.out.tpos
                  omega)
                tpos := HI.out.tpos }
      case measure =>
        rw [hand]
        simp [intOf]
        omega

end Go.Proofs.YtkppbmfliejnmaaDoor

/- Walks: what the exact laws do with their arguments and results: size, copy, compare, mark, hold. -/
namespace Go.Proofs.YtkppbmfliejnmaaDoor
open Go.RowKit

/-- From p on lie the cells vals, whatever the block says of its elements: what an argument reads as. -/
def Cl (w : World) (p : Option Addr) (vals : List Value) : Prop :=
  vals = [] ∨ ∃ b o, p = some ⟨b, o, none⟩ ∧ ∀ j u, vals[j]? = some u → w.cell? ⟨b, o + j, none⟩ = some u
def ArgN (w : World) (v : Value) (xs : List Int) : Prop := ∃ p c, v = .slice p xs.length c ∧ xs.length ≤ 9223372036854775807 ∧ Cl w p (xs.map (Value.int .i64))
def ArgR (w : World) (v : Value) (g : List (List Int)) : Prop :=
  ∃ p c vals, v = .slice p g.length c ∧ g.length ≤ 9223372036854775807 ∧ vals.length = g.length ∧ Cl w p vals ∧ ∀ j, j < g.length → ArgN w (vals.getD j undef) (g.getD j [])
/-- A law's graph. -/
def ArgG (w : World) (v : Value) (g : List (List Int)) : Prop := ∃ u, v = .agg #[u] ∧ ArgR w u g

theorem Cl.below {w w' : World} {p : Option Addr} {vals : List Value} (h : Cl w p vals) (hb : Below w.heap.size w w') : Cl w' p vals := by
  rcases h with h | ⟨b, o, h1, h2⟩
  · exact .inl h
  · exact .inr ⟨b, o, h1, fun j u hu => hb.at' (h2 j u hu)⟩
theorem ArgN.below {w w' : World} {v : Value} {xs : List Int} (h : ArgN w v xs) (hb : Below w.heap.size w w') : ArgN w' v xs := by
  obtain ⟨p, c, h1, h2, h3⟩ := h
  exact ⟨p, c, h1, h2, h3.below hb⟩
theorem ArgR.below {w w' : World} {v : Value} {g : List (List Int)} (h : ArgR w v g) (hb : Below w.heap.size w w') : ArgR w' v g := by
  obtain ⟨p, c, vals, h1, h2, h3, h4, h5⟩ := h
  exact ⟨p, c, vals, h1, h2, h3, h4.below hb, fun j hj => (h5 j hj).below hb⟩
theorem ArgG.below {w w' : World} {v : Value} {g : List (List Int)} (h : ArgG w v g) (hb : Below w.heap.size w w') : ArgG w' v g := by
  obtain ⟨u, h1, h2⟩ := h
  exact ⟨u, h1, h2.below hb⟩
theorem Cl.get {w : World} {p : Option Addr} {vals : List Value} (h : Cl w p vals) {k : Nat} (hk : k < vals.length) : ∃ b o, p = some ⟨b, o, none⟩ ∧ w.cell? ⟨b, o + k, none⟩ = some vals[k] := by
  rcases h with h | ⟨b, o, h1, h2⟩
  · subst h; simp at hk
  · exact ⟨b, o, h1, h2 k _ (by simp [hk])⟩
theorem Cl.num {w : World} {p : Option Addr} {xs : List Int} (h : Cl w p (xs.map (Value.int .i64))) {k : Nat} (hk : k < xs.length) : ∃ b o, p = some ⟨b, o, none⟩ ∧ w.cell? ⟨b, o + k, none⟩ = some (.int .i64 xs[k]) := by
  obtain ⟨b, o, h1, h2⟩ := h.get (k := k) (by simpa using hk)
  exact ⟨b, o, h1, by rw [h2]; simp⟩
theorem ArgR.get {w : World} {p : Option Addr} {n c : Nat} {g : List (List Int)} (h : ArgR w (.slice p n c) g) {k : Nat} (hk : k < g.length) :
    ∃ b o rp rc, p = some ⟨b, o, none⟩ ∧ w.cell? ⟨b, o + k, none⟩ = some (.slice rp (row g k).length rc) ∧ ArgN w (.slice rp (row g k).length rc) (row g k) := by
  obtain ⟨p', c', vals, he, _, hl, hcl, hr⟩ := h
  simp only [Value.slice.injEq] at he
  obtain ⟨rfl, rfl, rfl⟩ := he
  obtain ⟨b, o, hp, hc⟩ := hcl.get (k := k) (by omega)
  have hrow := hr k hk
  have e : vals.getD k undef = vals[k] := by simp [hl, hk]
  rw [e] at hrow
  obtain ⟨rp, rc, hv, _⟩ := id hrow
  rw [hv] at hc hrow
  exact ⟨b, o, rp, rc, hp, hc, hrow⟩

theorem take_replicate_set {α : Type} (xs ys : List α) (k : Nat) (z : α) (hy : ys = xs.take k ++ List.replicate (xs.length - k) z) (hk : k < xs.length) :
    ys.set k xs[k] = xs.take (k + 1) ++ List.replicate (xs.length - (k + 1)) z := by
  subst hy
  have hl : (xs.take k).length = k := by rw [List.length_take]; omega
  have e : xs.length - k = (xs.length - (k + 1)) + 1 := by omega
  rw [List.set_append, if_neg (by omega), hl, Nat.sub_self, e, List.replicate_succ, List.set_cons_zero, take_snoc xs k hk, List.append_assoc]
  rfl

end Go.Proofs.YtkppbmfliejnmaaDoor

/- Walks: what the exact laws do with their arguments and results, second part. -/
namespace Go.Proofs.YtkppbmfliejnmaaDoor
open Go.RowKit

/-- A slice of rows, each of its own, all in blocks from base on. -/
def OwnRws (w : World) (base : Nat) (v : Value) (g : List (List Int)) : Prop :=
  ∃ vals, vals.length = g.length ∧ w.ownsRow base 33 1 v g.length vals ∧ ∀ j, j < g.length → w.ownsRow base 2 1 (vals.getD j undef) (row g j).length ((row g j).map (Value.int .i64))
def OwnG (w : World) (base : Nat) (v : Value) (g : List (List Int)) : Prop := ∃ u, v = .agg #[u] ∧ OwnRws w base u g

theorem OwnRws.below {w w' : World} {base : Nat} {v : Value} {g : List (List Int)} (h : OwnRws w base v g) (hb : Below w.heap.size w w') : OwnRws w' base v g := by
  obtain ⟨vals, h1, h2, h3⟩ := h
  exact ⟨vals, h1, ownsRow_below h2 hb, fun j hj => ownsRow_below (h3 j hj) hb⟩
theorem OwnG.below {w w' : World} {base : Nat} {v : Value} {g : List (List Int)} (h : OwnG w base v g) (hb : Below w.heap.size w w') : OwnG w' base v g := by
  obtain ⟨u, h1, h2⟩ := h
  exact ⟨u, h1, h2.below hb⟩
theorem OwnRws.rws {w : World} {base : Nat} {v : Value} {g : List (List Int)} (h : OwnRws w base v g) (h1 : g.length ≤ 1000000000) (h2 : ∀ j, j < g.length → (row g j).length ≤ 1000000000) : Rws w 33 2 v g := by
  obtain ⟨vals, e1, e2, e3⟩ := h
  exact ⟨vals, e1, Sl.of_owns e2 h1, fun j hj => Nums.of_owns (e3 j hj) rfl (h2 j hj)⟩
theorem OwnG.gr {w : World} {base : Nat} {v : Value} {g : List (List Int)} (h : OwnG w base v g) (h1 : g.length ≤ 1000000000) (h2 : ∀ j, j < g.length → (row g j).length ≤ 1000000000) : Gr w v g := by
  obtain ⟨u, e1, e2⟩ := h
  exact ⟨u, e1, e2.rws h1 h2⟩

theorem OwnRws.set {w : World} {base : Nat} {v : Value} {g : List (List Int)} (h : OwnRws w base v g) {a : Addr} (ha : a.block < base) (u : Value) : OwnRws (w.setCell a u) base v g := by
  obtain ⟨vals, h1, h2, h3⟩ := h
  exact ⟨vals, h1, ownsRow_setCell_below h2 ha u, fun j hj => ownsRow_setCell_below (h3 j hj) ha u⟩
theorem OwnRws.lower {w : World} {base base' : Nat} {v : Value} {g : List (List Int)} (h : OwnRws w base v g) (hb : base' ≤ base) : OwnRws w base' v g := by
  obtain ⟨vals, h1, h2, h3⟩ := h
  exact ⟨vals, h1, ownsRow_base h2 hb, fun j hj => ownsRow_base (h3 j hj) hb⟩
theorem OwnG.lower {w : World} {base base' : Nat} {v : Value} {g : List (List Int)} (h : OwnG w base v g) (hb : base' ≤ base) : OwnG w base' v g := by
  obtain ⟨u, h1, h2⟩ := h
  exact ⟨u, h1, h2.lower hb⟩

theorem getD_set_self {α : Type} (l : List α) (k : Nat) (x d : α) (h : k < l.length) : (l.set k x).getD k d = x := by simp [h]
theorem getD_set_other {α : Type} (l : List α) (k j : Nat) (x d : α) (h : k ≠ j) : (l.set k x).getD j d = l.getD j d := by simp [h]

end Go.Proofs.YtkppbmfliejnmaaDoor

/- Walks: what the exact laws do with their arguments and results, third part. -/
namespace Go.Proofs.YtkppbmfliejnmaaDoor
open Go.RowKit

/-- The marks k, k + 1, .. -/
def marks (k : Int) (n : Nat) : List Int := (List.range n).map fun (i : Nat) => k + (i : Int)
theorem marks_length (k : Int) (n : Nat) : (marks k n).length = n := by simp [marks]
theorem marks_succ (k : Int) (n : Nat) : marks k (n + 1) = marks k n ++ [k + n] := by simp [marks, List.range_succ]

theorem set_marks (ys : List Value) (n k : Nat) (m : Int) (hy : ys.length = n) (hk : k < n) :
    (((marks m k).map (Value.int .i64)) ++ ys.drop k).set k (.int .i64 (m + k)) = ((marks m (k + 1)).map (Value.int .i64)) ++ ys.drop (k + 1) := by
  have hl : ((marks m k).map (Value.int .i64)).length = k := by simp [marks_length]
  rw [List.set_append, if_neg (by omega), hl, Nat.sub_self, marks_succ, List.map_append, List.append_assoc]
  congr 1
  rw [List.drop_eq_getElem_cons (by omega)]
  rfl

end Go.Proofs.YtkppbmfliejnmaaDoor
