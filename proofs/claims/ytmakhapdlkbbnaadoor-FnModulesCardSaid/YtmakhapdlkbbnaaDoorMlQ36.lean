/- Plain: edges cut; bridges; the parts without them. -/
import Derived.Test.YtmakhapdlkbbnaaDoorMlQ21
import Derived.Test.YtmakhapdlkbbnaaDoorMlQ22
import Derived.Test.YtmakhapdlkbbnaaDoorMlQ25
import Derived.Test.YtmakhapdlkbbnaaDoorMlQ17
import Derived.Deep.RegionWith
namespace Go.Proofs.YtmakhapdlkbbnaaDoor

def cutE (E : Nat → Nat → Bool) (p q : Nat) : Nat → Nat → Bool := fun r j => E r j && !((r == p && j == q) || (r == q && j == p))
theorem cutE_sym {E : Nat → Nat → Bool} (h : ∀ r j, E r j = true → E j r = true) (p q : Nat) (r j : Nat) (he : cutE E p q r j = true) : cutE E p q j r = true := by
  simp only [cutE, Bool.and_eq_true, Bool.not_eq_true', Bool.or_eq_false_iff, Bool.and_eq_false_iff, beq_eq_false_iff_ne] at he ⊢
  obtain ⟨h1, h2, h3⟩ := he
  refine ⟨h _ _ h1, ?_, ?_⟩
  · rcases h3 with h3 | h3
    · exact .inr h3
    · exact .inl h3
  · rcases h2 with h2 | h2
    · exact .inr h2
    · exact .inl h2
theorem cutE_irr {E : Nat → Nat → Bool} (h : ∀ r, E r r = false) (p q r : Nat) : cutE E p q r r = false := by simp [cutE, h r]

/-- Two vertices are made no neighbours. -/
def partN (a : List Nat) (u v : Nat) : List Nat := let b := a.set u (sub (a.getD u 0) (2 ^ v)); b.set v (sub (b.getD v 0) (2 ^ u))
theorem partN_length (a : List Nat) (u v : Nat) : (partN a u v).length = a.length := by simp [partN]
theorem partN_indN {n : Nat} (hn : n ≤ 16) {E : Nat → Nat → Bool} {u v : Nat} (hu : u < n) (hv : v < n) (huv : u ≠ v) : partN (indN n E) u v = indN n (cutE E u v) := by
  have hl := indN_length n E
  have h16 := indN_lt16 (E := E) hn
  refine natList_ext (by rw [partN_length, hl, indN_length]) fun r hr => ?_
  rw [partN_length, hl] at hr
  have e : (partN (indN n E) u v).getD r 0 = if r = v then sub ((indN n E).getD v 0) (2 ^ u) else if r = u then sub ((indN n E).getD u 0) (2 ^ v) else (indN n E).getD r 0 := by
    unfold partN
    rw [getD_set _ _ _ _ (by rw [List.length_set, hl]; exact hv)]
    by_cases e : r = v
    · subst e
      rw [if_pos rfl, if_pos rfl, getD_set _ _ _ _ (by rw [hl]; exact hu), if_neg (fun q => huv q.symm)]
    · rw [if_neg e, if_neg e, getD_set _ _ _ _ (by rw [hl]; exact hu)]
  rw [e]
  refine Nat.eq_of_testBit_eq fun j => ?_
  rw [Bool.eq_iff_iff, indN_bit hr]
  by_cases e1 : r = v
  · subst e1
    rw [if_pos rfl, testBit_sub1 (lt16_getD h16 _) (by omega), indN_bit hr]
    simp only [cutE, Bool.and_eq_true, decide_eq_true_eq, Bool.not_eq_true', Bool.or_eq_false_iff, Bool.and_eq_false_iff, beq_eq_false_iff_ne, ne_eq]
    constructor
    · rintro ⟨⟨h1, h2⟩, h3⟩; exact ⟨h1, h2, .inl (fun q => huv q.symm), .inr h3⟩
    · rintro ⟨h1, h2, _, h3⟩
      exact ⟨⟨h1, h2⟩, fun q => by rcases h3 with h3 | h3; exact h3 trivial; exact h3 q⟩
  · rw [if_neg e1]
    by_cases e2 : r = u
    · subst e2
      rw [if_pos rfl, testBit_sub1 (lt16_getD h16 _) (by omega), indN_bit hr]
      simp only [cutE, Bool.and_eq_true, decide_eq_true_eq, Bool.not_eq_true', Bool.or_eq_false_iff, Bool.and_eq_false_iff, beq_eq_false_iff_ne, ne_eq]
      constructor
      · rintro ⟨⟨h1, h2⟩, h3⟩; exact ⟨h1, h2, .inr h3, .inl e1⟩
      · rintro ⟨h1, h2, h3, _⟩
        exact ⟨⟨h1, h2⟩, fun q => by rcases h3 with h3 | h3; exact h3 trivial; exact h3 q⟩
    · rw [if_neg e2, indN_bit hr]
      have a1 : (r == u) = false := by simpa using e2
      have a2 : (r == v) = false := by simpa using e1
      simp [cutE, a1, a2]
theorem joinL_cut {n : Nat} {E : Nat → Nat → Bool} {u v : Nat} (hu : u < n) (hv : v < n) (huv : u ≠ v) (h1 : E u v = true) (h2 : E v u = true) : joinL (indN n (cutE E u v)) u v = indN n E := by
  refine natList_ext (by rw [joinL_length, indN_length, indN_length]) fun r hr => ?_
  rw [joinL_length, indN_length] at hr
  refine Nat.eq_of_testBit_eq fun j => ?_
  rw [Bool.eq_iff_iff, joinL_testBit (by rw [indN_length]; exact hu) (by rw [indN_length]; exact hv) huv, indN_bit hr, indN_bit hr]
  simp only [cutE, Bool.and_eq_true, decide_eq_true_eq, Bool.not_eq_true', Bool.or_eq_false_iff, Bool.and_eq_false_iff, beq_eq_false_iff_ne, ne_eq]
  constructor
  · rintro (⟨a, b, _⟩ | ⟨rfl, rfl⟩ | ⟨rfl, rfl⟩)
    · exact ⟨a, b⟩
    · exact ⟨hv, h1⟩
    · exact ⟨hu, h2⟩
  · rintro ⟨a, b⟩
    by_cases c1 : r = u ∧ j = v
    · exact .inr (.inl c1)
    · by_cases c2 : r = v ∧ j = u
      · exact .inr (.inr c2)
      · refine .inl ⟨a, b, ?_, ?_⟩
        · by_cases q : r = u
          · exact .inr fun q2 => c1 ⟨q, q2⟩
          · exact .inl q
        · by_cases q : r = v
          · exact .inr fun q2 => c2 ⟨q, q2⟩
          · exact .inl q

/-- The edges, in order. -/
def edRow (n : Nat) (E : Nat → Nat → Bool) (u : Nat) : List (Nat × Nat) := ((List.range n).filter fun v => decide (u < v) && E u v).map fun v => (u, v)
def edN (n : Nat) (E : Nat → Nat → Bool) (k : Nat) : List (Nat × Nat) := (List.range k).flatMap (edRow n E)
theorem edN_succ (n : Nat) (E : Nat → Nat → Bool) (k : Nat) : edN n E (k + 1) = edN n E k ++ edRow n E k := by simp [edN, List.range_succ, List.flatMap_append]
theorem mem_edN {n : Nat} {E : Nat → Nat → Bool} {k : Nat} (hk : k ≤ n) {e : Nat × Nat} (h : e ∈ edN n E k) : e.1 < n ∧ e.2 < n ∧ e.1 < e.2 ∧ E e.1 e.2 = true := by
  simp only [edN, edRow, List.mem_flatMap, List.mem_range, List.mem_map, List.mem_filter, Bool.and_eq_true, decide_eq_true_eq] at h
  obtain ⟨u, hu, v, ⟨hv, h1, h2⟩, rfl⟩ := h
  exact ⟨by show u < n; omega, hv, h1, h2⟩
theorem edRow_length (n : Nat) (E : Nat → Nat → Bool) (u : Nat) : (edRow n E u).length ≤ n := by
  simp only [edRow, List.length_map]
  exact Nat.le_trans (List.length_filter_le _ _) (by simp)
theorem edN_length (n : Nat) (E : Nat → Nat → Bool) : ∀ k, (edN n E k).length ≤ k * n
  | 0 => by simp [edN]
  | k + 1 => by
    rw [edN_succ, List.length_append]
    have h1 := edN_length n E k
    have h2 := edRow_length n E k
    have : (k + 1) * n = k * n + n := Nat.succ_mul k n
    omega

/-- No way between the ends of an edge without it. -/
def Brd (n : Nat) (E : Nat → Nat → Bool) (e : Nat × Nat) : Prop := ¬ Rch (cutE E e.1 e.2) (· ∈ List.range n) e.1 e.2
noncomputable def brdL (n : Nat) (E : Nat → Nat → Bool) (l : List (Nat × Nat)) : List (Nat × Nat) := l.filter fun e => dec (Brd n E e)
theorem brdL_snoc (n : Nat) (E : Nat → Nat → Bool) (l : List (Nat × Nat)) (e : Nat × Nat) : brdL n E (l ++ [e]) = if dec (Brd n E e) = true then brdL n E l ++ [e] else brdL n E l := by
  unfold brdL
  rw [List.filter_append]
  by_cases h : dec (Brd n E e) = true
  · rw [if_pos h]; simp [List.filter_cons, h]
  · rw [if_neg h]; simp [List.filter_cons, h]
theorem brdL_length (n : Nat) (E : Nat → Nat → Bool) (l : List (Nat × Nat)) : (brdL n E l).length ≤ l.length := List.length_filter_le _ _
theorem mem_brdL {n : Nat} {E : Nat → Nat → Bool} {l : List (Nat × Nat)} {e : Nat × Nat} (h : e ∈ brdL n E l) : e ∈ l := (List.mem_filter.1 h).1
def cutAll (E : Nat → Nat → Bool) (l : List (Nat × Nat)) : Nat → Nat → Bool := l.foldl (fun E e => cutE E e.1 e.2) E
theorem cutAll_snoc (E : Nat → Nat → Bool) (l : List (Nat × Nat)) (e : Nat × Nat) : cutAll E (l ++ [e]) = cutE (cutAll E l) e.1 e.2 := by simp [cutAll]
theorem cutAll_sym {E : Nat → Nat → Bool} (h : ∀ r j, E r j = true → E j r = true) (l : List (Nat × Nat)) : ∀ r j, cutAll E l r j = true → cutAll E l j r = true := by
  induction l generalizing E with
  | nil => exact h
  | cons e l ih => exact ih (cutE_sym h _ _)
theorem cutAll_irr {E : Nat → Nat → Bool} (h : ∀ r, E r r = false) (l : List (Nat × Nat)) : ∀ r, cutAll E l r r = false := by
  induction l generalizing E with
  | nil => exact h
  | cons e l ih => exact ih (cutE_irr h _ _)

/-- Pairs, as rows. -/
def prsL (l : List (Nat × Nat)) : List (List Int) := l.map fun e => [(e.1 : Int), (e.2 : Int)]
theorem prsL_length (l : List (Nat × Nat)) : (prsL l).length = l.length := by simp [prsL]
theorem prsL_snoc (l : List (Nat × Nat)) (e : Nat × Nat) : prsL (l ++ [e]) = prsL l ++ [[(e.1 : Int), (e.2 : Int)]] := by simp [prsL]

/-- What EdgeParts returns. -/
def EpS (g : List (List Int)) (gg : List (List Int)) : Prop :=
  (GOk g ∧ ∃ ps, Parts (cutAll (ofG g) (brdL g.length (ofG g) (edN g.length (ofG g) g.length))) (List.range g.length) ps ∧ gg = ps.map natInts) ∨ (¬ GOk g ∧ gg = [])
theorem epS_det {g gg hh : List (List Int)} (h : EpS g gg) (h2 : EpS g hh) : gg = hh := by
  rcases h with ⟨hg, ps, h, rfl⟩ | ⟨hg, rfl⟩ <;> rcases h2 with ⟨hg2, qs, h2, rfl⟩ | ⟨hg2, rfl⟩
  · rw [parts_det h h2]
  · exact absurd hg hg2
  · exact absurd hg2 hg
  · rfl

end Go.Proofs.YtmakhapdlkbbnaaDoor

/- Walk: the program's parts of a set. -/
namespace Go.Proofs.YtmakhapdlkbbnaaDoor
open Go.RowKit

theorem ty_vsets : SlTy Tryd.prog 75 79 (.int .u32 0) 1 4 := ⟨Tryd.underlying75, by kernel_rfl, rfl, by decide, by decide⟩

theorem Tab.grownP {w w' : World} {r : Option Nat} (h : Tab w) (hg : w.grownBy w' r) (hr : some 0 ≠ r) : Tab w' := fun j hj => hg.cell (a := ⟨_, j, none⟩) (h j hj) hr

/-- Lists, as masks. -/
def mskL (ps : List (List Nat)) : List Nat := ps.map fun l => mask (natInts l)
theorem mskL_snoc (ps : List (List Nat)) (l : List Nat) : mskL (ps ++ [l]) = mskL ps ++ [mask (natInts l)] := by simp [mskL]
theorem mskL_length (ps : List (List Nat)) : (mskL ps).length = ps.length := by simp [mskL]

structure PtI (w wr : World) (x ov : Value) (n : Nat) (E : Nat → Nat → Bool) (W s : Nat) (os : List (List Nat)) : Prop where
  s16 : s < 65536
  sub : ∀ i, s.testBit i = true → i < n
  net : NE wr x n E
  own : wr.ownsRow w.heap.size 79 1 ov os.length ((mskL os).map u32v)
  bel : Below w.heap.size w wr
  on : PartOn E (bitsOf W) os (bitsOf s)
  cnt : os.length + (bitsOf s).length ≤ 32
  lt : ∀ l ∈ os, l.Pairwise (· < ·) ∧ ∀ i ∈ l, i < n
  tab : Tab wr
  tpos : 0 < w.heap.size

set_option maxRecDepth 100000 in
set_option maxHeartbeats 4000000 in
theorem partsOf_any (x : Value) (y : Int) (n : Nat) (E : Nat → Nat → Bool) (W : Nat) (hy : y = W) (hW : W < 65536) (hWn : ∀ i, W.testBit i = true → i < n) (w : World) (hx : NE w x n E) (hT : Tab w) :
    Calls Tryd.prog 97 #[x, .int .u32 y] w fun e w' => ∃ (ov : Value) (ps : List (List Nat)), e = .returned ov ∧ Parts E (bitsOf W) ps ∧
      w'.ownsRow w.heap.size 79 1 ov ps.length ((mskL ps).map u32v) ∧ ps.length ≤ 32 ∧ (∀ l ∈ ps, l.Pairwise (· < ·) ∧ ∀ i ∈ l, i < n) ∧ Tab w' ∧ Below w.heap.size w w' := by
  subst hy
  have hle := hx.le
  have hbA := below_alloc w (.cells #[] 79)
  have START := Lib.hid (show PtI w (w.alloc (.cells #[] 79)) x (.slice (some ⟨w.heap.size, 0, none⟩) 0 0) n E W W [] from
    { s16 := hW, sub := hWn, net := hx.next hbA, own := ownsRow_empty _ _ _, bel := hbA, on := partOn_start _ _, cnt := by have := bitsOf_length W; simp; omega, lt := by simp, tab := hT.keep hbA, tpos := hT.pos })
  obtain ⟨xp, xc, rfl⟩ : ∃ p c, x = .slice p n c := by obtain ⟨p, c, e, _⟩ := hx.sl; exact ⟨p, c, e⟩
  have HX := Lib.hid hx
  clear hbA hx hT hWn
  go_enter Tryd.func97, Tryd.ntmps97
  go_wp2
  go_loopw [1, 5] (fun s1 s5 wr => ∃ (s : Nat) (os : List (List Nat)), s1 = .int .u32 (s : Int) ∧ PtI w wr (.slice xp n xc) s5 n E W s os) (fun s1 _ _ => (bitsOf (intOf s1).toNat).length)
  case atStart => exact ⟨W, [], rfl, START.out⟩
  case round =>
    clear START
    obtain ⟨s, os, rfl, hI⟩ := hrel
    obtain ⟨op, oc, rfl⟩ : ∃ p c, u5 = .slice p os.length c := by
      rcases hI.own.2 with ⟨h1, h2⟩ | ⟨g1, cap, cur, h1, _⟩
      · exact ⟨none, 0, by rw [h1, h2]⟩
      · exact ⟨_, _, h1⟩
    have HI := Lib.hid hI
    have hs16 := hI.s16
    have hcnt := hI.cnt
    clear hI
    by_cases h0 : s = 0
    · have h0' : ((s : Int) != 0) = false := by simp [h0]
      have H0 := Lib.hid h0
      clear h0
      go_wp2
      go_ret
      have hon := HI.out.on
      rw [H0.out, bitsOf_zero] at hon
      exact ⟨_, os, rfl, partOn_stop hon, HI.out.own, by omega, HI.out.lt, HI.out.tab, HI.out.bel⟩
    · have h0' : ((s : Int) != 0) = true := by simp; omega
      have hst := bitsOf_step s h0 (by omega)
      obtain ⟨hub, hu32, _⟩ := testBit_ctz s h0 (by omega)
      have H0 := Lib.hid h0
      obtain ⟨u, hu⟩ : ∃ u, u = Lib.ctz 32 s := ⟨_, rfl⟩
      rw [← hu] at hst hub hu32
      have HU := Lib.hid hu
      have HST := Lib.hid hst
      have HUB := Lib.hid hub
      have hos : os.length < 1000000000 := by omega
      have hown := HI.out.own
      have htab := HI.out.tab
      clear h0 hu hst hub
      go_wp2_with (first
        | (at_builtin; refine wpList_app1 ty_vsets rfl rfl rfl ho4 rfl rfl hos (by have := HI.out.bel.size; have := hb4.size; omega) ?_; intro v' w5 hown' hg _)
        | (go_at_call 175; refine (reach_any _ _ _ n E u s rfl rfl hs16 HI.out.sub HUB.out _ HI.out.net htab).mono ?_; rintro e w4 ⟨m, rfl, hm16, hmb, hb4⟩; have ho4 := ownsRow_below hown hb4; have HM := Lib.hid hmb; have hmi : ((m : Nat) : Int) < 4294967296 := (by omega))
        | (go_at_call 108; refine (least_any _ s rfl H0.out (by omega) _ htab).mono ?_; rintro e w3 ⟨he3, rfl⟩; rw [← HU.out] at he3; subst he3))
      have hand : bits BinOp.andNot IntKind.u32 (s : Int) (m : Int) = ((sub s m : Nat) : Int) := u32_andNot_nat s m (by omega) (by omega)
      have hM' : m = mask (natInts (partL E (bitsOf s) u)) := Nat.eq_of_testBit_eq fun i => by
        rw [Bool.eq_iff_iff, mask_bit, decide_eq_true_eq]
        exact HM.out i
      have hrest : bitsOf (sub s m) = restL E (bitsOf s) u := by
        refine rising_ext _ _ (bitsOf_rising _) (restL_rising (bitsOf_rising _) u) fun i => ?_
        rw [mem_left (sub_lt16 _ _ hs16), testBit_sub s m (by omega) (by omega), mem_restL, mem_left hs16, Bool.and_eq_true, Bool.not_eq_true', Bool.eq_false_iff]
        constructor
        · rintro ⟨h1, h2⟩
          exact ⟨h1, fun hr => h2 ((HM.out i).2 (mem_partL.2 ⟨(mem_left hs16).2 h1, hr⟩))⟩
        · rintro ⟨h1, h2⟩
          exact ⟨h1, fun hm => h2 (mem_partL.1 ((HM.out i).1 hm)).2⟩
      have hlt := restL_lt (E := E) (L := bitsOf s) (u := u) ((mem_left hs16).2 HUB.out)
      have hon := HI.out.on
      rw [HST.out] at hon
      have hon2 := partOn_step hon
      rw [← HST.out, ← hrest] at hon2
      rw [← hrest] at hlt
      have hb5 := below_grown (HI.out.bel.trans (hb4.mono HI.out.bel.size)) ho4 hg (Nat.le_refl _) (by have := HI.out.bel.size; have := hb4.size; omega)
      go_roundw
      case rel =>
        refine ⟨sub s m, os ++ [partL E (bitsOf s) u], val_int hand, ?_⟩
        exact { s16 := sub_lt16 _ _ hs16
                sub := fun i hi => HI.out.sub i (by rw [testBit_sub s m (by omega) (by omega)] at hi; simp only [Bool.and_eq_true] at hi; exact hi.1)
                net := HX.out.next hb5
                own := by rw [mskL_snoc, ← hM', List.map_append, List.length_append]; exact hown'
                bel := hb5
                on := hon2
                cnt := by rw [List.length_append]; simp; omega
                lt := fun l hl => by
                  rcases List.mem_append.1 hl with h | h
                  · exact HI.out.lt l h
                  · simp only [List.mem_singleton] at h
                    subst h
                    exact ⟨partL_rising (bitsOf_rising _) u, fun i hi => HI.out.sub i ((mem_left hs16).1 (mem_partL.1 hi).1)⟩
                tab := (htab.keep hb4).grownP hg (fun e => by
                  have := (ho4.lt _ e.symm).1
                  have := HI.out.tpos
                  omega)
                tpos := HI.out.tpos }
      case measure =>
        rw [hand]
        simp [intOf]
        omega

end Go.Proofs.YtmakhapdlkbbnaaDoor

/- Walks: two vertices made no neighbours; the program's edges. -/
namespace Go.Proofs.YtmakhapdlkbbnaaDoor
open Go.RowKit

end Go.Proofs.YtmakhapdlkbbnaaDoor
