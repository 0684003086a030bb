/- Walk: the program's edges. -/
import Derived.Test.YtfokiijcpkhllaaDoorDsQ23
import Derived.Test.YtfokiijcpkhllaaDoorDsQ26
import Derived.Test.YtfokiijcpkhllaaDoorDsQ15
import Derived.Test.YtfokiijcpkhllaaDoorDsQ4
import Derived.Test.YtfokiijcpkhllaaDoorDsQ24
namespace Go.Proofs.YtfokiijcpkhllaaDoor
open Go.RowKit

theorem owns_shapeE {w : World} {base : Nat} {E : TypeId} {size n : Nat} {v : Value} {xs : List Value} (h : w.ownsRow base E size v n xs) : ∃ p c, v = .slice p n c := by
  rcases h.2 with ⟨rfl, h0⟩ | ⟨b, c, _, rfl, _⟩
  · exact ⟨none, 0, by rw [h0]⟩
  · exact ⟨_, _, rfl⟩
theorem get_getDP {α : Type} (l : List α) (k : Nat) (d : α) (h : k < l.length) : l[k]? = some (l.getD k d) := by simp [h]

/-- A row of pairs, the outer row the callee's own. -/
def PrsO (w : World) (base : Nat) (ov : Value) (l : List (Nat × Nat)) : Prop :=
  ∃ vals, vals.length = l.length ∧ w.ownsRow base 32 1 ov l.length vals ∧ ∀ j, j < l.length → Nums w 2 .i64 (vals.getD j undef) (row (prsL l) j)
theorem row_prsL {l : List (Nat × Nat)} {j : Nat} (h : j < l.length) : row (prsL l) j = [(l[j].1 : Int), (l[j].2 : Int)] := by simp [row, prsL, h]
theorem PrsO.below {w w' : World} {base : Nat} {ov : Value} {l : List (Nat × Nat)} (h : PrsO w base ov l) (hb : Below w.heap.size w w') : PrsO w' base ov l := by
  obtain ⟨vals, h1, h2, h3⟩ := h
  exact ⟨vals, h1, ownsRow_below h2 hb, fun j hj => (h3 j hj).below hb⟩
theorem PrsO.shape {w : World} {base : Nat} {ov : Value} {l : List (Nat × Nat)} (h : PrsO w base ov l) : ∃ p c, ov = .slice p l.length c := by
  obtain ⟨vals, _, h2, _⟩ := h
  exact owns_shapeE h2
theorem PrsO.base {w : World} {base base' : Nat} {ov : Value} {l : List (Nat × Nat)} (h : PrsO w base ov l) (hb : base' ≤ base) : PrsO w base' ov l := by
  obtain ⟨vals, h1, h2, h3⟩ := h
  exact ⟨vals, h1, ownsRow_base h2 hb, h3⟩
theorem PrsO.nil (w : World) (base : Nat) (hb : base ≤ w.heap.size) : PrsO (w.alloc (.cells #[] 32)) base (.slice (some ⟨w.heap.size, 0, none⟩) 0 0) [] :=
  ⟨[], rfl, ownsRow_base (ownsRow_empty w 32 1) hb, fun j hj => by simp at hj⟩
/-- What is appended. -/
theorem PrsO.snoc {w w' : World} {base : Nat} {ov ov' rv : Value} {l : List (Nat × Nat)} {e : Nat × Nat} {vals : List Value} (hl : vals.length = l.length) (ho : w.ownsRow base 32 1 ov l.length vals) (hr : ∀ j, j < l.length → Nums w 2 .i64 (vals.getD j undef) (row (prsL l) j))
    (ho' : w'.ownsRow base 32 1 ov' (l.length + 1) (vals ++ [rv])) (hg : w.grownBy w' ov.ownBlock) (hn : Nums w 2 .i64 rv [(e.1 : Int), (e.2 : Int)]) : PrsO w' base ov' (l ++ [e]) := by
  refine ⟨vals ++ [rv], by simp [hl], by rw [List.length_append]; exact ho', fun j hj => ?_⟩
  rw [List.length_append] at hj
  by_cases h : j < l.length
  · rw [getD_append_left _ _ _ _ (by omega)]
    have e2 : row (prsL (l ++ [e])) j = row (prsL l) j := by rw [row_prsL (by rw [List.length_append]; omega), row_prsL h]; simp [h]
    rw [e2]
    exact (hr j h).other ho hg (by decide)
  · have hj' : j = l.length := by simp at hj; omega
    subst hj'
    rw [← hl, getD_append_last, hl]
    have e2 : row (prsL (l ++ [e])) l.length = [(e.1 : Int), (e.2 : Int)] := by rw [row_prsL (by rw [List.length_append]; simp)]; simp
    rw [e2]
    exact hn.other ho hg (by decide)
theorem PrsO.get {w : World} {base : Nat} {p : Option Addr} {n c : Nat} {l : List (Nat × Nat)} (h : PrsO w base (.slice p n c) l) {k : Nat} (hk : k < l.length) :
    ∃ b o rp rc, p = some ⟨b, o, none⟩ ∧ w.cell? ⟨b, o + k, none⟩ = some (.slice rp 2 rc) ∧ Nums w 2 .i64 (.slice rp 2 rc) [(l[k].1 : Int), (l[k].2 : Int)] := by
  obtain ⟨vals, h1, h2, h3⟩ := h
  have hn := h3 k hk
  rw [row_prsL hk] at hn
  obtain ⟨rp, rc, hv, _⟩ := id hn.shape
  rcases h2.2 with ⟨_, h0⟩ | ⟨g, cap, _, e, _⟩
  · omega
  · simp only [Value.slice.injEq] at e
    obtain ⟨rfl, rfl, rfl⟩ := e
    have hc := h2.cellAt k (by omega)
    rw [get_getDP vals k undef (by omega), hv] at hc
    rw [hv] at hn
    exact ⟨g, 0, rp, rc, rfl, by rw [Nat.zero_add]; exact hc, hn⟩

def edT (g : List (List Int)) (k t : Nat) : List (Nat × Nat) := (((row g k).take t).filter fun x => decide ((k : Int) < x)).map fun x => (k, x.toNat)
theorem edT_succ {g : List (List Int)} {k t : Nat} (h : t < (row g k).length) : edT g k (t + 1) = if (k : Int) < (row g k)[t] then edT g k t ++ [(k, (row g k)[t].toNat)] else edT g k t := by
  unfold edT
  rw [take_snoc _ t h, List.filter_append]
  split
  · rename_i hc; rw [List.filter_cons_of_pos (by simpa using hc)]; simp
  · rename_i hc; rw [List.filter_cons_of_neg (by simpa using hc)]; simp
theorem edT_len (g : List (List Int)) (k t : Nat) : (edT g k t).length ≤ (row g k).length := by
  simp only [edT, List.length_map]
  exact Nat.le_trans (List.length_filter_le _ _) (by rw [List.length_take]; omega)
theorem edT_end {g : List (List Int)} (hg : GOk g) {k : Nat} (hk : k < g.length) : edT g k (row g k).length = edRow g.length (ofG g) k := by
  unfold edT edRow
  rw [List.take_length]
  have hs := hg.sets k hk
  have e : ((row g k).filter fun x => decide ((k : Int) < x)).map Int.toNat = (List.range g.length).filter fun v => decide (k < v) && ofG g k v := by
    refine rising_ext _ _ ?_ (List.Pairwise.filter _ List.pairwise_lt_range) fun x => ?_
    · rw [List.pairwise_map]
      refine (List.Pairwise.filter _ hs.1.2).imp_of_mem fun {a b} ha hb h => ?_
      have h1 := (List.mem_filter.1 ha).1
      have h2 := (hs.1.1 a h1).1
      omega
    · simp only [List.mem_map, List.mem_filter, List.mem_range, decide_eq_true_eq, Bool.and_eq_true, ofG]
      constructor
      · rintro ⟨y, ⟨hy, h1⟩, rfl⟩
        have h2 := hs.1.1 y hy
        refine ⟨by omega, by omega, ?_⟩
        rw [Int.toNat_of_nonneg h2.1]; exact hy
      · rintro ⟨h1, h2, h3⟩
        exact ⟨(x : Int), ⟨h3, by omega⟩, by simp⟩
  rw [← e, List.map_map]
  rfl

set_option maxRecDepth 100000 in
set_option maxHeartbeats 4000000 in
theorem edgesC_any (v : Value) (g : List (List Int)) (hok : GOk g) (w : World) (hg : Gr w v g) :
    Calls Tryd.prog 94 #[v] w fun e w' => ∃ u : Value, e = .returned u ∧ PrsO w' w.heap.size u (edN g.length (ofG g) g.length) ∧ Below w.heap.size w w' := by
  have hg0 := hg
  obtain ⟨u, rfl, hr⟩ := hg
  obtain ⟨p, c, rfl, _⟩ := hr.shape
  have h16 := hok.le
  have hbA := below_alloc w (.cells #[.slice p g.length c] 29)
  have HB := Lib.hid hbA
  have H2 := Lib.hid (gOk_row_le hok)
  have HOK := Lib.hid hok
  have HR := Lib.hid hr
  have HC : Hid (∀ k, k ≤ g.length → (edN g.length (ofG g) k).length ≤ 256) := Lib.hid fun k hk => by
    have := edN_length g.length (ofG g) k
    have : k * g.length ≤ 16 * 16 := Nat.mul_le_mul (by omega) h16
    omega
  clear hr hg0 hbA hok
  go_enter Tryd.func94, Tryd.ntmps94
  go_wp2
  go_loopw [3, 12] (fun u i wr => ∃ k : Nat, k ≤ g.length ∧ i = .int .i64 k ∧ PrsO wr (w.heap.size + 1) u (edN g.length (ofG g) k) ∧ Below w.heap.size w wr)
    (fun _ i _ => g.length - (intOf i).toNat)
  case atStart => exact ⟨0, Nat.zero_le _, rfl, by have := PrsO.nil (w.alloc (.cells #[.slice p g.length c] 29)) (w.heap.size + 1) (by rw [size_alloc]; omega); rw [size_alloc] at this; exact this, HB.out.alloc HB.out.size _⟩
  case round =>
    obtain ⟨k, hk, rfl, hown, hbel⟩ := hrel
    obtain ⟨outp, outc, rfl⟩ := hown.shape
    have Hown := Lib.hid hown
    have hsz := hbel.size
    clear hown
    by_cases hlt : k < g.length
    · obtain ⟨b, o, rp, rc, rfl, hcell, hnums⟩ := (HR.out.below hbel).get hlt
      change wr.cell? _ = some (.slice rp (row g k).length rc) at hcell
      have Hnums2 : Hid (Nums wr 2 .i64 (.slice rp (row g k).length rc) (row g k)) := Lib.hid hnums
      have hlen2 := H2.out k hlt
      have hck := HC.out k hk
      have HEND := Lib.hid (edT_end HOK.out hlt)
      clear hnums
      go_wp2
      have START : Hid (PrsO wr (w.heap.size + 1) (.slice outp (edN g.length (ofG g) k).length outc) (edN g.length (ofG g) k ++ edT g k 0)) := Lib.hid (by
        have : edT g k 0 = [] := by simp [edT]
        rw [this, List.append_nil]; exact Hown.out)
      have HBEL := Lib.hid hbel
      go_loopw [3, 19] (fun u i wx => ∃ t : Nat, t ≤ (row g k).length ∧ i = .int .i64 t ∧ PrsO wx (w.heap.size + 1) u (edN g.length (ofG g) k ++ edT g k t) ∧ Below w.heap.size w wx ∧ Nums wx 2 .i64 (.slice rp (row g k).length rc) (row g k))
        (fun _ i _ => (row g k).length - (intOf i).toNat)
      case atStart => exact ⟨0, Nat.zero_le _, rfl, START.out, HBEL.out, Hnums2.out⟩
      case round =>
        clear START Hown hbel HBEL hsz hcell Hnums2
        obtain ⟨t, ht, rfl, hown, hbel, hnums⟩ := hrel
        have hsz := hbel.size
        obtain ⟨outp, outc, rfl⟩ := hown.shape
        have Hnums := Lib.hid hnums
        have hte := edT_len g k t
        by_cases hlt2 : t < (row g k).length
        · obtain ⟨rb, ro, rfl, hcx⟩ := hnums.get hlt2
          have hsucc := Lib.hid (edT_succ (g := g) (k := k) hlt2)
          have hX0 := Lib.hid (((HOK.out.sets k hlt).1.1 _ (List.getElem_mem hlt2)).1)
          by_cases hgt : (k : Int) < (row g k)[t]
          · generalize (row g k)[t] = X at hcx hgt hsucc hX0
            obtain ⟨vals, hv1, hv2, hv3⟩ := hown
            have hll : (edN g.length (ofG g) k ++ edT g k t).length < 1000000000 := by rw [List.length_append]; omega
            have HV3 := Lib.hid hv3
            have HV1 := Lib.hid hv1
            clear hnums hv3 hv1 hte
            generalize hq : (edN g.length (ofG g) k ++ edT g k t).length = q at hll hv2
            go_wp2_with (at_builtin; refine wpList_app1s ty_rows64 rfl rfl rfl (hv2.alloc (.cells #[.int .i64 k, .int .i64 X] 2)) (by rw [size_alloc]; rfl) rfl hll (by rw [size_alloc]; omega) ?_; intro b7 c8 w7 hown7 hg7 _)
            go_roundw
            case rel =>
              have ha := below_alloc wr (.cells #[.int .i64 k, .int .i64 X] 2)
              have hrow : Nums (wr.alloc (.cells #[.int .i64 k, .int .i64 X] 2)) 2 .i64 (.slice (some ⟨wr.heap.size, 0, none⟩) 2 2) [((k : Nat) : Int), ((X.toNat : Nat) : Int)] := by
                rw [Int.toNat_of_nonneg hX0.out]
                exact Nums.of_owns (World.ownsRow_lit (size := 1) wr #[.int .i64 k, .int .i64 X] 2 (Nat.le_refl wr.heap.size) (by decide) rfl) rfl (by decide)
              subst hq
              refine ⟨t + 1, by omega, by go_num, ?_, below_grown (hbel.alloc hsz _) (hv2.alloc _) hg7 (by omega) (by rw [size_alloc]; omega), (Hnums.out.below ha).other (hv2.alloc _) hg7 (by decide)⟩
              rw [hsucc.out, if_pos hgt, ← List.append_assoc]
              exact PrsO.snoc (e := (k, X.toNat)) HV1.out (hv2.alloc _) (fun j hj => (HV3.out j hj).below ha) hown7 hg7 hrow
            case measure => simp [intOf]; omega
          · have Hown := Lib.hid hown
            generalize (row g k)[t] = X at hcx hgt hsucc hX0
            clear hown hnums
            go_wp2
            go_roundw
            case rel => exact ⟨t + 1, by omega, by go_num, by rw [hsucc.out, if_neg hgt]; exact Hown.out, hbel, Hnums.out⟩
            case measure => simp [intOf]; omega
        · obtain rfl : t = (row g k).length := by omega
          have Hown := Lib.hid hown
          clear hown hnums
          go_wp2
          go_roundw
          case rel =>
            refine ⟨k + 1, by omega, by go_num, ?_, hbel⟩
            rw [edN_succ, ← HEND.out]
            exact Hown.out
          case measure => simp [intOf]; omega
    · obtain rfl : k = g.length := by omega
      go_wp2
      go_ret
      exact ⟨_, rfl, Hown.out.base (by omega), hbel⟩

end Go.Proofs.YtfokiijcpkhllaaDoor

/- Plain: lists that go along edges; read backwards; when one can go along all edges. -/
namespace Go.Proofs.YtfokiijcpkhllaaDoor

/-- The same edge. -/
def sameP (e f : Nat × Nat) : Bool := (e.1 == f.1 && e.2 == f.2) || (e.1 == f.2 && e.2 == f.1)
theorem sameP_iff {e f : Nat × Nat} : sameP e f = true ↔ (e.1 = f.1 ∧ e.2 = f.2) ∨ (e.1 = f.2 ∧ e.2 = f.1) := by simp [sameP]
theorem sameP_symm {e f : Nat × Nat} : sameP e f = sameP f e := by
  rw [Bool.eq_iff_iff, sameP_iff, sameP_iff]
  constructor <;> rintro (⟨h1, h2⟩ | ⟨h1, h2⟩)
  · exact .inl ⟨h1.symm, h2.symm⟩
  · exact .inr ⟨h2.symm, h1.symm⟩
  · exact .inl ⟨h1.symm, h2.symm⟩
  · exact .inr ⟨h2.symm, h1.symm⟩
theorem cutE_same (E : Nat → Nat → Bool) (p q r j : Nat) : cutE E p q r j = (E r j && !sameP (p, q) (r, j)) := by
  rw [Bool.eq_iff_iff]
  simp only [cutE, sameP, Bool.and_eq_true, Bool.not_eq_true', Bool.or_eq_false_iff, Bool.and_eq_false_iff, beq_eq_false_iff_ne]
  constructor
  · rintro ⟨h, h1, h2⟩
    refine ⟨h, ?_, ?_⟩
    · rcases h1 with h1 | h1
      · exact .inl fun e => h1 e.symm
      · exact .inr fun e => h1 e.symm
    · rcases h2 with h2 | h2
      · exact .inr fun e => h2 e.symm
      · exact .inl fun e => h2 e.symm
  · rintro ⟨h, h1, h2⟩
    refine ⟨h, ?_, ?_⟩
    · rcases h1 with h1 | h1
      · exact .inl fun e => h1 e.symm
      · exact .inr fun e => h1 e.symm
    · rcases h2 with h2 | h2
      · exact .inr fun e => h2 e.symm
      · exact .inl fun e => h2 e.symm
/-- The edges along a list. -/
def stepsL : Nat → List Nat → List (Nat × Nat)
  | _, [] => []
  | v, u :: l => (v, u) :: stepsL u l
theorem stepsL_length : ∀ (v : Nat) (l : List Nat), (stepsL v l).length = l.length
  | _, [] => rfl
  | v, u :: l => by simp [stepsL, stepsL_length u l]
theorem cutAll_cons (E : Nat → Nat → Bool) (e : Nat × Nat) (es : List (Nat × Nat)) : cutAll E (e :: es) = cutAll (cutE E e.1 e.2) es := rfl
theorem cutAll_at (es : List (Nat × Nat)) : ∀ (E : Nat → Nat → Bool) (r j : Nat), cutAll E es r j = (E r j && es.all fun e => !sameP e (r, j)) := by
  induction es with
  | nil => intro E r j; simp [cutAll]
  | cons e es ih =>
    intro E r j
    rw [cutAll_cons, ih, cutE_same, List.all_cons, Bool.and_assoc]
/-- Each edge is there when it is used. -/
def OkF : (Nat → Nat → Bool) → List (Nat × Nat) → Prop
  | _, [] => True
  | E, e :: es => E e.1 e.2 = true ∧ OkF (cutE E e.1 e.2) es
theorem okF_iff : ∀ (es : List (Nat × Nat)) (E : Nat → Nat → Bool), OkF E es ↔ (∀ e ∈ es, E e.1 e.2 = true) ∧ es.Pairwise fun e f => sameP e f = false
  | [], E => by simp [OkF]
  | e :: es, E => by
    rw [OkF, okF_iff es, List.pairwise_cons]
    constructor
    · rintro ⟨h1, h2, h3⟩
      refine ⟨fun f hf => ?_, fun f hf => ?_, h3⟩
      · rcases List.mem_cons.1 hf with rfl | hf
        · exact h1
        · have := h2 f hf
          rw [cutE_same] at this
          exact (Bool.and_eq_true_iff.1 this).1
      · have := h2 f hf
        rw [cutE_same] at this
        simpa using (Bool.and_eq_true_iff.1 this).2
    · rintro ⟨h1, h2, h3⟩
      refine ⟨h1 e (by simp), fun f hf => ?_, h3⟩
      rw [cutE_same, h1 f (by simp [hf]), h2 f hf]
      rfl
theorem stepsL_append : ∀ (v : Nat) (l : List Nat) (u : Nat), stepsL v (l ++ [u]) = stepsL v l ++ [((v :: l).getLastD 0, u)]
  | v, [], u => by simp [stepsL]
  | v, x :: l, u => by
    rw [List.cons_append, stepsL, stepsL, stepsL_append x l u]
    simp
/-- Read backwards. -/
def swapP (e : Nat × Nat) : Nat × Nat := (e.2, e.1)
def backL (v : Nat) (l : List Nat) : List Nat := (v :: l).reverse.tail
theorem steps_back : ∀ (l : List Nat) (v : Nat), stepsL ((v :: l).getLastD 0) (backL v l) = ((stepsL v l).map swapP).reverse
  | [], v => by simp [stepsL, backL]
  | u :: l, v => by
    have ih := steps_back l u
    have e1 : (v :: u :: l).getLastD 0 = (u :: l).getLastD 0 := by simp
    have hne : (u :: l).reverse ≠ [] := by simp
    have e2 : backL v (u :: l) = backL u l ++ [v] := by
      unfold backL
      rw [List.reverse_cons (a := v)]
      cases h : (u :: l).reverse with
      | nil => exact absurd h hne
      | cons a t => simp
    have e3 : (((u :: l).getLastD 0) :: backL u l).getLastD 0 = u := by
      have : ((u :: l).getLastD 0) :: backL u l = (u :: l).reverse := by
        unfold backL
        cases h : (u :: l).reverse with
        | nil => exact absurd h hne
        | cons a t =>
          have h2 : (u :: l) = (a :: t).reverse := by rw [← h, List.reverse_reverse]
          rw [h2]
          simp
      rw [this, List.reverse_cons, List.getLastD_eq_getLast?]
      simp
    rw [e1, e2, stepsL_append, ih, e3, stepsL]
    simp [swapP]
theorem okF_back {E : Nat → Nat → Bool} (hs : ∀ r j, E r j = true → E j r = true) {es : List (Nat × Nat)} (h : OkF E es) : OkF E (es.map swapP).reverse := by
  rw [okF_iff] at h ⊢
  refine ⟨fun e he => ?_, ?_⟩
  · rw [List.mem_reverse, List.mem_map] at he
    obtain ⟨f, hf, rfl⟩ := he
    exact hs _ _ (h.1 f hf)
  · rw [List.pairwise_reverse, List.pairwise_map]
    refine h.2.imp fun {a b} hab => ?_
    rw [sameP_symm]
    have e : sameP (swapP a) (swapP b) = sameP a b := by
      rw [Bool.eq_iff_iff, sameP_iff, sameP_iff]
      simp only [swapP]
      constructor <;> rintro (⟨h1, h2⟩ | ⟨h1, h2⟩)
      · exact .inl ⟨h2, h1⟩
      · exact .inr ⟨h2, h1⟩
      · exact .inl ⟨h2, h1⟩
      · exact .inr ⟨h2, h1⟩
    rw [e]; exact hab
theorem cut_back (E : Nat → Nat → Bool) (es : List (Nat × Nat)) : cutAll E (es.map swapP).reverse = cutAll E es := by
  funext r j
  rw [cutAll_at, cutAll_at, List.all_reverse, List.all_map]
  congr 2
  funext e
  simp only [Function.comp]
  congr 1
  rw [Bool.eq_iff_iff, sameP_iff, sameP_iff]
  simp only [swapP]
  constructor <;> rintro (⟨h1, h2⟩ | ⟨h1, h2⟩)
  · exact .inr ⟨h2, h1⟩
  · exact .inl ⟨h2, h1⟩
  · exact .inr ⟨h2, h1⟩
  · exact .inl ⟨h2, h1⟩

/-- Nothing is left. -/
def NoE (n : Nat) (E : Nat → Nat → Bool) : Prop := ∀ x, x < n → degN n E x = 0
/-- The list goes along each edge once. -/
def TrlOk (n : Nat) (E : Nat → Nat → Bool) (v : Nat) (l : List Nat) : Prop := (∀ x ∈ v :: l, x < n) ∧ OkF E (stepsL v l) ∧ NoE n (cutAll E (stepsL v l))
theorem trl_in {n : Nat} {E : Nat → Nat → Bool} {v : Nat} {l : List Nat} (h : Trl n E v l) : ∀ x ∈ l, x < n := by
  induction h with
  | done _ _ _ => intro x hx; simp at hx
  | step E v u l _ h2 _ ih =>
    intro x hx
    rcases List.mem_cons.1 hx with rfl | hx
    · exact List.mem_range.1 (List.mem_of_find?_eq_some h2)
    · exact ih x hx
theorem next_tr {n : Nat} {E : Nat → Nat → Bool} {v u : Nat} (h : nextT n E v = some u) : u < n ∧ E v u = true ∧ Tr n (cutE E v u) u := by
  have h1 := List.mem_range.1 (List.mem_of_find?_eq_some h)
  have h2 := List.find?_some h
  obtain ⟨h3, h4⟩ := Bool.and_eq_true_iff.1 h2
  exact ⟨h1, h3, dec_iff.1 h4⟩
theorem trl_ok {n : Nat} {E : Nat → Nat → Bool} {v : Nat} {l : List Nat} (h : Trl n E v l) : v < n → Tr n E v → OkF E (stepsL v l) ∧ NoE n (cutAll E (stepsL v l)) := by
  induction h with
  | done E v h0 =>
    intro hv hT
    refine ⟨trivial, fun x hx => ?_⟩
    have h1 := tr_left hv hT
    rcases Nat.eq_zero_or_pos (degN n E x) with h2 | h2
    · exact h2
    · have := h1.2 ⟨x, hx, h2⟩
      omega
  | step E v u l h1 h2 _ ih =>
    intro hv hT
    obtain ⟨hu, hE, hT2⟩ := next_tr h2
    obtain ⟨k1, k2⟩ := ih hu hT2
    exact ⟨⟨hE, k1⟩, k2⟩
theorem trl_trlOk {n : Nat} {E : Nat → Nat → Bool} {v : Nat} {l : List Nat} (h : Trl n E v l) (hv : v < n) (hT : Tr n E v) : TrlOk n E v l := by
  obtain ⟨h1, h2⟩ := trl_ok h hv hT
  refine ⟨fun x hx => ?_, h1, h2⟩
  rcases List.mem_cons.1 hx with rfl | hx
  · exact hv
  · exact trl_in h x hx
theorem last_mem (v : Nat) (l : List Nat) : (v :: l).getLastD 0 ∈ v :: l := by
  rw [List.getLastD_eq_getLast?]
  cases h : (v :: l).getLast? with
  | none => simp at h
  | some a => exact List.mem_of_getLast? h
theorem rev_back (v : Nat) (l : List Nat) : (v :: l).reverse = (v :: l).getLastD 0 :: backL v l := by
  unfold backL
  cases h : (v :: l).reverse with
  | nil => simp at h
  | cons a t =>
    have h2 : (v :: l) = (a :: t).reverse := by rw [← h, List.reverse_reverse]
    rw [h2]
    simp
theorem trlOk_back {n : Nat} {E : Nat → Nat → Bool} (hs : ∀ r j, E r j = true → E j r = true) {v : Nat} {l : List Nat} (h : TrlOk n E v l) : TrlOk n E ((v :: l).getLastD 0) (backL v l) := by
  refine ⟨fun x hx => ?_, ?_, ?_⟩
  · rw [← rev_back, List.mem_reverse] at hx
    exact h.1 x hx
  · rw [steps_back]; exact okF_back hs h.2.1
  · rw [steps_back, cut_back]; exact h.2.2
/-- Odd ones are the ends. -/
theorem trl_ends {n : Nat} : ∀ (l : List Nat) (E : Nat → Nat → Bool) (v : Nat), (∀ r, E r r = false) → (∀ r j, E r j = true → E j r = true) → v < n → (∀ x ∈ l, x < n) → OkF E (stepsL v l) → NoE n (cutAll E (stepsL v l)) → ∀ x, x < n → degN n E x % 2 = ((if x = v then 1 else 0) + (if x = (v :: l).getLastD 0 then 1 else 0)) % 2
  | [], E, v, _, _, _, _, _, h0, x, hx => by
    have := h0 x hx
    simp only [stepsL, cutAll, List.foldl_nil] at this
    rw [this]
    by_cases e : x = v
    · simp [e]
    · simp [e]
  | u :: l, E, v, hi, hs, hv, hl, hok, h0, x, hx => by
    have hu : u < n := hl u (by simp)
    have hE := hok.1
    simp only at hE
    have hvu : v ≠ u := fun e => by subst e; rw [hi] at hE; exact absurd hE (by decide)
    have ih := trl_ends l (cutE E v u) u (cutE_irr hi v u) (cutE_sym hs v u) hu (fun y hy => hl y (by simp [hy])) hok.2 h0 x hx
    have e1 : (v :: u :: l).getLastD 0 = (u :: l).getLastD 0 := by simp
    rw [e1]
    by_cases h1 : x = v
    · subst h1
      have := degN_cut_p hu hvu hE
      have h2 : ¬ x = u := hvu
      simp only [h2, if_false] at ih
      simp only [if_true]
      omega
    · by_cases h2 : x = u
      · subst h2
        have := degN_cut_q hv hvu (hs _ _ hE)
        simp only [if_true] at ih
        simp only [h1, if_false]
        omega
      · have := degN_cut_o (n := n) (E := E) h1 h2
        simp only [h2, if_false] at ih
        simp only [h1, if_false]
        omega
/-- Twice the edges used are the degrees used. -/
theorem totN_cut2 {n : Nat} {E : Nat → Nat → Bool} {v u : Nat} (hs : ∀ r j, E r j = true → E j r = true) (hi : ∀ r, E r r = false) (hv : v < n) (hu : u < n) (h : E v u = true) : totN n E = totN n (cutE E v u) + 2 := by
  have hvu : v ≠ u := fun e => by subst e; rw [hi] at h; exact absurd h (by decide)
  have h1 := degN_cut_p hu hvu h
  have h2 := degN_cut_q hv hvu (hs _ _ h)
  have key : ∀ l : List Nat, l.Nodup → (l.map (degN n E)).sum = (l.map (degN n (cutE E v u))).sum + ((if v ∈ l then 1 else 0) + (if u ∈ l then 1 else 0)) := by
    intro l
    induction l with
    | nil => intro _; simp
    | cons a l ih =>
      intro hn
      rw [List.nodup_cons] at hn
      have ih := ih hn.2
      simp only [List.map_cons, List.sum_cons, List.mem_cons]
      by_cases e1 : v = a
      · subst e1
        have : ¬ u = v := fun e => hvu e.symm
        simp only [hn.1, if_false] at ih
        simp only [true_or, if_true, this, false_or]
        omega
      · by_cases e2 : u = a
        · subst e2
          simp only [hn.1, if_false] at ih
          simp only [e1, false_or, true_or, if_true]
          omega
        · have := degN_cut_o (n := n) (E := E) (fun e => e1 e.symm : a ≠ v) (fun e => e2 e.symm : a ≠ u)
          simp only [e1, e2, false_or]
          omega
  have := key (List.range n) List.nodup_range
  simp only [List.mem_range, hv, hu, if_true] at this
  unfold totN
  omega
theorem trl_many {n : Nat} : ∀ (l : List Nat) (E : Nat → Nat → Bool) (v : Nat), (∀ r, E r r = false) → (∀ r j, E r j = true → E j r = true) → v < n → (∀ x ∈ l, x < n) → OkF E (stepsL v l) → totN n E = totN n (cutAll E (stepsL v l)) + 2 * l.length
  | [], E, v, _, _, _, _, _ => by simp [stepsL, cutAll]
  | u :: l, E, v, hi, hs, hv, hl, hok => by
    have hu : u < n := hl u (by simp)
    have h1 := totN_cut2 hs hi hv hu hok.1
    have h2 := trl_many l (cutE E v u) u (cutE_irr hi v u) (cutE_sym hs v u) hu (fun y hy => hl y (by simp [hy])) hok.2
    show totN n E = totN n (cutAll (cutE E v u) (stepsL u l)) + 2 * (l.length + 1)
    omega

end Go.Proofs.YtfokiijcpkhllaaDoor
