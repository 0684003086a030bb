/- Walks: sets as int64 (the reference's l25Bits, l25Many, l27Low, l27Part). -/
import Derived.Test.YtiooindlpinjhaaDoorWlQ10
import Derived.Test.YtiooindlpinjhaaDoorWlQ14
import Derived.Test.YtiooindlpinjhaaDoorWlQ15
import Derived.Test.YtiooindlpinjhaaDoorWlQ8
namespace Go.Proofs.YtiooindlpinjhaaDoor
open Go.RowKit

def i64v (s : Nat) : Value := .int .i64 (s : Int)
theorem i64_or_nat (a b : Nat) (ha : a < 4294967296) (hb : b < 4294967296) : bits BinOp.or IntKind.i64 (a : Int) (b : Int) = ((a ||| b : Nat) : Int) :=
  (bits_nat .i64 32 (by decide) (fun n h1 h2 => by rw [IntKind.wrap_i64]; omega) a b (by omega) (by omega)).2
theorem i64_andNot_nat (a b : Nat) (ha : a < 4294967296) (hb : b < 4294967296) : bits BinOp.andNot IntKind.i64 (a : Int) (b : Int) = ((sub a b : Nat) : Int) := by
  have hx : sub a b < 2 ^ 32 := sub_lt32 _ _ ha
  show IntKind.i64.wrap ((BitVec.ofInt 64 (a : Int) &&& ~~~BitVec.ofInt 64 (b : Int)).toNat : Int) = _
  have e1 : (BitVec.ofInt 64 (a : Int)).toNat = a := by rw [BitVec.ofInt_natCast, BitVec.toNat_ofNat]; omega
  have e2 : (BitVec.ofInt 64 (b : Int)).toNat = b := by rw [BitVec.ofInt_natCast, BitVec.toNat_ofNat]; omega
  have e3 : a &&& (2 ^ 64 - 1 - b) = sub a b := Nat.eq_of_testBit_eq fun j => by
    rw [testBit_sub _ _ ha hb, Nat.testBit_and]
    have h64 : b < 2 ^ 64 := by omega
    rw [show 2 ^ 64 - 1 - b = 2 ^ 64 - (b + 1) by omega, Nat.testBit_two_pow_sub_succ h64]
    by_cases hj : j < 64
    · simp [hj]
    · have : a.testBit j = false := Nat.testBit_lt_two_pow (Nat.lt_of_lt_of_le (show a < 2 ^ 32 by omega) (Nat.pow_le_pow_right (by decide) (by omega)))
      simp [this]
  rw [BitVec.toNat_and, BitVec.toNat_not, e1, e2, e3, IntKind.wrap_i64]
  omega
theorem shrB_bit (s k : Nat) (hs : s < 65536) : bits BinOp.and IntKind.i64 ((s : Int) / 2 ^ k) 1 = ((if s.testBit k then 1 else 0 : Nat) : Int) := by
  have e : ((s : Int) / 2 ^ k) = ((s / 2 ^ k : Nat) : Int) := by simp
  rw [e]
  have h1 : s / 2 ^ k < 4294967296 := Nat.lt_of_le_of_lt (Nat.div_le_self _ _) (by omega)
  have := i64_and_nat (s / 2 ^ k) 1 h1 (by decide)
  rw [show ((1 : Nat) : Int) = 1 from rfl] at this
  rw [this, Nat.and_one_is_mod, Nat.testBit_eq_decide_div_mod_eq]
  by_cases h : s / 2 ^ k % 2 = 1
  · simp [h]
  · have : s / 2 ^ k % 2 = 0 := by omega
    simp [this]
theorem bits_deg {n : Nat} (hn : n ≤ 16) {E : Nat → Nat → Bool} {v s : Nat} (hs : s < 65536) (hb : ∀ j, s.testBit j = (decide (j < n) && E v j)) : (bitsOf s).length = degN n E v := by
  have : bitsOf s = (List.range n).filter (E v) := rising_ext _ _ (bitsOf_rising _) (List.Pairwise.filter _ List.pairwise_lt_range) fun x => by
    rw [mem_left hs, hb, List.mem_filter, List.mem_range]
    simp
  rw [this]
  unfold degN
  rw [List.countP_eq_length_filter]

set_option maxRecDepth 100000 in
set_option maxHeartbeats 1000000 in
theorem l25Many_any (z : Int) (s : Nat) (hz : z = s) (hs : s < 65536) (w : World) :
    Calls Tryd.prog 49 #[.int .i64 z] w fun e w' => e = .returned (.int .i64 ((bitsOf s).length : Nat)) ∧ w = w' := by
  subst hz
  have hl := bitsOf_length s
  go_enter Tryd.func49, Tryd.ntmps49
  go_wp2
  go_loopw [0, 3] (fun x c wr => ∃ r k : Nat, x = .int .i64 r ∧ c = .int .i64 k ∧ r < 65536 ∧ k + (bitsOf r).length = (bitsOf s).length ∧ wr = w)
    (fun x _ _ => (bitsOf (intOf x).toNat).length)
  case atStart => exact ⟨s, 0, rfl, rfl, hs, by omega, rfl⟩
  case round =>
    obtain ⟨r, k, rfl, rfl, hr, hk, rfl⟩ := hrel
    by_cases h0 : r = 0
    · subst h0
      rw [bitsOf_zero] at hk
      simp only [List.length_nil, Nat.add_zero] at hk
      subst hk
      clear hl
      go_wp2
      go_ret
      exact ⟨rfl, rfl⟩
    · have hpos : (0 : Int) < (r : Int) := by omega
      have hstep := Lib.hid (bitsOf_step r h0 (by omega))
      have hand : bits BinOp.and IntKind.i64 (r : Int) ((r : Int) - 1) = ((r &&& (r - 1) : Nat) : Int) := by
        have := i64_and_nat r (r - 1) (by omega) (by omega)
        rw [show ((r - 1 : Nat) : Int) = (r : Int) - 1 by omega] at this
        exact this
      have hlt := and_lt16 r (r - 1) hr
      generalize r &&& (r - 1) = t at *
      have hkl : (bitsOf r).length = (bitsOf t).length + 1 := by rw [hstep.out]; rfl
      have HK := Lib.hid hk
      have HKL := Lib.hid hkl
      have hk32 : k ≤ 32 := by omega
      clear hk hkl hl
      go_wp2
      go_roundw
      case rel => exact ⟨t, k + 1, rfl, by go_num, hlt, by have := HK.out; have := HKL.out; omega, trivial⟩
      case measure => have := HKL.out; simp [intOf]; omega

set_option maxRecDepth 100000 in
set_option maxHeartbeats 1000000 in
theorem l27Low_any (z : Int) (s : Nat) (hz : z = s) (h0 : s ≠ 0) (hs : s < 65536) (w : World) :
    Calls Tryd.prog 119 #[.int .i64 z] w fun e w' => e = .returned (.int .i64 ((Lib.ctz 32 s : Nat) : Int)) ∧ w = w' := by
  subst hz
  obtain ⟨h1, h2, h3⟩ := testBit_ctz s h0 (by omega)
  generalize Lib.ctz 32 s = q at *
  have H3 := Lib.hid h3
  have H1 := Lib.hid h1
  have HS := Lib.hid hs
  clear h3 h1 hs h0
  go_enter Tryd.func119, Tryd.ntmps119
  go_wp2
  go_loopw [3] (fun c wr => ∃ k : Nat, c = .int .i64 k ∧ k ≤ q ∧ wr = w)
    (fun c _ => 40 - (intOf c).toNat)
  case atStart => exact ⟨0, rfl, Nat.zero_le _, rfl⟩
  case round =>
    obtain ⟨k, rfl, hk, rfl⟩ := hrel
    have hbit := shrB_bit s k HS.out
    by_cases hlt : k < q
    · have hf := H3.out k hlt
      rw [hf] at hbit
      simp only [Bool.false_eq_true, if_false, Int.natCast_zero] at hbit
      clear hf
      go_wp2
      go_roundw
      case rel => exact ⟨k + 1, by go_num, by omega, trivial⟩
      case measure => simp [intOf]; omega
    · obtain rfl : k = q := by omega
      rw [H1.out] at hbit
      simp only [if_true, Int.natCast_one] at hbit
      go_wp2
      go_ret
      exact ⟨rfl, rfl⟩

end Go.Proofs.YtiooindlpinjhaaDoor

/- Plain: lists that go along edges; read backwards; when one can go along all edges. -/
namespace Go.Proofs.YtiooindlpinjhaaDoor

/-- The same edge. -/
def sameP (e f : Nat × Nat) : Bool := (e.1 == f.1 && e.2 == f.2) || (e.1 == f.2 && e.2 == f.1)
theorem sameP_iff {e f : Nat × Nat} : sameP e f = true ↔ (e.1 = f.1 ∧ e.2 = f.2) ∨ (e.1 = f.2 ∧ e.2 = f.1) := by simp [sameP]
theorem sameP_symm {e f : Nat × Nat} : sameP e f = sameP f e := by
  rw [Bool.eq_iff_iff, sameP_iff, sameP_iff]
  constructor <;> rintro (⟨h1, h2⟩ | ⟨h1, h2⟩)
  · exact .inl ⟨h1.symm, h2.symm⟩
  · exact .inr ⟨h2.symm, h1.symm⟩
  · exact .inl ⟨h1.symm, h2.symm⟩
  · exact .inr ⟨h2.symm, h1.symm⟩
theorem cutE_same (E : Nat → Nat → Bool) (p q r j : Nat) : cutE E p q r j = (E r j && !sameP (p, q) (r, j)) := by
  rw [Bool.eq_iff_iff]
  simp only [cutE, sameP, Bool.and_eq_true, Bool.not_eq_true', Bool.or_eq_false_iff, Bool.and_eq_false_iff, beq_eq_false_iff_ne]
  constructor
  · rintro ⟨h, h1, h2⟩
    refine ⟨h, ?_, ?_⟩
    · rcases h1 with h1 | h1
      · exact .inl fun e => h1 e.symm
      · exact .inr fun e => h1 e.symm
    · rcases h2 with h2 | h2
      · exact .inr fun e => h2 e.symm
      · exact .inl fun e => h2 e.symm
  · rintro ⟨h, h1, h2⟩
    refine ⟨h, ?_, ?_⟩
    · rcases h1 with h1 | h1
      · exact .inl fun e => h1 e.symm
      · exact .inr fun e => h1 e.symm
    · rcases h2 with h2 | h2
      · exact .inr fun e => h2 e.symm
      · exact .inl fun e => h2 e.symm
/-- The edges along a list. -/
def stepsL : Nat → List Nat → List (Nat × Nat)
  | _, [] => []
  | v, u :: l => (v, u) :: stepsL u l
theorem stepsL_length : ∀ (v : Nat) (l : List Nat), (stepsL v l).length = l.length
  | _, [] => rfl
  | v, u :: l => by simp [stepsL, stepsL_length u l]
theorem cutAll_cons (E : Nat → Nat → Bool) (e : Nat × Nat) (es : List (Nat × Nat)) : cutAll E (e :: es) = cutAll (cutE E e.1 e.2) es := rfl
theorem cutAll_at (es : List (Nat × Nat)) : ∀ (E : Nat → Nat → Bool) (r j : Nat), cutAll E es r j = (E r j && es.all fun e => !sameP e (r, j)) := by
  induction es with
  | nil => intro E r j; simp [cutAll]
  | cons e es ih =>
    intro E r j
    rw [cutAll_cons, ih, cutE_same, List.all_cons, Bool.and_assoc]
/-- Each edge is there when it is used. -/
def OkF : (Nat → Nat → Bool) → List (Nat × Nat) → Prop
  | _, [] => True
  | E, e :: es => E e.1 e.2 = true ∧ OkF (cutE E e.1 e.2) es
theorem okF_iff : ∀ (es : List (Nat × Nat)) (E : Nat → Nat → Bool), OkF E es ↔ (∀ e ∈ es, E e.1 e.2 = true) ∧ es.Pairwise fun e f => sameP e f = false
  | [], E => by simp [OkF]
  | e :: es, E => by
    rw [OkF, okF_iff es, List.pairwise_cons]
    constructor
    · rintro ⟨h1, h2, h3⟩
      refine ⟨fun f hf => ?_, fun f hf => ?_, h3⟩
      · rcases List.mem_cons.1 hf with rfl | hf
        · exact h1
        · have := h2 f hf
          rw [cutE_same] at this
          exact (Bool.and_eq_true_iff.1 this).1
      · have := h2 f hf
        rw [cutE_same] at this
        simpa using (Bool.and_eq_true_iff.1 this).2
    · rintro ⟨h1, h2, h3⟩
      refine ⟨h1 e (by simp), fun f hf => ?_, h3⟩
      rw [cutE_same, h1 f (by simp [hf]), h2 f hf]
      rfl
theorem stepsL_append : ∀ (v : Nat) (l : List Nat) (u : Nat), stepsL v (l ++ [u]) = stepsL v l ++ [((v :: l).getLastD 0, u)]
  | v, [], u => by simp [stepsL]
  | v, x :: l, u => by
    rw [List.cons_append, stepsL, stepsL, stepsL_append x l u]
    simp
/-- Read backwards. -/
def swapP (e : Nat × Nat) : Nat × Nat := (e.2, e.1)
def backL (v : Nat) (l : List Nat) : List Nat := (v :: l).reverse.tail
theorem steps_back : ∀ (l : List Nat) (v : Nat), stepsL ((v :: l).getLastD 0) (backL v l) = ((stepsL v l).map swapP).reverse
  | [], v => by simp [stepsL, backL]
  | u :: l, v => by
    have ih := steps_back l u
    have e1 : (v :: u :: l).getLastD 0 = (u :: l).getLastD 0 := by simp
    have hne : (u :: l).reverse ≠ [] := by simp
    have e2 : backL v (u :: l) = backL u l ++ [v] := by
      unfold backL
      rw [List.reverse_cons (a := v)]
      cases h : (u :: l).reverse with
      | nil => exact absurd h hne
      | cons a t => simp
    have e3 : (((u :: l).getLastD 0) :: backL u l).getLastD 0 = u := by
      have : ((u :: l).getLastD 0) :: backL u l = (u :: l).reverse := by
        unfold backL
        cases h : (u :: l).reverse with
        | nil => exact absurd h hne
        | cons a t =>
          have h2 : (u :: l) = (a :: t).reverse := by rw [← h, List.reverse_reverse]
          rw [h2]
          simp
      rw [this, List.reverse_cons, List.getLastD_eq_getLast?]
      simp
    rw [e1, e2, stepsL_append, ih, e3, stepsL]
    simp [swapP]
theorem okF_back {E : Nat → Nat → Bool} (hs : ∀ r j, E r j = true → E j r = true) {es : List (Nat × Nat)} (h : OkF E es) : OkF E (es.map swapP).reverse := by
  rw [okF_iff] at h ⊢
  refine ⟨fun e he => ?_, ?_⟩
  · rw [List.mem_reverse, List.mem_map] at he
    obtain ⟨f, hf, rfl⟩ := he
    exact hs _ _ (h.1 f hf)
  · rw [List.pairwise_reverse, List.pairwise_map]
    refine h.2.imp fun {a b} hab => ?_
    rw [sameP_symm]
    have e : sameP (swapP a) (swapP b) = sameP a b := by
      rw [Bool.eq_iff_iff, sameP_iff, sameP_iff]
      simp only [swapP]
      constructor <;> rintro (⟨h1, h2⟩ | ⟨h1, h2⟩)
      · exact .inl ⟨h2, h1⟩
      · exact .inr ⟨h2, h1⟩
      · exact .inl ⟨h2, h1⟩
      · exact .inr ⟨h2, h1⟩
    rw [e]; exact hab
theorem cut_back (E : Nat → Nat → Bool) (es : List (Nat × Nat)) : cutAll E (es.map swapP).reverse = cutAll E es := by
  funext r j
  rw [cutAll_at, cutAll_at, List.all_reverse, List.all_map]
  congr 2
  funext e
  simp only [Function.comp]
  congr 1
  rw [Bool.eq_iff_iff, sameP_iff, sameP_iff]
  simp only [swapP]
  constructor <;> rintro (⟨h1, h2⟩ | ⟨h1, h2⟩)
  · exact .inr ⟨h2, h1⟩
  · exact .inl ⟨h2, h1⟩
  · exact .inr ⟨h2, h1⟩
  · exact .inl ⟨h2, h1⟩

/-- Nothing is left. -/
def NoE (n : Nat) (E : Nat → Nat → Bool) : Prop := ∀ x, x < n → degN n E x = 0
/-- The list goes along each edge once. -/
def TrlOk (n : Nat) (E : Nat → Nat → Bool) (v : Nat) (l : List Nat) : Prop := (∀ x ∈ v :: l, x < n) ∧ OkF E (stepsL v l) ∧ NoE n (cutAll E (stepsL v l))
theorem trl_in {n : Nat} {E : Nat → Nat → Bool} {v : Nat} {l : List Nat} (h : Trl n E v l) : ∀ x ∈ l, x < n := by
  induction h with
  | done _ _ _ => intro x hx; simp at hx
  | step E v u l _ h2 _ ih =>
    intro x hx
    rcases List.mem_cons.1 hx with rfl | hx
    · exact List.mem_range.1 (List.mem_of_find?_eq_some h2)
    · exact ih x hx
theorem next_tr {n : Nat} {E : Nat → Nat → Bool} {v u : Nat} (h : nextT n E v = some u) : u < n ∧ E v u = true ∧ Tr n (cutE E v u) u := by
  have h1 := List.mem_range.1 (List.mem_of_find?_eq_some h)
  have h2 := List.find?_some h
  obtain ⟨h3, h4⟩ := Bool.and_eq_true_iff.1 h2
  exact ⟨h1, h3, dec_iff.1 h4⟩
theorem trl_ok {n : Nat} {E : Nat → Nat → Bool} {v : Nat} {l : List Nat} (h : Trl n E v l) : v < n → Tr n E v → OkF E (stepsL v l) ∧ NoE n (cutAll E (stepsL v l)) := by
  induction h with
  | done E v h0 =>
    intro hv hT
    refine ⟨trivial, fun x hx => ?_⟩
    have h1 := tr_left hv hT
    rcases Nat.eq_zero_or_pos (degN n E x) with h2 | h2
    · exact h2
    · have := h1.2 ⟨x, hx, h2⟩
      omega
  | step E v u l h1 h2 _ ih =>
    intro hv hT
    obtain ⟨hu, hE, hT2⟩ := next_tr h2
    obtain ⟨k1, k2⟩ := ih hu hT2
    exact ⟨⟨hE, k1⟩, k2⟩
theorem trl_trlOk {n : Nat} {E : Nat → Nat → Bool} {v : Nat} {l : List Nat} (h : Trl n E v l) (hv : v < n) (hT : Tr n E v) : TrlOk n E v l := by
  obtain ⟨h1, h2⟩ := trl_ok h hv hT
  refine ⟨fun x hx => ?_, h1, h2⟩
  rcases List.mem_cons.1 hx with rfl | hx
  · exact hv
  · exact trl_in h x hx
theorem last_mem (v : Nat) (l : List Nat) : (v :: l).getLastD 0 ∈ v :: l := by
  rw [List.getLastD_eq_getLast?]
  cases h : (v :: l).getLast? with
  | none => simp at h
  | some a => exact List.mem_of_getLast? h
theorem rev_back (v : Nat) (l : List Nat) : (v :: l).reverse = (v :: l).getLastD 0 :: backL v l := by
  unfold backL
  cases h : (v :: l).reverse with
  | nil => simp at h
  | cons a t =>
    have h2 : (v :: l) = (a :: t).reverse := by rw [← h, List.reverse_reverse]
    rw [h2]
    simp
theorem trlOk_back {n : Nat} {E : Nat → Nat → Bool} (hs : ∀ r j, E r j = true → E j r = true) {v : Nat} {l : List Nat} (h : TrlOk n E v l) : TrlOk n E ((v :: l).getLastD 0) (backL v l) := by
  refine ⟨fun x hx => ?_, ?_, ?_⟩
  · rw [← rev_back, List.mem_reverse] at hx
    exact h.1 x hx
  · rw [steps_back]; exact okF_back hs h.2.1
  · rw [steps_back, cut_back]; exact h.2.2
/-- Odd ones are the ends. -/
theorem trl_ends {n : Nat} : ∀ (l : List Nat) (E : Nat → Nat → Bool) (v : Nat), (∀ r, E r r = false) → (∀ r j, E r j = true → E j r = true) → v < n → (∀ x ∈ l, x < n) → OkF E (stepsL v l) → NoE n (cutAll E (stepsL v l)) → ∀ x, x < n → degN n E x % 2 = ((if x = v then 1 else 0) + (if x = (v :: l).getLastD 0 then 1 else 0)) % 2
  | [], E, v, _, _, _, _, _, h0, x, hx => by
    have := h0 x hx
    simp only [stepsL, cutAll, List.foldl_nil] at this
    rw [this]
    by_cases e : x = v
    · simp [e]
    · simp [e]
  | u :: l, E, v, hi, hs, hv, hl, hok, h0, x, hx => by
    have hu : u < n := hl u (by simp)
    have hE := hok.1
    simp only at hE
    have hvu : v ≠ u := fun e => by subst e; rw [hi] at hE; exact absurd hE (by decide)
    have ih := trl_ends l (cutE E v u) u (cutE_irr hi v u) (cutE_sym hs v u) hu (fun y hy => hl y (by simp [hy])) hok.2 h0 x hx
    have e1 : (v :: u :: l).getLastD 0 = (u :: l).getLastD 0 := by simp
    rw [e1]
    by_cases h1 : x = v
    · subst h1
      have := degN_cut_p hu hvu hE
      have h2 : ¬ x = u := hvu
      simp only [h2, if_false] at ih
      simp only [if_true]
      omega
    · by_cases h2 : x = u
      · subst h2
        have := degN_cut_q hv hvu (hs _ _ hE)
        simp only [if_true] at ih
        simp only [h1, if_false]
        omega
      · have := degN_cut_o (n := n) (E := E) h1 h2
        simp only [h2, if_false] at ih
        simp only [h1, if_false]
        omega
/-- Twice the edges used are the degrees used. -/
theorem totN_cut2 {n : Nat} {E : Nat → Nat → Bool} {v u : Nat} (hs : ∀ r j, E r j = true → E j r = true) (hi : ∀ r, E r r = false) (hv : v < n) (hu : u < n) (h : E v u = true) : totN n E = totN n (cutE E v u) + 2 := by
  have hvu : v ≠ u := fun e => by subst e; rw [hi] at h; exact absurd h (by decide)
  have h1 := degN_cut_p hu hvu h
  have h2 := degN_cut_q hv hvu (hs _ _ h)
  have key : ∀ l : List Nat, l.Nodup → (l.map (degN n E)).sum = (l.map (degN n (cutE E v u))).sum + ((if v ∈ l then 1 else 0) + (if u ∈ l then 1 else 0)) := by
    intro l
    induction l with
    | nil => intro _; simp
    | cons a l ih =>
      intro hn
      rw [List.nodup_cons] at hn
      have ih := ih hn.2
      simp only [List.map_cons, List.sum_cons, List.mem_cons]
      by_cases e1 : v = a
      · subst e1
        have : ¬ u = v := fun e => hvu e.symm
        simp only [hn.1, if_false] at ih
        simp only [true_or, if_true, this, false_or]
        omega
      · by_cases e2 : u = a
        · subst e2
          simp only [hn.1, if_false] at ih
          simp only [e1, false_or, true_or, if_true]
          omega
        · have := degN_cut_o (n := n) (E := E) (fun e => e1 e.symm : a ≠ v) (fun e => e2 e.symm : a ≠ u)
          simp only [e1, e2, false_or]
          omega
  have := key (List.range n) List.nodup_range
  simp only [List.mem_range, hv, hu, if_true] at this
  unfold totN
  omega
theorem trl_many {n : Nat} : ∀ (l : List Nat) (E : Nat → Nat → Bool) (v : Nat), (∀ r, E r r = false) → (∀ r j, E r j = true → E j r = true) → v < n → (∀ x ∈ l, x < n) → OkF E (stepsL v l) → totN n E = totN n (cutAll E (stepsL v l)) + 2 * l.length
  | [], E, v, _, _, _, _, _ => by simp [stepsL, cutAll]
  | u :: l, E, v, hi, hs, hv, hl, hok => by
    have hu : u < n := hl u (by simp)
    have h1 := totN_cut2 hs hi hv hu hok.1
    have h2 := trl_many l (cutE E v u) u (cutE_irr hi v u) (cutE_sym hs v u) hu (fun y hy => hl y (by simp [hy])) hok.2
    show totN n E = totN n (cutAll (cutE E v u) (stepsL u l)) + 2 * (l.length + 1)
    omega

end Go.Proofs.YtiooindlpinjhaaDoor

/- Plain: the parts are connected, no two of them together, and all vertices are in them. -/
namespace Go.Proofs.YtiooindlpinjhaaDoor

theorem rch_partL {E : Nat → Nat → Bool} {L : List Nat} {u : Nat} : ∀ x, Rch E (· ∈ L) u x → Rch E (· ∈ partL E L u) u x := by
  intro x h
  refine (rch_closed (T := fun x => Rch E (· ∈ L) u x ∧ Rch E (· ∈ partL E L u) u x) ⟨.base, .base⟩ (fun a b ha hE hb => ?_) x h).2
  have hb2 : Rch E (· ∈ L) u b := .step ha.1 hE hb
  exact ⟨hb2, .step ha.2 hE (mem_partL.2 ⟨hb, hb2⟩)⟩
theorem partL_head {E : Nat → Nat → Bool} {L : List Nat} {u : Nat} : partL E (u :: L) u = u :: (L.filter fun x => dec (Rch E (· ∈ u :: L) u x)) := by
  unfold partL
  exact List.filter_cons_of_pos (p := fun x => dec (Rch E (· ∈ u :: L) u x)) (dec_true .base)
theorem conn_partL {E : Nat → Nat → Bool} {L : List Nat} {u : Nat} : ConnL E (partL E (u :: L) u) := by
  have h := partL_head (E := E) (L := L) (u := u)
  refine ⟨by rw [h]; simp, fun x hx => ?_⟩
  have hh : (partL E (u :: L) u).headD 0 = u := by rw [h]; rfl
  rw [hh]
  exact rch_partL x (mem_partL.1 hx).2
theorem parts_conn {E : Nat → Nat → Bool} {L : List Nat} {ps : List (List Nat)} (h : Parts E L ps) : ∀ p ∈ ps, ConnL E p := by
  induction h with
  | done => intro p hp; simp at hp
  | step u L ps _ ih =>
    intro p hp
    rcases List.mem_cons.1 hp with rfl | hp
    · exact conn_partL
    · exact ih p hp
theorem parts_in {E : Nat → Nat → Bool} {L : List Nat} {ps : List (List Nat)} (h : Parts E L ps) : ∀ p ∈ ps, ∀ x ∈ p, x ∈ L := by
  induction h with
  | done => intro p hp; simp at hp
  | step u L ps _ ih =>
    intro p hp x hx
    rcases List.mem_cons.1 hp with rfl | hp
    · exact (mem_partL.1 hx).1
    · exact (mem_restL.1 (ih p hp x hx)).1
theorem parts_ris {E : Nat → Nat → Bool} {L : List Nat} {ps : List (List Nat)} (h : Parts E L ps) : L.Pairwise (· < ·) → ∀ p ∈ ps, p.Pairwise (· < ·) := by
  induction h with
  | done => intro _ p hp; simp at hp
  | step u L ps _ ih =>
    intro hL p hp
    rcases List.mem_cons.1 hp with rfl | hp
    · exact partL_rising hL u
    · exact ih (restL_rising hL u) p hp
/-- Between two parts there is nothing. -/
theorem parts_apart {E : Nat → Nat → Bool} {L : List Nat} {ps : List (List Nat)} (h : Parts E L ps) : ps.Pairwise fun p q => ∀ x ∈ p, ∀ y ∈ q, x ≠ y ∧ E x y = false := by
  induction h with
  | done => exact List.Pairwise.nil
  | step u L ps h1 ih =>
    refine List.Pairwise.cons (fun q hq x hx y hy => ?_) ih
    have hx2 := mem_partL.1 hx
    have hy2 := mem_restL.1 (parts_in h1 q hq y hy)
    refine ⟨fun e => hy2.2 (e ▸ hx2.2), ?_⟩
    cases hE : E x y with
    | false => rfl
    | true => exact absurd (.step hx2.2 hE hy2.1) hy2.2
theorem filter_not_len {α : Type} (p : α → Bool) : ∀ l : List α, (l.filter p).length + (l.filter fun x => !p x).length = l.length
  | [] => rfl
  | a :: l => by
    have ih := filter_not_len p l
    cases h : p a <;> simp [List.filter_cons, h] <;> omega
theorem parts_total {E : Nat → Nat → Bool} {L : List Nat} {ps : List (List Nat)} (h : Parts E L ps) : (ps.map List.length).sum = L.length := by
  induction h with
  | done => rfl
  | step u L ps _ ih =>
    have := filter_not_len (fun x => dec (Rch E (· ∈ u :: L) u x)) (u :: L)
    simp only [List.map_cons, List.sum_cons, ih]
    exact this
/-- Two sets without an edge between them are not connected together. -/
theorem not_conn_two {E : Nat → Nat → Bool} (hs : ∀ r j, E r j = true → E j r = true) {p q S : List Nat} (hp : p ≠ []) (hq : q ≠ []) (hS : ∀ x, x ∈ S ↔ x ∈ p ∨ x ∈ q) (h : ∀ x ∈ p, ∀ y ∈ q, x ≠ y ∧ E x y = false) : ¬ ConnL E S := by
  rintro ⟨hne, hr⟩
  have key : ∀ p q : List Nat, q ≠ [] → (∀ x, x ∈ S ↔ x ∈ p ∨ x ∈ q) → (∀ x ∈ p, ∀ y ∈ q, x ≠ y ∧ E x y = false) → S.headD 0 ∈ p → False := by
    intro p q hq hS h h0
    have hcl : ∀ x, Rch E (· ∈ S) (S.headD 0) x → x ∈ p := rch_closed h0 fun a b ha hE hb => by
      rcases (hS b).1 hb with h1 | h1
      · exact h1
      · have := (h a ha b h1).2
        rw [this] at hE
        exact absurd hE (by decide)
    obtain ⟨y, hy⟩ := List.exists_mem_of_ne_nil q hq
    have := hcl y (hr y ((hS y).2 (.inr hy)))
    exact (h y this y hy).1 rfl
  have hh : S.headD 0 ∈ S := by
    cases S with
    | nil => exact absurd rfl hne
    | cons a S => simp
  rcases (hS _).1 hh with h1 | h1
  · exact key p q hq hS h h1
  · refine key q p hp (fun x => (hS x).trans Or.comm) (fun x hx y hy => ?_) h1
    have := h y hy x hx
    refine ⟨fun e => this.1 e.symm, ?_⟩
    cases hE : E x y with
    | false => rfl
    | true =>
      have h2 := hs _ _ hE
      rw [this.2] at h2
      exact absurd h2 (by decide)

end Go.Proofs.YtiooindlpinjhaaDoor

/- Plain: a trail is there just where at most two are odd, and all edges are in one part. -/
namespace Go.Proofs.YtiooindlpinjhaaDoor

theorem countP_le_one {α : Type} {p : α → Bool} : ∀ {l : List α}, (l.Pairwise fun a b => ¬ (p a = true ∧ p b = true)) → l.countP p ≤ 1
  | [], _ => by simp
  | a :: l, h => by
    obtain ⟨h1, h2⟩ := List.pairwise_cons.1 h
    have ih := countP_le_one h2
    rw [List.countP_cons]
    by_cases ha : p a = true
    · have : l.countP p = 0 := List.countP_eq_zero.2 fun b hb hp => h1 b hb ⟨ha, hp⟩
      simp [this, ha]
    · simp [ha]; exact ih
theorem countP_same {α : Type} {p : α → Bool} : ∀ {l : List α} {a b : α}, l.countP p ≤ 1 → a ∈ l → b ∈ l → p a = true → p b = true → a = b
  | [], _, _, _, h, _, _, _ => by simp at h
  | c :: l, a, b, h, ha, hb, hpa, hpb => by
    rw [List.countP_cons] at h
    rcases List.mem_cons.1 ha with rfl | ha2
    · rcases List.mem_cons.1 hb with rfl | hb2
      · rfl
      · exfalso
        have : 0 < l.countP p := List.countP_pos_iff.2 ⟨b, hb2, hpb⟩
        rw [if_pos hpa] at h
        omega
    · rcases List.mem_cons.1 hb with rfl | hb2
      · exfalso
        have : 0 < l.countP p := List.countP_pos_iff.2 ⟨a, ha2, hpa⟩
        rw [if_pos hpb] at h
        omega
      · exact countP_same (by omega) ha2 hb2 hpa hpb
theorem countP_but {p : Nat → Bool} {v : Nat} {l : List Nat} (hn : l.Nodup) : l.countP p ≤ l.countP (fun j => p j && !(j == v)) + 1 := by
  by_cases h : v ∈ l ∧ p v = true
  · rw [countP_cut hn h.1 h.2]
    exact Nat.le_refl _
  · have : l.countP p ≤ l.countP (fun j => p j && !(j == v)) := List.countP_mono_left fun x hx hp => by
      have : x ≠ v := fun e => h ⟨e ▸ hx, e ▸ hp⟩
      simp [hp, this]
    omega
theorem parts_closed {E : Nat → Nat → Bool} (hs : ∀ r j, E r j = true → E j r = true) {L : List Nat} {ps : List (List Nat)} (h : Parts E L ps) : ∀ p ∈ ps, ∀ x ∈ p, ∀ y, y ∈ L → E x y = true → y ∈ p := by
  induction h with
  | done => intro p hp; simp at hp
  | step u L ps h1 ih =>
    intro p hp x hx y hy hE
    rcases List.mem_cons.1 hp with rfl | hp
    · exact mem_partL.2 ⟨hy, .step (mem_partL.1 hx).2 hE hy⟩
    · have hx2 := mem_restL.1 (parts_in h1 p hp x hx)
      refine ih p hp x hx y (mem_restL.2 ⟨hy, fun hr => hx2.2 (.step hr (hs _ _ hE) hx2.1)⟩) hE
theorem parts_cover {E : Nat → Nat → Bool} {L : List Nat} {ps : List (List Nat)} (h : Parts E L ps) : ∀ x ∈ L, ∃ p ∈ ps, x ∈ p := by
  induction h with
  | done => intro x hx; simp at hx
  | step u L ps h1 ih =>
    intro x hx
    by_cases hr : Rch E (· ∈ u :: L) u x
    · exact ⟨_, by simp, mem_partL.2 ⟨hx, hr⟩⟩
    · obtain ⟨p, hp, hxp⟩ := ih x (mem_restL.2 ⟨hx, hr⟩)
      exact ⟨p, by simp [hp], hxp⟩
theorem conn_deg {n : Nat} {E : Nat → Nat → Bool} {p : List Nat} (h : ConnL E p) (hr : p.Pairwise (· < ·)) (hl : 1 < p.length) (hn : ∀ x ∈ p, x < n) : ∃ x ∈ p, 0 < degN n E x := by
  cases p with
  | nil => simp at hl
  | cons a p =>
    cases p with
    | nil => simp at hl
    | cons b p =>
      have hab : a < b := (List.pairwise_cons.1 hr).1 b (by simp)
      have h1 := h.2 b (by simp)
      simp only [List.headD_cons] at h1
      refine Classical.byContradiction fun hno => ?_
      have hd : ¬ 0 < degN n E a := fun hd => hno ⟨a, by simp, hd⟩
      have : b = a := rch_closed (T := fun x => x = a) rfl (fun x y hx hE hy => by
        subst hx
        exact absurd (degN_pos.2 ⟨y, hn y hy, hE⟩) hd) b h1
      omega
theorem deg_part {n : Nat} {E : Nat → Nat → Bool} (hs : ∀ r j, E r j = true → E j r = true) (hi : ∀ r, E r r = false) {ps : List (List Nat)} (h : Parts E (List.range n) ps) {x : Nat} (hx : x < n) (hd : 0 < degN n E x) : ∃ p ∈ ps, x ∈ p ∧ 1 < p.length := by
  obtain ⟨p, hp, hxp⟩ := parts_cover h x (List.mem_range.2 hx)
  obtain ⟨y, hy, hE⟩ := degN_pos.1 hd
  have hyp := parts_closed hs h p hp x hxp y (List.mem_range.2 hy) hE
  refine ⟨p, hp, hxp, ?_⟩
  match p, hxp, hyp with
  | [a], hxp, hyp =>
    exfalso
    have e1 : x = a := by simpa using hxp
    have e2 : y = a := by simpa using hyp
    rw [e1, e2, hi] at hE
    exact absurd hE (by decide)
  | a :: b :: p, _, _ => simp
theorem conn_two {n : Nat} {E : Nat → Nat → Bool} (hs : ∀ r j, E r j = true → E j r = true) {p : List Nat} (h : ConnL E p) (hn : ∀ x ∈ p, x < n) {x y : Nat} (hx : x ∈ p) (hy : y ∈ p) : Rch E (· ∈ List.range n) x y := by
  have hh : p.headD 0 ∈ p := by
    cases p with
    | nil => simp at hx
    | cons a p => simp
  exact rch_mono (fun z hz => List.mem_range.2 (hn z hz)) y (rch_trans (rch_sym hs hh (h.2 x hx)) (h.2 y hy))

theorem tr_iff {n : Nat} {E : Nat → Nat → Bool} (hs : ∀ r j, E r j = true → E j r = true) (hi : ∀ r, E r r = false) (hn : 0 < n) {ps : List (List Nat)} (h : Parts E (List.range n) ps) :
    (∃ v, v < n ∧ Tr n E v) ↔ (List.range n).countP (fun v => degN n E v % 2 == 1) ≤ 2 ∧ ps.countP (fun p => decide (1 < p.length)) ≤ 1 := by
  have hin : ∀ p ∈ ps, ∀ x ∈ p, x < n := fun p hp x hx => List.mem_range.1 (parts_in h p hp x hx)
  constructor
  · rintro ⟨v, hv, h1, h2⟩
    constructor
    · have e1 := countP_but (p := fun v => degN n E v % 2 == 1) (v := v) (l := List.range n) List.nodup_range
      have e2 : (List.range n).countP (fun j => degN n E j % 2 == 1 && !(j == v)) ≤ 1 := by
        refine countP_le_one (List.Pairwise.imp_of_mem (R := (· ≠ ·)) (fun {a b} ha hb hab => ?_) List.nodup_range)
        rintro ⟨k1, k2⟩
        simp only [Bool.and_eq_true, beq_iff_eq, Bool.not_eq_true', beq_eq_false_iff_ne] at k1 k2
        exact hab (h2 a b (List.mem_range.1 ha) (List.mem_range.1 hb) k1.1 k2.1 k1.2 k2.2)
      omega
    · refine countP_le_one (List.Pairwise.imp_of_mem (fun {p q} hp hq hpq => ?_) (parts_apart h))
      rintro ⟨k1, k2⟩
      simp only [decide_eq_true_eq] at k1 k2
      have hri := parts_ris h List.pairwise_lt_range
      obtain ⟨x, hx, hdx⟩ := conn_deg (parts_conn h p hp) (hri p hp) k1 (hin p hp)
      obtain ⟨y, hy, hdy⟩ := conn_deg (parts_conn h q hq) (hri q hq) k2 (hin q hq)
      have r1 := h1 x (hin p hp x hx) hdx
      have r2 := h1 y (hin q hq y hy) hdy
      have r3 : Rch E (· ∈ List.range n) x y := rch_trans (rch_sym hs (List.mem_range.2 hv) r1) r2
      have : y ∈ p := rch_closed (T := (· ∈ p)) hx (fun a b ha hE hb => parts_closed hs h p hp a ha b hb hE) y r3
      exact (hpq y this y hy).1 rfl
  · rintro ⟨h1, h2⟩
    have he := odd_even hs hi (fun _ => true) (n := n) (fun _ _ _ _ _ => rfl)
    have ef : (List.range n).filter (fun _ => true) = List.range n := List.filter_eq_self.2 fun _ _ => rfl
    rw [ef] at he
    have reach : ∀ v, v < n → 0 < degN n E v → ∀ x, x < n → 0 < degN n E x → Rch E (· ∈ List.range n) v x := by
      intro v hv hdv x hx hdx
      obtain ⟨p, hp, hvp, hlp⟩ := deg_part hs hi h hv hdv
      obtain ⟨q, hq, hxq, hlq⟩ := deg_part hs hi h hx hdx
      obtain rfl := countP_same h2 hp hq (by simpa using hlp) (by simpa using hlq)
      exact conn_two hs (parts_conn h p hp) (hin p hp) hvp hxq
    by_cases h0 : ∃ v, v < n ∧ oddV n E v
    · obtain ⟨v, hv, hov⟩ := h0
      have hdv : 0 < degN n E v := by unfold oddV at hov; omega
      refine ⟨v, hv, reach v hv hdv, fun x y hx hy hox hoy hxv hyv => ?_⟩
      refine Classical.byContradiction fun hxy => ?_
      have c1 := countP_cut (f := fun v => degN n E v % 2 == 1) List.nodup_range (List.mem_range.2 hv) (by unfold oddV at hov; simpa using hov)
      have c2 := countP_cut (f := fun j => (degN n E j % 2 == 1) && !(j == v)) List.nodup_range (List.mem_range.2 hx) (by unfold oddV at hox; simp [hox, hxv])
      have c3 := countP_cut (f := fun j => ((degN n E j % 2 == 1) && !(j == v)) && !(j == x)) List.nodup_range (List.mem_range.2 hy) (by unfold oddV at hoy; simp [hoy, hyv, Ne.symm hxy])
      omega
    · have hno : ∀ x, x < n → ¬ oddV n E x := fun x hx ho => h0 ⟨x, hx, ho⟩
      by_cases hd : ∃ v, v < n ∧ 0 < degN n E v
      · obtain ⟨v, hv, hdv⟩ := hd
        exact ⟨v, hv, reach v hv hdv, fun x y hx _ hox => absurd hox (hno x hx)⟩
      · exact ⟨0, hn, fun x hx hdx => absurd ⟨x, hx, hdx⟩ hd, fun x y hx _ hox => absurd hox (hno x hx)⟩

end Go.Proofs.YtiooindlpinjhaaDoor
