/- Walks: sets as int64 (the reference's l25Bits, l25Many, l27Low, l27Part). -/
import Derived.Test.YtfphapcgjlhieaaDoorGtQ25
import Derived.Test.YtfphapcgjlhieaaDoorGtQ30
import Derived.Test.YtfphapcgjlhieaaDoorGtQ31
namespace Go.Proofs.YtfphapcgjlhieaaDoor
open Go.RowKit

def i64v (s : Nat) : Value := .int .i64 (s : Int)
theorem i64_or_nat (a b : Nat) (ha : a < 4294967296) (hb : b < 4294967296) : bits BinOp.or IntKind.i64 (a : Int) (b : Int) = ((a ||| b : Nat) : Int) :=
  (bits_nat .i64 32 (by decide) (fun n h1 h2 => by rw [IntKind.wrap_i64]; omega) a b (by omega) (by omega)).2
theorem i64_andNot_nat (a b : Nat) (ha : a < 4294967296) (hb : b < 4294967296) : bits BinOp.andNot IntKind.i64 (a : Int) (b : Int) = ((sub a b : Nat) : Int) := by
  have hx : sub a b < 2 ^ 32 := sub_lt32 _ _ ha
  show IntKind.i64.wrap ((BitVec.ofInt 64 (a : Int) &&& ~~~BitVec.ofInt 64 (b : Int)).toNat : Int) = _
  have e1 : (BitVec.ofInt 64 (a : Int)).toNat = a := by rw [BitVec.ofInt_natCast, BitVec.toNat_ofNat]; omega
  have e2 : (BitVec.ofInt 64 (b : Int)).toNat = b := by rw [BitVec.ofInt_natCast, BitVec.toNat_ofNat]; omega
  have e3 : a &&& (2 ^ 64 - 1 - b) = sub a b := Nat.eq_of_testBit_eq fun j => by
    rw [testBit_sub _ _ ha hb, Nat.testBit_and]
    have h64 : b < 2 ^ 64 := by omega
    rw [show 2 ^ 64 - 1 - b = 2 ^ 64 - (b + 1) by omega, Nat.testBit_two_pow_sub_succ h64]
    by_cases hj : j < 64
    · simp [hj]
    · have : a.testBit j = false := Nat.testBit_lt_two_pow (Nat.lt_of_lt_of_le (show a < 2 ^ 32 by omega) (Nat.pow_le_pow_right (by decide) (by omega)))
      simp [this]
  rw [BitVec.toNat_and, BitVec.toNat_not, e1, e2, e3, IntKind.wrap_i64]
  omega
theorem shrB_bit (s k : Nat) (hs : s < 65536) : bits BinOp.and IntKind.i64 ((s : Int) / 2 ^ k) 1 = ((if s.testBit k then 1 else 0 : Nat) : Int) := by
  have e : ((s : Int) / 2 ^ k) = ((s / 2 ^ k : Nat) : Int) := by simp
  rw [e]
  have h1 : s / 2 ^ k < 4294967296 := Nat.lt_of_le_of_lt (Nat.div_le_self _ _) (by omega)
  have := i64_and_nat (s / 2 ^ k) 1 h1 (by decide)
  rw [show ((1 : Nat) : Int) = 1 from rfl] at this
  rw [this, Nat.and_one_is_mod, Nat.testBit_eq_decide_div_mod_eq]
  by_cases h : s / 2 ^ k % 2 = 1
  · simp [h]
  · have : s / 2 ^ k % 2 = 0 := by omega
    simp [this]
theorem bits_deg {n : Nat} (hn : n ≤ 16) {E : Nat → Nat → Bool} {v s : Nat} (hs : s < 65536) (hb : ∀ j, s.testBit j = (decide (j < n) && E v j)) : (bitsOf s).length = degN n E v := by
  have : bitsOf s = (List.range n).filter (E v) := rising_ext _ _ (bitsOf_rising _) (List.Pairwise.filter _ List.pairwise_lt_range) fun x => by
    rw [mem_left hs, hb, List.mem_filter, List.mem_range]
    simp
  rw [this]
  unfold degN
  rw [List.countP_eq_length_filter]

set_option maxRecDepth 100000 in
set_option maxHeartbeats 1000000 in
theorem l25Many_any (z : Int) (s : Nat) (hz : z = s) (hs : s < 65536) (w : World) :
    Calls Tryd.prog 159 #[.int .i64 z] w fun e w' => e = .returned (.int .i64 ((bitsOf s).length : Nat)) ∧ w = w' := by
  subst hz
  have hl := bitsOf_length s
  go_enter Tryd.func159, Tryd.ntmps159
  go_wp2
  go_loopw [0, 3] (fun x c wr => ∃ r k : Nat, x = .int .i64 r ∧ c = .int .i64 k ∧ r < 65536 ∧ k + (bitsOf r).length = (bitsOf s).length ∧ wr = w)
    (fun x _ _ => (bitsOf (intOf x).toNat).length)
  case atStart => exact ⟨s, 0, rfl, rfl, hs, by omega, rfl⟩
  case round =>
    obtain ⟨r, k, rfl, rfl, hr, hk, rfl⟩ := hrel
    by_cases h0 : r = 0
    · subst h0
      rw [bitsOf_zero] at hk
      simp only [List.length_nil, Nat.add_zero] at hk
      subst hk
      clear hl
      go_wp2
      go_ret
      exact ⟨rfl, rfl⟩
    · have hpos : (0 : Int) < (r : Int) := by omega
      have hstep := Lib.hid (bitsOf_step r h0 (by omega))
      have hand : bits BinOp.and IntKind.i64 (r : Int) ((r : Int) - 1) = ((r &&& (r - 1) : Nat) : Int) := by
        have := i64_and_nat r (r - 1) (by omega) (by omega)
        rw [show ((r - 1 : Nat) : Int) = (r : Int) - 1 by omega] at this
        exact this
      have hlt := and_lt16 r (r - 1) hr
      generalize r &&& (r - 1) = t at *
      have hkl : (bitsOf r).length = (bitsOf t).length + 1 := by rw [hstep.out]; rfl
      have HK := Lib.hid hk
      have HKL := Lib.hid hkl
      have hk32 : k ≤ 32 := by omega
      clear hk hkl hl
      go_wp2
      go_roundw
      case rel => exact ⟨t, k + 1, rfl, by go_num, hlt, by have := HK.out; have := HKL.out; omega, trivial⟩
      case measure => have := HKL.out; simp [intOf]; omega

set_option maxRecDepth 100000 in
set_option maxHeartbeats 1000000 in
theorem l27Low_any (z : Int) (s : Nat) (hz : z = s) (h0 : s ≠ 0) (hs : s < 65536) (w : World) :
    Calls Tryd.prog 158 #[.int .i64 z] w fun e w' => e = .returned (.int .i64 ((Lib.ctz 32 s : Nat) : Int)) ∧ w = w' := by
  subst hz
  obtain ⟨h1, h2, h3⟩ := testBit_ctz s h0 (by omega)
  generalize Lib.ctz 32 s = q at *
  have H3 := Lib.hid h3
  have H1 := Lib.hid h1
  have HS := Lib.hid hs
  clear h3 h1 hs h0
  go_enter Tryd.func158, Tryd.ntmps158
  go_wp2
  go_loopw [3] (fun c wr => ∃ k : Nat, c = .int .i64 k ∧ k ≤ q ∧ wr = w)
    (fun c _ => 40 - (intOf c).toNat)
  case atStart => exact ⟨0, rfl, Nat.zero_le _, rfl⟩
  case round =>
    obtain ⟨k, rfl, hk, rfl⟩ := hrel
    have hbit := shrB_bit s k HS.out
    by_cases hlt : k < q
    · have hf := H3.out k hlt
      rw [hf] at hbit
      simp only [Bool.false_eq_true, if_false, Int.natCast_zero] at hbit
      clear hf
      go_wp2
      go_roundw
      case rel => exact ⟨k + 1, by go_num, by omega, trivial⟩
      case measure => simp [intOf]; omega
    · obtain rfl : k = q := by omega
      rw [H1.out] at hbit
      simp only [if_true, Int.natCast_one] at hbit
      go_wp2
      go_ret
      exact ⟨rfl, rfl⟩

end Go.Proofs.YtfphapcgjlhieaaDoor

/- Plain: lists that go along edges; read backwards; when one can go along all edges. -/
namespace Go.Proofs.YtfphapcgjlhieaaDoor

/-- The same edge. -/
def sameP (e f : Nat × Nat) : Bool := (e.1 == f.1 && e.2 == f.2) || (e.1 == f.2 && e.2 == f.1)
theorem sameP_iff {e f : Nat × Nat} : sameP e f = true ↔ (e.1 = f.1 ∧ e.2 = f.2) ∨ (e.1 = f.2 ∧ e.2 = f.1) := by simp [sameP]
theorem sameP_symm {e f : Nat × Nat} : sameP e f = sameP f e := by
  rw [Bool.eq_iff_iff, sameP_iff, sameP_iff]
  constructor <;> rintro (⟨h1, h2⟩ | ⟨h1, h2⟩)
  · exact .inl ⟨h1.symm, h2.symm⟩
  · exact .inr ⟨h2.symm, h1.symm⟩
  · exact .inl ⟨h1.symm, h2.symm⟩
  · exact .inr ⟨h2.symm, h1.symm⟩
theorem cutE_same (E : Nat → Nat → Bool) (p q r j : Nat) : cutE E p q r j = (E r j && !sameP (p, q) (r, j)) := by
  rw [Bool.eq_iff_iff]
  simp only [cutE, sameP, Bool.and_eq_true, Bool.not_eq_true', Bool.or_eq_false_iff, Bool.and_eq_false_iff, beq_eq_false_iff_ne]
  constructor
  · rintro ⟨h, h1, h2⟩
    refine ⟨h, ?_, ?_⟩
    · rcases h1 with h1 | h1
      · exact .inl fun e => h1 e.symm
      · exact .inr fun e => h1 e.symm
    · rcases h2 with h2 | h2
      · exact .inr fun e => h2 e.symm
      · exact .inl fun e => h2 e.symm
  · rintro ⟨h, h1, h2⟩
    refine ⟨h, ?_, ?_⟩
    · rcases h1 with h1 | h1
      · exact .inl fun e => h1 e.symm
      · exact .inr fun e => h1 e.symm
    · rcases h2 with h2 | h2
      · exact .inr fun e => h2 e.symm
      · exact .inl fun e => h2 e.symm
/-- The edges along a list. -/
def stepsL : Nat → List Nat → List (Nat × Nat)
  | _, [] => []
  | v, u :: l => (v, u) :: stepsL u l
theorem stepsL_length : ∀ (v : Nat) (l : List Nat), (stepsL v l).length = l.length
  | _, [] => rfl
  | v, u :: l => by simp [stepsL, stepsL_length u l]
theorem cutAll_cons (E : Nat → Nat → Bool) (e : Nat × Nat) (es : List (Nat × Nat)) : cutAll E (e :: es) = cutAll (cutE E e.1 e.2) es := rfl
theorem cutAll_at (es : List (Nat × Nat)) : ∀ (E : Nat → Nat → Bool) (r j : Nat), cutAll E es r j = (E r j && es.all fun e => !sameP e (r, j)) := by
  induction es with
  | nil => intro E r j; simp [cutAll]
  | cons e es ih =>
    intro E r j
    rw [cutAll_cons, ih, cutE_same, List.all_cons, Bool.and_assoc]
/-- Each edge is there when it is used. -/
def OkF : (Nat → Nat → Bool) → List (Nat × Nat) → Prop
  | _, [] => True
  | E, e :: es => E e.1 e.2 = true ∧ OkF (cutE E e.1 e.2) es
theorem okF_iff : ∀ (es : List (Nat × Nat)) (E : Nat → Nat → Bool), OkF E es ↔ (∀ e ∈ es, E e.1 e.2 = true) ∧ es.Pairwise fun e f => sameP e f = false
  | [], E => by simp [OkF]
  | e :: es, E => by
    rw [OkF, okF_iff es, List.pairwise_cons]
    constructor
    · rintro ⟨h1, h2, h3⟩
      refine ⟨fun f hf => ?_, fun f hf => ?_, h3⟩
      · rcases List.mem_cons.1 hf with rfl | hf
        · exact h1
        · have := h2 f hf
          rw [cutE_same] at this
          exact (Bool.and_eq_true_iff.1 this).1
      · have := h2 f hf
        rw [cutE_same] at this
        simpa using (Bool.and_eq_true_iff.1 this).2
    · rintro ⟨h1, h2, h3⟩
      refine ⟨h1 e (by simp), fun f hf => ?_, h3⟩
      rw [cutE_same, h1 f (by simp [hf]), h2 f hf]
      rfl
theorem stepsL_append : ∀ (v : Nat) (l : List Nat) (u : Nat), stepsL v (l ++ [u]) = stepsL v l ++ [((v :: l).getLastD 0, u)]
  | v, [], u => by simp [stepsL]
  | v, x :: l, u => by
    rw [List.cons_append, stepsL, stepsL, stepsL_append x l u]
    simp
/-- Read backwards. -/
def swapP (e : Nat × Nat) : Nat × Nat := (e.2, e.1)
def backL (v : Nat) (l : List Nat) : List Nat := (v :: l).reverse.tail
theorem steps_back : ∀ (l : List Nat) (v : Nat), stepsL ((v :: l).getLastD 0) (backL v l) = ((stepsL v l).map swapP).reverse
  | [], v => by simp [stepsL, backL]
  | u :: l, v => by
    have ih := steps_back l u
    have e1 : (v :: u :: l).getLastD 0 = (u :: l).getLastD 0 := by simp
    have hne : (u :: l).reverse ≠ [] := by simp
    have e2 : backL v (u :: l) = backL u l ++ [v] := by
      unfold backL
      rw [List.reverse_cons (a := v)]
      cases h : (u :: l).reverse with
      | nil => exact absurd h hne
      | cons a t => simp
    have e3 : (((u :: l).getLastD 0) :: backL u l).getLastD 0 = u := by
      have : ((u :: l).getLastD 0) :: backL u l = (u :: l).reverse := by
        unfold backL
        cases h : (u :: l).reverse with
        | nil => exact absurd h hne
        | cons a t =>
          have h2 : (u :: l) = (a :: t).reverse := by rw [← h, List.reverse_reverse]
          rw [h2]
          simp
      rw [this, List.reverse_cons, List.getLastD_eq_getLast?]
      simp
    rw [e1, e2, stepsL_append, ih, e3, stepsL]
    simp [swapP]
theorem okF_back {E : Nat → Nat → Bool} (hs : ∀ r j, E r j = true → E j r = true) {es : List (Nat × Nat)} (h : OkF E es) : OkF E (es.map swapP).reverse := by
  rw [okF_iff] at h ⊢
  refine ⟨fun e he => ?_, ?_⟩
  · rw [List.mem_reverse, List.mem_map] at he
    obtain ⟨f, hf, rfl⟩ := he
    exact hs _ _ (h.1 f hf)
  · rw [List.pairwise_reverse, List.pairwise_map]
    refine h.2.imp fun {a b} hab => ?_
    rw [sameP_symm]
    have e : sameP (swapP a) (swapP b) = sameP a b := by
      rw [Bool.eq_iff_iff, sameP_iff, sameP_iff]
      simp only [swapP]
      constructor <;> rintro (⟨h1, h2⟩ | ⟨h1, h2⟩)
      · exact .inl ⟨h2, h1⟩
      · exact .inr ⟨h2, h1⟩
      · exact .inl ⟨h2, h1⟩
      · exact .inr ⟨h2, h1⟩
    rw [e]; exact hab
theorem cut_back (E : Nat → Nat → Bool) (es : List (Nat × Nat)) : cutAll E (es.map swapP).reverse = cutAll E es := by
  funext r j
  rw [cutAll_at, cutAll_at, List.all_reverse, List.all_map]
  congr 2
  funext e
  simp only [Function.comp]
  congr 1
  rw [Bool.eq_iff_iff, sameP_iff, sameP_iff]
  simp only [swapP]
  constructor <;> rintro (⟨h1, h2⟩ | ⟨h1, h2⟩)
  · exact .inr ⟨h2, h1⟩
  · exact .inl ⟨h2, h1⟩
  · exact .inr ⟨h2, h1⟩
  · exact .inl ⟨h2, h1⟩

/-- Nothing is left. -/
def NoE (n : Nat) (E : Nat → Nat → Bool) : Prop := ∀ x, x < n → degN n E x = 0
/-- The list goes along each edge once. -/
def TrlOk (n : Nat) (E : Nat → Nat → Bool) (v : Nat) (l : List Nat) : Prop := (∀ x ∈ v :: l, x < n) ∧ OkF E (stepsL v l) ∧ NoE n (cutAll E (stepsL v l))
theorem trl_in {n : Nat} {E : Nat → Nat → Bool} {v : Nat} {l : List Nat} (h : Trl n E v l) : ∀ x ∈ l, x < n := by
  induction h with
  | done _ _ _ => intro x hx; simp at hx
  | step E v u l _ h2 _ ih =>
    intro x hx
    rcases List.mem_cons.1 hx with rfl | hx
    · exact List.mem_range.1 (List.mem_of_find?_eq_some h2)
    · exact ih x hx
theorem next_tr {n : Nat} {E : Nat → Nat → Bool} {v u : Nat} (h : nextT n E v = some u) : u < n ∧ E v u = true ∧ Tr n (cutE E v u) u := by
  have h1 := List.mem_range.1 (List.mem_of_find?_eq_some h)
  have h2 := List.find?_some h
  obtain ⟨h3, h4⟩ := Bool.and_eq_true_iff.1 h2
  exact ⟨h1, h3, dec_iff.1 h4⟩
theorem trl_ok {n : Nat} {E : Nat → Nat → Bool} {v : Nat} {l : List Nat} (h : Trl n E v l) : v < n → Tr n E v → OkF E (stepsL v l) ∧ NoE n (cutAll E (stepsL v l)) := by
  induction h with
  | done E v h0 =>
    intro hv hT
    refine ⟨trivial, fun x hx => ?_⟩
    have h1 := tr_left hv hT
    rcases Nat.eq_zero_or_pos (degN n E x) with h2 | h2
    · exact h2
    · have := h1.2 ⟨x, hx, h2⟩
      omega
  | step E v u l h1 h2 _ ih =>
    intro hv hT
    obtain ⟨hu, hE, hT2⟩ := next_tr h2
    obtain ⟨k1, k2⟩ := ih hu hT2
    exact ⟨⟨hE, k1⟩, k2⟩
theorem trl_trlOk {n : Nat} {E : Nat → Nat → Bool} {v : Nat} {l : List Nat} (h : Trl n E v l) (hv : v < n) (hT : Tr n E v) : TrlOk n E v l := by
  obtain ⟨h1, h2⟩ := trl_ok h hv hT
  refine ⟨fun x hx => ?_, h1, h2⟩
  rcases List.mem_cons.1 hx with rfl | hx
  · exact hv
  · exact trl_in h x hx
theorem last_mem (v : Nat) (l : List Nat) : (v :: l).getLastD 0 ∈ v :: l := by
  rw [List.getLastD_eq_getLast?]
  cases h : (v :: l).getLast? with
  | none => simp at h
  | some a => exact List.mem_of_getLast? h
theorem rev_back (v : Nat) (l : List Nat) : (v :: l).reverse = (v :: l).getLastD 0 :: backL v l := by
  unfold backL
  cases h : (v :: l).reverse with
  | nil => simp at h
  | cons a t =>
    have h2 : (v :: l) = (a :: t).reverse := by rw [← h, List.reverse_reverse]
    rw [h2]
    simp
theorem trlOk_back {n : Nat} {E : Nat → Nat → Bool} (hs : ∀ r j, E r j = true → E j r = true) {v : Nat} {l : List Nat} (h : TrlOk n E v l) : TrlOk n E ((v :: l).getLastD 0) (backL v l) := by
  refine ⟨fun x hx => ?_, ?_, ?_⟩
  · rw [← rev_back, List.mem_reverse] at hx
    exact h.1 x hx
  · rw [steps_back]; exact okF_back hs h.2.1
  · rw [steps_back, cut_back]; exact h.2.2
/-- Odd ones are the ends. -/
theorem trl_ends {n : Nat} : ∀ (l : List Nat) (E : Nat → Nat → Bool) (v : Nat), (∀ r, E r r = false) → (∀ r j, E r j = true → E j r = true) → v < n → (∀ x ∈ l, x < n) → OkF E (stepsL v l) → NoE n (cutAll E (stepsL v l)) → ∀ x, x < n → degN n E x % 2 = ((if x = v then 1 else 0) + (if x = (v :: l).getLastD 0 then 1 else 0)) % 2
  | [], E, v, _, _, _, _, _, h0, x, hx => by
    have := h0 x hx
    simp only [stepsL, cutAll, List.foldl_nil] at this
    rw [this]
    by_cases e : x = v
    · simp [e]
    · simp [e]
  | u :: l, E, v, hi, hs, hv, hl, hok, h0, x, hx => by
    have hu : u < n := hl u (by simp)
    have hE := hok.1
    simp only at hE
    have hvu : v ≠ u := fun e => by subst e; rw [hi] at hE; exact absurd hE (by decide)
    have ih := trl_ends l (cutE E v u) u (cutE_irr hi v u) (cutE_sym hs v u) hu (fun y hy => hl y (by simp [hy])) hok.2 h0 x hx
    have e1 : (v :: u :: l).getLastD 0 = (u :: l).getLastD 0 := by simp
    rw [e1]
    by_cases h1 : x = v
    · subst h1
      have := degN_cut_p hu hvu hE
      have h2 : ¬ x = u := hvu
      simp only [h2, if_false] at ih
      simp only [if_true]
      omega
    · by_cases h2 : x = u
      · subst h2
        have := degN_cut_q hv hvu (hs _ _ hE)
        simp only [if_true] at ih
        simp only [h1, if_false]
        omega
      · have := degN_cut_o (n := n) (E := E) h1 h2
        simp only [h2, if_false] at ih
        simp only [h1, if_false]
        omega
/-- Twice the edges used are the degrees used. -/
theorem totN_cut2 {n : Nat} {E : Nat → Nat → Bool} {v u : Nat} (hs : ∀ r j, E r j = true → E j r = true) (hi : ∀ r, E r r = false) (hv : v < n) (hu : u < n) (h : E v u = true) : totN n E = totN n (cutE E v u) + 2 := by
  have hvu : v ≠ u := fun e => by subst e; rw [hi] at h; exact absurd h (by decide)
  have h1 := degN_cut_p hu hvu h
  have h2 := degN_cut_q hv hvu (hs _ _ h)
  have key : ∀ l : List Nat, l.Nodup → (l.map (degN n E)).sum = (l.map (degN n (cutE E v u))).sum + ((if v ∈ l then 1 else 0) + (if u ∈ l then 1 else 0)) := by
    intro l
    induction l with
    | nil => intro _; simp
    | cons a l ih =>
      intro hn
      rw [List.nodup_cons] at hn
      have ih := ih hn.2
      simp only [List.map_cons, List.sum_cons, List.mem_cons]
      by_cases e1 : v = a
      · subst e1
        have : ¬ u = v := fun e => hvu e.symm
        simp only [hn.1, if_false] at ih
        simp only [true_or, if_true, this, false_or]
        omega
      · by_cases e2 : u = a
        · subst e2
          simp only [hn.1, if_false] at ih
          simp only [e1, false_or, true_or, if_true]
          omega
        · have := degN_cut_o (n := n) (E := E) (fun e => e1 e.symm : a ≠ v) (fun e => e2 e.symm : a ≠ u)
          simp only [e1, e2, false_or]
          omega
  have := key (List.range n) List.nodup_range
  simp only [List.mem_range, hv, hu, if_true] at this
  unfold totN
  omega
theorem trl_many {n : Nat} : ∀ (l : List Nat) (E : Nat → Nat → Bool) (v : Nat), (∀ r, E r r = false) → (∀ r j, E r j = true → E j r = true) → v < n → (∀ x ∈ l, x < n) → OkF E (stepsL v l) → totN n E = totN n (cutAll E (stepsL v l)) + 2 * l.length
  | [], E, v, _, _, _, _, _ => by simp [stepsL, cutAll]
  | u :: l, E, v, hi, hs, hv, hl, hok => by
    have hu : u < n := hl u (by simp)
    have h1 := totN_cut2 hs hi hv hu hok.1
    have h2 := trl_many l (cutE E v u) u (cutE_irr hi v u) (cutE_sym hs v u) hu (fun y hy => hl y (by simp [hy])) hok.2
    show totN n E = totN n (cutAll (cutE E v u) (stepsL u l)) + 2 * (l.length + 1)
    omega

end Go.Proofs.YtfphapcgjlhieaaDoor
