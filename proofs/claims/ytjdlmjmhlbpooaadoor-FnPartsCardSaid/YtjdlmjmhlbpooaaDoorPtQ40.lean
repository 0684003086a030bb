/- Walks: l1Less, l12Bit, l12Set. -/
import Derived.Test.YtjdlmjmhlbpooaaDoorPtQ36
import Derived.Test.YtjdlmjmhlbpooaaDoorPtQ4
import Derived.Test.YtjdlmjmhlbpooaaDoorPtQ3
import Derived.Deep.RegionHeld3
import Derived.Deep.DeepCutAuto
import Derived.Test.YtjdlmjmhlbpooaaDoorPtQ39
import Derived.Test.YtjdlmjmhlbpooaaDoorPtQ7
import Derived.Test.YtjdlmjmhlbpooaaDoorPtQ13
import Derived.Test.YtjdlmjmhlbpooaaDoorPtQ35
namespace Go.Proofs.YtjdlmjmhlbpooaaDoor
open Go.RowKit

theorem natInts_atL {l : List Nat} {k : Nat} (h : k < l.length) {h' : k < (natInts l).length} : (natInts l)[k] = ((l[k] : Nat) : Int) := by simp [natInts]
theorem lexL_at : ∀ (i : Nat) (a b : List Nat) (ha : i < a.length) (hb : i < b.length), a.take i = b.take i → a[i] ≠ b[i] → (lexL a b ↔ a[i] < b[i])
  | _, [], _, ha, _, _, _ => by simp at ha
  | _, _ :: _, [], _, hb, _, _ => by simp at hb
  | 0, x :: a, y :: b, _, _, _, hne => by
    simp only [List.getElem_cons_zero] at hne ⊢
    simp only [lexL]
    exact ⟨fun h => h.elim id fun h => absurd h.1 hne, .inl⟩
  | i + 1, x :: a, y :: b, ha, hb, ht, hne => by
    simp only [List.take_succ_cons, List.cons.injEq] at ht
    obtain ⟨rfl, ht⟩ := ht
    simp only [List.getElem_cons_succ] at hne ⊢
    simp only [lexL]
    rw [← lexL_at i a b (by simpa using ha) (by simpa using hb) ht hne]
    exact ⟨fun h => h.elim (fun h => absurd h (Nat.lt_irrefl _)) fun h => h.2, fun h => .inr ⟨trivial, h⟩⟩


theorem i64_and_nat (a b : Nat) (ha : a < 4294967296) (hb : b < 4294967296) : bits BinOp.and IntKind.i64 (a : Int) (b : Int) = ((a &&& b : Nat) : Int) :=
  (bits_nat .i64 32 (by decide) (fun n h1 h2 => by rw [IntKind.wrap_i64]; omega) a b (by omega) (by omega)).1

theorem wrap_pow (v : Nat) (hv : v < 32) : wrap64 (2 ^ v) = ((2 ^ v : Nat) : Int) := by
  have h1 := pow_lt32 v hv
  have e : (2 ^ v : Int) = ((2 ^ v : Nat) : Int) := by simp
  rw [e]
  generalize (2 ^ v : Nat) = t at *
  unfold wrap64
  omega

theorem bit_ne (s k : Nat) (hs : s < 65536) (hk : k < 17) : (bits BinOp.and IntKind.i64 (s : Int) ((2 ^ k : Nat) : Int) != 0) = s.testBit k := by
  have h1 := pow_lt32 k (by omega)
  rw [i64_and_nat _ _ (by omega) h1, Bool.eq_iff_iff]
  constructor
  · intro h
    refine Decidable.byContradiction fun hn => ?_
    have h0 : s &&& 2 ^ k = 0 := Nat.eq_of_testBit_eq fun j => by
      rw [Nat.testBit_and, Nat.testBit_two_pow, Nat.zero_testBit]
      by_cases hj : k = j
      · subst hj
        simpa using hn
      · simp [hj]
    rw [h0] at h
    simp at h
  · intro h
    have h0 : s &&& 2 ^ k ≠ 0 := fun h0 => by
      have := congrArg (fun z => z.testBit k) h0
      simp [h] at this
    simp only [bne_iff_ne, ne_eq]
    omega



def lowB (s k : Nat) : List Nat := (List.range k).filter fun i => s.testBit i
theorem lowB_len (s k : Nat) : (lowB s k).length ≤ k := Nat.le_trans (List.length_filter_le _ _) (by simp)
theorem lowB_yes {s k : Nat} (h : s.testBit k = true) : lowB s (k + 1) = lowB s k ++ [k] := by simp [lowB, List.range_succ, h]
theorem lowB_no {s k : Nat} (h : s.testBit k = false) : lowB s (k + 1) = lowB s k := by simp [lowB, List.range_succ, h]
theorem lowB_end {s k : Nat} (hs : s < 2 ^ k) (hk : k ≤ 32) : lowB s k = bitsOf s :=
  rising_ext _ _ (List.Pairwise.filter _ List.pairwise_lt_range) (bitsOf_rising s) fun x => by
    rw [mem_bitsOf, lowB, List.mem_filter, List.mem_range]
    constructor
    · rintro ⟨a, b⟩
      exact ⟨by omega, b⟩
    · rintro ⟨a, b⟩
      refine ⟨Nat.lt_of_not_le fun hge => ?_, b⟩
      have := Nat.testBit_lt_two_pow (Nat.lt_of_lt_of_le hs (Nat.pow_le_pow_right (by decide) hge) : s < 2 ^ x)
      rw [this] at b
      exact nomatch b


end Go.Proofs.YtjdlmjmhlbpooaaDoor

/- Walks: l8Meet, l1All (the reference's cliques). -/
namespace Go.Proofs.YtjdlmjmhlbpooaaDoor
open Go.RowKit

set_option maxRecDepth 100000 in
set_option maxHeartbeats 1000000 in
theorem l1All_any (z : Int) (n : Nat) (hz : z = n) (hn : n ≤ 1000) (w : World) :
    Calls Tryd.prog 73 #[.int .i64 z] w fun e w' => ∃ ov, e = .returned ov ∧ w'.ownsRow w.heap.size 2 1 ov n ((natInts (List.range n)).map (Value.int .i64)) ∧ Below w.heap.size w w' := by
  subst hz
  have HO := Lib.hid (ownsRow_empty w 2 1)
  have HB := Lib.hid (below_alloc w (.cells #[] 2))
  go_enter Tryd.func73, Tryd.ntmps73
  go_wp2
  go_loopw [3, 4] (fun o i wr => ∃ k : Nat, k ≤ n ∧ i = .int .i64 k ∧ wr.ownsRow w.heap.size 2 1 o k ((natInts (List.range k)).map (Value.int .i64)) ∧ Below w.heap.size w wr) (fun _ i _ => n - (intOf i).toNat)
  case atStart => exact ⟨0, Nat.zero_le _, rfl, HO.out, HB.out⟩
  case round =>
    obtain ⟨k, hk, rfl, hown, hbel⟩ := hrel
    have hsz := hbel.size
    by_cases hlt : k < n
    · go_wp2_with (at_builtin; refine wpList_app1 ty_i64 rfl rfl rfl hown rfl rfl (by omega) (by omega) ?_; intro v' w1 hown' hg _)
      go_roundw
      case rel => exact ⟨k + 1, by omega, by go_num, by rw [List.range_succ, show natInts (List.range k ++ [k]) = natInts (List.range k) ++ [(k : Int)] by simp [natInts], List.map_append]; exact hown', below_grown hbel hown hg (Nat.le_refl _) hsz⟩
      case measure => simp [intOf]; omega
    · obtain rfl : k = n := by omega
      go_wp2
      go_ret
      exact ⟨_, rfl, hown, hbel⟩

theorem nums_at {w : World} {E : TypeId} {p : Option Addr} {m c : Nat} {xs : List Int} (h : Nums w E .i64 (.slice p m c) xs) : At w E p (xs.map (Value.int .i64)) := by
  obtain ⟨p', c', e, _, _, _, hat⟩ := h
  simp only [Value.slice.injEq] at e
  obtain ⟨rfl, _, _⟩ := e
  exact hat
/-- Those of xs that are in ys, up to the k-th. -/
def meetL (xs : List Nat) (ys : List Int) (k : Nat) : List Nat := (xs.take k).filter fun j => decide ((j : Int) ∈ ys)
theorem meetL_succ {xs : List Nat} {ys : List Int} {k : Nat} (h : k < xs.length) : meetL xs ys (k + 1) = if ((xs[k] : Nat) : Int) ∈ ys then meetL xs ys k ++ [xs[k]] else meetL xs ys k := by
  unfold meetL
  rw [take_snoc _ k h, List.filter_append]
  by_cases hm : ((xs[k] : Nat) : Int) ∈ ys
  · rw [if_pos hm]; simp [hm]
  · rw [if_neg hm]; simp [hm]
theorem meetL_len (xs : List Nat) (ys : List Int) (k : Nat) : (meetL xs ys k).length ≤ xs.length := Nat.le_trans (List.length_filter_le _ _) (by rw [List.length_take]; omega)

end Go.Proofs.YtjdlmjmhlbpooaaDoor

/- Plain: the parts are connected, no two of them together, and all vertices are in them. -/
namespace Go.Proofs.YtjdlmjmhlbpooaaDoor

theorem rch_partL {E : Nat → Nat → Bool} {L : List Nat} {u : Nat} : ∀ x, Rch E (· ∈ L) u x → Rch E (· ∈ partL E L u) u x := by
  intro x h
  refine (rch_closed (T := fun x => Rch E (· ∈ L) u x ∧ Rch E (· ∈ partL E L u) u x) ⟨.base, .base⟩ (fun a b ha hE hb => ?_) x h).2
  have hb2 : Rch E (· ∈ L) u b := .step ha.1 hE hb
  exact ⟨hb2, .step ha.2 hE (mem_partL.2 ⟨hb, hb2⟩)⟩
theorem partL_head {E : Nat → Nat → Bool} {L : List Nat} {u : Nat} : partL E (u :: L) u = u :: (L.filter fun x => dec (Rch E (· ∈ u :: L) u x)) := by
  unfold partL
  exact List.filter_cons_of_pos (p := fun x => dec (Rch E (· ∈ u :: L) u x)) (dec_true .base)
theorem conn_partL {E : Nat → Nat → Bool} {L : List Nat} {u : Nat} : ConnL E (partL E (u :: L) u) := by
  have h := partL_head (E := E) (L := L) (u := u)
  refine ⟨by rw [h]; simp, fun x hx => ?_⟩
  have hh : (partL E (u :: L) u).headD 0 = u := by rw [h]; rfl
  rw [hh]
  exact rch_partL x (mem_partL.1 hx).2
theorem parts_conn {E : Nat → Nat → Bool} {L : List Nat} {ps : List (List Nat)} (h : Parts E L ps) : ∀ p ∈ ps, ConnL E p := by
  induction h with
  | done => intro p hp; simp at hp
  | step u L ps _ ih =>
    intro p hp
    rcases List.mem_cons.1 hp with rfl | hp
    · exact conn_partL
    · exact ih p hp
theorem parts_in {E : Nat → Nat → Bool} {L : List Nat} {ps : List (List Nat)} (h : Parts E L ps) : ∀ p ∈ ps, ∀ x ∈ p, x ∈ L := by
  induction h with
  | done => intro p hp; simp at hp
  | step u L ps _ ih =>
    intro p hp x hx
    rcases List.mem_cons.1 hp with rfl | hp
    · exact (mem_partL.1 hx).1
    · exact (mem_restL.1 (ih p hp x hx)).1
theorem parts_ris {E : Nat → Nat → Bool} {L : List Nat} {ps : List (List Nat)} (h : Parts E L ps) : L.Pairwise (· < ·) → ∀ p ∈ ps, p.Pairwise (· < ·) := by
  induction h with
  | done => intro _ p hp; simp at hp
  | step u L ps _ ih =>
    intro hL p hp
    rcases List.mem_cons.1 hp with rfl | hp
    · exact partL_rising hL u
    · exact ih (restL_rising hL u) p hp
/-- Between two parts there is nothing. -/
theorem parts_apart {E : Nat → Nat → Bool} {L : List Nat} {ps : List (List Nat)} (h : Parts E L ps) : ps.Pairwise fun p q => ∀ x ∈ p, ∀ y ∈ q, x ≠ y ∧ E x y = false := by
  induction h with
  | done => exact List.Pairwise.nil
  | step u L ps h1 ih =>
    refine List.Pairwise.cons (fun q hq x hx y hy => ?_) ih
    have hx2 := mem_partL.1 hx
    have hy2 := mem_restL.1 (parts_in h1 q hq y hy)
    refine ⟨fun e => hy2.2 (e ▸ hx2.2), ?_⟩
    cases hE : E x y with
    | false => rfl
    | true => exact absurd (.step hx2.2 hE hy2.1) hy2.2
theorem filter_not_len {α : Type} (p : α → Bool) : ∀ l : List α, (l.filter p).length + (l.filter fun x => !p x).length = l.length
  | [] => rfl
  | a :: l => by
    have ih := filter_not_len p l
    cases h : p a <;> simp [List.filter_cons, h] <;> omega
theorem parts_total {E : Nat → Nat → Bool} {L : List Nat} {ps : List (List Nat)} (h : Parts E L ps) : (ps.map List.length).sum = L.length := by
  induction h with
  | done => rfl
  | step u L ps _ ih =>
    have := filter_not_len (fun x => dec (Rch E (· ∈ u :: L) u x)) (u :: L)
    simp only [List.map_cons, List.sum_cons, ih]
    exact this
/-- Two sets without an edge between them are not connected together. -/
theorem not_conn_two {E : Nat → Nat → Bool} (hs : ∀ r j, E r j = true → E j r = true) {p q S : List Nat} (hp : p ≠ []) (hq : q ≠ []) (hS : ∀ x, x ∈ S ↔ x ∈ p ∨ x ∈ q) (h : ∀ x ∈ p, ∀ y ∈ q, x ≠ y ∧ E x y = false) : ¬ ConnL E S := by
  rintro ⟨hne, hr⟩
  have key : ∀ p q : List Nat, q ≠ [] → (∀ x, x ∈ S ↔ x ∈ p ∨ x ∈ q) → (∀ x ∈ p, ∀ y ∈ q, x ≠ y ∧ E x y = false) → S.headD 0 ∈ p → False := by
    intro p q hq hS h h0
    have hcl : ∀ x, Rch E (· ∈ S) (S.headD 0) x → x ∈ p := rch_closed h0 fun a b ha hE hb => by
      rcases (hS b).1 hb with h1 | h1
      · exact h1
      · have := (h a ha b h1).2
        rw [this] at hE
        exact absurd hE (by decide)
    obtain ⟨y, hy⟩ := List.exists_mem_of_ne_nil q hq
    have := hcl y (hr y ((hS y).2 (.inr hy)))
    exact (h y this y hy).1 rfl
  have hh : S.headD 0 ∈ S := by
    cases S with
    | nil => exact absurd rfl hne
    | cons a S => simp
  rcases (hS _).1 hh with h1 | h1
  · exact key p q hq hS h h1
  · refine key q p hp (fun x => (hS x).trans Or.comm) (fun x hx y hy => ?_) h1
    have := h y hy x hx
    refine ⟨fun e => this.1 e.symm, ?_⟩
    cases hE : E x y with
    | false => rfl
    | true =>
      have h2 := hs _ _ hE
      rw [this.2] at h2
      exact absurd h2 (by decide)

end Go.Proofs.YtjdlmjmhlbpooaaDoor
