/- Walk: what the program reaches. -/
import Derived.Test.YtlhkhibnbmnjiaaDoorRchP
import Derived.Test.YtlhkhibnbmnjiaaDoorFoldOf
import Derived.Test.YtlhkhibnbmnjiaaDoorSetW
import Derived.Test.YtlhkhibnbmnjiaaDoorNets
namespace Go.Proofs.YtlhkhibnbmnjiaaDoor
open Go.RowKit

theorem filter_lt {α : Type} (p q : α → Bool) : ∀ (l : List α), (∀ x ∈ l, p x = true → q x = true) → (∃ x ∈ l, q x = true ∧ ¬ p x = true) → (l.filter p).length < (l.filter q).length
  | [], _, ⟨x, hx, _⟩ => by simp at hx
  | a :: l, h, ⟨x, hx, hq, hp⟩ => by
    have hle : ∀ m : List α, (∀ x ∈ m, p x = true → q x = true) → (m.filter p).length ≤ (m.filter q).length := by
      intro m
      induction m with
      | nil => intro _; simp
      | cons b m ih =>
        intro hm
        have := ih fun x hx => hm x (by simp [hx])
        by_cases hb : p b = true
        · rw [List.filter_cons_of_pos hb, List.filter_cons_of_pos (hm b (by simp) hb)]; simp; exact this
        · rw [List.filter_cons_of_neg hb]
          by_cases hb2 : q b = true
          · rw [List.filter_cons_of_pos hb2]; simp; omega
          · rw [List.filter_cons_of_neg hb2]; exact this
    by_cases ha : p a = true
    · have hqa := h a (by simp) ha
      rw [List.filter_cons_of_pos ha, List.filter_cons_of_pos hqa]
      have hxl : x ∈ l := by
        rcases List.mem_cons.1 hx with e | e
        · subst e; exact absurd ha hp
        · exact e
      have := filter_lt p q l (fun x hx => h x (by simp [hx])) ⟨x, hxl, hq, hp⟩
      simp; exact this
    · rw [List.filter_cons_of_neg ha]
      have h1 := hle l fun x hx => h x (by simp [hx])
      by_cases hqa : q a = true
      · rw [List.filter_cons_of_pos hqa]; simp; omega
      · rw [List.filter_cons_of_neg hqa]
        have hxl : x ∈ l := by
          rcases List.mem_cons.1 hx with e | e
          · subst e; exact absurd hq hqa
          · exact e
        exact filter_lt p q l (fun x hx => h x (by simp [hx])) ⟨x, hxl, hq, hp⟩
theorem bits_len_lt {m k : Nat} (hm : m < 65536) (hk : k < 65536) (h : ∀ i, m.testBit i = true → k.testBit i = true) (hne : m ≠ k) : (bitsOf m).length < (bitsOf k).length := by
  unfold bitsOf
  have hx : ∃ i, k.testBit i = true ∧ ¬ m.testBit i = true := Classical.byContradiction fun hn => hne (Nat.eq_of_testBit_eq fun i => by
    rw [Bool.eq_iff_iff]
    exact ⟨h i, fun hi => Classical.byContradiction fun hmi => hn ⟨i, hi, hmi⟩⟩)
  obtain ⟨i, hi, hmi⟩ := hx
  have hi16 : i < 16 := bitsOf_lt16 hk ((mem_left hk).2 hi)
  exact filter_lt _ _ _ (fun x _ => h x) ⟨i, by simp; omega, hi, hmi⟩

/-- What the walks need of the sets: the masks of the graph of n vertices with the edges E. -/
structure NE (w : World) (x : Value) (n : Nat) (E : Nat → Nat → Bool) : Prop where
  le : n ≤ 16
  sl : Sl w 59 x n ((indN n E).map u32v)
theorem NE.next {w w' : World} {x : Value} {n : Nat} {E : Nat → Nat → Bool} (h : NE w x n E) (hb : Below w.heap.size w w') : NE w' x n E := ⟨h.le, h.sl.below hb⟩
theorem NE.get {w : World} {p : Option Addr} {m c n : Nat} {E : Nat → Nat → Bool} (h : NE w (.slice p m c) n E) {v : Nat} (hv : v < n) :
    ∃ (b o a : Nat), p = some ⟨b, o, none⟩ ∧ w.cell? ⟨b, o + v, none⟩ = some (.int .u32 (a : Int)) ∧ a < 65536 ∧ ∀ j, a.testBit j = (decide (j < n) && E v j) := by
  have hvl : v < (indN n E).length := by rw [indN_length]; exact hv
  obtain ⟨b, o, h1, h2⟩ := nets_cell (a := indN n E) (by rw [indN_length]; exact h.sl) hvl
  have h3 := indN_bit (E := E) hv
  have e : (indN n E).getD v 0 = (indN n E)[v] := by simp [hvl]
  rw [e] at h3
  exact ⟨b, o, _, h1, h2, indN_lt16 h.le _ (List.getElem_mem hvl), h3⟩


end Go.Proofs.YtlhkhibnbmnjiaaDoor
