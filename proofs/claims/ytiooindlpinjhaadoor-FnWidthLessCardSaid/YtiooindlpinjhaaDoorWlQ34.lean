/- Walk: whether the sets that the program's search has are those of a model. -/
import Derived.Test.YtiooindlpinjhaaDoorWlQ33
import Derived.Test.YtiooindlpinjhaaDoorWlQ32
import Derived.Test.YtiooindlpinjhaaDoorWlQ8
import Derived.Test.YtiooindlpinjhaaDoorWlQ14
import Derived.Test.YtiooindlpinjhaaDoorWlQ2
import Derived.Deep.RegionHeld
import Derived.Deep.RegionLaw
import Derived.Test.YtiooindlpinjhaaDoorWlQ26
import Derived.Test.YtiooindlpinjhaaDoorWlQ3
import Derived.Test.YtiooindlpinjhaaDoorCards
import Derived.Test.YtiooindlpinjhaaDoorTie
import Derived.ProofKit
import Derived.OpenShut
import Derived.Below
import Derived.ChangeSlices
import Derived.ChangeSame
import Derived.WideKeyArgs
import Derived.Deep.DeepHandedRow
import Derived.Deep.Matrix
import Derived.Lib.LaidTab
namespace Go.Proofs.YtiooindlpinjhaaDoor
open Go.RowKit

theorem bits_mskW {m k : Nat} (w : List Nat) (h16 : w.length ≤ 16) (hk : k < m) : bitsOf ((mskW m w).getD k 0) = setW w k := by
  refine rising_ext _ _ (bitsOf_rising _) (setW_rising _ _) fun x => ?_
  rw [mem_left (mskW_lt16 h16), mskW_bit w hk, mem_setW]
theorem sl_cell {w : World} {E : TypeId} {p : Option Addr} {n c : Nat} {vals : List Value} (h : Sl w E (.slice p n c) n vals) {j : Nat} {u : Value} (hj : vals[j]? = some u) : ∃ b o, p = some ⟨b, o, none⟩ ∧ w.cell? ⟨b, o + j, none⟩ = some u := by
  obtain ⟨p', c', he, _, _, _, hat⟩ := h
  simp only [Value.slice.injEq] at he
  obtain ⟨rfl, _, rfl⟩ := he
  obtain ⟨b, o, h1, h2⟩ := hat.cells (k := j) (by obtain ⟨h, _⟩ := List.getElem?_eq_some_iff.1 hj; exact h)
  exact ⟨b, o, h1, h2 j u hj⟩
/-- Two sets of the word, joined. -/
def JnU (E : Nat → Nat → Bool) (w : List Nat) (i k : Nat) : Prop := ∃ x ∈ setW w i, ∃ y ∈ setW w k, E x y = true
def FitU (E F : Nat → Nat → Bool) (w : List Nat) (i : Nat) : Prop := ∀ a, a < i → ConnL E (setW w a) ∧ ∀ k, k < a → F a k = true → JnU E w a k
theorem FitU.zero (E F : Nat → Nat → Bool) (w : List Nat) : FitU E F w 0 := fun _ h => absurd h (by omega)
theorem FitU.snoc {E F : Nat → Nat → Bool} {w : List Nat} {i : Nat} (h : FitU E F w i) (h1 : ConnL E (setW w i)) (h2 : ∀ k, k < i → F i k = true → JnU E w i k) : FitU E F w (i + 1) := fun a ha => by
  by_cases e : a = i
  · subst e; exact ⟨h1, h2⟩
  · exact h a (by omega)
theorem fitU_iff {m : Nat} {E F : Nat → Nat → Bool} (hE : ∀ x y, E x y = true → E y x = true) (hF : ∀ i k, F i k = F k i) (hi : ∀ i, F i i = false) {w : List Nat} : FitU E F w m ↔ FitW m E F w := by
  rw [fitW_half hE hF hi]
  exact ⟨fun h => ⟨fun k hk => (h k hk).1, fun i him k hk hf => (h i him).2 k hk hf⟩, fun h i him => ⟨h.1 i him, fun k hk hf => h.2 i him k hk hf⟩⟩
theorem jnU_and {m i k r s t : Nat} {E : Nat → Nat → Bool} {w : List Nat} (hi : i < m) (hk : k < m) (hs : s = (mskW m w).getD i 0) (ht : t = (mskW m w).getD k 0)
    (hr : ∀ j, r.testBit j = true ↔ ∃ v, s.testBit v = true ∧ E v j = true) : r &&& t = 0 ↔ ¬ JnU E w i k := by
  subst hs; subst ht
  rw [and_zero_iff]
  constructor
  · rintro h ⟨x, hx, y, hy, e⟩
    exact h y ⟨(hr y).2 ⟨x, (mskW_bit w hi x).2 (mem_setW.1 hx), e⟩, (mskW_bit w hk y).2 (mem_setW.1 hy)⟩
  · rintro h j ⟨h1, h2⟩
    obtain ⟨x, hx, e⟩ := (hr j).1 h1
    exact h ⟨x, mem_setW.2 ((mskW_bit w hi x).1 hx), j, mem_setW.2 ((mskW_bit w hk j).1 h2), e⟩


end Go.Proofs.YtiooindlpinjhaaDoor

/- Plain: the word of a model whose sets are a word's; the sets of a model of a model make a model. -/
namespace Go.Proofs.YtiooindlpinjhaaDoor

/-- The word so far: the first i sets, and some vertices more. -/
structure WdI (wd : List Nat) (i : Nat) (T : List Nat) (F : List Nat) : Prop where
  len : F.length = wd.length
  val : ∀ x, x < wd.length → F.getD x 0 = if (1 ≤ wd.getD x 0 ∧ wd.getD x 0 ≤ i) ∨ x ∈ T then wd.getD x 0 else 0
theorem WdI.start (wd : List Nat) : WdI wd 0 [] (List.replicate wd.length 0) where
  len := by simp
  val := fun x hx => by
    rw [if_neg (by simp; omega)]
    simp [List.getD_eq_getElem?_getD, hx]
theorem WdI.put {wd : List Nat} {i x : Nat} {T F : List Nat} (h : WdI wd i T F) (hx : x ∈ setW wd i) : WdI wd i (T ++ [x]) (F.set x (i + 1)) where
  len := by rw [List.length_set, h.len]
  val := fun y hy => by
    obtain ⟨h1, h2⟩ := mem_setW.1 hx
    rw [List.getD_eq_getElem?_getD, List.getElem?_set]
    by_cases e : x = y
    · subst e
      rw [if_pos rfl, if_pos (by rw [h.len]; exact h1), if_pos (by simp)]
      show i + 1 = wd.getD x 0
      rw [h2]
    · rw [if_neg e, ← List.getD_eq_getElem?_getD, h.val y hy]
      simp [Ne.symm e]
theorem WdI.next {wd : List Nat} {i : Nat} {F : List Nat} (h : WdI wd i (setW wd i) F) : WdI wd (i + 1) [] F where
  len := h.len
  val := fun x hx => by
    rw [h.val x hx]
    by_cases e : wd.getD x 0 = i + 1
    · rw [if_pos (.inr (mem_setW.2 ⟨hx, e⟩)), if_pos (.inl (by omega))]
    · by_cases e2 : 1 ≤ wd.getD x 0 ∧ wd.getD x 0 ≤ i
      · rw [if_pos (.inl e2), if_pos (.inl (by omega))]
      · rw [if_neg (fun h1 => by
          rcases h1 with h1 | h1
          · omega
          · have := (mem_setW.1 h1).2
            omega), if_neg (fun h1 => by
          rcases h1 with h1 | h1
          · omega
          · simp at h1)]
theorem WdI.all {wd : List Nat} {m : Nat} {F : List Nat} (h : WdI wd m [] F) (hm : ∀ x ∈ wd, x ≤ m) : F = wd := by
  refine List.ext_getElem h.len fun x h1 h2 => ?_
  have := h.val x h2
  rw [List.getD_eq_getElem?_getD, List.getElem?_eq_getElem h1, List.getD_eq_getElem?_getD, List.getElem?_eq_getElem h2] at this
  have hle := hm _ (List.getElem_mem h2)
  simp only [Option.getD_some] at this
  rw [this]
  by_cases e : wd[x] = 0
  · rw [if_neg (fun h3 => by
      rcases h3 with h3 | h3
      · omega
      · simp at h3), e]
  · rw [if_pos (.inl (by omega))]
theorem map_mask_setsW (m : Nat) (w : List Nat) : (setsW m w).map mask = mskW m w := by
  unfold setsW mskW
  rw [List.map_map]
  rfl

theorem setIn_setW {n : Nat} {w : List Nat} (hn : w.length = n) (k : Nat) : SetIn n (natInts (setW w k)) := by
  refine ⟨fun x hx => ?_, natInts_rising (setW_rising w k)⟩
  obtain ⟨i, hi, rfl⟩ := mem_natInts.1 hx
  have := (mem_setW.1 hi).1
  omega
/-- What the search finds is a model. -/
theorem fit_mdOk {g p : List (List Int)} {w : List Nat} (hg : GOk g) (hp : GOk p) (hn : w.length = g.length) (h : FitW p.length (ofG g) (ofG p) w) : MdOk g p (setsW p.length w) := by
  have hlen := setsW_length p.length w
  refine ⟨⟨⟨⟨⟨hg, by rw [hlen]; exact hp.le⟩, fun a ha => ?_⟩, hp⟩, hlen⟩, fun a ha => ?_, fun e he => ?_⟩
  · rw [hlen] at ha
    rw [row_setsW ha]
    refine ⟨setIn_setW hn a, fun b hb x hx hxb => ?_⟩
    rw [row_setsW (show b < p.length by omega)] at hxb
    obtain ⟨i, hi, rfl⟩ := mem_natInts.1 hx
    obtain ⟨j, hj, e⟩ := mem_natInts.1 hxb
    obtain rfl : i = j := by omega
    have := setW_disj hi hj
    omega
  · rw [hlen] at ha
    rw [row_setsW ha]
    refine ⟨⟨hg, setIn_setW hn a⟩, ?_⟩
    have e : (natInts (setW w a)).map Int.toNat = setW w a := by
      unfold natInts
      rw [List.map_map]
      conv => rhs; rw [← List.map_id (setW w a)]
      exact List.map_congr_left fun x _ => by simp
    rw [e]
    exact h.1 a ha
  · obtain ⟨h1, h2, h3, h4⟩ := mem_edN (Nat.le_refl _) he
    rw [row_setsW (show e.1 < p.length by omega), row_setsW (show e.2 < p.length by omega)]
    obtain ⟨x, hx, y, hy, hE⟩ := h.2 e.1 (by omega) e.2 (by omega) h4
    refine ⟨x, mem_natInts.2 ⟨x, hx, rfl⟩, y, mem_natInts.2 ⟨y, hy, rfl⟩, ?_⟩
    simpa [ofG] using hE

end Go.Proofs.YtiooindlpinjhaaDoor

/- Walk: the masks of a model's sets. -/
namespace Go.Proofs.YtiooindlpinjhaaDoor
open Go.RowKit

/-- The vertices of the first sets. -/
def SeenI (M : List (List Int)) (k sn : Nat) : Prop := sn < 65536 ∧ ∀ i, sn.testBit i = true ↔ ∃ a, a < k ∧ (i : Int) ∈ row M a
theorem SeenI.start (M : List (List Int)) : SeenI M 0 0 := ⟨by decide, fun i => by simp⟩
theorem bit_mask {s : List Int} (h : ∀ x ∈ s, 0 ≤ x) (i : Nat) : (mask s).testBit i = true ↔ (i : Int) ∈ s := by
  rw [testBit_mask, List.any_eq_true]
  constructor
  · rintro ⟨x, hx, e⟩
    have h1 := h x hx
    have h2 : x.toNat = i := by simpa using e
    have : (i : Int) = x := by omega
    rw [this]; exact hx
  · intro k
    exact ⟨_, k, by simp⟩
theorem SeenI.put {M : List (List Int)} {k sn m : Nat} (h : SeenI M k sn) (h0 : ∀ x ∈ row M k, 0 ≤ x ∧ x < 16) (hm : m = mask (row M k)) : SeenI M (k + 1) (sn ||| m) := by
  have hm16 : m < 65536 := by rw [hm]; exact mask_lt16 _ fun x hx => (h0 x hx).2
  refine ⟨Nat.or_lt_two_pow (n := 16) h.1 hm16, fun i => ?_⟩
  rw [Nat.testBit_or, Bool.or_eq_true, h.2, hm, bit_mask fun x hx => (h0 x hx).1]
  constructor
  · rintro (⟨a, ha, h1⟩ | h1)
    · exact ⟨a, by omega, h1⟩
    · exact ⟨k, by omega, h1⟩
  · rintro ⟨a, ha, h1⟩
    by_cases e : a < k
    · exact .inl ⟨a, e, h1⟩
    · obtain rfl : a = k := by omega
      exact .inr h1
theorem SeenI.new {M : List (List Int)} {k sn m : Nat} (h : SeenI M k sn) (h0 : ∀ x ∈ row M k, 0 ≤ x ∧ x < 16) (hm : m = mask (row M k)) : m &&& sn = 0 ↔ ∀ b, b < k → ∀ x ∈ row M k, x ∉ row M b := by
  rw [and_zero_iff]
  constructor
  · intro h1 b hb x hx hxb
    have hx0 := h0 x hx
    have e : ((x.toNat : Nat) : Int) = x := by omega
    refine h1 x.toNat ⟨?_, ?_⟩
    · rw [hm, bit_mask fun x hx => (h0 x hx).1, e]; exact hx
    · rw [h.2, e]; exact ⟨b, hb, hxb⟩
  · intro h1 i ⟨h2, h3⟩
    rw [hm, bit_mask fun x hx => (h0 x hx).1] at h2
    obtain ⟨b, hb, h4⟩ := (h.2 i).1 h3
    exact h1 b hb _ h2 h4

end Go.Proofs.YtiooindlpinjhaaDoor

/- Walk: the program's search of a model, recursive on the block of the search (printed by wip/mkMiJ.py). -/
namespace Go.Proofs.YtiooindlpinjhaaDoor
open Go.RowKit


end Go.Proofs.YtiooindlpinjhaaDoor

/- A region that draws its order, some of whose stores hit the cells that it loads: facts on the world, each of which holds until a named operation of the region has come up. -/
namespace Go.Proofs.YtiooindlpinjhaaDoor
open Go.RowKit

section
variable {P : Program} {ops : Array Oper} {Q : Exit → Act → World → Prop} {md : Region.Mode}

/-- Facts, each till the operation beside it has come up. -/
def Stg : List (Nat × (World → Prop)) → Array Bool → World → Prop
  | [], _, _ => True
  | f :: fs, l, w => (l.getD f.1 true = false → f.2 w) ∧ Stg fs l w
theorem Stg.nil {l : Array Bool} {w : World} : Stg [] l w := trivial
theorem Stg.keep {f : Nat × (World → Prop)} {fs : List (Nat × (World → Prop))} {l : Array Bool} {w : World} (h : f.2 w) (r : Stg fs l w) : Stg (f :: fs) l w := ⟨fun _ => h, r⟩
theorem Stg.skip {f : Nat × (World → Prop)} {fs : List (Nat × (World → Prop))} {l : Array Bool} {w : World} (h : l.getD f.1 true = true) (r : Stg fs l w) : Stg (f :: fs) l w := ⟨fun k => absurd (h.symm.trans k) (by decide), r⟩
theorem Stg.get : ∀ {fs : List (Nat × (World → Prop))} {l : Array Bool} {w : World} {m s : Nat} {F : World → Prop}, fs[m]? = some (s, F) → Stg fs l w → l.getD s true = false → F w
  | [], _, _, m, _, _, e, _, _ => by simp at e
  | f :: fs, _, _, 0, _, _, e, h, k => by
    simp only [List.getElem?_cons_zero, Option.some.injEq] at e
    subst e
    exact h.1 k
  | f :: fs, _, _, m + 1, _, _, e, h, k => Stg.get (fs := fs) (m := m) (by simpa using e) h.2 k
theorem Stg.set : ∀ {fs : List (Nat × (World → Prop))} {i : Nat} {l : Array Bool} {w : World}, ((fs.map (·.1)).all fun s => s != i) = true → (Stg fs (l.setIfInBounds i true) w ↔ Stg fs l w)
  | [], _, _, _, _ => Iff.rfl
  | f :: fs, i, l, w, h => by
    simp only [List.map_cons, List.all_cons, Bool.and_eq_true, bne_iff_ne] at h
    unfold Stg
    rw [getD_set_ne true (Ne.symm h.1), Stg.set h.2]

/-- Whatever order is picked from here on; behind each operation the facts hold that are still asked. -/
def wpStg (P : Program) (md : Region.Mode) (ops : Array Oper) (Q : Exit → Act → World → Prop) (fs : List (Nat × (World → Prop))) : Nat → Array Bool → Act → World → Prop
  | 0, l, a, w => Region.ready md ops l = [] ∧ Q .normal a w
  | fuel + 1, l, a, w =>
    (Region.ready md ops l = [] → Q .normal a w) ∧
      ∀ i ∈ Region.ready md ops l, wpOp P ops Q i (fun a' w' => Stg fs (l.setIfInBounds i true) w' ∧ wpStg P md ops Q fs fuel (l.setIfInBounds i true) a' w') a w
variable {fs : List (Nat × (World → Prop))}

theorem wpStg_any : ∀ (fuel : Nat) (l : Array Bool) (a : Act) (w : World), wpStg P md ops Q fs fuel l a w → wpAny P md ops Q fuel l a w
  | 0, _, _, _, h => h
  | fuel + 1, _, _, _, h => ⟨h.1, fun i hi => wpOp_mono (fun a' w' k => wpStg_any fuel _ a' w' k.2) (h.2 i hi)⟩

theorem not_ready_after {i s : Nat} {l : Array Bool} (hb : ((ops[s]?).map fun o => o.after.any fun e => Region.binds md e && e.on == i).getD false = true) (hi : l.getD i true = false) : s ∉ Region.ready md ops l := by
  intro h
  obtain ⟨_, o, ho, hall⟩ := mem_ready.1 h
  rw [ho] at hb
  simp only [Option.map_some, Option.getD_some, Array.any_eq_true'] at hb
  obtain ⟨e, he, hb⟩ := hb
  simp only [Bool.and_eq_true, beq_iff_eq] at hb
  have h2 := hall e he hb.1
  rw [hb.2] at h2
  rcases Nat.lt_or_ge i l.size with k | k
  · simp [k] at h2 hi; rw [hi] at h2; cases h2
  · simp [Array.getElem?_eq_none k] at h2

/-- An operation that yields its value wherever what is still asked holds may be taken first. -/
theorem wpStg_first {i : Nat} {oi : Oper} {v : Value} {F : World → Prop} (G : Array Bool → Prop) (hi : ops[i]? = some oi) (hsel : ∀ (j : Nat) (o : Oper) cs b, ops[j]? = some o → o.op ≠ .select cs b)
    (hQ : ∀ c a w, Q (.panic c) (a.put oi.dst v) w → Q (.panic c) a w) (hne : ((fs.map (·.1)).all fun s => s != i) = true)
    (hGs : ∀ l j, G l → l.getD i true = false → j ∈ Region.ready md ops l → j ≠ i → G (l.setIfInBounds j true)) (hGF : ∀ l w, G l → Stg fs l w → F w) :
    ∀ (fuel : Nat) (l : Array Bool) (a : Act) (w : World),
      (∀ j oj, ops[j]? = some oj → j ≠ i → l.getD j true = false → (∀ e ∈ oj.after, Region.binds md e = true → e.on ≠ i) → oi.apart ops oj = true) →
      i ∈ Region.ready md ops l → G l → YieldsIf P ops F oi v a → Stg fs l w →
      wpStg P md ops Q fs fuel (l.setIfInBounds i true) (a.put oi.dst v) w → wpStg P md ops Q fs (fuel + 1) l a w := by
  intro fuel
  induction fuel with
  | zero =>
    intro l a w _ hr hG hy hS H
    refine ⟨fun h => absurd (h ▸ hr) (by simp), fun j hj => ?_⟩
    by_cases e : j = i
    · subst e
      exact hy.wpOp hi (hGF l w hG hS) ⟨(Stg.set hne).2 hS, H⟩
    · have := ready_mono hj e
      rw [H.1] at this
      simp at this
  | succ fuel ih =>
    intro l a w hap hr hG hy hS H
    refine ⟨fun h => absurd (h ▸ hr) (by simp), fun j hj => ?_⟩
    by_cases e : j = i
    · subst e
      exact hy.wpOp hi (hGF l w hG hS) ⟨(Stg.set hne).2 hS, H⟩
    have hil := (mem_ready.1 hr).1
    obtain ⟨hjl, oj, hoj, hall⟩ := mem_ready.1 hj
    have hno : ∀ x ∈ oj.after, Region.binds md x = true → x.on ≠ i := fun x hx hb k => by
      refine not_ready_after (md := md) (ops := ops) (i := i) (s := j) (l := l) ?_ hil hj
      rw [hoj]
      simp only [Option.map_some, Option.getD_some, Array.any_eq_true']
      exact ⟨x, hx, by simp [hb, k]⟩
    have h2 := wpOp_putIf hoj (hap j oj hoj e hjl hno) (fun cs b => hsel i oi cs b hi) (fun cs b => hsel j oj cs b hoj) hQ hy (H.2 j (ready_mono hj e))
    refine wpOp_mono (fun a' w' h3 => ?_) h2
    obtain ⟨h4, h5, h6⟩ := h3
    rw [Array.setIfInBounds_comm _ _ (Ne.symm e)] at h5 h6
    have h7 := (Stg.set hne).1 h5
    refine ⟨h7, ih _ a' w' (fun k ok hk hki hun hnk => hap k ok hk hki ?_ hnk) (ready_mono hr (Ne.symm e)) (hGs l j hG hil hj e) h4 h7 h6⟩
    by_cases k2 : j = k
    · subst k2; exact hjl
    · rwa [getD_set_ne true k2] at hun

/-- A load is taken first: the store that ends its fact waits for it. -/
theorem wpStg_take {m i s : Nat} {oi : Oper} {v : Value} {F : World → Prop} {fuel : Nat} {l : Array Bool} {a : Act} {w : World} (hm : fs[m]? = some (s, F)) (hi : ops[i]? = some oi)
    (hs : Region.noSelect ops = true) (hf : Region.free md ops l i = true) (hr : (Region.ready md ops l).contains i = true)
    (hb : ((ops[s]?).map fun o => o.after.any fun e => Region.binds md e && e.on == i).getD false = true) (hl : l.getD s true = false) (hne : ((fs.map (·.1)).all fun s => s != i) = true)
    (hQ : ∀ c a w, Q (.panic c) (a.put oi.dst v) w → Q (.panic c) a w) (hy : YieldsIf P ops F oi v a) (hS : Stg fs l w)
    (h : wpStg P md ops Q fs fuel (l.setIfInBounds i true) (a.put oi.dst v) w) : wpStg P md ops Q fs (fuel + 1) l a w :=
  wpStg_first (fun l => l.getD s true = false) hi (Region.noSelect_spec hs) hQ hne
    (fun l j h1 h2 h3 _ => by rw [getD_set_ne true (fun e => not_ready_after hb h2 (by rw [← e]; exact h3))]; exact h1) (fun l w h1 h2 => Stg.get hm h2 h1) fuel l a w (Region.free_spec hi hf) (by simpa using hr) hl hy hS h
/-- What yields in whatever world is taken first. -/
theorem wpStg_pure {i : Nat} {oi : Oper} {v : Value} {fuel : Nat} {l : Array Bool} {a : Act} {w : World} (hi : ops[i]? = some oi)
    (hs : Region.noSelect ops = true) (hf : Region.free md ops l i = true) (hr : (Region.ready md ops l).contains i = true) (hne : ((fs.map (·.1)).all fun s => s != i) = true)
    (hQ : ∀ c a w, Q (.panic c) (a.put oi.dst v) w → Q (.panic c) a w) (hy : YieldsIf P ops (fun _ => True) oi v a) (hS : Stg fs l w)
    (h : wpStg P md ops Q fs fuel (l.setIfInBounds i true) (a.put oi.dst v) w) : wpStg P md ops Q fs (fuel + 1) l a w :=
  wpStg_first (fun _ => True) hi (Region.noSelect_spec hs) hQ hne (fun _ _ _ _ _ _ => trivial) (fun _ _ _ _ => trivial) fuel l a w (Region.free_spec hi hf) (by simpa using hr) trivial hy hS h

/-- Just one operation may come up: it is carried out. -/
theorem wpStg_one {i : Nat} {oi : Oper} {fuel : Nat} {l : Array Bool} {a : Act} {w : World} (hr : Region.ready md ops l = [i]) (hi : ops[i]? = some oi)
    (h : ∀ K' : Act → World → Prop, Shut (∀ a w, Stg fs (l.setIfInBounds i true) w → (Stg fs (l.setIfInBounds i true) w → wpStg P md ops Q fs fuel (l.setIfInBounds i true) a w) → K' a w) →
      if Region.wanted oi (yielded ops a.tmps) = true then Oper.wp P oi a w K' Q else K' (a.put oi.dst undef) w) : wpStg P md ops Q fs (fuel + 1) l a w := by
  refine ⟨fun h0 => ?_, fun j hj => ?_⟩
  · rw [hr] at h0; cases h0
  · rw [hr] at hj
    obtain rfl : j = i := by simpa using hj
    exact wpOp_step hi (fun K' hK => h K' (fun a w hS hW => hK a w ⟨hS, hW hS⟩))
theorem wpStg_done {l : Array Bool} {a : Act} {w : World} (hr : Region.ready md ops l = []) (h : Q .normal a w) : ∀ fuel, wpStg P md ops Q fs fuel l a w
  | 0 => ⟨hr, h⟩
  | _ + 1 => ⟨fun _ => h, by rw [hr]; simp⟩
theorem wp_region_stg {id : Nat} {a : Act} {w : World} (fs : List (Nat × (World → Prop))) (hm : P.follows .mixedOrders = true) (hS : Stg fs (Array.replicate ops.size false) w.drew)
    (h : Stg fs (Array.replicate ops.size false) w.drew → wpStg P .any ops Q fs ops.size (Array.replicate ops.size false) a w.drew) : (Code.region id ops true).wp P Q a w :=
  wp_region_any hm (wpStg_any _ _ _ _ (h hS))
end

/-- append as one operation of such a region; where the new row lies. -/
theorem step_app1f {P : Program} {T E : TypeId} {z : Value} {bytes : Nat} (S : SlTy P T E z 1 bytes) {w : World} {ops : Array Oper} {o : Oper} {a : Act} {K : Act → World → Prop} {Q : Exit → Act → World → Prop} {F : Prop}
    (hgd : o.guard = none) {s x : Operand} (ho : o.op = .call { callee := .builtin .append, args := #[s, x], argTypes := #[T, T] })
    {base : Nat} {v : Value} {n : Nat} {xs : List Value} {el : Value} (hs : a.eval s = v) (hown : w.ownsRow base E 1 v n xs)
    (hx : a.eval x = .slice (some ⟨w.heap.size, 0, none⟩) 1 1) (h1 : el.oneCell' = true)
    (hnm : n < 1000000000) (hbase : base ≤ w.heap.size)
    (h : ∀ b c w', w'.ownsRow base E 1 (.slice (some ⟨b, 0, none⟩) (n + 1) c) (n + 1) (xs ++ [el]) → w.grownBy w' v.ownBlock → (v.ownBlock = some b ∨ w.heap.size < b) → K (a.put o.dst (.slice (some ⟨b, 0, none⟩) (n + 1) c)) w') :
    if Region.wanted o (yielded ops a.tmps) = true then Oper.wp P o a (w.alloc (.cells #[el] E)) K Q else F := by
  have hw : Region.wanted o (yielded ops a.tmps) = true := by simp [Region.wanted, hgd]
  rw [if_pos hw]
  have hal := size_alloc w (.cells #[el] E)
  have hu : Sl (w.alloc (.cells #[el] E)) E (.slice (some ⟨w.heap.size, 0, none⟩) 1 1) 1 [el] := by
    refine ⟨_, 1, rfl, (fun e => by cases e), Nat.le_refl _, by omega, Or.inr ⟨w.heap.size, 0, #[el], (0, 0), rfl, heap_alloc_new w _, fun j u hu => ?_⟩⟩
    cases j with
    | zero => simpa using hu
    | succ j => simp at hu
  obtain ⟨v', w', hr, h2, h3, h4⟩ := run_app S (w.alloc (.cells #[el] E)) o.type base v n xs (hown.alloc _) _ 1 [el] hu (by simp) (by simpa using h1) (by omega) (by omega)
  unfold Oper.wp execOp
  simp only [ho, resolve, invoke, builtin, Sem.run_bind, Sem.run_pure, Result.andThen_ok, List.map_toArray, List.map_cons, List.map_nil, hs, hx, hr]
  rcases id h2.2 with ⟨_, h0⟩ | ⟨g, cap, cur, rfl, _⟩
  · omega
  · refine h g cap w' h2 ⟨h3.os, h3.tape, h3.output, by have := h3.size; omega, fun k hk hne => (h3.block k (by omega) hne).trans (Below.heap_alloc w _ k hk)⟩ ?_
    rcases h4 g rfl with h5 | h5
    · exact .inl h5
    · exact .inr (by omega)

end Go.Proofs.YtiooindlpinjhaaDoor

/- Walk: the program's minorIn (printed by wip/mkMiK.py). -/
namespace Go.Proofs.YtiooindlpinjhaaDoor
open Go.RowKit

theorem ty_boolsM : SlTy Tryd.prog 116 4 (.bool false) 1 1 := ⟨Tryd.underlying116, by kernel_rfl, rfl, by decide, by decide⟩
theorem owns_neM {w : World} {base : Nat} {E T : TypeId} {size n b : Nat} {v : Value} {xs : List Value} {cur : Array Value} {fz : Nat × Nat} (h : w.ownsRow base E size v n xs) (hb : w.heap[b]? = some (.cells cur T fz)) (hE : E ≠ T) : v.ownBlock ≠ some b := by
  intro e
  rcases h.2 with ⟨rfl, _⟩ | ⟨g, cap, cur', rfl, _, hg, _⟩
  · simp [Value.ownBlock] at e
  · simp [Value.ownBlock] at e
    subst e
    rw [hb] at hg
    simp only [Option.some.injEq, Obj.cells.injEq] at hg
    exact hE hg.2.1.symm
theorem ownsRow_toM {w w' : World} {base : Nat} {E : TypeId} {size n : Nat} {v : Value} {xs : List Value} (h : w.ownsRow base E size v n xs) (hk : ∀ k, v.ownBlock = some k → w'.heap[k]? = w.heap[k]?) : w'.ownsRow base E size v n xs := by
  refine ⟨h.1, ?_⟩
  rcases h.2 with h2 | ⟨g, cap, cur, rfl, h2, h3, h4⟩
  · exact .inl h2
  · exact .inr ⟨g, cap, cur, rfl, h2, (hk g rfl).trans h3, h4⟩

theorem owns_apartM {w : World} {base base' : Nat} {E E' : TypeId} {size size' n n' k : Nat} {v v' : Value} {xs xs' : List Value} (h : w.ownsRow base E size v n xs) (h2 : w.ownsRow base' E' size' v' n' xs') (hE : E ≠ E') (e2 : v'.ownBlock = some k) : v.ownBlock ≠ some k := by
  rcases h2.2 with ⟨rfl, _⟩ | ⟨g, cap, cur', rfl, _, hg, _⟩
  · simp [Value.ownBlock] at e2
  · simp [Value.ownBlock] at e2
    subst e2
    exact owns_neM h hg hE

noncomputable def wholeL (E : Nat → Nat → Bool) (s : Nat) : List Value := (List.range s).map fun q => .bool (dec (ConnL E (bitsOf q)))
theorem wholeL_snoc (E : Nat → Nat → Bool) (s : Nat) : wholeL E (s + 1) = wholeL E s ++ [.bool (dec (ConnL E (bitsOf s)))] := by simp [wholeL, List.range_succ]
section
variable {w0 : World} {xb sb m : Nat} {hv pv : Value} {E : Nat → Nat → Bool} {wr w' : World} {s1 s2 : Nat} {NR : List Nat} {nv wv : Value}
end

/-- Of the sets below s their neighbours. -/
def NerB (E : Nat → Nat → Bool) (NR : List Nat) (s : Nat) : Prop := NR.length = s ∧ ∀ q, q < s → NR.getD q 0 < 65536 ∧ ∀ j, (NR.getD q 0).testBit j = true ↔ ∃ v, q.testBit v = true ∧ E v j = true
theorem NerB.zero (E : Nat → Nat → Bool) : NerB E [] 0 := ⟨rfl, fun q hq => absurd hq (by omega)⟩
theorem NerB.snoc {E : Nat → Nat → Bool} {NR : List Nat} {s x : Nat} (h : NerB E NR s) (hx : x < 65536) (hb : ∀ j, x.testBit j = true ↔ ∃ v, s.testBit v = true ∧ E v j = true) : NerB E (NR ++ [x]) (s + 1) := by
  refine ⟨by simp [h.1], fun q hq => ?_⟩
  by_cases e : q < s
  · have e2 : (NR ++ [x]).getD q 0 = NR.getD q 0 := by simp [List.getD_eq_getElem?_getD, List.getElem?_append_left (show q < NR.length by rw [h.1]; exact e)]
    rw [e2]; exact h.2 q e
  · obtain rfl : q = s := by omega
    have e2 : (NR ++ [x]).getD q 0 = x := by rw [← h.1]; simp [List.getD_eq_getElem?_getD]
    rw [e2]; exact ⟨hx, hb⟩
/-- The neighbours of the first vertices of a list. -/
def NearL (E : Nat → Nat → Bool) (L : List Nat) (x : Nat) : Prop := x < 65536 ∧ ∀ j, x.testBit j = true ↔ ∃ v ∈ L, E v j = true
theorem NearL.zero (E : Nat → Nat → Bool) : NearL E [] 0 := ⟨by decide, fun j => by simp⟩
theorem NearL.snoc {E : Nat → Nat → Bool} {L : List Nat} {x a v n : Nat} (h : NearL E L x) (ha : a < 65536) (hab : ∀ j, a.testBit j = (decide (j < n) && E v j)) (hE : ∀ j, E v j = true → j < n) : NearL E (L ++ [v]) (x ||| a) := by
  refine ⟨Nat.or_lt_two_pow (n := 16) h.1 ha, fun j => ?_⟩
  rw [Nat.testBit_or, Bool.or_eq_true, h.2, hab, Bool.and_eq_true, decide_eq_true_eq]
  constructor
  · rintro (⟨y, hy, e⟩ | ⟨_, e⟩)
    · exact ⟨y, List.mem_append_left _ hy, e⟩
    · exact ⟨v, by simp, e⟩
  · rintro ⟨y, hy, e⟩
    rcases List.mem_append.1 hy with h1 | h1
    · exact .inl ⟨y, h1, e⟩
    · obtain rfl : y = v := by simpa using h1
      exact .inr ⟨hE j e, e⟩

theorem all_anyM (p : Option Addr) (n c M : Nat) (hn : n < 32) (hM : M = 2 ^ n - 1) (w : World) :
    Calls Tryd.prog 56 #[.slice p n c] w fun e w' => e = .returned (.int .u32 (M : Int)) ∧ w = w' := by
  subst hM; exact all_any p n c hn w
/-- What minorIn hands back. -/
def MnEnd (w0 w' : World) (m : Nat) (u : Value) (f : Option (List Nat)) : Prop :=
  (f = none ∧ u = .slice none 0 0) ∨ ∃ x b, f = some x ∧ u = .slice (some ⟨b, 0, none⟩) m m ∧ w'.ownsRow w0.heap.size 71 1 u m ((mskW m x).map u32v)

end Go.Proofs.YtiooindlpinjhaaDoor

/- The argument of a law over one graph, opened; the table; the row's last step. -/
namespace Go.Proofs.YtiooindlpinjhaaDoor
open Go.ChangeShapes Go.WideShapes Go.ChangeAt Go.RowKit Go.Deep

theorem own : ownKnob Tryd.prog.godebug = none := by kernel_rfl
theorem laidOut : laidOutB Tryd.prog = true := by kernel_rfl
theorem gTab : Tryd.prog.globalNamed "math/bits.deBruijn32tab" = some 0 := by kernel_rfl
theorem gTabType : (Tryd.prog.globals[0]?).map (·.type) = some 158 := by kernel_rfl
theorem cellsTab : Tryd.prog.cellsOf 158 = 32 := by kernel_rfl
theorem cellsByte : Tryd.prog.cellsOf 5 = 1 := by kernel_rfl
theorem cellsGraph : Tryd.prog.cellsOf 24 = 1 := by kernel_rfl
theorem cellsRows : Tryd.prog.cellsOf 22 = 1 := by kernel_rfl
theorem cellsRow : Tryd.prog.cellsOf 26 = 1 := by kernel_rfl
theorem cellsInt : Tryd.prog.cellsOf 2 = 1 := by kernel_rfl
theorem maxLen_eq : maxLen = 9223372036854775807 := rfl

set_option maxRecDepth 100000 in
theorem tab_of_laid {W : World} {rest : List (String × DataW Unit)} (h : laidMet Tryd.prog (("math/bits.deBruijn32tab", Rows.laid_math_bits_deBruijn32tab) :: rest) W) : Tab W := by
  have t : Lib.TabIs Tryd.prog W "math/bits.deBruijn32tab" .u8 (Lib.deBruijn32tab.map fun (n : Nat) => (n : Int)) :=
    Lib.tabIs_of_head (rest := rest) gTab gTabType Tryd.underlying158 Tryd.underlying5 cellsByte cellsTab h
  intro j hj
  rw [t.cell gTab j (by simpa using hj)]
  simp [List.getD, hj]

theorem spot_of {w : World} {a : Addr} {u : Value} (h : w.cell? a = some u) : a.spot = none := by
  unfold World.cell? at h
  split at h
  · cases e : a.spot with
    | none => rfl
    | some x => simp [e] at h
  · cases h
theorem cell_add {w : World} {a : Addr} {r : Nat} {u : Value} (h : w.cell? (a.add r) = some u) (hs : a.spot = none) : w.cell? ⟨a.block, a.off + r, none⟩ = some u := by
  obtain ⟨b, o, s⟩ := a
  simp only at hs
  subst hs
  unfold Addr.add at h
  split at h
  · rename_i e; subst e; exact h
  · exact h

variable {H : Type} {enc : TypeId × Value → H}

theorem open_row {w : World} {A : Option Addr} {L C : Nat} {zs : List Int} (hLC : L ≤ C) (hC : C ≤ maxLen) (hz : zs.length = C) (hn : A = none → C = 0)
    (hc : ∀ a', A = some a' → 0 ≤ a'.block ∧ ∀ c, c < C → w.cell? (a'.add c) = some (.int .i64 (zs.getD c 0))) : ArgN w (.slice A L C) (zs.take L) := by
  have hl : (zs.take L).length = L := by rw [List.length_take]; omega
  rw [maxLen_eq] at hC
  refine ⟨A, C, by rw [hl], by omega, ?_⟩
  by_cases h0 : L = 0
  · subst h0; exact .inl (by simp)
  · cases A with
    | none => have := hn rfl; omega
    | some a =>
      obtain ⟨_, hc⟩ := hc a rfl
      have hs := spot_of (show w.cell? a = some _ from hc 0 (by omega))
      refine .inr ⟨a.block, a.off, ?_, fun j u hu => ?_⟩
      · obtain ⟨b, o, s⟩ := a; simp only at hs; subst hs; rfl
      · have hj : j < L := by
          have := (List.getElem?_eq_some_iff.1 hu).1
          rw [List.length_map, hl] at this; exact this
        have h1 := cell_add (hc j (by omega)) hs
        rw [h1]
        rw [List.getElem?_map, List.getElem?_take, if_pos hj] at hu
        rw [← hu]
        simp [List.getD, List.getElem?_eq_getElem (show j < zs.length by omega)]

set_option maxRecDepth 100000 in
theorem open_graph {W : World} {sp : Nat → Bool} {held : Bool} {b0 : Nat} {v : Value} {d : DataW H} {p : List MemPlace} (hv : Value.okWide Tryd.prog W .any b0 24 v)
    (h : DataW.Trod enc Tryd.prog W 0 (fun _ => true) held 24 v d p) : ∃ g, ArgG W v g := by
  obtain ⟨cs, rfl, hsz⟩ := okWide_struct Tryd.underlying24 hv
  obtain ⟨fuel, hf⟩ := h
  obtain ⟨y0, n, _, _, h0⟩ := trod_struct1 Tryd.underlying24 hf
  rw [cellsGraph] at hsz
  obtain ⟨c0, rfl⟩ : ∃ c0, cs = #[c0] := by
    obtain ⟨l⟩ := cs
    match l, hsz with
    | [c0], _ => exact ⟨c0, rfl⟩
  have e : (((Value.agg #[c0]).cells.toList.drop 0).take (Tryd.prog.cellsOf 22)) = [c0] := by rw [cellsRows]; rfl
  rw [e] at h0
  rcases open_int_rows Tryd.underlying22 Tryd.underlying26 Tryd.underlying2 cellsRow cellsInt h0 with ⟨hc, _⟩ | ⟨a, len, cap, A, L, C, Z, hc, _, hl, hm, _, hr⟩
  · obtain rfl : c0 = .slice none 0 0 := by simpa using hc
    exact ⟨[], _, rfl, none, 0, [], rfl, by simp, rfl, .inl rfl, fun j hj => by simp at hj⟩
  · obtain rfl : c0 = .slice (some a) len cap := by simpa using hc
    rw [maxLen_eq] at hm
    refine ⟨(List.range len).map fun r => (Z r).take (L r), _, rfl, some a, cap, (List.range len).map fun r => .slice (A r) (L r) (C r), by simp, by simp; omega, by simp, ?_, fun j hj => ?_⟩
    · by_cases h0 : len = 0
      · subst h0; exact .inl rfl
      · have hs := spot_of (show W.cell? a = some _ from (hr 0 (by omega)).1)
        refine .inr ⟨a.block, a.off, ?_, fun j u hu => ?_⟩
        · obtain ⟨b, o, s⟩ := a; simp only at hs; subst hs; rfl
        · have hj : j < len := by
            have := (List.getElem?_eq_some_iff.1 hu).1
            simpa using this
          have h1 := cell_add (hr j (by omega)).1 hs
          rw [h1]
          rw [List.getElem?_map, List.getElem?_range hj] at hu
          exact hu
    · have hj : j < len := by simpa using hj
      obtain ⟨_, h1, h2, h3, _, h5, h6⟩ := hr j (by omega)
      have e1 : ((List.range len).map fun r => Value.slice (A r) (L r) (C r)).getD j undef = .slice (A j) (L j) (C j) := by simp [hj]
      have e2 : ((List.range len).map fun r => (Z r).take (L r)).getD j [] = (Z j).take (L j) := by simp [hj]
      rw [e1, e2]
      exact open_row h1 h2 h3 h5 h6

set_option maxRecDepth 100000 in
theorem open_nums {W : World} {sp : Nat → Bool} {held : Bool} {b0 : Nat} {v : Value} {d : DataW H} {p : List MemPlace} (hv : Value.okWide Tryd.prog W .any b0 26 v)
    (h : DataW.Trod enc Tryd.prog W 0 (fun _ => true) held 26 v d p) : ∃ xs, ArgN W v xs := by
  obtain ⟨a0, len, cap, rfl⟩ := okWide_slice Tryd.underlying26 hv
  obtain ⟨fuel, hf⟩ := h
  rcases open_ints Tryd.underlying26 Tryd.underlying2 cellsInt hf with ⟨hc, _⟩ | ⟨a, len', cap', zs, hc, _, hl, hm, hz, _, hcell, _⟩
  · obtain ⟨rfl, rfl, rfl⟩ : a0 = none ∧ len = 0 ∧ cap = 0 := by simpa [Value.cells] using hc
    exact ⟨[], none, 0, rfl, by simp, .inl rfl⟩
  · obtain ⟨rfl, rfl, rfl⟩ : a0 = some a ∧ len = len' ∧ cap = cap' := by simpa [Value.cells] using hc
    simp only [if_true] at hz
    exact ⟨_, open_row hl hm hz (fun e => by cases e) (fun a' e => by cases e; exact ⟨Nat.zero_le _, fun c hc => hcell c (by omega)⟩)⟩

theorem same_of_below {W W' : World} (hb : Below W.heap.size W W') {x : MemPlace} (hx : x.block < W.heap.size) : W.sameAt W' x := by
  cases x with
  | cell b off => exact hb.cell (p := ⟨b, off, none⟩) hx
  | map b => exact hb.block b hx

section
variable {P : Program}
theorem post_of_below {f : Func} {s : ChangeSpec} {apart fresh handsOn again : Bool} {W W' : World} {args : Array Value} {v : Value} {ds gs : List (DataW H)} {before pa pv : List MemPlace}
    (hW : DataW.Whole enc P f.params.toList s.vars apart W args.toList ds gs before)
    (hres : ∀ (b : Nat) (sp : Nat → Bool) (hd : Bool), DataW.TrodAll enc P W' b sp hd f.resultTypes.toList (v.resultList f.resultTypes.size) (s.fn H (ds ++ gs)).results [])
    (hargs : ∀ sp : Nat → Bool, (∀ p ∈ before, sp p.block = true) → DataW.TrodAll enc P W' 0 sp true f.params.toList args.toList (s.fn H (ds ++ gs)).args pa)
    (hvars : ∀ sp : Nat → Bool, (∀ p ∈ before, sp p.block = true) → DataW.TrodVars enc P W' sp s.vars (s.fn H (ds ++ gs)).vars pv)
    (hps : before = pa ++ pv) (hb : Below W.heap.size W W')
    (hok : ∀ (j : Nat) (t : TypeId) (r : Value), f.resultTypes[j]? = some t → (v.resultList f.resultTypes.size)[j]? = some r → Value.okWide P W' .any 0 t r) :
    s.post enc P f apart fresh handsOn again W args v W' := by
  have hlt : ∀ p ∈ before, p.block < W.heap.size := fun p hp => hW.lt p hp
  have hold : ∀ p ∈ before, (fun b => decide (b < W.heap.size)) p.block = true := fun p hp => by simpa using hlt p hp
  refine ⟨ds, gs, before, [], pa, pv, hW, hres _ _ _, hargs _ hold, hvars _ hold, World.keptBut_mono (fun p hp => ⟨hp, ?_⟩) (hb.frame (· ∈ before)), fun _ => ?_⟩
  · rw [hps, List.mem_append] at hp
    exact Or.inr hp
  · obtain ⟨_, _, _, _, _, hz, hn⟩ := hW
    refine ⟨hok, _, _, ([] ++ pa) ++ pv, ⟨[] ++ pa, pv, trodAll_append (hargs _ (fun _ _ => rfl)) (hres _ _ _), hvars _ (fun _ _ => rfl), rfl, ?_, ?_⟩, ?_⟩
    · intro b off hp
      have hin : MemPlace.cell b off ∈ before := by rw [hps]; simpa using hp
      rw [hb.frozen (hlt _ hin)]
      exact hz b off hin
    · intro ha
      have := hn ha
      rw [hps] at this
      simpa using this
    · intro p hp _
      rw [hps]
      simpa using hp
end

end Go.Proofs.YtiooindlpinjhaaDoor
