/- Walk: what the program reaches. -/
import Derived.Test.YtmakhapdlkbbnaaDoorMnQ8
import Derived.Test.YtmakhapdlkbbnaaDoorMnQ3
import Derived.Test.YtmakhapdlkbbnaaDoorMnQ4
import Derived.Test.YtmakhapdlkbbnaaDoorMnQ7
namespace Go.Proofs.YtmakhapdlkbbnaaDoor
open Go.RowKit

theorem filter_lt {α : Type} (p q : α → Bool) : ∀ (l : List α), (∀ x ∈ l, p x = true → q x = true) → (∃ x ∈ l, q x = true ∧ ¬ p x = true) → (l.filter p).length < (l.filter q).length
  | [], _, ⟨x, hx, _⟩ => by simp at hx
  | a :: l, h, ⟨x, hx, hq, hp⟩ => by
    have hle : ∀ m : List α, (∀ x ∈ m, p x = true → q x = true) → (m.filter p).length ≤ (m.filter q).length := by
      intro m
      induction m with
      | nil => intro _; simp
      | cons b m ih =>
        intro hm
        have := ih fun x hx => hm x (by simp [hx])
        by_cases hb : p b = true
        · rw [List.filter_cons_of_pos hb, List.filter_cons_of_pos (hm b (by simp) hb)]; simp; exact this
        · rw [List.filter_cons_of_neg hb]
          by_cases hb2 : q b = true
          · rw [List.filter_cons_of_pos hb2]; simp; omega
          · rw [List.filter_cons_of_neg hb2]; exact this
    by_cases ha : p a = true
    · have hqa := h a (by simp) ha
      rw [List.filter_cons_of_pos ha, List.filter_cons_of_pos hqa]
      have hxl : x ∈ l := by
        rcases List.mem_cons.1 hx with e | e
        · subst e; exact absurd ha hp
        · exact e
      have := filter_lt p q l (fun x hx => h x (by simp [hx])) ⟨x, hxl, hq, hp⟩
      simp; exact this
    · rw [List.filter_cons_of_neg ha]
      have h1 := hle l fun x hx => h x (by simp [hx])
      by_cases hqa : q a = true
      · rw [List.filter_cons_of_pos hqa]; simp; omega
      · rw [List.filter_cons_of_neg hqa]
        have hxl : x ∈ l := by
          rcases List.mem_cons.1 hx with e | e
          · subst e; exact absurd hq hqa
          · exact e
        exact filter_lt p q l (fun x hx => h x (by simp [hx])) ⟨x, hxl, hq, hp⟩
theorem bits_len_lt {m k : Nat} (hm : m < 65536) (hk : k < 65536) (h : ∀ i, m.testBit i = true → k.testBit i = true) (hne : m ≠ k) : (bitsOf m).length < (bitsOf k).length := by
  unfold bitsOf
  have hx : ∃ i, k.testBit i = true ∧ ¬ m.testBit i = true := Classical.byContradiction fun hn => hne (Nat.eq_of_testBit_eq fun i => by
    rw [Bool.eq_iff_iff]
    exact ⟨h i, fun hi => Classical.byContradiction fun hmi => hn ⟨i, hi, hmi⟩⟩)
  obtain ⟨i, hi, hmi⟩ := hx
  have hi16 : i < 16 := bitsOf_lt16 hk ((mem_left hk).2 hi)
  exact filter_lt _ _ _ (fun x _ => h x) ⟨i, by simp; omega, hi, hmi⟩

/-- What the walks need of the sets: the masks of the graph of n vertices with the edges E. -/
structure NE (w : World) (x : Value) (n : Nat) (E : Nat → Nat → Bool) : Prop where
  le : n ≤ 16
  sl : Sl w 79 x n ((indN n E).map u32v)
theorem NE.next {w w' : World} {x : Value} {n : Nat} {E : Nat → Nat → Bool} (h : NE w x n E) (hb : Below w.heap.size w w') : NE w' x n E := ⟨h.le, h.sl.below hb⟩
theorem NE.get {w : World} {p : Option Addr} {m c n : Nat} {E : Nat → Nat → Bool} (h : NE w (.slice p m c) n E) {v : Nat} (hv : v < n) :
    ∃ (b o a : Nat), p = some ⟨b, o, none⟩ ∧ w.cell? ⟨b, o + v, none⟩ = some (.int .u32 (a : Int)) ∧ a < 65536 ∧ ∀ j, a.testBit j = (decide (j < n) && E v j) := by
  have hvl : v < (indN n E).length := by rw [indN_length]; exact hv
  obtain ⟨b, o, h1, h2⟩ := nets_cell (a := indN n E) (by rw [indN_length]; exact h.sl) hvl
  have h3 := indN_bit (E := E) hv
  have e : (indN n E).getD v 0 = (indN n E)[v] := by simp [hvl]
  rw [e] at h3
  exact ⟨b, o, _, h1, h2, indN_lt16 h.le _ (List.getElem_mem hvl), h3⟩

set_option maxRecDepth 100000 in
set_option maxHeartbeats 4000000 in
theorem reach_any (x : Value) (y z : Int) (n : Nat) (E : Nat → Nat → Bool) (v W : Nat) (hy : y = v) (hz : z = W) (hW : W < 65536) (hWn : ∀ i, W.testBit i = true → i < n) (hv : W.testBit v = true) (w : World) (hx : NE w x n E) (hT : Tab w) :
    Calls Tryd.prog 175 #[x, .int .i64 y, .int .u32 z] w fun e w' => ∃ m : Nat, e = .returned (.int .u32 (m : Int)) ∧ m < 65536 ∧ (∀ i, m.testBit i = true ↔ i ∈ partL E (bitsOf W) v) ∧ Below w.heap.size w w' := by
  subst hy; subst hz
  obtain ⟨xp, xc, rfl⟩ : ∃ p c, x = .slice p n c := by obtain ⟨p, c, e, _⟩ := hx.sl; exact ⟨p, c, e⟩
  have hvn := hWn v hv
  have hle := hx.le
  have hv32 : v < 32 := by omega
  have HX := Lib.hid hx
  have HT := Lib.hid hT
  have HWN := Lib.hid hWn
  have HV := Lib.hid hv
  have h2v : 2 ^ v < 65536 := pow_lt16 v (by omega)
  have hb2 : Hid (∀ i, (2 ^ v : Nat).testBit i = true ↔ v = i) := Lib.hid fun i => by rw [testBit_pow]; simp
  have c1 := Lib.hid (fun w => one_any (v : Int) v rfl hv32 w)
  clear hx hT hWn hv
  generalize hpv : 2 ^ v = pv at h2v hb2 c1
  clear hpv
  go_enter Tryd.func175, Tryd.ntmps175
  go_wp2_with (go_at_call 135; refine (c1.out _).mono ?_; rintro e w2 ⟨rfl, rfl⟩)
  go_loopw [7] (fun s7 wr => ∃ m : Nat, s7 = .int .u32 (m : Int) ∧ m < 65536 ∧ m.testBit v = true ∧ (∀ i, m.testBit i = true → W.testBit i = true ∧ Rch E (· ∈ bitsOf W) v i) ∧ Below w.heap.size w wr)
    (fun s7 _ => 32 - (bitsOf (intOf s7).toNat).length)
  case atStart =>
    refine ⟨pv, rfl, h2v, (hb2.out v).2 rfl, fun i hi => ?_, Below.refl _ _⟩
    obtain rfl := (hb2.out i).1 hi
    exact ⟨HV.out, .base⟩
  case round =>
    clear h2v hb2
    obtain ⟨m, rfl, hm, hmv, hmr, hbel⟩ := hrel
    have HMV := Lib.hid hmv
    have HMR := Lib.hid hmr
    have HBel := Lib.hid hbel
    have hlen := bitsOf_length m
    have hT1 := HT.out.keep hbel
    clear hmv hmr hbel
    go_wp2_with (go_at_call 130; refine (list_any _ m rfl (by omega) _ hT1).mono ?_; rintro e w3 ⟨lv, rfl, hown3, hb3⟩; have hnl := Nums.of_owns hown3 (natInts_length _).symm (by omega); obtain ⟨lp, lc, rfl, _, _, _, hat⟩ := hnl.shape; rw [natInts_length])
    have HB3 := Lib.hid (HBel.out.trans (hb3.mono HBel.out.size))
    have HAT := Lib.hid hat
    clear hb3 hown3 hnl hat hT1
    go_loopw [8, 17] (fun s8 i wx => ∃ (t nx : Nat), t ≤ (bitsOf m).length ∧ i = .int .i64 t ∧ s8 = .int .u32 (nx : Int) ∧ nx < 65536 ∧ (∀ i, m.testBit i = true → nx.testBit i = true) ∧ (∀ i, nx.testBit i = true → W.testBit i = true ∧ Rch E (· ∈ bitsOf W) v i) ∧
        (∀ s (hs : s < (bitsOf m).length), s < t → ∀ y, E (bitsOf m)[s] y = true → W.testBit y = true → nx.testBit y = true) ∧ Below w3.heap.size w3 wx) (fun _ i _ => (bitsOf m).length - (intOf i).toNat)
    case atStart => exact ⟨0, m, Nat.zero_le _, rfl, rfl, hm, fun _ h => h, HMR.out, fun s hs h => by omega, Below.refl _ _⟩
    case round =>
      obtain ⟨t, nx, ht, rfl, rfl, hnx, hsub, hrch, hdone, hbx⟩ := hrel
      have HSUB := Lib.hid hsub
      have HRCH := Lib.hid hrch
      have HDONE := Lib.hid hdone
      have HBx := Lib.hid hbx
      clear hsub hrch hdone hbx
      by_cases hlt : t < (bitsOf m).length
      · obtain ⟨u, hu⟩ : ∃ u : Nat, u = (bitsOf m)[t] := ⟨_, rfl⟩
        have hub : m.testBit u = true := (mem_left hm).1 (hu ▸ List.getElem_mem hlt)
        have huW := HMR.out u hub
        have hun := HWN.out u huW.1
        have hjl : t < (natInts (bitsOf m)).length := by rw [natInts_length]; exact hlt
        obtain ⟨lb, lo, rfl, hcl⟩ := (HAT.out.below HBx.out).num hjl
        have hval : (natInts (bitsOf m))[t] = (u : Int) := by rw [hu]; simp [natInts]
        rw [hval] at hcl
        obtain ⟨ab, ao, av, rfl, hca, ha16, hbit⟩ := (HX.out.next (HB3.out.trans (HBx.out.mono HB3.out.size))).get hun
        have hand := u32_and_nat av W (by omega) (by omega)
        have hq16 : av &&& W < 65536 := and_lt16 _ _ ha16
        have hor := or_u32 nx (av &&& W) hnx hq16
        have hn216 := or_lt16 nx (av &&& W) hnx hq16
        have HQ : Hid (∀ j, (nx ||| (av &&& W)).testBit j = true ↔ nx.testBit j = true ∨ ((j < n ∧ E u j = true) ∧ W.testBit j = true)) := Lib.hid fun j => by
          rw [Nat.testBit_or, Nat.testBit_and, hbit]
          simp only [Bool.or_eq_true, Bool.and_eq_true, decide_eq_true_eq]
        have HU := Lib.hid hu
        have HUW := Lib.hid huW
        have e0 : (0 : Int) ≤ (u : Int) := by omega
        have e1 : (u : Int) < (n : Int) := by omega
        clear hval hu hub huW hbit ha16
        generalize hn2 : nx ||| (av &&& W) = n2 at hor hn216 HQ
        generalize av &&& W = q at hand hor hq16
        clear hn2
        go_wp2
        go_roundw
        case rel =>
          refine ⟨t + 1, n2, by omega, by go_num, rfl, hn216, fun i hi => (HQ.out i).2 (.inl (HSUB.out i hi)), fun i hi => ?_, fun s hs h y hE hy => ?_, HBx.out⟩
          · rcases (HQ.out i).1 hi with h | ⟨⟨_, hE⟩, hWi⟩
            · exact HRCH.out i h
            · exact ⟨hWi, .step HUW.out.2 hE ((mem_left hW).2 hWi)⟩
          · by_cases e : s = t
            · subst e
              rw [← HU.out] at hE
              exact (HQ.out y).2 (.inr ⟨⟨HWN.out y hy, hE⟩, hy⟩)
            · exact (HQ.out y).2 (.inl (HDONE.out s hs (by omega) y hE hy))
        case measure => simp [intOf]; omega
      · obtain rfl : t = (bitsOf m).length := by omega
        by_cases he : nx = m
        · have he' : (((nx : Nat) : Int) == ((m : Nat) : Int)) = true := by simp [he]
          have HE := Lib.hid he
          clear he
          go_wp2
          go_ret
          refine ⟨m, rfl, hm, fun i => ?_, HB3.out.trans (HBx.out.mono HB3.out.size)⟩
          rw [mem_partL]
          constructor
          · intro hi
            exact ⟨(mem_left hW).2 (HMR.out i hi).1, (HMR.out i hi).2⟩
          · rintro ⟨_, hr⟩
            refine rch_closed (T := fun i => m.testBit i = true) HMV.out (fun a b ha hE hb => ?_) i hr
            obtain ⟨s, hs, e⟩ := List.getElem_of_mem ((mem_left hm).2 ha)
            have := HDONE.out s hs hs b (by rw [e]; exact hE) ((mem_left hW).1 hb)
            rwa [HE.out] at this
        · have he' : (((nx : Nat) : Int) == ((m : Nat) : Int)) = false := by simpa using fun e => he (by omega)
          have HE := Lib.hid he
          clear he
          go_wp2
          go_roundw
          case rel => exact ⟨nx, rfl, hnx, HSUB.out v HMV.out, HRCH.out, HB3.out.trans (HBx.out.mono HB3.out.size)⟩
          case measure =>
            have h1 := bits_len_lt hm hnx HSUB.out (fun e => HE.out e.symm)
            have h2 := bitsOf_length nx
            simp [intOf]
            omega

end Go.Proofs.YtmakhapdlkbbnaaDoor

/- Plain: sets of so many, in the order of their lists; the least set that fits. -/
namespace Go.Proofs.YtmakhapdlkbbnaaDoor

/-- The order of lists: where they part first says it. -/
def lexL : List Nat → List Nat → Prop
  | [], [] => False
  | [], _ :: _ => True
  | _ :: _, [] => False
  | a :: l, b :: m => a < b ∨ (a = b ∧ lexL l m)
theorem lexL_tri : ∀ a b : List Nat, ¬ lexL a b → ¬ lexL b a → a = b
  | [], [], _, _ => rfl
  | [], _ :: _, h, _ => absurd trivial h
  | _ :: _, [], _, h => absurd trivial h
  | a :: l, b :: m, h, k => by
    simp only [lexL, not_or, not_and] at h k
    obtain rfl : a = b := by omega
    rw [lexL_tri l m (h.2 rfl) (k.2 rfl)]
theorem lexL_trans : ∀ {a b c : List Nat}, lexL a b → lexL b c → lexL a c
  | _, [], [], _, k => k.elim
  | _, _ :: _, [], _, k => k.elim
  | [], _, _ :: _, _, _ => trivial
  | _ :: _, [], _, h, _ => h.elim
  | a :: l, b :: m, c :: o, h, k => by
    simp only [lexL] at h k ⊢
    rcases h with h | ⟨rfl, h⟩ <;> rcases k with k | ⟨rfl, k⟩
    · exact .inl (by omega)
    · exact .inl h
    · exact .inl k
    · exact .inr ⟨rfl, lexL_trans h k⟩
theorem lexL_irrefl : ∀ a : List Nat, ¬ lexL a a
  | [], h => h
  | a :: l, h => by
    simp only [lexL] at h
    rcases h with h | ⟨_, h⟩
    · omega
    · exact lexL_irrefl l h
/-- Shorter ones first, then by the order of lists. -/
def lessP (a b : List Nat) : Prop := a.length < b.length ∨ (a.length = b.length ∧ lexL a b)
theorem lessP_tri {a b : List Nat} (h : ¬ lessP a b) (k : ¬ lessP b a) : a = b := by
  simp only [lessP, not_or, not_and] at h k
  have e : a.length = b.length := by omega
  exact lexL_tri a b (h.2 e) (k.2 e.symm)
theorem lessP_trans {a b c : List Nat} (h : lessP a b) (k : lessP b c) : lessP a c := by
  rcases h with h | ⟨h1, h⟩ <;> rcases k with k | ⟨k1, k⟩
  · exact .inl (by omega)
  · exact .inl (by omega)
  · exact .inl (by omega)
  · exact .inr ⟨by omega, lexL_trans h k⟩
theorem lessP_irrefl (a : List Nat) : ¬ lessP a a := by
  rintro (h | ⟨_, h⟩)
  · omega
  · exact lexL_irrefl a h

theorem mask_cons (v : Nat) (T : List Nat) : mask (natInts (v :: T)) = 2 ^ v ||| mask (natInts T) := by
  refine Nat.eq_of_testBit_eq fun j => ?_
  rw [Nat.testBit_or, mask_bit, mask_bit, Nat.testBit_two_pow, Bool.eq_iff_iff, Bool.or_eq_true, decide_eq_true_iff, decide_eq_true_iff, decide_eq_true_iff, List.mem_cons]
  exact or_congr ⟨fun h => h.symm, fun h => h.symm⟩ Iff.rfl
theorem bitsOf_maskN {T : List Nat} (h : T.Pairwise (· < ·)) (h16 : ∀ x ∈ T, x < 16) : bitsOf (mask (natInts T)) = T :=
  rising_ext _ _ (bitsOf_rising _) h fun x => by
    rw [mem_bitsOf' (Nat.lt_trans (mask_nat_lt16 h16) (by decide)), mask_bit]
    simp
theorem mask_bitsOf {s : Nat} (h : s < 65536) : mask (natInts (bitsOf s)) = s := by
  refine Nat.eq_of_testBit_eq fun j => ?_
  rw [mask_bit, Bool.eq_iff_iff, decide_eq_true_iff, mem_bitsOf' (by omega)]

/-- So many from a first one on, below n. -/
structure Cand (n lo many : Nat) (T : List Nat) : Prop where
  ris : T.Pairwise (· < ·)
  inn : ∀ x ∈ T, lo ≤ x ∧ x < n
  len : T.length = many
theorem rising_room : ∀ {T : List Nat} {lo n : Nat}, T.Pairwise (· < ·) → (∀ x ∈ T, lo ≤ x ∧ x < n) → T ≠ [] → lo + T.length ≤ n
  | [], _, _, _, _, h => absurd rfl h
  | [x], lo, n, _, h, _ => by
    have := h x (by simp)
    simp
    omega
  | x :: y :: T, lo, n, h, k, _ => by
    have := rising_room (T := y :: T) (lo := lo + 1) (n := n) h.of_cons (fun z hz => ⟨by
      have h1 := (List.pairwise_cons.1 h).1 z hz
      have := k x (by simp)
      omega, (k z (List.mem_cons_of_mem _ hz)).2⟩) (by simp)
    simp at this ⊢
    omega
/-- None of them fits, put to a set. -/
def ChNo (P : Nat → Prop) (n lo many chosen : Nat) : Prop := ∀ T, Cand n lo many T → ¬ P (chosen ||| mask (natInts T))
/-- s is made by the first one that fits. -/
def ChYes (P : Nat → Prop) (n lo many chosen s : Nat) : Prop := ∃ T, Cand n lo many T ∧ s = chosen ||| mask (natInts T) ∧ P s ∧ ∀ T', Cand n lo many T' → lexL T' T → ¬ P (chosen ||| mask (natInts T'))
/-- None whose first is below v. -/
def ChTo (P : Nat → Prop) (n lo many chosen v : Nat) : Prop := ∀ x T, Cand n lo many (x :: T) → x < v → ¬ P (chosen ||| mask (natInts (x :: T)))
theorem cand_zero {n lo : Nat} {T : List Nat} (h : Cand n lo 0 T) : T = [] := List.eq_nil_of_length_eq_zero h.len
theorem cand_nil (n lo : Nat) : Cand n lo 0 [] := ⟨by simp, by simp, rfl⟩
theorem mask_nil0 : mask (natInts []) = 0 := rfl
theorem chNo_zero {P : Nat → Prop} {n lo chosen : Nat} (h : ¬ P chosen) : ChNo P n lo 0 chosen := fun T hT => by
  obtain rfl := cand_zero hT
  rw [mask_nil0, Nat.or_zero]
  exact h
theorem chYes_zero {P : Nat → Prop} {n lo chosen : Nat} (h : P chosen) : ChYes P n lo 0 chosen chosen :=
  ⟨[], cand_nil n lo, by rw [mask_nil0, Nat.or_zero], h, fun T' h1 h2 => by
    obtain rfl := cand_zero h1
    exact h2.elim⟩
theorem chTo_start (P : Nat → Prop) (n lo many chosen : Nat) : ChTo P n lo many chosen lo := fun x T h hx => by
  have := (h.inn x (by simp)).1
  omega
theorem Cand.tail {n lo many x : Nat} {T : List Nat} (h : Cand n lo (many + 1) (x :: T)) : Cand n (x + 1) many T :=
  ⟨h.ris.of_cons, fun y hy => ⟨(List.pairwise_cons.1 h.ris).1 y hy, (h.inn y (List.mem_cons_of_mem _ hy)).2⟩, by have := h.len; simpa using this⟩
theorem Cand.cons {n lo many x : Nat} {T : List Nat} (h : Cand n (x + 1) many T) (h1 : lo ≤ x) (h2 : x < n) : Cand n lo (many + 1) (x :: T) :=
  ⟨List.pairwise_cons.2 ⟨fun y hy => (h.inn y hy).1, h.ris⟩, fun y hy => by
    rcases List.mem_cons.1 hy with rfl | hy
    · exact ⟨h1, h2⟩
    · have := h.inn y hy
      omega, by simp [h.len]⟩
theorem chTo_step {P : Nat → Prop} {n lo many chosen v : Nat} (h : ChTo P n lo (many + 1) chosen v) (k : ChNo P n (v + 1) many (chosen ||| 2 ^ v)) : ChTo P n lo (many + 1) chosen (v + 1) := fun x T hc hx => by
  by_cases hv : x < v
  · exact h x T hc hv
  · obtain rfl : x = v := by omega
    rw [mask_cons, ← Nat.or_assoc]
    exact k T hc.tail
theorem chYes_step {P : Nat → Prop} {n lo many chosen v s : Nat} (h : ChTo P n lo (many + 1) chosen v) (h1 : lo ≤ v) (h2 : v < n) (k : ChYes P n (v + 1) many (chosen ||| 2 ^ v) s) : ChYes P n lo (many + 1) chosen s := by
  obtain ⟨T, hT, hs, hP, hb⟩ := k
  refine ⟨v :: T, hT.cons h1 h2, by rw [hs, mask_cons, Nat.or_assoc], hP, fun T' hT' hl => ?_⟩
  cases T' with
  | nil => exact absurd hT'.len (by simp)
  | cons x T1 =>
    rcases hl with hl | ⟨rfl, hl⟩
    · exact h x T1 hT' hl
    · rw [mask_cons, ← Nat.or_assoc]
      exact hb T1 hT'.tail hl
theorem chNo_end {P : Nat → Prop} {n lo many chosen v : Nat} (h : ChTo P n lo (many + 1) chosen v) (hv : n < v + (many + 1)) : ChNo P n lo (many + 1) chosen := fun T hT => by
  cases T with
  | nil => exact absurd hT.len (by simp)
  | cons x T1 =>
    refine h x T1 hT ?_
    have h1 := rising_room (T := x :: T1) (lo := x) (n := n) hT.ris (fun y hy => ⟨by
      rcases List.mem_cons.1 hy with rfl | hy
      · exact Nat.le_refl _
      · exact Nat.le_of_lt ((List.pairwise_cons.1 hT.ris).1 y hy), (hT.inn y hy).2⟩) (by simp)
    rw [hT.len] at h1
    omega
theorem cand_bits {n s : Nat} (hn : n ≤ 16) (hs : s < 2 ^ n) : Cand n 0 (bitsOf s).length (bitsOf s) ∧ s < 65536 := by
  have h16 : s < 65536 := Nat.lt_of_lt_of_le hs (by
    calc 2 ^ n ≤ 2 ^ 16 := Nat.pow_le_pow_right (by decide) hn
      _ = 65536 := by decide)
  refine ⟨⟨bitsOf_rising s, fun x hx => ⟨Nat.zero_le _, ?_⟩, rfl⟩, h16⟩
  rw [mem_bitsOf' (by omega)] at hx
  refine Nat.lt_of_not_le fun hge => ?_
  have := Nat.testBit_lt_two_pow (Nat.lt_of_lt_of_le hs (Nat.pow_le_pow_right (by decide) hge) : s < 2 ^ x)
  rw [this] at hx
  exact nomatch hx
theorem cand_lt {n many : Nat} {T : List Nat} (h : Cand n 0 many T) : mask (natInts T) < 2 ^ n := by
  refine Nat.lt_pow_two_of_testBit _ fun j hj => ?_
  rw [mask_bit, decide_eq_false_iff_not]
  intro hm
  have := (h.inn j hm).2
  omega
/-- The least set that fits. -/
def LeastP (P : Nat → Prop) (n s : Nat) : Prop := s < 2 ^ n ∧ P s ∧ ∀ t, t < 2 ^ n → P t → ¬ lessP (bitsOf t) (bitsOf s)
theorem leastP_det {P : Nat → Prop} {n s t : Nat} (hn : n ≤ 16) (h : LeastP P n s) (k : LeastP P n t) : s = t := by
  have e := lessP_tri (k.2.2 s h.1 h.2.1) (h.2.2 t k.1 k.2.1)
  rw [← mask_bitsOf (cand_bits hn h.1).2, ← mask_bitsOf (cand_bits hn k.1).2, e]
theorem least_ch {P : Nat → Prop} {n many s : Nat} (hn : n ≤ 16) (hno : ∀ m, m < many → ChNo P n 0 m 0) (hy : ChYes P n 0 many 0 s) : LeastP P n s := by
  obtain ⟨T, hT, hs, hP, hb⟩ := hy
  rw [Nat.zero_or] at hs
  subst hs
  have hlt := cand_lt hT
  refine ⟨hlt, hP, fun t ht hPt hl => ?_⟩
  obtain ⟨hc, h16⟩ := cand_bits hn ht
  rw [bitsOf_maskN hT.ris fun x hx => by have := (hT.inn x hx).2; omega] at hl
  rcases hl with hl | ⟨hl, hx⟩
  · rw [hT.len] at hl
    exact hno _ hl _ hc (by rw [Nat.zero_or, mask_bitsOf h16]; exact hPt)
  · rw [hT.len] at hl
    rw [hl] at hc
    exact hb _ hc hx (by rw [Nat.zero_or, mask_bitsOf h16]; exact hPt)
theorem none_ch {P : Nat → Prop} {n : Nat} (hn : n ≤ 16) (hno : ∀ m, m < n + 1 → ChNo P n 0 m 0) : ∀ t, t < 2 ^ n → ¬ P t := fun t ht hP => by
  obtain ⟨hc, h16⟩ := cand_bits hn ht
  have hlen : (bitsOf t).length < n + 1 := by
    by_cases he : bitsOf t = []
    · rw [he]; simp
    · have := rising_room hc.ris hc.inn he
      omega
  exact hno _ hlen _ hc (by rw [Nat.zero_or, mask_bitsOf h16]; exact hP)

/-- The reference's best one of those numbered below k. -/
def BestP (P : Nat → Prop) (k : Nat) (best : List Nat) : Prop := (best = [] ∧ ∀ j, j < k → ¬ P j) ∨ ∃ s, s < k ∧ P s ∧ best = bitsOf s ∧ best ≠ [] ∧ ∀ j, j < k → P j → ¬ lessP (bitsOf j) best
theorem best_start {P : Nat → Prop} (h0 : ¬ P 0) : BestP P 1 [] := .inl ⟨rfl, fun j hj => by
  obtain rfl : j = 0 := by omega
  exact h0⟩
theorem best_keep {P : Nat → Prop} {k : Nat} {best : List Nat} (h : BestP P k best) (hk : ¬ P k ∨ (best ≠ [] ∧ ¬ lessP (bitsOf k) best)) : BestP P (k + 1) best := by
  rcases h with ⟨rfl, h⟩ | ⟨s, h1, h2, h3, h4, h5⟩
  · refine .inl ⟨rfl, fun j hj => ?_⟩
    by_cases e : j < k
    · exact h j e
    · obtain rfl : j = k := by omega
      rcases hk with hk | hk
      · exact hk
      · exact absurd rfl hk.1
  · refine .inr ⟨s, by omega, h2, h3, h4, fun j hj hP => ?_⟩
    by_cases e : j < k
    · exact h5 j e hP
    · obtain rfl : j = k := by omega
      rcases hk with hk | hk
      · exact absurd hP hk
      · exact hk.2
theorem best_new {P : Nat → Prop} {k : Nat} {best : List Nat} (h : BestP P k best) (hk : P k) (hne : bitsOf k ≠ []) (hl : best = [] ∨ lessP (bitsOf k) best) : BestP P (k + 1) (bitsOf k) := by
  refine .inr ⟨k, by omega, hk, rfl, hne, fun j hj hP hlt => ?_⟩
  by_cases e : j < k
  · rcases h with ⟨rfl, h⟩ | ⟨s, h1, h2, h3, h4, h5⟩
    · exact h j e hP
    · rcases hl with hl | hl
      · exact h4 hl
      · exact h5 j e hP (lessP_trans hlt hl)
  · obtain rfl : j = k := by omega
    exact lessP_irrefl _ hlt
theorem best_end {P : Nat → Prop} {n : Nat} {best : List Nat} (h : BestP P (2 ^ n) best) : (best = [] ∧ ∀ t, t < 2 ^ n → ¬ P t) ∨ (best ≠ [] ∧ ∃ s, LeastP P n s ∧ best = bitsOf s) := by
  rcases h with h | ⟨s, h1, h2, h3, h4, h5⟩
  · exact .inl h
  · exact .inr ⟨h4, s, ⟨h1, h2, fun t ht hP => by rw [← h3]; exact h5 t ht hP⟩, h3⟩

end Go.Proofs.YtmakhapdlkbbnaaDoor
