/- Walks: how the program says that a vertex may be folded, and how it folds it away. -/
import Derived.Test.YtiooindlpinjhaaDoorWlQ5
import Derived.Test.YtiooindlpinjhaaDoorWlQ8
import Derived.Test.YtiooindlpinjhaaDoorWlQ3
import Derived.Test.YtiooindlpinjhaaDoorWlQ4
import Derived.Test.YtiooindlpinjhaaDoorWlQ9
namespace Go.Proofs.YtiooindlpinjhaaDoor
open Go.RowKit

theorem and_near {a : List Nat} (ha : ∀ s ∈ a, s < 65536) {v left : Nat} (hv : v < a.length) (hl : left < 65536) : bits BinOp.and IntKind.u32 (a[v] : Int) (left : Int) = ((a.getD v 0 &&& left : Nat) : Int) := by
  have e : a.getD v 0 = a[v] := by simp [hv]
  rw [e]
  exact u32_and_nat _ _ (by have := ha _ (List.getElem_mem hv); omega) (by omega)

theorem nets_cell {w : World} {p : Option Addr} {n c : Nat} {a : List Nat} (h : Sl w 71 (.slice p n c) a.length (a.map u32v)) {v : Nat} (hv : v < a.length) :
    ∃ b o, p = some ⟨b, o, none⟩ ∧ w.cell? ⟨b, o + v, none⟩ = some (.int .u32 (a[v] : Int)) := by
  obtain ⟨p', c', he, _, _, _, hat⟩ := h
  simp only [Value.slice.injEq] at he
  obtain ⟨rfl, rfl, rfl⟩ := he
  obtain ⟨b, o, h1, h2⟩ := hat.cells (k := v) (by simpa using hv)
  exact ⟨b, o, h1, h2 v _ (by simp [hv, u32v])⟩


end Go.Proofs.YtiooindlpinjhaaDoor

/- Walk: what the program reaches. -/
namespace Go.Proofs.YtiooindlpinjhaaDoor
open Go.RowKit

theorem filter_lt {α : Type} (p q : α → Bool) : ∀ (l : List α), (∀ x ∈ l, p x = true → q x = true) → (∃ x ∈ l, q x = true ∧ ¬ p x = true) → (l.filter p).length < (l.filter q).length
  | [], _, ⟨x, hx, _⟩ => by simp at hx
  | a :: l, h, ⟨x, hx, hq, hp⟩ => by
    have hle : ∀ m : List α, (∀ x ∈ m, p x = true → q x = true) → (m.filter p).length ≤ (m.filter q).length := by
      intro m
      induction m with
      | nil => intro _; simp
      | cons b m ih =>
        intro hm
        have := ih fun x hx => hm x (by simp [hx])
        by_cases hb : p b = true
        · rw [List.filter_cons_of_pos hb, List.filter_cons_of_pos (hm b (by simp) hb)]; simp; exact this
        · rw [List.filter_cons_of_neg hb]
          by_cases hb2 : q b = true
          · rw [List.filter_cons_of_pos hb2]; simp; omega
          · rw [List.filter_cons_of_neg hb2]; exact this
    by_cases ha : p a = true
    · have hqa := h a (by simp) ha
      rw [List.filter_cons_of_pos ha, List.filter_cons_of_pos hqa]
      have hxl : x ∈ l := by
        rcases List.mem_cons.1 hx with e | e
        · subst e; exact absurd ha hp
        · exact e
      have := filter_lt p q l (fun x hx => h x (by simp [hx])) ⟨x, hxl, hq, hp⟩
      simp; exact this
    · rw [List.filter_cons_of_neg ha]
      have h1 := hle l fun x hx => h x (by simp [hx])
      by_cases hqa : q a = true
      · rw [List.filter_cons_of_pos hqa]; simp; omega
      · rw [List.filter_cons_of_neg hqa]
        have hxl : x ∈ l := by
          rcases List.mem_cons.1 hx with e | e
          · subst e; exact absurd hq hqa
          · exact e
        exact filter_lt p q l (fun x hx => h x (by simp [hx])) ⟨x, hxl, hq, hp⟩
theorem bits_len_lt {m k : Nat} (hm : m < 65536) (hk : k < 65536) (h : ∀ i, m.testBit i = true → k.testBit i = true) (hne : m ≠ k) : (bitsOf m).length < (bitsOf k).length := by
  unfold bitsOf
  have hx : ∃ i, k.testBit i = true ∧ ¬ m.testBit i = true := Classical.byContradiction fun hn => hne (Nat.eq_of_testBit_eq fun i => by
    rw [Bool.eq_iff_iff]
    exact ⟨h i, fun hi => Classical.byContradiction fun hmi => hn ⟨i, hi, hmi⟩⟩)
  obtain ⟨i, hi, hmi⟩ := hx
  have hi16 : i < 16 := bitsOf_lt16 hk ((mem_left hk).2 hi)
  exact filter_lt _ _ _ (fun x _ => h x) ⟨i, by simp; omega, hi, hmi⟩

/-- What the walks need of the sets: the masks of the graph of n vertices with the edges E. -/
structure NE (w : World) (x : Value) (n : Nat) (E : Nat → Nat → Bool) : Prop where
  le : n ≤ 16
  sl : Sl w 71 x n ((indN n E).map u32v)
theorem NE.next {w w' : World} {x : Value} {n : Nat} {E : Nat → Nat → Bool} (h : NE w x n E) (hb : Below w.heap.size w w') : NE w' x n E := ⟨h.le, h.sl.below hb⟩
theorem NE.get {w : World} {p : Option Addr} {m c n : Nat} {E : Nat → Nat → Bool} (h : NE w (.slice p m c) n E) {v : Nat} (hv : v < n) :
    ∃ (b o a : Nat), p = some ⟨b, o, none⟩ ∧ w.cell? ⟨b, o + v, none⟩ = some (.int .u32 (a : Int)) ∧ a < 65536 ∧ ∀ j, a.testBit j = (decide (j < n) && E v j) := by
  have hvl : v < (indN n E).length := by rw [indN_length]; exact hv
  obtain ⟨b, o, h1, h2⟩ := nets_cell (a := indN n E) (by rw [indN_length]; exact h.sl) hvl
  have h3 := indN_bit (E := E) hv
  have e : (indN n E).getD v 0 = (indN n E)[v] := by simp [hvl]
  rw [e] at h3
  exact ⟨b, o, _, h1, h2, indN_lt16 h.le _ (List.getElem_mem hvl), h3⟩

set_option maxRecDepth 100000 in
set_option maxHeartbeats 4000000 in
theorem reach_any (x : Value) (y z : Int) (n : Nat) (E : Nat → Nat → Bool) (v W : Nat) (hy : y = v) (hz : z = W) (hW : W < 65536) (hWn : ∀ i, W.testBit i = true → i < n) (hv : W.testBit v = true) (w : World) (hx : NE w x n E) (hT : Tab w) :
    Calls Tryd.prog 137 #[x, .int .i64 y, .int .u32 z] w fun e w' => ∃ m : Nat, e = .returned (.int .u32 (m : Int)) ∧ m < 65536 ∧ (∀ i, m.testBit i = true ↔ i ∈ partL E (bitsOf W) v) ∧ Below w.heap.size w w' := by
  subst hy; subst hz
  obtain ⟨xp, xc, rfl⟩ : ∃ p c, x = .slice p n c := by obtain ⟨p, c, e, _⟩ := hx.sl; exact ⟨p, c, e⟩
  have hvn := hWn v hv
  have hle := hx.le
  have hv32 : v < 32 := by omega
  have HX := Lib.hid hx
  have HT := Lib.hid hT
  have HWN := Lib.hid hWn
  have HV := Lib.hid hv
  have h2v : 2 ^ v < 65536 := pow_lt16 v (by omega)
  have hb2 : Hid (∀ i, (2 ^ v : Nat).testBit i = true ↔ v = i) := Lib.hid fun i => by rw [testBit_pow]; simp
  have c1 := Lib.hid (fun w => one_any (v : Int) v rfl hv32 w)
  clear hx hT hWn hv
  generalize hpv : 2 ^ v = pv at h2v hb2 c1
  clear hpv
  go_enter Tryd.func137, Tryd.ntmps137
  go_wp2_with (go_at_call 70; refine (c1.out _).mono ?_; rintro e w2 ⟨rfl, rfl⟩)
  go_loopw [7] (fun s7 wr => ∃ m : Nat, s7 = .int .u32 (m : Int) ∧ m < 65536 ∧ m.testBit v = true ∧ (∀ i, m.testBit i = true → W.testBit i = true ∧ Rch E (· ∈ bitsOf W) v i) ∧ Below w.heap.size w wr)
    (fun s7 _ => 32 - (bitsOf (intOf s7).toNat).length)
  case atStart =>
    refine ⟨pv, rfl, h2v, (hb2.out v).2 rfl, fun i hi => ?_, Below.refl _ _⟩
    obtain rfl := (hb2.out i).1 hi
    exact ⟨HV.out, .base⟩
  case round =>
    clear h2v hb2
    obtain ⟨m, rfl, hm, hmv, hmr, hbel⟩ := hrel
    have HMV := Lib.hid hmv
    have HMR := Lib.hid hmr
    have HBel := Lib.hid hbel
    have hlen := bitsOf_length m
    have hT1 := HT.out.keep hbel
    clear hmv hmr hbel
    go_wp2_with (go_at_call 127; refine (list_any _ m rfl (by omega) _ hT1).mono ?_; rintro e w3 ⟨lv, rfl, hown3, hb3⟩; have hnl := Nums.of_owns hown3 (natInts_length _).symm (by omega); obtain ⟨lp, lc, rfl, _, _, _, hat⟩ := hnl.shape; rw [natInts_length])
    have HB3 := Lib.hid (HBel.out.trans (hb3.mono HBel.out.size))
    have HAT := Lib.hid hat
    clear hb3 hown3 hnl hat hT1
    go_loopw [8, 17] (fun s8 i wx => ∃ (t nx : Nat), t ≤ (bitsOf m).length ∧ i = .int .i64 t ∧ s8 = .int .u32 (nx : Int) ∧ nx < 65536 ∧ (∀ i, m.testBit i = true → nx.testBit i = true) ∧ (∀ i, nx.testBit i = true → W.testBit i = true ∧ Rch E (· ∈ bitsOf W) v i) ∧
        (∀ s (hs : s < (bitsOf m).length), s < t → ∀ y, E (bitsOf m)[s] y = true → W.testBit y = true → nx.testBit y = true) ∧ Below w3.heap.size w3 wx) (fun _ i _ => (bitsOf m).length - (intOf i).toNat)
    case atStart => exact ⟨0, m, Nat.zero_le _, rfl, rfl, hm, fun _ h => h, HMR.out, fun s hs h => by omega, Below.refl _ _⟩
    case round =>
      obtain ⟨t, nx, ht, rfl, rfl, hnx, hsub, hrch, hdone, hbx⟩ := hrel
      have HSUB := Lib.hid hsub
      have HRCH := Lib.hid hrch
      have HDONE := Lib.hid hdone
      have HBx := Lib.hid hbx
      clear hsub hrch hdone hbx
      by_cases hlt : t < (bitsOf m).length
      · obtain ⟨u, hu⟩ : ∃ u : Nat, u = (bitsOf m)[t] := ⟨_, rfl⟩
        have hub : m.testBit u = true := (mem_left hm).1 (hu ▸ List.getElem_mem hlt)
        have huW := HMR.out u hub
        have hun := HWN.out u huW.1
        have hjl : t < (natInts (bitsOf m)).length := by rw [natInts_length]; exact hlt
        obtain ⟨lb, lo, rfl, hcl⟩ := (HAT.out.below HBx.out).num hjl
        have hval : (natInts (bitsOf m))[t] = (u : Int) := by rw [hu]; simp [natInts]
        rw [hval] at hcl
        obtain ⟨ab, ao, av, rfl, hca, ha16, hbit⟩ := (HX.out.next (HB3.out.trans (HBx.out.mono HB3.out.size))).get hun
        have hand := u32_and_nat av W (by omega) (by omega)
        have hq16 : av &&& W < 65536 := and_lt16 _ _ ha16
        have hor := or_u32 nx (av &&& W) hnx hq16
        have hn216 := or_lt16 nx (av &&& W) hnx hq16
        have HQ : Hid (∀ j, (nx ||| (av &&& W)).testBit j = true ↔ nx.testBit j = true ∨ ((j < n ∧ E u j = true) ∧ W.testBit j = true)) := Lib.hid fun j => by
          rw [Nat.testBit_or, Nat.testBit_and, hbit]
          simp only [Bool.or_eq_true, Bool.and_eq_true, decide_eq_true_eq]
        have HU := Lib.hid hu
        have HUW := Lib.hid huW
        have e0 : (0 : Int) ≤ (u : Int) := by omega
        have e1 : (u : Int) < (n : Int) := by omega
        clear hval hu hub huW hbit ha16
        generalize hn2 : nx ||| (av &&& W) = n2 at hor hn216 HQ
        generalize av &&& W = q at hand hor hq16
        clear hn2
        go_wp2
        go_roundw
        case rel =>
          refine ⟨t + 1, n2, by omega, by go_num, rfl, hn216, fun i hi => (HQ.out i).2 (.inl (HSUB.out i hi)), fun i hi => ?_, fun s hs h y hE hy => ?_, HBx.out⟩
          · rcases (HQ.out i).1 hi with h | ⟨⟨_, hE⟩, hWi⟩
            · exact HRCH.out i h
            · exact ⟨hWi, .step HUW.out.2 hE ((mem_left hW).2 hWi)⟩
          · by_cases e : s = t
            · subst e
              rw [← HU.out] at hE
              exact (HQ.out y).2 (.inr ⟨⟨HWN.out y hy, hE⟩, hy⟩)
            · exact (HQ.out y).2 (.inl (HDONE.out s hs (by omega) y hE hy))
        case measure => simp [intOf]; omega
      · obtain rfl : t = (bitsOf m).length := by omega
        by_cases he : nx = m
        · have he' : (((nx : Nat) : Int) == ((m : Nat) : Int)) = true := by simp [he]
          have HE := Lib.hid he
          clear he
          go_wp2
          go_ret
          refine ⟨m, rfl, hm, fun i => ?_, HB3.out.trans (HBx.out.mono HB3.out.size)⟩
          rw [mem_partL]
          constructor
          · intro hi
            exact ⟨(mem_left hW).2 (HMR.out i hi).1, (HMR.out i hi).2⟩
          · rintro ⟨_, hr⟩
            refine rch_closed (T := fun i => m.testBit i = true) HMV.out (fun a b ha hE hb => ?_) i hr
            obtain ⟨s, hs, e⟩ := List.getElem_of_mem ((mem_left hm).2 ha)
            have := HDONE.out s hs hs b (by rw [e]; exact hE) ((mem_left hW).1 hb)
            rwa [HE.out] at this
        · have he' : (((nx : Nat) : Int) == ((m : Nat) : Int)) = false := by simpa using fun e => he (by omega)
          have HE := Lib.hid he
          clear he
          go_wp2
          go_roundw
          case rel => exact ⟨nx, rfl, hnx, HSUB.out v HMV.out, HRCH.out, HB3.out.trans (HBx.out.mono HB3.out.size)⟩
          case measure =>
            have h1 := bits_len_lt hm hnx HSUB.out (fun e => HE.out e.symm)
            have h2 := bitsOf_length nx
            simp [intOf]
            omega

end Go.Proofs.YtiooindlpinjhaaDoor

/- Walk: the program's behind (who is behind a vertex, by those that are gone). -/
namespace Go.Proofs.YtiooindlpinjhaaDoor
open Go.RowKit

theorem rch_self {E : Nat → Nat → Bool} {S T : Nat → Prop} {v : Nat} (h1 : ∀ x, S x → T x ∨ x = v) {x : Nat} (h : Rch E S v x) : Rch E T v x := by
  induction h with
  | base => exact .base
  | @step x y h2 h3 h4 ih =>
    rcases h1 y h4 with h5 | rfl
    · exact .step ih h3 h5
    · exact .base
theorem owns_shapeWd {w : World} {base : Nat} {E : TypeId} {size n : Nat} {v : Value} {xs : List Value} (h : w.ownsRow base E size v n xs) : ∃ p c, v = .slice p n c := by
  rcases h.2 with ⟨rfl, h0⟩ | ⟨b, c, _, rfl, _⟩
  · exact ⟨none, 0, by rw [h0]⟩
  · exact ⟨_, _, rfl⟩

set_option maxRecDepth 100000 in
set_option maxHeartbeats 4000000 in
theorem behind_any (xp : Option Addr) (xc : Nat) (y z : Int) (n : Nat) (E : Nat → Nat → Bool) (s v : Nat) (hy : y = s) (hz : z = v) (hE : ∀ x y, E x y = true → y < n) (hs : s < 65536) (hsn : ∀ i, s.testBit i = true → i < n) (hv : v < n) (w : World) (hx : NE w (.slice xp n xc) n E) (hT : Tab w) :
    Calls Tryd.prog 112 #[.slice xp n xc, .int .u32 y, .int .i64 z] w fun e w' => ∃ m : Nat, e = .returned (.int .u32 (m : Int)) ∧ m < 65536 ∧ bitsOf m = behS n E s v ∧ Below w.heap.size w w' := by
  subst hy; subst hz
  have n16 := hx.le
  have HX := Lib.hid hx
  have HT := Lib.hid hT
  have HE := Lib.hid hE
  obtain ⟨pv, hpv⟩ : ∃ pv, pv = 2 ^ v := ⟨_, rfl⟩
  have hp16 : pv < 65536 := by rw [hpv]; exact pow_lt16 v (by omega)
  have ONE : Hid (∀ w, Calls Tryd.prog 70 #[.int .i64 (v : Int)] w fun e w' => e = .returned (.int .u32 (pv : Int)) ∧ w = w') := Lib.hid (by rw [hpv]; exact fun w => one_any (v : Int) v rfl (by omega) w)
  obtain ⟨W, hW⟩ : ∃ W, W = s ||| pv := ⟨_, rfl⟩
  have hW16 : W < 65536 := by rw [hW]; exact or_lt16 s pv hs hp16
  have hor : bits BinOp.or IntKind.u32 (s : Int) (pv : Int) = (W : Int) := by rw [hW]; exact u32_or_nat s pv (by omega) (by omega)
  have hWb : ∀ j, W.testBit j = (s.testBit j || decide (v = j)) := fun j => by rw [hW, hpv]; exact testBit_put s v j
  have HWN : Hid (∀ i, W.testBit i = true → i < n) := Lib.hid fun i hi => by
    rw [hWb] at hi
    simp only [Bool.or_eq_true, decide_eq_true_eq] at hi
    rcases hi with h | rfl
    · exact hsn i h
    · exact hv
  have HWV : Hid (W.testBit v = true) := Lib.hid (by rw [hWb]; simp)
  have HRC : Hid (∀ x, Rch E (· ∈ bitsOf W) v x ↔ Rch E (inS s) v x) := Lib.hid fun x => by
    constructor
    · exact rch_self fun y hy => by
        rw [mem_left hW16, hWb] at hy
        simp only [Bool.or_eq_true, decide_eq_true_eq] at hy
        rcases hy with h | h
        · exact .inl h
        · exact .inr h.symm
    · exact rch_self fun y hy => .inl (by
        rw [mem_left hW16, hWb]
        have : s.testBit y = true := hy
        rw [this]; rfl)
  have hsub1 : ∀ o : Nat, o < 65536 → bits BinOp.andNot IntKind.u32 (o : Int) (s : Int) = ((sub o s : Nat) : Int) := fun o ho => u32_andNot_nat o s (by omega) (by omega)
  have HSB := Lib.hid hsub1
  have HPV := Lib.hid hpv
  clear hx hT hE hpv hW hWb hsub1
  go_enter Tryd.func112, Tryd.ntmps112
  go_wp2_with (first
    | (go_at_call 127; refine (list_any _ m rfl (by omega) _ (HT.out.keep HB2.out)).mono ?_; rintro e w3 ⟨lv, rfl, ho3, hb3⟩; obtain ⟨lp, lc, rfl⟩ := owns_shapeWd ho3; have hL32 := bitsOf_length m; have HL3 := Lib.hid (Nums.of_owns ho3 (natInts_length _).symm (by omega)); have HB3 := Lib.hid (HB2.out.trans (hb3.mono HB2.out.size)); clear ho3 hb3)
    | (go_at_call 137; refine (reach_any _ _ _ n E v W rfl rfl hW16 HWN.out HWV.out _ HX.out HT.out).mono ?_; rintro e w2 ⟨m, rfl, hm16, hm, hb2⟩; have HMM := Lib.hid hm; have HB2 := Lib.hid hb2; clear hm hb2)
    | (go_at_call 70; refine (ONE.out _).mono ?_; rintro e w1 ⟨rfl, rfl⟩))
  obtain ⟨L, hL⟩ : ∃ L, L = bitsOf m := ⟨_, rfl⟩
  have HLM : Hid (∀ x, x ∈ L ↔ Rch E (inS s) v x ∧ W.testBit x = true) := Lib.hid fun x => by
    rw [hL, mem_left hm16, HMM.out, mem_partL, mem_left hW16, HRC.out]
    exact ⟨fun h => ⟨h.2, h.1⟩, fun h => ⟨h.2, h.1⟩⟩
  rw [← hL] at HL3 hL32 ⊢
  clear hL
  go_loopw [8, 21] (fun ov kv wr => ∃ k o : Nat, k ≤ L.length ∧ kv = .int .i64 (k : Int) ∧ ov = .int .u32 (o : Int) ∧ o < 65536 ∧ Hid (∀ j, o.testBit j = true ↔ j < n ∧ ∃ u ∈ L.take k, E u j = true) ∧ wr = w3) (fun _ kv _ => L.length - (intOf kv).toNat)
  case atStart => exact ⟨0, 0, Nat.zero_le _, rfl, rfl, by omega, Lib.hid (fun j => by simp), rfl⟩
  case round =>
    obtain ⟨k, o, hk, rfl, rfl, ho16, HO, rfl⟩ := hrel
    by_cases hlt : k < L.length
    · obtain ⟨u, hu⟩ : ∃ u, u = L[k] := ⟨_, rfl⟩
      have hun : u < n := HWN.out u ((HLM.out u).1 (by rw [hu]; exact List.getElem_mem hlt)).2
      obtain ⟨lb, lo, hlp, hcl⟩ := HL3.out.get (k := k) (by rw [natInts_length]; exact hlt)
      subst hlp
      have hcn : (natInts L)[k]'(by rw [natInts_length]; exact hlt) = ((u : Nat) : Int) := by rw [hu]; simp [natInts]
      rw [hcn] at hcl
      obtain ⟨xb, xo, a, hxp, hca, ha16, hab⟩ := (HX.out.next HB3.out).get hun
      subst hxp
      obtain ⟨o2, ho2⟩ : ∃ o2, o2 = o ||| a := ⟨_, rfl⟩
      have hor2 : bits BinOp.or IntKind.u32 (o : Int) (a : Int) = (o2 : Int) := by rw [ho2]; exact u32_or_nat o a (by omega) (by omega)
      have ho216 : o2 < 65536 := by rw [ho2]; exact or_lt16 o a ho16 ha16
      have HO2 : Hid (∀ j, o2.testBit j = true ↔ j < n ∧ ∃ u ∈ L.take (k + 1), E u j = true) := Lib.hid fun j => by
        rw [ho2, Nat.testBit_or, Bool.or_eq_true, HO.out, hab, take_snoc L k hlt, ← hu]
        simp only [List.mem_append, List.mem_singleton, Bool.and_eq_true, decide_eq_true_eq]
        constructor
        · rintro (⟨h1, x, h2, h3⟩ | ⟨h1, h2⟩)
          · exact ⟨h1, x, .inl h2, h3⟩
          · exact ⟨h1, u, .inr rfl, h2⟩
        · rintro ⟨h1, x, h2 | rfl, h3⟩
          · exact .inl ⟨h1, x, h2, h3⟩
          · exact .inr ⟨h1, h3⟩
      have hki : (k : Int) < (L.length : Int) := by omega
      have hk0 : (0 : Int) ≤ (k : Int) := by omega
      have hui : (u : Int) < (n : Int) := by omega
      have hu0 : (0 : Int) ≤ (u : Int) := by omega
      clear hu hcn ho2 hab
      go_wp2_with fail
      go_roundw
      case rel => exact ⟨k + 1, o2, by omega, by go_num, rfl, ho216, HO2, by first | trivial | rfl⟩
      case measure => simp [intOf]; omega
    · obtain rfl : k = L.length := by omega
      obtain ⟨r, hr⟩ : ∃ r, r = sub o s := ⟨_, rfl⟩
      have hr16 : r < 65536 := by rw [hr]; exact sub_lt16 _ _ ho16
      have h1 := HSB.out o ho16
      rw [← hr] at h1
      obtain ⟨q, hq⟩ : ∃ q, q = sub r pv := ⟨_, rfl⟩
      have hq16 : q < 65536 := by rw [hq]; exact sub_lt16 _ _ hr16
      have h2 : bits BinOp.andNot IntKind.u32 (r : Int) (pv : Int) = (q : Int) := by rw [hq]; exact u32_andNot_nat r pv (by omega) (by omega)
      have HQ : Hid (bitsOf q = behS n E s v) := Lib.hid (by
        refine rising_ext _ _ (bitsOf_rising _) (behS_rising _ _ _ _) fun x => ?_
        rw [mem_left hq16, hq, testBit_sub _ _ (by omega) (by omega), hr, testBit_sub _ _ (by omega) (by omega), HPV.out, testBit_pow, mem_behS]
        simp only [Bool.and_eq_true, Bool.not_eq_true', decide_eq_false_iff_not]
        rw [HO.out, List.take_length]
        constructor
        · rintro ⟨⟨⟨h1, u, h2, h3⟩, h4⟩, h5⟩
          exact ⟨h1, h4, fun e => h5 e.symm, u, ((HLM.out u).1 h2).1, h3⟩
        · rintro ⟨h1, h2, h3, u, h4, h5⟩
          refine ⟨⟨⟨h1, u, (HLM.out u).2 ⟨h4, ?_⟩, h5⟩, h2⟩, fun e => h3 e.symm⟩
          have h6 := (HRC.out u).2 h4
          have h7 : u ∈ bitsOf W := rch_in (S := (· ∈ bitsOf W)) ((mem_left hW16).2 HWV.out) _ h6
          exact (mem_left hW16).1 h7)
      clear hr hq
      go_wp2_with (go_at_call 70; refine (ONE.out _).mono ?_; rintro e w9 ⟨rfl, rfl⟩)
      go_ret
      exact ⟨q, rfl, hq16, HQ.out, HB3.out⟩

end Go.Proofs.YtiooindlpinjhaaDoor
