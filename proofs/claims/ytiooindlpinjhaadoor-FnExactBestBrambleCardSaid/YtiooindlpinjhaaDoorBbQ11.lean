/- Walk: what the program reaches. -/
import Derived.Test.YtiooindlpinjhaaDoorBbQ10
import Derived.Test.YtiooindlpinjhaaDoorBbQ7
import Derived.Test.YtiooindlpinjhaaDoorBbQ2
import Derived.Test.YtiooindlpinjhaaDoorBbQ5
import Derived.Test.YtiooindlpinjhaaDoorBbQ8
import Derived.Test.YtiooindlpinjhaaDoorBbQ9
namespace Go.Proofs.YtiooindlpinjhaaDoor
open Go.RowKit

theorem filter_lt {α : Type} (p q : α → Bool) : ∀ (l : List α), (∀ x ∈ l, p x = true → q x = true) → (∃ x ∈ l, q x = true ∧ ¬ p x = true) → (l.filter p).length < (l.filter q).length
  | [], _, ⟨x, hx, _⟩ => by simp at hx
  | a :: l, h, ⟨x, hx, hq, hp⟩ => by
    have hle : ∀ m : List α, (∀ x ∈ m, p x = true → q x = true) → (m.filter p).length ≤ (m.filter q).length := by
      intro m
      induction m with
      | nil => intro _; simp
      | cons b m ih =>
        intro hm
        have := ih fun x hx => hm x (by simp [hx])
        by_cases hb : p b = true
        · rw [List.filter_cons_of_pos hb, List.filter_cons_of_pos (hm b (by simp) hb)]; simp; exact this
        · rw [List.filter_cons_of_neg hb]
          by_cases hb2 : q b = true
          · rw [List.filter_cons_of_pos hb2]; simp; omega
          · rw [List.filter_cons_of_neg hb2]; exact this
    by_cases ha : p a = true
    · have hqa := h a (by simp) ha
      rw [List.filter_cons_of_pos ha, List.filter_cons_of_pos hqa]
      have hxl : x ∈ l := by
        rcases List.mem_cons.1 hx with e | e
        · subst e; exact absurd ha hp
        · exact e
      have := filter_lt p q l (fun x hx => h x (by simp [hx])) ⟨x, hxl, hq, hp⟩
      simp; exact this
    · rw [List.filter_cons_of_neg ha]
      have h1 := hle l fun x hx => h x (by simp [hx])
      by_cases hqa : q a = true
      · rw [List.filter_cons_of_pos hqa]; simp; omega
      · rw [List.filter_cons_of_neg hqa]
        have hxl : x ∈ l := by
          rcases List.mem_cons.1 hx with e | e
          · subst e; exact absurd hq hqa
          · exact e
        exact filter_lt p q l (fun x hx => h x (by simp [hx])) ⟨x, hxl, hq, hp⟩
theorem bits_len_lt {m k : Nat} (hm : m < 65536) (hk : k < 65536) (h : ∀ i, m.testBit i = true → k.testBit i = true) (hne : m ≠ k) : (bitsOf m).length < (bitsOf k).length := by
  unfold bitsOf
  have hx : ∃ i, k.testBit i = true ∧ ¬ m.testBit i = true := Classical.byContradiction fun hn => hne (Nat.eq_of_testBit_eq fun i => by
    rw [Bool.eq_iff_iff]
    exact ⟨h i, fun hi => Classical.byContradiction fun hmi => hn ⟨i, hi, hmi⟩⟩)
  obtain ⟨i, hi, hmi⟩ := hx
  have hi16 : i < 16 := bitsOf_lt16 hk ((mem_left hk).2 hi)
  exact filter_lt _ _ _ (fun x _ => h x) ⟨i, by simp; omega, hi, hmi⟩

/-- What the walks need of the sets: the masks of the graph of n vertices with the edges E. -/
structure NE (w : World) (x : Value) (n : Nat) (E : Nat → Nat → Bool) : Prop where
  le : n ≤ 16
  sl : Sl w 71 x n ((indN n E).map u32v)
theorem NE.next {w w' : World} {x : Value} {n : Nat} {E : Nat → Nat → Bool} (h : NE w x n E) (hb : Below w.heap.size w w') : NE w' x n E := ⟨h.le, h.sl.below hb⟩
theorem NE.get {w : World} {p : Option Addr} {m c n : Nat} {E : Nat → Nat → Bool} (h : NE w (.slice p m c) n E) {v : Nat} (hv : v < n) :
    ∃ (b o a : Nat), p = some ⟨b, o, none⟩ ∧ w.cell? ⟨b, o + v, none⟩ = some (.int .u32 (a : Int)) ∧ a < 65536 ∧ ∀ j, a.testBit j = (decide (j < n) && E v j) := by
  have hvl : v < (indN n E).length := by rw [indN_length]; exact hv
  obtain ⟨b, o, h1, h2⟩ := nets_cell (a := indN n E) (by rw [indN_length]; exact h.sl) hvl
  have h3 := indN_bit (E := E) hv
  have e : (indN n E).getD v 0 = (indN n E)[v] := by simp [hvl]
  rw [e] at h3
  exact ⟨b, o, _, h1, h2, indN_lt16 h.le _ (List.getElem_mem hvl), h3⟩

set_option maxRecDepth 100000 in
set_option maxHeartbeats 4000000 in
theorem reach_any (x : Value) (y z : Int) (n : Nat) (E : Nat → Nat → Bool) (v W : Nat) (hy : y = v) (hz : z = W) (hW : W < 65536) (hWn : ∀ i, W.testBit i = true → i < n) (hv : W.testBit v = true) (w : World) (hx : NE w x n E) (hT : Tab w) :
    Calls Tryd.prog 137 #[x, .int .i64 y, .int .u32 z] w fun e w' => ∃ m : Nat, e = .returned (.int .u32 (m : Int)) ∧ m < 65536 ∧ (∀ i, m.testBit i = true ↔ i ∈ partL E (bitsOf W) v) ∧ Below w.heap.size w w' := by
  subst hy; subst hz
  obtain ⟨xp, xc, rfl⟩ : ∃ p c, x = .slice p n c := by obtain ⟨p, c, e, _⟩ := hx.sl; exact ⟨p, c, e⟩
  have hvn := hWn v hv
  have hle := hx.le
  have hv32 : v < 32 := by omega
  have HX := Lib.hid hx
  have HT := Lib.hid hT
  have HWN := Lib.hid hWn
  have HV := Lib.hid hv
  have h2v : 2 ^ v < 65536 := pow_lt16 v (by omega)
  have hb2 : Hid (∀ i, (2 ^ v : Nat).testBit i = true ↔ v = i) := Lib.hid fun i => by rw [testBit_pow]; simp
  have c1 := Lib.hid (fun w => one_any (v : Int) v rfl hv32 w)
  clear hx hT hWn hv
  generalize hpv : 2 ^ v = pv at h2v hb2 c1
  clear hpv
  go_enter Tryd.func137, Tryd.ntmps137
  go_wp2_with (go_at_call 70; refine (c1.out _).mono ?_; rintro e w2 ⟨rfl, rfl⟩)
  go_loopw [7] (fun s7 wr => ∃ m : Nat, s7 = .int .u32 (m : Int) ∧ m < 65536 ∧ m.testBit v = true ∧ (∀ i, m.testBit i = true → W.testBit i = true ∧ Rch E (· ∈ bitsOf W) v i) ∧ Below w.heap.size w wr)
    (fun s7 _ => 32 - (bitsOf (intOf s7).toNat).length)
  case atStart =>
    refine ⟨pv, rfl, h2v, (hb2.out v).2 rfl, fun i hi => ?_, Below.refl _ _⟩
    obtain rfl := (hb2.out i).1 hi
    exact ⟨HV.out, .base⟩
  case round =>
    clear h2v hb2
    obtain ⟨m, rfl, hm, hmv, hmr, hbel⟩ := hrel
    have HMV := Lib.hid hmv
    have HMR := Lib.hid hmr
    have HBel := Lib.hid hbel
    have hlen := bitsOf_length m
    have hT1 := HT.out.keep hbel
    clear hmv hmr hbel
    go_wp2_with (go_at_call 127; refine (list_any _ m rfl (by omega) _ hT1).mono ?_; rintro e w3 ⟨lv, rfl, hown3, hb3⟩; have hnl := Nums.of_owns hown3 (natInts_length _).symm (by omega); obtain ⟨lp, lc, rfl, _, _, _, hat⟩ := hnl.shape; rw [natInts_length])
    have HB3 := Lib.hid (HBel.out.trans (hb3.mono HBel.out.size))
    have HAT := Lib.hid hat
    clear hb3 hown3 hnl hat hT1
    go_loopw [8, 17] (fun s8 i wx => ∃ (t nx : Nat), t ≤ (bitsOf m).length ∧ i = .int .i64 t ∧ s8 = .int .u32 (nx : Int) ∧ nx < 65536 ∧ (∀ i, m.testBit i = true → nx.testBit i = true) ∧ (∀ i, nx.testBit i = true → W.testBit i = true ∧ Rch E (· ∈ bitsOf W) v i) ∧
        (∀ s (hs : s < (bitsOf m).length), s < t → ∀ y, E (bitsOf m)[s] y = true → W.testBit y = true → nx.testBit y = true) ∧ Below w3.heap.size w3 wx) (fun _ i _ => (bitsOf m).length - (intOf i).toNat)
    case atStart => exact ⟨0, m, Nat.zero_le _, rfl, rfl, hm, fun _ h => h, HMR.out, fun s hs h => by omega, Below.refl _ _⟩
    case round =>
      obtain ⟨t, nx, ht, rfl, rfl, hnx, hsub, hrch, hdone, hbx⟩ := hrel
      have HSUB := Lib.hid hsub
      have HRCH := Lib.hid hrch
      have HDONE := Lib.hid hdone
      have HBx := Lib.hid hbx
      clear hsub hrch hdone hbx
      by_cases hlt : t < (bitsOf m).length
      · obtain ⟨u, hu⟩ : ∃ u : Nat, u = (bitsOf m)[t] := ⟨_, rfl⟩
        have hub : m.testBit u = true := (mem_left hm).1 (hu ▸ List.getElem_mem hlt)
        have huW := HMR.out u hub
        have hun := HWN.out u huW.1
        have hjl : t < (natInts (bitsOf m)).length := by rw [natInts_length]; exact hlt
        obtain ⟨lb, lo, rfl, hcl⟩ := (HAT.out.below HBx.out).num hjl
        have hval : (natInts (bitsOf m))[t] = (u : Int) := by rw [hu]; simp [natInts]
        rw [hval] at hcl
        obtain ⟨ab, ao, av, rfl, hca, ha16, hbit⟩ := (HX.out.next (HB3.out.trans (HBx.out.mono HB3.out.size))).get hun
        have hand := u32_and_nat av W (by omega) (by omega)
        have hq16 : av &&& W < 65536 := and_lt16 _ _ ha16
        have hor := or_u32 nx (av &&& W) hnx hq16
        have hn216 := or_lt16 nx (av &&& W) hnx hq16
        have HQ : Hid (∀ j, (nx ||| (av &&& W)).testBit j = true ↔ nx.testBit j = true ∨ ((j < n ∧ E u j = true) ∧ W.testBit j = true)) := Lib.hid fun j => by
          rw [Nat.testBit_or, Nat.testBit_and, hbit]
          simp only [Bool.or_eq_true, Bool.and_eq_true, decide_eq_true_eq]
        have HU := Lib.hid hu
        have HUW := Lib.hid huW
        have e0 : (0 : Int) ≤ (u : Int) := by omega
        have e1 : (u : Int) < (n : Int) := by omega
        clear hval hu hub huW hbit ha16
        generalize hn2 : nx ||| (av &&& W) = n2 at hor hn216 HQ
        generalize av &&& W = q at hand hor hq16
        clear hn2
        go_wp2
        go_roundw
        case rel =>
          refine ⟨t + 1, n2, by omega, by go_num, rfl, hn216, fun i hi => (HQ.out i).2 (.inl (HSUB.out i hi)), fun i hi => ?_, fun s hs h y hE hy => ?_, HBx.out⟩
          · rcases (HQ.out i).1 hi with h | ⟨⟨_, hE⟩, hWi⟩
            · exact HRCH.out i h
            · exact ⟨hWi, .step HUW.out.2 hE ((mem_left hW).2 hWi)⟩
          · by_cases e : s = t
            · subst e
              rw [← HU.out] at hE
              exact (HQ.out y).2 (.inr ⟨⟨HWN.out y hy, hE⟩, hy⟩)
            · exact (HQ.out y).2 (.inl (HDONE.out s hs (by omega) y hE hy))
        case measure => simp [intOf]; omega
      · obtain rfl : t = (bitsOf m).length := by omega
        by_cases he : nx = m
        · have he' : (((nx : Nat) : Int) == ((m : Nat) : Int)) = true := by simp [he]
          have HE := Lib.hid he
          clear he
          go_wp2
          go_ret
          refine ⟨m, rfl, hm, fun i => ?_, HB3.out.trans (HBx.out.mono HB3.out.size)⟩
          rw [mem_partL]
          constructor
          · intro hi
            exact ⟨(mem_left hW).2 (HMR.out i hi).1, (HMR.out i hi).2⟩
          · rintro ⟨_, hr⟩
            refine rch_closed (T := fun i => m.testBit i = true) HMV.out (fun a b ha hE hb => ?_) i hr
            obtain ⟨s, hs, e⟩ := List.getElem_of_mem ((mem_left hm).2 ha)
            have := HDONE.out s hs hs b (by rw [e]; exact hE) ((mem_left hW).1 hb)
            rwa [HE.out] at this
        · have he' : (((nx : Nat) : Int) == ((m : Nat) : Int)) = false := by simpa using fun e => he (by omega)
          have HE := Lib.hid he
          clear he
          go_wp2
          go_roundw
          case rel => exact ⟨nx, rfl, hnx, HSUB.out v HMV.out, HRCH.out, HB3.out.trans (HBx.out.mono HB3.out.size)⟩
          case measure =>
            have h1 := bits_len_lt hm hnx HSUB.out (fun e => HE.out e.symm)
            have h2 := bitsOf_length nx
            simp [intOf]
            omega

end Go.Proofs.YtiooindlpinjhaaDoor

/- Walk: masks as rows of numbers. -/
namespace Go.Proofs.YtiooindlpinjhaaDoor
open Go.RowKit

theorem ty_rows64 : SlTy Tryd.prog 22 26 (.slice none 0 0) 1 24 := ⟨Tryd.underlying22, by kernel_rfl, rfl, by decide, by decide⟩

set_option maxRecDepth 100000 in
set_option maxHeartbeats 4000000 in
theorem results_any (x : Value) (a : List Nat) (ha : ∀ s ∈ a, s < 4294967296) (hal : a.length ≤ 100000) (w : World) (hx : Sl w 71 x a.length (a.map u32v)) (hT : Tab w) :
    Calls Tryd.prog 96 #[x] w fun e w' => ∃ u, e = .returned u ∧ DG w' w.heap.size (.agg #[u]) (rowsOf a) ∧ Below w.heap.size w w' := by
  obtain ⟨p, c, rfl, _⟩ := id hx
  have HX := Lib.hid hx
  have HT := Lib.hid hT
  clear hx hT
  go_enter Tryd.func96, Tryd.ntmps96
  go_wp2
  go_loopw [3, 9] (fun ov i wr => ∃ (k : Nat) (vals : List Value), k ≤ a.length ∧ i = .int .i64 k ∧ Below w.heap.size w wr ∧ wr.ownsRow w.heap.size 26 1 ov k vals ∧ vals.length = k ∧ Dis wr w.heap.size k vals (rowsOf a))
    (fun _ i _ => a.length - (intOf i).toNat)
  case atStart => exact ⟨0, [], Nat.zero_le _, rfl, below_alloc _ _, ownsRow_empty _ _ _, rfl, ⟨fun j hj => by omega, fun i j hi => by omega⟩⟩
  case round =>
    obtain ⟨k, vals, hk, rfl, hbel, hown, hvl, hrows⟩ := hrel
    have Hvl := Lib.hid hvl
    have Hrows := Lib.hid hrows
    have Hown := Lib.hid hown
    clear hvl hrows
    have hsz := hbel.size
    by_cases hlt : k < a.length
    · obtain ⟨ab, ao, rfl, hca⟩ := nets_cell (HX.out.below hbel) hlt
      have hs16 := ha _ (List.getElem_mem hlt)
      have HTr := Lib.hid (HT.out.keep hbel)
      have Hrow := Lib.hid (row_rowsOf hlt)
      clear hown
      go_wp2_with (first
        | (go_at_call 61; refine (numbers_any _ a[k] rfl hs16 _ HTr.out).mono ?_; rintro e w5 ⟨rv, rfl, hown5, hb5⟩; obtain ⟨rvp, rvc, hrv⟩ : ∃ p c, rv = .slice p (bitsOf a[k]).length c := (by rcases hown5.2 with ⟨rfl, h0⟩ | ⟨b, c, _, rfl, _⟩; exact ⟨none, 0, by rw [h0]⟩; exact ⟨_, _, rfl⟩); subst hrv; have hownc := ownsRow_below Hown.out hb5; have hs5 := hb5.size)
        | (at_builtin; refine wpList_app1s ty_rows64 rfl rfl rfl hownc rfl rfl (by omega) (by omega) ?_; intro b7 c8 w7 hown7 hg7 _))
      have hd : Dis w5 w.heap.size k vals (rowsOf a) := ⟨fun j hj => ownsRow_below (Hrows.out.rows j hj) hb5, Hrows.out.dis⟩
      have Hd := Lib.hid hd
      clear hd
      go_roundw
      case rel =>
        refine ⟨k + 1, _, by omega, by go_num, below_grown (hbel.trans (hb5.mono hbel.size)) hownc hg7 (Nat.le_refl _) (by omega), hown7, by simp [Hvl.out], ?_⟩
        refine Hd.out.snoc Hvl.out (fun base size n v xs h => ownsRow_other h hownc hg7 (by decide)) (B := wr.heap.size) (by omega) (fun j hj b hb => ((Hrows.out.rows j hj).lt b hb).2) ?_
        rw [Hrow.out, natInts_length]
        exact hown5
      case measure => simp [intOf]; omega
    · obtain rfl : k = a.length := by omega
      have HO := Lib.hid hown
      clear hown
      go_wp2
      go_ret
      exact ⟨_, rfl, ⟨_, vals, rfl, by rw [rowsOf_length]; exact Hvl.out, by rw [rowsOf_length]; exact HO.out, by rw [rowsOf_length]; exact Hrows.out⟩, hbel⟩

end Go.Proofs.YtiooindlpinjhaaDoor

/- Walks: the program's tests of a set, and of a connected one; the masks of several sets. -/
namespace Go.Proofs.YtiooindlpinjhaaDoor
open Go.RowKit

set_option maxRecDepth 100000 in
set_option maxHeartbeats 1000000 in
theorem implSetOk_any (v lv : Value) (g : List (List Int)) (s : List Int) (hgl : g.length ≤ 1000000000) (w : World) (hg : Gr w v g) (hn : Nums w 2 .i64 lv s) :
    Calls Tryd.prog 76 #[v, lv] w fun e w' => e = .returned (.bool (dec (GOk g ∧ SetIn g.length s))) ∧ Below w.heap.size w w' := by
  have hg0 := hg
  obtain ⟨u, rfl, hr⟩ := hg
  obtain ⟨p, c, rfl, _⟩ := hr.shape
  have hbA := Lib.hid (below_alloc w (.cells #[.slice p g.length c] 28))
  have HG := Lib.hid (hg0.below hbA.out)
  have HN := Lib.hid (hn.below hbA.out)
  have BX := Lib.hid (Box.new w (.slice p g.length c) 28)
  clear hr hg0 hn
  by_cases hok : GOk g
  · have hd := Lib.hid (dec_true hok)
    have HD : Hid (dec (SetIn g.length s) = dec (GOk g ∧ SetIn g.length s)) := Lib.hid (dec_congr ⟨fun h => ⟨hok, h⟩, fun h => h.2⟩)
    clear hok
    go_enter Tryd.func76, Tryd.ntmps76
    go_wp2_with (first
      | (go_at_call 53; refine (implGraphOk_any _ g _ HG.out).mono ?_; rintro e w2 ⟨he, hb2⟩; rw [hd.out] at he; subst he; have hbx := (BX.out.keep hb2).cell)
      | (go_at_call 121; refine (increasing_any _ s g.length (by omega) (by omega) _ (HN.out.below hb2)).mono ?_; rintro e w3 ⟨he3, hw3⟩; rw [HD.out] at he3; subst he3; subst hw3))
    go_ret
    exact ⟨rfl, hbA.out.trans (hb2.mono hbA.out.size)⟩
  · have hd := Lib.hid (dec_false hok)
    have HD := Lib.hid (dec_false (show ¬ (GOk g ∧ SetIn g.length s) from fun h => hok h.1))
    clear hok
    go_enter Tryd.func76, Tryd.ntmps76
    go_wp2_with (go_at_call 53; refine (implGraphOk_any _ g _ HG.out).mono ?_; rintro e w2 ⟨he, hb2⟩; rw [hd.out] at he; subst he)
    go_ret
    exact ⟨by rw [HD.out]; rfl, hbA.out.trans (hb2.mono hbA.out.size)⟩


/-- A connected set of a right graph. -/
def ConnS (g : List (List Int)) (s : List Int) : Prop := (GOk g ∧ SetIn g.length s) ∧ ConnL (ofG g) (s.map Int.toNat)
theorem setIn_nats {n : Nat} {s : List Int} (h : SetIn n s) : natInts (s.map Int.toNat) = s ∧ (s.map Int.toNat).Pairwise (· < ·) ∧ ∀ x ∈ s.map Int.toNat, x < n := by
  refine ⟨?_, ?_, ?_⟩
  · unfold natInts
    rw [List.map_map]
    conv => rhs; rw [← List.map_id s]
    exact List.map_congr_left fun x hx => Int.toNat_of_nonneg (h.1 x hx).1
  · refine List.pairwise_map.2 (h.2.imp_of_mem fun {a b} ha hb k => ?_)
    have := (h.1 a ha).1
    have := (h.1 b hb).1
    omega
  · intro x hx
    obtain ⟨y, hy, rfl⟩ := List.mem_map.1 hx
    have := h.1 y hy
    omega
theorem bits_maskS {n : Nat} {s : List Int} (hn : n ≤ 16) (h : SetIn n s) : bitsOf (mask s) = s.map Int.toNat := by
  obtain ⟨h1, h2, h3⟩ := setIn_nats h
  conv => lhs; rw [← h1]
  exact bitsOf_maskN h2 fun x hx => by have := h3 x hx; omega


theorem ty_vsets' : SlTy Tryd.prog 66 71 (.int .u32 0) 1 4 := ⟨Tryd.underlying66, by kernel_rfl, rfl, by decide, by decide⟩

end Go.Proofs.YtiooindlpinjhaaDoor
