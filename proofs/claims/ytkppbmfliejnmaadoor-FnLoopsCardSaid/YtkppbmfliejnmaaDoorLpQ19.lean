/- The state of the program's search of a loop: what its blocks hold, and what each step makes of them; the vertices that may follow; those that are too far. -/
import Derived.Test.YtkppbmfliejnmaaDoorLpQ16
import Derived.Test.YtkppbmfliejnmaaDoorLpQ18
import Derived.Test.YtkppbmfliejnmaaDoorLpQ17
namespace Go.Proofs.YtkppbmfliejnmaaDoor
open Go.RowKit

theorem natInts_snocLp (l : List Nat) (x : Nat) : natInts (l ++ [x]) = natInts l ++ [(x : Int)] := by simp [natInts]
theorem mask_appLp (o : List Nat) (v : Nat) : mask (natInts (o ++ [v])) = mask (natInts o) ||| 2 ^ v := by rw [natInts_snocLp, mask_snoc]; rfl
theorem bit_natMaskLp (o : List Nat) (v : Nat) : (mask (natInts o)).testBit v = decide (v ∈ o) := by
  rw [testBit_mask]
  by_cases h : v ∈ o
  · rw [decide_eq_true h, List.any_eq_true]
    exact ⟨(v : Int), mem_natInts.2 ⟨v, h, rfl⟩, by simp⟩
  · rw [decide_eq_false h, List.any_eq_false]
    intro x hx e
    obtain ⟨y, hy, rfl⟩ := mem_natInts.1 hx
    have : y = v := by simpa using e
    exact h (this ▸ hy)
theorem mask_nat16Lp {o : List Nat} (h : ∀ u ∈ o, u < 16) : mask (natInts o) < 65536 := by
  refine mask_lt16 _ fun x hx => ?_
  obtain ⟨y, hy, rfl⟩ := mem_natInts.1 hx
  have := h y hy
  omega
theorem mask_backLp {o : List Nat} {v : Nat} (h : ∀ u ∈ o, u < 16) (hv : v < 16) (hn : v ∉ o) : sub (mask (natInts o) ||| 2 ^ v) (2 ^ v) = mask (natInts o) := by
  have h1 := mask_nat16Lp h
  have h2 := pow_lt32 v (by omega)
  refine Nat.eq_of_testBit_eq fun j => ?_
  rw [testBit_sub _ _ (or_lt32 _ _ (by omega) h2) h2, Nat.testBit_or, testBit_pow]
  by_cases e : v = j
  · subst e
    rw [bit_natMaskLp]; simp [hn]
  · simp [e]
theorem ownsRow_offLp {w : World} {base : Nat} {E : TypeId} {size n : Nat} {v : Value} {xs : List Value} (h : w.ownsRow base E size v n xs) {b i : Nat} (hb : ∀ k, v.ownBlock = some k → k ≠ b) (u : Value) : (w.setCell ⟨b, i, none⟩ u).ownsRow base E size v n xs :=
  ownsRow_setCell_other h (a := ⟨b, i, none⟩) (fun e => hb b e rfl) u
theorem ownsRow_toLp {w w' : World} {base : Nat} {E : TypeId} {size n : Nat} {v : Value} {xs : List Value} (h : w.ownsRow base E size v n xs) (hk : ∀ k, v.ownBlock = some k → w'.heap[k]? = w.heap[k]?) : w'.ownsRow base E size v n xs := by
  refine ⟨h.1, ?_⟩
  rcases h.2 with h2 | ⟨g, cap, cur, rfl, h2, h3, h4⟩
  · exact .inl h2
  · exact .inr ⟨g, cap, cur, rfl, h2, (hk g rfl).trans h3, h4⟩
theorem ownsRow_cutLp {w : World} {base : Nat} {E : TypeId} {n c k : Nat} {p : Option Addr} {xs : List Value} (h : w.ownsRow base E 1 (.slice p n c) n xs) (hk : k ≤ n) : w.ownsRow base E 1 (.slice p k c) k (xs.take k) := by
  have hl := h.1
  refine ⟨by rw [List.length_take]; omega, ?_⟩
  rcases h.2 with ⟨h2, h0⟩ | ⟨g, cap, cur, hv, h2, h3, h4, h5, h6, h7⟩
  · simp only [Value.slice.injEq] at h2
    exact .inl ⟨by rw [h2.1, h2.2.2, show k = 0 by omega], by omega⟩
  · simp only [Value.slice.injEq] at hv
    obtain ⟨rfl, _, rfl⟩ := hv
    exact .inr ⟨g, c, cur, rfl, h2, h3, by omega, h5, h6, by rw [← h7, List.take_take, Nat.mul_one, Nat.mul_one, Nat.min_eq_left hk]⟩
theorem owns_capLp {w : World} {base : Nat} {E : TypeId} {size n : Nat} {v : Value} {xs : List Value} (h : w.ownsRow base E size v n xs) (hn : 0 < n) : ∃ g c, v = .slice (some ⟨g, 0, none⟩) n c ∧ n ≤ c := by
  rcases h.2 with ⟨rfl, rfl⟩ | ⟨g, cap, cur, rfl, _, _, h4, _⟩
  · omega
  · exact ⟨_, _, rfl, h4⟩

/-- The block of the search. -/
structure LS (w : World) (xb : Nat) (v0 v1 v2 v3 v4 v5 : Value) : Prop where
  blk : w.heap[xb]? = some (.cells #[v0, v1, v2, v3, v4, v5] 164 (0, 0))
section
variable {w w' : World} {xb : Nat} {v0 v1 v2 v3 v4 v5 : Value}
theorem LS.c0 (h : LS w xb v0 v1 v2 v3 v4 v5) : w.cell? ⟨xb, 0, none⟩ = some v0 := by unfold World.cell?; rw [h.blk]; rfl
theorem LS.c1 (h : LS w xb v0 v1 v2 v3 v4 v5) : w.cell? ⟨xb, 1, none⟩ = some v1 := by unfold World.cell?; rw [h.blk]; rfl
theorem LS.c2 (h : LS w xb v0 v1 v2 v3 v4 v5) : w.cell? ⟨xb, 2, none⟩ = some v2 := by unfold World.cell?; rw [h.blk]; rfl
theorem LS.c3 (h : LS w xb v0 v1 v2 v3 v4 v5) : w.cell? ⟨xb, 3, none⟩ = some v3 := by unfold World.cell?; rw [h.blk]; rfl
theorem LS.c4 (h : LS w xb v0 v1 v2 v3 v4 v5) : w.cell? ⟨xb, 4, none⟩ = some v4 := by unfold World.cell?; rw [h.blk]; rfl
theorem LS.c5 (h : LS w xb v0 v1 v2 v3 v4 v5) : w.cell? ⟨xb, 5, none⟩ = some v5 := by unfold World.cell?; rw [h.blk]; rfl
theorem LS.free (h : LS w xb v0 v1 v2 v3 v4 v5) (i : Nat) : w.frozen? ⟨xb, i, none⟩ = false := by simp [World.frozen?, h.blk]
theorem LS.lt (h : LS w xb v0 v1 v2 v3 v4 v5) : xb < w.heap.size := lt_of_block h.blk
theorem LS.to (h : LS w xb v0 v1 v2 v3 v4 v5) (hk : w'.heap[xb]? = w.heap[xb]?) : LS w' xb v0 v1 v2 v3 v4 v5 := ⟨hk.trans h.blk⟩
theorem LS.new (w : World) : LS (w.alloc (.cells #[v0, v1, v2, v3, v4, v5] 164)) w.heap.size v0 v1 v2 v3 v4 v5 := ⟨heap_alloc_new w _⟩
theorem LS.s3 (h : LS w xb v0 v1 v2 v3 v4 v5) (u : Value) : LS (w.setCell ⟨xb, 3, none⟩ u) xb v0 v1 v2 u v4 v5 := ⟨by have := heap_setCell_same w xb 3 _ _ u h.blk; simpa using this⟩
theorem LS.s4 (h : LS w xb v0 v1 v2 v3 v4 v5) (u : Value) : LS (w.setCell ⟨xb, 4, none⟩ u) xb v0 v1 v2 v3 u v5 := ⟨by have := heap_setCell_same w xb 4 _ _ u h.blk; simpa using this⟩
end

/-- The search as it stands: the path so far, and its set. The first block behind w1 was laid for the path, the second is the search's. -/
structure LsI (w1 w : World) (hv fv : Value) (long : Nat) (P : List Nat) (us : Nat) (ov : Value) : Prop where
  bel : Below w1.heap.size w1 w
  cs : LS w (w1.heap.size + 1) hv fv (.int .i64 (long : Int)) ov (.int .u32 (us : Int)) (.func (.func 164) #[] #[])
  ord : w.ownsRow w1.heap.size 3 1 ov P.length ((natInts P).map (Value.int .i64))
  ne : ∀ k, ov.ownBlock = some k → k ≠ w1.heap.size + 1
section
variable {w1 w w' : World} {hv fv ov : Value} {P : List Nat} {long us : Nat}
theorem LsI.next (h : LsI w1 w hv fv long P us ov) (hb : Below w.heap.size w w') : LsI w1 w' hv fv long P us ov :=
  ⟨h.bel.trans (hb.mono h.bel.size), h.cs.to (hb.block _ h.cs.lt), ownsRow_below h.ord hb, h.ne⟩
/-- A vertex more. -/
theorem LsI.push (h : LsI w1 w hv fv long P us ov) {x us' b' c' : Nat}
    (ho : w'.ownsRow w1.heap.size 3 1 (.slice (some ⟨b', 0, none⟩) (P.length + 1) c') (P.length + 1) ((natInts P).map (Value.int .i64) ++ [.int .i64 (x : Int)]))
    (hg : w.grownBy w' ov.ownBlock) (hn : ov.ownBlock = some b' ∨ w.heap.size < b') :
    LsI w1 ((w'.setCell ⟨w1.heap.size + 1, 3, none⟩ (.slice (some ⟨b', 0, none⟩) (P.length + 1) c')).setCell ⟨w1.heap.size + 1, 4, none⟩ (.int .u32 (us' : Int))) hv fv long (P ++ [x]) us' (.slice (some ⟨b', 0, none⟩) (P.length + 1) c') := by
  have hne : ∀ k, (Value.slice (some ⟨b', 0, none⟩) (P.length + 1) c').ownBlock = some k → k ≠ w1.heap.size + 1 := fun k hk => by
    have e : b' = k := by simpa [Value.ownBlock] using hk
    subst e
    rcases hn with hn | hn
    · exact h.ne _ hn
    · have := h.cs.lt
      omega
  exact {
    bel := ((below_grown h.bel h.ord hg (Nat.le_refl _) h.bel.size).setCell (p := ⟨w1.heap.size + 1, 3, none⟩) (Nat.le_succ _) _).setCell (p := ⟨w1.heap.size + 1, 4, none⟩) (Nat.le_succ _) _
    cs := ((h.cs.to (hg.block _ h.cs.lt fun e => h.ne _ e.symm rfl)).s3 _).s4 _
    ord := by
      rw [natInts_snocLp, List.map_append, List.length_append]
      exact ownsRow_offLp (ownsRow_offLp ho hne _) hne _
    ne := hne }
/-- Back by a vertex. -/
theorem LsI.cut {ob oc : Nat} (h : LsI w1 w hv fv long P us (.slice (some ⟨ob, 0, none⟩) P.length oc)) {i : Nat} (hi : i ≤ P.length) (us' : Nat) :
    LsI w1 ((w.setCell ⟨w1.heap.size + 1, 3, none⟩ (.slice (some ⟨ob, 0, none⟩) i oc)).setCell ⟨w1.heap.size + 1, 4, none⟩ (.int .u32 (us' : Int))) hv fv long (P.take i) us' (.slice (some ⟨ob, 0, none⟩) i oc) where
  bel := (h.bel.setCell (p := ⟨w1.heap.size + 1, 3, none⟩) (Nat.le_succ _) _).setCell (p := ⟨w1.heap.size + 1, 4, none⟩) (Nat.le_succ _) _
  cs := (h.cs.s3 _).s4 _
  ord := by
    have := ownsRow_cutLp h.ord hi
    rw [← List.map_take] at this
    rw [List.length_take, Nat.min_eq_left hi, natInts, List.map_take]
    exact ownsRow_offLp (ownsRow_offLp this h.ne _) h.ne _
  ne := h.ne
end

/-! ### Plain -/
theorem findSome_filter {α β : Type} (p : α → Bool) (f : α → Option β) : ∀ l : List α, (l.findSome? fun v => if p v = true then f v else none) = (l.filter p).findSome? f
  | [] => rfl
  | a :: l => by
    rw [List.findSome?_cons, findSome_filter p f l, List.filter_cons]
    by_cases h : p a = true
    · rw [if_pos h, if_pos h, List.findSome?_cons]
    · rw [if_neg h, if_neg h]
theorem findSome_at {α β : Type} {f : α → Option β} {l : List α} {k : Nat} (hk : k < l.length) (h : ∀ j (hj : j < l.length), j < k → f l[j] = none) {y : β} (hy : f l[k] = some y) : l.findSome? f = some y := by
  induction l generalizing k with
  | nil => simp at hk
  | cons a l ih =>
    rw [List.findSome?_cons]
    cases k with
    | zero => rw [show f a = some y from hy]
    | succ k =>
      rw [show f a = none from h 0 (by simp) (Nat.succ_pos _)]
      exact ih (k := k) (by simpa using hk) (fun j hj hjk => h (j + 1) (by simpa using hj) (by omega)) hy
/-- The vertices that may follow. -/
def nxtL (n : Nat) (E : Nat → Nat → Bool) (P : List Nat) : List Nat := (List.range n).filter (onL E P)
theorem lpF_list (n : Nat) (E : Nat → Nat → Bool) (r : Nat) (P : List Nat) : lpF n E (r + 1) P = (nxtL n E P).findSome? fun v => lpF n E r (P ++ [v]) := findSome_filter _ _ _
theorem lpF_at {n : Nat} {E : Nat → Nat → Bool} {r : Nat} {P : List Nat} {k : Nat} (hk : k < (nxtL n E P).length) (h : ∀ j (hj : j < (nxtL n E P).length), j < k → lpF n E r (P ++ [(nxtL n E P)[j]]) = none) {L : List Nat} (hL : lpF n E r (P ++ [(nxtL n E P)[k]]) = some L) : lpF n E (r + 1) P = some L := by
  rw [lpF_list]; exact findSome_at hk h hL
theorem lpF_end {n : Nat} {E : Nat → Nat → Bool} {r : Nat} {P : List Nat} (h : ∀ j (hj : j < (nxtL n E P).length), lpF n E r (P ++ [(nxtL n E P)[j]]) = none) : lpF n E (r + 1) P = none := by
  rw [lpF_list, List.findSome?_eq_none_iff]
  intro x hx
  obtain ⟨j, hj, rfl⟩ := List.mem_iff_getElem.1 hx
  exact h j hj
theorem nxt_bits {n a us : Nat} {E : Nat → Nat → Bool} {P : List Nat} (hn : n ≤ 16) (ha : a < 65536) (hb : ∀ j, a.testBit j = (decide (j < n) && E (P.getLastD 0) j)) (hus : us = mask (natInts P)) (hu : us < 65536) : bitsOf (sub a us) = nxtL n E P := by
  refine rising_ext _ _ (bitsOf_rising _) (List.Pairwise.filter _ List.pairwise_lt_range) fun x => ?_
  rw [mem_bitsOf' (sub_lt32 _ _ (by omega)), testBit_sub _ _ (by omega) (by omega), hb x, hus, bit_natMaskLp]
  unfold nxtL onL
  simp only [List.mem_filter, List.mem_range, Bool.and_eq_true, decide_eq_true_eq, Bool.not_eq_true', decide_eq_false_iff_not, and_assoc]
theorem nxt_mem {n : Nat} {E : Nat → Nat → Bool} {P : List Nat} {v : Nat} (h : v ∈ nxtL n E P) : v < n ∧ E (P.getLastD 0) v = true ∧ v ∉ P := by
  unfold nxtL onL at h
  simpa [List.mem_filter] using h
/-- What is too far from the first vertex is passed over. -/
theorem lp_far {n : Nat} {E : Nat → Nat → Bool} (hs : ∀ x y, E x y = true → E y x = true) {S : Nat → Prop} (hS : S = fun x => x < n) {P : List Nat} {v r : Nat} {d : Int} (hP : P ≠ []) (hn : P.Nodup) (hc : Chn E P) (hPn : ∀ x ∈ P, x < n) (hv : v ∈ nxtL n E P) (hd : IsD E S (P.headD 0) v d) (h : d < 0 ∨ (r + 1 : Int) < d) : lpF n E r (P ++ [v]) = none := by
  obtain ⟨hvn, hE, hvP⟩ := nxt_mem hv
  subst hS
  have hnd : (P ++ [v]).Nodup := List.nodup_append.2 ⟨hn, by simp, fun a ha b hb => by rw [List.mem_singleton] at hb; subst hb; exact fun e => hvP (e ▸ ha)⟩
  have hch : Chn E (P ++ [v]) := (chn_snoc P v).2 ⟨hc, .inr hE⟩
  cases hr : lpF n E r (P ++ [v]) with
  | none => rfl
  | some L =>
    obtain ⟨u, _, hul, hcmp, _⟩ := (lpF_spec r (P ++ [v]) (by simp) hnd hch).1 L hr
    have hlw := cmp_near hs hP hPn hvn hcmp
    rw [hul] at hlw
    rcases hd with ⟨_, hd⟩ | ⟨m, hm, _, hd⟩
    · exact absurd hlw (hd _)
    · have : ¬ r + 1 < m := fun hlt => hd _ hlt hlw
      omega

end Go.Proofs.YtkppbmfliejnmaaDoor

/- Walk: the program's distances. -/
namespace Go.Proofs.YtkppbmfliejnmaaDoor
open Go.RowKit

theorem own_set {w : World} {kb n : Nat} {D : List Int} (h : w.ownsRow kb 3 1 (.slice (some ⟨kb, 0, none⟩) n n) n (D.map (Value.int .i64))) (u : Nat) (f : Int) : (w.setCell ⟨kb, u, none⟩ (.int .i64 f)).ownsRow kb 3 1 (.slice (some ⟨kb, 0, none⟩) n n) n ((D.set u f).map (Value.int .i64)) := by
  have := (h.stored u (.int .i64 f)).1
  rwa [← List.map_set] at this
theorem own_at {w : World} {kb n : Nat} {D : List Int} (h : w.ownsRow kb 3 1 (.slice (some ⟨kb, 0, none⟩) n n) n (D.map (Value.int .i64))) (hD : D.length = n) {u : Nat} (hu : u < n) : w.cell? ⟨kb, u, none⟩ = some (.int .i64 (D.getD u 0)) := by
  rw [h.cellAt u (by omega), List.getElem?_map, List.getElem?_eq_getElem (by omega), List.getD_eq_getElem?_getD, List.getElem?_eq_getElem (by omega)]
  rfl
set_option maxRecDepth 100000 in
set_option maxHeartbeats 4000000 in
theorem distances_any (x : Value) (z y : Int) (n v W : Nat) (E : Nat → Nat → Bool) (hz : z = v) (hy : y = W) (hn16 : n ≤ 16) (hE : ∀ x y, E x y = true → y < n) (hW16 : W < 65536) (hWn : ∀ u, W.testBit u = true → u < n) (hv : W.testBit v = true) (w : World) (hx : NE w x n E) (hT : Tab w) :
    Calls Tryd.prog 213 #[x, .int .i64 z, .int .u32 y] w fun e w' => ∃ (kb : Nat) (D : List Int), e = .returned (.slice (some ⟨kb, 0, none⟩) n n) ∧ w.heap.size ≤ kb ∧ w'.ownsRow kb 3 1 (.slice (some ⟨kb, 0, none⟩) n n) n (D.map (Value.int .i64)) ∧ D.length = n ∧ (∀ u, u < n → IsD E (inW W) v u (D.getD u 0) ∧ -1 ≤ D.getD u 0 ∧ D.getD u 0 ≤ 40) ∧ Below w.heap.size w w' := by
  subst hz; subst hy
  obtain ⟨hp, hc, rfl⟩ : ∃ p c, x = .slice p n c := by obtain ⟨p, c, e, _⟩ := hx.sl; exact ⟨p, c, e⟩
  have hvn := hWn v hv
  have HNE := Lib.hid hx
  have HT := Lib.hid hT
  have HE := Lib.hid hE
  have HWN := Lib.hid hWn
  have HV : Hid (inW W v) := Lib.hid hv
  have HST := Lib.hid (LyI.start (E := E) hv hvn hn16)
  clear hx hT hE hWn hv
  go_enter Tryd.func213, Tryd.ntmps213
  go_upto_region 2 with (at_make; refine wpList_mk ty_int rfl rfl rfl n rfl rfl (by rfl) (by rfl) (by omega) ?_; intro w1 hown1 hg1)
  obtain ⟨kb, hkb⟩ : ∃ kb, kb = w.heap.size := ⟨_, rfl⟩
  have HB1 : Hid (Below w.heap.size w w1) := Lib.hid (grown_below hg1)
  have HO1 : Hid (w1.ownsRow kb 3 1 (.slice (some ⟨kb, 0, none⟩) n n) n ((List.replicate 0 (-1 : Int) ++ List.replicate (n - 0) 0).map (Value.int .i64))) := Lib.hid (by
    have e : (List.replicate 0 (-1 : Int) ++ List.replicate (n - 0) 0).map (Value.int .i64) = List.replicate n (Value.int .i64 0) := by simp
    rw [e, hkb]; exact hown1)
  have HKB : Hid (w.heap.size ≤ kb) := Lib.hid (by omega)
  rw [← hkb]
  clear hown1 hg1 hkb
  go_wp2_with fail
  go_loopw [22] (fun iv wr => ∃ k : Nat, k ≤ n ∧ iv = .int .i64 (k : Int) ∧ Hid (wr.ownsRow kb 3 1 (.slice (some ⟨kb, 0, none⟩) n n) n ((List.replicate k (-1 : Int) ++ List.replicate (n - k) 0).map (Value.int .i64))) ∧ Hid (Below w.heap.size w wr)) (fun iv _ => n - (intOf iv).toNat)
  case atStart => exact ⟨0, Nat.zero_le _, rfl, HO1, HB1⟩
  case round =>
    clear HO1 HB1
    obtain ⟨k, hk, rfl, HO, HB⟩ := hrel
    by_cases hlt : k < n
    · have hki : (k : Int) < (n : Int) := by omega
      have hk0 : (0 : Int) ≤ (k : Int) := by omega
      have hck := own_at HO.out (by simp; omega) hlt
      have hfk := HO.out.frozenAt k
      have HS : Hid ((wr.setCell ⟨kb, k, none⟩ (.int .i64 (-1))).ownsRow kb 3 1 (.slice (some ⟨kb, 0, none⟩) n n) n ((List.replicate (k + 1) (-1 : Int) ++ List.replicate (n - (k + 1)) 0).map (Value.int .i64))) := Lib.hid (by
        have h := own_set HO.out k (-1)
        have e : (List.replicate k (-1 : Int) ++ List.replicate (n - k) 0).set k (-1) = List.replicate (k + 1) (-1 : Int) ++ List.replicate (n - (k + 1)) 0 := by
          rw [List.set_append_right _ _ (by simp)]
          obtain ⟨d, hd⟩ : ∃ d, n - k = d + 1 := ⟨n - k - 1, by omega⟩
          rw [hd, List.replicate_succ, show n - (k + 1) = d by omega, List.replicate_succ']
          simp
        rwa [e] at h)
      have HBS : Hid (Below w.heap.size w (wr.setCell ⟨kb, k, none⟩ (.int .i64 (-1)))) := Lib.hid (HB.out.setCell (p := ⟨kb, k, none⟩) HKB.out _)
      generalize (List.replicate k (-1 : Int) ++ List.replicate (n - k) 0).getD k 0 = old at hck
      go_wp2_with fail
      go_roundw
      case rel => exact ⟨k + 1, by omega, by go_num, HS, HBS⟩
      case measure => simp [intOf]; omega
    · obtain rfl : k = n := by omega
      have HO2 : Hid (wr.ownsRow kb 3 1 (.slice (some ⟨kb, 0, none⟩) k k) k ((List.replicate k (-1 : Int)).map (Value.int .i64))) := Lib.hid (by
        have h := HO.out
        rwa [Nat.sub_self, List.replicate_zero, List.append_nil] at h)
      have hcv := own_at HO2.out (by simp) hvn
      have hfv := HO2.out.frozenAt v
      have HO3 := Lib.hid (own_set HO2.out v 0)
      have HB3 : Hid (Below w.heap.size w (wr.setCell ⟨kb, v, none⟩ (.int .i64 0))) := Lib.hid (HB.out.setCell (p := ⟨kb, v, none⟩) HKB.out _)
      have hvi : (v : Int) < (k : Int) := by omega
      have hv0 : (0 : Int) ≤ (v : Int) := by omega
      have PONE : Hid (∀ w, Calls Tryd.prog 156 #[.int .i64 (v : Int)] w fun e w' => e = .returned (.int .u32 ((2 ^ v : Nat) : Int)) ∧ w = w') := Lib.hid (fun w => one_any (v : Int) v rfl (by omega) w)
      obtain ⟨pv, hpv⟩ : ∃ pv, pv = 2 ^ v := ⟨_, rfl⟩
      rw [← hpv] at PONE HST
      generalize (List.replicate k (-1 : Int)).getD v 0 = old at hcv
      clear HO HB hpv
      go_upto_region 8 with fail
      obtain ⟨w3, hw3⟩ : ∃ w3, w3 = wr.setCell ⟨kb, v, none⟩ (.int .i64 0) := ⟨_, rfl⟩
      rw [← hw3] at HO3 HB3 ⊢
      clear hw3 hcv hfv HO2
      go_wp2_with (go_at_call 156; refine (PONE.out _).mono ?_; rintro e w4 ⟨rfl, rfl⟩)
      go_loopw [9, 10, 11] (fun fv lv sv wr => ∃ (g lay seen : Nat) (D : List Int), fv = .int .i64 ((g : Int) + 1) ∧ lv = .int .u32 (lay : Int) ∧ sv = .int .u32 (seen : Int) ∧ Hid (LyI E W k v g lay seen D) ∧ Hid (wr.ownsRow kb 3 1 (.slice (some ⟨kb, 0, none⟩) k k) k (D.map (Value.int .i64))) ∧ Hid (Below w.heap.size w wr))
        (fun _ lv sv _ => 2 * (40 - (bitsOf (intOf sv).toNat).length) + (if (intOf lv) = 0 then 0 else 1))
      case atStart => exact ⟨0, _, _, _, by first | rfl | go_num, rfl, rfl, HST, HO3, HB3⟩
      case round =>
        clear HST HO3 HB3
        obtain ⟨g, lay, seen, D, rfl, rfl, rfl, HL, HO, HB⟩ := hrel
        by_cases h0 : lay = 0
        · subst h0
          go_wp2_with fail
          go_ret
          exact ⟨kb, D, rfl, HKB.out, HO.out, HL.out.len, fun u hu => HL.out.stop HV.out hu, HB.out⟩
        · have hne : ((lay : Int) != 0) = true := by simp; omega
          have hz : ((lay : Int) == 0) = false := beq_eq_false_iff_ne.2 (by omega)
          have hl16 := HL.out.l16
          have hs16 := HL.out.s16
          have HB32 : Hid ((bitsOf seen).length ≤ 32) := Lib.hid (bitsOf_length seen)
          have hgb : g ≤ 32 := Nat.le_trans HL.out.cnt HB32.out
          have HTr := Lib.hid (HT.out.keep HB.out)
          have HNr := Lib.hid (HNE.out.next HB.out)
          have H0 := Lib.hid h0
          clear h0
          go_upto_region 12 with fail
          clear hne hz
          go_upto_region 13 with (go_at_call 180; refine (list_any _ lay rfl (by omega) _ HTr.out).mono ?_; rintro e w5 ⟨lv, rfl, hown5, hb5⟩; have hnl := Nums.of_owns hown5 (natInts_length _).symm (by have := bitsOf_length lay; omega); obtain ⟨lp, lc, rfl, _, _, _, hat⟩ := hnl.shape; rw [natInts_length])
          have HAT := Lib.hid hat
          have HN5 := Lib.hid (HNr.out.next hb5)
          have HO5 := Lib.hid (ownsRow_below HO.out hb5)
          have HB5 := Lib.hid (HB.out.trans (hb5.mono HB.out.size))
          clear hb5 hown5 hnl hat HO HNr HTr
          obtain ⟨L, hL⟩ : ∃ L, L = bitsOf lay := ⟨_, rfl⟩
          have hL16 : L.length ≤ 32 := by rw [hL]; exact bitsOf_length lay
          rw [← hL] at HAT ⊢
          have HLE := Lib.hid hL
          have HLN : Hid (∀ u, lay.testBit u = true → u < k) := Lib.hid fun u hu => HWN.out u (((HL.out.lyy u).1 hu).1.lst)
          clear hL
          go_wp2_with fail
          go_loopw [12, 43] (fun qv iv wr => ∃ (i q : Nat), i ≤ L.length ∧ iv = .int .i64 i ∧ qv = .int .u32 (q : Int) ∧ Hid (NgL E (L.take i) q) ∧ wr = w5) (fun _ iv _ => L.length - (intOf iv).toNat)
          case atStart => exact ⟨0, 0, Nat.zero_le _, rfl, rfl, Lib.hid (NgL.zero E), rfl⟩
          case round =>
            obtain ⟨i, q, hi, rfl, rfl, HQ, rfl⟩ := hrel
            by_cases hlk : i < L.length
            · obtain ⟨u, hu⟩ : ∃ u : Nat, u = L[i] := ⟨_, rfl⟩
              have hun : u < k := HLN.out u ((mem_left hl16).1 (by rw [← HLE.out, hu]; exact List.getElem_mem hlk))
              have hjl : i < (natInts L).length := by rw [natInts_length]; exact hlk
              obtain ⟨lb, lo, rfl, hcl⟩ := HAT.out.num hjl
              have hval : (natInts L)[i] = (u : Int) := by rw [hu]; simp [natInts]
              rw [hval] at hcl
              obtain ⟨ab, ao, av, rfl, hca, ha16, hbit⟩ := HN5.out.get hun
              have hq16 := HQ.out.1
              have hor := u32_or_nat q av (by omega) (by omega)
              have HQ2 : Hid (NgL E (L.take (i + 1)) (q ||| av)) := Lib.hid (by
                have e : L.take (i + 1) = L.take i ++ [L[i]] := by rw [List.take_succ_eq_append_getElem hlk]
                rw [e, ← hu]
                exact HQ.out.snoc ha16 hbit (HE.out u))
              have e0 : (0 : Int) ≤ (u : Int) := by omega
              have e1 : (u : Int) < (k : Int) := by omega
              clear hval hu hbit ha16
              generalize q ||| av = q2 at hor HQ2
              go_wp2_with fail
              go_roundw
              case rel => exact ⟨i + 1, q2, by omega, by go_num, rfl, HQ2, by first | trivial | rfl⟩
              case measure => simp [intOf]; omega
            · obtain rfl : i = L.length := by omega
              have HQ2 : Hid (NgL E (bitsOf lay) q) := Lib.hid (by have := HQ.out; rwa [List.take_length, HLE.out] at this)
              have hq16 := HQ.out.1
              obtain ⟨l2, hl2⟩ : ∃ l2, l2 = sub (q &&& W) seen := ⟨_, rfl⟩
              obtain ⟨hst, hgr⟩ := HL.out.step H0.out hn16 HE.out HV.out HWN.out HQ2.out hl2
              have hand1 := u32_and_nat q W (by omega) (by omega)
              have hqw : q &&& W < 65536 := Nat.lt_of_le_of_lt Nat.and_le_left hq16
              have hand2 : bits BinOp.andNot IntKind.u32 ((q &&& W : Nat) : Int) (seen : Int) = (l2 : Int) := by rw [hl2]; exact u32_andNot_nat (q &&& W) seen (by omega) (by omega)
              have hl216 := hst.l16
              have hor := u32_or_nat seen l2 (by omega) (by omega)
              obtain ⟨s2, hs2⟩ : ∃ s2, s2 = seen ||| l2 := ⟨_, rfl⟩
              rw [← hs2] at hor hst hgr
              have HST2 := Lib.hid hst
              have HGR := Lib.hid hgr
              clear hst hgr hl2 hs2 HAT HQ
              generalize q &&& W = qw at hand1 hand2 hqw
              have HT5 := Lib.hid (HT.out.keep HB5.out)
              go_upto_region 20 with (go_at_call 180; refine (list_any _ l2 rfl (by omega) _ HT5.out).mono ?_; rintro e w6 ⟨mv, rfl, hown6, hb6⟩; have hnm := Nums.of_owns hown6 (natInts_length _).symm (by have := bitsOf_length l2; omega); obtain ⟨mp, mc, rfl, _, _, _, hat⟩ := hnm.shape; rw [natInts_length])
              have HO6 := Lib.hid (ownsRow_below HO5.out hb6)
              have HB6 := Lib.hid (HB5.out.trans (hb6.mono HB5.out.size))
              have hkw : kb < w6.heap.size := (HO6.out.lt kb rfl).2
              have HOM : Hid (∃ base, kb < base ∧ w6.ownsRow base 3 1 (.slice mp (bitsOf l2).length mc) (bitsOf l2).length ((natInts (bitsOf l2)).map (Value.int .i64))) := Lib.hid ⟨_, (HO5.out.lt kb rfl).2, by rw [natInts_length] at hown6; exact hown6⟩
              clear hb6 hown6 hnm hat hand1 hand2 hor HO5
              obtain ⟨M, hM⟩ : ∃ M, M = bitsOf l2 := ⟨_, rfl⟩
              have hM32 : M.length ≤ 32 := by rw [hM]; exact bitsOf_length l2
              have HME := Lib.hid hM
              rw [← hM] at HOM HST2 ⊢
              have HMN : Hid (∀ u ∈ M, u < k) := Lib.hid fun u hu => HWN.out u (((HST2.out.lyy u).1 ((mem_left hl216).1 (by rw [← HME.out]; exact hu))).1.lst)
              clear hM
              go_wp2_with fail
              obtain ⟨base, hkbase, hom⟩ := HOM.out
              have HOM := Lib.hid hom
              clear hom hkw
              go_loopw [65] (fun iv wr => ∃ j : Nat, j ≤ M.length ∧ iv = .int .i64 (j : Int) ∧ Hid (wr.ownsRow kb 3 1 (.slice (some ⟨kb, 0, none⟩) k k) k ((setL D ((g : Int) + 1) (M.take j)).map (Value.int .i64))) ∧ Hid (wr.ownsRow base 3 1 (.slice mp M.length mc) M.length ((natInts M).map (Value.int .i64))) ∧ Hid (Below w.heap.size w wr)) (fun iv _ => M.length - (intOf iv).toNat)
              case atStart => exact ⟨0, Nat.zero_le _, rfl, Lib.hid (by rw [List.take_zero]; exact HO6.out), HOM, HB6⟩
              case round =>
                clear HOM HO6 HB6
                obtain ⟨j, hj, rfl, HOJ, HMJ, HBJ⟩ := hrel
                by_cases hjm : j < M.length
                · obtain ⟨u, hu⟩ : ∃ u : Nat, u = M[j] := ⟨_, rfl⟩
                  have hun : u < k := HMN.out u (by rw [hu]; exact List.getElem_mem hjm)
                  have hjl : j < (natInts M).length := by rw [natInts_length]; exact hjm
                  have hnums : Nums wr 3 .i64 (.slice mp M.length mc) (natInts M) := Nums.of_owns HMJ.out (natInts_length _).symm (by omega)
                  rw [show Value.slice mp M.length mc = .slice mp M.length mc from rfl] at hnums
                  obtain ⟨lb, lo, rfl, hcl⟩ := hnums.get hjl
                  have hval : (natInts M)[j] = (u : Int) := by rw [hu]; simp [natInts]
                  rw [hval] at hcl
                  have hcu := own_at HOJ.out (by rw [setL_length]; exact HL.out.len) hun
                  have hfu := HOJ.out.frozenAt u
                  have HOS : Hid ((wr.setCell ⟨kb, u, none⟩ (.int .i64 ((g : Int) + 1))).ownsRow kb 3 1 (.slice (some ⟨kb, 0, none⟩) k k) k ((setL D ((g : Int) + 1) (M.take (j + 1))).map (Value.int .i64))) := Lib.hid (by
                    have h := own_set HOJ.out u ((g : Int) + 1)
                    have e : M.take (j + 1) = M.take j ++ [u] := by rw [List.take_succ_eq_append_getElem hjm, hu]
                    rw [e, setL_snoc]
                    exact h)
                  have HMS : Hid ((wr.setCell ⟨kb, u, none⟩ (.int .i64 ((g : Int) + 1))).ownsRow base 3 1 (.slice (some ⟨lb, lo, none⟩) M.length mc) M.length ((natInts M).map (Value.int .i64))) := Lib.hid (ownsRow_setCell_other HMJ.out (a := ⟨kb, u, none⟩) (fun e => by have := (HMJ.out.lt kb e).1; omega) _)
                  have HBS : Hid (Below w.heap.size w (wr.setCell ⟨kb, u, none⟩ (.int .i64 ((g : Int) + 1)))) := Lib.hid (HBJ.out.setCell (p := ⟨kb, u, none⟩) HKB.out _)
                  have hui : (u : Int) < (k : Int) := by omega
                  have hu0 : (0 : Int) ≤ (u : Int) := by omega
                  generalize (setL D ((g : Int) + 1) (M.take j)).getD u 0 = old at hcu
                  clear hval hu hnums
                  go_wp2_with fail
                  go_roundw
                  case rel => exact ⟨j + 1, by omega, by go_num, HOS, HMS, HBS⟩
                  case measure => simp [intOf]; omega
                · obtain rfl : j = M.length := by omega
                  have HOE : Hid (wr.ownsRow kb 3 1 (.slice (some ⟨kb, 0, none⟩) k k) k ((setL D ((g : Int) + 1) M).map (Value.int .i64))) := Lib.hid (by have := HOJ.out; rwa [List.take_length] at this)
                  go_wp2_with fail
                  go_roundw
                  case rel => exact ⟨g + 1, l2, s2, _, by first | go_num | (congr 1; omega), rfl, rfl, HST2, HOE, HBJ⟩
                  case measure =>
                    have h1 := HB32.out
                    have h2 := bitsOf_length s2
                    have h3 := H0.out
                    have h4 : ¬ (lay : Int) = 0 := by omega
                    by_cases h5 : l2 = 0
                    · subst h5
                      have h6 := HGR.out.2
                      simp [intOf, h4, h3]
                      omega
                    · have h6 := HGR.out.1 h5
                      simp [intOf, h4, h3, h5]
                      omega

end Go.Proofs.YtkppbmfliejnmaaDoor
