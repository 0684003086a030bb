/- Walks: the reference's draws: graphs whose rows are the callee's own (l1Empty, l6Of, PathGraph, LoopGraph). -/
import Derived.Test.YtfokiijcpkhllaaDoorFuQ12
import Derived.Test.YtfokiijcpkhllaaDoorFuQ6
import Derived.Test.YtfokiijcpkhllaaDoorFuQ15
import Derived.Test.YtfokiijcpkhllaaDoorFuQ7
namespace Go.Proofs.YtfokiijcpkhllaaDoor
open Go.RowKit

set_option maxRecDepth 100000 in
set_option maxHeartbeats 2000000 in
theorem l1EmptyD_any (z : Int) (n : Nat) (hz : z = n) (hn : n ≤ 1000) (w : World) :
    Calls Tryd.prog 102 #[.int .i64 z] w fun e w' => ∃ u, e = .returned u ∧ DG w' w.heap.size u (List.replicate n []) ∧ Below w.heap.size w w' := by
  subst hz
  have START := Lib.hid (two_boxes w)
  go_enter Tryd.func102, Tryd.ntmps102
  go_wp2
  go_loopw [4] (fun i wr => ∃ (k : Nat) (ov : Value) (vals : List Value), k ≤ n ∧ i = .int .i64 k ∧ Below w.heap.size w wr ∧ w.heap.size + 2 ≤ wr.heap.size ∧
      Box wr w.heap.size 29 (.slice none 0 0) ∧ Box wr (w.heap.size + 1) 29 ov ∧ wr.ownsRow (w.heap.size + 2) 32 1 ov k vals ∧ vals.length = k ∧ Dis wr (w.heap.size + 2) k vals (List.replicate n []))
    (fun i _ => n - (intOf i).toNat)
  case atStart =>
    obtain ⟨W, rfl, h1, h2, h3, h4⟩ := START.out
    exact ⟨0, _, [], Nat.zero_le _, rfl, h1, by omega, h3, h4, World.ownsRow_nil _ _ _ _, rfl, ⟨fun j hj => by omega, fun i j hi => by omega⟩⟩
  case round =>
    obtain ⟨k, ov, vals, hk, rfl, hbel, hsz, hb2, hb3, hown, hvl, hrows⟩ := hrel
    have Hvl := Lib.hid hvl
    have Hrows := Lib.hid hrows
    have Hb2 := Lib.hid hb2
    have Hb3 := Lib.hid hb3
    have Hown := Lib.hid hown
    clear hvl hrows hb3 hb2 hown
    by_cases hlt : k < n
    · have hba := Lib.hid (below_alloc wr (.cells #[] 2))
      have hownc := ownsRow_below Hown.out hba.out
      obtain ⟨c3, f3, _, _⟩ := Hb3.out
      have hob := fun o => (below_alloc2 wr (.cells #[] 2) o).at' c3
      go_wp2_with (at_builtin; refine wpList_app1s ty_rows rfl rfl rfl hownc (by rw [size_alloc]; rfl) rfl (by omega) (by rw [size_alloc]; omega) ?_; intro b7 c8 w7 hown7 hg7 _; have hb7 := below_grown (Below.refl (w.heap.size + 2) (wr.alloc (.cells #[] 2))) hownc hg7 (Nat.le_refl _) (by rw [size_alloc]; omega); have hob7 := hb7.at (by omega) ((below_alloc wr (.cells #[] 2)).at' c3); have hof7 := (hb7.frozen (p := ⟨w.heap.size + 1, 0, none⟩) (by show w.heap.size + 1 < _; omega)).trans (((below_alloc wr (.cells #[] 2)).frozen (p := ⟨w.heap.size + 1, 0, none⟩) (by show w.heap.size + 1 < _; omega)).trans f3))
      go_roundw
      case rel =>
        obtain ⟨W, rfl, r1, r2, r3, r4, r5, r6⟩ := box_step hbel hsz hba.out Hb2.out Hb3.out Hown.out hown7 hg7
        refine ⟨k + 1, _, _, by omega, by go_num, r1, r2, r3, r4, r5, by simp [Hvl.out], ?_⟩
        have hd : Dis (wr.alloc (.cells #[] 2)) (w.heap.size + 2) k vals (List.replicate n []) := ⟨fun j hj => ownsRow_below (Hrows.out.rows j hj) hba.out, Hrows.out.dis⟩
        refine hd.snoc Hvl.out r6 (B := wr.heap.size) (by omega) (fun j hj b hb => ((Hrows.out.rows j hj).lt b hb).2) ?_
        rw [show row (List.replicate n ([] : List Int)) k = [] by simp [row, hlt]]
        exact ownsRow_empty _ _ _
      case measure => simp [intOf]; omega
    · obtain rfl : k = n := by omega
      obtain ⟨k2c, k2f, _⟩ := Hb2.out
      obtain ⟨k3c, k3f, _⟩ := Hb3.out
      obtain ⟨p9, c9, rfl⟩ : ∃ p c, ov = .slice p k c := by
        rcases Hown.out.2 with ⟨h1, h2⟩ | ⟨g1, cap, cur, h1, _⟩
        · exact ⟨none, 0, by rw [h1, h2]⟩
        · exact ⟨_, _, h1⟩
      go_wp2
      refine bodyPost_ret (v := .agg #[.slice p9 k c9]) (by simp [results, Tryd.results102, go_sem, k2c]) rfl ⟨_, rfl, ⟨_, vals, rfl, by simpa using Hvl.out, ?_, ⟨fun j hj => ?_, fun i j hi hj => Hrows.out.dis i j (by simpa using hi) (by simpa using hj)⟩⟩, ?_⟩
      · rw [List.length_replicate]; exact ownsRow_base (ownsRow_setBox Hown.out Hb2.out (by decide) (.slice p9 k c9)) (by omega)
      · rw [List.length_replicate] at hj
        exact ownsRow_base (ownsRow_setBox (Hrows.out.rows j hj) Hb2.out (by decide) _) (by omega)
      · exact hbel.setCell (by show w.heap.size ≤ w.heap.size; omega) _


theorem DG.lt {w : World} {base : Nat} {u : Value} {g : List (List Int)} (h : DG w base (.agg #[u]) g) : ∀ k, u.ownBlock = some k → base ≤ k ∧ k < w.heap.size := by
  obtain ⟨u', vals, e, _, h3, _⟩ := h
  cases e
  exact fun k hk => h3.lt k hk
/-- A boxed graph whose rows are the callee's own. -/
structure LdI (W0 wr : World) (base b5 : Nat) (p : Option Addr) (c m : Nat) (gg : List (List Int)) : Prop where
  dg : DG wr base (.agg #[.slice p m c]) gg
  bel : Below W0.heap.size W0 wr
  box : Box wr b5 29 (.slice p m c)
  own : ∀ k, (Value.slice p m c).ownBlock = some k → base ≤ k ∧ k < b5
  hb : W0.heap.size ≤ base
  b5 : base ≤ b5
theorem LdI.next {W0 wr wx : World} {base b5 : Nat} {p : Option Addr} {c m : Nat} {gg : List (List Int)} (h : LdI W0 wr base b5 p c m gg) (hb : Below wr.heap.size wr wx) : LdI W0 wx base b5 p c m gg :=
  ⟨h.dg.below hb, h.bel.trans (hb.mono h.bel.size), h.box.keep hb, h.own, h.hb, h.b5⟩
theorem LdI.link {W0 wr w2 : World} {base b5 : Nat} {p : Option Addr} {c m : Nat} {gg gg' : List (List Int)} (h : LdI W0 wr base b5 p c m gg) (hs : DG w2 base (.agg #[.slice p m c]) gg') (hg : wr.grownBy w2 (Value.slice p m c).ownBlock) :
    LdI W0 (w2.setCell ⟨b5, 0, none⟩ (.slice p m c)) base b5 p c m gg' := by
  have hbox := h.box.grown hg (fun e => by have := (h.own b5 e.symm).2; omega)
  exact ⟨hs.setBox hbox _, (h.bel.grown hg h.bel.size (fun k hk => Nat.le_trans h.hb (h.own k hk).1)).setCell (Nat.le_trans h.hb h.b5) _, hbox.set _, h.own, h.hb, h.b5⟩
/-- Neighbours follow each other. -/
def pthE (r j : Nat) : Bool := decide (r + 1 = j) || decide (j + 1 = r)
theorem pthE_symI : SymI pthE := ⟨fun r j h => by unfold pthE at *; simp at *; omega, fun r => by unfold pthE; simp⟩
def pthTo (v : Nat) : Nat → Nat → Bool := fun r j => pthE r j && decide (max r j < v)
theorem pthTo_start {m : Nat} : matG m (pthTo 1) = List.replicate m [] := matG_none m fun r j _ _ => by unfold pthTo pthE; simp; omega
theorem pthTo_step {m v : Nat} (h1 : 1 ≤ v) (hv : v < m) : linkL (matG m (pthTo v)) (v - 1) v = matG m (pthTo (v + 1)) := by
  rw [link_matG (by omega) hv (by omega)]
  refine matG_congr fun r j hr hj => ?_
  unfold pthTo pthE
  rw [Bool.eq_iff_iff]
  simp
  omega
theorem pthTo_end {m : Nat} : matG m (pthTo m) = matG m pthE := matG_congr fun r j hr hj => by
  unfold pthTo
  simp [show max r j < m by omega]
theorem not_mem_matG {m : Nat} {E : Nat → Nat → Bool} {r k : Nat} (hr : r < m) (h : E r k = false) : (k : Int) ∉ row (matG m E) r := fun hm => by
  obtain ⟨j, e, _, hE⟩ := (mem_matG hr).1 hm
  obtain rfl : j = k := by omega
  rw [h] at hE
  exact absurd hE (by decide)

set_option maxRecDepth 100000 in
set_option maxHeartbeats 4000000 in
theorem l6Of_yes (z : Int) (n : Nat) (hz : z = n) (h1 : 1 ≤ n) (hn : n ≤ 16) (w : World) :
    Calls Tryd.prog 80 #[.int .i64 z] w fun e w' => ∃ u, e = .returned (.tuple #[u, .bool true]) ∧ DG w' w.heap.size u (List.replicate n []) ∧ Below w.heap.size w w' := by
  subst hz
  have HR := Lib.hid (Box.new w (.slice none 0 0) 29)
  have HB := Lib.hid (below_alloc w (.cells #[.slice none 0 0] 29))
  have HD := Lib.hid (dec_true (show (1 : Int) ≤ (n : Int) ∧ (n : Int) ≤ 16 from ⟨by omega, by omega⟩))
  go_enter Tryd.func80, Tryd.ntmps80
  go_wp2_with (first
    | (go_at_call 102; refine (l1EmptyD_any _ n rfl (by omega) _).mono ?_; rintro e w2 ⟨u, rfl, hs2, hb2⟩; obtain ⟨gp, gc, rfl⟩ := hs2.shape; rw [List.length_replicate] at hs2 ⊢; obtain ⟨nc, nf, nl, nB⟩ := HR.out.keep hb2)
    | (go_at_call 101; refine (l1In_any _ _ _ _).mono ?_; rintro e w1 ⟨he, rfl⟩; rw [HD.out] at he; subst he))
  refine bodyPost_ret (v := .tuple #[.agg #[.slice gp n gc], .bool true]) (by simp [results, Tryd.results80, go_sem, nc]) rfl ⟨_, rfl, ?_, ?_⟩
  · exact (hs2.setBox ⟨nc, nf, nl, nB⟩ _).base HB.out.size
  · exact (HB.out.trans (hb2.mono HB.out.size)).setCell (by show w.heap.size ≤ w.heap.size; omega) _

end Go.Proofs.YtfokiijcpkhllaaDoor

/- Plain: connected sets; a search by a list that grows at its end. -/
namespace Go.Proofs.YtfokiijcpkhllaaDoor

/-- A list that is not empty and in which each is reached from the first. -/
def ConnL (E : Nat → Nat → Bool) (L : List Nat) : Prop := L ≠ [] ∧ ∀ x ∈ L, Rch E (· ∈ L) (L.headD 0) x
theorem connL_part {E : Nat → Nat → Bool} {u : Nat} {T : List Nat} : ConnL E (u :: T) ↔ partL E (u :: T) u = u :: T := by
  unfold ConnL partL
  rw [List.filter_eq_self]
  constructor
  · rintro ⟨_, h⟩ x hx
    exact dec_iff.2 (h x hx)
  · intro h
    exact ⟨by simp, fun x hx => dec_iff.1 (h x hx)⟩
theorem connL_len {E : Nat → Nat → Bool} {u : Nat} {T : List Nat} : ConnL E (u :: T) ↔ (partL E (u :: T) u).length = (u :: T).length := by
  rw [connL_part]
  constructor
  · intro h; rw [h]
  · intro h
    refine List.filter_eq_self.2 fun x hx => ?_
    exact List.length_filter_eq_length_iff.1 h x hx
theorem not_connL_nil (E : Nat → Nat → Bool) : ¬ ConnL E [] := fun h => h.1 rfl

theorem nodup_le : ∀ (n : Nat) (M : List Nat), M.Nodup → (∀ x ∈ M, x < n) → M.length ≤ n
  | 0, M, _, h => by
    cases M with
    | nil => exact Nat.le_refl _
    | cons x M => exact absurd (h x (by simp)) (Nat.not_lt_zero _)
  | n + 1, M, hn, h => by
    by_cases hm : n ∈ M
    · have h1 := List.length_erase_of_mem hm
      have h2 := nodup_le n (M.erase n) (hn.erase n) fun x hx => by
        have h3 := (List.Nodup.mem_erase_iff hn).1 hx
        have := h x h3.2
        have := h3.1
        omega
      omega
    · have := nodup_le n M hn fun x hx => by
        have := h x hx
        have : x ≠ n := fun e => hm (e ▸ hx)
        omega
      omega

/-- The search: what is met has a number that is not negative. -/
structure Bf (E : Nat → Nat → Bool) (L : List Nat) (n u : Nat) (F : List Int) (M : List Nat) : Prop where
  len : F.length = n
  nod : M.Nodup
  inn : ∀ x ∈ M, x ∈ L ∧ x < n
  rch : ∀ x ∈ M, Rch E (· ∈ L) u x
  frm : u ∈ M
  sgn : ∀ x, x < n → (0 ≤ F.getD x 0 ↔ x ∈ M)
  bnd : ∀ x, x < n → -1 ≤ F.getD x 0 ∧ F.getD x 0 < M.length
  stp : ∀ x, x < n → 0 < F.getD x 0 → ∃ y, y < n ∧ E y x = true ∧ F.getD y 0 + 1 = F.getD x 0
  zer : ∀ x, x < n → F.getD x 0 = 0 → x = u
theorem Bf.start {E : Nat → Nat → Bool} {L : List Nat} {n u : Nat} (hu : u ∈ L) (hn : u < n) : Bf E L n u ((List.replicate n (-1 : Int)).set u 0) [u] where
  len := by simp
  nod := by simp
  inn := fun x hx => by
    obtain rfl : x = u := by simpa using hx
    exact ⟨hu, hn⟩
  rch := fun x hx => by
    obtain rfl : x = u := by simpa using hx
    exact .base
  frm := by simp
  sgn := fun x hx => by
    rw [List.getD_eq_getElem?_getD, List.getElem?_set]
    by_cases e : u = x
    · subst e; simp [hn]
    · simp [e, hx, Ne.symm e]
  bnd := fun x hx => by
    rw [List.getD_eq_getElem?_getD, List.getElem?_set]
    by_cases e : u = x
    · subst e; simp [hn]
    · simp [e, hx]
  stp := fun x hx h => by
    rw [List.getD_eq_getElem?_getD, List.getElem?_set] at h
    by_cases e : u = x
    · subst e; simp [hn] at h
    · simp [e, hx] at h
  zer := fun x hx h => by
    rw [List.getD_eq_getElem?_getD, List.getElem?_set] at h
    by_cases e : u = x
    · exact e.symm
    · simp [e, hx] at h
theorem Bf.le {E : Nat → Nat → Bool} {L : List Nat} {n u : Nat} {F : List Int} {M : List Nat} (h : Bf E L n u F M) : M.length ≤ n := nodup_le n M h.nod fun x hx => (h.inn x hx).2
theorem Bf.add {E : Nat → Nat → Bool} {L : List Nat} {n u x y : Nat} {F : List Int} {M : List Nat} (h : Bf E L n u F M) (hx : x ∈ M) (hE : E x y = true) (hy : y ∈ L) (hn : y < n) (hm : y ∉ M) : Bf E L n u (F.set y (F.getD x 0 + 1)) (M ++ [y]) where
  len := by rw [List.length_set]; exact h.len
  nod := by
    rw [List.nodup_append]
    exact ⟨h.nod, by simp, fun a ha b hb => by
      obtain rfl : b = y := by simpa using hb
      exact fun e => hm (e ▸ ha)⟩
  inn := fun z hz => by
    rcases List.mem_append.1 hz with e | e
    · exact h.inn z e
    · obtain rfl : z = y := by simpa using e
      exact ⟨hy, hn⟩
  rch := fun z hz => by
    rcases List.mem_append.1 hz with e | e
    · exact h.rch z e
    · obtain rfl : z = y := by simpa using e
      exact .step (h.rch x hx) hE hy
  frm := List.mem_append_left _ h.frm
  sgn := fun z hz => by
    have hxn := (h.inn x hx).2
    have h0 := (h.sgn x hxn).2 hx
    generalize F.getD x 0 = q at h0 ⊢
    rw [List.getD_eq_getElem?_getD, List.getElem?_set]
    by_cases e : y = z
    · subst e
      simp [h.len, hn]
      omega
    · have := h.sgn z hz
      rw [List.getD_eq_getElem?_getD] at this
      simp [e, this, Ne.symm e]
  bnd := fun z hz => by
    have hxn := (h.inn x hx).2
    have h1 := h.bnd x hxn
    have h2 := h.bnd z hz
    generalize F.getD x 0 = q at h1 ⊢
    rw [List.getD_eq_getElem?_getD] at h2
    rw [List.getD_eq_getElem?_getD, List.getElem?_set, List.length_append]
    by_cases e : y = z
    · subst e
      simp [h.len, hn]
      omega
    · simp only [e, if_false]
      simp
      omega
  stp := fun z hz h0 => by
    have hxn := (h.inn x hx).2
    have hxy : x ≠ y := fun e => hm (e ▸ hx)
    have get : ∀ a, a ≠ y → (F.set y (F.getD x 0 + 1)).getD a 0 = F.getD a 0 := fun a ha => by
      rw [List.getD_eq_getElem?_getD, List.getD_eq_getElem?_getD, List.getElem?_set]
      simp [Ne.symm ha]
    by_cases e : z = y
    · subst e
      refine ⟨x, hxn, hE, ?_⟩
      rw [get x hxy, List.getD_eq_getElem?_getD (l := F.set _ _), List.getElem?_set]
      simp [h.len, hn]
    · rw [get z e] at h0 ⊢
      obtain ⟨q, h1, h2, h3⟩ := h.stp z hz h0
      refine ⟨q, h1, h2, ?_⟩
      rw [get q (fun e2 => hm (e2 ▸ (h.sgn q h1).1 (by omega)))]
      exact h3
  zer := fun z hz h0 => by
    have hxn := (h.inn x hx).2
    have h1 := (h.sgn x hxn).2 hx
    rw [List.getD_eq_getElem?_getD, List.getElem?_set] at h0
    by_cases e : y = z
    · subst e
      simp [h.len, hn] at h0
      rw [List.getD_eq_getElem?_getD] at h1
      omega
    · simp only [e, if_false] at h0
      exact h.zer z hz (by rw [List.getD_eq_getElem?_getD]; exact h0)
/-- Of the first so many met all neighbours are met. -/
def BfTo (E : Nat → Nat → Bool) (L M : List Nat) (i : Nat) : Prop := ∀ j, j < i → ∀ y, y ∈ L → E (M.getD j 0) y = true → y ∈ M
theorem BfTo.more {E : Nat → Nat → Bool} {L M : List Nat} {i y : Nat} (h : BfTo E L M i) (hi : i ≤ M.length) : BfTo E L (M ++ [y]) i := fun j hj z hz hE => by
  have e : (M ++ [y]).getD j 0 = M.getD j 0 := by simp [List.getElem?_append_left (show j < M.length by omega)]
  rw [e] at hE
  exact List.mem_append_left _ (h j hj z hz hE)
theorem Bf.done {E : Nat → Nat → Bool} {L : List Nat} {n u : Nat} {F : List Int} {M : List Nat} (h : Bf E L n u F M) (hc : BfTo E L M M.length) : ∀ x, x ∈ M ↔ x ∈ partL E L u := by
  intro x
  rw [mem_partL]
  constructor
  · intro hx
    exact ⟨(h.inn x hx).1, h.rch x hx⟩
  · rintro ⟨_, hx⟩
    refine rch_closed (T := (· ∈ M)) h.frm (fun a b ha hE hb => ?_) x hx
    obtain ⟨j, hj, e⟩ := List.getElem_of_mem ha
    exact hc j hj b hb (by have k : M.getD j 0 = a := by simp [hj, e]
                           rw [k]; exact hE)

end Go.Proofs.YtfokiijcpkhllaaDoor

/- Plain: the parts are connected, no two of them together, and all vertices are in them. -/
namespace Go.Proofs.YtfokiijcpkhllaaDoor

theorem rch_partL {E : Nat → Nat → Bool} {L : List Nat} {u : Nat} : ∀ x, Rch E (· ∈ L) u x → Rch E (· ∈ partL E L u) u x := by
  intro x h
  refine (rch_closed (T := fun x => Rch E (· ∈ L) u x ∧ Rch E (· ∈ partL E L u) u x) ⟨.base, .base⟩ (fun a b ha hE hb => ?_) x h).2
  have hb2 : Rch E (· ∈ L) u b := .step ha.1 hE hb
  exact ⟨hb2, .step ha.2 hE (mem_partL.2 ⟨hb, hb2⟩)⟩
theorem partL_head {E : Nat → Nat → Bool} {L : List Nat} {u : Nat} : partL E (u :: L) u = u :: (L.filter fun x => dec (Rch E (· ∈ u :: L) u x)) := by
  unfold partL
  exact List.filter_cons_of_pos (p := fun x => dec (Rch E (· ∈ u :: L) u x)) (dec_true .base)
theorem conn_partL {E : Nat → Nat → Bool} {L : List Nat} {u : Nat} : ConnL E (partL E (u :: L) u) := by
  have h := partL_head (E := E) (L := L) (u := u)
  refine ⟨by rw [h]; simp, fun x hx => ?_⟩
  have hh : (partL E (u :: L) u).headD 0 = u := by rw [h]; rfl
  rw [hh]
  exact rch_partL x (mem_partL.1 hx).2
theorem parts_conn {E : Nat → Nat → Bool} {L : List Nat} {ps : List (List Nat)} (h : Parts E L ps) : ∀ p ∈ ps, ConnL E p := by
  induction h with
  | done => intro p hp; simp at hp
  | step u L ps _ ih =>
    intro p hp
    rcases List.mem_cons.1 hp with rfl | hp
    · exact conn_partL
    · exact ih p hp
theorem parts_in {E : Nat → Nat → Bool} {L : List Nat} {ps : List (List Nat)} (h : Parts E L ps) : ∀ p ∈ ps, ∀ x ∈ p, x ∈ L := by
  induction h with
  | done => intro p hp; simp at hp
  | step u L ps _ ih =>
    intro p hp x hx
    rcases List.mem_cons.1 hp with rfl | hp
    · exact (mem_partL.1 hx).1
    · exact (mem_restL.1 (ih p hp x hx)).1
theorem parts_ris {E : Nat → Nat → Bool} {L : List Nat} {ps : List (List Nat)} (h : Parts E L ps) : L.Pairwise (· < ·) → ∀ p ∈ ps, p.Pairwise (· < ·) := by
  induction h with
  | done => intro _ p hp; simp at hp
  | step u L ps _ ih =>
    intro hL p hp
    rcases List.mem_cons.1 hp with rfl | hp
    · exact partL_rising hL u
    · exact ih (restL_rising hL u) p hp
/-- Between two parts there is nothing. -/
theorem parts_apart {E : Nat → Nat → Bool} {L : List Nat} {ps : List (List Nat)} (h : Parts E L ps) : ps.Pairwise fun p q => ∀ x ∈ p, ∀ y ∈ q, x ≠ y ∧ E x y = false := by
  induction h with
  | done => exact List.Pairwise.nil
  | step u L ps h1 ih =>
    refine List.Pairwise.cons (fun q hq x hx y hy => ?_) ih
    have hx2 := mem_partL.1 hx
    have hy2 := mem_restL.1 (parts_in h1 q hq y hy)
    refine ⟨fun e => hy2.2 (e ▸ hx2.2), ?_⟩
    cases hE : E x y with
    | false => rfl
    | true => exact absurd (.step hx2.2 hE hy2.1) hy2.2
theorem filter_not_len {α : Type} (p : α → Bool) : ∀ l : List α, (l.filter p).length + (l.filter fun x => !p x).length = l.length
  | [] => rfl
  | a :: l => by
    have ih := filter_not_len p l
    cases h : p a <;> simp [List.filter_cons, h] <;> omega
theorem parts_total {E : Nat → Nat → Bool} {L : List Nat} {ps : List (List Nat)} (h : Parts E L ps) : (ps.map List.length).sum = L.length := by
  induction h with
  | done => rfl
  | step u L ps _ ih =>
    have := filter_not_len (fun x => dec (Rch E (· ∈ u :: L) u x)) (u :: L)
    simp only [List.map_cons, List.sum_cons, ih]
    exact this
/-- Two sets without an edge between them are not connected together. -/
theorem not_conn_two {E : Nat → Nat → Bool} (hs : ∀ r j, E r j = true → E j r = true) {p q S : List Nat} (hp : p ≠ []) (hq : q ≠ []) (hS : ∀ x, x ∈ S ↔ x ∈ p ∨ x ∈ q) (h : ∀ x ∈ p, ∀ y ∈ q, x ≠ y ∧ E x y = false) : ¬ ConnL E S := by
  rintro ⟨hne, hr⟩
  have key : ∀ p q : List Nat, q ≠ [] → (∀ x, x ∈ S ↔ x ∈ p ∨ x ∈ q) → (∀ x ∈ p, ∀ y ∈ q, x ≠ y ∧ E x y = false) → S.headD 0 ∈ p → False := by
    intro p q hq hS h h0
    have hcl : ∀ x, Rch E (· ∈ S) (S.headD 0) x → x ∈ p := rch_closed h0 fun a b ha hE hb => by
      rcases (hS b).1 hb with h1 | h1
      · exact h1
      · have := (h a ha b h1).2
        rw [this] at hE
        exact absurd hE (by decide)
    obtain ⟨y, hy⟩ := List.exists_mem_of_ne_nil q hq
    have := hcl y (hr y ((hS y).2 (.inr hy)))
    exact (h y this y hy).1 rfl
  have hh : S.headD 0 ∈ S := by
    cases S with
    | nil => exact absurd rfl hne
    | cons a S => simp
  rcases (hS _).1 hh with h1 | h1
  · exact key p q hq hS h h1
  · refine key q p hp (fun x => (hS x).trans Or.comm) (fun x hx y hy => ?_) h1
    have := h y hy x hx
    refine ⟨fun e => this.1 e.symm, ?_⟩
    cases hE : E x y with
    | false => rfl
    | true =>
      have h2 := hs _ _ hE
      rw [this.2] at h2
      exact absurd h2 (by decide)

end Go.Proofs.YtfokiijcpkhllaaDoor

/- Plain: degrees; a trail along all edges; one can always go on (Fleury). -/
namespace Go.Proofs.YtfokiijcpkhllaaDoor

def degN (n : Nat) (E : Nat → Nat → Bool) (v : Nat) : Nat := (List.range n).countP (E v)
def oddV (n : Nat) (E : Nat → Nat → Bool) (v : Nat) : Prop := degN n E v % 2 = 1
theorem sum_add2 (f g : Nat → Nat) : ∀ C : List Nat, (C.map fun v => f v + g v).sum = (C.map f).sum + (C.map g).sum
  | [] => rfl
  | a :: C => by
    have := sum_add2 f g C
    simp only [List.map_cons, List.sum_cons, this]
    omega
theorem sum_ite (p : Nat → Bool) : ∀ C : List Nat, (C.map fun v => if p v = true then 1 else 0).sum = C.countP p
  | [] => rfl
  | a :: C => by
    have := sum_ite p C
    simp only [List.map_cons, List.sum_cons, this, List.countP_cons]
    omega
theorem deg_sum_even {E : Nat → Nat → Bool} (hs : ∀ r j, E r j = true → E j r = true) (hi : ∀ r, E r r = false) : ∀ C : List Nat, (C.map fun v => C.countP (E v)).sum % 2 = 0
  | [] => rfl
  | a :: C => by
    have ih := deg_sum_even hs hi C
    have e1 : (C.map fun v => (a :: C).countP (E v)) = C.map fun v => C.countP (E v) + (if E v a = true then 1 else 0) := by
      refine List.map_congr_left fun v _ => ?_
      rw [List.countP_cons]
    have e2 := sum_add2 (fun v => C.countP (E v)) (fun v => if E v a = true then 1 else 0) C
    have e3 := sum_ite (fun v => E v a) C
    have e4 : C.countP (fun v => E v a) = C.countP (E a) := List.countP_congr fun v _ => ⟨fun h => hs _ _ h, fun h => hs _ _ h⟩
    have e5 : (a :: C).countP (E a) = C.countP (E a) := by rw [List.countP_cons, hi a]; simp
    simp only [List.map_cons, List.sum_cons, e1, e5]
    rw [e2, e3, e4]
    omega
theorem sum_parity (d : Nat → Nat) : ∀ C : List Nat, (C.map d).sum % 2 = (C.countP fun v => d v % 2 == 1) % 2
  | [] => rfl
  | a :: C => by
    have ih := sum_parity d C
    simp only [List.map_cons, List.sum_cons, List.countP_cons]
    have h01 : d a % 2 = 0 ∨ d a % 2 = 1 := by omega
    rcases h01 with h | h
    · simp only [h]; simp; omega
    · simp only [h]; simp; omega
/-- In a closed part the odd ones are even in number. -/
theorem odd_even {n : Nat} {E : Nat → Nat → Bool} (hs : ∀ r j, E r j = true → E j r = true) (hi : ∀ r, E r r = false) (q : Nat → Bool) (hq : ∀ x y, y < n → q x = true → E x y = true → q y = true) :
    (((List.range n).filter q).countP fun v => degN n E v % 2 == 1) % 2 = 0 := by
  have h1 := deg_sum_even hs hi ((List.range n).filter q)
  have e : (((List.range n).filter q).map fun v => ((List.range n).filter q).countP (E v)) = ((List.range n).filter q).map (degN n E) := by
    refine List.map_congr_left fun v hv => ?_
    have hv2 := (List.mem_filter.1 hv).2
    rw [List.countP_filter]
    unfold degN
    refine List.countP_congr fun x hx => ?_
    have hx' : x < n := by simpa using hx
    constructor
    · intro h; exact (Bool.and_eq_true_iff.1 h).1
    · intro h; exact Bool.and_eq_true_iff.2 ⟨h, hq v x hx' hv2 h⟩
  rw [e, sum_parity] at h1
  exact h1
theorem countP_none {p : Nat → Bool} : ∀ {l : List Nat}, (∀ y ∈ l, p y = true → False) → l.countP p = 0 := fun h => List.countP_eq_zero.2 fun y hy hp => h y hy hp
theorem countP_one {p : Nat → Bool} {x : Nat} : ∀ {l : List Nat}, l.Nodup → x ∈ l → p x = true → (∀ y ∈ l, p y = true → y = x) → l.countP p = 1
  | [], _, hx, _, _ => by simp at hx
  | a :: l, hn, hx, hp, hu => by
    rw [List.countP_cons]
    rw [List.nodup_cons] at hn
    by_cases e : a = x
    · subst e
      have : l.countP p = 0 := countP_none fun y hy hpy => by
        have := hu y (by simp [hy]) hpy
        subst this
        exact hn.1 hy
      simp [this, hp]
    · have hx2 : x ∈ l := by
        rcases List.mem_cons.1 hx with h | h
        · exact absurd h.symm e
        · exact h
      have := countP_one hn.2 hx2 hp fun y hy => hu y (by simp [hy])
      have ha : ¬ p a = true := fun h => e (hu a (by simp) h)
      simp [this, ha]
theorem countP_cut {f : Nat → Bool} {q : Nat} : ∀ {l : List Nat}, l.Nodup → q ∈ l → f q = true → l.countP f = l.countP (fun j => f j && !(j == q)) + 1
  | [], _, hx, _ => by simp at hx
  | a :: l, hn, hx, hp => by
    rw [List.nodup_cons] at hn
    rw [List.countP_cons, List.countP_cons]
    by_cases e : a = q
    · subst e
      have : l.countP (fun j => f j && !(j == a)) = l.countP f := List.countP_congr fun y hy => by
        have : y ≠ a := fun h => hn.1 (h ▸ hy)
        simp [this]
      rw [this]
      simp [hp]
    · have hx2 : q ∈ l := by
        rcases List.mem_cons.1 hx with h | h
        · exact absurd h.symm e
        · exact h
      have := countP_cut hn.2 hx2 hp
      rw [this]
      simp only [show (a == q) = false from beq_eq_false_iff_ne.2 e, Bool.not_false, Bool.and_true]
      omega
theorem degN_cut_p {n : Nat} {E : Nat → Nat → Bool} {p q : Nat} (hq : q < n) (hpq : p ≠ q) (h : E p q = true) : degN n E p = degN n (cutE E p q) p + 1 := by
  unfold degN
  rw [countP_cut List.nodup_range (List.mem_range.2 hq) h]
  congr 1
  refine List.countP_congr fun x _ => ?_
  simp [cutE, hpq]
theorem degN_cut_q {n : Nat} {E : Nat → Nat → Bool} {p q : Nat} (hp : p < n) (hpq : p ≠ q) (h : E q p = true) : degN n E q = degN n (cutE E p q) q + 1 := by
  unfold degN
  rw [countP_cut List.nodup_range (List.mem_range.2 hp) h]
  congr 1
  refine List.countP_congr fun x _ => ?_
  have : q ≠ p := fun e => hpq e.symm
  simp [cutE, this]
theorem degN_cut_o {n : Nat} {E : Nat → Nat → Bool} {p q x : Nat} (hp : x ≠ p) (hq : x ≠ q) : degN n (cutE E p q) x = degN n E x := by
  unfold degN
  refine List.countP_congr fun y _ => ?_
  simp [cutE, hp, hq]
theorem degN_cut_le {n : Nat} {E : Nat → Nat → Bool} {p q : Nat} (x : Nat) : degN n (cutE E p q) x ≤ degN n E x := by
  unfold degN
  refine List.countP_mono_left fun y _ h => ?_
  exact (Bool.and_eq_true_iff.1 h).1
theorem degN_pos {n : Nat} {E : Nat → Nat → Bool} {v : Nat} : 0 < degN n E v ↔ ∃ u, u < n ∧ E v u = true := by
  unfold degN
  rw [List.countP_pos_iff]
  simp

def OddC (n : Nat) (E : Nat → Nat → Bool) (v : Nat) : Prop := ∀ x y, x < n → y < n → oddV n E x → oddV n E y → x ≠ v → y ≠ v → x = y
theorem no_odd {n : Nat} {E : Nat → Nat → Bool} (hs : ∀ r j, E r j = true → E j r = true) (hi : ∀ r, E r r = false) {v : Nat} (h : OddC n E v) (hv : ¬ oddV n E v) : ∀ x, x < n → ¬ oddV n E x := by
  intro x hx hox
  have h0 := odd_even hs hi (fun _ => true) (n := n) (fun _ _ _ _ _ => rfl)
  have hxv : x ≠ v := fun e => hv (e ▸ hox)
  have h1 : ((List.range n).filter fun _ => true).countP (fun v => degN n E v % 2 == 1) = 1 := by
    refine countP_one (x := x) (List.nodup_range.filter _) (by simp [hx]) (by unfold oddV at hox; simpa using hox) fun y hy hoy => ?_
    have hyn : y < n := by simpa using hy
    have hoy' : oddV n E y := by unfold oddV; simpa using hoy
    exact (h x y hx hyn hox hoy' hxv (fun e => hv (e ▸ hoy'))).symm
  omega

/-- From v one can go along each edge once. -/
def Tr (n : Nat) (E : Nat → Nat → Bool) (v : Nat) : Prop := (∀ x, x < n → 0 < degN n E x → Rch E (· ∈ List.range n) v x) ∧ OddC n E v

theorem oddC_cut {n : Nat} {E : Nat → Nat → Bool} (hs : ∀ r j, E r j = true → E j r = true) (hi : ∀ r, E r r = false) {v u : Nat} (hv : v < n) (hu : u < n) (hE : E v u = true) (h : OddC n E v) : OddC n (cutE E v u) u := by
  have hvu : v ≠ u := fun e => by subst e; rw [hi] at hE; exact absurd hE (by decide)
  have hd1 := degN_cut_p hu hvu hE
  intro x y hx hy hox hoy hxu hyu
  by_cases e1 : x = v
  · subst e1
    by_cases e2 : y = x
    · exact e2.symm
    · exfalso
      have hnv : ¬ oddV n E x := by unfold oddV at hox ⊢; omega
      refine no_odd hs hi h hnv y hy ?_
      unfold oddV at hoy ⊢
      rw [degN_cut_o e2 hyu] at hoy
      exact hoy
  · by_cases e2 : y = v
    · subst e2
      exfalso
      have hnv : ¬ oddV n E y := by unfold oddV at hoy ⊢; omega
      refine no_odd hs hi h hnv x hx ?_
      unfold oddV at hox ⊢
      rw [degN_cut_o e1 hxu] at hox
      exact hox
    · unfold oddV at hox hoy
      rw [degN_cut_o e1 hxu] at hox
      rw [degN_cut_o e2 hyu] at hoy
      exact h x y hx hy hox hoy e1 e2

/-- What is reached with the edge is reached without it, from one of its ends. -/
theorem rch_two {n : Nat} {E : Nat → Nat → Bool} {v u : Nat} : ∀ x, Rch E (· ∈ List.range n) v x → Rch (cutE E v u) (· ∈ List.range n) u x ∨ Rch (cutE E v u) (· ∈ List.range n) v x := by
  refine rch_closed (.inr .base) fun x y hT hE hy => ?_
  by_cases e1 : x = v ∧ y = u
  · exact .inl (e1.2 ▸ .base)
  · by_cases e2 : x = u ∧ y = v
    · exact .inr (e2.2 ▸ .base)
    · have hc : cutE E v u x y = true := by
        simp only [cutE, hE, Bool.true_and, Bool.not_eq_true', Bool.or_eq_false_iff, Bool.and_eq_false_iff, beq_eq_false_iff_ne]
        refine ⟨?_, ?_⟩
        · by_cases e : x = v
          · exact .inr fun e' => e1 ⟨e, e'⟩
          · exact .inl e
        · by_cases e : x = u
          · exact .inr fun e' => e2 ⟨e, e'⟩
          · exact .inl e
      rcases hT with h | h
      · exact .inl (.step h hc hy)
      · exact .inr (.step h hc hy)

theorem tr_go {n : Nat} {E : Nat → Nat → Bool} (hs : ∀ r j, E r j = true → E j r = true) (hi : ∀ r, E r r = false) {v : Nat} (hv : v < n) (hd : 0 < degN n E v) (h : Tr n E v) :
    ∃ u, u < n ∧ E v u = true ∧ Tr n (cutE E v u) u := by
  have hR : ∀ z, z < n → (z ∈ List.range n) := fun z hz => List.mem_range.2 hz
  by_cases hnb : ∃ u, u < n ∧ E v u = true ∧ Rch (cutE E v u) (· ∈ List.range n) u v
  · obtain ⟨u, hu, hE, hr⟩ := hnb
    refine ⟨u, hu, hE, fun x hx hdx => ?_, oddC_cut hs hi hv hu hE h.2⟩
    have h1 := h.1 x hx (Nat.lt_of_lt_of_le hdx (degN_cut_le x))
    rcases rch_two (u := u) x h1 with h2 | h2
    · exact h2
    · exact rch_trans hr h2
  · have hbr : ∀ u, u < n → E v u = true → ¬ Rch (cutE E v u) (· ∈ List.range n) u v := fun u hu hE hr => hnb ⟨u, hu, hE, hr⟩
    obtain ⟨u, hu, hE⟩ := degN_pos.1 hd
    -- beyond a bridge an odd one lies, reached without v
    have key : ∀ u, u < n → E v u = true → ∃ x, x < n ∧ oddV n E x ∧ x ≠ v ∧ Rch E (fun z => z ∈ List.range n ∧ z ≠ v) u x := by
      intro u hu hE
      have hvu : v ≠ u := fun e => by subst e; rw [hi] at hE; exact absurd hE (by decide)
      have hb := hbr u hu hE
      have hs' : ∀ r j, cutE E v u r j = true → cutE E v u j r = true := cutE_sym hs v u
      have hoe := odd_even (n := n) hs' (cutE_irr hi v u) (fun x => dec (Rch (cutE E v u) (· ∈ List.range n) u x)) (fun x y hy hx hxy => dec_iff.2 (.step (dec_iff.1 hx) hxy (hR y hy)))
      have away : ∀ x, Rch (cutE E v u) (· ∈ List.range n) u x → Rch E (fun z => z ∈ List.range n ∧ z ≠ v) u x := by
        intro x hx
        refine (rch_closed (T := fun x => Rch (cutE E v u) (· ∈ List.range n) u x ∧ Rch E (fun z => z ∈ List.range n ∧ z ≠ v) u x) ⟨.base, .base⟩ (fun a b hab hE2 hb2 => ?_) x hx).2
        have hab2 : Rch (cutE E v u) (· ∈ List.range n) u b := .step hab.1 hE2 hb2
        refine ⟨hab2, .step hab.2 (Bool.and_eq_true_iff.1 hE2).1 ⟨hb2, fun e => hb (e ▸ hab2)⟩⟩
      refine Classical.byContradiction fun hno => ?_
      have hne : ∀ x, x < n → Rch (cutE E v u) (· ∈ List.range n) u x → ¬ oddV n E x := by
        intro x hx hr ho
        exact hno ⟨x, hx, ho, fun e => hb (e ▸ hr), away x hr⟩
      have hd2 := degN_cut_q (n := n) hv hvu (hs _ _ hE)
      have h1 : (((List.range n).filter fun x => dec (Rch (cutE E v u) (· ∈ List.range n) u x)).countP fun z => degN n (cutE E v u) z % 2 == 1) = 1 := by
        refine countP_one (x := u) (List.nodup_range.filter _) (List.mem_filter.2 ⟨hR u hu, dec_true .base⟩) ?_ fun y hy hoy => ?_
        · have := hne u hu .base
          unfold oddV at this
          simp only [beq_iff_eq]
          omega
        · obtain ⟨hy1, hy2⟩ := List.mem_filter.1 hy
          have hyr := dec_iff.1 hy2
          refine Classical.byContradiction fun hyu => ?_
          have hyv : y ≠ v := fun e => hb (e ▸ hyr)
          refine hne y (List.mem_range.1 hy1) hyr ?_
          unfold oddV
          rw [← degN_cut_o hyv hyu]
          simpa using hoy
      omega
    -- so there is but one neighbour
    have one : ∀ u2, u2 < n → E v u2 = true → u2 = u := by
      intro u2 hu2 hE2
      refine Classical.byContradiction fun hne => ?_
      obtain ⟨x, hx, ho, hxv, hr⟩ := key u hu hE
      obtain ⟨x2, hx2, ho2, hxv2, hr2⟩ := key u2 hu2 hE2
      obtain rfl := h.2 x x2 hx hx2 ho ho2 hxv hxv2
      have hvu : u ≠ v := fun e => by subst e; rw [hi] at hE; exact absurd hE (by decide)
      have hvu2 : u2 ≠ v := fun e => by subst e; rw [hi] at hE2; exact absurd hE2 (by decide)
      have h1 : Rch E (fun z => z ∈ List.range n ∧ z ≠ v) u u2 := rch_trans hr (rch_sym hs ⟨hR u2 hu2, hvu2⟩ hr2)
      have h2 : Rch (cutE E v u) (· ∈ List.range n) u u2 := by
        refine (rch_closed (T := fun x => x ≠ v ∧ Rch (cutE E v u) (· ∈ List.range n) u x) ⟨hvu, .base⟩ (fun a b hab hE3 hb3 => ?_) u2 h1).2
        refine ⟨hb3.2, .step hab.2 ?_ hb3.1⟩
        simp [cutE, hE3, hab.1, hb3.2]
      refine hbr u hu hE (.step h2 ?_ (hR v hv))
      simp [cutE, hs _ _ hE2, hvu2, hne]
    refine ⟨u, hu, hE, fun x hx hdx => ?_, oddC_cut hs hi hv hu hE h.2⟩
    have h1 := h.1 x hx (Nat.lt_of_lt_of_le hdx (degN_cut_le x))
    rcases rch_two (u := u) x h1 with h2 | h2
    · exact h2
    · -- v is alone now
      exfalso
      have hal : ∀ y, y < n → cutE E v u v y = true → False := by
        intro y hy hc
        have hE3 := (Bool.and_eq_true_iff.1 hc).1
        have := one y hy hE3
        subst this
        simp [cutE] at hc
      have hxv : x = v := by
        refine rch_closed (T := fun x => x = v) rfl (fun a b hab hc hb => ?_) x h2
        subst hab
        exact absurd hc (fun hc => hal b (List.mem_range.1 hb) hc)
      subst hxv
      obtain ⟨y, hy, hc⟩ := degN_pos.1 hdx
      exact hal y hy hc
/-- One is left in an edge just where any is. -/
theorem tr_left {n : Nat} {E : Nat → Nat → Bool} {v : Nat} (hv : v < n) (h : Tr n E v) : (0 < degN n E v ↔ ∃ x, x < n ∧ 0 < degN n E x) := by
  constructor
  · intro hd; exact ⟨v, hv, hd⟩
  · rintro ⟨x, hx, hd⟩
    have hr := h.1 x hx hd
    by_cases e : x = v
    · exact e ▸ hd
    · have : ∀ x, Rch E (· ∈ List.range n) v x → x = v ∨ 0 < degN n E v := by
        refine rch_closed (.inl rfl) fun a b ha hE hb => ?_
        rcases ha with ha | ha
        · exact .inr (degN_pos.2 ⟨b, List.mem_range.1 hb, ha ▸ hE⟩)
        · exact .inr ha
      rcases this x hr with h1 | h1
      · exact absurd h1 e
      · exact h1

/-- All degrees together. -/
def totN (n : Nat) (E : Nat → Nat → Bool) : Nat := ((List.range n).map (degN n E)).sum
theorem sum_lt_of {f g : Nat → Nat} : ∀ {l : List Nat}, (∀ x ∈ l, f x ≤ g x) → (∃ x ∈ l, f x < g x) → (l.map f).sum < (l.map g).sum
  | [], _, ⟨x, hx, _⟩ => by simp at hx
  | a :: l, h, ⟨x, hx, hlt⟩ => by
    have hle : ∀ {m : List Nat}, (∀ x ∈ m, f x ≤ g x) → (m.map f).sum ≤ (m.map g).sum := by
      intro m
      induction m with
      | nil => intro _; simp
      | cons b m ih =>
        intro hm
        have := ih fun x hx => hm x (by simp [hx])
        have := hm b (by simp)
        simp only [List.map_cons, List.sum_cons]
        omega
    simp only [List.map_cons, List.sum_cons]
    rcases List.mem_cons.1 hx with e | e
    · subst e
      have := hle fun y hy => h y (List.mem_cons_of_mem _ hy)
      omega
    · have := sum_lt_of (fun y hy => h y (List.mem_cons_of_mem _ hy)) ⟨x, e, hlt⟩
      have := h a (by simp)
      omega
theorem totN_cut {n : Nat} {E : Nat → Nat → Bool} {v u : Nat} (hi : ∀ r, E r r = false) (hv : v < n) (hu : u < n) (h : E v u = true) : totN n (cutE E v u) < totN n E := by
  have hvu : v ≠ u := fun e => by subst e; rw [hi] at h; exact absurd h (by decide)
  refine sum_lt_of (fun x _ => degN_cut_le x) ⟨v, List.mem_range.2 hv, ?_⟩
  have := degN_cut_p hu hvu h
  omega
theorem degN_le (n : Nat) (E : Nat → Nat → Bool) (v : Nat) : degN n E v ≤ n := by
  have := List.countP_le_length (p := E v) (l := List.range n)
  simpa [degN] using this
theorem sum_le_mul {f : Nat → Nat} {k : Nat} : ∀ {l : List Nat}, (∀ x ∈ l, f x ≤ k) → (l.map f).sum ≤ l.length * k
  | [], _ => by simp
  | a :: l, h => by
    have := sum_le_mul fun x hx => h x (List.mem_cons_of_mem a hx)
    have := h a (by simp)
    simp only [List.map_cons, List.sum_cons, List.length_cons, Nat.add_mul]
    omega
theorem totN_le {n : Nat} (hn : n ≤ 16) (E : Nat → Nat → Bool) : totN n E ≤ 256 := by
  have h1 : totN n E ≤ (List.range n).length * n := sum_le_mul fun x _ => degN_le n E x
  rw [List.length_range] at h1
  have : n * n ≤ 16 * 16 := Nat.mul_le_mul hn hn
  omega

/-- The next one: the first from which the rest can be gone. -/
noncomputable def nextT (n : Nat) (E : Nat → Nat → Bool) (v : Nat) : Option Nat := (List.range n).find? fun u => E v u && dec (Tr n (cutE E v u) u)
inductive Trl (n : Nat) : (Nat → Nat → Bool) → Nat → List Nat → Prop
  | done (E : Nat → Nat → Bool) (v : Nat) : degN n E v = 0 → Trl n E v []
  | step (E : Nat → Nat → Bool) (v u : Nat) (l : List Nat) : 0 < degN n E v → nextT n E v = some u → Trl n (cutE E v u) u l → Trl n E v (u :: l)
theorem trl_det {n : Nat} {E : Nat → Nat → Bool} {v : Nat} {l : List Nat} (h : Trl n E v l) : ∀ {m : List Nat}, Trl n E v m → l = m := by
  induction h with
  | done E v h0 =>
    intro m hm
    cases hm with
    | done _ _ _ => rfl
    | step _ _ u l h1 _ _ => omega
  | step E v u l h1 h2 _ ih =>
    intro m hm
    cases hm with
    | done _ _ h0 => omega
    | step _ _ u2 l2 _ h3 h4 =>
      rw [h2] at h3
      cases h3
      rw [ih h4]
def TrlOn (n : Nat) (E0 : Nat → Nat → Bool) (v0 : Nat) (pre : List Nat) (E : Nat → Nat → Bool) (v : Nat) : Prop := ∀ l, Trl n E v l → Trl n E0 v0 (pre ++ l)
theorem trlOn_start (n : Nat) (E : Nat → Nat → Bool) (v : Nat) : TrlOn n E v [] E v := fun _ h => h
theorem trlOn_step {n : Nat} {E0 E : Nat → Nat → Bool} {v0 v u : Nat} {pre : List Nat} (h : TrlOn n E0 v0 pre E v) (hd : 0 < degN n E v) (hn : nextT n E v = some u) : TrlOn n E0 v0 (pre ++ [u]) (cutE E v u) u := fun l k => by
  have := h _ (.step E v u l hd hn k)
  simpa using this
theorem trlOn_stop {n : Nat} {E0 E : Nat → Nat → Bool} {v0 v : Nat} {pre : List Nat} (h : TrlOn n E0 v0 pre E v) (hd : degN n E v = 0) : Trl n E0 v0 pre := by
  have := h [] (.done E v hd)
  simpa using this
/-- The first so many are not the next one. -/
def NotNext (n : Nat) (E : Nat → Nat → Bool) (v k : Nat) : Prop := ∀ u, u < k → u < n → E v u = true → ¬ Tr n (cutE E v u) u
theorem next_of {n : Nat} {E : Nat → Nat → Bool} {v u : Nat} (h : NotNext n E v u) (hu : u < n) (hE : E v u = true) (hT : Tr n (cutE E v u) u) : nextT n E v = some u := by
  unfold nextT
  have h1 : (List.range n).find? (fun u => E v u && dec (Tr n (cutE E v u) u)) ≠ none := by
    intro hn
    have := List.find?_eq_none.1 hn u (List.mem_range.2 hu)
    simp [hE, dec_true hT] at this
  obtain ⟨z, hz⟩ := Option.ne_none_iff_exists'.1 h1
  have hzp := List.find?_some hz
  have hzn := List.mem_range.1 (List.mem_of_find?_eq_some hz)
  obtain ⟨hz1, hz2⟩ := Bool.and_eq_true_iff.1 hzp
  have hge : ¬ z < u := fun hlt => h z hlt hzn hz1 (dec_iff.1 hz2)
  have hle : ¬ u < z := by
    intro hlt
    obtain ⟨_, la, lb, heq, hno⟩ := List.find?_eq_some_iff_append.1 hz
    have hum : u ∈ la := by
      have hm : u ∈ la ++ z :: lb := heq ▸ List.mem_range.2 hu
      rcases List.mem_append.1 hm with h1 | h1
      · exact h1
      · have hp : (la ++ z :: lb).Pairwise (· < ·) := heq ▸ List.pairwise_lt_range
        have hp2 := (List.pairwise_append.1 hp).2.1
        rcases List.mem_cons.1 h1 with e | e
        · omega
        · have := (List.pairwise_cons.1 hp2).1 u e
          omega
    have := hno u hum
    simp [hE, dec_true hT] at this
  have : z = u := by omega
  rw [hz, this]
theorem next_some {n : Nat} {E : Nat → Nat → Bool} (hs : ∀ r j, E r j = true → E j r = true) (hi : ∀ r, E r r = false) {v k : Nat} (hv : v < n) (hd : 0 < degN n E v) (h : Tr n E v) (hk : NotNext n E v k) (hnk : ∀ u, k ≤ u → u < n → E v u = false) : False := by
  obtain ⟨u, hu, hE, hT⟩ := tr_go hs hi hv hd h
  rcases Nat.lt_or_ge u k with h1 | h1
  · exact hk u h1 hu hE hT
  · rw [hnk u h1 hu] at hE
    exact absurd hE (by decide)

/-- What both answer. -/
def TrailS (g : List (List Int)) (l : List Int) (ok : Bool) : Prop :=
  (¬ GOk g ∧ l = [] ∧ ok = false) ∨ (GOk g ∧ (∀ v, v < g.length → ¬ Tr g.length (ofG g) v) ∧ l = [] ∧ ok = false) ∨
    (GOk g ∧ ∃ v pre, v < g.length ∧ (∀ u, u < v → ¬ Tr g.length (ofG g) u) ∧ Tr g.length (ofG g) v ∧ Trl g.length (ofG g) v pre ∧ l = natInts (v :: pre) ∧ ok = true)
theorem trailS_det {g : List (List Int)} {l l2 : List Int} {ok ok2 : Bool} (h : TrailS g l ok) (h2 : TrailS g l2 ok2) : l = l2 ∧ ok = ok2 := by
  rcases h with ⟨h0, rfl, rfl⟩ | ⟨h0, h1, rfl, rfl⟩ | ⟨h0, v, pre, hv, hl, hT, htr, rfl, rfl⟩ <;> rcases h2 with ⟨k0, rfl, rfl⟩ | ⟨k0, k1, rfl, rfl⟩ | ⟨k0, v2, pre2, hv2, hl2, hT2, htr2, rfl, rfl⟩
  · exact ⟨rfl, rfl⟩
  · exact ⟨rfl, rfl⟩
  · exact absurd k0 h0
  · exact ⟨rfl, rfl⟩
  · exact ⟨rfl, rfl⟩
  · exact absurd hT2 (h1 v2 hv2)
  · exact absurd h0 k0
  · exact absurd hT (k1 v hv)
  · have e : v = v2 := by
      rcases Nat.lt_trichotomy v v2 with h | h | h
      · exact absurd hT (hl2 v h)
      · exact h
      · exact absurd hT2 (hl v2 h)
    subst e
    rw [trl_det htr htr2]
    exact ⟨rfl, rfl⟩

end Go.Proofs.YtfokiijcpkhllaaDoor
