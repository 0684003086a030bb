/- Plain: the order of folding has width two at most, and its colours part all neighbours. -/
import Derived.Test.YtfokiijcpkhllaaDoorFdQ21
import Derived.Test.YtfokiijcpkhllaaDoorFdQ22
import Derived.Test.YtfokiijcpkhllaaDoorFdQ12
import Derived.Deep.RegionLaw
namespace Go.Proofs.YtfokiijcpkhllaaDoor

theorem el_late {n : Nat} {E : Nat → Nat → Bool} {l : List Nat} (hd : l.Nodup) : ∀ (suf pre : List Nat) (R : Nat → Nat → Prop), l = pre ++ suf → (∀ x y, x ∉ pre → y ∉ pre → x ≠ y → (R x y ↔ fillP E l pre.length x y = true)) → El R suf →
    ∀ k, pre.length ≤ k → k < l.length → (lateL n E l k).length ≤ 2
  | [], pre, R, h, _, _, k, h1, h2 => by rw [h, List.append_nil] at h2; omega
  | v :: suf, pre, R, h, hC, hE, k, h1, h2 => by
    have hlen : pre.length < l.length := by rw [h]; simp
    have hat : l.getD pre.length 0 = v := by rw [h]; simp
    have htk : l.take (pre.length + 1) = pre ++ [v] := by rw [h, List.take_append]; simp [List.take_of_length_le]
    have hv : v ∉ pre := fun hm => by
      rw [h] at hd
      exact (List.nodup_append.1 hd).2.2 v hm v (by simp) rfl
    by_cases e : k = pre.length
    · subst e
      obtain ⟨⟨a, b, hab⟩, _⟩ := hE
      refine len_of_n2 ((lateL_rising n E l _).imp fun h => by omega) (a := a) (b := b) fun x hx => hab x ?_
      obtain ⟨_, hx⟩ := mem_lateL.1 hx
      unfold laterE at hx
      rw [Bool.and_eq_true, decide_eq_true_eq, htk, hat] at hx
      have hx2 := hx.2
      rw [List.mem_append, List.mem_singleton, not_or] at hx2
      exact (hC v x hv hx2.1 fun e => hx2.2 e.symm).2 hx.1
    · have key : ∀ x, x ∉ pre ++ [v] → (laterE (fillP E l pre.length) l pre.length (l.getD pre.length 0) x = true ↔ R v x) := fun x hx => by
        have hx2 := hx
        rw [List.mem_append, List.mem_singleton, not_or] at hx2
        unfold laterE
        rw [Bool.and_eq_true, decide_eq_true_eq, htk, hat, hC v x hv hx2.1 fun e => hx2.2 e.symm]
        exact ⟨fun h => h.1, fun h => ⟨h, hx⟩⟩
      refine el_late hd suf (pre ++ [v]) (goneR R v) (by rw [h]; simp) (fun x y hx hy hxy => ?_) hE.2 k (by simp; omega) h2
      have hx2 := hx
      have hy2 := hy
      rw [List.mem_append, List.mem_singleton, not_or] at hx2 hy2
      have e2 : (pre ++ [v]).length = pre.length + 1 := by simp
      rw [e2]
      show _ ↔ elimE _ _ x y = true
      unfold elimE goneR
      rw [Bool.or_eq_true, Bool.and_eq_true, Bool.and_eq_true, decide_eq_true_eq, key x hx, key y hy, hC x y hx2.1 hy2.1 hxy]
      constructor
      · rintro ⟨_, _, _, h | ⟨h1, h2⟩⟩
        · exact .inl h
        · exact .inr ⟨⟨h1, h2⟩, hxy⟩
      · rintro (h | ⟨⟨h1, h2⟩, _⟩)
        · exact ⟨hx2.2, hy2.2, hxy, .inl h⟩
        · exact ⟨hx2.2, hy2.2, hxy, .inr ⟨h1, h2⟩⟩
theorem rows_late {n : Nat} (hn : n ≤ 16) {E : Nat → Nat → Bool} {l : List Nat} (hl : ∀ v ∈ l, v < n) (h : ∀ k, k < l.length → (lateL n E l k).length ≤ 2) : ∀ m, m ≤ l.length → ∀ j, (row (laterRows n E l m) j).length ≤ 2
  | 0, _, j => by
    rw [laterRows_start]
    simp [row, List.getElem?_replicate]
    split <;> simp
  | m + 1, hm, j => by
    rw [← laterRows_step hn hl (by omega)]
    by_cases hj : j < n
    · by_cases e : l[m] = j
      · subst e
        have e2 : row ((laterRows n E l m).set l[m] (natInts (lateL n E l m))) l[m] = natInts (lateL n E l m) := by simp [row, laterRows_length, hj]
        rw [e2, natInts_length]
        exact h m (by omega)
      · have e2 : row ((laterRows n E l m).set l[m] (natInts (lateL n E l m))) j = row (laterRows n E l m) j := by simp [row, List.getElem?_set, e]
        rw [e2]
        exact rows_late hn hl h m (by omega) j
    · rw [row_out (by rw [List.length_set, laterRows_length]; exact hj)]
      simp
/-- The order of a folding that takes all. -/
theorem folds_order {g : List (List Int)} {left : List Int} {fs : List Fd} {l : List Int} {g' : List (List Int)} (h : Folds g left fs l g') : l = [] → GOk g → SetIn g.length left → InnR g left →
    (fs.map Fd.V).Nodup ∧ (∀ x, x ∈ fs.map Fd.V ↔ x ∈ left) ∧ El (adjR g) ((fs.map Fd.V).map Int.toNat) ∧ (colL g.length fs).length = g.length ∧ ∀ x y : Nat, adjR g x y → (colL g.length fs).getD x 0 ≠ (colL g.length fs).getD y 0 := by
  induction h with
  | @stop g left h =>
    rintro rfl hg hl hi
    refine ⟨List.nodup_nil, fun x => Iff.rfl, trivial, colL_length _ _, fun x y hxy => ?_⟩
    have := hi x y hxy
    cases this
  | @step g l1 l2 v fs l g' h1 h2 h ih =>
    intro hl0 hg hl hi
    have hv := hl.1 v (by simp)
    obtain ⟨n, rfl⟩ := Int.eq_ofNat_of_zero_le hv.1
    have hn : n < g.length := by omega
    have h2' : (row g n).length ≤ 2 := h2
    have hR : adjR (foldG g (atRow n (row g n))) = goneR (adjR g) n := by
      funext x y
      exact propext (adjR_fold hg hn h2' x y)
    have hlv : (n : Int) ∈ l1 ++ (n : Int) :: l2 := by simp
    obtain ⟨r1, r2, r3, r4, r5⟩ := ih hl0 (foldG_ok hg hn h2') ⟨fun x hx => by rw [foldG_length]; exact hl.1 x (mem_lessL.1 hx).1, lessL_rising hl.2 _⟩ fun x y hxy => by
      have hxy' := (adjR_fold hg hn h2' x y).1 hxy
      refine mem_lessL.2 ⟨?_, by have := hxy'.2.1; omega⟩
      rcases hxy'.2.2.2 with r | r
      · exact hi _ _ r
      · exact hi _ _ r.2
    have e0 : adjR (foldG g (atRow (n : Int) (row g ((n : Int)).toNat))) = goneR (adjR g) n := hR
    rw [e0] at r3 r5
    rw [foldG_length] at r4 r5
    have hcons : (atRow (n : Int) (row g ((n : Int)).toNat) :: fs).map Fd.V = (n : Int) :: fs.map Fd.V := rfl
    rw [hcons]
    refine ⟨List.nodup_cons.2 ⟨fun hm => (mem_lessL.1 ((r2 _).1 hm)).2 rfl, r1⟩, fun x => ?_, ⟨few_near hg hn h2', r3⟩, colL_length _ _, fun x y hxy => ?_⟩
    · rw [List.mem_cons, r2, mem_lessL]
      by_cases e : x = n
      · subst e; simp
      · simp [e]
    · obtain ⟨f, hf⟩ : ∃ f, f = atRow (n : Int) (row g n) := ⟨_, rfl⟩
      have ho : colL g.length (atRow (n : Int) (row g ((n : Int)).toNat) :: fs) = (colL g.length fs).set n (colN (colL g.length fs) f) := by rw [hf]; rfl
      rw [ho]
      have hself : ((colL g.length fs).set n (colN (colL g.length fs) f : Int)).getD n 0 = colN (colL g.length fs) f := by simp [r4, hn]
      have hoth : ∀ t, t ≠ n → ((colL g.length fs).set n (colN (colL g.length fs) f : Int)).getD t 0 = (colL g.length fs).getD t 0 := fun t ht => by simp [List.getElem?_set, Ne.symm ht]
      have hnb : ∀ t : Nat, adjR g n t → (colL g.length fs).getD t 0 ≠ colN (colL g.length fs) f := fun t ht e => by
        refine colN_free (out := colL g.length fs) (f := f) ?_
        have ht' : (t : Int) ∈ row g n := ht
        rw [hf] at e ⊢
        unfold Taken
        revert h2' ht'
        rcases hrow : row g n with _ | ⟨p, _ | ⟨q, _ | ⟨s, rr⟩⟩⟩
        · intro _ h; cases h
        · intro _ h
          have : (t : Int) = p := by simpa using h
          subst this
          rw [hrow] at e
          exact .inl ⟨by simp [atRow], by simpa [atRow] using e⟩
        · intro _ h
          have h : (t : Int) = p ∨ (t : Int) = q := by simpa using h
          rw [hrow] at e
          rcases h with rfl | rfl
          · exact .inl ⟨by simp [atRow], by simpa [atRow] using e⟩
          · exact .inr ⟨by simp [atRow], by simpa [atRow] using e⟩
        · intro h; simp at h
      by_cases ex : x = n
      · subst ex
        have hy : y ≠ x := fun e => adjR_irr hg x (by rw [e] at hxy; exact hxy)
        rw [hself, hoth y hy]
        exact fun e => hnb y hxy e.symm
      · by_cases ey : y = n
        · subst ey
          rw [hself, hoth x ex]
          exact hnb x (adjR_sym hg _ _ hxy)
        · rw [hoth x ex, hoth y ey]
          exact r5 x y ⟨ex, ey, fun e => adjR_irr hg x (by rw [← e] at hxy; exact hxy), .inl hxy⟩
/-- What the law asks of an order and of colours. -/
theorem fold_order {g : List (List Int)} (hg : GOk g) {fs : List Fd} {g' : List (List Int)} (h : Folds g (allL g.length) fs [] g') :
    OrdOk g.length (fs.map Fd.V) ∧ (∀ m, m ≤ g.length → ∀ j, (row (laterRows g.length (ofG g) ((fs.map Fd.V).map Int.toNat) m) j).length ≤ 2) ∧ ∀ x y : Nat, adjR g x y → (colL g.length fs).getD x 0 ≠ (colL g.length fs).getD y 0 := by
  obtain ⟨r1, r2, r3, r4, r5⟩ := folds_order h rfl hg ⟨fun x hx => mem_allL.1 hx, allL_rising _⟩ fun x y hxy => by
    have := adjR_lt hg (adjR_sym hg x y hxy)
    rw [mem_allL]; omega
  have hall : (allL g.length).Nodup := (allL_rising _).imp fun h => by omega
  have hlen : (fs.map Fd.V).length = g.length := by
    have h1 := sub_len _ (allL g.length) r1 fun x hx => (r2 x).1 hx
    have h2 := sub_len _ (fs.map Fd.V) hall fun x hx => (r2 x).2 hx
    rw [allL_length] at h1 h2
    omega
  have hin : ∀ x ∈ fs.map Fd.V, 0 ≤ x ∧ x < g.length := fun x hx => mem_allL.1 ((r2 x).1 hx)
  have hnd : ((fs.map Fd.V).map Int.toNat).Nodup := by
    rw [List.Nodup, List.pairwise_map]
    exact r1.imp_of_mem fun {x y} hx hy hxy => by have := hin x hx; have := hin y hy; omega
  refine ⟨⟨hlen, hin, r1⟩, fun m hm => ?_, r5⟩
  refine rows_late hg.le (fun v hv => ?_) (fun k hk => ?_) m (by rw [List.length_map, hlen]; exact hm)
  · obtain ⟨x, hx, rfl⟩ := List.mem_map.1 hv
    have := hin x hx
    omega
  · refine el_late hnd _ [] (adjR g) rfl (fun x y _ _ _ => ?_) r3 k (Nat.zero_le _) hk
    show _ ↔ ofG g x y = true
    unfold ofG adjR
    rw [decide_eq_true_eq]
theorem core_len {g gg : List (List Int)} {ok : Bool} {fs : List Fd} {l : List Int} (hg : GOk g) (hF : FoldedS g fs l) (h : CoreS g gg ok) : ok = !dec (SerS g) ∧ (ok = true → gg.length = l.length) := by
  rcases hF with ⟨_, g', hF⟩ | ⟨h, _⟩
  case inr => exact absurd hg h
  have hi := serS_iff hg hF
  rcases h with ⟨rfl, _, fs2, l2, g2, hf, hl, rfl⟩ | ⟨rfl, rfl, h⟩
  · obtain ⟨_, rfl, _⟩ := folds_det hF hf
    have : dec (SerS g) = false := dec_false fun h => hl (List.length_eq_zero_iff.1 (hi.1 h))
    rw [this]
    exact ⟨rfl, fun _ => matG_length _ _⟩
  · rcases h with h | ⟨fs2, g2, h⟩
    · exact absurd hg h
    · obtain ⟨_, rfl, _⟩ := folds_det hF h
      have : dec (SerS g) = true := dec_true (hi.2 rfl)
      rw [this]
      exact ⟨rfl, fun e => by cases e⟩

end Go.Proofs.YtfokiijcpkhllaaDoor

/- Walks: linking two vertices in a graph that is the callee's own. -/
namespace Go.Proofs.YtfokiijcpkhllaaDoor
open Go.RowKit

theorem get_getD {α : Type} (l : List α) (k : Nat) (d : α) (h : k < l.length) : l[k]? = some (l.getD k d) := by simp [h]

structure LK (w wr : World) (base ob c : Nat) (g : List (List Int)) (vals : List Value) : Prop where
  len : vals.length = g.length
  own : wr.ownsRow base 32 1 (.slice (some ⟨ob, 0, none⟩) g.length c) g.length vals
  rows : ∀ j, j < g.length → Nums wr 2 .i64 (vals.getD j undef) (row g j)
  box : Box wr w.heap.size 29 (.slice (some ⟨ob, 0, none⟩) g.length c)
  res : Box wr (w.heap.size + 1) 29 (.slice none 0 0)
  grown : w.grownBy wr (some ob)
  lt : ob < w.heap.size

theorem LK.step {w wr w2 : World} {base ob c : Nat} {g : List (List Int)} {vals : List Value} (h : LK w wr base ob c g vals) (hb : Below wr.heap.size wr w2) {rv : Value} {s : List Int} (hn : Nums w2 2 .i64 rv s) {u : Nat} (hu : u < g.length) :
    LK w (w2.setCell ⟨ob, u, none⟩ rv) base ob c (g.set u s) (vals.set u rv) := by
  have ho := ownsRow_below h.own hb
  obtain ⟨ho2, hg2⟩ := ho.stored u rv
  have hl := h.lt
  refine ⟨by simp [h.len], by rw [List.length_set]; exact ho2, fun j hj => ?_, ?_, ?_, grown_trans (grown_trans h.grown (grown_of_below hb _)) hg2, hl⟩
  · rw [List.length_set] at hj
    rw [row_set _ _ _ _ hu]
    by_cases e : j = u
    · subst e
      rw [if_pos rfl]
      have : (vals.set j rv).getD j undef = rv := by simp [h.len, hj]
      rw [this]
      exact hn.other ho hg2 (by decide)
    · rw [if_neg e]
      have : (vals.set u rv).getD j undef = vals.getD j undef := by simp [show ¬ u = j from fun q => e q.symm]
      rw [this]
      exact ((h.rows j hj).below hb).other ho hg2 (by decide)
  · rw [List.length_set]
    exact (h.box.keep hb).setOther (by show w.heap.size ≠ ob; omega) _
  · exact (h.res.keep hb).setOther (by show w.heap.size + 1 ≠ ob; omega) _

set_option maxRecDepth 100000 in
set_option maxHeartbeats 4000000 in
theorem l1Link_any (p : Option Addr) (c : Nat) (g : List (List Int)) (y z : Int) (u k base : Nat) (hy : y = u) (hz : z = k) (hu : u < g.length) (hk : k < g.length) (hr : ∀ j, j < g.length → (row g j).length ≤ 1000) (w : World)
    (hs : SG w base (.agg #[.slice p g.length c]) g) :
    Calls Tryd.prog 104 #[.agg #[.slice p g.length c], .int .i64 y, .int .i64 z] w fun e w' => e = .returned (.agg #[.slice p g.length c]) ∧ SG w' base (.agg #[.slice p g.length c]) (linkL g u k) ∧ w.grownBy w' (Value.slice p g.length c).ownBlock := by
  subst hy; subst hz
  obtain ⟨_, vals, h1, hl, ho, hrows⟩ := hs
  cases h1
  obtain ⟨ob, rfl⟩ : ∃ ob, p = some ⟨ob, 0, none⟩ := by
    rcases ho.2 with ⟨_, h0⟩ | ⟨b, cc, _, h1, _⟩
    · omega
    · simp only [Value.slice.injEq] at h1
      exact ⟨b, h1.1⟩
  have hlt := (ho.lt ob rfl).2
  have hbb := below_alloc2 w (.cells #[.slice (some ⟨ob, 0, none⟩) g.length c] 29) (.cells #[.slice none 0 0] 29)
  have START : Hid (LK w ((w.alloc (.cells #[.slice (some ⟨ob, 0, none⟩) g.length c] 29)).alloc (.cells #[.slice none 0 0] 29)) base ob c g vals) := Lib.hid
    ⟨hl, ownsRow_below ho hbb, fun j hj => (hrows j hj).below hbb, (Box.new _ _ _).alloc _, by have := Box.new (w.alloc (.cells #[.slice (some ⟨ob, 0, none⟩) g.length c] 29)) (.slice none 0 0) 29; rw [size_alloc] at this; exact this, grown_of_below hbb _, hlt⟩
  have HR := Lib.hid hr
  clear hl ho hrows hbb hr
  go_enter Tryd.func104, Tryd.ntmps104
  go_upto_region 1 with fail
  generalize hW : (w.alloc (.cells #[.slice (some ⟨ob, 0, none⟩) g.length c] 29)).alloc (.cells #[.slice none 0 0] 29) = W at *
  clear hW
  obtain ⟨bc, bf, _, _⟩ := START.out.box
  obtain ⟨rp, rc, hrs, _⟩ := (START.out.rows u hu).shape
  have hcu := START.out.own.cellAt u (by omega)
  have hv0 := get_getD vals u undef (by rw [START.out.len]; exact hu)
  rw [hv0, hrs] at hcu
  have hnu := Lib.hid (START.out.rows u hu)
  rw [hrs] at hnu
  have hru := HR.out u hu
  clear hv0 hrs
  go_cut [] (fun wx => ∃ rv, LK w wx base ob c (g.set u (intoL (row g u) k)) (vals.set u rv))
  case first =>
    go_region_law (first | (go_simp; go_at_call 115; refine (l1Into_any _ (row g u) k (by omega) _ (hnu.out.below (below_dN (Below.refl _ _) 1))).mono ?_; rintro e w2 ⟨rv, rfl, hn2, hb2⟩; obtain ⟨rvp, rvc, rfl, _⟩ := hn2.shape; have hb2' : Below W.heap.size W w2 := (below_dN (Below.refl _ _) 1).trans hb2; have hf2 := (ownsRow_below START.out.own hb2').frozenAt u; have hc2 := hb2'.at' hcu; have hbc2 := hb2'.at' bc))
    all_goals go_wp2
    all_goals go_meet
    all_goals exact ⟨_, START.out.step hb2' hn2 hu⟩
  case rest =>
    obtain ⟨rv0, hlk⟩ := hcut
    have HL := Lib.hid hlk
    have hk' : k < (g.set u (intoL (row g u) k)).length := by simpa using hk
    obtain ⟨bc, bf, _, _⟩ := hlk.box
    obtain ⟨rp, rc, hrs, _⟩ := (hlk.rows k hk').shape
    have hcu := hlk.own.cellAt k (by omega)
    have hv0 := get_getD (vals.set u rv0) k undef (by rw [hlk.len]; exact hk')
    rw [hv0, hrs] at hcu
    have hnu := Lib.hid (hlk.rows k hk')
    rw [hrs] at hnu
    have hl1 : (g.set u (intoL (row g u) k)).length = g.length := by simp
    have hru : (row (g.set u (intoL (row g u) k)) k).length ≤ 2000 := by
      rw [row_set _ _ _ _ hu]
      split
      · have := intoL_length (row g u) k; have := HR.out u hu; omega
      · have := HR.out k hk; omega
    rw [hl1] at bc
    clear hv0 hrs hlk
    generalize hr1 : row (g.set u (intoL (row g u) k)) k = r1 at hru hcu hnu
    go_upto_region 2 with fail
    go_cut [] (fun wx => ∃ rv, LK w wx base ob c (linkL g u k) ((vals.set u rv0).set k rv))
    case first =>
      go_region_law (first | (go_simp; go_at_call 115; refine (l1Into_any _ r1 u (by omega) _ (hnu.out.below (below_dN (Below.refl _ _) 1))).mono ?_; rintro e w2 ⟨rv, rfl, hn2, hb2⟩; obtain ⟨rvp, rvc, rfl, _⟩ := hn2.shape; have hb2' : Below wc.heap.size wc w2 := (below_dN (Below.refl _ _) 1).trans hb2; have hf2 := (ownsRow_below HL.out.own hb2').frozenAt k; have hc2 := hb2'.at' hcu; have hbc2 := hb2'.at' bc))
      all_goals go_wp2
      all_goals go_meet
      all_goals exact ⟨_, by rw [show linkL g u k = (g.set u (intoL (row g u) k)).set k (intoL r1 u) from by unfold linkL; rw [hr1]]; exact HL.out.step hb2' hn2 hk'⟩
    case rest =>
      obtain ⟨rv1, hlk⟩ := hcut
      have HL2 := Lib.hid hlk
      obtain ⟨bc, bf, _, _⟩ := hlk.box
      obtain ⟨k2c, k2f, _⟩ := hlk.res
      rw [linkL_length] at bc
      clear hlk
      go_wp2
      refine bodyPost_ret (v := .agg #[.slice (some ⟨ob, 0, none⟩) g.length c]) (by simp [results, Tryd.results104, go_sem, k2c]) rfl ⟨rfl, ⟨_, _, rfl, HL2.out.len, ?_, fun j hj => ?_⟩, ?_⟩
      · exact ownsRow_setBox (by have := HL2.out.own; rw [linkL_length] at this ⊢; exact this) HL2.out.res (by decide) _
      · exact (HL2.out.rows j hj).setBox HL2.out.res (by decide) _
      · have hlt' := HL2.out.lt
        refine ⟨HL2.out.grown.os, HL2.out.grown.tape, HL2.out.grown.output, by have := HL2.out.grown.size; simpa [World.setCell] using this, fun b hb hne => ?_⟩
        rw [Below.heap_setCell _ _ _ _ (by show b ≠ w.heap.size + 1; omega)]
        exact HL2.out.grown.block b hb hne

end Go.Proofs.YtfokiijcpkhllaaDoor
