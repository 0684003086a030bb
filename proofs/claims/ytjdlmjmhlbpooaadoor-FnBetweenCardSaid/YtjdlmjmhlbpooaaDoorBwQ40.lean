/- Walk: the parts of a graph, both answers (PartsOf). -/
import Derived.Test.YtjdlmjmhlbpooaaDoorBwQ39
import Derived.Test.YtjdlmjmhlbpooaaDoorBwQ35
import Derived.Test.YtjdlmjmhlbpooaaDoorBwQ13
import Derived.Test.YtjdlmjmhlbpooaaDoorBwQ30
namespace Go.Proofs.YtjdlmjmhlbpooaaDoor
open Go.RowKit

/-- What both answer. -/
def PtS (g : List (List Int)) (gg : List (List Int)) : Prop :=
  (GOk g ∧ ∃ ps, Parts (ofG g) (List.range g.length) ps ∧ gg = ps.map natInts) ∨ (¬ GOk g ∧ gg = [])
theorem ptS_det {g gg hh : List (List Int)} (h : PtS g gg) (h2 : PtS g hh) : gg = hh := by
  rcases h with ⟨hg, ps, h, rfl⟩ | ⟨hg, rfl⟩ <;> rcases h2 with ⟨hg2, qs, h2, rfl⟩ | ⟨hg2, rfl⟩
  · rw [parts_det h h2]
  · exact absurd hg hg2
  · exact absurd hg2 hg
  · rfl

set_option maxRecDepth 100000 in
set_option maxHeartbeats 2000000 in
theorem specPartsOf_any (v : Value) (g : List (List Int)) (w : World) (hg : Gr w v g) :
    Calls Tryd.prog 21 #[v] w fun e w' => ∃ (u : Value) (gg : List (List Int)), e = .returned u ∧ PtS g gg ∧ SG w' w.heap.size (.agg #[u]) gg ∧ gg.length ≤ 16 ∧ (∀ j, (row gg j).length ≤ 16) ∧ Below w.heap.size w w' := by
  have hg0 := hg
  obtain ⟨u, rfl, hr⟩ := hg
  obtain ⟨p, c, rfl, _⟩ := hr.shape
  have hbA := Lib.hid (below_alloc w (.cells #[.slice p g.length c] 29))
  have HG := Lib.hid (hg0.below hbA.out)
  have BX := Lib.hid (Box.new w (.slice p g.length c) 29)
  clear hr hg0
  by_cases hok : GOk g
  case neg =>
    have hd := Lib.hid (dec_false hok)
    have Hok := Lib.hid hok
    clear hok
    go_enter Tryd.func21, Tryd.ntmps21
    go_wp2_with (go_at_call 29; refine (specGraphOk_any _ g _ HG.out).mono ?_; rintro e w2 ⟨he, hb2⟩; rw [hd.out] at he; subst he)
    go_ret
    have hb2' := hbA.out.trans (hb2.mono hbA.out.size)
    exact ⟨_, [], rfl, .inr ⟨Hok.out, rfl⟩, ⟨_, [], rfl, rfl, ownsRow_base (ownsRow_empty w2 _ 1) hb2'.size, fun j hj => by simp at hj⟩, by simp, fun j => by simp [row], hb2'.trans ((below_alloc w2 _).mono hb2'.size)⟩
  have hd := Lib.hid (dec_true hok)
  have h16 := hok.le
  have HOK := Lib.hid hok
  clear hok
  go_enter Tryd.func21, Tryd.ntmps21
  go_upto_region 3 with (go_at_call 29; refine (specGraphOk_any _ g _ HG.out).mono ?_; rintro e w2 ⟨he, hb2⟩; rw [hd.out] at he; subst he)
  have hbx := (BX.out.keep hb2).cell
  have HG2 := Lib.hid (HG.out.below hb2)
  have HB2 := Lib.hid (hbA.out.trans (hb2.mono hbA.out.size))
  clear hb2
  go_cut [2] (fun s wx => ∃ (ps : List (List Nat)), Parts (ofG g) (List.range g.length) ps ∧ SG wx w2.heap.size (.agg #[s]) (ps.map natInts) ∧ ps.length ≤ 16 ∧ (∀ l ∈ ps, l.Pairwise (· < ·) ∧ ∀ x ∈ l, x ∈ List.range g.length) ∧ Below w2.heap.size w2 wx)
  case first =>
    go_region_held3 (fun w' => w'.cell? ⟨w.heap.size, 0, none⟩ = some (.slice p g.length c))
      (first | go_keep | exact hbx | exact BWC.at' hbx | exact BWB.at' hbx | exact BWA.at' hbx)
      (first
        | (go_at_call 72; refine (l3Parts_any _ _ g (List.range g.length) HOK.out (by rw [List.length_range]; exact h16) List.pairwise_lt_range (fun x hx => List.mem_range.1 hx) _ (HG2.out.below BWB) HL.out).mono ?_; rintro e w5 ⟨r, ps, rfl, hp5, hs5, hl5, hm5, hb5⟩; have HP5 := Lib.hid (And.intro hp5 (And.intro hl5 hm5)); have HS5 := Lib.hid (sg_base hs5 BWB.size); have BWC : Below w2.heap.size w2 w5 := BWB.trans (hb5.mono BWB.size); clear hp5 hs5 hl5 hm5 hb5)
        | (go_at_call 73; refine (l1All_any _ g.length rfl (by omega) _).mono ?_; rintro e w4 ⟨lv, rfl, ho4, hb4⟩; have HL := Lib.hid (Nums.of_owns ho4 (by rw [natInts_length, List.length_range]) (by omega)); have BWB : Below w2.heap.size w2 w4 := BWA.trans (hb4.mono BWA.size); clear ho4 hb4)
        | (go_at_call 53; refine (l1Size_any _ g _ (by first | exact HG2.out.below (below_dN (Below.refl _ _) 1))).mono ?_; rintro e w3 ⟨rfl, hb3⟩; have BWA : Below w2.heap.size w2 w3 := (below_dN (Below.refl _ _) 1).trans hb3; clear hb3))
    all_goals go_wp2
    all_goals go_meet
    all_goals exact ⟨ps, HP5.out.1, HS5.out, HP5.out.2.1, HP5.out.2.2, BWC⟩
  case rest =>
    obtain ⟨ps, hp, hs, hl, hm, hb⟩ := hcut
    have HP := Lib.hid hp
    have HS := Lib.hid hs
    have HM := Lib.hid hm
    have HBX := Lib.hid hb
    clear hp hs hm hb
    go_wp2
    go_ret
    refine ⟨_, ps.map natInts, rfl, .inl ⟨HOK.out, ps, HP.out, rfl⟩, sg_base HS.out HB2.out.size, by rw [List.length_map]; exact hl, fun j => ?_, HB2.out.trans (HBX.out.mono HB2.out.size)⟩
    by_cases hj : j < ps.length
    · have e : row (ps.map natInts) j = natInts ps[j] := by simp [row, hj]
      rw [e, natInts_length]
      have h3 := HM.out ps[j] (List.getElem_mem hj)
      have := rising_sub_len List.pairwise_lt_range h3.1 h3.2
      rw [List.length_range] at this
      omega
    · have e : row (ps.map natInts) j = [] := by simp [row, hj]
      rw [e]; simp

set_option maxRecDepth 100000 in
set_option maxHeartbeats 2000000 in
theorem implPartsOf_any (v : Value) (g : List (List Int)) (w : World) (hg : Gr w v g) (hT : Tab w) :
    Calls Tryd.prog 25 #[v] w fun e w' => ∃ (u : Value) (gg : List (List Int)), e = .returned u ∧ PtS g gg ∧ DG w' w.heap.size (.agg #[u]) gg ∧ gg.length ≤ 32 ∧ (∀ j, (row gg j).length ≤ 16) ∧ Below w.heap.size w w' := by
  have hg0 := hg
  obtain ⟨u, rfl, hr⟩ := hg
  obtain ⟨p, c, rfl, _⟩ := hr.shape
  have hbA := Lib.hid (below_alloc w (.cells #[.slice p g.length c] 29))
  have HG := Lib.hid (hg0.below hbA.out)
  have BX := Lib.hid (Box.new w (.slice p g.length c) 29)
  have HT := Lib.hid (hT.keep hbA.out)
  clear hr hg0 hT
  by_cases hok : GOk g
  case neg =>
    have hd := dec_false hok
    have Hok := Lib.hid hok
    clear hok
    go_enter Tryd.func25, Tryd.ntmps25
    go_wp2_with (go_at_call 32; refine (implGraphOk_any _ g _ HG.out).mono ?_; rintro e w2 ⟨he, hb2⟩; rw [hd] at he; subst he)
    go_ret
    exact ⟨_, [], rfl, .inr ⟨Hok.out, rfl⟩, ⟨_, [], rfl, rfl, World.ownsRow_nil _ _ _ _, ⟨fun j hj => by simp at hj, fun i j hi => by simp at hi⟩⟩, by simp, fun j => by simp [row], hbA.out.trans (hb2.mono hbA.out.size)⟩
  have hd := dec_true hok
  have h16 := hok.le
  have HOK := Lib.hid hok
  obtain ⟨W, hW⟩ : ∃ W, W = 2 ^ g.length - 1 := ⟨_, rfl⟩
  have HW := Lib.hid hW
  clear hok hW
  obtain ⟨aW1, aW2, aW3⟩ := all_lt h16 HW.out
  have AW1 := Lib.hid aW1
  have AW2 := Lib.hid aW2
  have hbits := Lib.hid (bits_all h16 HW.out)
  clear aW1 aW2 aW3
  go_enter Tryd.func25, Tryd.ntmps25
  go_wp2_with (first
    | (go_at_call 82; refine (results_any _ (mskL ps) (fun s hs => by have := mskL_lt h16 HLT.out s hs; omega) (by rw [mskL_length]; omega) _ HSL.out HT6.out).mono ?_; rintro e w7 ⟨rv, rfl, hd7, hb7⟩)
    | (go_at_call 83; refine (partsOf_any _ _ g.length (ofG g) W rfl AW1.out AW2.out _ HNE.out ((HT.out.keep hb2).keep hb3)).mono ?_; rintro e w6 ⟨ov, ps, rfl, hP, ho6, hpl, hlt6, hT6, hb6⟩; have HP := Lib.hid hP; have HLT := Lib.hid hlt6; have HT6 := Lib.hid hT6; have HSL : Hid (Sl w6 69 ov (mskL ps).length ((mskL ps).map u32v)) := Lib.hid (by rw [mskL_length]; exact Sl.of_owns ho6 (by omega)); clear hP ho6 hlt6 hT6)
    | (go_at_call 60; refine (all_any _ _ _ (by omega) _).mono ?_; rintro e wA ⟨he, rfl⟩; rw [← HW.out] at he; subst he)
    | (go_at_call 57; refine (netsOf_any _ g _ (HG.out.below hb2) HOK.out).mono ?_; rintro e w3 ⟨x, rfl, hown3, hb3⟩; obtain ⟨xp, xc, rfl⟩ := owns_shapeA hown3; have HNE : Hid (NE w3 (.slice xp g.length xc) g.length (ofG g)) := Lib.hid ⟨h16, by rw [indN_ofG HOK.out]; exact Sl.of_owns hown3 (by omega)⟩; clear hown3)
    | (go_at_call 32; refine (implGraphOk_any _ g _ HG.out).mono ?_; rintro e w2 ⟨he, hb2⟩; rw [hd] at he; subst he; have hbx := (BX.out.keep hb2).cell))
  go_ret
  have hP := HP.out
  rw [hbits.out] at hP
  rw [rowsOf_mskL h16 HLT.out] at hd7
  have hb23 := (hbA.out.trans (hb2.mono hbA.out.size)).trans (hb3.mono (Nat.le_trans hbA.out.size hb2.size))
  refine ⟨_, _, rfl, .inl ⟨HOK.out, ps, hP, rfl⟩, hd7.base (Nat.le_trans hb23.size hb6.size), by rw [List.length_map]; exact hpl, fun j => ?_, (hb23.trans (hb6.mono hb23.size)).trans (hb7.mono (Nat.le_trans hb23.size hb6.size))⟩
  by_cases hj : j < ps.length
  · have e : row (ps.map natInts) j = natInts ps[j] := by simp [row, hj]
    rw [e, natInts_length]
    have h3 := HLT.out ps[j] (List.getElem_mem hj)
    have := rising_sub_len (L := List.range g.length) List.pairwise_lt_range h3.1 fun x hx => List.mem_range.2 (h3.2 x hx)
    rw [List.length_range] at this
    omega
  · simp [row, show ps.length ≤ j by omega]

end Go.Proofs.YtjdlmjmhlbpooaaDoor

/- Walks: the laws' own tests of lists: has, alike, all alike; a rising list with one more. -/
namespace Go.Proofs.YtjdlmjmhlbpooaaDoor
open Go.RowKit

set_option maxRecDepth 100000 in
set_option maxHeartbeats 400000 in
theorem w9Has_any (v : Value) (xs : List Int) (n : Int) (w : World) (hx : Nums w 2 .i64 v xs) :
    Calls Tryd.prog 44 #[v, .int .i64 n] w fun e w' => e = .returned (.bool (dec (n ∈ xs))) ∧ w = w' := by
  obtain ⟨p, c, rfl, _, _, hn, hat⟩ := hx
  go_enter Tryd.func44, Tryd.ntmps44
  go_wp2
  go_loop [5] (fun i => ∃ k : Nat, k ≤ xs.length ∧ i = .int .i64 k ∧ n ∉ xs.take k) (fun i => xs.length - (intOf i).toNat)
  case atStart => exact ⟨0, Nat.zero_le _, rfl, by simp⟩
  case round =>
    obtain ⟨k, hk, rfl, hnk⟩ := hrel
    by_cases hlt : k < xs.length
    · obtain ⟨b, o, rfl, hcell⟩ := hat.num hlt
      clear hat
      by_cases he : xs[k] = n
      · have he' : (xs[k] == n) = true := by simpa using he
        have H := Lib.hid he
        clear he
        go_wp2
        go_ret
        exact ⟨ret_bool (true_dec (mem_of_getElem hlt H.out)), rfl⟩
      · have he' : (xs[k] == n) = false := by simpa using he
        go_wp2
        go_round
        case rel => exact ⟨k + 1, by omega, by go_num, not_mem_take_succ hlt hnk he⟩
        case measure => simp [intOf]; omega
    · obtain rfl : k = xs.length := by omega
      go_wp2
      go_ret
      rw [List.take_length] at hnk
      exact ⟨ret_bool (false_dec hnk), rfl⟩

set_option maxRecDepth 100000 in
set_option maxHeartbeats 1000000 in
theorem likeQ_any (u v : Value) (xs ys : List Int) (w : World) (hx : Nums w 2 .i64 u xs) (hy : Nums w 2 .i64 v ys) :
    Calls Tryd.prog 84 #[u, v] w fun e w' => e = .returned (.bool (dec (xs = ys))) ∧ ∃ q, w' = w.drewN q := by
  obtain ⟨p, c, rfl, hp, _, hn, hat⟩ := hx
  obtain ⟨p', c', rfl, hp', _, hn', hat'⟩ := hy
  by_cases hl : xs.length = ys.length
  case neg =>
    have hl' : ((xs.length : Int) != (ys.length : Int)) = true := by simp; omega
    go_enter Tryd.func84, Tryd.ntmps84
    go_wp2
    go_ret
    exact ⟨ret_bool (false_dec fun h => hl (by rw [h])), 0, rfl⟩
  have Hl := Lib.hid hl
  have hl' : ((xs.length : Int) != (ys.length : Int)) = false := by simp; omega
  clear hl
  go_enter Tryd.func84, Tryd.ntmps84
  go_wp2
  go_loopw [5] (fun i wr => ∃ k : Nat, k ≤ xs.length ∧ i = .int .i64 k ∧ xs.take k = ys.take k ∧ ∃ q, wr = w.drewN q) (fun i _ => xs.length - (intOf i).toNat)
  case atStart => exact ⟨0, Nat.zero_le _, rfl, by simp, 0, rfl⟩
  case round =>
    obtain ⟨k, hk, rfl, heq, q, rfl⟩ := hrel
    have Heq := Lib.hid heq
    clear heq
    by_cases hlt : k < xs.length
    · have hlt' : k < ys.length := by have := Hl.out; omega
      obtain ⟨b, o, rfl, hcell⟩ := hat.num hlt
      obtain ⟨b', o', rfl, hcell'⟩ := hat'.num hlt'
      clear hat hat'
      have e0 : (0 : Int) ≤ (k : Int) := by omega
      have e1 : (k : Int) < (xs.length : Int) := by omega
      have e2 : (k : Int) < (ys.length : Int) := by omega
      by_cases he : xs[k] = ys[k]
      · have he' : (xs[k] != ys[k]) = false := by simpa using he
        have He := Lib.hid he
        clear he
        go_wp2
        go_quiet (fail)
        go_wp2
        go_roundw
        case rel => exact ⟨k + 1, by omega, by go_num, by rw [take_snoc xs k hlt, take_snoc ys k hlt', Heq.out, He.out], _, rfl⟩
        case measure => simp [intOf]; omega
      · have he' : (xs[k] != ys[k]) = true := by simpa using he
        have He := Lib.hid he
        clear he
        go_wp2
        go_quiet (fail)
        go_wp2
        go_ret
        exact ⟨ret_bool (false_dec fun h => He.out (by subst h; rfl)), _, World.drewN_drewN _ _ _⟩
    · obtain rfl : k = xs.length := by omega
      go_wp2
      go_ret
      refine ⟨ret_bool (true_dec ?_), q, rfl⟩
      have h := Heq.out
      rwa [List.take_length, Hl.out, List.take_length] at h

theorem likeInts_any (u v : Value) (xs ys : List Int) (w : World) (hx : Nums w 2 .i64 u xs) (hy : Nums w 2 .i64 v ys) :
    Calls Tryd.prog 84 #[u, v] w fun e w' => e = .returned (.bool (dec (xs = ys))) ∧ Below w.heap.size w w' :=
  (likeQ_any u v xs ys w hx hy).mono fun _ _ ⟨h1, q, h2⟩ => ⟨h1, h2 ▸ below_dN (Below.refl _ _) q⟩

theorem intoL_app {v x : Int} : ∀ {l : List Int}, (∃ y ∈ l, ¬ y < v) → intoL (l ++ [x]) v = intoL l v ++ [x]
  | [], h => by obtain ⟨y, hy, _⟩ := h; simp at hy
  | a :: l, h => by
    rw [List.cons_append]
    unfold intoL
    by_cases h1 : a < v
    · rw [if_pos h1, if_pos h1, intoL_app (l := l) (by
        obtain ⟨y, hy, h2⟩ := h
        rcases List.mem_cons.1 hy with rfl | hy
        · exact absurd h1 h2
        · exact ⟨y, hy, h2⟩)]
      rfl
    · rw [if_neg h1, if_neg h1]
      split <;> rfl
theorem intoL_low {v : Int} : ∀ {l : List Int}, (∀ y ∈ l, y < v) → intoL l v = l ++ [v]
  | [], _ => rfl
  | a :: l, h => by
    unfold intoL
    rw [if_pos (h a (List.mem_cons_self ..)), intoL_low fun y hy => h y (List.mem_cons_of_mem _ hy)]
    rfl
theorem intoL_at {v : Int} : ∀ {l : List Int}, (∀ y ∈ l, y < v) → intoL (l ++ [v]) v = l ++ [v]
  | [], _ => by simp [intoL]
  | a :: l, h => by
    rw [List.cons_append]
    unfold intoL
    rw [if_pos (h a (List.mem_cons_self ..)), intoL_at fun y hy => h y (List.mem_cons_of_mem _ hy)]
theorem intoL_up {v x : Int} (hx : v < x) : ∀ {l : List Int}, (∀ y ∈ l, y < v) → intoL (l ++ [x]) v = l ++ [v] ++ [x]
  | [], _ => by
    have h1 : ¬ x < v := by omega
    have h2 : ¬ x = v := by omega
    simp [intoL, h1, h2]
  | a :: l, h => by
    rw [List.cons_append]
    unfold intoL
    rw [if_pos (h a (List.mem_cons_self ..)), intoL_up hx fun y hy => h y (List.mem_cons_of_mem _ hy)]
    rfl

end Go.Proofs.YtjdlmjmhlbpooaaDoor

/- What a law's bytes read as. -/
namespace Go.Proofs.YtjdlmjmhlbpooaaDoor
open Go.RowKit

def ArgB (w : World) (v : Value) (bs : List Int) : Prop := ∃ p c, v = .slice p bs.length c ∧ bs.length ≤ 9223372036854775807 ∧ (∀ x ∈ bs, 0 ≤ x ∧ x ≤ 255) ∧ Cl w p (bs.map (Value.int .u8))
theorem ArgB.below {w w' : World} {v : Value} {bs : List Int} (h : ArgB w v bs) (hb : Below w.heap.size w w') : ArgB w' v bs := by
  obtain ⟨p, c, h1, h2, h3, h4⟩ := h
  exact ⟨p, c, h1, h2, h3, h4.below hb⟩
theorem ArgB.get {w : World} {p : Option Addr} {n c : Nat} {bs : List Int} (h : ArgB w (.slice p n c) bs) {k : Nat} (hk : k < bs.length) :
    ∃ b o, p = some ⟨b, o, none⟩ ∧ w.cell? ⟨b, o + k, none⟩ = some (.int .u8 bs[k]) ∧ 0 ≤ bs[k] ∧ bs[k] ≤ 255 := by
  obtain ⟨p', c', e, _, h3, h4⟩ := h
  cases e
  rcases h4 with h4 | ⟨b, o, rfl, h5⟩
  · rw [List.map_eq_nil_iff] at h4
    subst h4
    simp at hk
  · refine ⟨b, o, rfl, h5 k _ (by simp [hk]), h3 _ (List.getElem_mem hk)⟩

end Go.Proofs.YtjdlmjmhlbpooaaDoor
