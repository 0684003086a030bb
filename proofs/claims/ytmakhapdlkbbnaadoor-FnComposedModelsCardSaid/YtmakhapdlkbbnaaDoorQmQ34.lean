/- Plain: a model of a model is a model. -/
import Derived.Test.YtmakhapdlkbbnaaDoorQmQ33
import Derived.Test.YtmakhapdlkbbnaaDoorQmQ17
namespace Go.Proofs.YtmakhapdlkbbnaaDoor

theorem connL_all {E : Nat → Nat → Bool} (hE : ∀ r j, E r j = true → E j r = true) {L : List Nat} (h : ConnL E L) {x y : Nat} (hx : x ∈ L) (hy : y ∈ L) : Rch E (· ∈ L) x y := by
  have h0 : L.headD 0 ∈ L := by
    cases L with
    | nil => exact absurd rfl h.1
    | cons a L => simp
  exact rch_trans (rch_sym hE h0 (h.2 x hx)) (h.2 y hy)
theorem connL_of {E : Nat → Nat → Bool} {L : List Nat} (h : L ≠ []) (h2 : ∀ x ∈ L, ∀ y ∈ L, Rch E (· ∈ L) x y) : ConnL E L := by
  refine ⟨h, fun x hx => h2 _ ?_ x hx⟩
  cases L with
  | nil => exact absurd rfl h
  | cons a L => simp
/-- All neighbours in the pattern are joined. -/
theorem mdOk_join {g p M : List (List Int)} (h : MdOk g p M) {i k : Nat} (hE : ofG p i k = true) : JoinP g (row M i) (row M k) := by
  have hp := h.1.1.2
  have hl := h.1.2
  have hk := ofG_to hp i k hE
  have hi := ofG_to hp k i (ofG_sym hp i k hE)
  rcases Nat.lt_trichotomy i k with hlt | rfl | hgt
  · exact h.2.2 (i, k) (mem_edN' hlt hk hE)
  · rw [ofG_irr hp] at hE; cases hE
  · exact joinP_sym h.1.1.1.1.1 (h.1.1.1.2 k (by omega)).1 (h.2.2 (k, i) (mem_edN' hgt hi (ofG_sym hp i k hE)))
theorem mdOk_conn {g p M : List (List Int)} (h : MdOk g p M) {a : Nat} (ha : a < M.length) {x y : Int} (hx : x ∈ row M a) (hy : y ∈ row M a) : Rch (ofG g) (· ∈ (row M a).map Int.toNat) x.toNat y.toNat :=
  connL_all (ofG_sym h.1.1.1.1.1) (h.2.1 a ha).2 (List.mem_map.2 ⟨x, hx, rfl⟩) (List.mem_map.2 ⟨y, hy, rfl⟩)
theorem mdOk_some {g p M : List (List Int)} (h : MdOk g p M) {a : Nat} (ha : a < M.length) : ∃ x, x ∈ row M a := by
  refine List.exists_mem_of_ne_nil _ fun e => (h.2.1 a ha).2.1 ?_
  rw [e]; rfl

theorem mdOk_comp {g p q M W R : List (List Int)} (h : MdOk g p M) (k : MdOk p q W) (hR : CmpS M W R) : MdOk g q R := by
  have hg := h.1.1.1.1.1
  have hql : W.length = q.length := k.1.2
  have hRl : R.length = W.length := hR.1
  have hW : ∀ a, a < W.length → ∀ z ∈ row W a, 0 ≤ z ∧ z.toNat < M.length := fun a ha z hz => by
    have := (k.1.1.1.2 a ha).1.1 z hz
    have := h.1.2
    omega
  have hin : ∀ a, a < W.length → SetIn g.length (row R a) := fun a ha => by
    refine ⟨fun x hx => ?_, (hR.2 a ha).1⟩
    obtain ⟨z, hz, hxz⟩ := ((hR.2 a ha).2 x).1 hx
    exact (h.1.1.1.2 z.toNat (hW a ha z hz).2).1.1 x hxz
  -- two sets of the model that meet are one
  have hone : ∀ i j, i < M.length → j < M.length → ∀ x, x ∈ row M i → x ∈ row M j → i = j := fun i j hi hj x h1 h2 => by
    rcases Nat.lt_trichotomy i j with hlt | e | hgt
    · exact absurd h1 ((h.1.1.1.2 j hj).2 i hlt x h2)
    · exact e
    · exact absurd h2 ((h.1.1.1.2 i hi).2 j hgt x h1)
  refine ⟨⟨⟨⟨⟨hg, by rw [hRl]; exact k.1.1.1.1.2⟩, fun a ha => ?_⟩, k.1.1.2⟩, by rw [hRl, hql]⟩, fun a ha => ?_, fun e he => ?_⟩
  · rw [hRl] at ha
    refine ⟨hin a ha, fun b hb x hx hxb => ?_⟩
    have hb2 : b < W.length := by omega
    obtain ⟨z, hz, hxz⟩ := ((hR.2 a ha).2 x).1 hx
    obtain ⟨y, hy, hxy⟩ := ((hR.2 b hb2).2 x).1 hxb
    have h1 := hW a ha z hz
    have h2 := hW b hb2 y hy
    have e := hone _ _ h1.2 h2.2 x hxz hxy
    have e2 : z = y := by omega
    subst e2
    exact (k.1.1.1.2 a ha).2 b hb z hz hy
  · rw [hRl] at ha
    have hmem : ∀ {z x : Int}, z ∈ row W a → x ∈ row M z.toNat → x ∈ row R a := fun hz hx => ((hR.2 a ha).2 _).2 ⟨_, hz, hx⟩
    have hmono : ∀ {z x y : Int}, z ∈ row W a → x ∈ row M z.toNat → y ∈ row M z.toNat → Rch (ofG g) (· ∈ (row R a).map Int.toNat) x.toNat y.toNat := fun {z x y} hz hx hy =>
      rch_mono (fun t ht => by
        obtain ⟨s, hs, rfl⟩ := List.mem_map.1 ht
        exact List.mem_map.2 ⟨s, hmem hz hs, rfl⟩) _ (mdOk_conn h (hW a ha z hz).2 hx hy)
    -- from one set on to all others
    have hto : ∀ z0 ∈ row W a, ∀ x0 ∈ row M z0.toNat, ∀ t, Rch (ofG p) (· ∈ (row W a).map Int.toNat) z0.toNat t → ∀ x ∈ row M t, Rch (ofG g) (· ∈ (row R a).map Int.toNat) x0.toNat x.toNat := by
      intro z0 hz0 x0 hx0 t ht
      have hz0in : z0.toNat ∈ (row W a).map Int.toNat := List.mem_map.2 ⟨z0, hz0, rfl⟩
      induction ht with
      | base => exact fun x hx => hmono hz0 hx0 hx
      | step h1 h2 h3 ih =>
        rename_i u v
        intro x hx
        obtain ⟨zu, hzu, e1⟩ := List.mem_map.1 (rch_in (S := (· ∈ (row W a).map Int.toNat)) hz0in _ h1)
        obtain ⟨zv, hzv, e2⟩ := List.mem_map.1 h3
        obtain ⟨s, hs, y, hy, hsy⟩ := mdOk_join h h2
        have hs0 := (h.1.1.1.2 u (by have := hW a ha zu hzu; omega)).1.1 s hs
        have hy0 := (h.1.1.1.2 v (by have := hW a ha zv hzv; omega)).1.1 y hy
        subst e1; subst e2
        refine rch_trans (ih s hs) (rch_trans (.step .base (y := y.toNat) ?_ ?_) (hmono hzv hy hx))
        · simp only [ofG, decide_eq_true_eq]
          rw [show ((y.toNat : Nat) : Int) = y by omega]
          exact hsy
        · exact List.mem_map.2 ⟨y, hmem hzv hy, rfl⟩
    refine ⟨⟨hg, hin a ha⟩, connL_of ?_ fun x hx y hy => ?_⟩
    · obtain ⟨z, hz⟩ := mdOk_some k ha
      obtain ⟨x, hx⟩ := mdOk_some h (hW a ha z hz).2
      exact List.ne_nil_of_mem (List.mem_map.2 ⟨x, hmem hz hx, rfl⟩)
    · obtain ⟨s, hs, rfl⟩ := List.mem_map.1 hx
      obtain ⟨t, ht, rfl⟩ := List.mem_map.1 hy
      obtain ⟨zs, hzs, hss⟩ := ((hR.2 a ha).2 s).1 hs
      obtain ⟨zt, hzt, htt⟩ := ((hR.2 a ha).2 t).1 ht
      exact hto zs hzs s hss zt.toNat (mdOk_conn k ha hzs hzt) t htt
  · obtain ⟨h1, h2, h3, h4⟩ := mem_edN (Nat.le_refl _) he
    obtain ⟨zx, hzx, zy, hzy, hj⟩ := k.2.2 e he
    have hx0 := hW e.1 (by omega) zx hzx
    have hy0 := hW e.2 (by omega) zy hzy
    obtain ⟨x, hx, y, hy, hxy⟩ := mdOk_join h (i := zx.toNat) (k := zy.toNat) (by
      simp only [ofG, decide_eq_true_eq]
      rw [show ((zy.toNat : Nat) : Int) = zy by omega]
      exact hj)
    exact ⟨x, ((hR.2 e.1 (by omega)).2 x).2 ⟨zx, hzx, hx⟩, y, ((hR.2 e.2 (by omega)).2 y).2 ⟨zy, hzy, hy⟩, hxy⟩

/-- A pattern's neighbours are neighbours in what a model makes. -/
theorem quot_has {g p M : List (List Int)} (h : MdOk g p M) {v : Nat} {y : Int} (hv : v < p.length) (hy : y ∈ row p v) : y ∈ row (matG M.length (jnE g M)) v := by
  have hp := h.1.1.2
  have h0 := (hp.sets v hv).1.1 y hy
  have hl := h.1.2
  rw [mem_matG (by omega)]
  refine ⟨y.toNat, by omega, by omega, dec_true ⟨fun e => ?_, ?_⟩⟩
  · have := (hp.sets v hv).2
    have e2 : (v : Int) = y := by omega
    rw [e2] at this
    exact this hy
  · refine mdOk_join h ?_
    simp only [ofG, decide_eq_true_eq]
    rw [show ((y.toNat : Nat) : Int) = y by omega]
    exact hy

end Go.Proofs.YtmakhapdlkbbnaaDoor

/- Walks: the reference's search of a model: going on from the beginning of a word. -/
namespace Go.Proofs.YtmakhapdlkbbnaaDoor
open Go.RowKit

/-- What the search returns. -/
def FndR (w' : World) (u : Value) (ok : Bool) (o : Option (List Nat)) : Prop :=
  match o with
  | some x => ok = true ∧ Nums w' 2 .i64 u (natInts x)
  | none => ok = false

def FndE (e : Ending) (w' : World) (o : Option (List Nat)) : Prop := ∃ (u : Value) (ok : Bool), e = .returned (.tuple #[u, .bool ok]) ∧ FndR w' u ok o
theorem grown_dNK {w w' : World} {r : Option Nat} {n : Nat} (h : (w.drewN n).grownBy w' r) : w.grownBy w' r := ⟨h.os, h.tape, h.output, h.size, h.block⟩
theorem grown_transK {w w1 w2 : World} {r : Option Nat} (h : w.grownBy w1 r) (h2 : w1.grownBy w2 r) : w.grownBy w2 r :=
  ⟨h2.os.trans h.os, h2.tape.trans h.tape, h2.output.trans h.output, Nat.le_trans h.size h2.size, fun k hk hne => (h2.block k (Nat.lt_of_lt_of_le hk h.size) hne).trans (h.block k hk hne)⟩
/-- Behind a second step too all but one block is as it was. -/
theorem grown_transB {w0 w w' : World} {rb r : Option Nat} (h : w0.grownBy w rb) (h2 : w.grownBy w' r) (hr : ∀ k, r = some k → rb = some k ∨ w0.heap.size ≤ k) : w0.grownBy w' rb :=
  ⟨h2.os.trans h.os, h2.tape.trans h.tape, h2.output.trans h.output, Nat.le_trans h.size h2.size, fun k hk hne => (h2.block k (Nat.lt_of_lt_of_le hk h.size) fun e => by
    rcases hr k e.symm with h5 | h5
    · exact hne h5.symm
    · omega).trans (h.block k hk hne)⟩
theorem own_newK {w0 : World} {n b m c : Nat} {v : Value} {rb : Option Nat} (hs : w0.heap.size ≤ n) (h : ∀ k, v.ownBlock = some k → rb = some k ∨ w0.heap.size ≤ k) (hb : v.ownBlock = some b ∨ n ≤ b) : ∀ q, (Value.slice (some ⟨b, 0, none⟩) m c).ownBlock = some q → rb = some q ∨ w0.heap.size ≤ q := fun q hq => by
  simp only [Value.ownBlock, Option.some.injEq] at hq
  subst hq
  rcases hb with hb | hb
  · exact h _ hb
  · exact .inr (by omega)
theorem one_ints {K : IntKind} (l : List Int) : ∀ x ∈ l.map (Value.int K), x.oneCell' = true := fun x hx => by
  obtain ⟨y, _, rfl⟩ := List.mem_map.1 hx
  rfl

set_option maxRecDepth 100000 in
set_option maxHeartbeats 4000000 in
theorem l21Find_any (v pv : Value) (g p : List (List Int)) (hok : GOk g) (hp : GOk p) (w0 : World) (rb : Option Nat) (hro : ∀ w', w0.grownBy w' rb → Nums w' 2 .i64 v (natInts (netL g)) ∧ Gr w' pv p) :
    ∀ (r : Nat) (wd : List Nat) (xv : Value) (w : World), wd.length + r = g.length → (∀ x ∈ wd, x ≤ p.length) → w0.grownBy w rb → (∀ k, xv.ownBlock = some k → rb = some k ∨ w0.heap.size ≤ k) → w.ownsRow 0 2 1 xv wd.length ((natInts wd).map (Value.int .i64)) →
    Calls Tryd.prog 121 #[v, pv, xv] w fun e w' => FndE e w' (findN p.length (FitW p.length (ofG g) (ofG p)) r wd) ∧ w'.ownsRow 0 2 1 xv wd.length ((natInts wd).map (Value.int .i64)) ∧ w.grownBy w' xv.ownBlock := by
  have h16 := hok.le
  have hm16 := hp.le
  have HOK := Lib.hid hok
  have HP := Lib.hid hp
  obtain ⟨hn, hg⟩ := hro w0 (World.grownBy.refl _ _)
  have HNL : Hid ((natInts (netL g)).length = g.length) := Lib.hid (by rw [natInts_length]; simp [netL])
  obtain ⟨np, nc, rfl, _⟩ := id hn.shape
  obtain ⟨pu, rfl, hr⟩ := hg
  obtain ⟨pp, pc, rfl, _⟩ := hr.shape
  have HRO := Lib.hid hro
  rw [HNL.out] at HRO ⊢
  clear hn hr hok hp hro
  intro r
  induction r with
  | zero =>
    intro wd xv w hl hm hb hbk hown
    obtain ⟨xp, xc, rfl⟩ := owns_shapeK hown
    obtain ⟨W1, hW1⟩ : ∃ W1, W1 = w.alloc (.cells #[.slice pp p.length pc] 29) := ⟨_, rfl⟩
    have HBA : Hid (Below w.heap.size w W1) := Lib.hid (by rw [hW1]; exact below_alloc _ _)
    have BX : Hid (Box W1 w.heap.size 29 (.slice pp p.length pc)) := Lib.hid (by rw [hW1]; exact Box.new _ _ _)
    have HB1 : Hid (w0.grownBy W1 rb) := Lib.hid (grown_transB hb (grown_of_below HBA.out none) (fun k hk => by cases hk))
    have HN := Lib.hid (HRO.out W1 HB1.out).1
    have HG := Lib.hid (HRO.out W1 HB1.out).2
    have HOW := Lib.hid hown
    have HXS : Hid (Sl W1 2 (.slice xp wd.length xc) wd.length ((natInts wd).map (Value.int .i64))) := Lib.hid (Sl.of_owns (ownsRow_below hown HBA.out) (by omega))
    have HX : Hid (Nums W1 2 .i64 (.slice xp wd.length xc) (natInts wd)) := Lib.hid (Nums.of_owns (ownsRow_below hown HBA.out) (by rw [natInts_length]) (by omega))
    have HM := Lib.hid hm
    have hw16 : wd.length ≤ 16 := by omega
    have HWL : Hid (wd.length = g.length) := Lib.hid (by omega)
    have hcx := BX.out.cell
    rw [← HWL.out] at HN ⊢
    have HL1 := Lib.hid (l21Lacks_any (.slice xp wd.length xc) wd p.length p.length rfl (by omega) W1 HX.out)
    have hlkm := lackW_le p.length wd
    clear hown hb hm hl hbk
    by_cases hlk : 0 < lackW p.length wd
    · have HF := Lib.hid (findN_lack (Fit := FitW p.length (ofG g) (ofG p)) hlk)
      generalize lackW p.length wd = lk at hlk HL1 hlkm
      have hlki : (0 : Int) < (lk : Int) := by omega
      go_enter Tryd.func121, Tryd.ntmps121
      go_upto_region 1 with fail
      rw [← hW1]
      clear hW1
      go_wp2_with (go_at_call 189; refine HL1.out.mono ?_; rintro e w5 ⟨rfl, hw5⟩; subst hw5)
      go_ret2
      refine ⟨⟨_, false, rfl, by rw [HF.out]; rfl⟩, ?_, ?_⟩
      · exact (ownsRow_below HOW.out HBA.out).alloc _
      · exact grown_of_below (HBA.out.alloc HBA.out.size _) _
    · have HF := Lib.hid (findN_leaf (Fit := FitW p.length (ofG g) (ofG p)) hlk)
      generalize lackW p.length wd = lk at hlk HL1 hlkm
      have hlki : ¬ (0 : Int) < (lk : Int) := by omega
      go_enter Tryd.func121, Tryd.ntmps121
      go_upto_region 1 with fail
      rw [← hW1]
      clear hW1
      go_upto_region 5 with (go_at_call 189; refine HL1.out.mono ?_; rintro e w5 ⟨rfl, hw5⟩; subst hw5)
      obtain ⟨fb, hfb⟩ : ∃ fb, fb = dec (FitW p.length (ofG g) (ofG p) wd) := ⟨_, rfl⟩
      have HFB := Lib.hid hfb
      have ONE := Lib.hid (one_ints (K := .i64) (natInts wd))
      have LEN : Hid (((natInts wd).map (Value.int .i64)).length = wd.length) := Lib.hid (by simp [natInts])
      clear hfb
      go_cut [6, 7] (fun s6 s7 wx => Nums wx 2 .i64 s6 (natInts wd) ∧ s7 = .bool fb ∧ Below W1.heap.size W1 wx)
      case first =>
        go_region_held3 (fun w' => w'.cell? ⟨w.heap.size, 0, none⟩ = some (.slice pp p.length pc))
          (first | exact hcx | exact BWB.at' hcx | exact BWA.at' hcx | go_keep)
          (first
            | (go_at_call 190; refine (l1Copy_any _ wd.length _ ONE.out LEN.out _ (by first | exact HXS.out.below BWB | exact HXS.out.below (below_dN (Below.refl _ _) 1))).mono ?_; rintro e w3 ⟨u3, rfl, ho3, hb3⟩; have BWA : Below W1.heap.size W1 w3 := (by first | exact BWB.trans (hb3.mono BWB.size) | exact (below_dN (Below.refl _ _) 1).trans hb3); have HU3 : Hid (Nums w3 2 .i64 u3 (natInts wd)) := Lib.hid (Nums.of_owns ho3 (by rw [natInts_length]) (by omega)); clear ho3 hb3)
            | (go_at_call 191; refine (l21Fits_any _ _ _ g p HOK.out HP.out wd HWL.out HM.out _ (HN.out.below (by first | exact BWA | exact below_dN (Below.refl _ _) 1)) (HG.out.below (by first | exact BWA | exact below_dN (Below.refl _ _) 1)) (HX.out.below (by first | exact BWA | exact below_dN (Below.refl _ _) 1))).mono ?_; rintro e w4 ⟨he4, hb4⟩; rw [← HFB.out] at he4; subst he4; have BWB : Below W1.heap.size W1 w4 := (by first | exact BWA.trans (hb4.mono BWA.size) | exact (below_dN (Below.refl _ _) 1).trans hb4)))
        all_goals go_wp2
        all_goals go_meet
        all_goals first
          | exact ⟨HU3.out, rfl, BWA⟩
          | exact ⟨HU3.out.below hb4, rfl, BWB⟩
      case rest =>
      obtain ⟨hu, rfl, hbx⟩ := hcut
      have HU := Lib.hid hu
      have HBX := Lib.hid hbx
      clear hu hbx
      go_wp2_with fail
      go_ret2
      refine ⟨⟨_, fb, rfl, ?_⟩, ?_, ?_⟩
      · rw [HF.out, ← HFB.out]
        cases fb
        · exact rfl
        · exact ⟨rfl, HU.out⟩
      · exact ownsRow_below HOW.out (HBA.out.trans (HBX.out.mono HBA.out.size))
      · exact grown_of_below (HBA.out.trans (HBX.out.mono HBA.out.size)) _
  | succ r ih =>
    have HIH := Lib.hid ih
    clear ih
    intro wd xv w hl hm hb hbk hown
    obtain ⟨xp, xc, rfl⟩ := owns_shapeK hown
    obtain ⟨W1, hW1⟩ : ∃ W1, W1 = w.alloc (.cells #[.slice pp p.length pc] 29) := ⟨_, rfl⟩
    have HBA : Hid (Below w.heap.size w W1) := Lib.hid (by rw [hW1]; exact below_alloc _ _)
    have BX : Hid (Box W1 w.heap.size 29 (.slice pp p.length pc)) := Lib.hid (by rw [hW1]; exact Box.new _ _ _)
    have HB1 : Hid (w0.grownBy W1 rb) := Lib.hid (grown_transB hb (grown_of_below HBA.out none) (fun k hk => by cases hk))
    have HBK := Lib.hid hbk
    have HOW := Lib.hid hown
    have HOW1 := Lib.hid (ownsRow_below hown HBA.out)
    have HX : Hid (Nums W1 2 .i64 (.slice xp wd.length xc) (natInts wd)) := Lib.hid (Nums.of_owns (ownsRow_below hown HBA.out) (by rw [natInts_length]) (by omega))
    have HM := Lib.hid hm
    have HWL := Lib.hid hl
    have hcx := BX.out.cell
    have HNE : Hid (some w.heap.size ≠ (Value.slice xp wd.length xc).ownBlock) := Lib.hid (fun e => by have := (hown.lt _ e.symm).2; omega)
    have HL1 := Lib.hid (l21Lacks_any (.slice xp wd.length xc) wd p.length p.length rfl (by omega) W1 HX.out)
    have hlkm := lackW_le p.length wd
    have hws : IntKind.i64.wrap ((g.length : Int) - (wd.length : Int)) = (r : Int) + 1 := by rw [IntKind.wrap_i64]; omega
    have hwlt : wd.length < g.length := by omega
    clear hown hb hm hl hbk
    by_cases hlk : r + 1 < lackW p.length wd
    · have HF := Lib.hid (findN_lack (Fit := FitW p.length (ofG g) (ofG p)) hlk)
      generalize lackW p.length wd = lk at hlk HL1 hlkm
      have hlki : (r : Int) + 1 < (lk : Int) := by omega
      go_enter Tryd.func121, Tryd.ntmps121
      go_upto_region 1 with fail
      rw [← hW1]
      clear hW1
      go_wp2_with (go_at_call 189; refine HL1.out.mono ?_; rintro e w5 ⟨rfl, hw5⟩; subst hw5)
      go_ret2
      refine ⟨⟨_, false, rfl, by rw [HF.out]; rfl⟩, ?_, ?_⟩
      · exact (ownsRow_below HOW.out HBA.out).alloc _
      · exact grown_of_below (HBA.out.alloc HBA.out.size _) _
    · have HF := Lib.hid (findN_node (Fit := FitW p.length (ofG g) (ofG p)) hlk)
      generalize lackW p.length wd = lk at hlk HL1 hlkm
      have hlki : ¬ (r : Int) + 1 < (lk : Int) := by omega
      have hwne : ((wd.length : Int) == (g.length : Int)) = false := beq_eq_false_iff_ne.2 (by omega)
      have hwne2 : ¬ wd.length = g.length := by omega
      go_enter Tryd.func121, Tryd.ntmps121
      go_upto_region 1 with fail
      rw [← hW1]
      clear hW1
      go_wp2_with (go_at_call 189; refine HL1.out.mono ?_; rintro e w5 ⟨rfl, hw5⟩; subst hw5)
      go_loopw [9] (fun iv wr => ∃ k : Nat, k ≤ p.length + 1 ∧ iv = .int .i64 k ∧ Hid ((List.range k).findSome? (fun c => findN p.length (FitW p.length (ofG g) (ofG p)) r (wd ++ [c])) = none) ∧ Hid (wr.ownsRow 0 2 1 (.slice xp wd.length xc) wd.length ((natInts wd).map (Value.int .i64))) ∧ Hid (W1.grownBy wr (Value.slice xp wd.length xc).ownBlock)) (fun iv _ => p.length + 1 - (intOf iv).toNat)
      case atStart => exact ⟨0, Nat.zero_le _, rfl, Lib.hid (by simp), HOW1, Lib.hid (World.grownBy.refl _ _)⟩
      case round =>
        obtain ⟨k, hk, rfl, HSK, HOR, HGR⟩ := hrel
        have hcx := (BX.out.grown HGR.out HNE.out).cell
        have hsr : 0 ≤ wr.heap.size := Nat.zero_le _
        have HBR : Hid (w0.grownBy wr rb) := Lib.hid (grown_transB HB1.out HGR.out HBK.out)
        have BXR := Lib.hid (BX.out.grown HGR.out HNE.out)
        by_cases hlt : k ≤ p.length
        · have hlti : (k : Int) ≤ (p.length : Int) := by omega
          have HLN : Hid ((wd ++ [k]).length + r = g.length) := Lib.hid (by have := HWL.out; rw [List.length_append, List.length_singleton]; omega)
          have HMN : Hid (∀ x ∈ wd ++ [k], x ≤ p.length) := Lib.hid (fun x hx => by
            rcases List.mem_append.1 hx with h | h
            · exact HM.out x h
            · rw [List.mem_singleton.1 h]; exact hlt)
          have HRW : Hid ((natInts (wd ++ [k])).map (Value.int .i64) = (natInts wd).map (Value.int .i64) ++ [Value.int .i64 k] ∧ (wd ++ [k]).length = wd.length + 1) := Lib.hid ⟨by simp [natInts], by simp⟩
          have hw15 : wd.length < 1000000000 := by omega
          clear hlk hlki hws hwne hwne2
          go_upto_region 9 with fail
          go_cut [10, 11] (fun s10 s11 wx => FndE (.returned (.tuple #[s10, s11])) wx (findN p.length (FitW p.length (ofG g) (ofG p)) r (wd ++ [k])) ∧ Hid (wx.ownsRow 0 2 1 (.slice xp wd.length xc) wd.length ((natInts wd).map (Value.int .i64))) ∧ Hid (W1.grownBy wx (Value.slice xp wd.length xc).ownBlock))
          case first =>
            go_region_held3 (fun w' => w'.cell? ⟨w.heap.size, 0, none⟩ = some (.slice pp p.length pc))
              (first | exact hcx | exact hx8 | exact hx7 | go_keep)
              (first
                | (refine step_app1K (w := wr.drewN 1) (s := .tmp 44) (x := .tmp 46) ty_i64 rfl rfl rfl HOR.out rfl rfl hw15 hsr ?_; intro b7 c8 w7 hown7 hg7 hk7 hb7; have HOK7 := Lib.hid hk7; have HG7 := Lib.hid (grown_dNK hg7); have hx7 := (BXR.out.grown HG7.out HNE.out).cell; have HB7 : Hid (w0.grownBy w7 rb) := Lib.hid (grown_transB HBR.out HG7.out HBK.out); have HBK7 : Hid (∀ q, (Value.slice (some ⟨b7, 0, none⟩) (wd.length + 1) c8).ownBlock = some q → rb = some q ∨ w0.heap.size ≤ q) := Lib.hid (own_newK HBR.out.size HBK.out hb7); have HO7 := Lib.hid hown7; have BX7 := Lib.hid (BXR.out.grown HG7.out HNE.out); clear hown7 hg7 hk7 hb7)
                | (go_at_call 121; refine (HIH.out (wd ++ [k]) _ _ HLN.out HMN.out HB7.out HBK7.out (by rw [HRW.out.1, HRW.out.2]; exact HO7.out)).mono ?_; rintro e w8 ⟨⟨u8, ok8, rfl, hf8⟩, ho8, hg8⟩; have HF8 := Lib.hid hf8; have HK8 := Lib.hid (HOK7.out w8 hg8 (by rw [HRW.out.1, HRW.out.2] at ho8; exact ho8)); have hx8 := (BXR.out.grown (grown_dNK HK8.out.2) HNE.out).cell; clear hf8 ho8 hg8))
            all_goals go_wp2
            all_goals go_meet
            all_goals exact ⟨⟨_, _, rfl, HF8.out⟩, Lib.hid HK8.out.1, Lib.hid (grown_transK HGR.out (grown_dNK HK8.out.2))⟩
          case rest =>
          obtain ⟨⟨u9, ok, he9, hfr⟩, HOC, HGC⟩ := hcut
          simp only [Ending.returned.injEq, Value.tuple.injEq, Array.mk.injEq, List.cons.injEq, and_true] at he9
          obtain ⟨rfl, rfl⟩ := he9
          have HFR := Lib.hid hfr
          clear hfr
          cases hfo : findN p.length (FitW p.length (ofG g) (ofG p)) r (wd ++ [k]) with
          | none =>
            rw [hfo] at HFR
            obtain rfl : ok = false := HFR.out
            have HSN : Hid ((List.range (k + 1)).findSome? (fun c => findN p.length (FitW p.length (ofG g) (ofG p)) r (wd ++ [c])) = none) := Lib.hid (fsome_skip HSK.out hfo)
            clear hfo
            go_wp2_with fail
            go_roundw
            case rel => exact ⟨k + 1, by omega, by go_num, HSN, HOC, HGC⟩
            case measure => simp [intOf]; omega
          | some x =>
            rw [hfo] at HFR
            obtain ⟨hok1, hnx⟩ := HFR.out
            subst hok1
            have HFX : Hid (findN p.length (FitW p.length (ofG g) (ofG p)) (r + 1) wd = some x) := Lib.hid (by rw [HF.out]; exact fsome_stop HSK.out (by omega) hfo)
            have HNX := Lib.hid hnx
            clear hfo hnx
            go_wp2_with fail
            go_ret2
            exact ⟨⟨_, true, rfl, by rw [HFX.out]; exact ⟨rfl, HNX.out⟩⟩, HOC.out, grown_transK (grown_of_below HBA.out _) HGC.out⟩
        · obtain rfl : k = p.length + 1 := by omega
          have hlti : ¬ (p.length : Int) + 1 ≤ (p.length : Int) := by omega
          have HFX : Hid (findN p.length (FitW p.length (ofG g) (ofG p)) (r + 1) wd = none) := Lib.hid (by rw [HF.out]; exact HSK.out)
          clear hlk hlki hws hwne hwne2
          go_wp2_with fail
          go_ret2
          refine ⟨⟨_, false, rfl, by rw [HFX.out]; rfl⟩, HOR.out.alloc _, ?_⟩
          exact grown_transK (grown_of_below HBA.out _) (grown_transK HGR.out (grown_of_below (below_alloc _ _) _))

end Go.Proofs.YtmakhapdlkbbnaaDoor
