/- Plain: distances and obstacles, as the law asks them -/
import Derived.Test.YtfokiijcpkhllaaDoorDsQ22
import Derived.Test.YtfokiijcpkhllaaDoorDsQ9
import Derived.Test.YtfokiijcpkhllaaDoorDsQ25
import Derived.Test.YtfokiijcpkhllaaDoorDsQ28
import Derived.Test.YtfokiijcpkhllaaDoorDsQ16
import Derived.Test.YtfokiijcpkhllaaDoorDsQ23
import Derived.Test.YtfokiijcpkhllaaDoorDsQ14
import Derived.Test.YtfokiijcpkhllaaDoorDsQ4
import Derived.Test.YtfokiijcpkhllaaDoorDsQ26
namespace Go.Proofs.YtfokiijcpkhllaaDoor

/-- A graph keeps its distances. -/
def KG (g : List (List Int)) : Prop := Kept (ofG g) fun x => x < g.length
theorem allL_ltD {n : Nat} : (fun x : Nat => (x : Int) ∈ allL n) = fun x => x < n := by
  funext x
  exact propext ⟨fun h => by have := (mem_allL.1 h).2; omega, fun h => mem_allL.2 ⟨by omega, by omega⟩⟩
theorem kg_prunes {g : List (List Int)} (hg : GOk g) (h6 : g.length ≤ 6) {ps : List Pr} {L : List Int} (h : Prunes g (allL g.length) ps L) : L = [] ↔ KG g := by
  have := prunes_kept hg ⟨fun x hx => mem_allL.1 hx, allL_rising _⟩ (by rw [allL_length]; exact h6) h
  rw [allL_ltD] at this
  exact this
theorem set_of {n s : Nat} (hn : n ≤ 16) (hs : s < 2 ^ n) : SetIn n (natInts (bitsOf s)) ∧ s < 65536 ∧ (natInts (bitsOf s)).length ≤ n := by
  obtain ⟨h1, h2⟩ := cand_bits hn hs
  refine ⟨⟨fun x hx => ?_, natInts_rising (bitsOf_rising _)⟩, h2, ?_⟩
  · obtain ⟨i, hi, rfl⟩ := mem_natInts.1 hx
    have := (h1.inn i hi).2
    omega
  · rw [natInts_length]
    by_cases he : bitsOf s = []
    · rw [he]; simp
    · have := rising_room h1.ris h1.inn he
      omega
theorem stuck_kept {g : List (List Int)} (hg : GOk g) (h6 : g.length ≤ 6) {s : Nat} (hs : s < 2 ^ g.length) : StuckN g s ↔ ¬ Kept (ofG g) fun x => (x : Int) ∈ natInts (bitsOf s) := by
  obtain ⟨h1, h2, h3⟩ := set_of hg.le hs
  obtain ⟨ps, L, h⟩ := prunes_total g _ (natInts (bitsOf s)) (Nat.le_refl _)
  rw [stuck_iff h]
  exact not_congr (prunes_kept hg h1 (by omega) h)
theorem ob_kg {g : List (List Int)} (hg : GOk g) (h6 : g.length ≤ 6) : ObB g ↔ ¬ KG g := by
  constructor
  · rintro ⟨_, s, hs, h⟩ hk
    obtain ⟨h1, _⟩ := set_of hg.le hs
    refine (stuck_kept hg h6 hs).1 h (hk.sub fun x hx => ?_)
    have := (h1.1 _ hx).2
    omega
  · intro hk
    have hlt : 2 ^ g.length - 1 < 2 ^ g.length := by have := Nat.two_pow_pos g.length; omega
    refine ⟨⟨hg, by omega⟩, 2 ^ g.length - 1, hlt, (stuck_kept hg h6 hlt).2 ?_⟩
    rw [natInts_range _ hg.le, allL_ltD]
    exact hk
/-- The place of a vertex in a list. -/
theorem kept_ind {g : List (List Int)} {l : List Int} (hl : SetIn g.length l) {P : Nat → Prop} {Q : Nat → Prop} (hP : ∀ i, P i → i < l.length) (hPQ : ∀ i (hi : i < l.length), P i ↔ Q (l[i]).toNat) (hQ : ∀ x, Q x → (x : Int) ∈ l) {x : List (List Int)} (hx : x = indL g l) :
    Kept (ofG x) P ↔ Kept (ofG g) Q := by
  subst hx
  have hnat : ∀ i (hi : i < l.length), ((l[i]).toNat : Int) = l[i] := fun i hi => Int.toNat_of_nonneg (hl.1 _ (List.getElem_mem hi)).1
  have hinj : ∀ i j (hi : i < l.length) (hj : j < l.length), l[i] = l[j] → i = j := fun i j hi hj e => Classical.byContradiction fun hne => by
    rcases Nat.lt_or_gt_of_ne hne with h | h
    · have := List.pairwise_iff_getElem.1 hl.2 i j hi hj h; omega
    · have := List.pairwise_iff_getElem.1 hl.2 j i hj hi h; omega
  have hE : ∀ i j (hi : i < l.length) (hj : j < l.length), ofG (indL g l) i j = ofG g (l[i]).toNat (l[j]).toNat := fun i j hi hj => by
    unfold indL
    rw [ofG_matG hi hj]
    unfold indE ofG
    rw [getD_int hi, getD_int hj, hnat j hj]
  obtain ⟨φ, hφ⟩ : ∃ φ : Nat → Nat, ∀ i (hi : i < l.length), φ i = (l[i]).toNat := ⟨fun i => (l.getD i 0).toNat, fun i hi => by show (l.getD i 0).toNat = _; rw [getD_int hi]⟩
  have hex : ∀ x : Nat, ∃ i, Q x → ∃ hi : i < l.length, (l[i]).toNat = x := fun x => by
    by_cases h : Q x
    · obtain ⟨i, hi, e⟩ := List.getElem_of_mem (hQ x h)
      exact ⟨i, fun _ => ⟨hi, by rw [e]; rfl⟩⟩
    · exact ⟨0, fun h' => absurd h' h⟩
  obtain ⟨ψ, hψ⟩ : ∃ ψ : Nat → Nat, ∀ x, Q x → ∃ hi : ψ x < l.length, (l[ψ x]).toNat = x := ⟨fun x => Classical.choose (hex x), fun x => Classical.choose_spec (hex x)⟩
  have a1 : ∀ i, P i → Q (φ i) := fun i h => by rw [hφ i (hP i h)]; exact (hPQ i (hP i h)).1 h
  have a2 : ∀ x, Q x → P (ψ x) := fun x h => by
    obtain ⟨hi, e⟩ := hψ x h
    exact (hPQ _ hi).2 (by rw [e]; exact h)
  have a3 : ∀ i, P i → ψ (φ i) = i := fun i h => by
    obtain ⟨hi, e⟩ := hψ _ (a1 i h)
    have e2 := e.trans (hφ i (hP i h))
    refine hinj _ _ hi (hP i h) ?_
    rw [← hnat _ hi, e2, hnat _ (hP i h)]
  have a4 : ∀ x, Q x → φ (ψ x) = x := fun x h => by
    obtain ⟨hi, e⟩ := hψ x h
    rw [hφ _ hi, e]
  have a5 : ∀ i j, P i → P j → ofG (indL g l) i j = ofG g (φ i) (φ j) := fun i j h1 h2 => by rw [hE i j (hP i h1) (hP j h2), hφ i (hP i h1), hφ j (hP j h2)]
  constructor
  · intro h
    refine h.iso (φ := ψ) (ψ := φ) a2 a1 a4 a3 fun x y hx hy => ?_
    rw [a5 _ _ (a2 x hx) (a2 y hy), a4 x hx, a4 y hy]
  · exact fun h => h.iso (φ := φ) (ψ := ψ) a1 a2 a3 a4 a5
/-- The least obstacle. -/
theorem ob_least {g : List (List Int)} (hg : GOk g) (h6 : g.length ≤ 6) (hk : ¬ KG g) {l : List Int} (h : ObS g l) : SetIn g.length l ∧ 5 ≤ l.length ∧ l.length ≤ 6 ∧ ¬ KG (indL g l) ∧ ∀ b, b < l.length → KG (indL (indL g l) (natInts (restN l.length b))) := by
  rcases h with ⟨_, s, hs, rfl⟩ | ⟨h, _⟩
  case inr => exact absurd ((ob_kg hg h6).2 hk) h
  obtain ⟨hs1, hs2, hs3⟩ := hs
  obtain ⟨k1, k2, k3⟩ := set_of hg.le hs1
  have hnk := (stuck_kept hg h6 hs1).1 hs2
  obtain ⟨L, hL⟩ : ∃ L, L = natInts (bitsOf s) := ⟨_, rfl⟩
  have hiff : KG (indL g L) ↔ Kept (ofG g) fun x => (x : Int) ∈ L := by
    have hlen : (indL g L).length = L.length := matG_length _ _
    unfold KG
    rw [hlen]
    refine kept_ind (by rw [hL]; exact k1) (fun i h => h) (fun i hi => ?_) (fun x h => h) rfl
    have hLin : SetIn g.length L := by rw [hL]; exact k1
    have h0 : 0 ≤ L[i] := (hLin.1 _ (List.getElem_mem hi)).1
    show i < L.length ↔ (((L[i]).toNat : Nat) : Int) ∈ L
    rw [Int.toNat_of_nonneg h0]
    exact ⟨fun _ => List.getElem_mem hi, fun _ => hi⟩
  refine ⟨k1, ?_, by omega, by rw [← hL, hiff, hL]; exact hnk, fun b hb => ?_⟩
  · obtain ⟨ps, L', h⟩ := prunes_total g _ (natInts (bitsOf s)) (Nat.le_refl _)
    have h0 := (stuck_iff h).1 hs2
    obtain ⟨r1, r2, r3, r4⟩ := prunes_left h k1.2
    have := (stuck_not hg (fun x hx => k1.1 x (r1 x hx)) (r2.imp fun h => by omega) h0 (by omega) r4).2
    omega
  · rw [← hL] at hb ⊢
    have hLin : SetIn g.length L := by rw [hL]; exact k1
    obtain ⟨v, hv⟩ : ∃ v : Nat, (v : Int) = L[b] := by
      obtain ⟨v, hv⟩ := Int.eq_ofNat_of_zero_le (hLin.1 _ (List.getElem_mem hb)).1
      exact ⟨v, hv.symm⟩
    have hvn : v < g.length := by have := (hLin.1 _ (List.getElem_mem hb)).2; omega
    have hvs : s.testBit v = true := by
      have : (v : Int) ∈ natInts (bitsOf s) := by rw [hv, ← hL]; exact List.getElem_mem hb
      obtain ⟨i, hi, e⟩ := mem_natInts.1 this
      obtain rfl : i = v := by omega
      exact (mem_left k2).1 hi
    have hle := hg.le
    have hsub : lessL L (v : Int) = natInts (bitsOf (sub s (2 ^ v))) := by rw [hL]; exact list_sub k2 (by omega)
    have ht : sub s (2 ^ v) < 2 ^ g.length := Nat.lt_pow_two_of_testBit _ fun i hi => by
      cases e : (sub s (2 ^ v)).testBit i with
      | false => rfl
      | true =>
        have h3 := ((testBit_sub1 k2 (by omega) i).1 e).1
        have : (i : Int) ∈ L := by rw [hL]; exact mem_natInts.2 ⟨i, (mem_left k2).2 h3, rfl⟩
        have := (hLin.1 _ this).2
        omega
    have hkt : Kept (ofG g) fun x => (x : Int) ∈ lessL L (v : Int) := by
      rw [hsub]
      refine Classical.byContradiction fun hn => hs3 _ ht ((stuck_kept hg h6 ht).2 hn) (.inl ?_)
      have := lessL_length_lt (s := L) (v := (v : Int)) (by rw [hv]; exact List.getElem_mem hb)
      rw [hsub, hL, natInts_length, natInts_length] at this
      exact this
    have hgx : SetIn (indL g L).length (natInts (restN L.length b)) := by
      have hlen : (indL g L).length = L.length := matG_length _ _
      rw [hlen]
      exact ⟨fun x hx => by
        obtain ⟨i, hi, rfl⟩ := mem_natInts.1 hx
        have := (mem_restN.1 hi).1
        omega, natInts_rising (restN_rising _ _)⟩
    have e1 : KG (indL (indL g L) (natInts (restN L.length b))) ↔ Kept (ofG (indL g L)) fun x => x ∈ restN L.length b := by
      unfold KG
      have hlen2 : (indL (indL g L) (natInts (restN L.length b))).length = (natInts (restN L.length b)).length := matG_length _ _
      rw [hlen2]
      refine kept_ind hgx (fun i h => h) (fun i hi => ?_) (fun x h => mem_natInts.2 ⟨x, h, rfl⟩) rfl
      have hm := List.getElem_mem hi
      obtain ⟨t, ht, e⟩ := mem_natInts.1 hm
      rw [← e, Int.toNat_natCast]
      exact ⟨fun _ => ht, fun _ => hi⟩
    rw [e1]
    refine (kept_ind hLin (fun i h => (mem_restN.1 h).1) (fun i hi => ?_) (fun x h => (mem_lessL.1 h).1) rfl).2 hkt
    have h0 := (hLin.1 _ (List.getElem_mem hi)).1
    show i ∈ restN L.length b ↔ (((L[i]).toNat : Nat) : Int) ∈ lessL L (v : Int)
    rw [mem_restN, mem_lessL, Int.toNat_of_nonneg h0, hv]
    constructor
    · rintro ⟨_, hne⟩
      refine ⟨List.getElem_mem hi, fun e => hne ?_⟩
      refine Classical.byContradiction fun hn => ?_
      rcases Nat.lt_or_gt_of_ne hn with h | h
      · have := List.pairwise_iff_getElem.1 hLin.2 i b hi hb h; omega
      · have := List.pairwise_iff_getElem.1 hLin.2 b i hb hi h; omega
    · rintro ⟨_, hne⟩
      exact ⟨hi, fun e => hne (by subst e; rfl)⟩

end Go.Proofs.YtfokiijcpkhllaaDoor

/- Plain: keeping the distances, set by set. -/
namespace Go.Proofs.YtfokiijcpkhllaaDoor

theorem rch_lw {E : Nat → Nat → Bool} {S : Nat → Prop} {u x : Nat} (hu : S u) (h : Rch E S u x) : ∃ k, LW E S u k x := by
  induction h with
  | base => exact ⟨0, .base hu⟩
  | step _ h2 h3 ih =>
    obtain ⟨k, hk⟩ := ih
    exact ⟨k + 1, .step hk (.inr h2) h3⟩
theorem lw_rch {E : Nat → Nat → Bool} {S : Nat → Prop} {u k x : Nat} (h : LW E S u k x) : Rch E S u x := by
  induction h with
  | base => exact .base
  | step _ h2 h3 ih =>
    rcases h2 with rfl | h2
    · exact ih
    · exact .step ih h2 h3
theorem connL_P {E : Nat → Nat → Bool} (hE : ∀ x y, E x y = true → E y x = true) {L : List Nat} (h0 : L ≠ []) : ConnL E L ↔ ConnP E (· ∈ L) := by
  obtain ⟨a, L, rfl⟩ : ∃ a M, L = a :: M := by
    cases L with
    | nil => exact absurd rfl h0
    | cons a M => exact ⟨a, M, rfl⟩
  constructor
  · rintro ⟨_, h⟩
    exact conn_from hE (a := a) fun t ht => rch_lw (List.mem_cons_self ..) (h t ht)
  · intro h
    refine ⟨h0, fun x hx => ?_⟩
    obtain ⟨k, hk⟩ := h a x (List.mem_cons_self ..) hx
    exact lw_rch hk
/-- A set keeps the distances, where it is connected. -/
def OkT (g : List (List Int)) (t : Nat) : Prop := ConnL (ofG g) (bitsOf t) → ∀ v u, t.testBit v = true → t.testBit u = true → ∀ k, LW (ofG g) (inW (2 ^ g.length - 1)) v k u → LW (ofG g) (inW t) v k u
theorem inW_all {n : Nat} : inW (2 ^ n - 1) = fun x => x < n := by
  funext x
  unfold inW
  rw [Nat.testBit_two_pow_sub_one]
  exact propext decide_eq_true_iff
theorem kg_iff {g : List (List Int)} (hg : GOk g) : KG g ↔ ∀ t, 1 ≤ t → t < 2 ^ g.length → OkT g t := by
  have hle := hg.le
  have h16 : ∀ t, t < 2 ^ g.length → t < 65536 := fun t ht => by
    have : 2 ^ g.length ≤ 2 ^ 16 := Nat.pow_le_pow_right (by decide) hle
    omega
  have hin : ∀ t, t < 2 ^ g.length → ∀ x, t.testBit x = true → x < g.length := fun t ht x hx => Classical.byContradiction fun hn => by
    rw [Nat.testBit_lt_two_pow (Nat.lt_of_lt_of_le ht (Nat.pow_le_pow_right (by decide) (Nat.le_of_not_lt hn)))] at hx
    cases hx
  constructor
  · intro h t h1 ht hc v u hv hu k hk
    have hb := mem_left (v := v) (h16 t ht)
    have hc2 := (connL_P (ofG_sym hg) (List.ne_nil_of_mem (hb.2 hv))).1 hc
    have e : (fun x => x ∈ bitsOf t) = inW t := by
      funext x
      exact propext (mem_left (h16 t ht))
    rw [e] at hc2
    rw [inW_all] at hk
    exact h (inW t) (fun x hx => hin t ht x hx) hc2 v u hv hu k hk
  · intro h T hT hc u v hu hv k hk
    obtain ⟨t, ht⟩ : ∃ t, t = packVd (fun i => dec (T i)) g.length := ⟨_, rfl⟩
    have hbit : ∀ x, t.testBit x = true ↔ T x := fun x => by
      rw [ht, packVd_bit, Bool.and_eq_true, decide_eq_true_eq, dec_iff]
      exact ⟨fun h => h.2, fun h => ⟨hT x h, h⟩⟩
    have hlt : t < 2 ^ g.length := by rw [ht]; exact packVd_lt _ _
    have hpos : 1 ≤ t := Classical.byContradiction fun hn => by
      have : t = 0 := by omega
      have := (hbit u).2 hu
      rw [‹t = 0›, Nat.zero_testBit] at this
      cases this
    have e : inW t = T := by
      funext x
      exact propext (hbit x)
    have e2 : (fun x => x ∈ bitsOf t) = T := by
      funext x
      exact propext ((mem_left (h16 t hlt)).trans (hbit x))
    have hcl : ConnL (ofG g) (bitsOf t) := (connL_P (ofG_sym hg) (List.ne_nil_of_mem ((mem_left (h16 t hlt)).2 ((hbit u).2 hu)))).2 (by rw [e2]; exact hc)
    have := h t hpos hlt hcl u v ((hbit u).2 hu) ((hbit v).2 hv) k (by rw [inW_all]; exact hk)
    rwa [e] at this
/-- Of one vertex, all distances are the same. -/
def RowT (g : List (List Int)) (t v : Nat) (L : List Nat) : Prop := ∀ u ∈ L, ∀ k, LW (ofG g) (inW (2 ^ g.length - 1)) v k u → LW (ofG g) (inW t) v k u
theorem okT_rows {g : List (List Int)} {t : Nat} (ht : t < 65536) (h : ∀ v ∈ bitsOf t, RowT g t v (bitsOf t)) : OkT g t := fun _ v u hv hu k hk => h v ((mem_left ht).2 hv) u ((mem_left ht).2 hu) k hk
theorem rowT_nil (g : List (List Int)) (t v : Nat) : RowT g t v [] := fun u hu => by cases hu
theorem rowT_snoc {g : List (List Int)} {t v u : Nat} {L : List Nat} (h : RowT g t v L) (hu : ∀ k, LW (ofG g) (inW (2 ^ g.length - 1)) v k u → LW (ofG g) (inW t) v k u) : RowT g t v (L ++ [u]) := fun x hx => by
  rcases List.mem_append.1 hx with hx | hx
  · exact h x hx
  · obtain rfl : x = u := by simpa using hx
    exact hu
theorem not_okT {g : List (List Int)} {t v u : Nat} (hc : ConnL (ofG g) (bitsOf t)) (hv : t.testBit v = true) (hu : t.testBit u = true) (hn : ¬ ∀ k, LW (ofG g) (inW (2 ^ g.length - 1)) v k u → LW (ofG g) (inW t) v k u) : ¬ OkT g t := fun h => hn (h hc v u hv hu)

end Go.Proofs.YtfokiijcpkhllaaDoor

/- Walks: the program's tests of a set, and of a connected one; the masks of several sets. -/
namespace Go.Proofs.YtfokiijcpkhllaaDoor
open Go.RowKit

set_option maxRecDepth 100000 in
set_option maxHeartbeats 1000000 in
theorem implSetOk_any (v lv : Value) (g : List (List Int)) (s : List Int) (hgl : g.length ≤ 1000000000) (w : World) (hg : Gr w v g) (hn : Nums w 2 .i64 lv s) :
    Calls Tryd.prog 131 #[v, lv] w fun e w' => e = .returned (.bool (dec (GOk g ∧ SetIn g.length s))) ∧ Below w.heap.size w w' := by
  have hg0 := hg
  obtain ⟨u, rfl, hr⟩ := hg
  obtain ⟨p, c, rfl, _⟩ := hr.shape
  have hbA := Lib.hid (below_alloc w (.cells #[.slice p g.length c] 29))
  have HG := Lib.hid (hg0.below hbA.out)
  have HN := Lib.hid (hn.below hbA.out)
  have BX := Lib.hid (Box.new w (.slice p g.length c) 29)
  clear hr hg0 hn
  by_cases hok : GOk g
  · have hd := Lib.hid (dec_true hok)
    have HD : Hid (dec (SetIn g.length s) = dec (GOk g ∧ SetIn g.length s)) := Lib.hid (dec_congr ⟨fun h => ⟨hok, h⟩, fun h => h.2⟩)
    clear hok
    go_enter Tryd.func131, Tryd.ntmps131
    go_wp2_with (first
      | (go_at_call 38; refine (implGraphOk_any _ g _ HG.out).mono ?_; rintro e w2 ⟨he, hb2⟩; rw [hd.out] at he; subst he; have hbx := (BX.out.keep hb2).cell)
      | (go_at_call 105; refine (increasing_any _ s g.length (by omega) (by omega) _ (HN.out.below hb2)).mono ?_; rintro e w3 ⟨he3, hw3⟩; rw [HD.out] at he3; subst he3; subst hw3))
    go_ret
    exact ⟨rfl, hbA.out.trans (hb2.mono hbA.out.size)⟩
  · have hd := Lib.hid (dec_false hok)
    have HD := Lib.hid (dec_false (show ¬ (GOk g ∧ SetIn g.length s) from fun h => hok h.1))
    clear hok
    go_enter Tryd.func131, Tryd.ntmps131
    go_wp2_with (go_at_call 38; refine (implGraphOk_any _ g _ HG.out).mono ?_; rintro e w2 ⟨he, hb2⟩; rw [hd.out] at he; subst he)
    go_ret
    exact ⟨by rw [HD.out]; rfl, hbA.out.trans (hb2.mono hbA.out.size)⟩

set_option maxRecDepth 100000 in
set_option maxHeartbeats 1000000 in
theorem connected_any (x : Value) (z : Int) (n : Nat) (E : Nat → Nat → Bool) (W : Nat) (hz : z = W) (hW : W < 65536) (hWn : ∀ i, W.testBit i = true → i < n) (w : World) (hx : NE w x n E) (hT : Tab w) :
    Calls Tryd.prog 47 #[x, .int .u32 z] w fun e w' => e = .returned (.bool (dec (ConnL E (bitsOf W)))) ∧ Below w.heap.size w w' := by
  subst hz
  by_cases h0 : W = 0
  · subst h0
    have HD := Lib.hid (dec_false (show ¬ ConnL E (bitsOf 0) by rw [bitsOf_zero]; exact not_connL_nil E))
    go_enter Tryd.func47, Tryd.ntmps47
    go_wp2
    go_ret
    exact ⟨by rw [HD.out]; rfl, Below.refl _ _⟩
  · have h0' : ((W : Int) != 0) = true := by simp; omega
    have hst := bitsOf_step W h0 (by omega)
    obtain ⟨hub, _, _⟩ := testBit_ctz W h0 (by omega)
    obtain ⟨u, hu⟩ : ∃ u, u = Lib.ctz 32 W := ⟨_, rfl⟩
    rw [← hu] at hst hub
    have HU := Lib.hid hu
    have HUB := Lib.hid hub
    have H0 := Lib.hid h0
    have HX := Lib.hid hx
    have HT := Lib.hid hT
    have HWN := Lib.hid hWn
    have HEQ : Hid (∀ m : Nat, m < 65536 → (∀ i, m.testBit i = true ↔ i ∈ partL E (bitsOf W) u) → ((m : Int) == (W : Int)) = dec (ConnL E (bitsOf W))) := Lib.hid (fun m hm hmb => by
      have hi : ConnL E (bitsOf W) ↔ m = W := by
        rw [hst, connL_part, ← hst]
        constructor
        · intro e
          refine Nat.eq_of_testBit_eq fun i => ?_
          rw [Bool.eq_iff_iff, hmb i, e, mem_left hW]
        · rintro rfl
          refine rising_ext _ _ (partL_rising (bitsOf_rising _) u) (bitsOf_rising _) fun i => ?_
          rw [← hmb i, mem_left hW]
      by_cases e : m = W
      · rw [dec_true (hi.2 e), e]; simp
      · rw [dec_false (fun k => e (hi.1 k))]
        simp
        omega)
    clear hu hub h0 hst hx hT hWn
    go_enter Tryd.func47, Tryd.ntmps47
    go_wp2_with (first
      | (go_at_call 113; refine (reach_any _ _ _ n E u W rfl rfl hW HWN.out HUB.out _ HX.out HT.out).mono ?_; rintro e w4 ⟨m, rfl, hm16, hmb, hb4⟩; have hme := HEQ.out m hm16 hmb; clear hmb)
      | (go_at_call 114; refine (least_any _ W rfl H0.out (by omega) _ HT.out).mono ?_; rintro e w3 ⟨he3, rfl⟩; rw [← HU.out] at he3; subst he3))
    go_ret
    exact ⟨ret_bool (by first | exact hme | rfl | (rw [hme])), hb4⟩

/-- A connected set of a right graph. -/
def ConnS (g : List (List Int)) (s : List Int) : Prop := (GOk g ∧ SetIn g.length s) ∧ ConnL (ofG g) (s.map Int.toNat)
theorem setIn_nats {n : Nat} {s : List Int} (h : SetIn n s) : natInts (s.map Int.toNat) = s ∧ (s.map Int.toNat).Pairwise (· < ·) ∧ ∀ x ∈ s.map Int.toNat, x < n := by
  refine ⟨?_, ?_, ?_⟩
  · unfold natInts
    rw [List.map_map]
    conv => rhs; rw [← List.map_id s]
    exact List.map_congr_left fun x hx => Int.toNat_of_nonneg (h.1 x hx).1
  · refine List.pairwise_map.2 (h.2.imp_of_mem fun {a b} ha hb k => ?_)
    have := (h.1 a ha).1
    have := (h.1 b hb).1
    omega
  · intro x hx
    obtain ⟨y, hy, rfl⟩ := List.mem_map.1 hx
    have := h.1 y hy
    omega
theorem bits_maskS {n : Nat} {s : List Int} (hn : n ≤ 16) (h : SetIn n s) : bitsOf (mask s) = s.map Int.toNat := by
  obtain ⟨h1, h2, h3⟩ := setIn_nats h
  conv => lhs; rw [← h1]
  exact bitsOf_maskN h2 fun x hx => by have := h3 x hx; omega


theorem ty_vsets' : SlTy Tryd.prog 60 64 (.int .u32 0) 1 4 := ⟨Tryd.underlying60, by kernel_rfl, rfl, by decide, by decide⟩

end Go.Proofs.YtfokiijcpkhllaaDoor

/- Walk: the program's test of a small graph. -/
namespace Go.Proofs.YtfokiijcpkhllaaDoor
open Go.RowKit

set_option maxRecDepth 100000 in
set_option maxHeartbeats 1000000 in
theorem isSmall_any (v : Value) (g : List (List Int)) (w : World) (hg : Gr w v g) :
    Calls Tryd.prog 40 #[v] w fun e w' => e = .returned (.bool (dec (GOk g ∧ g.length ≤ 8))) ∧ Below w.heap.size w w' := by
  have hg0 := hg
  obtain ⟨u, rfl, hr⟩ := hg
  obtain ⟨p, c, rfl, _, _, _⟩ := hr.shape
  have hbA := Lib.hid (below_alloc w (.cells #[.slice p g.length c] 29))
  have HG := Lib.hid (hg0.below hbA.out)
  have BX := Lib.hid (Box.new w (.slice p g.length c) 29)
  clear hr hg0
  by_cases hok : GOk g
  · have hd := dec_true hok
    have Hok := Lib.hid hok
    clear hok
    have H : dec (GOk g ∧ g.length ≤ 8) = decide (g.length ≤ 8) := by
      by_cases h : g.length ≤ 8
      · rw [dec_true (show GOk g ∧ g.length ≤ 8 from ⟨Hok.out, h⟩)]; simp [h]
      · rw [dec_false (show ¬ (GOk g ∧ g.length ≤ 8) from fun k => h k.2)]; simp [h]
    have HH := Lib.hid H
    clear H
    go_enter Tryd.func40, Tryd.ntmps40
    go_wp2_with (go_at_call 38; refine (implGraphOk_any _ g _ HG.out).mono ?_; rintro e w2 ⟨he, hb2⟩; rw [hd] at he; subst he; have hbx := (BX.out.keep hb2).cell)
    go_ret
    exact ⟨by rw [HH.out]; exact ret_bool (by simp; omega), hbA.out.trans (hb2.mono hbA.out.size)⟩
  · have hd := dec_false hok
    have HH := Lib.hid (dec_false (show ¬ (GOk g ∧ g.length ≤ 8) from fun k => hok k.1))
    clear hok
    go_enter Tryd.func40, Tryd.ntmps40
    go_wp2_with (go_at_call 38; refine (implGraphOk_any _ g _ HG.out).mono ?_; rintro e w2 ⟨he, hb2⟩; rw [hd] at he; subst he)
    go_ret
    exact ⟨by rw [HH.out]; rfl, hbA.out.trans (hb2.mono hbA.out.size)⟩

end Go.Proofs.YtfokiijcpkhllaaDoor
