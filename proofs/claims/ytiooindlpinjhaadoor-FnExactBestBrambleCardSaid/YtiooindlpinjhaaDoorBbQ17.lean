/- Plain: matchings as maps that are their own inverse; the formula of Tutte and Berge. -/
import Derived.Test.YtiooindlpinjhaaDoorBbQ16
namespace Go.Proofs.YtiooindlpinjhaaDoor

/-- A matching within a list: each vertex's mate, itself where it has none. -/
structure Mt (E : Nat → Nat → Bool) (L : List Nat) (M : Nat → Nat) : Prop where
  inv : ∀ x, M (M x) = x
  edge : ∀ x, M x ≠ x → E x (M x) = true
  inn : ∀ x, M x ≠ x → x ∈ L
/-- How many are without a mate. -/
def freN (L : List Nat) (M : Nat → Nat) : Nat := L.countP fun x => decide (M x = x)
theorem Mt.inn' {E : Nat → Nat → Bool} {L : List Nat} {M : Nat → Nat} (h : Mt E L M) {x : Nat} (hx : M x ≠ x) : M x ∈ L := h.inn _ (fun e => hx (by rw [h.inv] at e; exact e.symm))
theorem Mt.inj {E : Nat → Nat → Bool} {L : List Nat} {M : Nat → Nat} (h : Mt E L M) {x y : Nat} (e : M x = M y) : x = y := by
  have := congrArg M e
  rwa [h.inv, h.inv] at this
theorem Mt.id (E : Nat → Nat → Bool) (L : List Nat) : Mt E L id := ⟨fun _ => rfl, fun _ h => absurd rfl h, fun _ h => absurd rfl h⟩
theorem Mt.sub {E : Nat → Nat → Bool} {L K : List Nat} {M : Nat → Nat} (h : Mt E L M) (hs : ∀ x ∈ L, x ∈ K) : Mt E K M := ⟨h.inv, h.edge, fun x hx => hs x (h.inn x hx)⟩
theorem freN_perm {L K : List Nat} (h : L.Perm K) (M : Nat → Nat) : freN L M = freN K M := h.countP_eq _
theorem freN_cons (x : Nat) (L : List Nat) (M : Nat → Nat) : freN (x :: L) M = freN L M + if M x = x then 1 else 0 := by
  unfold freN
  rw [List.countP_cons]
  simp
theorem freN_congr {L : List Nat} {M N : Nat → Nat} (h : ∀ x ∈ L, M x = N x) : freN L M = freN L N := by
  unfold freN
  refine List.countP_congr fun x hx => ?_
  rw [h x hx]
theorem freN_le (L : List Nat) (M : Nat → Nat) : freN L M ≤ L.length := List.countP_le_length

theorem out_one {L : List Nat} (hn : L.Nodup) {u : Nat} (hu : u ∈ L) : ∃ R, L.Perm (u :: R) ∧ u ∉ R ∧ R.Nodup := by
  refine ⟨L.erase u, List.perm_cons_erase hu, fun h => ?_, hn.erase u⟩
  exact ((List.Nodup.mem_erase_iff hn).1 h).1 rfl
theorem out_two {L : List Nat} (hn : L.Nodup) {u v : Nat} (hu : u ∈ L) (hv : v ∈ L) (huv : u ≠ v) : ∃ R, L.Perm (u :: v :: R) ∧ u ∉ R ∧ v ∉ R ∧ R.Nodup := by
  obtain ⟨K, h1, h2, h3⟩ := out_one hn hu
  have hvK : v ∈ K := by
    rcases List.mem_cons.1 (h1.subset hv) with e | e
    · exact absurd e.symm huv
    · exact e
  obtain ⟨R, h4, h5, h6⟩ := out_one h3 hvK
  exact ⟨R, h1.trans (h4.cons u), fun h => h2 (h4.symm.subset (List.mem_cons_of_mem _ h)), h5, h6⟩
theorem out_three {L : List Nat} (hn : L.Nodup) {u v x : Nat} (hu : u ∈ L) (hv : v ∈ L) (hx : x ∈ L) (huv : u ≠ v) (hux : u ≠ x) (hvx : v ≠ x) : ∃ R, L.Perm (u :: v :: x :: R) ∧ u ∉ R ∧ v ∉ R ∧ x ∉ R ∧ R.Nodup := by
  obtain ⟨K, h1, h2, h3⟩ := out_one hn hu
  have hin : ∀ y, y ∈ L → u ≠ y → y ∈ K := fun y hy hne => by
    rcases List.mem_cons.1 (h1.subset hy) with e | e
    · exact absurd e.symm hne
    · exact e
  obtain ⟨R, h4, h5, h6, h7⟩ := out_two h3 (hin v hv huv) (hin x hx hux) hvx
  exact ⟨R, h1.trans (h4.cons u), fun h => h2 (h4.symm.subset (List.mem_cons_of_mem _ (List.mem_cons_of_mem _ h))), h5, h6, h7⟩

/-- Where a map that is its own inverse stays in a list, as many are fixed as are there, but for twos. -/
theorem par_fix {M : Nat → Nat} (hM : ∀ x, M (M x) = x) : ∀ (m : Nat) (p : List Nat), p.length ≤ m → p.Nodup → (∀ x ∈ p, M x ∈ p) → freN p M % 2 = p.length % 2
  | 0, p, hl, _, _ => by
    obtain rfl := List.length_eq_zero_iff.1 (Nat.le_zero.1 hl)
    rfl
  | m + 1, [], _, _, _ => rfl
  | m + 1, x :: p, hl, hn, hc => by
    obtain ⟨hxp, hnp⟩ := List.nodup_cons.1 hn
    rw [List.length_cons] at hl
    by_cases hx : M x = x
    · have ih := par_fix hM m p (by omega) hnp fun y hy => by
        rcases List.mem_cons.1 (hc y (List.mem_cons_of_mem _ hy)) with e | e
        · have : y = x := by have := congrArg M e; rwa [hM, hx] at this
          exact absurd (this ▸ hy) hxp
        · exact e
      rw [freN_cons, if_pos hx, List.length_cons]
      omega
    · have hy : M x ∈ p := by
        rcases List.mem_cons.1 (hc x (List.mem_cons_self ..)) with e | e
        · exact absurd e hx
        · exact e
      obtain ⟨R, h1, h2, h3⟩ := out_one hnp hy
      have hlen := h1.length_eq
      rw [List.length_cons] at hlen
      have ih := par_fix hM m R (by omega) h3 fun z hz => by
        have hzp : z ∈ p := h1.symm.subset (List.mem_cons_of_mem _ hz)
        have hzx : M z ≠ x := fun e => h2 (by have := congrArg M e; rw [hM] at this; rw [← this]; exact hz)
        have hzy : M z ≠ M x := fun e => hxp (by have := congrArg M e; rw [hM, hM] at this; rw [← this]; exact hzp)
        rcases List.mem_cons.1 (hc z (List.mem_cons_of_mem _ hzp)) with e | e
        · exact absurd e hzx
        · rcases List.mem_cons.1 (h1.subset e) with e | e
          · exact absurd e hzy
          · exact e
      rw [freN_cons, if_neg hx, freN_perm h1, freN_cons, if_neg (by rw [hM]; exact fun e => hx e.symm), List.length_cons, hlen]
      omega
theorem Mt.par {E : Nat → Nat → Bool} {L : List Nat} {M : Nat → Nat} (h : Mt E L M) (hn : L.Nodup) : freN L M % 2 = L.length % 2 :=
  par_fix h.inv L.length L (Nat.le_refl _) hn fun x hx => by
    by_cases e : M x = x
    · rw [e]; exact hx
    · exact h.inn' e

/-- A greatest matching. -/
def MxM (E : Nat → Nat → Bool) (L : List Nat) (M : Nat → Nat) : Prop := Mt E L M ∧ ∀ N, Mt E L N → freN L M ≤ freN L N
theorem mx_ex (E : Nat → Nat → Bool) (L : List Nat) : ∃ M, MxM E L M := by
  have : ∀ k M, Mt E L M → freN L M ≤ k → ∃ M, MxM E L M := by
    intro k
    induction k with
    | zero => exact fun M h hk => ⟨M, h, fun N _ => by omega⟩
    | succ k ih =>
      intro M h hk
      by_cases e : ∃ N, Mt E L N ∧ freN L N < freN L M
      · obtain ⟨N, h1, h2⟩ := e
        exact ih N h1 (by omega)
      · exact ⟨M, h, fun N hN => Nat.le_of_not_lt fun hl => e ⟨N, hN, hl⟩⟩
  exact this _ _ (Mt.id E L) (Nat.le_refl _)

/-- An edge more between two without a mate. -/
def addM (M : Nat → Nat) (u v : Nat) : Nat → Nat := fun x => if x = u then v else if x = v then u else M x
theorem addM_u (M : Nat → Nat) (u v : Nat) : addM M u v u = v := by simp [addM]
theorem addM_v (M : Nat → Nat) (u v : Nat) : addM M u v v = u := by
  unfold addM
  by_cases e : v = u
  · rw [if_pos e]; exact e
  · rw [if_neg e, if_pos rfl]
theorem addM_x {M : Nat → Nat} {u v x : Nat} (hu : x ≠ u) (hv : x ≠ v) : addM M u v x = M x := by unfold addM; rw [if_neg hu, if_neg hv]
section
variable {E : Nat → Nat → Bool} (hs : ∀ x y, E x y = true → E y x = true)
include hs
theorem Mt.add {L : List Nat} {M : Nat → Nat} (h : Mt E L M) {u v : Nat} (hu : u ∈ L) (hv : v ∈ L) (hE : E u v = true) (fu : M u = u) (fv : M v = v) : Mt E L (addM M u v) where
  inv x := by
    by_cases e1 : x = u
    · subst e1; rw [addM_u, addM_v]
    · by_cases e2 : x = v
      · subst e2; rw [addM_v, addM_u]
      · rw [addM_x e1 e2, addM_x (fun e => e1 (by have := congrArg M e; rw [h.inv, fu] at this; exact this)) (fun e => e2 (by have := congrArg M e; rw [h.inv, fv] at this; exact this)), h.inv]
  edge x hx := by
    by_cases e1 : x = u
    · subst e1; rw [addM_u]; exact hE
    · by_cases e2 : x = v
      · subst e2; rw [addM_v]; exact hs _ _ hE
      · rw [addM_x e1 e2] at hx ⊢; exact h.edge x hx
  inn x hx := by
    by_cases e1 : x = u
    · rw [e1]; exact hu
    · by_cases e2 : x = v
      · rw [e2]; exact hv
      · rw [addM_x e1 e2] at hx; exact h.inn x hx
omit hs in
theorem fre_add {L : List Nat} (hn : L.Nodup) {M : Nat → Nat} {u v : Nat} (hu : u ∈ L) (hv : v ∈ L) (huv : u ≠ v) (fu : M u = u) (fv : M v = v) : freN L (addM M u v) + 2 = freN L M := by
  obtain ⟨R, h1, h2, h3, _⟩ := out_two hn hu hv huv
  rw [freN_perm h1, freN_perm h1, freN_cons, freN_cons, freN_cons, freN_cons, addM_u, addM_v, if_neg huv, if_neg (fun e => huv e.symm), if_pos fu, if_pos fv]
  rw [freN_congr (M := addM M u v) (N := M) fun x hx => addM_x (fun e => h2 (e ▸ hx)) (fun e => h3 (e ▸ hx))]
theorem mx_adj {L : List Nat} (hn : L.Nodup) {M : Nat → Nat} (h : MxM E L M) {u v : Nat} (hu : u ∈ L) (hv : v ∈ L) (huv : u ≠ v) (hE : E u v = true) : ¬ (M u = u ∧ M v = v) := fun ⟨fu, fv⟩ => by
  have h1 := h.2 _ (h.1.add hs hu hv hE fu fv)
  have h2 := fre_add hn hu hv huv fu fv
  omega

/-- One edge is changed for another. -/
def swpM (N : Nat → Nat) (x y z : Nat) : Nat → Nat := fun w => if w = z then z else addM N x y w
theorem Mt.swp {L : List Nat} {N : Nat → Nat} (h : Mt E L N) {x y z : Nat} (hx : x ∈ L) (hy : y ∈ L) (hE : E x y = true) (fx : N x = x) (hz : N y = z) (hyz : y ≠ z) : Mt E L (swpM N x y z) := by
  have hzy : N z = y := by rw [← hz, h.inv]
  have hxz : x ≠ z := fun e => hyz (by have := hzy; rw [← e, fx] at this; rw [← this, e])
  have hxy : x ≠ y := fun e => hyz (by rw [← e, fx] at hz; rw [← e]; exact hz)
  have other : ∀ w, w ≠ x → w ≠ y → w ≠ z → N w ≠ x ∧ N w ≠ y ∧ N w ≠ z := fun w h1 h2 h3 => ⟨fun e => h1 (by have := congrArg N e; rw [h.inv, fx] at this; exact this), fun e => h3 (by have := congrArg N e; rw [h.inv, hz] at this; exact this), fun e => h2 (by have := congrArg N e; rw [h.inv, hzy] at this; exact this)⟩
  have sx : swpM N x y z x = y := by unfold swpM; rw [if_neg hxz, addM_u]
  have sy : swpM N x y z y = x := by unfold swpM; rw [if_neg hyz, addM_v]
  have sz : swpM N x y z z = z := by unfold swpM; rw [if_pos rfl]
  have so : ∀ w, w ≠ x → w ≠ y → w ≠ z → swpM N x y z w = N w := fun w h1 h2 h3 => by unfold swpM; rw [if_neg h3, addM_x h1 h2]
  refine ⟨fun w => ?_, fun w hw => ?_, fun w hw => ?_⟩
  · by_cases e1 : w = x
    · subst e1; rw [sx, sy]
    · by_cases e2 : w = y
      · subst e2; rw [sy, sx]
      · by_cases e3 : w = z
        · subst e3; rw [sz, sz]
        · obtain ⟨o1, o2, o3⟩ := other w e1 e2 e3
          rw [so w e1 e2 e3, so _ o1 o2 o3, h.inv]
  · by_cases e1 : w = x
    · subst e1; rw [sx]; exact hE
    · by_cases e2 : w = y
      · subst e2; rw [sy]; exact hs _ _ hE
      · by_cases e3 : w = z
        · subst e3; exact absurd sz hw
        · rw [so w e1 e2 e3] at hw ⊢; exact h.edge w hw
  · by_cases e1 : w = x
    · rw [e1]; exact hx
    · by_cases e2 : w = y
      · rw [e2]; exact hy
      · by_cases e3 : w = z
        · subst e3; exact absurd sz hw
        · rw [so w e1 e2 e3] at hw; exact h.inn w hw
/-- On how many two matchings agree. -/
def agrN (L : List Nat) (M N : Nat → Nat) : Nat := L.countP fun w => decide (M w = N w ∧ M w ≠ w)
omit hs in
theorem agrN_cons (x : Nat) (L : List Nat) (M N : Nat → Nat) : agrN (x :: L) M N = agrN L M N + if M x = N x ∧ M x ≠ x then 1 else 0 := by
  unfold agrN
  rw [List.countP_cons]
  simp only [decide_eq_true_eq]
omit hs in
theorem swp_cnt {L : List Nat} (hn : L.Nodup) {M N : Nat → Nat} (hM : Mt E L M) (h : Mt E L N) {x y z : Nat} (hx : x ∈ L) (hy : y ∈ L) (fx : N x = x) (hz : N y = z) (hyz : y ≠ z) (hxy : M x = y) : freN L (swpM N x y z) = freN L N ∧ agrN L M N < agrN L M (swpM N x y z) := by
  have hzy : N z = y := by rw [← hz, h.inv]
  have hxz : x ≠ z := fun e => hyz (by have := hzy; rw [← e, fx] at this; rw [← this, e])
  have hxny : x ≠ y := fun e => hyz (by rw [← e, fx] at hz; rw [← e]; exact hz)
  have hzL : z ∈ L := by rw [← hz]; exact h.inn' (by rw [hz]; exact fun e => hyz e.symm)
  have hyx : M y = x := by rw [← hxy, hM.inv]
  have hMz : M z ≠ y := fun e => hxz (by have := congrArg M e; rw [hM.inv, hyx] at this; exact this.symm)
  have sx : swpM N x y z x = y := by unfold swpM; rw [if_neg hxz, addM_u]
  have sy : swpM N x y z y = x := by unfold swpM; rw [if_neg hyz, addM_v]
  have sz : swpM N x y z z = z := by unfold swpM; rw [if_pos rfl]
  obtain ⟨R, h1, h2, h3, h4, _⟩ := out_three hn hx hy hzL hxny hxz hyz
  have so : ∀ w ∈ R, swpM N x y z w = N w := fun w hw => by unfold swpM; rw [if_neg (show ¬ w = z from fun e => h4 (e ▸ hw)), addM_x (show w ≠ x from fun e => h2 (e ▸ hw)) (show w ≠ y from fun e => h3 (e ▸ hw))]
  constructor
  · rw [freN_perm h1, freN_perm h1]
    simp only [freN_cons]
    rw [sx, sy, sz, fx, hz, hzy, freN_congr so]
    simp [hyz, Ne.symm hyz, hxny, Ne.symm hxny]
  · have p1 : agrN L M N = agrN (x :: y :: z :: R) M N := h1.countP_eq _
    have p2 : agrN L M (swpM N x y z) = agrN (x :: y :: z :: R) M (swpM N x y z) := h1.countP_eq _
    have p3 : agrN R M (swpM N x y z) = agrN R M N := by
      unfold agrN
      refine List.countP_congr fun w hw => ?_
      rw [so w hw]
    rw [p1, p2]
    simp only [agrN_cons]
    rw [sx, sy, sz, fx, hz, hzy, hxy, hyx, p3]
    simp [Ne.symm hxny, hxny, hxz, hMz]
    omega

omit hs in
theorem cnt_split {α : Type} (p q : α → Bool) (l : List α) : l.countP p = l.countP (fun x => p x && q x) + l.countP (fun x => p x && !q x) := by
  induction l with
  | nil => rfl
  | cons a l ih =>
    simp only [List.countP_cons, ih]
    cases p a <;> cases q a <;> simp <;> omega
omit hs in
theorem cnt_two {L : List Nat} (hn : L.Nodup) {p : Nat → Bool} {u v : Nat} (hu : u ∈ L) (hv : v ∈ L) (huv : u ≠ v) (pu : p u = true) (pv : p v = true) : 2 ≤ L.countP p := by
  obtain ⟨R, h1, _⟩ := out_two hn hu hv huv
  rw [h1.countP_eq, List.countP_cons, List.countP_cons, if_pos pu, if_pos pv]
  omega
omit hs in
theorem cnt_one {L : List Nat} (hn : L.Nodup) {p : Nat → Bool} {t : Nat} (h : ∀ x ∈ L, p x = true → x = t) : L.countP p ≤ 1 := by
  rw [List.countP_eq_length_filter]
  have := nodup_sub (L.filter p) [t] (hn.sublist List.filter_sublist) fun x hx => by
    obtain ⟨h1, h2⟩ := List.mem_filter.1 hx
    rw [h x h1 h2]; simp
  simpa using this

/-- Who is missed by a greatest one is missed by one that misses u or v too, where u and v are missed by one. -/
theorem gallai {L : List Nat} (hn : L.Nodup) {M : Nat → Nat} (hM : MxM E L M) {u v t : Nat} (hu : u ∈ L) (hv : v ∈ L) (huv : u ≠ v) (fu : M u = u) (fv : M v = v) :
    ∀ (k : Nat) (N : Nat → Nat), MxM E L N → N t = t → L.length - agrN L M N ≤ k → ∃ N, MxM E L N ∧ N t = t ∧ (N u = u ∨ N v = v) := by
  by_cases ft : M t = t
  · exact fun _ _ _ _ _ => ⟨M, hM, ft, .inl fu⟩
  intro k
  induction k with
  | zero =>
    intro N hN hNt hk
    by_cases eu : N u = u
    · exact ⟨N, hN, hNt, .inl eu⟩
    · have h1 : agrN L M N < L.length := by
        rw [agrN, List.countP_eq_length_filter]
        refine Nat.lt_of_le_of_ne (List.length_filter_le _ _) fun e => ?_
        have := (List.length_filter_eq_length_iff.1 e) u hu
        simp [fu] at this
      omega
  | succ k ih =>
    intro N hN hNt hk
    by_cases eu : N u = u
    · exact ⟨N, hN, hNt, .inl eu⟩
    by_cases ev : N v = v
    · exact ⟨N, hN, hNt, .inr ev⟩
    have hc : freN L M = freN L N := Nat.le_antisymm (hM.2 N hN.1) (hN.2 M hM.1)
    obtain ⟨x, hx, hxt, hMx, hNx⟩ : ∃ x ∈ L, x ≠ t ∧ M x ≠ x ∧ N x = x := by
      refine Classical.byContradiction fun hno => ?_
      have c1 := cnt_split (fun x => decide (M x = x)) (fun x => decide (N x = x)) L
      have c2 := cnt_split (fun x => decide (N x = x)) (fun x => decide (M x = x)) L
      have c3 := cnt_two hn (p := fun x => decide (M x = x) && !decide (N x = x)) hu hv huv (by simp [fu, eu]) (by simp [fv, ev])
      have c4 := cnt_one hn (p := fun x => decide (N x = x) && !decide (M x = x)) (t := t) fun x hx hp => by
        simp only [Bool.and_eq_true, decide_eq_true_eq, Bool.not_eq_true', decide_eq_false_iff_not] at hp
        exact Classical.byContradiction fun e => hno ⟨x, hx, e, hp.2, hp.1⟩
      have c5 : L.countP (fun x => decide (M x = x) && decide (N x = x)) = L.countP (fun x => decide (N x = x) && decide (M x = x)) := by
        refine List.countP_congr fun x _ => ?_
        rw [Bool.and_comm]
      unfold freN at hc
      omega
    obtain ⟨y, hy⟩ : ∃ y, y = M x := ⟨_, rfl⟩
    have hyL : y ∈ L := by rw [hy]; exact hM.1.inn' hMx
    have hE : E x y = true := by rw [hy]; exact hM.1.edge x hMx
    have hxy : x ≠ y := fun e => hMx (by rw [← hy, e])
    have hNy : N y ≠ y := fun e => mx_adj hs hn hN hx hyL hxy hE ⟨hNx, e⟩
    obtain ⟨z, hz⟩ : ∃ z, z = N y := ⟨_, rfl⟩
    have hyz : y ≠ z := fun e => hNy (by rw [← hz, ← e])
    obtain ⟨q1, q2⟩ := swp_cnt hn hM.1 hN.1 hx hyL hNx hz.symm hyz hy.symm
    have q3 := hN.1.swp hs hx hyL hE hNx hz.symm hyz
    refine ih (swpM N x y z) ⟨q3, fun K hK => by rw [q1]; exact hN.2 K hK⟩ ?_ (by omega)
    unfold swpM
    by_cases e : t = z
    · rw [if_pos e]; exact e.symm
    · rw [if_neg e, addM_x (fun e => hxt e.symm) (fun e => hNy (by rw [← e]; exact hNt)), hNt]

/-- No greatest matching misses both. -/
def RR (E : Nat → Nat → Bool) (L : List Nat) (u v : Nat) : Prop := u = v ∨ ∀ M, MxM E L M → ¬ (M u = u ∧ M v = v)
theorem rr_trans {L : List Nat} (hn : L.Nodup) (hall : ∀ t ∈ L, ∃ N, MxM E L N ∧ N t = t) {u t v : Nat} (hu : u ∈ L) (ht : t ∈ L) (hv : v ∈ L) (h1 : RR E L u t) (h2 : RR E L t v) : RR E L u v := by
  by_cases huv : u = v
  · exact .inl huv
  rcases h1 with rfl | h1
  · exact h2
  rcases h2 with rfl | h2
  · exact .inr h1
  refine .inr fun M hM ⟨fu, fv⟩ => ?_
  obtain ⟨N0, k1, k2⟩ := hall t ht
  obtain ⟨N, k3, k4, k5⟩ := gallai hs hn hM hu hv huv fu fv _ N0 k1 k2 (Nat.le_refl _)
  rcases k5 with e | e
  · exact h1 N k3 ⟨e, k4⟩
  · exact h2 N k3 ⟨k4, e⟩
theorem rr_rch {L : List Nat} (hn : L.Nodup) (hall : ∀ t ∈ L, ∃ N, MxM E L N ∧ N t = t) {u : Nat} (hu : u ∈ L) : ∀ x, Rch E (· ∈ L) u x → RR E L u x := by
  intro x h
  induction h with
  | base => exact .inl rfl
  | @step x y h1 h2 h3 ih =>
    have hx : x ∈ L := rch_in (S := (· ∈ L)) hu _ h1
    refine rr_trans hs hn hall hu hx h3 ih ?_
    by_cases e : x = y
    · exact .inl e
    · exact .inr fun M hM => mx_adj hs hn hM hx h3 e h2

/-- The odd parts. -/
def oddL (ps : List (List Nat)) : Nat := (ps.map fun p => p.length % 2).sum
omit hs in
theorem parts_cnt {L : List Nat} {ps : List (List Nat)} (h : Parts E L ps) (f : Nat → Bool) : L.countP f = (ps.map fun p => p.countP f).sum := by
  induction h with
  | done => rfl
  | step u L ps _ ih =>
    rw [List.map_cons, List.sum_cons, ← ih]
    have e : (restL E (u :: L) u).countP f = ((u :: L).filter fun x => !dec (Rch E (· ∈ u :: L) u x)).countP f := rfl
    rw [e]
    unfold partL
    rw [List.countP_filter, List.countP_filter, cnt_split f (fun x => dec (Rch E (· ∈ u :: L) u x)) (u :: L)]
omit hs in
theorem partL_nodup {L : List Nat} (hn : L.Nodup) (u : Nat) : (partL E L u).Nodup := hn.sublist List.filter_sublist
omit hs in
theorem sum_leM {f g : List Nat → Nat} : ∀ {ps : List (List Nat)}, (∀ p ∈ ps, f p ≤ g p) → (ps.map f).sum ≤ (ps.map g).sum
  | [], _ => Nat.le_refl _
  | p :: ps, h => by
    rw [List.map_cons, List.map_cons, List.sum_cons, List.sum_cons]
    have h1 := h p (List.mem_cons_self ..)
    have h2 := sum_leM (ps := ps) fun q hq => h q (List.mem_cons_of_mem _ hq)
    omega
omit hs in
theorem sum_addM (f g : List Nat → Nat) : ∀ ps : List (List Nat), (ps.map fun p => f p + g p).sum = (ps.map f).sum + (ps.map g).sum
  | [] => rfl
  | p :: ps => by
    simp only [List.map_cons, List.sum_cons, sum_addM f g ps]
    omega
/-- Not less are missed than there are odd parts too many. -/
theorem odd_le {L U K : List Nat} (hK : ∀ x, x ∈ K ↔ x ∈ L ∧ x ∉ U) (hKn : K.Nodup) {M : Nat → Nat} (h : Mt E L M) {ps : List (List Nat)} (hp : Parts E K ps) : oddL ps ≤ freN L M + U.length := by
  have h1 : oddL ps ≤ (ps.map fun p => p.countP (fun x => decide (M x = x)) + p.countP fun x => decide (M x ∈ U ∧ M x ≠ x)).sum := by
    unfold oddL
    refine sum_leM fun p hpp => ?_
    have hpe := (parts_mem hs hp p).1 hpp
    obtain ⟨x0, hx0, hpe⟩ := hpe
    by_cases hodd : p.length % 2 = 1
    · refine Classical.byContradiction fun hno => ?_
      have z1 : p.countP (fun x => decide (M x = x)) = 0 := by omega
      have z2 : p.countP (fun x => decide (M x ∈ U ∧ M x ≠ x)) = 0 := by omega
      have hpn : p.Nodup := by rw [hpe]; exact partL_nodup hKn x0
      have := par_fix h.inv p.length p (Nat.le_refl _) hpn fun x hx => by
        have hf : M x ≠ x := by simpa using (List.countP_eq_zero.1 z1) x hx
        have hU : M x ∉ U := by
          have := (List.countP_eq_zero.1 z2) x hx
          simp only [decide_eq_true_eq, not_and] at this
          exact fun e => this e hf
        rw [hpe] at hx ⊢
        obtain ⟨hxK, hxr⟩ := mem_partL.1 hx
        have hMK : M x ∈ K := (hK _).2 ⟨h.inn' hf, hU⟩
        exact mem_partL.2 ⟨hMK, .step hxr (h.edge x hf) hMK⟩
      unfold freN at this
      omega
    · omega
  rw [sum_addM, ← parts_cnt hp, ← parts_cnt hp] at h1
  have h2 : K.countP (fun x => decide (M x = x)) ≤ freN L M := by
    unfold freN
    rw [List.countP_eq_length_filter, List.countP_eq_length_filter]
    refine nodup_sub _ _ (hKn.sublist List.filter_sublist) fun x hx => ?_
    obtain ⟨a, b⟩ := List.mem_filter.1 hx
    exact List.mem_filter.2 ⟨((hK x).1 a).1, b⟩
  have h3 : K.countP (fun x => decide (M x ∈ U ∧ M x ≠ x)) ≤ U.length := by
    rw [List.countP_eq_length_filter]
    have : ((K.filter fun x => decide (M x ∈ U ∧ M x ≠ x)).map M).length ≤ U.length := by
      refine nodup_sub _ _ ?_ fun y hy => ?_
      · have hnf := hKn.sublist (List.filter_sublist (p := fun x => decide (M x ∈ U ∧ M x ≠ x)))
        unfold List.Nodup at hnf ⊢
        rw [List.pairwise_map]
        exact hnf.imp fun hne e => hne (h.inj e)
      · obtain ⟨x, hx, rfl⟩ := List.mem_map.1 hy
        have := (List.mem_filter.1 hx).2
        simp only [decide_eq_true_eq] at this
        exact this.1
    rwa [List.length_map] at this
  omega
/-- The formula: some set says of a matching that it is greatest. -/
theorem tutte_berge : ∀ (m : Nat) (L : List Nat), L.length ≤ m → L.Nodup → ∃ (U : List Nat) (M : Nat → Nat), U.Nodup ∧ (∀ x ∈ U, x ∈ L) ∧ Mt E L M ∧ ∀ K, (∀ x, x ∈ K ↔ x ∈ L ∧ x ∉ U) → K.Nodup → ∀ ps, Parts E K ps → oddL ps = freN L M + U.length := by
  intro m
  induction m with
  | zero =>
    intro L hl hn
    obtain rfl := List.length_eq_zero_iff.1 (Nat.le_zero.1 hl)
    refine ⟨[], id, List.nodup_nil, fun x hx => hx, Mt.id E [], fun K hK _ ps hp => ?_⟩
    have : K = [] := List.eq_nil_iff_forall_not_mem.2 fun x hx => by
      have := ((hK x).1 hx).1
      cases this
    subst this
    cases hp
    rfl
  | succ m ih =>
    intro L hl hn
    by_cases hall : ∀ t ∈ L, ∃ N, MxM E L N ∧ N t = t
    · obtain ⟨M, hM⟩ := mx_ex E L
      refine ⟨[], M, List.nodup_nil, fun x hx => absurd hx (by simp), hM.1, fun K hK hKn ps hp => ?_⟩
      have hKL : ∀ x, x ∈ K ↔ x ∈ L := fun x => by rw [hK]; simp
      have e1 : freN L M = freN K M := freN_perm ((List.perm_ext_iff_of_nodup hn hKn).2 fun x => (hKL x).symm) M
      rw [e1]
      unfold freN oddL
      rw [parts_cnt hp, List.length_nil, Nat.add_zero]
      refine congrArg List.sum (List.map_congr_left fun p hpp => ?_)
      obtain ⟨x0, hx0, hpe⟩ := (parts_mem hs hp p).1 hpp
      have hpn : p.Nodup := by rw [hpe]; exact partL_nodup hKn x0
      have hle : p.countP (fun x => decide (M x = x)) ≤ 1 := by
        refine Classical.byContradiction fun hgt => ?_
        rw [List.countP_eq_length_filter] at hgt
        have hfn := hpn.sublist (List.filter_sublist (p := fun x => decide (M x = x)))
        generalize hF : p.filter (fun x => decide (M x = x)) = F at hgt hfn
        match F, hgt, hfn, hF with
        | [], hgt, _, _ => simp at hgt
        | [_], hgt, _, _ => simp at hgt
        | a :: b :: F, _, hfn, hF =>
          have ha : a ∈ p.filter (fun x => decide (M x = x)) := by rw [hF]; simp
          have hb : b ∈ p.filter (fun x => decide (M x = x)) := by rw [hF]; simp
          obtain ⟨a1, a2⟩ := List.mem_filter.1 ha
          obtain ⟨b1, b2⟩ := List.mem_filter.1 hb
          simp only [decide_eq_true_eq] at a2 b2
          have hab : a ≠ b := fun e => by
            subst e
            exact (List.nodup_cons.1 hfn).1 (by simp)
          rw [hpe] at a1 b1
          obtain ⟨aK, ar⟩ := mem_partL.1 a1
          obtain ⟨bK, br⟩ := mem_partL.1 b1
          have rab := rch_trans (rch_sym hs hx0 ar) br
          have rab' : Rch E (· ∈ L) a b := rch_mono (fun x hx => (hKL x).1 hx) _ rab
          rcases rr_rch hs hn hall ((hKL a).1 aK) _ rab' with e | e
          · exact hab e
          · exact e M hM ⟨a2, b2⟩
      have hpar := par_fix hM.1.inv p.length p (Nat.le_refl _) hpn fun x hx => by
        by_cases hf : M x = x
        · rw [hf]; exact hx
        rw [hpe] at hx ⊢
        obtain ⟨hxK, hxr⟩ := mem_partL.1 hx
        have hMK : M x ∈ K := (hKL _).2 (hM.1.inn' hf)
        exact mem_partL.2 ⟨hMK, .step hxr (hM.1.edge x hf) hMK⟩
      unfold freN at hpar
      omega
    · obtain ⟨v, hv⟩ := Classical.not_forall.1 hall
      obtain ⟨hvL, hno⟩ : v ∈ L ∧ ¬ ∃ N, MxM E L N ∧ N v = v := by
        refine Classical.byContradiction fun h => hv fun hvL => Classical.byContradiction fun h2 => h ⟨hvL, h2⟩
      obtain ⟨R, h1, h2, h3⟩ := out_one hn hvL
      have hlen := h1.length_eq
      rw [List.length_cons] at hlen
      obtain ⟨U, N, u1, u2, u3, u4⟩ := ih R (by omega) h3
      obtain ⟨M, hM⟩ := mx_ex E L
      have hRL : ∀ x ∈ R, x ∈ L := fun x hx => h1.symm.subset (List.mem_cons_of_mem _ hx)
      have hvM : M v ≠ v := fun e => hno ⟨M, hM, e⟩
      have hvN : N v = v := Classical.byContradiction fun e => h2 (u3.inn v e)
      have f1 : freN L N = freN R N + 1 := by rw [freN_perm h1, freN_cons, if_pos hvN]
      have hNL := u3.sub hRL
      have hlt : freN L M < freN L N := by
        refine Nat.lt_of_le_of_ne (hM.2 N hNL) fun e => hno ⟨N, ⟨hNL, fun K hK => by rw [← e]; exact hM.2 K hK⟩, hvN⟩
      have hp1 := hM.1.par hn
      have hp2 := hNL.par hn
      -- the matching without v's edge
      obtain ⟨w, hw⟩ : ∃ w, w = M v := ⟨_, rfl⟩
      have hMw : M w = v := by rw [hw, hM.1.inv]
      have hwv : w ≠ v := by rw [hw]; exact hvM
      have hwL : w ∈ L := by rw [hw]; exact hM.1.inn' hvM
      have hD : Mt E R (fun x => if x = v ∨ x = w then x else M x) := {
        inv := fun x => by
          by_cases e : x = v ∨ x = w
          · simp only [if_pos e]
          · have e2 : ¬ (M x = v ∨ M x = w) := fun h => e (by
              rcases h with h | h
              · exact .inr (by have := congrArg M h; rw [hM.1.inv, ← hw] at this; exact this)
              · exact .inl (by have := congrArg M h; rw [hM.1.inv, hMw] at this; exact this))
            simp only [if_neg e, if_neg e2, hM.1.inv]
        edge := fun x hx => by
          by_cases e : x = v ∨ x = w
          · simp only [if_pos e] at hx; exact absurd rfl hx
          · simp only [if_neg e] at hx ⊢; exact hM.1.edge x hx
        inn := fun x hx => by
          by_cases e : x = v ∨ x = w
          · simp only [if_pos e] at hx; exact absurd rfl hx
          · simp only [if_neg e] at hx
            rcases List.mem_cons.1 (h1.subset (hM.1.inn x hx)) with e3 | e3
            · exact absurd (.inl e3) e
            · exact e3 }
      have hwR : w ∈ R := by
        rcases List.mem_cons.1 (h1.subset hwL) with e | e
        · exact absurd e hwv
        · exact e
      have f2 : freN R (fun x => if x = v ∨ x = w then x else M x) = freN L M + 1 := by
        obtain ⟨Q, q1, q2, q3⟩ := out_one h3 hwR
        rw [freN_perm h1, freN_cons, if_neg hvM, freN_perm q1, freN_perm q1, freN_cons, freN_cons, if_pos (by simp), hMw, if_neg (fun e => hwv e.symm)]
        rw [freN_congr (N := M) fun x hx => if_neg (fun e => by
          rcases e with e | e
          · exact h2 (q1.symm.subset (List.mem_cons_of_mem _ (e ▸ hx)))
          · exact q2 (e ▸ hx))]
      have hKf : ∃ K : List Nat, (∀ x, x ∈ K ↔ x ∈ R ∧ x ∉ U) ∧ K.Nodup := ⟨R.filter fun x => decide (x ∉ U), fun x => by simp [List.mem_filter], h3.sublist List.filter_sublist⟩
      obtain ⟨K0, hK0, hK0n⟩ := hKf
      obtain ⟨ps0, hps0⟩ := parts_exB E K0.length K0 (Nat.le_refl _)
      have g1 := u4 K0 hK0 hK0n ps0 hps0
      have g2 := odd_le hs hK0 hK0n hD hps0
      have hvU : v ∉ U := fun e => h2 (u2 v e)
      refine ⟨v :: U, M, List.nodup_cons.2 ⟨hvU, u1⟩, fun x hx => ?_, hM.1, fun K hK hKn ps hp => ?_⟩
      · rcases List.mem_cons.1 hx with rfl | hx
        · exact hvL
        · exact hRL x (u2 x hx)
      · have := u4 K (fun x => by
          rw [hK]
          constructor
          · rintro ⟨a, b⟩
            rcases List.mem_cons.1 (h1.subset a) with e | e
            · exact absurd (by rw [e]; simp) b
            · exact ⟨e, fun c => b (List.mem_cons_of_mem _ c)⟩
          · rintro ⟨a, b⟩
            refine ⟨hRL x a, fun c => ?_⟩
            rcases List.mem_cons.1 c with e | e
            · exact h2 (e ▸ a)
            · exact b e) hKn ps hp
        rw [this, List.length_cons]
        omega
end

end Go.Proofs.YtiooindlpinjhaaDoor
