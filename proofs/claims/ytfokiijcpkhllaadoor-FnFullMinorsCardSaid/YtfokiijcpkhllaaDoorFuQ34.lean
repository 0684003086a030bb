/- Plain: cutting and contracting as long as something is left that cannot be folded away ends with a model of the full graph of four. -/
import Derived.Test.YtfokiijcpkhllaaDoorFuQ20
import Derived.Test.YtfokiijcpkhllaaDoorFuQ33
namespace Go.Proofs.YtfokiijcpkhllaaDoor

theorem gok_of {g h : List (List Int)} (hg : GOk g) (hl : h.length = g.length) (hr : RG h) (hs : ∀ x y, adjR h x y → adjR h y x) (hi : ∀ x, ¬ adjR h x x) : GOk h :=
  ⟨by rw [hl]; exact hg.pos, by rw [hl]; exact hg.le, fun v _ => ⟨hr v, hi v⟩, fun v _ u hu => by
    have h0 := ((hr v).1 u hu).1
    exact hs v u.toNat (show ((u.toNat : Nat) : Int) ∈ row h v by rw [show ((u.toNat : Nat) : Int) = u by omega]; exact hu)⟩
theorem adjR_free {g : List (List Int)} (hg : GOk g) (v x y : Nat) : adjR (freeG g v) x y ↔ x ≠ v ∧ y ≠ v ∧ adjR g x y := by
  unfold adjR
  by_cases hx : x < g.length
  · rw [row_freeG g v hx]
    by_cases e : x = v
    · subst e
      rw [freeRow_yes rfl]
      simp
    · rw [freeRow_no (by omega), mem_lessL]
      constructor
      · rintro ⟨h1, h2⟩; exact ⟨e, by omega, h1⟩
      · rintro ⟨_, h2, h1⟩; exact ⟨h1, by omega⟩
  · rw [row_over (by rw [freeG_length]; omega), row_over (show g.length ≤ x by omega)]
    simp
theorem freeG_ok {g : List (List Int)} (hg : GOk g) (v : Nat) : GOk (freeG g v) :=
  gok_of hg (freeG_length _ _) ((RG.of_ok hg).free v) (fun x y h => by
    rw [adjR_free hg] at h ⊢
    exact ⟨h.2.1, h.1, adjR_sym hg _ _ h.2.2⟩) fun x h => by
    rw [adjR_free hg] at h
    exact adjR_irr hg x h.2.2
theorem adjR_join {g : List (List Int)} (hg : GOk g) {u v : Nat} (huv : adjR g u v) (x y : Nat) : adjR (joinG g u v) x y ↔ conR (adjR g) u v x y := by
  have hul := adjR_lt hg huv
  have hne : u ≠ v := fun e => adjR_irr hg v (e ▸ huv)
  obtain ⟨_, hm⟩ := joinG_mem (g := g) (u := (u : Int)) (v := (v : Int)) (RG.of_ok hg) (by omega) (by omega)
  have hf := adjR_free hg v x y
  unfold adjR at hf ⊢
  rw [hm x y, hf]
  have e : ((v : Int)).toNat = v := rfl
  rw [e]
  unfold conR
  constructor
  · rintro (⟨h1, h2, h3⟩ | ⟨z, hz, h1, h⟩)
    · exact ⟨h1, h2, fun e => adjR_irr hg x (show (x : Int) ∈ row g x by rw [← e] at h3; exact h3), .inl h3⟩
    · have hzv : z ≠ v := fun e => adjR_irr hg v (show (v : Int) ∈ row g v by rw [← e]; exact hz)
      rcases h with ⟨h2, h3⟩ | ⟨h2, h3⟩
      · subst h2
        exact ⟨by omega, by omega, by omega, .inr (.inr ⟨by omega, hz⟩)⟩
      · subst h3
        exact ⟨by omega, by omega, by omega, .inr (.inl ⟨by omega, hz⟩)⟩
  · rintro ⟨h1, h2, h3, h | ⟨rfl, h⟩ | ⟨rfl, h⟩⟩
    · exact .inl ⟨h1, h2, h⟩
    · exact .inr ⟨(y : Int), h, by omega, .inr ⟨rfl, rfl⟩⟩
    · exact .inr ⟨(x : Int), h, by omega, .inl ⟨rfl, rfl⟩⟩
theorem joinG_ok {g : List (List Int)} (hg : GOk g) {u v : Nat} (huv : adjR g u v) : GOk (joinG g u v) :=
  gok_of hg (joinG_length _ _ _) (joinG_mem (RG.of_ok hg) (by omega) (by have := adjR_lt hg huv; omega)).1 (fun x y h => by
    rw [adjR_join hg huv] at h ⊢
    obtain ⟨h1, h2, h3, h4⟩ := h
    refine ⟨h2, h1, Ne.symm h3, ?_⟩
    rcases h4 with h | h | h
    · exact .inl (adjR_sym hg _ _ h)
    · exact .inr (.inr h)
    · exact .inr (.inl h)) fun x h => by
    rw [adjR_join hg huv] at h
    exact h.2.2.1 rfl
theorem innR_free {g : List (List Int)} {L : List Int} (hg : GOk g) (hi : InnR g L) (v : Nat) : InnR (freeG g v) (lessL L v) := fun x y h => by
  rw [adjR_free hg] at h
  exact mem_lessL.2 ⟨hi _ _ h.2.2, by omega⟩
theorem innR_join {g : List (List Int)} {L : List Int} (hg : GOk g) (hi : InnR g L) {u v : Nat} (huv : adjR g u v) : InnR (joinG g u v) (lessL L v) := fun x y h => by
  rw [adjR_join hg huv] at h
  obtain ⟨h1, h2, h3, h4⟩ := h
  refine mem_lessL.2 ⟨?_, by omega⟩
  rcases h4 with h | h | h
  · exact hi _ _ h
  · exact hi _ _ h.2
  · rw [h.1]; exact hi _ _ (adjR_sym hg _ _ huv)
theorem lessOf_some {g : List (List Int)} {L : List Int} {v : Int} (h : lessOf g L = some v) : v ∈ L ∧ HardS (freeG g v) (lessL L v) := by
  have h' : L.find? (fun v => dec (HardS (freeG g v) (lessL L v))) = some v := h
  have h2 := List.find?_some h'
  exact ⟨List.mem_of_find?_eq_some h', dec_iff.1 h2⟩
theorem lessOf_none {g : List (List Int)} {L : List Int} (h : lessOf g L = none) : ∀ v ∈ L, ¬ HardS (freeG g v) (lessL L v) := fun v hv hh => by
  have := List.find?_eq_none.1 h v hv
  exact this (dec_true hh)
theorem edgeOf_some {g : List (List Int)} {L : List Int} {u v : Int} (h : edgeOf g L = some (u, v)) : u ∈ L ∧ v ∈ row g u.toNat ∧ u < v ∧ HardS (joinG g u v) (lessL L v) := by
  obtain ⟨x, hx, hf⟩ := List.exists_of_findSome?_eq_some h
  unfold edgeF at hf
  cases hr : edgeRow g L x with
  | none => rw [hr] at hf; cases hf
  | some y =>
    rw [hr] at hf
    cases hf
    have h1 := List.find?_some hr
    rw [Bool.and_eq_true] at h1
    exact ⟨hx, List.mem_of_find?_eq_some hr, dec_iff.1 h1.1, dec_iff.1 h1.2⟩
theorem edgeOf_none {g : List (List Int)} {L : List Int} (h : edgeOf g L = none) : ∀ u ∈ L, ∀ v ∈ row g u.toNat, u < v → ¬ HardS (joinG g u v) (lessL L v) := fun u hu v hv huv hh => by
  have h1 := List.findSome?_eq_none_iff.1 h u hu
  unfold edgeF at h1
  rw [Option.map_eq_none_iff] at h1
  have := List.find?_eq_none.1 h1 v hv
  refine this ?_
  rw [Bool.and_eq_true]
  exact ⟨dec_true huv, dec_true hh⟩
theorem mem_intoAll {t : List Int} : ∀ {s : List Int} {x : Int}, x ∈ intoAll s t ↔ x ∈ s ∨ x ∈ t := by
  induction t with
  | nil => intro s x; simp [intoAll]
  | cons y t ih =>
    intro s x
    show x ∈ intoAll (intoL s y) t ↔ _
    rw [ih, mem_intoL, List.mem_cons, or_assoc]
theorem connS_union {g : List (List Int)} {A B C : List Int} (hA : ConnS g A) (hB : ConnS g B) (hAB : JoinP g A B) (hC : SetIn g.length C) (hm : ∀ x, x ∈ C ↔ x ∈ A ∨ x ∈ B) : ConnS g C := by
  have hg := hA.1.1
  have hs := ofG_sym hg
  have mA : ∀ {x y : Int}, x ∈ A → y ∈ A → Rch (ofG g) (· ∈ C.map Int.toNat) x.toNat y.toNat := fun hx hy => rch_mono (fun t ht => by
      obtain ⟨s, hs, rfl⟩ := List.mem_map.1 ht
      exact List.mem_map.2 ⟨s, (hm _).2 (.inl hs), rfl⟩) _ (connL_all hs hA.2 (List.mem_map.2 ⟨_, hx, rfl⟩) (List.mem_map.2 ⟨_, hy, rfl⟩))
  have mB : ∀ {x y : Int}, x ∈ B → y ∈ B → Rch (ofG g) (· ∈ C.map Int.toNat) x.toNat y.toNat := fun hx hy => rch_mono (fun t ht => by
      obtain ⟨s, hs, rfl⟩ := List.mem_map.1 ht
      exact List.mem_map.2 ⟨s, (hm _).2 (.inr hs), rfl⟩) _ (connL_all hs hB.2 (List.mem_map.2 ⟨_, hx, rfl⟩) (List.mem_map.2 ⟨_, hy, rfl⟩))
  obtain ⟨a, ha, b, hb, hab⟩ := hAB
  have ha0 := (hA.1.2.1 a ha).1
  have hb0 := (hB.1.2.1 b hb).1
  have e1 : ofG g a.toNat b.toNat = true := decide_eq_true (by rw [show ((b.toNat : Nat) : Int) = b by omega]; exact hab)
  have aC : a.toNat ∈ C.map Int.toNat := List.mem_map.2 ⟨a, (hm a).2 (.inl ha), rfl⟩
  have bC : b.toNat ∈ C.map Int.toNat := List.mem_map.2 ⟨b, (hm b).2 (.inr hb), rfl⟩
  have hAB' : Rch (ofG g) (· ∈ C.map Int.toNat) a.toNat b.toNat := .step .base e1 bC
  have hBA' : Rch (ofG g) (· ∈ C.map Int.toNat) b.toNat a.toNat := .step .base (hs _ _ e1) aC
  refine ⟨⟨hg, hC⟩, connL_of (fun e => by rw [e] at aC; cases aC) fun x hx y hy => ?_⟩
  obtain ⟨x, hxC, rfl⟩ := List.mem_map.1 hx
  obtain ⟨y, hyC, rfl⟩ := List.mem_map.1 hy
  clear hx hy
  rcases (hm x).1 hxC with hx | hx <;> rcases (hm y).1 hyC with hy | hy
  · exact mA hx hy
  · exact rch_trans (rch_trans (mA hx ha) hAB') (mB hb hy)
  · exact rch_trans (rch_trans (mB hx hb) hBA') (mA ha hy)
  · exact mB hx hy

/-- What cutting and contracting keeps. -/
structure FIv (g0 g : List (List Int)) (L : List Int) (S : List (List Int)) : Prop where
  ok : GOk g
  len : g.length = g0.length
  sl : S.length = g0.length
  lin : SetIn g.length L
  inn : InnR g L
  km : ∃ B, KM (adjR g) 4 B
  set : ∀ v : Nat, (v : Int) ∈ L → SetIn g0.length (row S v)
  conn : ∀ v : Nat, (v : Int) ∈ L → ConnS g0 (row S v)
  dis : ∀ u v : Nat, (u : Int) ∈ L → (v : Int) ∈ L → u ≠ v → ∀ x ∈ row S u, x ∉ row S v
  jn : ∀ u v : Nat, adjR g u v → JoinP g0 (row S u) (row S v)

theorem row_aloneL {n v : Nat} (h : v < n) : row (aloneL n) v = [(v : Int)] := by simp [row, aloneL, h]
theorem FIv.start {g : List (List Int)} (hg : GOk g) (h6 : g.length ≤ 6) (hs : ¬ SerS g) : FIv g g (allL g.length) (aloneL g.length) where
  ok := hg
  len := rfl
  sl := by simp [aloneL]
  lin := ⟨fun x hx => mem_allL.1 hx, allL_rising _⟩
  inn := innR_all hg
  km := Classical.byContradiction fun h => hs ((ser_km hg h6).2 h)
  set v hv := by
    have := mem_allL.1 hv
    rw [row_aloneL (by omega)]
    exact ⟨fun x hx => by obtain rfl : x = (v : Int) := by simpa using hx
                          omega, by simp⟩
  conn v hv := by
    have := mem_allL.1 hv
    rw [row_aloneL (by omega)]
    refine ⟨⟨hg, ⟨fun x hx => ?_, by simp⟩⟩, ?_⟩
    · obtain rfl : x = (v : Int) := by simpa using hx
      omega
    · have : ([(v : Int)]).map Int.toNat = [v] := by simp
      rw [this]
      exact connL_one _ _
  dis u v hu hv huv x hx hy := by
    have h1 := mem_allL.1 hu
    have h2 := mem_allL.1 hv
    rw [row_aloneL (by omega)] at hx hy
    have e1 : x = (u : Int) := by simpa using hx
    have e2 : x = (v : Int) := by simpa using hy
    omega
  jn u v h := by
    have h1 := adjR_lt hg h
    have h2 := adjR_lt hg (adjR_sym hg _ _ h)
    rw [row_aloneL h1, row_aloneL h2]
    exact ⟨u, by simp, v, by simp, h⟩
theorem setIn_less' {n : Int} {L : List Int} (h : SetIn n L) (v : Int) : SetIn n (lessL L v) := setIn_lessL h v
theorem FIv.less {g0 g : List (List Int)} {L : List Int} {S : List (List Int)} (I : FIv g0 g L S) (h6 : g0.length ≤ 6) {v : Int} (h : lessOf g L = some v) : FIv g0 (freeG g v) (lessL L v) S := by
  obtain ⟨hv, hh⟩ := lessOf_some h
  have hv0 := I.lin.1 v hv
  obtain ⟨n, rfl⟩ := Int.eq_ofNat_of_zero_le hv0.1
  have hok := freeG_ok I.ok n
  have hl : (freeG g n).length = g.length := freeG_length _ _
  have hlin : SetIn (freeG g n).length (lessL L n) := by rw [hl]; exact setIn_lessL I.lin _
  have hinn := innR_free I.ok I.inn n
  exact ⟨hok, by rw [hl]; exact I.len, I.sl, hlin, hinn, (hard_km hok (by rw [hl, I.len]; exact h6) hlin hinn).1 hh, fun v hv => I.set v (mem_lessL.1 hv).1, fun v hv => I.conn v (mem_lessL.1 hv).1,
    fun u v hu hv => I.dis u v (mem_lessL.1 hu).1 (mem_lessL.1 hv).1, fun u v h => I.jn u v ((adjR_free I.ok n u v).1 h).2.2⟩
theorem FIv.edge {g0 g : List (List Int)} {L : List Int} {S : List (List Int)} (I : FIv g0 g L S) (h0 : GOk g0) (h6 : g0.length ≤ 6) {u v : Int} (h : edgeOf g L = some (u, v)) :
    FIv g0 (joinG g u v) (lessL L v) (S.set u.toNat (intoAll (row S u.toNat) (row S v.toNat))) := by
  obtain ⟨hu, hv, huv, hh⟩ := edgeOf_some h
  have hu0 := I.lin.1 u hu
  obtain ⟨m, rfl⟩ := Int.eq_ofNat_of_zero_le hu0.1
  have em : ((m : Int)).toNat = m := rfl
  rw [em] at hv ⊢
  have hv0 := (RG.of_ok I.ok m).1 v hv
  obtain ⟨n, rfl⟩ := Int.eq_ofNat_of_zero_le hv0.1
  have en : ((n : Int)).toNat = n := rfl
  rw [en]
  have hadj : adjR g m n := hv
  have hnL : (n : Int) ∈ L := I.inn _ _ hadj
  have hok := joinG_ok I.ok hadj
  have hl : (joinG g m n).length = g.length := joinG_length _ _ _
  have hlin : SetIn (joinG g m n).length (lessL L n) := by rw [hl]; exact setIn_lessL I.lin _
  have hinn := innR_join I.ok I.inn hadj
  have hmS : m < S.length := by rw [I.sl, ← I.len]; omega
  have hrow : ∀ w, row (S.set m (intoAll (row S m) (row S n))) w = if w = m then intoAll (row S m) (row S n) else row S w := fun w => by
    rw [row_put]
    by_cases e : w = m
    · rw [if_pos ⟨e, hmS⟩, if_pos e]
    · rw [if_neg (fun c => e c.1), if_neg e]
  have hset : SetIn g0.length (intoAll (row S m) (row S n)) := intoAll_set _ (I.set m hu) (I.set n hnL).1
  have hsup : ∀ w, ∀ x ∈ row S w, x ∈ row (S.set m (intoAll (row S m) (row S n))) w := fun w x hx => by
    rw [hrow]
    by_cases e : w = m
    · rw [if_pos e, mem_intoAll]; exact .inl (e ▸ hx)
    · rw [if_neg e]; exact hx
  have hsup2 : ∀ x ∈ row S n, x ∈ row (S.set m (intoAll (row S m) (row S n))) m := fun x hx => by
    rw [hrow, if_pos rfl, mem_intoAll]; exact .inr hx
  refine ⟨hok, by rw [hl]; exact I.len, by rw [List.length_set]; exact I.sl, hlin, hinn, (hard_km hok (by rw [hl, I.len]; exact h6) hlin hinn).1 hh, fun w hw => ?_, fun w hw => ?_, fun a b ha hb hab x hx hy => ?_, fun a b hab => ?_⟩
  · rw [hrow]
    split
    · exact hset
    · exact I.set w (mem_lessL.1 hw).1
  · rw [hrow]
    split
    · exact connS_union (I.conn m hu) (I.conn n hnL) (I.jn m n hadj) hset fun x => mem_intoAll
    · exact I.conn w (mem_lessL.1 hw).1
  · obtain ⟨ha1, ha2⟩ := mem_lessL.1 ha
    obtain ⟨hb1, hb2⟩ := mem_lessL.1 hb
    rw [hrow] at hx hy
    by_cases e1 : a = m
    · rw [if_pos e1, mem_intoAll] at hx
      rw [if_neg (by omega)] at hy
      rcases hx with hx | hx
      · exact I.dis m b hu hb1 (by omega) x hx hy
      · exact I.dis n b hnL hb1 (by omega) x hx hy
    · rw [if_neg e1] at hx
      by_cases e2 : b = m
      · rw [if_pos e2, mem_intoAll] at hy
        rcases hy with hy | hy
        · exact I.dis a m ha1 hu (by omega) x hx hy
        · exact I.dis a n ha1 hnL (by omega) x hx hy
      · rw [if_neg e2] at hy
        exact I.dis a b ha1 hb1 hab x hx hy
  · rw [adjR_join I.ok hadj] at hab
    obtain ⟨h1, h2, h3, h4⟩ := hab
    rcases h4 with h4 | ⟨rfl, h4⟩ | ⟨rfl, h4⟩
    · obtain ⟨x, hx, y, hy, hxy⟩ := I.jn a b h4
      exact ⟨x, hsup a x hx, y, hsup b y hy, hxy⟩
    · obtain ⟨x, hx, y, hy, hxy⟩ := I.jn n b h4
      exact ⟨x, hsup2 x hx, y, hsup b y hy, hxy⟩
    · obtain ⟨x, hx, y, hy, hxy⟩ := I.jn a n (adjR_sym I.ok _ _ h4)
      exact ⟨x, hsup a x hx, y, hsup2 y hy, hxy⟩
theorem fours_end {g : List (List Int)} {L : List Int} {S : List (List Int)} {L' : List Int} {S' : List (List Int)} (h : Fours g L S L' S') : ∀ {g0 : List (List Int)}, GOk g0 → g0.length ≤ 6 → FIv g0 g L S →
    ∃ g', FIv g0 g' L' S' ∧ lessOf g' L' = none ∧ edgeOf g' L' = none := by
  induction h with
  | stop h1 h2 => intro g0 h0 h6 I; exact ⟨_, I, h1, h2⟩
  | less h1 _ ih => intro g0 h0 h6 I; exact ih h0 h6 (I.less h6 h1)
  | edge h1 h2 _ ih => intro g0 h0 h6 I; exact ih h0 h6 (I.edge h0 h6 h2)

/-- Four vertices are left, and each two of them are neighbours. -/
theorem stuck_four {g0 g : List (List Int)} {L : List Int} {S : List (List Int)} (I : FIv g0 g L S) (h6 : g0.length ≤ 6) (h1 : lessOf g L = none) (h2 : edgeOf g L = none) :
    L.length = 4 ∧ ∀ x y : Nat, (x : Int) ∈ L → (y : Int) ∈ L → x ≠ y → adjR g x y := by
  obtain ⟨B, hB⟩ := I.km
  have hgl : g.length ≤ 6 := by rw [I.len]; exact h6
  have hin : ∀ v : Nat, (v : Int) ∈ L → ∃ i, i < 4 ∧ B i v := fun v hv => Classical.byContradiction fun hno => by
    have hfl : (freeG g v).length = g.length := freeG_length _ _
    refine lessOf_none h1 v hv ((hard_km (freeG_ok I.ok v) (by rw [hfl]; exact hgl) (by rw [hfl]; exact setIn_lessL I.lin _) (innR_free I.ok I.inn v)).2 ⟨B, hB.mono fun i hi j hj x y hx hy r => ?_⟩)
    rw [adjR_free I.ok]
    exact ⟨fun e => hno ⟨i, hi, e ▸ hx⟩, fun e => hno ⟨j, hj, e ▸ hy⟩, r⟩
  have hone : ∀ i, i < 4 → ∀ x y, B i x → B i y → x = y := fun i hi x y hx hy => Classical.byContradiction fun hxy => by
    obtain ⟨a, b, ha, hb, rfl, hne, r⟩ := hB.conn i hi (· = x) ⟨x, hx, rfl⟩ ⟨y, hy, fun e => hxy e.symm⟩
    have key : ∀ a b, B i a → B i b → a < b → adjR g a b → False := fun a b ha hb hlt r => by
      have hjl : (joinG g a b).length = g.length := joinG_length _ _ _
      have haL : (a : Int) ∈ L := I.inn _ _ (adjR_sym I.ok _ _ r)
      refine edgeOf_none h2 a haL b r (by omega) ((hard_km (joinG_ok I.ok r) (by rw [hjl]; exact hgl) (by rw [hjl]; exact setIn_lessL I.lin _) (innR_join I.ok I.inn r)).2 ?_)
      rw [goneR_congr (adjR_join I.ok r)]
      exact ⟨_, hB.contr (adjR_sym I.ok) (by omega) hi ha hb⟩
    rcases Nat.lt_or_gt_of_ne hne with h | h
    · exact key b a hb ha h (adjR_sym I.ok _ _ r)
    · exact key a b ha hb h r
  have hB0 := hB.ne 0 (by omega)
  have hB1 := hB.ne 1 (by omega)
  have hB2 := hB.ne 2 (by omega)
  have hB3 := hB.ne 3 (by omega)
  obtain ⟨b0, k0⟩ := hB0
  obtain ⟨b1, k1⟩ := hB1
  obtain ⟨b2, k2⟩ := hB2
  obtain ⟨b3, k3⟩ := hB3
  have hmemL : ∀ i, i < 4 → ∀ x, B i x → (x : Int) ∈ L := fun i hi x hx => by
    obtain ⟨y, hy⟩ := hB.near (by omega) hi hx
    exact I.inn _ _ (adjR_sym I.ok _ _ hy)
  have hne : ∀ i j, i < 4 → j < 4 → i ≠ j → ∀ x y, B i x → B j y → x ≠ y := fun i j hi hj hij x y hx hy e => hij (hB.dis i hi j hj x hx (e ▸ hy))
  refine ⟨?_, fun x y hx hy hxy => ?_⟩
  · have hnd : L.Nodup := I.lin.2.imp fun h => by omega
    have c1 := sub_len L [(b0 : Int), b1, b2, b3] hnd fun x hx => by
      obtain ⟨n, rfl⟩ := Int.eq_ofNat_of_zero_le (I.lin.1 x hx).1
      obtain ⟨i, hi, hbi⟩ := hin n hx
      have h4 : i = 0 ∨ i = 1 ∨ i = 2 ∨ i = 3 := by omega
      rcases h4 with rfl | rfl | rfl | rfl
      · rw [hone 0 hi n b0 hbi k0]; simp
      · rw [hone 1 hi n b1 hbi k1]; simp
      · rw [hone 2 hi n b2 hbi k2]; simp
      · rw [hone 3 hi n b3 hbi k3]; simp
    have c2 := sub_len [(b0 : Int), b1, b2, b3] L (by
      have e01 := hne 0 1 (by omega) (by omega) (by omega) _ _ k0 k1
      have e02 := hne 0 2 (by omega) (by omega) (by omega) _ _ k0 k2
      have e03 := hne 0 3 (by omega) (by omega) (by omega) _ _ k0 k3
      have e12 := hne 1 2 (by omega) (by omega) (by omega) _ _ k1 k2
      have e13 := hne 1 3 (by omega) (by omega) (by omega) _ _ k1 k3
      have e23 := hne 2 3 (by omega) (by omega) (by omega) _ _ k2 k3
      simp only [List.nodup_cons, List.mem_cons, List.not_mem_nil, or_false, not_or, List.nodup_nil, and_true, not_false_eq_true]
      omega) fun x hx => by
      simp only [List.mem_cons, List.not_mem_nil, or_false] at hx
      rcases hx with rfl | rfl | rfl | rfl
      · exact hmemL 0 (by omega) _ k0
      · exact hmemL 1 (by omega) _ k1
      · exact hmemL 2 (by omega) _ k2
      · exact hmemL 3 (by omega) _ k3
    have e4 : [(b0 : Int), b1, b2, b3].length = 4 := rfl
    omega
  · obtain ⟨i, hi, hx⟩ := hin x hx
    obtain ⟨j, hj, hy⟩ := hin y hy
    have hij : i ≠ j := fun e => hxy (hone i hi x y hx (e ▸ hy))
    obtain ⟨a, b, ha, hb, r⟩ := hB.jn i hi j hj hij
    rw [hone i hi x a hx ha, hone j hj y b hy hb]
    exact r

/-- The full graph of so many. -/
def fullG (k : Nat) : List (List Int) := matG k fun a b => decide (a ≠ b)
theorem fullG_length (k : Nat) : (fullG k).length = k := matG_length _ _
theorem fullG_ok {k : Nat} (h1 : 1 ≤ k) (h2 : k ≤ 16) : GOk (fullG k) :=
  gok_matG h1 h2 (fun a b h => by
    rw [decide_eq_true_eq] at h ⊢
    exact Ne.symm h) fun a => by simp
/-- What FourModel finds is a model. -/
theorem fourS_model {g out : List (List Int)} {b : Bool} (hg : GOk g) (h6 : g.length ≤ 6) (h : FourS g out b) : (b = true → MdOk g (fullG 4) out) ∧ (b = true ↔ ¬ SerS g) := by
  rcases h with ⟨rfl, rfl, h⟩ | ⟨rfl, _, hs, L, S, hf, rfl⟩
  · exact ⟨fun e => (by cases e), fun e => (by cases e), fun hn => absurd ⟨hg, hn⟩ h⟩
  · refine ⟨fun _ => ?_, fun _ => hs, fun _ => rfl⟩
    obtain ⟨g', I, h1, h2⟩ := fours_end hf hg h6 (FIv.start hg h6 hs)
    obtain ⟨h4, hadj⟩ := stuck_four I h6 h1 h2
    have hrow : ∀ a (ha : a < L.length), row (L.map fun v => row S v.toNat) a = row S (L[a]).toNat := fun a ha => by simp [row, ha]
    have hin : ∀ a (ha : a < L.length), (((L[a]).toNat : Nat) : Int) ∈ L := fun a ha => by
      have := (I.lin.1 _ (List.getElem_mem ha)).1
      rw [show (((L[a]).toNat : Nat) : Int) = L[a] by omega]
      exact List.getElem_mem ha
    have hne : ∀ a b (ha : a < L.length) (hb : b < L.length), a < b → (L[a]).toNat ≠ (L[b]).toNat := fun a b ha hb hab => by
      have h1 := (I.lin.1 _ (List.getElem_mem ha)).1
      have h2 := (I.lin.1 _ (List.getElem_mem hb)).1
      have := List.pairwise_iff_getElem.1 I.lin.2 a b ha hb hab
      omega
    refine ⟨⟨⟨⟨⟨hg, by rw [List.length_map]; omega⟩, fun a ha => ?_⟩, fullG_ok (by omega) (by omega)⟩, by rw [List.length_map, fullG_length]; exact h4⟩, fun a ha => ?_, fun e he => ?_⟩
    · rw [List.length_map] at ha
      rw [hrow a ha]
      refine ⟨I.set _ (hin a ha), fun b hb x hx hy => ?_⟩
      rw [hrow b (by omega)] at hy
      exact I.dis _ _ (hin b (by omega)) (hin a ha) (hne b a (by omega) ha hb) x hy hx
    · rw [List.length_map] at ha
      rw [hrow a ha]
      exact I.conn _ (hin a ha)
    · obtain ⟨e1, e2, e3, _⟩ := mem_edN (Nat.le_refl _) he
      rw [fullG_length] at e1 e2
      rw [hrow e.1 (by omega), hrow e.2 (by omega)]
      exact I.jn _ _ (hadj _ _ (hin _ (by omega)) (hin _ (by omega)) (hne _ _ (by omega) (by omega) e3))

/-- A model of a full graph gives connected sets that are joined two by two. -/
theorem connL_split {E : Nat → Nat → Bool} {L : List Nat} (hs : ∀ r j, E r j = true → E j r = true) (h : ConnL E L) (P : Nat → Prop) (h1 : ∃ x, x ∈ L ∧ P x) (h2 : ∃ x, x ∈ L ∧ ¬ P x) : ∃ x y, x ∈ L ∧ y ∈ L ∧ P x ∧ ¬ P y ∧ E x y = true := by
  obtain ⟨a, ha, hpa⟩ := h1
  obtain ⟨b, hb, hpb⟩ := h2
  refine Classical.byContradiction fun hno => hpb ?_
  exact (rch_closed (T := fun x => x ∈ L ∧ P x) ⟨ha, hpa⟩ (fun x y hx he hy => ⟨hy, Classical.byContradiction fun hn => hno ⟨x, y, hx.1, hy, hx.2, hn, he⟩⟩) b (connL_all hs h ha hb)).2
theorem fit_km {g : List (List Int)} {k : Nat} {w : List Nat} (hg : GOk g) (h : FitW k (ofG g) (ofG (fullG k)) w) : KM (adjR g) k fun i x => x ∈ setW w i where
  ne i hi := List.exists_mem_of_ne_nil _ (h.1 i hi).1
  conn i hi P h1 h2 := by
    obtain ⟨x, y, a, b, c, d, e⟩ := connL_split (ofG_sym hg) (h.1 i hi) P h1 h2
    unfold ofG at e
    exact ⟨x, y, a, b, c, d, of_decide_eq_true (p := ((y : Int) ∈ row g x)) e⟩
  dis i _ j _ x hx hy := setW_disj hx hy
  jn i hi j hj hij := by
    obtain ⟨x, hx, y, hy, e⟩ := h.2 i hi j hj (decide_eq_true ((mem_matG hi).2 ⟨j, rfl, hj, decide_eq_true hij⟩))
    unfold ofG at e
    exact ⟨x, y, hx, hy, of_decide_eq_true (p := ((y : Int) ∈ row g x)) e⟩
/-- The search for the full graph of four finds one just where something cannot be folded away. -/
theorem four_found {g R : List (List Int)} {ok : Bool} (hg : GOk g) (h6 : g.length ≤ 6) {out : List (List Int)} {b : Bool} (hf : FourS g out b) (h : MiS g (fullG 4) R ok) : ok = b := by
  obtain ⟨m1, m2⟩ := fourS_model hg h6 hf
  rcases h with ⟨h1, w, h2, _, rfl⟩ | ⟨h1, _, rfl⟩
  · refine (m2.2 ?_).symm
    rw [ser_km hg h6]
    rw [fullG_length] at h2
    exact fun hno => hno ⟨_, fit_km hg (findN_some _ _ _ h2).1⟩
  · cases b with
    | false => rfl
    | true =>
      exact absurd ⟨⟨hg, fullG_ok (by omega) (by omega), by omega, by rw [fullG_length]; omega⟩, minor_found ⟨_, m1 rfl⟩⟩ h1

end Go.Proofs.YtfokiijcpkhllaaDoor
