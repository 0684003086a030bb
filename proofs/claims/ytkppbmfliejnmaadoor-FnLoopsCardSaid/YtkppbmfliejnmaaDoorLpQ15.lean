/- Plain: walks in which one may stand still; connected parts that keep the distances. -/
import Derived.Test.YtkppbmfliejnmaaDoorLpQ7
import Derived.Test.YtkppbmfliejnmaaDoorLpQ6
namespace Go.Proofs.YtkppbmfliejnmaaDoor

/-- A walk of so many steps within a set, where one may stand still. -/
inductive LW (E : Nat → Nat → Bool) (S : Nat → Prop) (u : Nat) : Nat → Nat → Prop
  | base : S u → LW E S u 0 u
  | step {k x y : Nat} : LW E S u k x → (x = y ∨ E x y = true) → S y → LW E S u (k + 1) y
theorem LW.fst {E : Nat → Nat → Bool} {S : Nat → Prop} {u k v : Nat} (h : LW E S u k v) : S u := by
  induction h with
  | base h => exact h
  | step _ _ _ ih => exact ih
theorem LW.lst {E : Nat → Nat → Bool} {S : Nat → Prop} {u k v : Nat} (h : LW E S u k v) : S v := by
  cases h with
  | base h => exact h
  | step _ _ h => exact h
theorem LW.stay {E : Nat → Nat → Bool} {S : Nat → Prop} {u : Nat} (h : S u) : ∀ k, LW E S u k u
  | 0 => .base h
  | k + 1 => .step (LW.stay h k) (.inl rfl) h
theorem LW.cons {E : Nat → Nat → Bool} {S : Nat → Prop} {u x k v : Nat} (h : LW E S x k v) (hu : S u) (he : u = x ∨ E u x = true) : LW E S u (k + 1) v := by
  induction h with
  | base h => exact .step (.base hu) he h
  | step _ h2 h3 ih => exact .step ih h2 h3
theorem LW.sym {E : Nat → Nat → Bool} {S : Nat → Prop} (hE : ∀ x y, E x y = true → E y x = true) {u k v : Nat} (h : LW E S u k v) : LW E S v k u := by
  induction h with
  | base h => exact .base h
  | step h1 h2 h3 ih => exact ih.cons h3 (h2.elim (fun e => .inl e.symm) fun e => .inr (hE _ _ e))
theorem LW.hom {E E' : Nat → Nat → Bool} {S S' : Nat → Prop} {φ : Nat → Nat} (h1 : ∀ x, S x → S' (φ x)) (h2 : ∀ x y, S x → S y → E x y = true → φ x = φ y ∨ E' (φ x) (φ y) = true) {u k v : Nat} (h : LW E S u k v) : LW E' S' (φ u) k (φ v) := by
  induction h with
  | base h => exact .base (h1 _ h)
  | step h3 h4 h5 ih =>
    refine .step ih ?_ (h1 _ h5)
    rcases h4 with rfl | h4
    · exact .inl rfl
    · exact h2 _ _ h3.lst h5 h4
theorem LW.mono {E : Nat → Nat → Bool} {S S' : Nat → Prop} (h1 : ∀ x, S x → S' x) {u k v : Nat} (h : LW E S u k v) : LW E S' u k v :=
  h.hom (φ := id) h1 fun _ _ _ _ e => .inr e
theorem LW.more {E : Nat → Nat → Bool} {S : Nat → Prop} {u k v : Nat} (h : LW E S u k v) : LW E S u (k + 1) v := .step h (.inl rfl) h.lst
theorem LW.le {E : Nat → Nat → Bool} {S : Nat → Prop} {u k v : Nat} (h : LW E S u k v) {m : Nat} (hm : k ≤ m) : LW E S u m v := by
  obtain ⟨d, rfl⟩ := Nat.exists_eq_add_of_le hm
  induction d with
  | zero => exact h
  | succ d ih => exact (ih (by omega)).more
/-- From each to each one can go. -/
def ConnP (E : Nat → Nat → Bool) (T : Nat → Prop) : Prop := ∀ u v, T u → T v → ∃ k, LW E T u k v
/-- Each connected part keeps the distances. -/
def Kept (E : Nat → Nat → Bool) (S : Nat → Prop) : Prop := ∀ T : Nat → Prop, (∀ x, T x → S x) → ConnP E T → ∀ u v, T u → T v → ∀ k, LW E S u k v → LW E T u k v
/-- What goes has no neighbours, one, or a twin. -/
def GoesP (E : Nat → Nat → Bool) (S' : Nat → Prop) (v : Nat) : Prop :=
  (∀ x, S' x → E v x = false) ∨ ∃ y, S' y ∧ ((∀ x, S' x → (E v x = true ↔ x = y)) ∨ ∀ x, S' x → x ≠ y → E v x = E y x)
theorem kept_step {E : Nat → Nat → Bool} (hE : ∀ x y, E x y = true → E y x = true) (hI : ∀ x, E x x = false) {S S' : Nat → Prop} {v : Nat} (hS : ∀ x, S x ↔ S' x ∨ x = v) (hv : ¬ S' v) (hg : GoesP E S' v) (hK : Kept E S') : Kept E S := by
  intro T hT hc u w hu hw k hk
  have sub' : ∀ x, T x → x ≠ v → S' x := fun x hx hn => ((hS x).1 (hT x hx)).resolve_right hn
  have alone : T v → (∀ x, T x → E v x = false) → LW E T u k w := fun hTv hno => by
    have key : ∀ {m z}, LW E T v m z → z = v := fun {m z} h => by
      induction h with
      | base => rfl
      | step h1 h2 h3 ih =>
        rcases h2 with h2 | h2
        · exact h2.symm.trans ih
        · rw [ih, hno _ h3] at h2; cases h2
    obtain ⟨m1, h1⟩ := hc v u hTv hu
    obtain ⟨m2, h2⟩ := hc v w hTv hw
    have e1 := key h1
    have e2 := key h2
    subst e1
    subst e2
    exact .stay hu k
  by_cases hTv : T v
  case neg =>
    have hun : u ≠ v := fun e => hTv (e ▸ hu)
    have hwn : w ≠ v := fun e => hTv (e ▸ hw)
    have hTS : ∀ x, T x → S' x := fun x hx => sub' x hx fun e => hTv (e ▸ hx)
    obtain ⟨y, hy, hh⟩ : ∃ y, S' y ∧ ∀ x, S' x → E v x = true → x = y ∨ E y x = true := by
      rcases hg with hg | ⟨y, hy, hg | hg⟩
      · exact ⟨u, hTS u hu, fun x hx e => by rw [hg x hx] at e; cases e⟩
      · exact ⟨y, hy, fun x hx e => .inl ((hg x hx).1 e)⟩
      · exact ⟨y, hy, fun x hx e => by
          by_cases c : x = y
          · exact .inl c
          · exact .inr (by rw [← hg x hx c]; exact e)⟩
    have h := hk.hom (E' := E) (S' := S') (φ := fun x => if x = v then y else x) (fun x hx => by
      show S' (if x = v then y else x)
      split
      · exact hy
      · rename_i hn; exact ((hS x).1 hx).resolve_right hn) fun a b ha hb hab => by
        show (if a = v then y else a) = (if b = v then y else b) ∨ E (if a = v then y else a) (if b = v then y else b) = true
        by_cases ea : a = v
        · subst ea
          have hbn : b ≠ a := fun e => by rw [e, hI] at hab; cases hab
          rw [if_pos rfl, if_neg hbn]
          exact (hh b (((hS b).1 hb).resolve_right hbn) hab).imp Eq.symm id
        · rw [if_neg ea]
          by_cases eb : b = v
          · subst eb
            rw [if_pos rfl]
            exact (hh a (((hS a).1 ha).resolve_right ea) (hE _ _ hab)).imp id (hE _ _)
          · rw [if_neg eb]; exact .inr hab
    have hu' : (if u = v then y else u) = u := if_neg hun
    have hw' : (if w = v then y else w) = w := if_neg hwn
    have h' : LW E S' (if u = v then y else u) k (if w = v then y else w) := h
    rw [hu', hw'] at h'
    exact hK T hTS hc u w hu hw k h'
  rcases hg with hg | ⟨y, hy, hg⟩
  · refine alone hTv fun x hx => ?_
    by_cases e : x = v
    · subst e; exact hI x
    · exact hg x (sub' x hx e)
  have hyv : y ≠ v := fun e => hv (e ▸ hy)
  have hh : ∀ x, S' x → E v x = true → x = y ∨ E y x = true := fun x hx e => by
    rcases hg with hg | hg
    · exact .inl ((hg x hx).1 e)
    · by_cases c : x = y
      · exact .inl c
      · exact .inr (by rw [← hg x hx c]; exact e)
  -- the image of T
  have hom : ∀ (A B : Nat → Prop), (∀ x, A x → S x) → (∀ x, A x → B (if x = v then y else x)) → ∀ {a m b}, LW E A a m b → LW E B (if a = v then y else a) m (if b = v then y else b) := fun A B hA hB a m b h =>
    h.hom (φ := fun x => if x = v then y else x) hB fun a b ha hb hab => by
      show (if a = v then y else a) = (if b = v then y else b) ∨ E (if a = v then y else a) (if b = v then y else b) = true
      by_cases ea : a = v
      · subst ea
        have hbn : b ≠ a := fun e => by rw [e, hI] at hab; cases hab
        rw [if_pos rfl, if_neg hbn]
        exact (hh b (((hS b).1 (hA b hb)).resolve_right hbn) hab).imp Eq.symm id
      · rw [if_neg ea]
        by_cases eb : b = v
        · subst eb
          rw [if_pos rfl]
          exact (hh a (((hS a).1 (hA a ha)).resolve_right ea) (hE _ _ hab)).imp id (hE _ _)
        · rw [if_neg eb]; exact .inr hab
  obtain ⟨T', hT'⟩ : ∃ T' : Nat → Prop, ∀ x, T' x ↔ (T x ∧ x ≠ v) ∨ x = y := ⟨fun x => (T x ∧ x ≠ v) ∨ x = y, fun _ => Iff.rfl⟩
  have hTi : ∀ x, T x → T' (if x = v then y else x) := fun x hx => by
    rw [hT']
    by_cases e : x = v
    · rw [if_pos e]; exact .inr rfl
    · rw [if_neg e]; exact .inl ⟨hx, e⟩
  have hTs : ∀ x, T' x → S' x := fun x hx => by
    rcases (hT' x).1 hx with ⟨h1, h2⟩ | rfl
    · exact sub' x h1 h2
    · exact hy
  have pre : ∀ x, T' x → ∃ z, T z ∧ (if z = v then y else z) = x := fun x hx => by
    rcases (hT' x).1 hx with ⟨h1, h2⟩ | rfl
    · exact ⟨x, h1, if_neg h2⟩
    · exact ⟨v, hTv, if_pos rfl⟩
  have hcT : ConnP E T' := fun a b ha hb => by
    obtain ⟨a', ha', rfl⟩ := pre a ha
    obtain ⟨b', hb', rfl⟩ := pre b hb
    obtain ⟨m, hm⟩ := hc a' b' ha' hb'
    exact ⟨m, hom T T' hT hTi hm⟩
  have keep : ∀ {a m b}, T a → T b → LW E S a m b → LW E T' (if a = v then y else a) m (if b = v then y else b) := fun {a m b} ha hb h =>
    hK T' hTs hcT _ _ (hTi _ ha) (hTi _ hb) m (hom S S' (fun _ h => h) (fun x hx => by
      by_cases e : x = v
      · rw [if_pos e]; exact hy
      · rw [if_neg e]; exact ((hS x).1 hx).resolve_right e) h)
  by_cases hTy : T y
  case neg =>
    rcases hg with hg | hg
    · refine alone hTv fun x hx => ?_
      by_cases e : x = v
      · subst e; exact hI x
      · cases h : E v x with
        | false => rfl
        | true => exact absurd ((hg x (sub' x hx e)).1 h ▸ hx) hTy
    · have back := (keep hu hw hk).hom (E' := E) (S' := T) (φ := fun x => if x = y then v else x) (fun x hx => by
        show T (if x = y then v else x)
        rcases (hT' x).1 hx with ⟨h1, h2⟩ | rfl
        · rw [if_neg (show ¬ x = y from fun e => hTy (e ▸ h1))]; exact h1
        · rw [if_pos rfl]; exact hTv) fun a b ha hb hab => by
          show (if a = y then v else a) = (if b = y then v else b) ∨ E (if a = y then v else a) (if b = y then v else b) = true
          by_cases ea : a = y
          · subst ea
            have hbn : b ≠ a := fun e => by rw [e, hI] at hab; cases hab
            rw [if_pos rfl, if_neg hbn]
            exact .inr (by rw [hg b (hTs b hb) hbn]; exact hab)
          · rw [if_neg ea]
            by_cases eb : b = y
            · subst eb
              rw [if_pos rfl]
              exact .inr (hE _ _ (by rw [hg a (hTs a ha) ea]; exact hE _ _ hab))
            · rw [if_neg eb]; exact .inr hab
      have e : ∀ x, T x → (if (if x = v then y else x) = y then v else (if x = v then y else x)) = x := fun x hx => by
        by_cases e : x = v
        · subst e; rw [if_pos rfl, if_pos rfl]
        · rw [if_neg e, if_neg (show ¬ x = y from fun e2 => hTy (e2 ▸ hx))]
      have back : LW E T (if (if u = v then y else u) = y then v else (if u = v then y else u)) k (if (if w = v then y else w) = y then v else (if w = v then y else w)) := back
      rwa [e u hu, e w hw] at back
  have hT'T : ∀ x, T' x → T x := fun x hx => by
    rcases (hT' x).1 hx with ⟨h1, _⟩ | rfl
    · exact h1
    · exact hTy
  have hT'v : ¬ T' v := fun h => by
    rcases (hT' v).1 h with ⟨_, h⟩ | h
    · exact h rfl
    · exact hyv h.symm
  -- from v to another
  have fromV : ∀ {m w}, T w → w ≠ v → LW E S v m w → LW E T v m w := fun {m w} hw hwv hm => by
    rcases hg with hg | hg
    · have key : ∀ {m z}, LW E S v m z → z = v ∨ ∃ j, m = j + 1 ∧ LW E S y j z := fun {m z} h => by
        induction h with
        | base => exact .inl rfl
        | @step m x z h1 h2 h3 ih =>
          rcases ih with rfl | ⟨j, rfl, ih⟩
          · rcases h2 with h2 | h2
            · exact .inl h2.symm
            · have hzv : z ≠ x := fun e => by rw [e, hI] at h2; cases h2
              have := (hg z (((hS z).1 h3).resolve_right hzv)).1 h2
              subst this
              exact .inr ⟨m, rfl, .stay h3 m⟩
          · exact .inr ⟨j + 1, rfl, .step ih h2 h3⟩
      rcases key hm with h | ⟨j, rfl, h⟩
      · exact absurd h hwv
      · have h := keep hTy hw h
        rw [if_neg hyv, if_neg hwv] at h
        exact (h.mono hT'T).cons hTv (.inr ((hg y hy).2 rfl))
    · by_cases hwy : w = y
      · subst hwy
        cases hvw : E v w with
        | true =>
          cases hm with
          | base => exact absurd rfl hwv
          | @step m x _ h1 h2 h3 => exact .step (.stay hTv m) (.inr hvw) hTy
        | false =>
          obtain ⟨b, hb, hvb⟩ : ∃ b, T b ∧ E v b = true := by
            obtain ⟨m', h'⟩ := hc v w hTv hTy
            have key : ∀ {m z}, LW E T v m z → z = v ∨ ∃ b, T b ∧ E v b = true := fun {m z} h => by
              induction h with
              | base => exact .inl rfl
              | step h1 h2 h3 ih =>
                rcases ih with rfl | ih
                · rcases h2 with h2 | h2
                  · exact .inl h2.symm
                  · exact .inr ⟨_, h3, h2⟩
                · exact .inr ih
            exact (key h').resolve_left hwv
          have hbw : b ≠ w := fun e => by rw [e, hvw] at hvb; cases hvb
          have hbv : b ≠ v := fun e => by rw [e, hI] at hvb; cases hvb
          have hwb : E w b = true := by rw [← hg b (sub' b hb hbv) hbw]; exact hvb
          cases hm with
          | base => exact absurd rfl hwv
          | @step m x _ h1 h2 h3 =>
            cases h1 with
            | base =>
              rcases h2 with h2 | h2
              · exact absurd h2.symm hwv
              · rw [hvw] at h2; cases h2
            | @step m x' _ h4 h5 h6 => exact .step (.step (.stay hTv m) (.inr hvb) hb) (.inr (hE _ _ hwb)) hTy
      · have h := keep hTv hw hm
        rw [if_pos rfl, if_neg hwv] at h
        have key : ∀ {m z}, LW E T' y m z → z = y ∨ LW E T v m z := fun {m z} h => by
          induction h with
          | base => exact .inl rfl
          | @step m x z h1 h2 h3 ih =>
            rcases ih with rfl | ih
            · rcases h2 with h2 | h2
              · exact .inl h2.symm
              · have hzy : z ≠ x := fun e => by rw [e, hI] at h2; cases h2
                have := hg z (hTs z h3) hzy
                exact .inr (.step (.stay hTv m) (.inr (by rw [this]; exact h2)) (hT'T z h3))
            · exact .inr (.step ih h2 (hT'T z h3))
        exact (key h).resolve_left hwy
  by_cases huv : u = v
  · by_cases hwv : w = v
    · subst huv; subst hwv; exact .stay hTv k
    · subst huv; exact fromV hw hwv hk
  · by_cases hwv : w = v
    · subst hwv
      exact (fromV hu huv (hk.sym hE)).sym hE
    · have h := keep hu hw hk
      rw [if_neg huv, if_neg hwv] at h
      exact h.mono hT'T
theorem Kept.sub {E : Nat → Nat → Bool} {S S' : Nat → Prop} (h : Kept E S) (hs : ∀ x, S' x → S x) : Kept E S' := fun T hT hc u v hu hv k hk => h T (fun x hx => hs x (hT x hx)) hc u v hu hv k (hk.mono hs)
theorem LW.trans {E : Nat → Nat → Bool} {S : Nat → Prop} {u k v m w : Nat} (h : LW E S u k v) (h2 : LW E S v m w) : LW E S u (k + m) w := by
  induction h2 with
  | base _ => exact h
  | step _ a b ih => exact .step ih a b
theorem conn_from {E : Nat → Nat → Bool} (hE : ∀ x y, E x y = true → E y x = true) {T : Nat → Prop} {a : Nat} (h : ∀ t, T t → ∃ k, LW E T a k t) : ConnP E T := fun u v hu hv => by
  obtain ⟨k, hk⟩ := h u hu
  obtain ⟨m, hm⟩ := h v hv
  exact ⟨k + m, (hk.sym hE).trans hm⟩
/-- Along an induced path two steps do not lead to its end. -/
theorem path_far {E : Nat → Nat → Bool} {T : Nat → Prop} {a b c z : Nat} (h1 : ∀ t, T t → E a t = true → t = b) (h2 : ∀ t, T t → E b t = true → t = a ∨ t = c) (hza : z ≠ a) (hzb : z ≠ b) (hzc : z ≠ c) : ¬ LW E T a 2 z := by
  intro h
  cases h with
  | @step _ x _ h3 h4 h5 =>
    cases h3 with
    | @step _ y _ h6 h7 h8 =>
      cases h6 with
      | base h9 =>
        rcases h7 with rfl | h7
        · rcases h4 with rfl | h4
          · exact hza rfl
          · exact hzb (h1 _ h5 h4)
        · obtain rfl := h1 _ h8 h7
          rcases h4 with rfl | h4
          · exact hzb rfl
          · rcases h2 _ h5 h4 with h | h
            · exact hza h
            · exact hzc h
theorem not_kept4 {E : Nat → Nat → Bool} (hE : ∀ x y, E x y = true → E y x = true) (hI : ∀ x, E x x = false) {S : Nat → Prop} {a b c d x : Nat} (hS : S a ∧ S b ∧ S c ∧ S d ∧ S x) (hd : d ≠ a ∧ d ≠ b ∧ d ≠ c)
    (hab : E a b = true) (hbc : E b c = true) (hcd : E c d = true) (hac : E a c = false) (hbd : E b d = false) (had : E a d = false) (hxa : E x a = true) (hxd : E x d = true) : ¬ Kept E S := fun h => by
  obtain ⟨T, hT⟩ : ∃ T : Nat → Prop, ∀ t, T t ↔ t = a ∨ t = b ∨ t = c ∨ t = d := ⟨fun t => t = a ∨ t = b ∨ t = c ∨ t = d, fun _ => Iff.rfl⟩
  have ta : T a := (hT a).2 (.inl rfl)
  have tb : T b := (hT b).2 (.inr (.inl rfl))
  have tc : T c := (hT c).2 (.inr (.inr (.inl rfl)))
  have td : T d := (hT d).2 (.inr (.inr (.inr rfl)))
  have wb : LW E T a 1 b := .step (.base ta) (.inr hab) tb
  have wc : LW E T a 2 c := .step wb (.inr hbc) tc
  have wd : LW E T a 3 d := .step wc (.inr hcd) td
  have hc : ConnP E T := conn_from hE (a := a) fun t ht => by
    rcases (hT t).1 ht with rfl | rfl | rfl | rfl
    · exact ⟨0, .base ta⟩
    · exact ⟨1, wb⟩
    · exact ⟨2, wc⟩
    · exact ⟨3, wd⟩
  have hw : LW E S a 2 d := .step (.step (.base hS.1) (.inr (hE _ _ hxa)) hS.2.2.2.2) (.inr hxd) hS.2.2.2.1
  have := h T (fun t ht => by rcases (hT t).1 ht with rfl | rfl | rfl | rfl <;> first | exact hS.1 | exact hS.2.1 | exact hS.2.2.1 | exact hS.2.2.2.1) hc a d ta td 2 hw
  refine path_far (b := b) (c := c) (fun t ht e => ?_) (fun t ht e => ?_) hd.1 hd.2.1 hd.2.2 this
  · rcases (hT t).1 ht with rfl | rfl | rfl | rfl
    · rw [hI] at e; cases e
    · rfl
    · rw [hac] at e; cases e
    · rw [had] at e; cases e
  · rcases (hT t).1 ht with rfl | rfl | rfl | rfl
    · exact .inl rfl
    · rw [hI] at e; cases e
    · exact .inr rfl
    · rw [hbd] at e; cases e
theorem not_kept5 {E : Nat → Nat → Bool} (hE : ∀ x y, E x y = true → E y x = true) (hI : ∀ x, E x x = false) {S : Nat → Prop} {a b c d f x : Nat} (hS : S a ∧ S b ∧ S c ∧ S d ∧ S f ∧ S x) (hd : f ≠ a ∧ f ≠ b ∧ f ≠ c)
    (hab : E a b = true) (hbc : E b c = true) (hcd : E c d = true) (hdf : E d f = true) (hac : E a c = false) (had : E a d = false) (haf : E a f = false) (hbd : E b d = false) (hbf : E b f = false) (hxa : E x a = true) (hxf : E x f = true) : ¬ Kept E S := fun h => by
  obtain ⟨T, hT⟩ : ∃ T : Nat → Prop, ∀ t, T t ↔ t = a ∨ t = b ∨ t = c ∨ t = d ∨ t = f := ⟨fun t => t = a ∨ t = b ∨ t = c ∨ t = d ∨ t = f, fun _ => Iff.rfl⟩
  have ta : T a := (hT a).2 (.inl rfl)
  have tb : T b := (hT b).2 (.inr (.inl rfl))
  have tc : T c := (hT c).2 (.inr (.inr (.inl rfl)))
  have td : T d := (hT d).2 (.inr (.inr (.inr (.inl rfl))))
  have tf : T f := (hT f).2 (.inr (.inr (.inr (.inr rfl))))
  have wb : LW E T a 1 b := .step (.base ta) (.inr hab) tb
  have wc : LW E T a 2 c := .step wb (.inr hbc) tc
  have wd : LW E T a 3 d := .step wc (.inr hcd) td
  have wf : LW E T a 4 f := .step wd (.inr hdf) tf
  have hc : ConnP E T := conn_from hE (a := a) fun t ht => by
    rcases (hT t).1 ht with rfl | rfl | rfl | rfl | rfl
    · exact ⟨0, .base ta⟩
    · exact ⟨1, wb⟩
    · exact ⟨2, wc⟩
    · exact ⟨3, wd⟩
    · exact ⟨4, wf⟩
  have hw : LW E S a 2 f := .step (.step (.base hS.1) (.inr (hE _ _ hxa)) hS.2.2.2.2.2) (.inr hxf) hS.2.2.2.2.1
  have := h T (fun t ht => by rcases (hT t).1 ht with rfl | rfl | rfl | rfl | rfl <;> first | exact hS.1 | exact hS.2.1 | exact hS.2.2.1 | exact hS.2.2.2.1 | exact hS.2.2.2.2.1) hc a f ta tf 2 hw
  refine path_far (b := b) (c := c) (fun t ht e => ?_) (fun t ht e => ?_) hd.1 hd.2.1 hd.2.2 this
  · rcases (hT t).1 ht with rfl | rfl | rfl | rfl | rfl
    · rw [hI] at e; cases e
    · rfl
    · rw [hac] at e; cases e
    · rw [had] at e; cases e
    · rw [haf] at e; cases e
  · rcases (hT t).1 ht with rfl | rfl | rfl | rfl | rfl
    · exact .inl rfl
    · rw [hI] at e; cases e
    · exact .inr rfl
    · rw [hbd] at e; cases e
    · rw [hbf] at e; cases e
/-- What prunes away keeps the distances. -/
theorem kept_of_prunes {g : List (List Int)} (hg : GOk g) {L L' : List Int} {ps : List Pr} (h : Prunes g L ps L') : L' = [] → (∀ x ∈ L, 0 ≤ x ∧ x < g.length) → Kept (ofG g) fun x => (x : Int) ∈ L := by
  induction h with
  | done L _ =>
    rintro rfl _ T hT _ u _ hu
    have := hT u hu
    cases this
  | step L j hj p ps L' _ h2 _ ih =>
    intro he hL
    have hv := hL _ (List.getElem_mem hj)
    obtain ⟨v, hve⟩ := Int.eq_ofNat_of_zero_le hv.1
    have hvL : (v : Int) ∈ L := by rw [← hve]; exact List.getElem_mem hj
    rw [hve] at h2 ih hv
    have ih := ih he fun x hx => hL x (mem_lessL.1 hx).1
    obtain ⟨_, h3, _⟩ := h2
    refine kept_step (ofG_sym hg) (ofG_irr hg) (v := v) (S' := fun x => (x : Int) ∈ lessL L (v : Int)) (fun x => ?_) (fun h => (mem_lessL.1 h).2 rfl) ?_ ih
    · show (x : Int) ∈ L ↔ (x : Int) ∈ lessL L (v : Int) ∨ x = v
      rw [mem_lessL]
      by_cases e : x = v
      · subst e; simp [hvL]
      · have : ¬ (x : Int) = v := by omega
        simp [e, this]
    · have hrow : ∀ x : Nat, (ofG g v x = true ↔ (x : Int) ∈ row g v) := fun x => by unfold ofG; exact decide_eq_true_iff
      rcases h3 with ⟨_, _, h3⟩ | ⟨hb, hbv, h3⟩
      · refine .inl fun x hx => ?_
        cases e : ofG g v x with
        | false => rfl
        | true => exact absurd ((hrow x).1 e) (h3 _ (mem_lessL.1 hx).1)
      · obtain ⟨b, hbe⟩ := Int.eq_ofNat_of_zero_le (hL _ hb).1
        rw [hbe] at hb hbv h3
        refine .inr ⟨b, mem_lessL.2 ⟨hb, hbv⟩, ?_⟩
        rcases h3 with ⟨_, h3⟩ | ⟨_, _, h3⟩ | ⟨_, _, h3⟩
        · refine .inl fun x hx => ?_
          rw [hrow x]
          have := h3 _ (mem_lessL.1 hx).1
          rw [Int.toNat_natCast] at this
          rw [this]
          omega
        · refine .inr fun x hx hxb => ?_
          have h4 := mem_lessL.1 hx
          have := h3 _ h4.1 h4.2 (by omega)
          rw [Int.toNat_natCast, Int.toNat_natCast] at this
          rw [Bool.eq_iff_iff, hrow x, this]
          unfold ofG
          exact decide_eq_true_iff.symm
        · refine .inr fun x hx hxb => ?_
          have h4 := mem_lessL.1 hx
          have := h3 _ h4.1 h4.2 (by omega)
          rw [Int.toNat_natCast, Int.toNat_natCast] at this
          rw [Bool.eq_iff_iff, hrow x, this]
          unfold ofG
          exact decide_eq_true_iff.symm
theorem Kept.iso {E E' : Nat → Nat → Bool} {S S' : Nat → Prop} {φ ψ : Nat → Nat} (h1 : ∀ x, S x → S' (φ x)) (h2 : ∀ x, S' x → S (ψ x)) (h3 : ∀ x, S x → ψ (φ x) = x) (h4 : ∀ x, S' x → φ (ψ x) = x)
    (hE : ∀ x y, S x → S y → E x y = E' (φ x) (φ y)) (h : Kept E' S') : Kept E S := fun T hT hc u v hu hv k hk => by
  have hE' : ∀ x y, S' x → S' y → E' x y = E (ψ x) (ψ y) := fun x y hx hy => by rw [hE _ _ (h2 x hx) (h2 y hy), h4 x hx, h4 y hy]
  have m1 := hk.hom (E' := E') (φ := φ) h1 fun x y hx hy e => .inr (by rw [← hE x y hx hy]; exact e)
  obtain ⟨T', hT'⟩ : ∃ T' : Nat → Prop, ∀ x, T' x ↔ S' x ∧ T (ψ x) := ⟨fun x => S' x ∧ T (ψ x), fun _ => Iff.rfl⟩
  have up : ∀ x, T x → T' (φ x) := fun x hx => (hT' _).2 ⟨h1 x (hT x hx), by rw [h3 x (hT x hx)]; exact hx⟩
  have hTE : ∀ x y, T x → T y → E x y = true → φ x = φ y ∨ E' (φ x) (φ y) = true := fun x y hx hy e => .inr (by rw [← hE x y (hT x hx) (hT y hy)]; exact e)
  have hc' : ConnP E' T' := fun a b ha hb => by
    obtain ⟨ha1, ha2⟩ := (hT' a).1 ha
    obtain ⟨hb1, hb2⟩ := (hT' b).1 hb
    obtain ⟨m, hm⟩ := hc _ _ ha2 hb2
    have := hm.hom (E' := E') (φ := φ) up hTE
    rw [h4 a ha1, h4 b hb1] at this
    exact ⟨m, this⟩
  have m2 := h T' (fun x hx => ((hT' x).1 hx).1) hc' _ _ (up u hu) (up v hv) k m1
  have m3 := m2.hom (E' := E) (S' := T) (φ := ψ) (fun x hx => ((hT' x).1 hx).2) fun x y hx hy e => .inr (by rw [← hE' x y ((hT' x).1 hx).1 ((hT' y).1 hy).1]; exact e)
  rwa [h3 u (hT u hu), h3 v (hT v hv)] at m3

end Go.Proofs.YtkppbmfliejnmaaDoor
