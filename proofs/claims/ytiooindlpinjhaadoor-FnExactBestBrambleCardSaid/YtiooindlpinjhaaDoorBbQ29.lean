/- Plain: the least width of taking away all vertices; a model of a full graph bounds it from below. -/
import Derived.Test.YtiooindlpinjhaaDoorBbQ28
import Derived.Test.YtiooindlpinjhaaDoorBbQ10
import Derived.Test.YtiooindlpinjhaaDoorBbQ11
import Derived.Test.YtiooindlpinjhaaDoorBbQ2
import Derived.Test.YtiooindlpinjhaaDoorBbQ20
import Derived.Test.YtiooindlpinjhaaDoorBbQ17
import Derived.Test.YtiooindlpinjhaaDoorBbQ21
import Derived.Maps.OwnOps
import Derived.Maps.OwnSet
namespace Go.Proofs.YtiooindlpinjhaaDoor

/-- Who is gone, by bits. -/
def inS (s : Nat) : Nat → Prop := fun x => s.testBit x = true
noncomputable def behS (n : Nat) (E : Nat → Nat → Bool) (s v : Nat) : List Nat := (List.range n).filter fun u => !s.testBit u && decide (u ≠ v) && dec (∃ x, Rch E (inS s) v x ∧ E x u = true)
theorem mem_behS {n : Nat} {E : Nat → Nat → Bool} {s v u : Nat} : u ∈ behS n E s v ↔ u < n ∧ s.testBit u = false ∧ u ≠ v ∧ ∃ x, Rch E (inS s) v x ∧ E x u = true := by
  unfold behS
  rw [List.mem_filter, List.mem_range, Bool.and_eq_true, Bool.and_eq_true, Bool.not_eq_true', decide_eq_true_eq, dec_iff, and_assoc]
theorem behS_rising (n : Nat) (E : Nat → Nat → Bool) (s v : Nat) : (behS n E s v).Pairwise (· < ·) := List.Pairwise.filter _ List.pairwise_lt_range
theorem behS_le (n : Nat) (E : Nat → Nat → Bool) (s v : Nat) : (behS n E s v).length ≤ n := by
  have := List.length_filter_le (fun u => !s.testBit u && decide (u ≠ v) && dec (∃ x, Rch E (inS s) v x ∧ E x u = true)) (List.range n)
  rwa [List.length_range] at this

/-- Whom a search that goes over those who are gone has seen to. -/
def HndB (s v : Nat) (M : List Nat) (O : List Int) (u : Nat) : Prop := (s.testBit u = true → u ∈ M) ∧ (s.testBit u = false → u ≠ v → (u : Int) ∈ O)
structure BhI (n : Nat) (E : Nat → Nat → Bool) (s v : Nat) (M : List Nat) (O : List Int) : Prop where
  nod : M.Nodup
  one : v ∈ M
  rch : ∀ x ∈ M, Rch E (inS s) v x
  lt : ∀ x ∈ M, x < n
  ris : O.Pairwise (· < ·)
  snd : ∀ y ∈ O, ∃ u : Nat, y = u ∧ u ∈ behS n E s v
theorem BhI.start {n : Nat} {E : Nat → Nat → Bool} {s v : Nat} (hv : v < n) : BhI n E s v [v] [] :=
  ⟨by simp, by simp, fun x hx => by
    obtain rfl : x = v := by simpa using hx
    exact .base, fun x hx => by
    obtain rfl : x = v := by simpa using hx
    exact hv, List.Pairwise.nil, fun y hy => by cases hy⟩
theorem BhI.le {n : Nat} {E : Nat → Nat → Bool} {s v : Nat} {M : List Nat} {O : List Int} (h : BhI n E s v M O) : M.length ≤ n := nodup_le n M h.nod h.lt
theorem BhI.le2 {n : Nat} {E : Nat → Nat → Bool} {s v : Nat} {M : List Nat} {O : List Int} (h : BhI n E s v M O) : O.length ≤ n := by
  have hs : SetIn n O := ⟨fun x hx => by
    obtain ⟨u, rfl, hu⟩ := h.snd x hx
    have := (mem_behS.1 hu).1
    omega, h.ris⟩
  have := setIn_length (by omega) hs
  omega
theorem BhI.add {n : Nat} {E : Nat → Nat → Bool} {s v x u : Nat} {M : List Nat} {O : List Int} (h : BhI n E s v M O) (hx : x ∈ M) (hE : E x u = true) (hu : u < n) (hs : s.testBit u = true) (hm : u ∉ M) : BhI n E s v (M ++ [u]) O :=
  ⟨by
    rw [List.nodup_append]
    exact ⟨h.nod, by simp, fun a ha b hb e => by
      obtain rfl : b = u := by simpa using hb
      exact hm (e ▸ ha)⟩, List.mem_append_left _ h.one, fun y hy => by
    rcases List.mem_append.1 hy with hy | hy
    · exact h.rch y hy
    · obtain rfl : y = u := by simpa using hy
      exact .step (h.rch x hx) hE hs, fun y hy => by
    rcases List.mem_append.1 hy with hy | hy
    · exact h.lt y hy
    · obtain rfl : y = u := by simpa using hy
      exact hu, h.ris, h.snd⟩
theorem BhI.put {n : Nat} {E : Nat → Nat → Bool} {s v x u : Nat} {M : List Nat} {O : List Int} (h : BhI n E s v M O) (hx : x ∈ M) (hE : E x u = true) (hu : u < n) (hs : s.testBit u = false) (hv : u ≠ v) : BhI n E s v M (intoL O u) :=
  ⟨h.nod, h.one, h.rch, h.lt, intoL_rising h.ris, fun y hy => by
    rcases mem_intoL.1 hy with hy | rfl
    · exact h.snd y hy
    · exact ⟨u, rfl, mem_behS.2 ⟨hu, hs, hv, x, h.rch x hx, hE⟩⟩⟩
theorem HndB.mono {s v u : Nat} {M M' : List Nat} {O O' : List Int} (h : HndB s v M O u) (hM : ∀ x ∈ M, x ∈ M') (hO : ∀ x ∈ O, x ∈ O') : HndB s v M' O' u := ⟨fun k => hM _ (h.1 k), fun k k' => hO _ (h.2 k k')⟩
/-- When all are seen to, the list is right. -/
theorem BhI.done {n : Nat} {E : Nat → Nat → Bool} {s v : Nat} {M : List Nat} {O : List Int} (h : BhI n E s v M O) (hc : ∀ x ∈ M, ∀ u, u < n → E x u = true → HndB s v M O u) (hEn : ∀ x y, E x y = true → y < n) : O = natInts (behS n E s v) := by
  have hall : ∀ x, Rch E (inS s) v x → x ∈ M := rch_closed (T := (· ∈ M)) h.one fun x y hx hE hy => (hc x hx y (hEn x y hE) hE).1 hy
  refine rising_ext_int _ _ h.ris (natInts_rising (behS_rising _ _ _ _)) fun y => ?_
  rw [mem_natInts]
  constructor
  · intro hy
    obtain ⟨u, rfl, hu⟩ := h.snd y hy
    exact ⟨u, hu, rfl⟩
  · rintro ⟨u, hu, rfl⟩
    obtain ⟨h1, h2, h3, x, h4, h5⟩ := mem_behS.1 hu
    exact (hc x (hall x h4) u h1 h5).2 h2 h3

/-! ### The least width -/
def stepO (b : Int) (x : Nat) : Int := if b < 0 ∨ (x : Int) < b then (x : Int) else b
def minO (l : List Nat) : Int := l.foldl stepO (-1)
theorem minO_snoc (l : List Nat) (x : Nat) : minO (l ++ [x]) = stepO (minO l) x := by simp [minO]
theorem foldO (l : List Nat) : ∀ b : Int, (0 ≤ b → 0 ≤ l.foldl stepO b ∧ l.foldl stepO b ≤ b ∧ (l.foldl stepO b = b ∨ ∃ x ∈ l, l.foldl stepO b = (x : Int)) ∧ ∀ x ∈ l, l.foldl stepO b ≤ (x : Int)) := by
  induction l with
  | nil => intro b hb; exact ⟨hb, Int.le_refl _, .inl rfl, fun x hx => by cases hx⟩
  | cons y l ih =>
    intro b hb
    have hs : 0 ≤ stepO b y := by unfold stepO; split <;> omega
    have hs2 : stepO b y ≤ b ∧ stepO b y ≤ y ∧ (stepO b y = b ∨ stepO b y = y) := by unfold stepO; split <;> omega
    obtain ⟨h1, h2, h3, h4⟩ := ih _ hs
    rw [List.foldl_cons]
    refine ⟨h1, by omega, ?_, fun x hx => ?_⟩
    · rcases h3 with h3 | ⟨x, hx, h3⟩
      · rcases hs2.2.2 with e | e
        · exact .inl (h3.trans e)
        · exact .inr ⟨y, by simp, h3.trans e⟩
      · exact .inr ⟨x, by simp [hx], h3⟩
    · rcases List.mem_cons.1 hx with rfl | hx
      · omega
      · exact h4 x hx
theorem minO_some {l : List Nat} (h : l ≠ []) : ∃ x ∈ l, minO l = (x : Int) := by
  cases l with
  | nil => exact absurd rfl h
  | cons y l =>
    have e : minO (y :: l) = l.foldl stepO (y : Int) := by
      unfold minO
      rw [List.foldl_cons]
      congr 1
    obtain ⟨_, _, h3, _⟩ := foldO l (y : Int) (by omega)
    rw [e]
    rcases h3 with h3 | ⟨x, hx, h3⟩
    · exact ⟨y, by simp, h3⟩
    · exact ⟨x, by simp [hx], h3⟩
theorem minO_le {l : List Nat} : ∀ x ∈ l, minO l ≤ (x : Int) := by
  cases l with
  | nil => intro x hx; cases hx
  | cons y l =>
    have e : minO (y :: l) = l.foldl stepO (y : Int) := by
      unfold minO
      rw [List.foldl_cons]
      congr 1
    obtain ⟨_, h2, _, h4⟩ := foldO l (y : Int) (by omega)
    intro x hx
    rw [e]
    rcases List.mem_cons.1 hx with rfl | hx
    · exact h2
    · exact h4 x hx
theorem minO_nil : minO [] = -1 := rfl
theorem minO_ge (l : List Nat) : -1 ≤ minO l := by
  by_cases h : l = []
  · rw [h, minO_nil]; omega
  · obtain ⟨x, _, hx⟩ := minO_some h
    omega

def freeS (n s : Nat) : List Nat := (List.range n).filter fun v => !s.testBit v
theorem mem_freeS {n s v : Nat} : v ∈ freeS n s ↔ v < n ∧ s.testBit v = false := by
  unfold freeS
  rw [List.mem_filter, List.mem_range, Bool.not_eq_true']
theorem testBit_put (s v x : Nat) : (s ||| 2 ^ v).testBit x = (s.testBit x || decide (v = x)) := by
  rw [Nat.testBit_or]
  by_cases e : v = x
  · subst e; simp
  · rw [Nat.testBit_two_pow_of_ne e]; simp [e]
theorem freeS_put {n s v : Nat} (hv : v ∈ freeS n s) : (freeS n (s ||| 2 ^ v)).length + 1 = (freeS n s).length := by
  have h1 : freeS n (s ||| 2 ^ v) = (freeS n s).filter (· != v) := by
    unfold freeS
    rw [List.filter_filter]
    congr 1
    funext x
    rw [testBit_put]
    by_cases e : v = x
    · subst e; simp
    · simp [e, Ne.symm e]
  have hnd : (freeS n s).Nodup := List.Pairwise.filter _ List.nodup_range
  rw [h1]
  have key : ∀ l : List Nat, l.Nodup → v ∈ l → (l.filter (· != v)).length + 1 = l.length := by
    intro l
    induction l with
    | nil => intro _ h; cases h
    | cons x l ih =>
      intro hn hm
      have hn' := List.nodup_cons.1 hn
      by_cases e : x = v
      · subst e
        have : l.filter (· != x) = l := List.filter_eq_self.2 fun y hy => by
          have : y ≠ x := fun e => hn'.1 (e ▸ hy)
          simpa using this
        rw [List.filter_cons, this]
        simp
      · have hm' : v ∈ l := by
          rcases List.mem_cons.1 hm with h | h
          · exact absurd h.symm e
          · exact h
        have h5 := ih hn'.2 hm'
        rw [List.filter_cons, if_pos (by simpa using e)]
        simp only [List.length_cons]
        omega
  exact key _ hnd hv
noncomputable def twN (n : Nat) (E : Nat → Nat → Bool) : Nat → Nat → Nat
  | 0, _ => 0
  | r + 1, s => (max (minO ((freeS n s).map fun v => max (behS n E s v).length (twN n E r (s ||| 2 ^ v)))) 0).toNat
noncomputable def twS (n : Nat) (E : Nat → Nat → Bool) (s : Nat) : Nat := twN n E (freeS n s).length s
noncomputable def valS (n : Nat) (E : Nat → Nat → Bool) (s v : Nat) : Nat := max (behS n E s v).length (twS n E (s ||| 2 ^ v))
theorem twS_eq (n : Nat) (E : Nat → Nat → Bool) (s : Nat) : (twS n E s : Int) = max (minO ((freeS n s).map (valS n E s))) 0 := by
  by_cases h : freeS n s = []
  · have e : twS n E s = 0 := by unfold twS; rw [h]; rfl
    rw [e, h, List.map_nil, minO_nil]
    rfl
  · obtain ⟨r, hr⟩ : ∃ r, (freeS n s).length = r + 1 := ⟨(freeS n s).length - 1, by have := List.length_pos_iff.2 h; omega⟩
    have e : twS n E s = twN n E (r + 1) s := by unfold twS; rw [hr]
    rw [e, twN]
    have e2 : ((freeS n s).map fun v => max (behS n E s v).length (twN n E r (s ||| 2 ^ v))) = (freeS n s).map (valS n E s) := by
      refine List.map_congr_left fun v hv => ?_
      have := freeS_put hv
      unfold valS twS
      rw [show (freeS n (s ||| 2 ^ v)).length = r by omega]
    rw [e2]
    omega
theorem behS_lt {n : Nat} {E : Nat → Nat → Bool} {s v : Nat} (hv : v < n) : (behS n E s v).length < n := by
  have := sub_len (v :: behS n E s v) (List.range n) (List.nodup_cons.2 ⟨fun h => (mem_behS.1 h).2.2.1 rfl, (behS_rising _ _ _ _).imp fun h => by omega⟩) fun x hx => by
    rw [List.mem_range]
    rcases List.mem_cons.1 hx with rfl | hx
    · exact hv
    · exact (mem_behS.1 hx).1
  rw [List.length_range] at this
  simp at this; omega
theorem twS_le (n : Nat) (E : Nat → Nat → Bool) : ∀ (r s : Nat), (freeS n s).length = r → twS n E s ≤ n
  | r, s, hr => by
    have h := twS_eq n E s
    by_cases hn : freeS n s = []
    · rw [hn, List.map_nil, minO_nil] at h
      omega
    · obtain ⟨x, hx, e⟩ := minO_some (l := (freeS n s).map (valS n E s)) (by simpa using hn)
      obtain ⟨v, hv, rfl⟩ := List.mem_map.1 hx
      have hf := freeS_put hv
      match r, hr with
      | 0, hr => omega
      | r + 1, hr =>
        have h1 := twS_le n E r (s ||| 2 ^ v) (by omega)
        have h2 := behS_le n E s v
        have : valS n E s v ≤ n := by unfold valS; omega
        rw [e] at h
        omega

/-- The neighbours over those who are gone. -/
def viaR (E : Nat → Nat → Bool) (s : Nat) : Nat → Nat → Prop := fun x y => s.testBit x = false ∧ s.testBit y = false ∧ x ≠ y ∧ ∃ z, Rch E (inS s) x z ∧ E z y = true
theorem rch_back {E : Nat → Nat → Bool} {s v : Nat} (hE : ∀ x y, E x y = true → E y x = true) {z : Nat} (h : Rch E (inS s) v z) : ∀ x, E z x = true → Rch E (inS (s ||| 2 ^ v)) x v := by
  induction h with
  | base => intro x hx; exact .step .base (hE _ _ hx) (by unfold inS; rw [testBit_put]; simp)
  | @step z' z hz' hzz hz ih =>
    intro x hx
    have h1 : inS (s ||| 2 ^ v) z := by unfold inS at *; rw [testBit_put, hz]; rfl
    exact rch_trans (.step .base (hE _ _ hx) h1) (ih z hzz)
theorem viaR_gone {E : Nat → Nat → Bool} {s v x y : Nat} (hE : ∀ x y, E x y = true → E y x = true) (h : goneR (viaR E s) v x y) : viaR E (s ||| 2 ^ v) x y := by
  obtain ⟨h1, h2, h3, h⟩ := h
  have mono : ∀ t, inS s t → inS (s ||| 2 ^ v) t := fun t ht => by unfold inS at *; rw [testBit_put, ht]; rfl
  have bit : ∀ t, t ≠ v → s.testBit t = false → (s ||| 2 ^ v).testBit t = false := fun t ht hs => by rw [testBit_put, hs]; simpa using Ne.symm ht
  rcases h with ⟨k1, k2, _, z, k3, k4⟩ | ⟨⟨_, k2, _, z, k3, k4⟩, ⟨_, m2, _, z2, m3, m4⟩⟩
  · exact ⟨bit x h1 k1, bit y h2 k2, h3, z, rch_mono mono _ k3, k4⟩
  · exact ⟨bit x h1 k2, bit y h2 m2, h3, z2, rch_trans (rch_back hE k3 x k4) (rch_mono mono _ m3), m4⟩
theorem viaR_sym {E : Nat → Nat → Bool} {s x y : Nat} (hE : ∀ x y, E x y = true → E y x = true) (h : viaR E s x y) : viaR E s y x := by
  obtain ⟨h1, h2, h3, z, h4, h5⟩ := h
  refine ⟨h2, h1, Ne.symm h3, ?_⟩
  -- from y back to x: the last step into x comes from a gone vertex or from y
  have key : ∀ z, Rch E (inS s) x z → ∀ y, E z y = true → ∃ t, Rch E (inS s) y t ∧ E t x = true := by
    intro z hz
    induction hz with
    | base => intro y hy; exact ⟨y, .base, hE _ _ hy⟩
    | @step z' z _ hzz hz ih =>
      intro y hy
      obtain ⟨t, ht, hx⟩ := ih z hzz
      exact ⟨t, rch_trans (.step .base (hE _ _ hy) hz) ht, hx⟩
  exact key z h4 y h5
theorem viaR_zero {E : Nat → Nat → Bool} (hi : ∀ x, E x x = false) (x y : Nat) (h : E x y = true) : viaR E 0 x y :=
  ⟨Nat.zero_testBit x, Nat.zero_testBit y, fun e => (by rw [e, hi] at h; cases h), x, .base, h⟩
/-- A model of a full graph: each order of taking away is at least so wide. -/
theorem km_tw {n : Nat} {E : Nat → Nat → Bool} (hE : ∀ x y, E x y = true → E y x = true) (hEn : ∀ x y, E x y = true → y < n) {k : Nat} (hk : 2 ≤ k) : ∀ (r s : Nat) (B : Nat → Nat → Prop), (freeS n s).length = r → KM (viaR E s) k B → k ≤ twS n E s + 1
  | r, s, B, hr, h => by
    have hne : freeS n s ≠ [] := by
      obtain ⟨x, hx⟩ := h.ne 0 (by omega)
      obtain ⟨y, hy⟩ := h.near hk (by omega) hx
      obtain ⟨_, h2, _, z, _, h5⟩ := hy
      exact List.ne_nil_of_mem (mem_freeS.2 ⟨hEn _ _ h5, h2⟩)
    obtain ⟨x, hx, e⟩ := minO_some (l := (freeS n s).map (valS n E s)) (by simpa using hne)
    obtain ⟨v, hv, rfl⟩ := List.mem_map.1 hx
    have hf := freeS_put hv
    have heq := twS_eq n E s
    rw [e] at heq
    have hval : twS n E s = valS n E s v := by omega
    rw [hval]
    unfold valS
    by_cases c : k ≤ (behS n E s v).length + 1
    · omega
    · have hg := h.gone (fun x y => viaR_sym hE) (v := v) (l := behS n E s v) (by omega) fun x hx => by
        obtain ⟨_, h2, h3, z, h4, h5⟩ := hx
        exact mem_behS.2 ⟨hEn _ _ h5, h2, Ne.symm h3, z, h4, h5⟩
      have hg2 := hg.mono fun _ _ _ _ x y _ _ r => viaR_gone hE r
      match r, hr with
      | 0, hr => omega
      | r + 1, hr =>
        have := km_tw hE hEn hk r (s ||| 2 ^ v) _ (by omega) hg2
        omega

end Go.Proofs.YtiooindlpinjhaaDoor

/- Walk: the program's behind (who is behind a vertex, by those that are gone). -/
namespace Go.Proofs.YtiooindlpinjhaaDoor
open Go.RowKit

theorem rch_self {E : Nat → Nat → Bool} {S T : Nat → Prop} {v : Nat} (h1 : ∀ x, S x → T x ∨ x = v) {x : Nat} (h : Rch E S v x) : Rch E T v x := by
  induction h with
  | base => exact .base
  | @step x y h2 h3 h4 ih =>
    rcases h1 y h4 with h5 | rfl
    · exact .step ih h3 h5
    · exact .base
theorem owns_shapeWd {w : World} {base : Nat} {E : TypeId} {size n : Nat} {v : Value} {xs : List Value} (h : w.ownsRow base E size v n xs) : ∃ p c, v = .slice p n c := by
  rcases h.2 with ⟨rfl, h0⟩ | ⟨b, c, _, rfl, _⟩
  · exact ⟨none, 0, by rw [h0]⟩
  · exact ⟨_, _, rfl⟩

set_option maxRecDepth 100000 in
set_option maxHeartbeats 4000000 in
theorem behind_any (xp : Option Addr) (xc : Nat) (y z : Int) (n : Nat) (E : Nat → Nat → Bool) (s v : Nat) (hy : y = s) (hz : z = v) (hE : ∀ x y, E x y = true → y < n) (hs : s < 65536) (hsn : ∀ i, s.testBit i = true → i < n) (hv : v < n) (w : World) (hx : NE w (.slice xp n xc) n E) (hT : Tab w) :
    Calls Tryd.prog 112 #[.slice xp n xc, .int .u32 y, .int .i64 z] w fun e w' => ∃ m : Nat, e = .returned (.int .u32 (m : Int)) ∧ m < 65536 ∧ bitsOf m = behS n E s v ∧ Below w.heap.size w w' := by
  subst hy; subst hz
  have n16 := hx.le
  have HX := Lib.hid hx
  have HT := Lib.hid hT
  have HE := Lib.hid hE
  obtain ⟨pv, hpv⟩ : ∃ pv, pv = 2 ^ v := ⟨_, rfl⟩
  have hp16 : pv < 65536 := by rw [hpv]; exact pow_lt16 v (by omega)
  have ONE : Hid (∀ w, Calls Tryd.prog 70 #[.int .i64 (v : Int)] w fun e w' => e = .returned (.int .u32 (pv : Int)) ∧ w = w') := Lib.hid (by rw [hpv]; exact fun w => one_any (v : Int) v rfl (by omega) w)
  obtain ⟨W, hW⟩ : ∃ W, W = s ||| pv := ⟨_, rfl⟩
  have hW16 : W < 65536 := by rw [hW]; exact or_lt16 s pv hs hp16
  have hor : bits BinOp.or IntKind.u32 (s : Int) (pv : Int) = (W : Int) := by rw [hW]; exact u32_or_nat s pv (by omega) (by omega)
  have hWb : ∀ j, W.testBit j = (s.testBit j || decide (v = j)) := fun j => by rw [hW, hpv]; exact testBit_put s v j
  have HWN : Hid (∀ i, W.testBit i = true → i < n) := Lib.hid fun i hi => by
    rw [hWb] at hi
    simp only [Bool.or_eq_true, decide_eq_true_eq] at hi
    rcases hi with h | rfl
    · exact hsn i h
    · exact hv
  have HWV : Hid (W.testBit v = true) := Lib.hid (by rw [hWb]; simp)
  have HRC : Hid (∀ x, Rch E (· ∈ bitsOf W) v x ↔ Rch E (inS s) v x) := Lib.hid fun x => by
    constructor
    · exact rch_self fun y hy => by
        rw [mem_left hW16, hWb] at hy
        simp only [Bool.or_eq_true, decide_eq_true_eq] at hy
        rcases hy with h | h
        · exact .inl h
        · exact .inr h.symm
    · exact rch_self fun y hy => .inl (by
        rw [mem_left hW16, hWb]
        have : s.testBit y = true := hy
        rw [this]; rfl)
  have hsub1 : ∀ o : Nat, o < 65536 → bits BinOp.andNot IntKind.u32 (o : Int) (s : Int) = ((sub o s : Nat) : Int) := fun o ho => u32_andNot_nat o s (by omega) (by omega)
  have HSB := Lib.hid hsub1
  have HPV := Lib.hid hpv
  clear hx hT hE hpv hW hWb hsub1
  go_enter Tryd.func112, Tryd.ntmps112
  go_wp2_with (first
    | (go_at_call 127; refine (list_any _ m rfl (by omega) _ (HT.out.keep HB2.out)).mono ?_; rintro e w3 ⟨lv, rfl, ho3, hb3⟩; obtain ⟨lp, lc, rfl⟩ := owns_shapeWd ho3; have hL32 := bitsOf_length m; have HL3 := Lib.hid (Nums.of_owns ho3 (natInts_length _).symm (by omega)); have HB3 := Lib.hid (HB2.out.trans (hb3.mono HB2.out.size)); clear ho3 hb3)
    | (go_at_call 137; refine (reach_any _ _ _ n E v W rfl rfl hW16 HWN.out HWV.out _ HX.out HT.out).mono ?_; rintro e w2 ⟨m, rfl, hm16, hm, hb2⟩; have HMM := Lib.hid hm; have HB2 := Lib.hid hb2; clear hm hb2)
    | (go_at_call 70; refine (ONE.out _).mono ?_; rintro e w1 ⟨rfl, rfl⟩))
  obtain ⟨L, hL⟩ : ∃ L, L = bitsOf m := ⟨_, rfl⟩
  have HLM : Hid (∀ x, x ∈ L ↔ Rch E (inS s) v x ∧ W.testBit x = true) := Lib.hid fun x => by
    rw [hL, mem_left hm16, HMM.out, mem_partL, mem_left hW16, HRC.out]
    exact ⟨fun h => ⟨h.2, h.1⟩, fun h => ⟨h.2, h.1⟩⟩
  rw [← hL] at HL3 hL32 ⊢
  clear hL
  go_loopw [8, 21] (fun ov kv wr => ∃ k o : Nat, k ≤ L.length ∧ kv = .int .i64 (k : Int) ∧ ov = .int .u32 (o : Int) ∧ o < 65536 ∧ Hid (∀ j, o.testBit j = true ↔ j < n ∧ ∃ u ∈ L.take k, E u j = true) ∧ wr = w3) (fun _ kv _ => L.length - (intOf kv).toNat)
  case atStart => exact ⟨0, 0, Nat.zero_le _, rfl, rfl, by omega, Lib.hid (fun j => by simp), rfl⟩
  case round =>
    obtain ⟨k, o, hk, rfl, rfl, ho16, HO, rfl⟩ := hrel
    by_cases hlt : k < L.length
    · obtain ⟨u, hu⟩ : ∃ u, u = L[k] := ⟨_, rfl⟩
      have hun : u < n := HWN.out u ((HLM.out u).1 (by rw [hu]; exact List.getElem_mem hlt)).2
      obtain ⟨lb, lo, hlp, hcl⟩ := HL3.out.get (k := k) (by rw [natInts_length]; exact hlt)
      subst hlp
      have hcn : (natInts L)[k]'(by rw [natInts_length]; exact hlt) = ((u : Nat) : Int) := by rw [hu]; simp [natInts]
      rw [hcn] at hcl
      obtain ⟨xb, xo, a, hxp, hca, ha16, hab⟩ := (HX.out.next HB3.out).get hun
      subst hxp
      obtain ⟨o2, ho2⟩ : ∃ o2, o2 = o ||| a := ⟨_, rfl⟩
      have hor2 : bits BinOp.or IntKind.u32 (o : Int) (a : Int) = (o2 : Int) := by rw [ho2]; exact u32_or_nat o a (by omega) (by omega)
      have ho216 : o2 < 65536 := by rw [ho2]; exact or_lt16 o a ho16 ha16
      have HO2 : Hid (∀ j, o2.testBit j = true ↔ j < n ∧ ∃ u ∈ L.take (k + 1), E u j = true) := Lib.hid fun j => by
        rw [ho2, Nat.testBit_or, Bool.or_eq_true, HO.out, hab, take_snoc L k hlt, ← hu]
        simp only [List.mem_append, List.mem_singleton, Bool.and_eq_true, decide_eq_true_eq]
        constructor
        · rintro (⟨h1, x, h2, h3⟩ | ⟨h1, h2⟩)
          · exact ⟨h1, x, .inl h2, h3⟩
          · exact ⟨h1, u, .inr rfl, h2⟩
        · rintro ⟨h1, x, h2 | rfl, h3⟩
          · exact .inl ⟨h1, x, h2, h3⟩
          · exact .inr ⟨h1, h3⟩
      have hki : (k : Int) < (L.length : Int) := by omega
      have hk0 : (0 : Int) ≤ (k : Int) := by omega
      have hui : (u : Int) < (n : Int) := by omega
      have hu0 : (0 : Int) ≤ (u : Int) := by omega
      clear hu hcn ho2 hab
      go_wp2_with fail
      go_roundw
      case rel => exact ⟨k + 1, o2, by omega, by go_num, rfl, ho216, HO2, by first | trivial | rfl⟩
      case measure => simp [intOf]; omega
    · obtain rfl : k = L.length := by omega
      obtain ⟨r, hr⟩ : ∃ r, r = sub o s := ⟨_, rfl⟩
      have hr16 : r < 65536 := by rw [hr]; exact sub_lt16 _ _ ho16
      have h1 := HSB.out o ho16
      rw [← hr] at h1
      obtain ⟨q, hq⟩ : ∃ q, q = sub r pv := ⟨_, rfl⟩
      have hq16 : q < 65536 := by rw [hq]; exact sub_lt16 _ _ hr16
      have h2 : bits BinOp.andNot IntKind.u32 (r : Int) (pv : Int) = (q : Int) := by rw [hq]; exact u32_andNot_nat r pv (by omega) (by omega)
      have HQ : Hid (bitsOf q = behS n E s v) := Lib.hid (by
        refine rising_ext _ _ (bitsOf_rising _) (behS_rising _ _ _ _) fun x => ?_
        rw [mem_left hq16, hq, testBit_sub _ _ (by omega) (by omega), hr, testBit_sub _ _ (by omega) (by omega), HPV.out, testBit_pow, mem_behS]
        simp only [Bool.and_eq_true, Bool.not_eq_true', decide_eq_false_iff_not]
        rw [HO.out, List.take_length]
        constructor
        · rintro ⟨⟨⟨h1, u, h2, h3⟩, h4⟩, h5⟩
          exact ⟨h1, h4, fun e => h5 e.symm, u, ((HLM.out u).1 h2).1, h3⟩
        · rintro ⟨h1, h2, h3, u, h4, h5⟩
          refine ⟨⟨⟨h1, u, (HLM.out u).2 ⟨h4, ?_⟩, h5⟩, h2⟩, fun e => h3 e.symm⟩
          have h6 := (HRC.out u).2 h4
          have h7 : u ∈ bitsOf W := rch_in (S := (· ∈ bitsOf W)) ((mem_left hW16).2 HWV.out) _ h6
          exact (mem_left hW16).1 h7)
      clear hr hq
      go_wp2_with (go_at_call 70; refine (ONE.out _).mono ?_; rintro e w9 ⟨rfl, rfl⟩)
      go_ret
      exact ⟨q, rfl, hq16, HQ.out, HB3.out⟩

end Go.Proofs.YtiooindlpinjhaaDoor

/- Walks: the program's least widths, remembered in a map (newWidths, widths.after, widths.with). -/
namespace Go.Proofs.YtiooindlpinjhaaDoor
open Go.RowKit Go.Maps

def kyW (s : Nat) : Lit := .int .u32 (s : Int)
theorem kyW_ne {s t : Nat} (h : t ≠ s) : kyW t ≠ kyW s := fun e => h (by
  unfold kyW at e
  injection e with _ e
  omega)
theorem kyW_key (s : Nat) : WideAt.IsKeyLit (kyW s) := by simp [kyW, WideAt.IsKeyLit]
theorem wf_u32 {s : Nat} (h : s < 65536) : (Lit.int .u32 (s : Int)).wf = true := by
  have e1 : IntKind.u32.min = 0 := by rfl
  have e2 : IntKind.u32.max = 4294967295 := by rfl
  simp only [Lit.wf, e1, e2, Bool.and_eq_true, decide_eq_true_eq]
  omega
theorem wf_i64 {s : Nat} (h : s < 65536) : (Lit.int .i64 (s : Int)).wf = true := by
  have e1 : IntKind.i64.min = -9223372036854775808 := by rfl
  have e2 : IntKind.i64.max = 9223372036854775807 := by rfl
  simp only [Lit.wf, e1, e2, Bool.and_eq_true, decide_eq_true_eq]
  omega
theorem law_u32 : Keyed Tryd.prog 71 := int_keyed Tryd.underlying71
theorem zero_int (w : World) : (zeroValue 3).run Tryd.prog w = .ok (.int .i64 0) w := by kernel_rfl
theorem key_u32 {s : Nat} (h : s < 65536) : keyOf Tryd.prog 71 (.int .u32 (s : Int)) = some (kyW s) := keyOf_int_mk Tryd.underlying71 (wf_u32 h)

/-- How many are known. -/
noncomputable def knW (D : DataW Unit) : Nat := (List.range 65536).countP fun s => Maps.has D (kyW s)
theorem knW_le (D : DataW Unit) : knW D ≤ 65536 := by
  have : knW D ≤ (List.range 65536).length := List.countP_le_length
  rwa [List.length_range] at this
theorem knW_put {D : DataW Unit} (hD : IsMap D) {s : Nat} (hs : s < 65536) (hn : Maps.has D (kyW s) = false) (d : DataW Unit) : knW (D.put (kyW s) d) = knW D + 1 := by
  obtain ⟨R, h1, h2, _⟩ := out_one (L := List.range 65536) List.nodup_range (List.mem_range.2 hs)
  unfold knW
  rw [h1.countP_eq, h1.countP_eq, List.countP_cons, List.countP_cons, has_put_same hD (kyW_key s), hn]
  simp only [if_true, Bool.false_eq_true, if_false, Nat.add_zero]
  refine congrArg (· + 1) (List.countP_congr fun t ht => ?_)
  have hts : t ≠ s := fun e => h2 (by rw [← e]; exact ht)
  rw [has_put_other (kyW_ne hts)]

/-- The widths as they are remembered. -/
structure WthI (w1 w : World) (n : Nat) (E : Nat → Nat → Bool) (xp : Option Addr) (xc xb mb c : Nat) (D : DataW Unit) : Prop where
  bel : Below w1.heap.size w1 w
  blk : w.heap[xb]? = some (.cells #[.slice xp n xc, .map (some mb)] 134 (0, 0))
  map : w.ownsMap Tryd.prog 71 (plainElem Tryd.prog 3) mb c D
  lo : w1.heap.size ≤ mb
  val : ∀ s, s < 65536 → Maps.has D (kyW s) = true → D.atKey (kyW s) (.lit (.int .i64 0)) = .lit (.int .i64 (twS n E s : Int))
  cnt : c ≤ knW D
section
variable {w1 w w' : World} {n : Nat} {E : Nat → Nat → Bool} {xp : Option Addr} {xc xb mb c : Nat} {D : DataW Unit}
theorem WthI.c0 (h : WthI w1 w n E xp xc xb mb c D) : w.cell? ⟨xb, 0, none⟩ = some (.slice xp n xc) := by unfold World.cell?; rw [h.blk]; rfl
theorem WthI.c1 (h : WthI w1 w n E xp xc xb mb c D) : w.cell? ⟨xb, 1, none⟩ = some (.map (some mb)) := by unfold World.cell?; rw [h.blk]; rfl
theorem WthI.ltx (h : WthI w1 w n E xp xc xb mb c D) : xb < w.heap.size := lt_of_block h.blk
theorem WthI.room (h : WthI w1 w n E xp xc xb mb c D) : c < maxLen := by
  have h1 := h.cnt
  have h2 := knW_le D
  unfold maxLen
  omega
theorem WthI.ne (h : WthI w1 w n E xp xc xb mb c D) : xb ≠ mb := fun e => by
  obtain ⟨es, cl, hb, _⟩ := h.map
  rw [← e, h.blk] at hb
  cases hb
theorem WthI.next (h : WthI w1 w n E xp xc xb mb c D) (hb : Below w.heap.size w w') : WthI w1 w' n E xp xc xb mb c D :=
  ⟨h.bel.trans (hb.mono h.bel.size), (hb.block _ h.ltx).trans h.blk, h.map.kept (grown_of_below hb none) (by simp), h.lo, h.val, h.cnt⟩
theorem WthI.put (h : WthI w1 w n E xp xc xb mb c D) {s : Nat} (hs : s < 65536) (hn : Maps.has D (kyW s) = false) {f : Int} (hf : f = (twS n E s : Int)) (hm : w'.ownsMap Tryd.prog 71 (plainElem Tryd.prog 3) mb (c + 1) (D.put (kyW s) (.lit (.int .i64 f)))) (hg : w.grownBy w' (some mb)) :
    WthI w1 w' n E xp xc xb mb (c + 1) (D.put (kyW s) (.lit (.int .i64 f))) where
  bel := h.bel.grown hg h.bel.size (fun k hk => by cases hk; exact h.lo)
  blk := (hg.block _ h.ltx (fun e => h.ne (by simpa using e))).trans h.blk
  map := hm
  lo := h.lo
  val t ht hk := by
    by_cases e : t = s
    · subst e
      rw [atKey_put_same h.map.isMap (kyW_key t), hf]
    · rw [has_put_other (kyW_ne e)] at hk
      rw [atKey_put_other (kyW_ne e)]
      exact h.val t ht hk
  cnt := by
    rw [knW_put h.map.isMap hs hn]
    have := h.cnt
    omega
end

set_option maxRecDepth 100000 in
set_option maxHeartbeats 1000000 in
theorem newWidths_any (xp : Option Addr) (xc n : Nat) (E : Nat → Nat → Bool) (w : World) :
    Calls Tryd.prog 90 #[.slice xp n xc] w fun e w' => e = .returned (.pointer (some ⟨w.heap.size + 1, 0, none⟩)) ∧ WthI w w' n E xp xc (w.heap.size + 1) w.heap.size 0 (.map []) := by
  have hmm := @run_makeMap Tryd.prog
  have HI : Hid (WthI w ((w.alloc (.map #[] 0)).alloc (.cells #[.slice xp n xc, .map (some w.heap.size)] 134)) n E xp xc (w.heap.size + 1) w.heap.size 0 (.map [])) := Lib.hid {
    bel := below_alloc2 w _ _
    blk := by
      have := heap_alloc_new (w.alloc (.map #[] 0)) (.cells #[.slice xp n xc, .map (some w.heap.size)] 134)
      rw [size_alloc] at this
      exact this
    map := (World.ownsMap_made w _ _ _).alloc _
    lo := Nat.le_refl _
    val := fun s _ h => by rw [Maps.has_eq] at h; simp at h
    cnt := Nat.zero_le _ }
  go_enter Tryd.func90, Tryd.ntmps90
  go_wp2
  go_ret
  exact ⟨rfl, HI.out⟩

/-- What after and with leave. -/
structure WthP (w1 w w' : World) (n : Nat) (E : Nat → Nat → Bool) (xp : Option Addr) (xc xb mb : Nat) (D : DataW Unit) (lo : Nat) : Prop where
  st : ∃ c' D', WthI w1 w' n E xp xc xb mb c' D' ∧ ∀ t, t < 65536 → Maps.has D' (kyW t) = true → Maps.has D (kyW t) = true ∨ lo ≤ t
  grow : w.grownBy w' (some mb)

theorem lt_put {s v : Nat} (h : s.testBit v = false) : s < s ||| 2 ^ v := by
  refine Nat.lt_of_le_of_ne Nat.left_le_or fun e => ?_
  have h1 : (s ||| 2 ^ v).testBit v = true := by rw [testBit_put]; simp
  rw [← e, h] at h1
  cases h1

set_option maxRecDepth 100000 in
set_option maxHeartbeats 4000000 in
theorem widthsWith_any (w1 : World) (n : Nat) (E : Nat → Nat → Bool) (xp : Option Addr) (xc xb mb s v : Nat) (hE : ∀ x y, E x y = true → y < n) (hNE : NE w1 (.slice xp n xc) n E) (hT1 : Tab w1) (hs : s < 2 ^ n) (hsn : ∀ i, s.testBit i = true → i < n) (hv : v < n)
    (AFT : ∀ (w : World) (c : Nat) (D : DataW Unit), WthI w1 w n E xp xc xb mb c D → Calls Tryd.prog 91 #[.pointer (some ⟨xb, 0, none⟩), .int .u32 ((s ||| 2 ^ v : Nat) : Int)] w fun e w' => e = .returned (.int .i64 (twS n E (s ||| 2 ^ v) : Int)) ∧ WthP w1 w w' n E xp xc xb mb D (s ||| 2 ^ v))
    (w : World) (c : Nat) (D : DataW Unit) (hI : WthI w1 w n E xp xc xb mb c D) :
    Calls Tryd.prog 136 #[.pointer (some ⟨xb, 0, none⟩), .int .u32 (s : Int), .int .i64 (v : Int)] w fun e w' => e = .returned (.int .i64 (valS n E s v : Int)) ∧ WthP w1 w w' n E xp xc xb mb D (s ||| 2 ^ v) := by
  have n16 := hNE.le
  have hs16 : s < 65536 := by
    have h2 : 2 ^ n ≤ 2 ^ 16 := Nat.pow_le_pow_right (by decide) n16
    omega
  have HI := Lib.hid hI
  have HNE := Lib.hid hNE
  have HT1 := Lib.hid hT1
  have HE := Lib.hid hE
  have HSN := Lib.hid hsn
  have HA := Lib.hid AFT
  have c0 := hI.c0
  obtain ⟨pv, hpv⟩ : ∃ pv, pv = 2 ^ v := ⟨_, rfl⟩
  have hp16 : pv < 65536 := by rw [hpv]; exact pow_lt16 v (by omega)
  have ONE : Hid (∀ w, Calls Tryd.prog 70 #[.int .i64 (v : Int)] w fun e w' => e = .returned (.int .u32 (pv : Int)) ∧ w = w') := Lib.hid (by rw [hpv]; exact fun w => one_any (v : Int) v rfl (by omega) w)
  obtain ⟨t, ht⟩ : ∃ t, t = s ||| 2 ^ v := ⟨_, rfl⟩
  have hor : bits BinOp.or IntKind.u32 (s : Int) (pv : Int) = (t : Int) := by rw [ht, ← hpv]; exact u32_or_nat s pv (by omega) (by omega)
  obtain ⟨bl, hbl⟩ : ∃ bl, bl = (behS n E s v).length := ⟨_, rfl⟩
  obtain ⟨tw, htw⟩ : ∃ tw, tw = twS n E t := ⟨_, rfl⟩
  obtain ⟨mx, hmx⟩ : ∃ mx, mx = valS n E s v := ⟨_, rfl⟩
  have hmx2 : mx = max bl tw := by rw [hmx, hbl, htw, ht]; rfl
  have hmi : (if (bl : Int) < (tw : Int) then (tw : Int) else (bl : Int)) = (mx : Int) := by split <;> omega
  rw [← ht] at HA ⊢
  rw [← htw] at HA
  rw [← hmx]
  have BEH : Hid (∀ wz, Below w1.heap.size w1 wz → Calls Tryd.prog 112 #[.slice xp n xc, .int .u32 (s : Int), .int .i64 (v : Int)] wz fun e w' => ∃ m : Nat, e = .returned (.int .u32 (m : Int)) ∧ m < 65536 ∧ bitsOf m = behS n E s v ∧ Below wz.heap.size wz w') := Lib.hid fun wz hb => behind_any xp xc _ _ n E s v rfl rfl HE.out hs16 HSN.out hv wz (HNE.out.next hb) (HT1.out.keep hb)
  have HBL := Lib.hid hbl
  clear hI hNE hT1 hE hsn AFT hpv ht hbl htw hmx
  by_cases hlt : bl < tw
  · obtain rfl : mx = tw := by omega
    have hli : (bl : Int) < (mx : Int) := by omega
    clear hmi hlt hmx2
    go_enter Tryd.func136, Tryd.ntmps136
    go_wp2_with (first
      | (go_at_call 91; refine (HA.out _ _ _ (HI.out.next HB3.out)).mono ?_; rintro e w4 ⟨rfl, hp4⟩; have HP4 := Lib.hid hp4; clear hp4)
      | (go_at_call 60; refine (size16_any _ m rfl hm16 _).mono ?_; rintro e w3 ⟨he, q, hw⟩; rw [hbm, ← HBL.out] at he; subst he; have HB3 : Hid (Below w.heap.size w w3) := Lib.hid (by rw [hw]; exact below_dN HB2.out q); clear hw)
      | (go_at_call 112; refine (BEH.out _ HI.out.bel).mono ?_; rintro e w2 ⟨m, rfl, hm16, hbm, hb2⟩; have HB2 := Lib.hid hb2; clear hb2)
      | (go_at_call 70; refine (ONE.out _).mono ?_; rintro e w9 ⟨rfl, rfl⟩))
    go_ret
    exact ⟨rfl, HP4.out.st, grown_trans (grown_of_below HB3.out _) HP4.out.grow⟩
  · obtain rfl : mx = bl := by omega
    have hli : ¬ (mx : Int) < (tw : Int) := by omega
    clear hmi hlt hmx2
    go_enter Tryd.func136, Tryd.ntmps136
    go_wp2_with (first
      | (go_at_call 91; refine (HA.out _ _ _ (HI.out.next HB3.out)).mono ?_; rintro e w4 ⟨rfl, hp4⟩; have HP4 := Lib.hid hp4; clear hp4)
      | (go_at_call 60; refine (size16_any _ m rfl hm16 _).mono ?_; rintro e w3 ⟨he, q, hw⟩; rw [hbm, ← HBL.out] at he; subst he; have HB3 : Hid (Below w.heap.size w w3) := Lib.hid (by rw [hw]; exact below_dN HB2.out q); clear hw)
      | (go_at_call 112; refine (BEH.out _ HI.out.bel).mono ?_; rintro e w2 ⟨m, rfl, hm16, hbm, hb2⟩; have HB2 := Lib.hid hb2; clear hb2)
      | (go_at_call 70; refine (ONE.out _).mono ?_; rintro e w9 ⟨rfl, rfl⟩))
    go_ret
    exact ⟨rfl, HP4.out.st, grown_trans (grown_of_below HB3.out _) HP4.out.grow⟩

end Go.Proofs.YtiooindlpinjhaaDoor
