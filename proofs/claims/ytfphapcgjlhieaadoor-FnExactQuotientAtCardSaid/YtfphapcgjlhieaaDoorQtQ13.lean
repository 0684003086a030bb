/- Walks: what a slice of nodes reads as. -/
import Derived.Test.YtfphapcgjlhieaaDoorQtQ12
import Derived.Test.YtfphapcgjlhieaaDoorQtQ2
import Derived.Test.YtfphapcgjlhieaaDoorQtQ9
import Derived.Test.YtfphapcgjlhieaaDoorQtQ8
namespace Go.Proofs.YtfphapcgjlhieaaDoor
open Go.RowKit

theorem ty_parts : SlTy Tryd.prog 29 54 (.agg #[.int .i64 0, .int .i64 0, .slice none 0 0]) 3 40 := ⟨Tryd.underlying29, by kernel_rfl, rfl, by decide, by decide⟩

/-- The cells of some nodes, whose kids lie as told. -/
def ptCells : List Pt → List Value → List Value
  | p :: ts, u :: us => .int .i64 p.k :: .int .i64 p.v :: u :: ptCells ts us
  | _, _ => []
theorem ptCells_length : ∀ {ts : List Pt} {us : List Value}, us.length = ts.length → (ptCells ts us).length = ts.length * 3
  | [], us, _ => by cases us <;> rfl
  | p :: ts, [], h => by simp at h
  | p :: ts, u :: us, h => by
    show (ptCells ts us).length + 1 + 1 + 1 = (ts.length + 1) * 3
    rw [ptCells_length (by simpa using h)]
    omega
theorem ptCells_get : ∀ {ts : List Pt} {us : List Value}, us.length = ts.length → ∀ {k : Nat} {p : Pt}, ts[k]? = some p →
    (ptCells ts us)[k * 3]? = some (.int .i64 p.k) ∧ (ptCells ts us)[k * 3 + 1]? = some (.int .i64 p.v) ∧ (ptCells ts us)[k * 3 + 2]? = some (us.getD k undef)
  | [], us, _, k, p, hp => by simp at hp
  | q :: ts, [], h, _, _, _ => by simp at h
  | q :: ts, u :: us, h, k, p, hp => by
    have e : ptCells (q :: ts) (u :: us) = .int .i64 q.k :: .int .i64 q.v :: u :: ptCells ts us := rfl
    rw [e]
    cases k with
    | zero =>
      obtain rfl : q = p := by simpa using hp
      exact ⟨rfl, rfl, rfl⟩
    | succ k =>
      obtain ⟨h1, h2, h3⟩ := ptCells_get (ts := ts) (us := us) (by simpa using h) (k := k) (by simpa using hp)
      rw [show (k + 1) * 3 = k * 3 + 1 + 1 + 1 by omega, show k * 3 + 1 + 1 + 1 + 2 = k * 3 + 2 + 1 + 1 + 1 by omega]
      simp only [List.getElem?_cons_succ, List.getD_cons_succ]
      exact ⟨h1, h2, h3⟩
/-- v reads as the nodes ts. -/
def Trs (w : World) (v : Value) (ts : List Pt) : Prop :=
  ∃ us : List Value, us.length = ts.length ∧ Sl w 54 v ts.length (ptCells ts us) ∧ ∀ (j : Nat) (p : Pt), ts[j]? = some p → Nums w 2 .i64 (us.getD j undef) p.s
theorem Trs.below {w w' : World} {v : Value} {ts : List Pt} (h : Trs w v ts) (hb : Below w.heap.size w w') : Trs w' v ts := by
  obtain ⟨us, h1, h2, h3⟩ := h
  exact ⟨us, h1, h2.below hb, fun j p hp => (h3 j p hp).below hb⟩
theorem Trs.shape {w : World} {v : Value} {ts : List Pt} (h : Trs w v ts) : ∃ p c, v = .slice p ts.length c ∧ ts.length ≤ 1000000000 := by
  obtain ⟨us, _, ⟨p, c, h1, _, _, h2, _⟩, _⟩ := h
  exact ⟨p, c, h1, h2⟩
theorem Nums.shapeT {w : World} {E : TypeId} {K : IntKind} {v : Value} {xs : List Int} (h : Nums w E K v xs) : ∃ p c, v = .slice p xs.length c ∧ xs.length ≤ 1000000000 := by
  obtain ⟨p, c, h1, _, _, h2, _⟩ := h
  exact ⟨p, c, h1, h2⟩
/-- The cells of a node. -/
theorem Trs.at {w : World} {p : Option Addr} {n c : Nat} {ts : List Pt} (h : Trs w (.slice p n c) ts) {k : Nat} {x : Pt} (hx : ts[k]? = some x) :
    ∃ b o rp rc, p = some ⟨b, o, none⟩ ∧ w.cell? ⟨b, o + k * 3, none⟩ = some (.int .i64 x.k) ∧ w.cell? ⟨b, o + k * 3 + 1, none⟩ = some (.int .i64 x.v) ∧
      w.cell? ⟨b, o + k * 3 + 2, none⟩ = some (.slice rp x.s.length rc) ∧ Nums w 2 .i64 (.slice rp x.s.length rc) x.s ∧ x.s.length ≤ 1000000000 := by
  obtain ⟨us, h1, ⟨p', c', e, _, _, _, hat⟩, h3⟩ := h
  simp only [Value.slice.injEq] at e
  obtain ⟨rfl, rfl, rfl⟩ := e
  have hk := (List.getElem?_eq_some_iff.1 hx).1
  obtain ⟨b, o, hp, hc⟩ := hat.cells (k := k) (by rw [ptCells_length h1]; omega)
  obtain ⟨g1, g2, g3⟩ := ptCells_get h1 hx
  have hn := h3 k x hx
  obtain ⟨rp, rc, hv, hl⟩ := hn.shapeT
  rw [hv] at g3 hn
  exact ⟨b, o, rp, rc, hp, hc _ _ g1, by rw [Nat.add_assoc]; exact hc _ _ g2, by rw [Nat.add_assoc]; exact hc _ _ g3, hn, hl⟩

/-- Sets lie so. -/
def VS (w : World) (v : Value) (M : List Nat) : Prop := Sl w 76 v M.length (M.map u32v)
theorem VS.below {w w' : World} {v : Value} {M : List Nat} (h : VS w v M) (hb : Below w.heap.size w w') : VS w' v M := Sl.below h hb
theorem VS.shape {w : World} {v : Value} {M : List Nat} (h : VS w v M) : ∃ p c, v = .slice p M.length c ∧ M.length ≤ 1000000000 := by
  obtain ⟨p, c, h1, _, _, h2, _⟩ := h
  exact ⟨p, c, h1, h2⟩
theorem VS.at {w : World} {p : Option Addr} {n c : Nat} {M : List Nat} (h : VS w (.slice p n c) M) {k : Nat} (hk : k < M.length) :
    ∃ b o, p = some ⟨b, o, none⟩ ∧ w.cell? ⟨b, o + k, none⟩ = some (.int .u32 (M.getD k 0 : Nat)) := by
  obtain ⟨p', c', e, _, _, _, hat⟩ := h
  simp only [Value.slice.injEq] at e
  obtain ⟨rfl, rfl, rfl⟩ := e
  obtain ⟨b, o, hp, hc⟩ := hat.cells (k := k) (by simpa using hk)
  exact ⟨b, o, hp, hc k _ (by simp [hk, u32v])⟩

theorem cells3Te (w : World) (x y z : Value) (T : TypeId) : (w.alloc (.cells #[x, y, z] T)).cell? ⟨w.heap.size, 0, none⟩ = some x ∧ (w.alloc (.cells #[x, y, z] T)).cell? ⟨w.heap.size, 1, none⟩ = some y ∧ (w.alloc (.cells #[x, y, z] T)).cell? ⟨w.heap.size, 2, none⟩ = some z := by
  refine ⟨?_, ?_, ?_⟩ <;> (unfold World.cell?; rw [heap_alloc_new]; rfl)

end Go.Proofs.YtfphapcgjlhieaaDoor

/- Plain: colouring along a folding order. -/
namespace Go.Proofs.YtfphapcgjlhieaaDoor

structure FdIn (n : Nat) (f : Fd) : Prop where
  V0 : 0 ≤ f.V
  V1 : f.V < n
  A0 : -1 ≤ f.A
  A1 : f.A < n
  B0 : -1 ≤ f.B
  B1 : f.B < n
  BA : 0 ≤ f.B → 0 ≤ f.A

def RowsIn (n : Nat) (g : List (List Int)) : Prop := ∀ j, ∀ x ∈ row g j, 0 ≤ x ∧ x < n

theorem atRow_in {n : Nat} {v : Int} {r : List Int} (hv : 0 ≤ v ∧ v < n) (h : ∀ x ∈ r, 0 ≤ x ∧ x < n) : FdIn n (atRow v r) := by
  match r, h with
  | [], _ => exact ⟨hv.1, hv.2, by simp [atRow], by simp [atRow]; omega, by simp [atRow], by simp [atRow]; omega, by simp [atRow]⟩
  | [a], h =>
    have := h a (by simp)
    exact ⟨hv.1, hv.2, by simp [atRow]; omega, by simp [atRow]; omega, by simp [atRow], by simp [atRow]; omega, by simp [atRow]⟩
  | a :: b :: r, h =>
    have h1 := h a (by simp)
    have h2 := h b (by simp)
    exact ⟨hv.1, hv.2, by simp [atRow]; omega, by simp [atRow]; omega, by simp [atRow]; omega, by simp [atRow]; omega, by simp [atRow]; omega⟩

theorem mem_intoL' {n x : Int} {l : List Int} (h : x ∈ intoL l n) : x ∈ l ∨ x = n := mem_intoL.1 h

theorem foldG_in {n : Nat} {g : List (List Int)} {f : Fd} (h : RowsIn n g) (hf : FdIn n f) : RowsIn n (foldG g f) := by
  intro j x hx
  by_cases hj : j < g.length
  case neg =>
    have : row (foldG g f) j = [] := by simp [row, List.getElem?_eq_none (show (foldG g f).length ≤ j by rw [foldG_length]; omega)]
    rw [this] at hx
    cases hx
  rw [row_foldG g f hj] at hx
  have k1 : ∀ x ∈ fr1 g f j, 0 ≤ x ∧ x < n := by
    intro x hx
    unfold fr1 at hx
    split at hx
    · cases hx
    · exact h j x (mem_lessL.1 hx).1
  have k2 : ∀ x ∈ fr2 g f j, 0 ≤ x ∧ x < n := by
    intro x hx
    unfold fr2 at hx
    split at hx
    · rename_i hc
      rcases mem_intoL' hx with h1 | rfl
      · exact k1 x h1
      · exact ⟨hc.2, hf.B1⟩
    · exact k1 x hx
  unfold foldRow at hx
  split at hx
  · rename_i hc
    rcases mem_intoL' hx with h1 | rfl
    · exact k2 x h1
    · exact ⟨hf.BA (by omega), hf.A1⟩
  · exact k2 x hx

theorem folds_in {n : Nat} {g : List (List Int)} {left : List Int} {fs : List Fd} {l : List Int} {g' : List (List Int)} (h : Folds g left fs l g') : RowsIn n g → (∀ x ∈ left, 0 ≤ x ∧ x < n) → ∀ f ∈ fs, FdIn n f := by
  induction h with
  | stop _ => intro _ _ f hf; cases hf
  | step h1 h2 h ih =>
    intro hg hl f hf
    rename_i g l1 l2 v fs l g'
    have hv := hl v (by simp)
    have ha := atRow_in hv (hg v.toNat)
    rcases List.mem_cons.1 hf with rfl | hf
    · exact ha
    · exact ih (foldG_in hg ha) (fun x hx => hl x (mem_lessL.1 hx).1) f hf

theorem foldedS_in {g : List (List Int)} {fs : List Fd} {l : List Int} (h : FoldedS g fs l) : ∀ f ∈ fs, FdIn g.length f := by
  rcases h with ⟨hg, g', h⟩ | ⟨_, rfl, _⟩
  · refine folds_in h ?_ ?_
    · intro j x hx
      by_cases hj : j < g.length
      · have := (hg.sets j hj).1.1 x hx
        exact this
      · have : row g j = [] := by simp [row, List.getElem?_eq_none (show g.length ≤ j by omega)]
        rw [this] at hx
        cases hx
    · intro x hx
      simp only [allL, List.mem_map, List.mem_range] at hx
      obtain ⟨i, hi, rfl⟩ := hx
      omega
  · intro f hf; cases hf

/-- A colour that a fold's neighbours bear. -/
def Taken (out : List Int) (f : Fd) (n : Int) : Prop := (0 ≤ f.A ∧ out.getD f.A.toNat 0 = n) ∨ (0 ≤ f.B ∧ out.getD f.B.toNat 0 = n)
instance (out : List Int) (f : Fd) (n : Int) : Decidable (Taken out f n) := by unfold Taken; infer_instance
def colN (out : List Int) (f : Fd) : Nat := if Taken out f 0 then (if Taken out f 1 then 2 else 1) else 0
theorem colN_le (out : List Int) (f : Fd) : colN out f ≤ 2 := by
  unfold colN; split
  · split <;> omega
  · omega
theorem colN_lt {out : List Int} {f : Fd} {k : Nat} (h : k < colN out f) : Taken out f k := by
  unfold colN at h
  split at h
  · split at h
    · match k, h with
      | 0, _ => assumption
      | 1, _ => assumption
    · match k, h with
      | 0, _ => assumption
  · omega
theorem colN_free {out : List Int} {f : Fd} : ¬ Taken out f (colN out f) := by
  unfold colN
  split
  · split
    · rename_i h0 h1
      intro h2
      unfold Taken at h0 h1 h2
      have e0 : ((2 : Nat) : Int) = 2 := rfl
      rw [e0] at h2
      omega
    · assumption
  · assumption
def colStep (out : List Int) (f : Fd) : List Int := out.set f.V.toNat (colN out f)
def colL (n : Nat) (fs : List Fd) : List Int := fs.foldr (fun f out => colStep out f) (List.replicate n 0)
theorem colL_length (n : Nat) (fs : List Fd) : (colL n fs).length = n := by
  induction fs with
  | nil => simp [colL]
  | cons f fs ih => simp only [colL, List.foldr_cons, colStep, List.length_set] at ih ⊢; exact ih
theorem colL_lt (n : Nat) (fs : List Fd) : ∀ x ∈ colL n fs, x = 0 ∨ x = 1 ∨ x = 2 := by
  induction fs with
  | nil => intro x hx; simp only [colL, List.foldr_nil, List.mem_replicate] at hx; exact .inl hx.2
  | cons f fs ih =>
    intro x hx
    simp only [colL, List.foldr_cons, colStep] at ih hx
    rcases List.mem_or_eq_of_mem_set hx with h | rfl
    · exact ih x h
    · have := colN_le (List.foldr (fun f out => out.set f.V.toNat (colN out f)) (List.replicate n 0) fs) f
      omega
theorem colL_step (n : Nat) (fs : List Fd) (k : Nat) (h : k < fs.length) : colL n (fs.drop k) = colStep (colL n (fs.drop (k + 1))) fs[k] := by
  rw [List.drop_eq_getElem_cons h]
  rfl

/-- What ThreeColours returns. -/
def ColS (g : List (List Int)) (ys : List Int) : Prop := (SerS g ∧ ∃ fs l, FoldedS g fs l ∧ ys = colL g.length fs) ∨ (¬ SerS g ∧ ys = [])

end Go.Proofs.YtfphapcgjlhieaaDoor
