/- Plain: colouring along a folding order. -/
import Derived.Test.YtiooindlpinjhaaDoorBaQ3
namespace Go.Proofs.YtiooindlpinjhaaDoor

structure FdIn (n : Nat) (f : Fd) : Prop where
  V0 : 0 ≤ f.V
  V1 : f.V < n
  A0 : -1 ≤ f.A
  A1 : f.A < n
  B0 : -1 ≤ f.B
  B1 : f.B < n
  BA : 0 ≤ f.B → 0 ≤ f.A

def RowsIn (n : Nat) (g : List (List Int)) : Prop := ∀ j, ∀ x ∈ row g j, 0 ≤ x ∧ x < n

theorem atRow_in {n : Nat} {v : Int} {r : List Int} (hv : 0 ≤ v ∧ v < n) (h : ∀ x ∈ r, 0 ≤ x ∧ x < n) : FdIn n (atRow v r) := by
  match r, h with
  | [], _ => exact ⟨hv.1, hv.2, by simp [atRow], by simp [atRow]; omega, by simp [atRow], by simp [atRow]; omega, by simp [atRow]⟩
  | [a], h =>
    have := h a (by simp)
    exact ⟨hv.1, hv.2, by simp [atRow]; omega, by simp [atRow]; omega, by simp [atRow], by simp [atRow]; omega, by simp [atRow]⟩
  | a :: b :: r, h =>
    have h1 := h a (by simp)
    have h2 := h b (by simp)
    exact ⟨hv.1, hv.2, by simp [atRow]; omega, by simp [atRow]; omega, by simp [atRow]; omega, by simp [atRow]; omega, by simp [atRow]; omega⟩

theorem mem_intoL' {n x : Int} {l : List Int} (h : x ∈ intoL l n) : x ∈ l ∨ x = n := mem_intoL.1 h

theorem foldG_in {n : Nat} {g : List (List Int)} {f : Fd} (h : RowsIn n g) (hf : FdIn n f) : RowsIn n (foldG g f) := by
  intro j x hx
  by_cases hj : j < g.length
  case neg =>
    have : row (foldG g f) j = [] := by simp [row, List.getElem?_eq_none (show (foldG g f).length ≤ j by rw [foldG_length]; omega)]
    rw [this] at hx
    cases hx
  rw [row_foldG g f hj] at hx
  have k1 : ∀ x ∈ fr1 g f j, 0 ≤ x ∧ x < n := by
    intro x hx
    unfold fr1 at hx
    split at hx
    · cases hx
    · exact h j x (mem_lessL.1 hx).1
  have k2 : ∀ x ∈ fr2 g f j, 0 ≤ x ∧ x < n := by
    intro x hx
    unfold fr2 at hx
    split at hx
    · rename_i hc
      rcases mem_intoL' hx with h1 | rfl
      · exact k1 x h1
      · exact ⟨hc.2, hf.B1⟩
    · exact k1 x hx
  unfold foldRow at hx
  split at hx
  · rename_i hc
    rcases mem_intoL' hx with h1 | rfl
    · exact k2 x h1
    · exact ⟨hf.BA (by omega), hf.A1⟩
  · exact k2 x hx

theorem folds_in {n : Nat} {g : List (List Int)} {left : List Int} {fs : List Fd} {l : List Int} {g' : List (List Int)} (h : Folds g left fs l g') : RowsIn n g → (∀ x ∈ left, 0 ≤ x ∧ x < n) → ∀ f ∈ fs, FdIn n f := by
  induction h with
  | stop _ => intro _ _ f hf; cases hf
  | step h1 h2 h ih =>
    intro hg hl f hf
    rename_i g l1 l2 v fs l g'
    have hv := hl v (by simp)
    have ha := atRow_in hv (hg v.toNat)
    rcases List.mem_cons.1 hf with rfl | hf
    · exact ha
    · exact ih (foldG_in hg ha) (fun x hx => hl x (mem_lessL.1 hx).1) f hf

theorem foldedS_in {g : List (List Int)} {fs : List Fd} {l : List Int} (h : FoldedS g fs l) : ∀ f ∈ fs, FdIn g.length f := by
  rcases h with ⟨hg, g', h⟩ | ⟨_, rfl, _⟩
  · refine folds_in h ?_ ?_
    · intro j x hx
      by_cases hj : j < g.length
      · have := (hg.sets j hj).1.1 x hx
        exact this
      · have : row g j = [] := by simp [row, List.getElem?_eq_none (show g.length ≤ j by omega)]
        rw [this] at hx
        cases hx
    · intro x hx
      simp only [allL, List.mem_map, List.mem_range] at hx
      obtain ⟨i, hi, rfl⟩ := hx
      omega
  · intro f hf; cases hf

/-- A colour that a fold's neighbours bear. -/
def Taken (out : List Int) (f : Fd) (n : Int) : Prop := (0 ≤ f.A ∧ out.getD f.A.toNat 0 = n) ∨ (0 ≤ f.B ∧ out.getD f.B.toNat 0 = n)
instance (out : List Int) (f : Fd) (n : Int) : Decidable (Taken out f n) := by unfold Taken; infer_instance
def colN (out : List Int) (f : Fd) : Nat := if Taken out f 0 then (if Taken out f 1 then 2 else 1) else 0
theorem colN_le (out : List Int) (f : Fd) : colN out f ≤ 2 := by
  unfold colN; split
  · split <;> omega
  · omega
theorem colN_lt {out : List Int} {f : Fd} {k : Nat} (h : k < colN out f) : Taken out f k := by
  unfold colN at h
  split at h
  · split at h
    · match k, h with
      | 0, _ => assumption
      | 1, _ => assumption
    · match k, h with
      | 0, _ => assumption
  · omega
theorem colN_free {out : List Int} {f : Fd} : ¬ Taken out f (colN out f) := by
  unfold colN
  split
  · split
    · rename_i h0 h1
      intro h2
      unfold Taken at h0 h1 h2
      have e0 : ((2 : Nat) : Int) = 2 := rfl
      rw [e0] at h2
      omega
    · assumption
  · assumption
def colStep (out : List Int) (f : Fd) : List Int := out.set f.V.toNat (colN out f)
def colL (n : Nat) (fs : List Fd) : List Int := fs.foldr (fun f out => colStep out f) (List.replicate n 0)
theorem colL_length (n : Nat) (fs : List Fd) : (colL n fs).length = n := by
  induction fs with
  | nil => simp [colL]
  | cons f fs ih => simp only [colL, List.foldr_cons, colStep, List.length_set] at ih ⊢; exact ih
theorem colL_lt (n : Nat) (fs : List Fd) : ∀ x ∈ colL n fs, x = 0 ∨ x = 1 ∨ x = 2 := by
  induction fs with
  | nil => intro x hx; simp only [colL, List.foldr_nil, List.mem_replicate] at hx; exact .inl hx.2
  | cons f fs ih =>
    intro x hx
    simp only [colL, List.foldr_cons, colStep] at ih hx
    rcases List.mem_or_eq_of_mem_set hx with h | rfl
    · exact ih x h
    · have := colN_le (List.foldr (fun f out => out.set f.V.toNat (colN out f)) (List.replicate n 0) fs) f
      omega
theorem colL_step (n : Nat) (fs : List Fd) (k : Nat) (h : k < fs.length) : colL n (fs.drop k) = colStep (colL n (fs.drop (k + 1))) fs[k] := by
  rw [List.drop_eq_getElem_cons h]
  rfl

/-- What ThreeColours returns. -/
def ColS (g : List (List Int)) (ys : List Int) : Prop := (SerS g ∧ ∃ fs l, FoldedS g fs l ∧ ys = colL g.length fs) ∨ (¬ SerS g ∧ ys = [])

end Go.Proofs.YtiooindlpinjhaaDoor
