/- Walk: the reference folds as long as it can. -/
import Derived.Test.YtfokiijcpkhllaaDoorDsQ11
namespace Go.Proofs.YtfokiijcpkhllaaDoor
open Go.RowKit

theorem ty_folds : SlTy Tryd.prog 39 89 (.agg #[.int .i64 0, .int .i64 0, .int .i64 0]) 3 24 := ⟨Tryd.underlying39, by kernel_rfl, rfl, by decide, by decide⟩

/-- The cells of some folds. -/
def fdCells (l : List Fd) : List Value := l.flatMap fun f => [.int .i64 f.V, .int .i64 f.A, .int .i64 f.B]
theorem fdCells_snoc (l : List Fd) (f : Fd) : fdCells (l ++ [f]) = fdCells l ++ [.int .i64 f.V, .int .i64 f.A, .int .i64 f.B] := by simp [fdCells]
theorem fdCells_length (l : List Fd) : (fdCells l).length = l.length * 3 := by
  induction l with
  | nil => rfl
  | cons f l ih => simp only [fdCells, List.flatMap_cons, List.length_append, List.length_cons, List.length_nil] at ih ⊢; omega

theorem ownsRow_empty2 (w : World) (o1 o2 : Obj) (E : TypeId) (size base : Nat) (hb : base ≤ w.heap.size + 1 + 1) : (((w.alloc o1).alloc o2).alloc (.cells #[] E)).ownsRow base E size (.slice (some ⟨w.heap.size + 1 + 1, 0, none⟩) 0 0) 0 [] := by
  have hs : ((w.alloc o1).alloc o2).heap.size = w.heap.size + 1 + 1 := by rw [size_alloc, size_alloc]
  have := World.ownsRow_lit ((w.alloc o1).alloc o2) #[] 0 (base := base) (e := E) (size := size) (by omega) (Nat.zero_le _) (by simp)
  rwa [hs] at this

theorem set3_below {B f : Nat} (w : World) (a b c : Value) (h : B ≤ f) : Below B w (((w.setCell ⟨f, 0, none⟩ a).setCell ⟨f, 1, none⟩ b).setCell ⟨f, 2, none⟩ c) :=
  (((Below.refl _ _).setCell h a).setCell h b).setCell h c
theorem set3_cells {f : Nat} {w : World} {x y z : Value} (a b c : Value) (hx : w.cell? ⟨f, 0, none⟩ = some x) (hy : w.cell? ⟨f, 1, none⟩ = some y) (hz : w.cell? ⟨f, 2, none⟩ = some z) :
    (((w.setCell ⟨f, 0, none⟩ a).setCell ⟨f, 1, none⟩ b).setCell ⟨f, 2, none⟩ c).cell? ⟨f, 0, none⟩ = some a ∧ (((w.setCell ⟨f, 0, none⟩ a).setCell ⟨f, 1, none⟩ b).setCell ⟨f, 2, none⟩ c).cell? ⟨f, 1, none⟩ = some b ∧
    (((w.setCell ⟨f, 0, none⟩ a).setCell ⟨f, 1, none⟩ b).setCell ⟨f, 2, none⟩ c).cell? ⟨f, 2, none⟩ = some c := by
  have y1 : (w.setCell ⟨f, 0, none⟩ a).cell? ⟨f, 1, none⟩ = some y := by rw [World.cell?_setCell_other _ _ _ _ (by simp)]; exact hy
  have z1 : ((w.setCell ⟨f, 0, none⟩ a).setCell ⟨f, 1, none⟩ b).cell? ⟨f, 2, none⟩ = some z := by rw [World.cell?_setCell_other _ _ _ _ (by simp), World.cell?_setCell_other _ _ _ _ (by simp)]; exact hz
  refine ⟨?_, ?_, ?_⟩
  · rw [World.cell?_setCell_other _ _ _ _ (by simp), World.cell?_setCell_other _ _ _ _ (by simp), World.cell?_setCell_same _ _ _ hx]
  · rw [World.cell?_setCell_other _ _ _ _ (by simp), World.cell?_setCell_same _ _ _ y1]
  · rw [World.cell?_setCell_same _ _ _ z1]

/-- What the loop carries. -/
structure AllInv (w wr : World) (g0 : List (List Int)) (left0 : List Int) (n k : Nat) (lv ov gu : Value) (gg : List (List Int)) (lf : List Int) (os : List Fd) : Prop where
  kl : k ≤ lf.length
  bel : Below w.heap.size w wr
  sz : w.heap.size + 2 ≤ wr.heap.size
  left : Nums wr 2 .i64 lv lf
  own : wr.ownsRow (w.heap.size + 2) 89 3 ov os.length (fdCells os)
  box : Box wr w.heap.size 29 gu
  box6 : Box wr (w.heap.size + 1) 29 (.slice none 0 0)
  gr : Rws wr 32 2 gu gg
  gl : gg.length = n
  on : FoldsOn g0 left0 os lf gg
  bad : ∀ j (hj : j < lf.length), j < k → 2 < (row gg (lf[j]).toNat).length
  inn : ∀ x ∈ lf, 0 ≤ x ∧ x < n
  cnt : os.length + lf.length ≤ 16
  rl : ∀ j, j < n → (row gg j).length ≤ 16 + 2 * os.length

theorem AllInv.next {w wr W : World} {g0 : List (List Int)} {left0 : List Int} {n k : Nat} {lv ov gu : Value} {gg : List (List Int)} {lf : List Int} {os : List Fd} (h : AllInv w wr g0 left0 n k lv ov gu gg lf os)
    (hb : Below wr.heap.size wr W) (hk : k < lf.length) (hbad : 2 < (row gg (lf[k]).toNat).length) : AllInv w W g0 left0 n (k + 1) lv ov gu gg lf os where
  kl := hk
  bel := h.bel.trans (hb.mono h.bel.size)
  sz := by have := h.sz; have := hb.size; omega
  left := h.left.below hb
  own := ownsRow_below h.own hb
  box := h.box.keep hb
  box6 := h.box6.keep hb
  gr := h.gr.below hb
  gl := h.gl
  on := h.on
  bad := fun j hj hjk => by
    by_cases e : j = k
    · subst e; exact hbad
    · exact h.bad j hj (by omega)
  inn := h.inn
  cnt := h.cnt
  rl := h.rl

theorem AllInv.fold {w wr W5 w7 w8 w9 : World} {g0 : List (List Int)} {left0 : List Int} {n k b7 c7 : Nat} {lv ov gu u8 lv9 : Value} {gg : List (List Int)} {lf : List Int} {os : List Fd} {f : Fd} (h : AllInv w wr g0 left0 n k lv ov gu gg lf os)
    (hb5 : Below wr.heap.size wr W5) (hk : k < lf.length) (h2 : (row gg (lf[k]).toNat).length ≤ 2) (hf : f = atRow lf[k] (row gg (lf[k]).toNat))
    (hown7 : w7.ownsRow (w.heap.size + 2) 89 3 (.slice (some ⟨b7, 0, none⟩) (os.length + 1) c7) (os.length + 1) (fdCells os ++ [.int .i64 f.V, .int .i64 f.A, .int .i64 f.B])) (hg7 : W5.grownBy w7 ov.ownBlock)
    (hb8 : Below w7.heap.size w7 w8) (hr8 : Rws w8 32 2 u8 (foldG gg f)) (hb9 : Below (w8.setCell ⟨w.heap.size, 0, none⟩ u8).heap.size (w8.setCell ⟨w.heap.size, 0, none⟩ u8) w9)
    (hl9 : Nums w9 2 .i64 lv9 (lessL lf lf[k])) : AllInv w w9 g0 left0 n 0 lv9 (.slice (some ⟨b7, 0, none⟩) (os.length + 1) c7) u8 (foldG gg f) (lessL lf lf[k]) (os ++ [f]) := by
  have hown5 := ownsRow_below h.own hb5
  have s5 := hb5.size
  have s7 := hg7.size
  have s8 := hb8.size
  have s0 := h.sz
  have hbox7 : Box w7 w.heap.size 29 gu := (h.box.keep hb5).grown hg7 fun e => by have := (h.own.lt _ e.symm).1; omega
  have hbox67 : Box w7 (w.heap.size + 1) 29 (.slice none 0 0) := (h.box6.keep hb5).grown hg7 fun e => by have := (h.own.lt _ e.symm).1; omega
  have hbox8 := hbox7.keep hb8
  have hb57 : Below (w.heap.size + 2) W5 w7 := below_grown (Below.refl _ _) hown5 hg7 (Nat.le_refl _) (by omega)
  have hb9' : Below w.heap.size w8 w9 := ((Below.refl _ _).setCell (Nat.le_refl _) _).trans (hb9.mono (by show w.heap.size ≤ (w8.setCell _ _).heap.size; simp [World.setCell]; omega))
  exact
    { kl := Nat.zero_le _
      bel := ((h.bel.trans (hb5.mono (by omega))).trans (hb57.mono (by omega))).trans ((hb8.mono (by omega)).trans hb9')
      sz := by have := hb9'.size; omega
      left := hl9
      own := by
        have e : (os ++ [f]).length = os.length + 1 := by simp
        rw [fdCells_snoc, e]
        exact ownsRow_below (ownsRow_setBox (ownsRow_below hown7 hb8) hbox8 (by decide) _) hb9
      box := (hbox8.set u8).keep hb9
      box6 := ((hbox67.keep hb8).setOther (by show w.heap.size + 1 ≠ w.heap.size; omega) _).keep hb9
      gr := (hr8.setBox hbox8 (by decide) (by decide) _).below hb9
      gl := by rw [foldG_length]; exact h.gl
      on := by rw [hf]; exact foldsOn_step h.on hk h.bad h2
      bad := fun j hj hjk => by omega
      inn := fun x hx => h.inn x (mem_lessL.1 hx).1
      cnt := by have := h.cnt; have := lessL_length_lt (List.getElem_mem hk); simp; omega
      rl := fun j hj => by
        have h1 := h.rl j hj
        have h3 := foldRow_length gg f j
        rw [row_foldG gg f (by rw [h.gl]; exact hj)]
        simp; omega }

set_option maxRecDepth 100000 in
set_option maxHeartbeats 4000000 in
theorem l20All_any (v lv0 : Value) (g0 : List (List Int)) (left0 : List Int) (hn0 : g0.length ≤ 16) (hll : left0.length ≤ 16) (hin : ∀ x ∈ left0, 0 ≤ x ∧ x < g0.length) (hrl : ∀ j, j < g0.length → (row g0 j).length ≤ 16) (w : World)
    (hg : Gr w v g0) (hlv : Nums w 2 .i64 lv0 left0) :
    Calls Tryd.prog 100 #[v, lv0] w fun e w' => ∃ (ov lv gu : Value) (fs : List Fd) (l : List Int) (g' : List (List Int)), e = .returned (.tuple #[ov, lv, .agg #[gu]]) ∧ Folds g0 left0 fs l g' ∧
      w'.ownsRow w.heap.size 89 3 ov fs.length (fdCells fs) ∧ Nums w' 2 .i64 lv l ∧ Rws w' 32 2 gu g' ∧ fs.length ≤ 16 ∧ g'.length = g0.length ∧ (∀ j, j < g0.length → (row g' j).length ≤ 1000) ∧ l.length ≤ 16 ∧ (∀ x ∈ l, 0 ≤ x ∧ x < g0.length) ∧ Below w.heap.size w w' := by
  obtain ⟨u, rfl, hr⟩ := hg
  obtain ⟨p, c, rfl, _, _, _⟩ := hr.shape
  obtain ⟨lp, lc, rfl, _⟩ := id hlv
  have START : Hid (∀ o3, AllInv w (((w.alloc (.cells #[.slice p g0.length c] 29)).alloc (.cells #[.slice none 0 0] 29)).alloc (.cells #[] 89)) g0 left0 g0.length 0 (.slice lp left0.length lc) (.slice (some ⟨w.heap.size + 1 + 1, 0, none⟩) 0 0) (.slice p g0.length c) g0 left0 [] ∨ o3 = (0 : Nat)) := fun _ => .inl
    { kl := Nat.zero_le _, bel := below_alloc3 w _ _ _, sz := by rw [size_alloc, size_alloc, size_alloc]; omega, left := hlv.below (below_alloc3 w _ _ _), own := ownsRow_empty2 _ _ _ _ _ _ (by omega)
      box := ((Box.new w _ _).alloc _).alloc _, box6 := by have := (Box.new (w.alloc (.cells #[.slice p g0.length c] 29)) (.slice none 0 0) 29).alloc (.cells #[] 89); rwa [size_alloc] at this
      gr := hr.below (below_alloc3 w _ _ _), gl := rfl, on := foldsOn_start _ _, bad := fun j hj h => by omega, inn := hin, cnt := by simpa using hll, rl := fun j hj => by have := hrl j hj; simp; omega }
  have Hn0 := Lib.hid hn0
  clear hr hlv hin hrl hll hn0
  go_enter Tryd.func100, Tryd.ntmps100
  go_wp2
  go_loopw [1, 7, 8] (fun lv ov i wr => ∃ (k : Nat) (gu : Value) (gg : List (List Int)) (lf : List Int) (os : List Fd), i = .int .i64 k ∧ AllInv w wr g0 left0 g0.length k lv ov gu gg lf os ∧ (∃ lp lc, lv = .slice lp lf.length lc))
    (fun lv _ i _ => (match lv with | .slice _ n _ => n * 20 + (n - (intOf i).toNat) | _ => 0))
  case atStart => exact ⟨0, _, _, _, _, rfl, (START.out 1).resolve_right (by decide), _, _, rfl⟩
  case round =>
    clear START
    obtain ⟨k, gu, gg, lf, os, rfl, hinv, lp, lc, rfl⟩ := hrel
    have Hinv := Lib.hid hinv
    have hkl := hinv.kl
    have hcnt := hinv.cnt
    have hbox := hinv.box.cell
    have hbel := hinv.bel
    have hsz := hinv.sz
    obtain ⟨gp, gc, hgu, _⟩ := hinv.gr.shape
    have hgl := hinv.gl
    subst hgu
    rw [hgl] at hbox
    have Hgl := Lib.hid hgl
    clear hgl
    by_cases hlt : k < lf.length
    · obtain ⟨m, hm, hmn⟩ : ∃ m : Nat, lf[k] = (m : Int) ∧ m < g0.length := by
        have := hinv.inn _ (List.getElem_mem hlt)
        exact ⟨(lf[k]).toNat, by omega, by omega⟩
      obtain ⟨lb, lo, rfl, hcl⟩ := hinv.left.get hlt
      rw [hm] at hcl
      have hgr : Gr wr (.agg #[.slice gp g0.length gc]) gg := ⟨_, rfl, by have := hinv.gr; rwa [Hgl.out] at this⟩
      have hmn' : m < gg.length := by rw [Hgl.out]; exact hmn
      have e0 : (0 : Int) ≤ (k : Int) := by omega
      have e1 : (k : Int) < (lf.length : Int) := by omega
      have Hm := Lib.hid hm
      clear hm hinv
      by_cases h2 : (row gg m).length ≤ 2
      · obtain ⟨⟨V, A, B⟩, hf⟩ : ∃ f : Fd, f = atRow (m : Int) (row gg m) := ⟨_, rfl⟩
        have hV : V = (m : Int) := by have := congrArg Fd.V hf; simpa [atRow] using this
        have Hf := Lib.hid hf
        have H2 := Lib.hid h2
        clear hf h2
        have HV := Lib.hid hV
        clear hV
        have n1 : w.heap.size ≠ wr.heap.size := by omega
        have n2 : lb ≠ wr.heap.size := by have := World.block_lt_of_cell? _ _ hcl; simp at this; omega
        have hlbl : lb < wr.heap.size := World.block_lt_of_cell? _ _ hcl
        have n3 := fun e => n1 (Eq.symm e)
        have n4 := fun e => n2 (Eq.symm e)
        go_upto_region 5 with (fail)
        go_cut [9, 10] (fun s9 s10 wx => ∃ fb, s9 = .pointer (some ⟨fb, 0, none⟩) ∧ s10 = .bool true ∧ wr.heap.size ≤ fb ∧ Below wr.heap.size wr wx ∧ wx.cell? ⟨fb, 0, none⟩ = some (.int .i64 V) ∧ wx.cell? ⟨fb, 1, none⟩ = some (.int .i64 A) ∧ wx.cell? ⟨fb, 2, none⟩ = some (.int .i64 B))
        case first =>
          go_region_held3 (fun w' => w'.cell? ⟨w.heap.size, 0, none⟩ = some (.slice gp g0.length gc) ∧ w'.cell? ⟨lb, lo + k, none⟩ = some (.int .i64 m))
            (first | go_keep | exact ⟨q1, q2⟩ | exact ⟨(set3_below (f := wr.heap.size) w5 _ _ _ (Nat.le_refl _)).at (by omega) q1, (set3_below (f := wr.heap.size) w5 _ _ _ (Nat.le_refl _)).at hlbl q2⟩)
            (first | (go_at_call 67; refine (l20At_yes _ gg m hmn' _ (hgr.below (below_dN (Below.refl _ _) 1)) H2.out V A B Hf.out).mono ?_; rintro e w5 ⟨rfl, hb5⟩; have hb5' : Below wr.heap.size wr w5 := ⟨hb5.os, hb5.tape, hb5.output, hb5.size, hb5.block⟩; have q1 := hb5'.at' hbox; have q2 := hb5'.at' hcl) | (go_at_call 67; refine (l20At_yes _ gg m hmn' _ (hgr.below (below_dN (below_alloc _ _) 1)) H2.out V A B Hf.out).mono ?_; rintro e w5 ⟨rfl, hb5⟩; have hb5' : Below wr.heap.size wr w5 := (below_dN (below_alloc wr (.cells #[.int .i64 0, .int .i64 0, .int .i64 0] 89)) 1).trans (hb5.mono (below_alloc wr _).size); have q1 := hb5'.at' hbox; have q2 := hb5'.at' hcl; obtain ⟨z0, z1, z2⟩ := cell_new3 wr (.int .i64 0) (.int .i64 0) (.int .i64 0) 89; have y0 := hb5.at' z0; have y1 := hb5.at' z1; have y2 := hb5.at' z2; have yf : ∀ i, w5.frozen? ⟨wr.heap.size, i, none⟩ = false := fun i => (hb5.frozen (p := ⟨wr.heap.size, i, none⟩) (by show wr.heap.size < (wr.alloc _).heap.size; rw [size_alloc]; omega)).trans (frozen_new wr _ _ i)))
          · go_wp2
            go_meet
            obtain ⟨z0, z1, z2⟩ := cell_new3 w5 (.int .i64 V) (.int .i64 A) (.int .i64 B) 89
            exact ⟨w5.heap.size, rfl, rfl, hb5'.size, hb5'.alloc hb5'.size _, z0, z1, z2⟩
          · go_wp2
            go_meet
            obtain ⟨x0, x1, x2⟩ := set3_cells (.int .i64 V) (.int .i64 A) (.int .i64 B) y0 y1 y2
            exact ⟨wr.heap.size, rfl, rfl, Nat.le_refl _, hb5'.trans (set3_below _ _ _ _ (Nat.le_refl _)), x0, x1, x2⟩
        case rest =>
          clear n1 n2 n3 n4 hlbl hgr hbox hcl
          obtain ⟨fb, rfl, rfl, hfb, hbc, f0, f1, f2⟩ := hcut
          have hinv := Hinv.out
          have hownc := ownsRow_below hinv.own hbc
          have hboxc := hinv.box.keep hbc
          rw [Hgl.out] at hboxc
          have hgrc := hinv.gr.below hbc
          rw [Hgl.out] at hgrc
          have hleftc := hinv.left.below hbc
          have hszc := hbc.size
          have hne : some fb ≠ u7.ownBlock := fun e => by have := (hinv.own.lt _ e.symm).2; omega
          have hneb : some w.heap.size ≠ u7.ownBlock := fun e => by have := (hinv.own.lt _ e.symm).1; omega
          have hrl := hinv.rl
          have hfbn : fb ≠ w.heap.size := by omega
          have hfbn' : w.heap.size ≠ fb := by omega
          have K1 := Lib.hid (show ∀ j, j < gg.length → (row gg j).length ≤ 1000 from fun j hj => by have := hrl j (by rw [← Hgl.out]; exact hj); omega)
          have K2 := Lib.hid (show gg.length ≤ 1000 from by have := Hgl.out; have := Hn0.out; omega)
          have HNE := Lib.hid hne
          have HNEB := Lib.hid hneb
          have HBX := Lib.hid hboxc
          have HGR := Lib.hid hgrc
          have HLF := Lib.hid hleftc
          obtain ⟨bx1, bx2, bx3, _⟩ := hboxc
          have hos : os.length < 1000000000 := by omega
          have hb2c : w.heap.size + 2 ≤ wc.heap.size := by omega
          clear hinv hgrc hleftc hne hneb hrl
          go_wp2_with (first
            | (at_builtin; refine wpList_appE ty_folds rfl rfl rfl hownc rfl rfl (by simp [Value.oneCell']) hos hb2c ?_; intro b7 c7 w7 hown7 hg7 _ _; have e0 := hg7.cell f0 HNE.out; have e1' := hg7.cell f1 HNE.out; have e2' := hg7.cell f2 HNE.out; have HB7 := Lib.hid (HBX.out.grown hg7 HNEB.out); obtain ⟨bx7, bx7f, _, _⟩ := HB7.out; have HG7 := Lib.hid (HGR.out.other hownc hg7 (by decide) (by decide)); have HL7 := Lib.hid (HLF.out.other hownc hg7 (by decide)))
            | (go_at_call 68; refine (l20Fold_any _ gg ⟨V, A, B⟩ K2.out K1.out _ ⟨_, rfl, HG7.out⟩).mono ?_; rintro e w8 ⟨_, rfl, hr8, ⟨p8, c8, rfl⟩, hb8⟩; have HB8 := Lib.hid (HB7.out.keep hb8); obtain ⟨bx8, bx8f, _, _⟩ := HB8.out; have y0 := hb8.at' e0; have HR8 := Lib.hid hr8; have HL8 := Lib.hid ((HL7.out.below hb8).setBox HB8.out (by decide) (.slice p8 gg.length c8)); clear hr8)
            | (go_at_call 69; refine (l19Less_any _ _ V _ HL8.out).mono ?_; rintro e w9 ⟨lv9, rfl, hown9, hb9⟩))
          go_roundw
          case rel =>
            have hm := Hm.out
            have hf : (⟨V, A, B⟩ : Fd) = atRow lf[k] (row gg (lf[k]).toNat) := by rw [hm, Int.toNat_natCast]; exact Hf.out
            have hl9 : Nums w9 2 .i64 lv9 (lessL lf lf[k]) := by
              rw [hm, ← HV.out]
              exact Nums.of_owns hown9 rfl (by have := lessL_length lf V; omega)
            have := Hinv.out.fold hbc hlt (by rw [hm, Int.toNat_natCast]; exact H2.out) hf hown7 hg7 hb8 HR8.out hb9 hl9
            obtain ⟨lp9, lc9, he9, _⟩ := id hl9
            exact ⟨0, _, _, _, _, rfl, this, lp9, lc9, he9⟩
          case measure =>
            have hm := Hm.out
            have hl9 : Nums w9 2 .i64 lv9 (lessL lf lf[k]) := by
              rw [hm, ← HV.out]
              exact Nums.of_owns hown9 rfl (by have := lessL_length lf V; omega)
            obtain ⟨lp9, lc9, he9, _⟩ := id hl9
            have := lessL_length_lt (List.getElem_mem hlt)
            subst he9
            simp [intOf]
            omega
      · have H2 := Lib.hid h2
        clear h2
        have n1 : w.heap.size ≠ wr.heap.size := by omega
        have n2 : lb ≠ wr.heap.size := by have := World.block_lt_of_cell? _ _ hcl; simp at this; omega
        have hlbl : lb < wr.heap.size := World.block_lt_of_cell? _ _ hcl
        have n3 := fun e => n1 (Eq.symm e)
        have n4 := fun e => n2 (Eq.symm e)
        go_upto_region 5 with (fail)
        go_cut [9, 10] (fun _ s10 wx => s10 = .bool false ∧ Below wr.heap.size wr wx)
        case first =>
          go_region_held3 (fun w' => w'.cell? ⟨w.heap.size, 0, none⟩ = some (.slice gp g0.length gc) ∧ w'.cell? ⟨lb, lo + k, none⟩ = some (.int .i64 m))
            (first | go_keep | exact ⟨q1, q2⟩ | exact ⟨(set3_below (f := wr.heap.size) w5 _ _ _ (Nat.le_refl _)).at (by omega) q1, (set3_below (f := wr.heap.size) w5 _ _ _ (Nat.le_refl _)).at hlbl q2⟩)
            (first | (go_at_call 67; refine (l20At_no _ gg m hmn' _ (hgr.below (below_dN (Below.refl _ _) 1)) H2.out).mono ?_; rintro e w5 ⟨rfl, hb5⟩; have hb5' : Below wr.heap.size wr w5 := ⟨hb5.os, hb5.tape, hb5.output, hb5.size, hb5.block⟩; have q1 := hb5'.at' hbox; have q2 := hb5'.at' hcl) | (go_at_call 67; refine (l20At_no _ gg m hmn' _ (hgr.below (below_dN (below_alloc _ _) 1)) H2.out).mono ?_; rintro e w5 ⟨rfl, hb5⟩; have hb5' : Below wr.heap.size wr w5 := (below_dN (below_alloc wr (.cells #[.int .i64 0, .int .i64 0, .int .i64 0] 89)) 1).trans (hb5.mono (below_alloc wr _).size); have q1 := hb5'.at' hbox; have q2 := hb5'.at' hcl; obtain ⟨z0, z1, z2⟩ := cell_new3 wr (.int .i64 0) (.int .i64 0) (.int .i64 0) 89; have y0 := hb5.at' z0; have y1 := hb5.at' z1; have y2 := hb5.at' z2; have yf : ∀ i, w5.frozen? ⟨wr.heap.size, i, none⟩ = false := fun i => (hb5.frozen (p := ⟨wr.heap.size, i, none⟩) (by show wr.heap.size < (wr.alloc _).heap.size; rw [size_alloc]; omega)).trans (frozen_new wr _ _ i)))
          · go_wp2
            go_meet
            exact ⟨rfl, hb5'.alloc hb5'.size _⟩
          · go_wp2
            go_meet
            exact ⟨rfl, hb5'.trans (set3_below _ _ _ _ (Nat.le_refl _))⟩
        case rest =>
          clear n1 n2 n3 n4 hlbl hgr hbox hcl
          obtain ⟨rfl, hbc⟩ := hcut
          go_wp2
          go_roundw
          case rel => exact ⟨k + 1, _, _, _, _, by go_num, Hinv.out.next hbc hlt (by have := H2.out; rw [Hm.out, Int.toNat_natCast]; omega), _, _, rfl⟩
          case measure => simp [intOf]; omega
    · have hke : k = lf.length := by omega
      have hstop := foldsOn_stop hinv.on (fun j hj => hinv.bad j hj (by omega))
      have Hstop := Lib.hid hstop
      obtain ⟨b6c, b6f, _, _⟩ := hinv.box6
      clear hinv hstop
      go_wp2
      go_region
      all_goals (try go_wp2)
      all_goals
        refine bodyPost_ret (v := .tuple #[u7, .slice lp lf.length lc, .agg #[.slice gp g0.length gc]]) (by simp [results, Tryd.results100, go_sem, b6c]) rfl ?_
        have hinv := Hinv.out
        have hgr := hinv.gr
        rw [Hgl.out] at hgr
        have hb6 := hinv.box6
        refine ⟨_, _, _, os, lf, gg, rfl, Hstop.out, ?_, ?_, ?_, by omega, Hgl.out, fun j hj => ?_, by omega, hinv.inn, ?_⟩
        · exact ownsRow_base (ownsRow_setBox hinv.own hb6 (by decide) _) (by omega)
        · exact hinv.left.setBox hb6 (by decide) _
        · exact hgr.setBox hb6 (by decide) (by decide) _
        · have := hinv.rl j hj; omega
        · have h := hinv.bel.setCell (p := ⟨w.heap.size + 1, 0, none⟩) (by show w.heap.size ≤ w.heap.size + 1; omega) (.slice gp g0.length gc)
          exact ⟨h.os, h.tape, h.output, h.size, h.block⟩

end Go.Proofs.YtfokiijcpkhllaaDoor
