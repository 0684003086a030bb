/- Walks: the reference prunes. -/
import Derived.Test.YtdkmnmnncccgaaaDoorMdQ25
import Derived.Test.YtdkmnmnncccgaaaDoorMdQ26
namespace Go.Proofs.YtdkmnmnncccgaaaDoor
open Go.RowKit

theorem exists_min {P : Int → Prop} {lo : Int} (hlo : ∀ b, P b → lo ≤ b) : ∀ (n : Nat), (∃ b, P b ∧ (b - lo).toNat ≤ n) → ∃ b, P b ∧ ∀ c, c < b → ¬ P c
  | 0, ⟨b, hb, hn⟩ => ⟨b, hb, fun c hc h => by have := hlo c h; have := hlo b hb; omega⟩
  | n + 1, ⟨b, hb, hn⟩ => by
    by_cases h : ∃ c, c < b ∧ P c
    · obtain ⟨c, hc, hp⟩ := h
      exact exists_min hlo n ⟨c, hp, by have := hlo c hp; have := hlo b hb; omega⟩
    · exact ⟨b, hb, fun c hc hp => h ⟨c, hc, hp⟩⟩
theorem prS_ex {g : List (List Int)} {L : List Int} {v : Int} (hL : ∀ x ∈ L, 0 ≤ x) : ∃ r, PrS g L v r := by
  by_cases h : ∃ k b, GoP g L v b k
  · obtain ⟨k0, b0, h0⟩ := h
    obtain ⟨k, ⟨b1, hb1⟩, hk⟩ := exists_min (P := fun k => ∃ b, GoP g L v b k) (lo := 1) (fun k ⟨b, hb⟩ => (goP_kind hb).1) _ ⟨k0, ⟨b0, h0⟩, Nat.le_refl _⟩
    obtain ⟨b, hb, hbm⟩ := exists_min (P := fun b => GoP g L v b k) (lo := -1) (fun b hb => by
      rcases hb with ⟨_, h, _⟩ | ⟨h, _⟩
      · omega
      · have := hL b h; omega) _ ⟨b1, hb1, Nat.le_refl _⟩
    refine ⟨some ⟨v, b, k⟩, rfl, hb, ?_⟩
    rintro k' b' (h | ⟨h, h2⟩) hgo
    · exact hk k' h ⟨b', hgo⟩
    · simp only at h h2
      subst h
      exact hbm b' h2 hgo
  · exact ⟨none, fun k b hb => h ⟨k, b, hb⟩⟩

theorem l18At_yes (v lv : Value) (g : List (List Int)) (L : List Int) (hok : GOk g) (hL : ∀ x ∈ L, 0 ≤ x ∧ x < g.length) (hri : L.Pairwise (· < ·)) (hll : L.length ≤ 16) (k : Nat) (hk : k < g.length) (hkL : (k : Int) ∈ L) (w : World) (hg : Gr w v g) (hn : Nums w 2 .i64 lv L) {V B K : Int} (hr : PrS g L k (some ⟨V, B, K⟩)) :
    Calls Tryd.prog 48 #[v, lv, .int .i64 k] w fun e w' => e = .returned (.tuple #[.agg #[.int .i64 V, .int .i64 B, .int .i64 K], .bool true]) ∧ Below w.heap.size w w' :=
  (l18At_any v lv g L hok hL hri hll k hk hkL w hg hn).mono fun e w' ⟨r, h1, h2, h3⟩ => by
    obtain rfl := prS_det h1 hr
    exact ⟨h2, h3⟩
theorem l18At_no (v lv : Value) (g : List (List Int)) (L : List Int) (hok : GOk g) (hL : ∀ x ∈ L, 0 ≤ x ∧ x < g.length) (hri : L.Pairwise (· < ·)) (hll : L.length ≤ 16) (k : Nat) (hk : k < g.length) (hkL : (k : Int) ∈ L) (w : World) (hg : Gr w v g) (hn : Nums w 2 .i64 lv L) (hr : PrS g L k none) :
    Calls Tryd.prog 48 #[v, lv, .int .i64 k] w fun e w' => e = .returned (.tuple #[.agg #[.int .i64 0, .int .i64 0, .int .i64 0], .bool false]) ∧ Below w.heap.size w w' :=
  (l18At_any v lv g L hok hL hri hll k hk hkL w hg hn).mono fun e w' ⟨r, h1, h2, h3⟩ => by
    obtain rfl := prS_det h1 hr
    exact ⟨h2, h3⟩

/-- What the loop carries. -/
structure PruInv (w wr : World) (g : List (List Int)) (L0 : List Int) (k : Nat) (lv ov u : Value) (lf : List Int) (os : List Pr) : Prop where
  kl : k ≤ lf.length
  bel : Below w.heap.size w wr
  sz : w.heap.size + 1 ≤ wr.heap.size
  left : Nums wr 2 .i64 lv lf
  own : wr.ownsRow (w.heap.size + 1) 67 3 ov os.length (prCells os)
  box : Box wr w.heap.size 29 u
  on : PrOn g L0 os lf
  bad : ∀ j (hj : j < lf.length), j < k → PrS g lf lf[j] none
  inn : ∀ x ∈ lf, 0 ≤ x ∧ x < g.length
  ris : lf.Pairwise (· < ·)
  cnt : os.length + lf.length ≤ 16

theorem PruInv.next {w wr W : World} {g : List (List Int)} {L0 : List Int} {k : Nat} {lv ov u : Value} {lf : List Int} {os : List Pr} (h : PruInv w wr g L0 k lv ov u lf os)
    (hb : Below wr.heap.size wr W) (hk : k < lf.length) (hbad : PrS g lf lf[k] none) : PruInv w W g L0 (k + 1) lv ov u lf os where
  kl := hk
  bel := h.bel.trans (hb.mono h.bel.size)
  sz := by have := h.sz; have := hb.size; omega
  left := h.left.below hb
  own := ownsRow_below h.own hb
  box := h.box.keep hb
  on := h.on
  bad := fun j hj hjk => by
    by_cases e : j = k
    · subst e; exact hbad
    · exact h.bad j hj (by omega)
  inn := h.inn
  ris := h.ris
  cnt := h.cnt

theorem PruInv.step {w wr wc w7 w9 : World} {g : List (List Int)} {L0 : List Int} {k b7 c7 : Nat} {lv ov u lv9 : Value} {lf : List Int} {os : List Pr} {p : Pr} (h : PruInv w wr g L0 k lv ov u lf os) (hbc : Below wr.heap.size wr wc)
    (hk : k < lf.length) (hp : PrS g lf lf[k] (some p))
    (hown7 : w7.ownsRow (w.heap.size + 1) 67 3 (.slice (some ⟨b7, 0, none⟩) (os.length + 1) c7) (os.length + 1) (prCells os ++ [.int .i64 p.V, .int .i64 p.B, .int .i64 p.K])) (hg7 : wc.grownBy w7 ov.ownBlock)
    (hb9 : Below w7.heap.size w7 w9) (hl9 : Nums w9 2 .i64 lv9 (lessL lf lf[k])) :
    PruInv w w9 g L0 0 lv9 (.slice (some ⟨b7, 0, none⟩) (os.length + 1) c7) u (lessL lf lf[k]) (os ++ [p]) := by
  have hownc := ownsRow_below h.own hbc
  have hb7 : Below (w.heap.size + 1) wc w7 := below_grown (Below.refl _ _) hownc hg7 (Nat.le_refl _) (by have := h.sz; have := hbc.size; omega)
  have hs := h.sz
  have hsc := hbc.size
  have hs7 := hg7.size
  have hs9 := hb9.size
  have hall : Below (w.heap.size + 1) wr w9 := ((hbc.mono (by omega)).trans hb7).trans (hb9.mono (by omega))
  exact { kl := Nat.zero_le _, bel := h.bel.trans (hall.mono (by omega)), sz := by omega, left := hl9
          own := by
            have e : (os ++ [p]).length = os.length + 1 := by simp
            rw [e, prCells_snoc]
            exact ownsRow_below hown7 hb9
          box := h.box.below hall (by omega)
          on := prOn_step h.on hk h.bad hp
          bad := fun j hj hh => by omega
          inn := fun x hx => h.inn x (mem_lessL.1 hx).1
          ris := lessL_rising h.ris _
          cnt := by
            have := h.cnt
            have := lessL_length_lt (List.getElem_mem hk)
            simp; omega }

set_option maxRecDepth 100000 in
set_option maxHeartbeats 4000000 in
theorem l18Prune_any (v lv0 : Value) (g : List (List Int)) (L0 : List Int) (hok : GOk g) (hll : L0.length ≤ 16) (hin : ∀ x ∈ L0, 0 ≤ x ∧ x < g.length) (hri : L0.Pairwise (· < ·)) (w : World)
    (hg : Gr w v g) (hlv : Nums w 2 .i64 lv0 L0) :
    Calls Tryd.prog 27 #[v, lv0] w fun e w' => ∃ (ov lv : Value) (fs : List Pr) (l : List Int), e = .returned (.tuple #[ov, lv]) ∧ Prunes g L0 fs l ∧
      w'.ownsRow w.heap.size 67 3 ov fs.length (prCells fs) ∧ Nums w' 2 .i64 lv l ∧ fs.length ≤ 16 ∧ l.length ≤ 16 ∧ Below w.heap.size w w' := by
  have hg0 := hg
  obtain ⟨u, rfl, hr⟩ := hg
  obtain ⟨p, c, rfl, _, _, _⟩ := hr.shape
  obtain ⟨lp, lc, rfl, _⟩ := id hlv
  have START : Hid (PruInv w ((w.alloc (.cells #[.slice p g.length c] 29)).alloc (.cells #[] 67)) g L0 0 (.slice lp L0.length lc) (.slice (some ⟨w.heap.size + 1, 0, none⟩) 0 0) (.slice p g.length c) L0 []) := Lib.hid
    { kl := Nat.zero_le _, bel := below_alloc2 w _ _, sz := by rw [size_alloc, size_alloc]; omega, left := hlv.below (below_alloc2 w _ _), own := ownsRow_empty' _ _ _ _ _ (by omega)
      box := (Box.new w _ _).alloc _, on := prOn_start _ _, bad := fun j hj h => by omega, inn := hin, ris := hri, cnt := by simpa using hll }
  have HG0 := Lib.hid hg0
  have HOK := Lib.hid hok
  clear hr hlv hin hll hri hg0 hok
  go_enter Tryd.func27, Tryd.ntmps27
  go_wp2
  go_loopw [1, 6, 7] (fun lv ov i wr => ∃ (k : Nat) (lf : List Int) (os : List Pr), i = .int .i64 k ∧ PruInv w wr g L0 k lv ov (.slice p g.length c) lf os ∧ (∃ lp lc, lv = .slice lp lf.length lc))
    (fun lv _ i _ => (match lv with | .slice _ n _ => n * 20 + (n - (intOf i).toNat) | _ => 0))
  case atStart => exact ⟨0, _, _, rfl, START.out, _, _, rfl⟩
  case round =>
    clear START
    obtain ⟨k, lf, os, rfl, hinv, lp, lc, rfl⟩ := hrel
    have Hinv := Lib.hid hinv
    have hkl := hinv.kl
    have hcnt := hinv.cnt
    have hbox := hinv.box.cell
    have hbel := hinv.bel
    have hsz := hinv.sz
    by_cases hlt : k < lf.length
    · obtain ⟨m, hm, hmn⟩ : ∃ m : Nat, lf[k] = (m : Int) ∧ m < g.length := by
        have := hinv.inn _ (List.getElem_mem hlt)
        exact ⟨(lf[k]).toNat, by omega, by omega⟩
      obtain ⟨lb, lo, rfl, hcl⟩ := hinv.left.get hlt
      rw [hm] at hcl
      have HGR := Lib.hid (HG0.out.below hbel)
      have HLF := Lib.hid hinv.left
      have HIN := Lib.hid hinv.inn
      have HRI := Lib.hid hinv.ris
      have HMM : Hid ((m : Int) ∈ lf) := Lib.hid (hm ▸ List.getElem_mem hlt)
      have e0 : (0 : Int) ≤ (k : Int) := by omega
      have e1 : (k : Int) < (lf.length : Int) := by omega
      have hl16 : lf.length ≤ 16 := by omega
      obtain ⟨r, hpr⟩ := prS_ex (g := g) (v := (m : Int)) (fun x hx => (hinv.inn x hx).1)
      have Hm := Lib.hid hm
      clear hm hinv
      have n1 : w.heap.size ≠ wr.heap.size := by omega
      have n2 : lb ≠ wr.heap.size := by have := World.block_lt_of_cell? _ _ hcl; simp at this; omega
      have hlbl : lb < wr.heap.size := World.block_lt_of_cell? _ _ hcl
      have n3 := fun e => n1 (Eq.symm e)
      have n4 := fun e => n2 (Eq.symm e)
      cases r with
      | some f =>
        obtain ⟨V, B, K⟩ := f
        have HPR := Lib.hid hpr
        clear hpr
        go_upto_region 5 with (fail)
        go_cut [8, 9] (fun s9 s10 wx => ∃ fb, s9 = .pointer (some ⟨fb, 0, none⟩) ∧ s10 = .bool true ∧ wr.heap.size ≤ fb ∧ Below wr.heap.size wr wx ∧ wx.cell? ⟨fb, 0, none⟩ = some (.int .i64 V) ∧ wx.cell? ⟨fb, 1, none⟩ = some (.int .i64 B) ∧ wx.cell? ⟨fb, 2, none⟩ = some (.int .i64 K))
        case first =>
          go_region_held3 (fun w' => w'.cell? ⟨w.heap.size, 0, none⟩ = some (.slice p g.length c) ∧ w'.cell? ⟨lb, lo + k, none⟩ = some (.int .i64 m))
            (first | go_keep | exact ⟨q1, q2⟩ | exact ⟨(set3_belowP (f := wr.heap.size) w5 _ _ _ (Nat.le_refl _)).at (by omega) q1, (set3_belowP (f := wr.heap.size) w5 _ _ _ (Nat.le_refl _)).at hlbl q2⟩)
            (first | (go_at_call 48; refine (l18At_yes _ _ g lf HOK.out HIN.out HRI.out hl16 m hmn HMM.out _ (HGR.out.below (below_dN (Below.refl _ _) 1)) (HLF.out.below (below_dN (Below.refl _ _) 1)) HPR.out).mono ?_; rintro e w5 ⟨rfl, hb5⟩; have hb5' : Below wr.heap.size wr w5 := ⟨hb5.os, hb5.tape, hb5.output, hb5.size, hb5.block⟩; have q1 := hb5'.at' hbox; have q2 := hb5'.at' hcl) | (go_at_call 48; refine (l18At_yes _ _ g lf HOK.out HIN.out HRI.out hl16 m hmn HMM.out _ (HGR.out.below (below_dN (below_alloc _ _) 1)) (HLF.out.below (below_dN (below_alloc _ _) 1)) HPR.out).mono ?_; rintro e w5 ⟨rfl, hb5⟩; have hb5' : Below wr.heap.size wr w5 := (below_dN (below_alloc wr (.cells #[.int .i64 0, .int .i64 0, .int .i64 0] 67)) 1).trans (hb5.mono (below_alloc wr _).size); have q1 := hb5'.at' hbox; have q2 := hb5'.at' hcl; have hy := (Box3.new wr (.int .i64 0) (.int .i64 0) (.int .i64 0) 67).keep (show Below _ _ w5 from ⟨hb5.os, hb5.tape, hb5.output, hb5.size, hb5.block⟩); obtain ⟨y0, y1, y2⟩ := hy.cells; have yf := hy.free))
          · go_wp2
            go_meet
            obtain ⟨z0, z1, z2⟩ := (Box3.new w5 (.int .i64 V) (.int .i64 B) (.int .i64 K) 67).cells
            exact ⟨w5.heap.size, rfl, rfl, hb5'.size, hb5'.alloc hb5'.size _, z0, z1, z2⟩
          · go_wp2
            go_meet
            obtain ⟨x0, x1, x2⟩ := (hy.set (.int .i64 V) (.int .i64 B) (.int .i64 K)).cells
            exact ⟨wr.heap.size, rfl, rfl, Nat.le_refl _, hb5'.trans (set3_belowP _ _ _ _ (Nat.le_refl _)), x0, x1, x2⟩
        case rest =>
          clear n1 n2 n3 n4 hlbl hbox hcl
          obtain ⟨fb, rfl, rfl, hfb, hbc, f0, f1, f2⟩ := hcut
          have hownc := ownsRow_below Hinv.out.own hbc
          have HLF2 := Lib.hid (HLF.out.below hbc)
          have hszc := hbc.size
          have hne : some fb ≠ u6.ownBlock := fun e => by have := (Hinv.out.own.lt _ e.symm).2; omega
          have HNE := Lib.hid hne
          have hos : os.length < 1000000000 := by omega
          have hb2c : w.heap.size + 1 ≤ wc.heap.size := by omega
          clear hne
          go_wp2_with (first
            | (at_builtin; refine wpList_appE ty_prunes rfl rfl rfl hownc rfl rfl (by simp [Value.oneCell']) hos hb2c ?_; intro b7 c7 w7 hown7 hg7 _ _; have HL7 := Lib.hid (HLF2.out.other hownc hg7 (by decide)); obtain ⟨_, _, e9, hc7⟩ := HL7.out.get hlt; cases e9; rw [Hm.out] at hc7)
            | (go_at_call 49; refine (l19Less_any _ lf m _ HL7.out).mono ?_; rintro e w9 ⟨lv9, rfl, hown9, hb9⟩))
          have hl9 : Nums w9 2 .i64 lv9 (lessL lf lf[k]) := by
            rw [Hm.out]
            exact Nums.of_owns hown9 rfl (by have := lessL_length lf m; omega)
          obtain ⟨lp9, lc9, he9, _⟩ := id hl9
          go_roundw
          case rel =>
            have := Hinv.out.step hbc hlt (by rw [Hm.out]; exact HPR.out) hown7 hg7 hb9 hl9
            exact ⟨0, _, _, rfl, this, lp9, lc9, he9⟩
          case measure =>
            have := lessL_length_lt (List.getElem_mem hlt)
            subst he9
            simp [intOf]
            omega
      | none =>
        have HPR := Lib.hid hpr
        clear hpr
        go_upto_region 5 with (fail)
        go_cut [8, 9] (fun _ s10 wx => s10 = .bool false ∧ Below wr.heap.size wr wx)
        case first =>
          go_region_held3 (fun w' => w'.cell? ⟨w.heap.size, 0, none⟩ = some (.slice p g.length c) ∧ w'.cell? ⟨lb, lo + k, none⟩ = some (.int .i64 m))
            (first | go_keep | exact ⟨q1, q2⟩ | exact ⟨(set3_belowP (f := wr.heap.size) w5 _ _ _ (Nat.le_refl _)).at (by omega) q1, (set3_belowP (f := wr.heap.size) w5 _ _ _ (Nat.le_refl _)).at hlbl q2⟩)
            (first | (go_at_call 48; refine (l18At_no _ _ g lf HOK.out HIN.out HRI.out hl16 m hmn HMM.out _ (HGR.out.below (below_dN (Below.refl _ _) 1)) (HLF.out.below (below_dN (Below.refl _ _) 1)) HPR.out).mono ?_; rintro e w5 ⟨rfl, hb5⟩; have hb5' : Below wr.heap.size wr w5 := ⟨hb5.os, hb5.tape, hb5.output, hb5.size, hb5.block⟩; have q1 := hb5'.at' hbox; have q2 := hb5'.at' hcl) | (go_at_call 48; refine (l18At_no _ _ g lf HOK.out HIN.out HRI.out hl16 m hmn HMM.out _ (HGR.out.below (below_dN (below_alloc _ _) 1)) (HLF.out.below (below_dN (below_alloc _ _) 1)) HPR.out).mono ?_; rintro e w5 ⟨rfl, hb5⟩; have hb5' : Below wr.heap.size wr w5 := (below_dN (below_alloc wr (.cells #[.int .i64 0, .int .i64 0, .int .i64 0] 67)) 1).trans (hb5.mono (below_alloc wr _).size); have q1 := hb5'.at' hbox; have q2 := hb5'.at' hcl; have hy := (Box3.new wr (.int .i64 0) (.int .i64 0) (.int .i64 0) 67).keep (show Below _ _ w5 from ⟨hb5.os, hb5.tape, hb5.output, hb5.size, hb5.block⟩); obtain ⟨y0, y1, y2⟩ := hy.cells; have yf := hy.free))
          · go_wp2
            go_meet
            exact ⟨rfl, hb5'.alloc hb5'.size _⟩
          · go_wp2
            go_meet
            exact ⟨rfl, hb5'.trans (set3_belowP _ _ _ _ (Nat.le_refl _))⟩
        case rest =>
          clear n1 n2 n3 n4 hlbl hbox hcl
          obtain ⟨rfl, hbc⟩ := hcut
          go_wp2
          go_roundw
          case rel => exact ⟨k + 1, _, _, by go_num, Hinv.out.next hbc hlt (by rw [Hm.out]; exact HPR.out), _, _, rfl⟩
          case measure => simp [intOf]; omega
    · have hke : k = lf.length := by omega
      have hstop := prOn_stop hinv.on (fun j hj => hinv.bad j hj (by omega))
      have Hstop := Lib.hid hstop
      clear hinv hstop
      go_wp2
      go_ret2
      exact ⟨_, _, os, lf, rfl, Hstop.out, ownsRow_base Hinv.out.own (by omega), Hinv.out.left, by omega, by omega, hbel⟩


end Go.Proofs.YtdkmnmnncccgaaaDoor
