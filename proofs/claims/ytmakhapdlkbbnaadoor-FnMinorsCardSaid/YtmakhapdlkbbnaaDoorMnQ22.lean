/- Walk: the program's edges. -/
import Derived.Test.YtmakhapdlkbbnaaDoorMnQ12
import Derived.Test.YtmakhapdlkbbnaaDoorMnQ11
import Derived.Test.YtmakhapdlkbbnaaDoorMnQ21
import Derived.Test.YtmakhapdlkbbnaaDoorMnQ10
import Derived.Test.YtmakhapdlkbbnaaDoorMnQ4
import Derived.Test.YtmakhapdlkbbnaaDoorMnQ19
namespace Go.Proofs.YtmakhapdlkbbnaaDoor
open Go.RowKit

theorem owns_shapeE {w : World} {base : Nat} {E : TypeId} {size n : Nat} {v : Value} {xs : List Value} (h : w.ownsRow base E size v n xs) : ∃ p c, v = .slice p n c := by
  rcases h.2 with ⟨rfl, h0⟩ | ⟨b, c, _, rfl, _⟩
  · exact ⟨none, 0, by rw [h0]⟩
  · exact ⟨_, _, rfl⟩
theorem get_getDP {α : Type} (l : List α) (k : Nat) (d : α) (h : k < l.length) : l[k]? = some (l.getD k d) := by simp [h]

/-- A row of pairs, the outer row the callee's own. -/
def PrsO (w : World) (base : Nat) (ov : Value) (l : List (Nat × Nat)) : Prop :=
  ∃ vals, vals.length = l.length ∧ w.ownsRow base 36 1 ov l.length vals ∧ ∀ j, j < l.length → Nums w 2 .i64 (vals.getD j undef) (row (prsL l) j)
theorem row_prsL {l : List (Nat × Nat)} {j : Nat} (h : j < l.length) : row (prsL l) j = [(l[j].1 : Int), (l[j].2 : Int)] := by simp [row, prsL, h]
theorem PrsO.below {w w' : World} {base : Nat} {ov : Value} {l : List (Nat × Nat)} (h : PrsO w base ov l) (hb : Below w.heap.size w w') : PrsO w' base ov l := by
  obtain ⟨vals, h1, h2, h3⟩ := h
  exact ⟨vals, h1, ownsRow_below h2 hb, fun j hj => (h3 j hj).below hb⟩
theorem PrsO.shape {w : World} {base : Nat} {ov : Value} {l : List (Nat × Nat)} (h : PrsO w base ov l) : ∃ p c, ov = .slice p l.length c := by
  obtain ⟨vals, _, h2, _⟩ := h
  exact owns_shapeE h2
theorem PrsO.base {w : World} {base base' : Nat} {ov : Value} {l : List (Nat × Nat)} (h : PrsO w base ov l) (hb : base' ≤ base) : PrsO w base' ov l := by
  obtain ⟨vals, h1, h2, h3⟩ := h
  exact ⟨vals, h1, ownsRow_base h2 hb, h3⟩
theorem PrsO.nil (w : World) (base : Nat) (hb : base ≤ w.heap.size) : PrsO (w.alloc (.cells #[] 36)) base (.slice (some ⟨w.heap.size, 0, none⟩) 0 0) [] :=
  ⟨[], rfl, ownsRow_base (ownsRow_empty w 36 1) hb, fun j hj => by simp at hj⟩
/-- What is appended. -/
theorem PrsO.snoc {w w' : World} {base : Nat} {ov ov' rv : Value} {l : List (Nat × Nat)} {e : Nat × Nat} {vals : List Value} (hl : vals.length = l.length) (ho : w.ownsRow base 36 1 ov l.length vals) (hr : ∀ j, j < l.length → Nums w 2 .i64 (vals.getD j undef) (row (prsL l) j))
    (ho' : w'.ownsRow base 36 1 ov' (l.length + 1) (vals ++ [rv])) (hg : w.grownBy w' ov.ownBlock) (hn : Nums w 2 .i64 rv [(e.1 : Int), (e.2 : Int)]) : PrsO w' base ov' (l ++ [e]) := by
  refine ⟨vals ++ [rv], by simp [hl], by rw [List.length_append]; exact ho', fun j hj => ?_⟩
  rw [List.length_append] at hj
  by_cases h : j < l.length
  · rw [getD_append_left _ _ _ _ (by omega)]
    have e2 : row (prsL (l ++ [e])) j = row (prsL l) j := by rw [row_prsL (by rw [List.length_append]; omega), row_prsL h]; simp [h]
    rw [e2]
    exact (hr j h).other ho hg (by decide)
  · have hj' : j = l.length := by simp at hj; omega
    subst hj'
    rw [← hl, getD_append_last, hl]
    have e2 : row (prsL (l ++ [e])) l.length = [(e.1 : Int), (e.2 : Int)] := by rw [row_prsL (by rw [List.length_append]; simp)]; simp
    rw [e2]
    exact hn.other ho hg (by decide)
theorem PrsO.get {w : World} {base : Nat} {p : Option Addr} {n c : Nat} {l : List (Nat × Nat)} (h : PrsO w base (.slice p n c) l) {k : Nat} (hk : k < l.length) :
    ∃ b o rp rc, p = some ⟨b, o, none⟩ ∧ w.cell? ⟨b, o + k, none⟩ = some (.slice rp 2 rc) ∧ Nums w 2 .i64 (.slice rp 2 rc) [(l[k].1 : Int), (l[k].2 : Int)] := by
  obtain ⟨vals, h1, h2, h3⟩ := h
  have hn := h3 k hk
  rw [row_prsL hk] at hn
  obtain ⟨rp, rc, hv, _⟩ := id hn.shape
  rcases h2.2 with ⟨_, h0⟩ | ⟨g, cap, _, e, _⟩
  · omega
  · simp only [Value.slice.injEq] at e
    obtain ⟨rfl, rfl, rfl⟩ := e
    have hc := h2.cellAt k (by omega)
    rw [get_getDP vals k undef (by omega), hv] at hc
    rw [hv] at hn
    exact ⟨g, 0, rp, rc, rfl, by rw [Nat.zero_add]; exact hc, hn⟩

def edT (g : List (List Int)) (k t : Nat) : List (Nat × Nat) := (((row g k).take t).filter fun x => decide ((k : Int) < x)).map fun x => (k, x.toNat)
theorem edT_succ {g : List (List Int)} {k t : Nat} (h : t < (row g k).length) : edT g k (t + 1) = if (k : Int) < (row g k)[t] then edT g k t ++ [(k, (row g k)[t].toNat)] else edT g k t := by
  unfold edT
  rw [take_snoc _ t h, List.filter_append]
  split
  · rename_i hc; rw [List.filter_cons_of_pos (by simpa using hc)]; simp
  · rename_i hc; rw [List.filter_cons_of_neg (by simpa using hc)]; simp
theorem edT_len (g : List (List Int)) (k t : Nat) : (edT g k t).length ≤ (row g k).length := by
  simp only [edT, List.length_map]
  exact Nat.le_trans (List.length_filter_le _ _) (by rw [List.length_take]; omega)
theorem edT_end {g : List (List Int)} (hg : GOk g) {k : Nat} (hk : k < g.length) : edT g k (row g k).length = edRow g.length (ofG g) k := by
  unfold edT edRow
  rw [List.take_length]
  have hs := hg.sets k hk
  have e : ((row g k).filter fun x => decide ((k : Int) < x)).map Int.toNat = (List.range g.length).filter fun v => decide (k < v) && ofG g k v := by
    refine rising_ext _ _ ?_ (List.Pairwise.filter _ List.pairwise_lt_range) fun x => ?_
    · rw [List.pairwise_map]
      refine (List.Pairwise.filter _ hs.1.2).imp_of_mem fun {a b} ha hb h => ?_
      have h1 := (List.mem_filter.1 ha).1
      have h2 := (hs.1.1 a h1).1
      omega
    · simp only [List.mem_map, List.mem_filter, List.mem_range, decide_eq_true_eq, Bool.and_eq_true, ofG]
      constructor
      · rintro ⟨y, ⟨hy, h1⟩, rfl⟩
        have h2 := hs.1.1 y hy
        refine ⟨by omega, by omega, ?_⟩
        rw [Int.toNat_of_nonneg h2.1]; exact hy
      · rintro ⟨h1, h2, h3⟩
        exact ⟨(x : Int), ⟨h3, by omega⟩, by simp⟩
  rw [← e, List.map_map]
  rfl

set_option maxRecDepth 100000 in
set_option maxHeartbeats 4000000 in
theorem edgesC_any (v : Value) (g : List (List Int)) (hok : GOk g) (w : World) (hg : Gr w v g) :
    Calls Tryd.prog 144 #[v] w fun e w' => ∃ u : Value, e = .returned u ∧ PrsO w' w.heap.size u (edN g.length (ofG g) g.length) ∧ Below w.heap.size w w' := by
  have hg0 := hg
  obtain ⟨u, rfl, hr⟩ := hg
  obtain ⟨p, c, rfl, _⟩ := hr.shape
  have h16 := hok.le
  have hbA := below_alloc w (.cells #[.slice p g.length c] 29)
  have HB := Lib.hid hbA
  have H2 := Lib.hid (gOk_row_le hok)
  have HOK := Lib.hid hok
  have HR := Lib.hid hr
  have HC : Hid (∀ k, k ≤ g.length → (edN g.length (ofG g) k).length ≤ 256) := Lib.hid fun k hk => by
    have := edN_length g.length (ofG g) k
    have : k * g.length ≤ 16 * 16 := Nat.mul_le_mul (by omega) h16
    omega
  clear hr hg0 hbA hok
  go_enter Tryd.func144, Tryd.ntmps144
  go_wp2
  go_loopw [3, 12] (fun u i wr => ∃ k : Nat, k ≤ g.length ∧ i = .int .i64 k ∧ PrsO wr (w.heap.size + 1) u (edN g.length (ofG g) k) ∧ Below w.heap.size w wr)
    (fun _ i _ => g.length - (intOf i).toNat)
  case atStart => exact ⟨0, Nat.zero_le _, rfl, by have := PrsO.nil (w.alloc (.cells #[.slice p g.length c] 29)) (w.heap.size + 1) (by rw [size_alloc]; omega); rw [size_alloc] at this; exact this, HB.out.alloc HB.out.size _⟩
  case round =>
    obtain ⟨k, hk, rfl, hown, hbel⟩ := hrel
    obtain ⟨outp, outc, rfl⟩ := hown.shape
    have Hown := Lib.hid hown
    have hsz := hbel.size
    clear hown
    by_cases hlt : k < g.length
    · obtain ⟨b, o, rp, rc, rfl, hcell, hnums⟩ := (HR.out.below hbel).get hlt
      change wr.cell? _ = some (.slice rp (row g k).length rc) at hcell
      have Hnums2 : Hid (Nums wr 2 .i64 (.slice rp (row g k).length rc) (row g k)) := Lib.hid hnums
      have hlen2 := H2.out k hlt
      have hck := HC.out k hk
      have HEND := Lib.hid (edT_end HOK.out hlt)
      clear hnums
      go_wp2
      have START : Hid (PrsO wr (w.heap.size + 1) (.slice outp (edN g.length (ofG g) k).length outc) (edN g.length (ofG g) k ++ edT g k 0)) := Lib.hid (by
        have : edT g k 0 = [] := by simp [edT]
        rw [this, List.append_nil]; exact Hown.out)
      have HBEL := Lib.hid hbel
      go_loopw [3, 19] (fun u i wx => ∃ t : Nat, t ≤ (row g k).length ∧ i = .int .i64 t ∧ PrsO wx (w.heap.size + 1) u (edN g.length (ofG g) k ++ edT g k t) ∧ Below w.heap.size w wx ∧ Nums wx 2 .i64 (.slice rp (row g k).length rc) (row g k))
        (fun _ i _ => (row g k).length - (intOf i).toNat)
      case atStart => exact ⟨0, Nat.zero_le _, rfl, START.out, HBEL.out, Hnums2.out⟩
      case round =>
        clear START Hown hbel HBEL hsz hcell Hnums2
        obtain ⟨t, ht, rfl, hown, hbel, hnums⟩ := hrel
        have hsz := hbel.size
        obtain ⟨outp, outc, rfl⟩ := hown.shape
        have Hnums := Lib.hid hnums
        have hte := edT_len g k t
        by_cases hlt2 : t < (row g k).length
        · obtain ⟨rb, ro, rfl, hcx⟩ := hnums.get hlt2
          have hsucc := Lib.hid (edT_succ (g := g) (k := k) hlt2)
          have hX0 := Lib.hid (((HOK.out.sets k hlt).1.1 _ (List.getElem_mem hlt2)).1)
          by_cases hgt : (k : Int) < (row g k)[t]
          · generalize (row g k)[t] = X at hcx hgt hsucc hX0
            obtain ⟨vals, hv1, hv2, hv3⟩ := hown
            have hll : (edN g.length (ofG g) k ++ edT g k t).length < 1000000000 := by rw [List.length_append]; omega
            have HV3 := Lib.hid hv3
            have HV1 := Lib.hid hv1
            clear hnums hv3 hv1 hte
            generalize hq : (edN g.length (ofG g) k ++ edT g k t).length = q at hll hv2
            go_wp2_with (at_builtin; refine wpList_app1s ty_rows64 rfl rfl rfl (hv2.alloc (.cells #[.int .i64 k, .int .i64 X] 2)) (by rw [size_alloc]; rfl) rfl hll (by rw [size_alloc]; omega) ?_; intro b7 c8 w7 hown7 hg7 _)
            go_roundw
            case rel =>
              have ha := below_alloc wr (.cells #[.int .i64 k, .int .i64 X] 2)
              have hrow : Nums (wr.alloc (.cells #[.int .i64 k, .int .i64 X] 2)) 2 .i64 (.slice (some ⟨wr.heap.size, 0, none⟩) 2 2) [((k : Nat) : Int), ((X.toNat : Nat) : Int)] := by
                rw [Int.toNat_of_nonneg hX0.out]
                exact Nums.of_owns (World.ownsRow_lit (size := 1) wr #[.int .i64 k, .int .i64 X] 2 (Nat.le_refl wr.heap.size) (by decide) rfl) rfl (by decide)
              subst hq
              refine ⟨t + 1, by omega, by go_num, ?_, below_grown (hbel.alloc hsz _) (hv2.alloc _) hg7 (by omega) (by rw [size_alloc]; omega), (Hnums.out.below ha).other (hv2.alloc _) hg7 (by decide)⟩
              rw [hsucc.out, if_pos hgt, ← List.append_assoc]
              exact PrsO.snoc (e := (k, X.toNat)) HV1.out (hv2.alloc _) (fun j hj => (HV3.out j hj).below ha) hown7 hg7 hrow
            case measure => simp [intOf]; omega
          · have Hown := Lib.hid hown
            generalize (row g k)[t] = X at hcx hgt hsucc hX0
            clear hown hnums
            go_wp2
            go_roundw
            case rel => exact ⟨t + 1, by omega, by go_num, by rw [hsucc.out, if_neg hgt]; exact Hown.out, hbel, Hnums.out⟩
            case measure => simp [intOf]; omega
        · obtain rfl : t = (row g k).length := by omega
          have Hown := Lib.hid hown
          clear hown hnums
          go_wp2
          go_roundw
          case rel =>
            refine ⟨k + 1, by omega, by go_num, ?_, hbel⟩
            rw [edN_succ, ← HEND.out]
            exact Hown.out
          case measure => simp [intOf]; omega
    · obtain rfl : k = g.length := by omega
      go_wp2
      go_ret
      exact ⟨_, rfl, Hown.out.base (by omega), hbel⟩

end Go.Proofs.YtmakhapdlkbbnaaDoor

/- Walk: the masks of a model's sets. -/
namespace Go.Proofs.YtmakhapdlkbbnaaDoor
open Go.RowKit

/-- The vertices of the first sets. -/
def SeenI (M : List (List Int)) (k sn : Nat) : Prop := sn < 65536 ∧ ∀ i, sn.testBit i = true ↔ ∃ a, a < k ∧ (i : Int) ∈ row M a
theorem SeenI.start (M : List (List Int)) : SeenI M 0 0 := ⟨by decide, fun i => by simp⟩
theorem bit_mask {s : List Int} (h : ∀ x ∈ s, 0 ≤ x) (i : Nat) : (mask s).testBit i = true ↔ (i : Int) ∈ s := by
  rw [testBit_mask, List.any_eq_true]
  constructor
  · rintro ⟨x, hx, e⟩
    have h1 := h x hx
    have h2 : x.toNat = i := by simpa using e
    have : (i : Int) = x := by omega
    rw [this]; exact hx
  · intro k
    exact ⟨_, k, by simp⟩
theorem SeenI.put {M : List (List Int)} {k sn m : Nat} (h : SeenI M k sn) (h0 : ∀ x ∈ row M k, 0 ≤ x ∧ x < 16) (hm : m = mask (row M k)) : SeenI M (k + 1) (sn ||| m) := by
  have hm16 : m < 65536 := by rw [hm]; exact mask_lt16 _ fun x hx => (h0 x hx).2
  refine ⟨Nat.or_lt_two_pow (n := 16) h.1 hm16, fun i => ?_⟩
  rw [Nat.testBit_or, Bool.or_eq_true, h.2, hm, bit_mask fun x hx => (h0 x hx).1]
  constructor
  · rintro (⟨a, ha, h1⟩ | h1)
    · exact ⟨a, by omega, h1⟩
    · exact ⟨k, by omega, h1⟩
  · rintro ⟨a, ha, h1⟩
    by_cases e : a < k
    · exact .inl ⟨a, e, h1⟩
    · obtain rfl : a = k := by omega
      exact .inr h1
theorem SeenI.new {M : List (List Int)} {k sn m : Nat} (h : SeenI M k sn) (h0 : ∀ x ∈ row M k, 0 ≤ x ∧ x < 16) (hm : m = mask (row M k)) : m &&& sn = 0 ↔ ∀ b, b < k → ∀ x ∈ row M k, x ∉ row M b := by
  rw [and_zero_iff]
  constructor
  · intro h1 b hb x hx hxb
    have hx0 := h0 x hx
    have e : ((x.toNat : Nat) : Int) = x := by omega
    refine h1 x.toNat ⟨?_, ?_⟩
    · rw [hm, bit_mask fun x hx => (h0 x hx).1, e]; exact hx
    · rw [h.2, e]; exact ⟨b, hb, hxb⟩
  · intro h1 i ⟨h2, h3⟩
    rw [hm, bit_mask fun x hx => (h0 x hx).1] at h2
    obtain ⟨b, hb, h4⟩ := (h.2 i).1 h3
    exact h1 b hb _ h2 h4

set_option maxRecDepth 100000 in
set_option maxHeartbeats 4000000 in
theorem modelMasks_any (v mv : Value) (g M : List (List Int)) (hgl : g.length ≤ 1000000000) (w : World) (hg : Gr w v g) (hm : Gr w mv M) :
    Calls Tryd.prog 129 #[v, mv] w fun e w' => ∃ ov, e = .returned (.tuple #[ov, .bool (dec (MdW g M))]) ∧ (∃ p k c, ov = .slice p k c) ∧ (MdW g M → w'.ownsRow w.heap.size 79 1 ov M.length ((M.map mask).map u32v)) ∧ Below w.heap.size w w' := by
  have hg0 := hg
  obtain ⟨u, rfl, hr⟩ := hg
  obtain ⟨p, c, rfl, _⟩ := hr.shape
  obtain ⟨mu, rfl, hs⟩ := hm
  obtain ⟨sp, sc, rfl, _, hsc, hsl⟩ := hs.shape
  obtain ⟨W0, hW0⟩ : ∃ W0, W0 = (w.alloc (.cells #[.slice p g.length c] 29)).alloc (.cells #[.slice sp M.length sc] 54) := ⟨_, rfl⟩
  have hbA : Hid (Below w.heap.size w W0) := Lib.hid (by rw [hW0]; exact below_alloc2 _ _ _)
  have HG := Lib.hid (hg0.below hbA.out)
  have HS := Lib.hid (hs.below hbA.out)
  have BX : Hid (Box W0 w.heap.size 29 (.slice p g.length c)) := Lib.hid (by rw [hW0]; exact (Box.new _ _ _).alloc _)
  have BY : Hid (Box W0 (w.heap.size + 1) 54 (.slice sp M.length sc)) := Lib.hid (by
    rw [hW0]
    have := Box.new (w.alloc (.cells #[.slice p g.length c] 29)) (.slice sp M.length sc) 54
    rw [size_alloc] at this
    exact this)
  have SZ0 := Lib.hid (show W0.heap.size = w.heap.size + 2 by rw [hW0, size_alloc, size_alloc])
  clear hr hg0 hs
  by_cases hok : GOk g
  case neg =>
    have hd := Lib.hid (dec_false hok)
    have hno : ¬ MdW g M := fun h => hok h.1.1
    have HNO := Lib.hid hno
    have HD := Lib.hid (dec_false hno)
    clear hok hno
    go_enter Tryd.func129, Tryd.ntmps129
    go_upto_region 1 with fail
    rw [← hW0]
    clear hW0
    have hcx := BX.out.cell
    go_wp2_with (go_at_call 80; refine (implGraphOk_any _ g _ HG.out).mono ?_; rintro e w2 ⟨he, hb2⟩; rw [hd.out] at he; subst he)
    go_ret2
    exact ⟨_, by rw [HD.out]; rfl, ⟨_, _, _, rfl⟩, fun h => absurd h HNO.out, hbA.out.trans (hb2.mono hbA.out.size)⟩
  have hd := Lib.hid (dec_true hok)
  have h16 := hok.le
  have Hok := Lib.hid hok
  clear hok
  by_cases h80 : M.length ≤ 16
  case neg =>
    have h80' : ¬ (M.length : Int) ≤ 16 := by omega
    have hno : ¬ MdW g M := fun h => h80 h.1.2
    have HNO := Lib.hid hno
    have HD := Lib.hid (dec_false hno)
    clear h80 hno
    go_enter Tryd.func129, Tryd.ntmps129
    go_upto_region 1 with fail
    rw [← hW0]
    clear hW0
    have hcx := BX.out.cell
    go_wp2_with (go_at_call 80; refine (implGraphOk_any _ g _ HG.out).mono ?_; rintro e w2 ⟨he, hb2⟩; rw [hd.out] at he; subst he; have hcy := (BY.out.keep hb2).cell)
    go_ret2
    exact ⟨_, by rw [HD.out]; rfl, ⟨_, _, _, rfl⟩, fun h => absurd h HNO.out, hbA.out.trans (hb2.mono hbA.out.size)⟩
  have h80' : (M.length : Int) ≤ 16 := by omega
  have HOK16 : Hid (GOk g ∧ M.length ≤ 16) := Lib.hid ⟨Hok.out, h80⟩
  go_enter Tryd.func129, Tryd.ntmps129
  go_upto_region 1 with fail
  rw [← hW0]
  clear hW0
  have hcx := BX.out.cell
  go_upto_region 3 with (go_at_call 80; refine (implGraphOk_any _ g _ HG.out).mono ?_; rintro e w2 ⟨he, hb2⟩; rw [hd.out] at he; subst he; have hcy := (BY.out.keep hb2).cell)
  have HB2 := Lib.hid hb2
  have hcy2 := (BY.out.keep (hb2.alloc hb2.size (.cells #[] 79))).cell
  have START := Lib.hid (ownsRow_empty w2 79 1)
  have h02 := hb2.size
  clear hcx hb2 hcy
  go_wp2_with fail
  go_loopw [6, 7, 23] (fun ov sv iv wr => ∃ (i sn : Nat), i ≤ M.length ∧ iv = .int .i64 i ∧ sv = .int .u32 (sn : Int) ∧ Hid (SeenI M i sn) ∧ Hid (MdTo g M i) ∧ wr.ownsRow W0.heap.size 79 1 ov i (((M.take i).map mask).map u32v) ∧ Below W0.heap.size W0 wr) (fun _ _ iv _ => M.length - (intOf iv).toNat)
  case atStart => exact ⟨0, 0, Nat.zero_le _, rfl, rfl, Lib.hid (SeenI.start M), Lib.hid (MdTo.zero g M), ownsRow_base START.out h02, HB2.out.alloc h02 _⟩
  case round =>
    clear START hcy2
    obtain ⟨i, sn, hi, rfl, rfl, HSN, HTO, hown, hb⟩ := hrel
    have HB := Lib.hid hb
    have HO := Lib.hid hown
    by_cases hlt : i < M.length
    · obtain ⟨sb, so, rp, rc, rfl, hce, hne⟩ := (HS.out.below hb).get (k := i) hlt
      replace hce : wr.cell? ⟨sb, so + i, none⟩ = some (.slice rp (row M i).length rc) := hce
      replace hne : Nums wr 2 .i64 (.slice rp (row M i).length rc) (row M i) := hne
      have hcx := hb.at (by have := SZ0.out; omega) BX.out.cell
      have HNI := Lib.hid hne
      have hib : i < 1000000000 := by omega
      clear hne
      generalize (row M i).length = rl at hce HNI
      by_cases hset : GOk g ∧ SetIn g.length (row M i)
      · have hds := Lib.hid (dec_true hset)
        have HSET := Lib.hid hset.2
        have HRI : Hid (∀ x ∈ row M i, 0 ≤ x ∧ x < 16) := Lib.hid (fun x hx => by have := hset.2.1 x hx; omega)
        obtain ⟨m, hm⟩ : ∃ m, m = mask (row M i) := ⟨_, rfl⟩
        have HM := Lib.hid hm
        have hm16 : m < 65536 := by rw [hm]; exact mask_lt16 _ fun x hx => (HRI.out x hx).2
        have hsn16 := HSN.out.1
        have HSN2 := Lib.hid (HSN.out.put HRI.out hm)
        have HNEW := Lib.hid (HSN.out.new HRI.out hm)
        have HT : Hid ((M.take (i + 1)).map mask = (M.take i).map mask ++ [m]) := Lib.hid (by rw [take_snoc' M i hlt, List.map_append, hm]; simp [row, hlt])
        have hand := u32_and_nat m sn (by omega) (by omega)
        clear hset hm hown
        by_cases hz : m &&& sn = 0
        · have HNW := Lib.hid (HNEW.out.1 hz)
          have hor := u32_or_nat sn m (by omega) (by omega)
          rw [hz] at hand
          have HBI := Lib.hid hb
          clear hz hb
          go_wp2_with (first
            | (go_at_call 93; refine (implSetOk_any _ _ g (row M i) hgl _ (HG.out.below HB.out) HNI.out).mono ?_; rintro e w4 ⟨he4, hb4⟩; rw [hds.out] at he4; subst he4; have ho4 := ownsRow_below HO.out hb4; have HN4 := Lib.hid (HNI.out.below hb4); have HB4 := Lib.hid (HB.out.trans (hb4.mono HB.out.size)); clear hb4)
            | (go_at_call 102; refine (maskOf_any _ (row M i) HRI.out _ HN7.out).mono ?_; rintro e w8 ⟨he8, hw8⟩; rw [← HM.out] at he8; subst he8; subst hw8)
            | (go_at_call 102; refine (maskOf_any _ (row M i) HRI.out _ HN4.out).mono ?_; rintro e w5 ⟨he5, hw5⟩; rw [← HM.out] at he5; subst he5; subst hw5)
            | (at_builtin; refine wpList_app1s ty_vsets' rfl rfl rfl ho4 rfl rfl hib HB4.out.size ?_; intro b7 c8 w7 hown7 hg7 _; have HN7 := Lib.hid (HN4.out.other ho4 hg7 (by decide))))
          go_roundw
          case rel => exact ⟨i + 1, sn ||| m, by omega, by go_num, rfl, HSN2, Lib.hid (HTO.out.snoc HSET.out (fun b hb x hx => HNW.out b hb x hx)), by rw [HT.out, List.map_append]; exact hown7, below_grown HB4.out ho4 hg7 (Nat.le_refl _) HB4.out.size⟩
          case measure => simp [intOf]; omega
        · have hno : ¬ MdW g M := fun h => hz (HNEW.out.2 (fun b hb x hx => (h.2 i hlt).2 b hb x hx))
          have HNO := Lib.hid hno
          have HD := Lib.hid (dec_false hno)
          have h1' : (((m &&& sn : Nat) : Int) != 0) = true := by simp; omega
          clear hno hz hb
          generalize (m &&& sn : Nat) = ms at hand h1'
          go_wp2_with (first
            | (go_at_call 93; refine (implSetOk_any _ _ g (row M i) hgl _ (HG.out.below HB.out) HNI.out).mono ?_; rintro e w4 ⟨he4, hb4⟩; rw [hds.out] at he4; subst he4; have HN4 := Lib.hid (HNI.out.below hb4))
            | (go_at_call 102; refine (maskOf_any _ (row M i) HRI.out _ HN4.out).mono ?_; rintro e w5 ⟨he5, hw5⟩; rw [← HM.out] at he5; subst he5; subst hw5))
          go_ret2
          exact ⟨_, by rw [HD.out]; rfl, ⟨_, _, _, rfl⟩, fun h => absurd h HNO.out, hbA.out.trans ((HB.out.trans (hb4.mono HB.out.size)).mono hbA.out.size)⟩
      · have hds := Lib.hid (dec_false hset)
        have hno : ¬ MdW g M := fun h => hset ⟨h.1.1, (h.2 i hlt).1⟩
        have HNO := Lib.hid hno
        have HD := Lib.hid (dec_false hno)
        clear hset hown hb hno
        go_wp2_with (go_at_call 93; refine (implSetOk_any _ _ g (row M i) hgl _ (HG.out.below HB.out) HNI.out).mono ?_; rintro e w4 ⟨he4, hb4⟩; rw [hds.out] at he4; subst he4)
        go_ret2
        exact ⟨_, by rw [HD.out]; rfl, ⟨_, _, _, rfl⟩, fun h => absurd h HNO.out, hbA.out.trans ((HB.out.trans (hb4.mono HB.out.size)).mono hbA.out.size)⟩
    · obtain rfl : i = M.length := by omega
      have HD := Lib.hid (dec_true (show MdW g M from ⟨HOK16.out, HTO.out⟩))
      have hb0 := hbA.out.size
      rw [List.take_length] at HO
      obtain ⟨op, oc, rfl⟩ := owns_shapeE HO.out
      clear hown hb
      go_wp2_with fail
      go_ret2
      exact ⟨_, by rw [HD.out]; rfl, ⟨_, _, _, rfl⟩, fun _ => ownsRow_base HO.out (by omega), hbA.out.trans (HB.out.mono hbA.out.size)⟩

end Go.Proofs.YtmakhapdlkbbnaaDoor
