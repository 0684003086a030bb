/- Walk: the program's minorIn (printed by wip/mkMiK.py). -/
import Derived.Test.YtfokiijcpkhllaaDoorFuQ26
namespace Go.Proofs.YtfokiijcpkhllaaDoor
open Go.RowKit

theorem ty_boolsM : SlTy Tryd.prog 138 4 (.bool false) 1 1 := ⟨Tryd.underlying138, by kernel_rfl, rfl, by decide, by decide⟩
theorem owns_neM {w : World} {base : Nat} {E T : TypeId} {size n b : Nat} {v : Value} {xs : List Value} {cur : Array Value} {fz : Nat × Nat} (h : w.ownsRow base E size v n xs) (hb : w.heap[b]? = some (.cells cur T fz)) (hE : E ≠ T) : v.ownBlock ≠ some b := by
  intro e
  rcases h.2 with ⟨rfl, _⟩ | ⟨g, cap, cur', rfl, _, hg, _⟩
  · simp [Value.ownBlock] at e
  · simp [Value.ownBlock] at e
    subst e
    rw [hb] at hg
    simp only [Option.some.injEq, Obj.cells.injEq] at hg
    exact hE hg.2.1.symm
theorem ownsRow_toM {w w' : World} {base : Nat} {E : TypeId} {size n : Nat} {v : Value} {xs : List Value} (h : w.ownsRow base E size v n xs) (hk : ∀ k, v.ownBlock = some k → w'.heap[k]? = w.heap[k]?) : w'.ownsRow base E size v n xs := by
  refine ⟨h.1, ?_⟩
  rcases h.2 with h2 | ⟨g, cap, cur, rfl, h2, h3, h4⟩
  · exact .inl h2
  · exact .inr ⟨g, cap, cur, rfl, h2, (hk g rfl).trans h3, h4⟩

theorem owns_apartM {w : World} {base base' : Nat} {E E' : TypeId} {size size' n n' k : Nat} {v v' : Value} {xs xs' : List Value} (h : w.ownsRow base E size v n xs) (h2 : w.ownsRow base' E' size' v' n' xs') (hE : E ≠ E') (e2 : v'.ownBlock = some k) : v.ownBlock ≠ some k := by
  rcases h2.2 with ⟨rfl, _⟩ | ⟨g, cap, cur', rfl, _, hg, _⟩
  · simp [Value.ownBlock] at e2
  · simp [Value.ownBlock] at e2
    subst e2
    exact owns_neM h hg hE

noncomputable def wholeL (E : Nat → Nat → Bool) (s : Nat) : List Value := (List.range s).map fun q => .bool (dec (ConnL E (bitsOf q)))
theorem wholeL_snoc (E : Nat → Nat → Bool) (s : Nat) : wholeL E (s + 1) = wholeL E s ++ [.bool (dec (ConnL E (bitsOf s)))] := by simp [wholeL, List.range_succ]
/-- The rows while they are made. -/
structure MsL (w0 : World) (xb sb m : Nat) (hv pv : Value) (E : Nat → Nat → Bool) (wr : World) (s1 s2 : Nat) (NR : List Nat) (nv wv : Value) : Prop where
  bel : Below w0.heap.size w0 wr
  lox : w0.heap.size ≤ xb
  los : w0.heap.size ≤ sb
  ne : xb ≠ sb
  blk : MsB wr xb hv pv wv nv (.slice (some ⟨sb, 0, none⟩) m m)
  sets : wr.ownsRow sb 64 1 (.slice (some ⟨sb, 0, none⟩) m m) m ((List.replicate m 0).map u32v)
  whl : wr.ownsRow w0.heap.size 4 1 wv s2 (wholeL E s2)
  ner : wr.ownsRow w0.heap.size 64 1 nv s1 (NR.map u32v)
  apart : ∀ k, nv.ownBlock = some k → k ≠ sb
section
variable {w0 : World} {xb sb m : Nat} {hv pv : Value} {E : Nat → Nat → Bool} {wr w' : World} {s1 s2 : Nat} {NR : List Nat} {nv wv : Value}
theorem MsL.next (h : MsL w0 xb sb m hv pv E wr s1 s2 NR nv wv) (hb : Below wr.heap.size wr w') : MsL w0 xb sb m hv pv E w' s1 s2 NR nv wv :=
  ⟨h.bel.trans (hb.mono h.bel.size), h.lox, h.los, h.ne, h.blk.to (hb.block xb h.blk.lt), ownsRow_below h.sets hb, ownsRow_below h.whl hb, ownsRow_below h.ner hb, h.apart⟩
theorem MsL.toN (h : MsL w0 xb sb m hv pv E wr s1 s2 NR nv wv) (hg : wr.grownBy w' nv.ownBlock) : MsB w' xb hv pv wv nv (.slice (some ⟨sb, 0, none⟩) m m) :=
  h.blk.to (hg.block xb h.blk.lt fun e => owns_neM h.ner h.blk.blk (by decide) e.symm)
theorem MsL.toW (h : MsL w0 xb sb m hv pv E wr s1 s2 NR nv wv) (hg : wr.grownBy w' wv.ownBlock) : MsB w' xb hv pv wv nv (.slice (some ⟨sb, 0, none⟩) m m) :=
  h.blk.to (hg.block xb h.blk.lt fun e => owns_neM h.whl h.blk.blk (by decide) e.symm)
theorem MsL.addN (h : MsL w0 xb sb m hv pv E wr s1 s2 NR nv wv) {x b' c' : Nat} (ho : w'.ownsRow w0.heap.size 64 1 (.slice (some ⟨b', 0, none⟩) (s1 + 1) c') (s1 + 1) (NR.map u32v ++ [.int .u32 (x : Int)]))
    (hg : wr.grownBy w' nv.ownBlock) (hf : nv.ownBlock = some b' ∨ wr.heap.size < b') :
    MsL w0 xb sb m hv pv E (w'.setCell ⟨xb, 3, none⟩ (.slice (some ⟨b', 0, none⟩) (s1 + 1) c')) (s1 + 1) s2 (NR ++ [x]) (.slice (some ⟨b', 0, none⟩) (s1 + 1) c') wv where
  bel := (below_grown h.bel h.ner hg (Nat.le_refl _) h.bel.size).setCell (p := ⟨xb, 3, none⟩) h.lox _
  lox := h.lox
  los := h.los
  ne := h.ne
  blk := (h.toN hg).s3 _
  sets := ownsRow_setCell_other (a := ⟨xb, 3, none⟩) (ownsRow_toM h.sets fun k e => hg.block k (h.sets.lt k e).2 fun c => h.apart k c.symm (by simpa [Value.ownBlock] using e.symm)) (fun e => h.ne (by simpa [Value.ownBlock] using e.symm)) _
  whl := ownsRow_setCell_other (a := ⟨xb, 3, none⟩) (ownsRow_other h.whl h.ner hg (by decide)) (owns_neM h.whl h.blk.blk (by decide)) _
  ner := by
    rw [List.map_append]
    exact ownsRow_setCell_other (a := ⟨xb, 3, none⟩) ho (owns_neM ho (h.toN hg).blk (by decide)) _
  apart := fun k e => by
    have e : b' = k := by simpa [Value.ownBlock] using e
    subst e
    rcases hf with hf | hf
    · exact h.apart _ hf
    · have := (h.sets.lt sb rfl).2
      omega
theorem MsL.addW (h : MsL w0 xb sb m hv pv E wr s1 s2 NR nv wv) {b' c' : Nat} (ho : w'.ownsRow w0.heap.size 4 1 (.slice (some ⟨b', 0, none⟩) (s2 + 1) c') (s2 + 1) (wholeL E s2 ++ [.bool (dec (ConnL E (bitsOf s2)))]))
    (hg : wr.grownBy w' wv.ownBlock) (_hf : wv.ownBlock = some b' ∨ wr.heap.size < b') :
    MsL w0 xb sb m hv pv E (w'.setCell ⟨xb, 2, none⟩ (.slice (some ⟨b', 0, none⟩) (s2 + 1) c')) s1 (s2 + 1) NR nv (.slice (some ⟨b', 0, none⟩) (s2 + 1) c') where
  bel := (below_grown h.bel h.whl hg (Nat.le_refl _) h.bel.size).setCell (p := ⟨xb, 2, none⟩) h.lox _
  lox := h.lox
  los := h.los
  ne := h.ne
  blk := (h.toW hg).s2 _
  sets := ownsRow_setCell_other (a := ⟨xb, 2, none⟩) (ownsRow_other h.sets h.whl hg (by decide)) (fun e => h.ne (by simpa [Value.ownBlock] using e.symm)) _
  whl := by
    rw [wholeL_snoc]
    exact ownsRow_setCell_other (a := ⟨xb, 2, none⟩) ho (owns_neM ho (h.toW hg).blk (by decide)) _
  ner := ownsRow_setCell_other (a := ⟨xb, 2, none⟩) (ownsRow_other h.ner h.whl hg (by decide)) (owns_neM h.ner h.blk.blk (by decide)) _
  apart := h.apart
theorem MsL.grown (h : MsL w0 xb sb m hv pv E wr s1 s2 NR nv wv) (hg : wr.grownBy w' (some sb)) : Below w0.heap.size w0 w' :=
  ⟨hg.os.trans h.bel.os, hg.tape.trans h.bel.tape, hg.output.trans h.bel.output, Nat.le_trans h.bel.size hg.size, fun k hk => (hg.block k (Nat.lt_of_lt_of_le hk h.bel.size) (fun e => by
    have e : k = sb := by simpa using e
    have := h.los
    omega)).trans (h.bel.block k hk)⟩
end

/-- Of the sets below s their neighbours. -/
def NerB (E : Nat → Nat → Bool) (NR : List Nat) (s : Nat) : Prop := NR.length = s ∧ ∀ q, q < s → NR.getD q 0 < 65536 ∧ ∀ j, (NR.getD q 0).testBit j = true ↔ ∃ v, q.testBit v = true ∧ E v j = true
theorem NerB.zero (E : Nat → Nat → Bool) : NerB E [] 0 := ⟨rfl, fun q hq => absurd hq (by omega)⟩
theorem NerB.snoc {E : Nat → Nat → Bool} {NR : List Nat} {s x : Nat} (h : NerB E NR s) (hx : x < 65536) (hb : ∀ j, x.testBit j = true ↔ ∃ v, s.testBit v = true ∧ E v j = true) : NerB E (NR ++ [x]) (s + 1) := by
  refine ⟨by simp [h.1], fun q hq => ?_⟩
  by_cases e : q < s
  · have e2 : (NR ++ [x]).getD q 0 = NR.getD q 0 := by simp [List.getD_eq_getElem?_getD, List.getElem?_append_left (show q < NR.length by rw [h.1]; exact e)]
    rw [e2]; exact h.2 q e
  · obtain rfl : q = s := by omega
    have e2 : (NR ++ [x]).getD q 0 = x := by rw [← h.1]; simp [List.getD_eq_getElem?_getD]
    rw [e2]; exact ⟨hx, hb⟩
/-- The neighbours of the first vertices of a list. -/
def NearL (E : Nat → Nat → Bool) (L : List Nat) (x : Nat) : Prop := x < 65536 ∧ ∀ j, x.testBit j = true ↔ ∃ v ∈ L, E v j = true
theorem NearL.zero (E : Nat → Nat → Bool) : NearL E [] 0 := ⟨by decide, fun j => by simp⟩
theorem NearL.snoc {E : Nat → Nat → Bool} {L : List Nat} {x a v n : Nat} (h : NearL E L x) (ha : a < 65536) (hab : ∀ j, a.testBit j = (decide (j < n) && E v j)) (hE : ∀ j, E v j = true → j < n) : NearL E (L ++ [v]) (x ||| a) := by
  refine ⟨Nat.or_lt_two_pow (n := 16) h.1 ha, fun j => ?_⟩
  rw [Nat.testBit_or, Bool.or_eq_true, h.2, hab, Bool.and_eq_true, decide_eq_true_eq]
  constructor
  · rintro (⟨y, hy, e⟩ | ⟨_, e⟩)
    · exact ⟨y, List.mem_append_left _ hy, e⟩
    · exact ⟨v, by simp, e⟩
  · rintro ⟨y, hy, e⟩
    rcases List.mem_append.1 hy with h1 | h1
    · exact .inl ⟨y, h1, e⟩
    · obtain rfl : y = v := by simpa using h1
      exact .inr ⟨hE j e, e⟩

theorem all_anyM (p : Option Addr) (n c M : Nat) (hn : n < 32) (hM : M = 2 ^ n - 1) (w : World) :
    Calls Tryd.prog 46 #[.slice p n c] w fun e w' => e = .returned (.int .u32 (M : Int)) ∧ w = w' := by
  subst hM; exact all_any p n c hn w
/-- What minorIn hands back. -/
def MnEnd (w0 w' : World) (m : Nat) (u : Value) (f : Option (List Nat)) : Prop :=
  (f = none ∧ u = .slice none 0 0) ∨ ∃ x b, f = some x ∧ u = .slice (some ⟨b, 0, none⟩) m m ∧ w'.ownsRow w0.heap.size 64 1 u m ((mskW m x).map u32v)
set_option maxRecDepth 100000 in
set_option maxHeartbeats 4000000 in
theorem minorIn_any (hv pv : Value) (n m : Nat) (E F : Nat → Nat → Bool) (n8 : n ≤ 8) (m8 : m ≤ 8) (hE : ∀ x y, E x y = true → E y x = true) (hEn : ∀ x y, E x y = true → y < n) (hF : ∀ i k, F i k = F k i) (hFi : ∀ i, F i i = false)
    (w : World) (hh : NE w hv n E) (hq : NE w pv m F) (hT : Tab w) :
    Calls Tryd.prog 97 #[hv, pv] w fun e w' => ∃ u, e = .returned u ∧ MnEnd w w' m u (findN m (FitW m E F) n []) ∧ Below w.heap.size w w' := by
  obtain ⟨hp, hc, rfl⟩ : ∃ p c, hv = .slice p n c := by obtain ⟨p, c, e, _⟩ := hh.sl; exact ⟨p, c, e⟩
  obtain ⟨pp, pc, rfl⟩ : ∃ p c, pv = .slice p m c := by obtain ⟨p, c, e, _⟩ := hq.sl; exact ⟨p, c, e⟩
  have HNE := Lib.hid hh
  have HNP := Lib.hid hq
  have HT := Lib.hid hT
  have HE := Lib.hid hE
  have HEN := Lib.hid hEn
  have HF := Lib.hid hF
  have HFI := Lib.hid hFi
  clear hh hq hT hE hEn hF hFi
  by_cases hlt : n < m
  · have HR := Lib.hid (findN_lack (Fit := FitW m E F) (w := []) (show n < lackW m [] by rw [lackW_nil]; exact hlt))
    have hgt : (n : Int) < (m : Int) := by omega
    go_enter Tryd.func97, Tryd.ntmps97
    go_wp2_with fail
    go_ret
    exact ⟨_, rfl, .inl ⟨HR.out, rfl⟩, Below.refl _ _⟩
  have hgt : ¬ (n : Int) < (m : Int) := by omega
  go_enter Tryd.func97, Tryd.ntmps97
  go_upto_region 4 with (at_make; refine wpList_mk ty_vsets' rfl rfl rfl m rfl rfl (by rfl) (by rfl) (by omega) ?_; intro w1 hown1 hg1)
  obtain ⟨sb, hsb⟩ : ∃ sb, sb = w.heap.size := ⟨_, rfl⟩
  have hb1 := grown_below hg1
  have hs1 := hb1.size
  have hsl := (hown1.lt w.heap.size rfl).2
  rw [← hsb] at hown1 hsl ⊢
  obtain ⟨xb, hxb⟩ : ∃ xb, xb = w1.heap.size := ⟨_, rfl⟩
  have HL0 : Hid (MsL w xb sb m (.slice hp n hc) (.slice pp m pc) E (w1.alloc (.cells #[.slice hp n hc, .slice pp m pc, .slice none 0 0, .slice none 0 0, .slice (some ⟨sb, 0, none⟩) m m] 150)) 0 0 [] (.slice none 0 0) (.slice none 0 0)) := Lib.hid
    ⟨hb1.alloc hs1 _, by omega, by omega, by omega, by rw [hxb]; exact MsB.new _, by have := hown1.alloc (.cells #[.slice hp n hc, .slice pp m pc, .slice none 0 0, .slice none 0 0, .slice (some ⟨sb, 0, none⟩) m m] 150); simpa [u32v] using this, World.ownsRow_nil _ _ _ _, World.ownsRow_nil _ _ _ _, fun k e => by simp [Value.ownBlock] at e⟩
  rw [← hxb]
  obtain ⟨W1, hW1⟩ : ∃ W1, W1 = w1.alloc (.cells #[.slice hp n hc, .slice pp m pc, .slice none 0 0, .slice none 0 0, .slice (some ⟨sb, 0, none⟩) m m] 150) := ⟨_, rfl⟩
  rw [← hW1] at HL0 ⊢
  clear hb1 hs1 hown1 hg1 hW1 hsl
  have hxw := HL0.out.lox
  clear hxb hsb
  obtain ⟨M, hM⟩ : ∃ M, M = 2 ^ n - 1 := ⟨_, rfl⟩
  have hMp : M + 1 = 2 ^ n := by have := Nat.two_pow_pos n; omega
  have hM256 : M < 256 := by have := Nat.pow_le_pow_right (n := 2) (by decide) n8; omega
  have HM := Lib.hid hM
  have HMP := Lib.hid hMp
  clear hM hMp
  go_wp2_with fail
  go_loopw [6] (fun sv wr => ∃ (s : Nat) (NR : List Nat) (nv wv : Value), s ≤ M + 1 ∧ sv = .int .u32 (s : Int) ∧ Hid (NerB E NR s) ∧ MsL w xb sb m (.slice hp n hc) (.slice pp m pc) E wr s s NR nv wv) (fun sv _ => M + 1 - (intOf sv).toNat)
  case atStart => exact ⟨0, [], _, _, Nat.zero_le _, rfl, Lib.hid (NerB.zero E), HL0.out⟩
  case round =>
    clear HL0
    obtain ⟨s, NR, nv, wv, hs, rfl, HNB, hml⟩ := hrel
    have HML := Lib.hid hml
    by_cases hlt : s ≤ M
    · have hle : (s : Int) ≤ (M : Int) := by omega
      have hs16 : s < 65536 := by omega
      have HSN : Hid (∀ i, s.testBit i = true → i < n) := Lib.hid (fun i hi => Classical.byContradiction fun k => by
        have h1 : s < 2 ^ i := Nat.lt_of_lt_of_le (show s < 2 ^ n by have := HMP.out; omega) (Nat.pow_le_pow_right (by decide) (by omega))
        rw [Nat.testBit_lt_two_pow h1] at hi
        cases hi)
      have hlen := bitsOf_length s
      clear hml
      go_upto_region 9 with (first
        | (go_at_call 48; refine (list_any _ s rfl (by omega) _ (HT.out.keep HML.out.bel)).mono ?_; rintro e w3 ⟨lv, rfl, hown3, hb3⟩; have hnl := Nums.of_owns hown3 (natInts_length _).symm (by omega); obtain ⟨lp, lc, rfl, _, _, _, hat⟩ := hnl.shape; rw [natInts_length])
        | (go_at_call 46; refine (all_anyM _ n _ M (by omega) HM.out _).mono ?_; rintro e w2 ⟨rfl, rfl⟩))
      have HAT := Lib.hid hat
      have HM3 := Lib.hid (HML.out.next hb3)
      have HNE3 := Lib.hid (HNE.out.next HM3.out.bel)
      clear hb3 hown3 hnl hat
      obtain ⟨L, hL⟩ : ∃ L, L = bitsOf s := ⟨_, rfl⟩
      have hL16 : L.length ≤ 32 := by rw [hL]; exact bitsOf_length s
      rw [← hL] at HAT ⊢
      have HLE := Lib.hid hL
      clear hL
      go_wp2_with fail
      go_loopw [7, 31] (fun qv iv wr => ∃ (k q : Nat), k ≤ L.length ∧ iv = .int .i64 k ∧ qv = .int .u32 (q : Int) ∧ Hid (NearL E (L.take k) q) ∧ wr = w3) (fun _ iv _ => L.length - (intOf iv).toNat)
      case atStart => exact ⟨0, 0, Nat.zero_le _, rfl, rfl, Lib.hid (NearL.zero E), rfl⟩
      case round =>
        obtain ⟨k, q, hk, rfl, rfl, HQ, rfl⟩ := hrel
        by_cases hlk : k < L.length
        · obtain ⟨u, hu⟩ : ∃ u : Nat, u = L[k] := ⟨_, rfl⟩
          have hun : u < n := HSN.out u ((mem_left hs16).1 (by rw [← HLE.out, hu]; exact List.getElem_mem hlk))
          have hjl : k < (natInts L).length := by rw [natInts_length]; exact hlk
          obtain ⟨lb, lo, rfl, hcl⟩ := HAT.out.num hjl
          have hval : (natInts L)[k] = (u : Int) := by rw [hu]; simp [natInts]
          rw [hval] at hcl
          obtain ⟨ab, ao, av, rfl, hca, ha16, hbit⟩ := HNE3.out.get hun
          have hq16 := HQ.out.1
          have hor := u32_or_nat q av (by omega) (by omega)
          have HQ2 : Hid (NearL E (L.take (k + 1)) (q ||| av)) := Lib.hid (by
            rw [take_snoc' L k hlk, ← hu]
            exact HQ.out.snoc ha16 hbit (HEN.out u))
          have e0 : (0 : Int) ≤ (u : Int) := by omega
          have e1 : (u : Int) < (n : Int) := by omega
          clear hval hu hbit ha16
          generalize q ||| av = q2 at hor HQ2
          go_wp2_with fail
          go_roundw
          case rel => exact ⟨k + 1, q2, by omega, by go_num, rfl, HQ2, by first | trivial | rfl⟩
          case measure => simp [intOf]; omega
        · obtain rfl : k = L.length := by omega
          have HN2 : Hid (NerB E (NR ++ [q]) (s + 1)) := Lib.hid (HNB.out.snoc HQ.out.1 fun j => by
            have h1 := HQ.out.2 j
            rw [List.take_length, HLE.out] at h1
            rw [h1]
            exact ⟨fun ⟨v, hv, e⟩ => ⟨v, (mem_left hs16).1 hv, e⟩, fun ⟨v, hv, e⟩ => ⟨v, (mem_left hs16).2 hv, e⟩⟩)
          have HN3 := Lib.hid HM3.out.ner
          obtain ⟨nq, nqc, rfl⟩ := owns_shapeK HN3.out
          obtain ⟨wq, wqc, rfl⟩ := owns_shapeK HM3.out.whl
          have hc3 := HM3.out.blk.c3
          have hlo := HM3.out.bel.size
          have hf3 := HM3.out.blk.free 3
          clear HAT
          go_upto_region 14 with (at_builtin; refine wpList_app1s ty_vsets' rfl rfl rfl HN3.out rfl rfl (by omega) hlo ?_; intro b7 c7 w7 hown7 hg7 hf7; have O7 := Lib.hid (HM3.out.addN hown7 hg7 hf7); have C7 := HM3.out.toN hg7; have hc3 := C7.c3; have hf3 := C7.free 3; clear hown7 hg7 hf7 C7)
          obtain ⟨W7, hW7⟩ : ∃ W7, W7 = w7.setCell ⟨xb, 3, none⟩ (.slice (some ⟨b7, 0, none⟩) (s + 1) c7) := ⟨_, rfl⟩
          rw [← hW7] at O7 ⊢
          have HML7 := O7
          have HMLb := Lib.hid O7.out.bel
          have hc2 := O7.out.blk.c2
          clear hW7 hc3 hf3 O7 HN3 hlo
          refine wp_region_stg [(12, fun w' => w'.cell? ⟨xb, 2, none⟩ = some (.slice wq s wqc))] (by kernel_rfl) ?_ (fun hHeld => ?_)
          · exact .keep hc2 .nil
          refine wpStg_pure (i := 0) (v := .pointer (some ⟨xb, 0, none⟩)) rfl (by kernel_rfl) (by kernel_rfl) (by kernel_rfl) (by kernel_rfl) (fun _ _ _ h => h) (Or.inl ⟨by rfl, ?_⟩) (by assumption) ?_
          · intro wz _; go_simp; try rfl
          try simp only [Act.put, List.getElem_toArray, List.getElem_cons_succ, List.getElem_cons_zero, List.setIfInBounds_toArray, List.set_cons_zero, List.set_cons_succ]
          refine wpStg_pure (i := 1) (v := .pointer (some ⟨xb, 0, none⟩)) rfl (by kernel_rfl) (by kernel_rfl) (by kernel_rfl) (by kernel_rfl) (fun _ _ _ h => h) (Or.inl ⟨by rfl, ?_⟩) (by assumption) ?_
          · intro wz _; go_simp; try rfl
          try simp only [Act.put, List.getElem_toArray, List.getElem_cons_succ, List.getElem_cons_zero, List.setIfInBounds_toArray, List.set_cons_zero, List.set_cons_succ]
          refine wpStg_pure (i := 2) (v := .pointer (some ⟨xb, 0, none⟩)) rfl (by kernel_rfl) (by kernel_rfl) (by kernel_rfl) (by kernel_rfl) (fun _ _ _ h => h) (Or.inl ⟨by rfl, ?_⟩) (by assumption) ?_
          · intro wz _; go_simp; try rfl
          try simp only [Act.put, List.getElem_toArray, List.getElem_cons_succ, List.getElem_cons_zero, List.setIfInBounds_toArray, List.set_cons_zero, List.set_cons_succ]
          refine wpStg_pure (i := 3) (v := .pointer (some ⟨xb, 2, none⟩)) rfl (by kernel_rfl) (by kernel_rfl) (by kernel_rfl) (by kernel_rfl) (fun _ _ _ h => h) (Or.inl ⟨by rfl, ?_⟩) (by assumption) ?_
          · intro wz _; go_simp; try rfl
          try simp only [Act.put, List.getElem_toArray, List.getElem_cons_succ, List.getElem_cons_zero, List.setIfInBounds_toArray, List.set_cons_zero, List.set_cons_succ]
          refine wpStg_take (m := 0) (i := 4) (v := .slice wq s wqc) rfl rfl (by kernel_rfl) (by kernel_rfl) (by kernel_rfl) (by kernel_rfl) (by kernel_rfl) (by kernel_rfl) (fun _ _ _ h => h) (Or.inl ⟨by rfl, ?_⟩) (by assumption) ?_
          · intro wz hSw; (try dsimp only at hSw); go_simp; try rfl
          try simp only [Act.put, List.getElem_toArray, List.getElem_cons_succ, List.getElem_cons_zero, List.setIfInBounds_toArray, List.set_cons_zero, List.set_cons_succ]
          refine wpStg_pure (i := 5) (v := .slice hp n hc) rfl (by kernel_rfl) (by kernel_rfl) (by kernel_rfl) (by kernel_rfl) (fun _ _ _ h => h) (Or.inl ⟨by rfl, ?_⟩) (by assumption) ?_
          · intro wz _; go_simp; try rfl
          try simp only [Act.put, List.getElem_toArray, List.getElem_cons_succ, List.getElem_cons_zero, List.setIfInBounds_toArray, List.set_cons_zero, List.set_cons_succ]
          refine wpStg_pure (i := 6) (v := .int .u32 (s : Int)) rfl (by kernel_rfl) (by kernel_rfl) (by kernel_rfl) (by kernel_rfl) (fun _ _ _ h => h) (Or.inl ⟨by rfl, ?_⟩) (by assumption) ?_
          · intro wz _; go_simp; try rfl
          try simp only [Act.put, List.getElem_toArray, List.getElem_cons_succ, List.getElem_cons_zero, List.setIfInBounds_toArray, List.set_cons_zero, List.set_cons_succ]
          refine wpStg_one (i := 7) (by kernel_rfl) rfl (fun K hK => ?_)
          go_simp
          go_at_call 47
          refine (connected_any _ _ n E s rfl hs16 HSN.out _ ((HNE.out.next HMLb.out).next (below_dN (Below.refl _ _) 1)) ((HT.out.keep HMLb.out).keep (below_dN (Below.refl _ _) 1))).mono ?_
          rintro e w7 ⟨he7, hb7⟩
          subst he7
          have hb7x : Below W7.heap.size W7 w7 := (below_dN (Below.refl _ _) 1).trans hb7
          have HB7 := Lib.hid hb7x
          have HM7 := Lib.hid (HML7.out.next hb7x)
          have hc2 := hb7x.at' hc2
          have HW7 := Lib.hid HM7.out.whl
          have lo7 := HM7.out.bel.size
          clear hb7 hb7x
          refine hK.out _ _ ?_ (fun hHeld => ?_)
          · exact .keep hc2 .nil
          clear hK K
          try simp only [Act.put, List.getElem_toArray, List.getElem_cons_succ, List.getElem_cons_zero, List.setIfInBounds_toArray, List.set_cons_zero, List.set_cons_succ]
          refine wpStg_one (i := 8) (by kernel_rfl) rfl (fun K hK => ?_)
          go_simp
          refine hK.out _ _ ?_ (fun hHeld => ?_)
          · exact .keep ((below_alloc _ _).at' hc2) .nil
          clear hK K
          try simp only [Act.put, List.getElem_toArray, List.getElem_cons_succ, List.getElem_cons_zero, List.setIfInBounds_toArray, List.set_cons_zero, List.set_cons_succ]
          refine wpStg_one (i := 9) (by kernel_rfl) rfl (fun K hK => ?_)
          refine step_app1f ty_boolsM (w := w7) rfl rfl rfl HW7.out rfl rfl (by omega) lo7 ?_
          intro b9 c9 w9 hown9 hg9 hf9
          have O9 := Lib.hid (HM7.out.addW hown9 hg9 hf9)
          have C9 := HM7.out.toW hg9
          have hc2y := C9.c2
          have hf2y := C9.free 2
          clear hown9 hg9 hf9 C9
          refine hK.out _ _ ?_ (fun hHeld => ?_)
          · exact .keep hc2y .nil
          clear hK K
          try simp only [Act.put, List.getElem_toArray, List.getElem_cons_succ, List.getElem_cons_zero, List.setIfInBounds_toArray, List.set_cons_zero, List.set_cons_succ]
          refine wpStg_pure (i := 10) (v := .pointer (some ⟨xb, 0, none⟩)) rfl (by kernel_rfl) (by kernel_rfl) (by kernel_rfl) (by kernel_rfl) (fun _ _ _ h => h) (Or.inl ⟨by rfl, ?_⟩) (by assumption) ?_
          · intro wz _; go_simp; try rfl
          try simp only [Act.put, List.getElem_toArray, List.getElem_cons_succ, List.getElem_cons_zero, List.setIfInBounds_toArray, List.set_cons_zero, List.set_cons_succ]
          refine wpStg_pure (i := 11) (v := .pointer (some ⟨xb, 2, none⟩)) rfl (by kernel_rfl) (by kernel_rfl) (by kernel_rfl) (by kernel_rfl) (fun _ _ _ h => h) (Or.inl ⟨by rfl, ?_⟩) (by assumption) ?_
          · intro wz _; go_simp; try rfl
          try simp only [Act.put, List.getElem_toArray, List.getElem_cons_succ, List.getElem_cons_zero, List.setIfInBounds_toArray, List.set_cons_zero, List.set_cons_succ]
          refine wpStg_one (i := 12) (by kernel_rfl) rfl (fun K hK => ?_)
          go_simp
          refine hK.out _ _ ?_ (fun hHeld => ?_)
          · exact .skip (by kernel_rfl) .nil
          clear hK K
          try simp only [Act.put, List.getElem_toArray, List.getElem_cons_succ, List.getElem_cons_zero, List.setIfInBounds_toArray, List.set_cons_zero, List.set_cons_succ]
          refine wpStg_done (by kernel_rfl) ?_ _
          go_wp2_with fail
          have hw1 : IntKind.u32.wrap ((s : Int) + 1) = (s : Int) + 1 := by simp [IntKind.wrap, IntKind.bits, IntKind.signed]; omega
          go_roundw
          case rel => exact ⟨s + 1, _, _, _, by omega, by first | rfl | (congr 1; omega), HN2, O9.out⟩
          case measure => simp [intOf]; omega
    · obtain rfl : s = M + 1 := by omega
      have hle : ¬ ((M + 1 : Nat) : Int) ≤ (M : Int) := by omega
      obtain ⟨nq, nqc, rfl⟩ := owns_shapeK hml.ner
      obtain ⟨wq, wqc, rfl⟩ := owns_shapeK hml.whl
      have HS : Hid (MsH wr xb sb n m (.slice hp n hc) pp wq nq pc wqc nqc (M + 1) E F NR) := Lib.hid
        { blk := hml.blk
          ne := hml.ne
          hl := ⟨hp, hc, rfl⟩
          n8 := n8
          m8 := m8
          many := HMP.out
          pat := fun w' hg => HNP.out.next (hml.grown hg)
          whl := fun w' hg => Sl.of_owns (ownsRow_toM hml.whl fun k e => hg.block k (hml.whl.lt k e).2 fun c => owns_apartM hml.whl hml.sets (by decide) c.symm e) (by omega)
          ner := fun w' hg => Sl.of_owns (ownsRow_toM hml.ner fun k e => hg.block k (hml.ner.lt k e).2 fun c => hml.apart k e (by simpa using c)) (by omega)
          nrl := HNB.out.1
          nrb := HNB.out.2 }
      have HI : Hid (MsI wr sb m wr (mskW m [])) := Lib.hid ⟨grown_of_below (Below.refl _ _) _, by rw [mskW_nil]; exact hml.sets⟩
      obtain ⟨o, ho⟩ : ∃ o, findN m (FitW m E F) n [] = o := ⟨_, rfl⟩
      have HO := Lib.hid ho
      clear ho hml
      cases o with
      | none =>
        go_wp2_with (first
          | (go_at_call 46; refine (all_anyM _ n _ M (by omega) HM.out _).mono ?_; rintro e w2 ⟨rfl, rfl⟩)
          | (go_at_call 135; refine (minGrow_any HS.out HE.out HF.out HFI.out n [] _ _ _ rfl (by simp) (by rw [lackW_nil]) HI.out).mono ?_; rintro e w6 ⟨he6, hm6⟩; rw [HO.out] at he6 hm6; replace he6 : e = .returned (.bool false) := he6; subst he6; have HB6 := Lib.hid (HML.out.grown hm6.grw); clear hm6))
        go_ret
        exact ⟨_, rfl, .inl ⟨HO.out, rfl⟩, HB6.out⟩
      | some x =>
        go_wp2_with (first
          | (go_at_call 46; refine (all_anyM _ n _ M (by omega) HM.out _).mono ?_; rintro e w2 ⟨rfl, rfl⟩)
          | (go_at_call 135; refine (minGrow_any HS.out HE.out HF.out HFI.out n [] _ _ _ rfl (by simp) (by rw [lackW_nil]) HI.out).mono ?_; rintro e w6 ⟨he6, hm6⟩; rw [HO.out] at he6 hm6; replace he6 : e = .returned (.bool true) := he6; subst he6; have HB6 := Lib.hid (HML.out.grown hm6.grw); have c4 := (HS.out.blk.to (hm6.block HS.out.blk.lt HS.out.ne)).c4; have HW6 : Hid (w6.ownsRow w.heap.size 64 1 (.slice (some ⟨sb, 0, none⟩) m m) m ((mskW m x).map u32v)) := Lib.hid (ownsRow_base hm6.own HML.out.los); clear hm6))
        go_ret
        exact ⟨_, rfl, .inr ⟨x, sb, HO.out, rfl, HW6.out⟩, HB6.out⟩

end Go.Proofs.YtfokiijcpkhllaaDoor
