/- Walks: modulesOf, ModulesOf of the program. -/
import Derived.Test.YtmakhapdlkbbnaaDoorMlQ34
import Derived.Test.YtmakhapdlkbbnaaDoorMlQ15
import Derived.Deep.RegionLaw
import Derived.Deep.DeepCutAuto
import Derived.Deep.RegionHeld3
namespace Go.Proofs.YtmakhapdlkbbnaaDoor
open Go.RowKit Go.Sort

/-- The modules numbered below k, in the order of their numbers. -/
structure MdI (g : List (List Int)) (k : Nat) (l : List (Fin 256)) : Prop where
  nd : l.Nodup
  mem : ∀ x : Fin 256, x ∈ l ↔ 1 ≤ x.val ∧ x.val < k ∧ ModN g x.val
  len : l.length < k
theorem mdI_start (g : List (List Int)) : MdI g 1 [] := ⟨by simp, fun x => by
  constructor
  · intro h; simp at h
  · intro h; omega, by simp⟩
theorem mdI_skip {g : List (List Int)} {k : Nat} {l : List (Fin 256)} (h : MdI g k l) (hk : ¬ ModN g k) : MdI g (k + 1) l := ⟨h.nd, fun x => by
  rw [h.mem]
  constructor
  · rintro ⟨a, b, c⟩; exact ⟨a, by omega, c⟩
  · rintro ⟨a, b, c⟩
    by_cases e : x.val = k
    · rw [e] at c; exact absurd c hk
    · exact ⟨a, by omega, c⟩, by have := h.len; omega⟩
theorem mdI_put {g : List (List Int)} {k : Nat} {l : List (Fin 256)} (h : MdI g k l) (hk : ModN g k) (h1 : 1 ≤ k) (h2 : k < 256) : MdI g (k + 1) (l ++ [⟨k, h2⟩]) := ⟨by
  have hn : (⟨k, h2⟩ : Fin 256) ∉ l := fun hm => by have := ((h.mem _).1 hm).2.1; simp at this
  rw [List.nodup_append]
  refine ⟨h.nd, by simp, fun a ha b hb => ?_⟩
  obtain rfl : b = ⟨k, h2⟩ := by simpa using hb
  exact fun e => hn (e ▸ ha), fun x => by
  rw [List.mem_append, h.mem, List.mem_singleton]
  constructor
  · rintro (⟨a, b, c⟩ | rfl)
    · exact ⟨a, by omega, c⟩
    · exact ⟨h1, by simp, hk⟩
  · rintro ⟨a, b, c⟩
    by_cases e : x.val = k
    · exact .inr (Fin.ext e)
    · exact .inl ⟨a, by omega, c⟩, by have := h.len; simp; omega⟩

set_option maxRecDepth 100000 in
set_option maxHeartbeats 4000000 in
theorem modulesOf_any (g : List (List Int)) (xp : Option Addr) (xc : Nat) (hok : GOk g) (h8 : g.length ≤ 8) (w : World) (hx : Sl w 79 (.slice xp g.length xc) g.length ((netL g).map u32v)) (hT : Tab w) :
    Calls Tryd.prog 110 #[.slice xp g.length xc] w fun e w' => ∃ (v : Value) (l : List (Fin 256)), e = .returned v ∧ MdI g (2 ^ g.length) l ∧ w'.ownsRow w.heap.size 79 1 v l.length ((l.mergeSort fun x y => !ltOf cmpG y x).map encG) ∧ Below w.heap.size w w' := by
  have HX := Lib.hid hx
  have HT := Lib.hid hT
  have HTP := Lib.hid hT.pos
  have HOK := Lib.hid hok
  obtain ⟨M, hM⟩ : ∃ M, M = 2 ^ g.length := ⟨_, rfl⟩
  have hM1 : 1 ≤ M := by rw [hM]; exact Nat.two_pow_pos _
  have hM8 : M ≤ 256 := by
    rw [hM]
    exact Nat.le_trans (Nat.pow_le_pow_right (by decide) h8) (by decide)
  obtain ⟨N, hN⟩ : ∃ N, N = 2 ^ g.length - 1 := ⟨_, rfl⟩
  have HN := Lib.hid hN
  have hNM : N + 1 = M := by rw [hN, hM]; have := Nat.two_pow_pos g.length; omega
  have hN1 : N ≤ 255 := by omega
  have hNM2 : M - 1 ≤ N := by omega
  have hNM3 : N < M := by omega
  have HM := Lib.hid hM
  have HO0 := Lib.hid (ownsRow_empty w 79 1)
  have HB0 := Lib.hid (below_alloc w (.cells #[] 79))
  have heg : Hid (∀ args w, (callFunc 160 args).run Tryd.prog w = .ok (.enter 160 args) w) := Lib.hid (enters_of Tryd.func160 (by kernel_rfl) rfl)
  clear hx hT hok hM hN hNM
  go_enter Tryd.func110, Tryd.ntmps110
  go_wp2
  go_loopw [3, 4] (fun o sv wr => ∃ (k : Nat) (l : List (Fin 256)), 1 ≤ k ∧ k ≤ M ∧ sv = .int .u32 k ∧ MdI g k l ∧ wr.ownsRow w.heap.size 79 1 o l.length (l.map encG) ∧ Below w.heap.size w wr) (fun _ sv _ => M - (intOf sv).toNat)
  case atStart => exact ⟨1, [], Nat.le_refl _, hM1, rfl, mdI_start g, HO0.out, HB0.out⟩
  case round =>
    obtain ⟨k, l, hk1, hk, rfl, hI, hown, hbel⟩ := hrel
    have HI := Lib.hid hI
    have hll := hI.len
    have hsz := hbel.size
    have Hbel := Lib.hid hbel
    have Hown := Lib.hid hown
    clear hI hown hbel
    by_cases hlt : k ≤ N
    · have hki : (k : Int) ≤ (N : Int) := by omega
      have hk8 : k < 256 := by omega
      have hwr : IntKind.u32.wrap ((k : Int) + 1) = (k : Int) + 1 := by rw [IntKind.wrap_u32']; omega
      have HSP : Hid (Calls Tryd.prog 107 #[.slice xp g.length xc, .int .u32 N, .int .u32 k] wr fun e w' => ∃ z : Nat, e = .returned (.int .u32 z) ∧ z < 65536 ∧ (z = 0 ↔ ModN g k) ∧ Below wr.heap.size wr w') := Lib.hid (splitters_any g xp xc _ _ N k rfl rfl HN.out (by rw [← HM.out]; omega) HOK.out wr (HX.out.below Hbel.out) (HT.out.below Hbel.out HTP.out))
      by_cases hm : ModN g k
      · have HMm := Lib.hid hm
        clear hm
        go_wp2_with (first
          | (go_at_call 107; refine HSP.out.mono ?_; rintro e w4 ⟨z, rfl, hz16, hz0, hb4⟩; obtain rfl : z = 0 := hz0.2 HMm.out; have HO4 := Lib.hid (ownsRow_below Hown.out hb4); have HB4 := Lib.hid (Hbel.out.trans (hb4.mono hsz)); have hs4 := HB4.out.size; clear hz0 hb4)
          | (at_builtin; refine wpList_app1 tyM_vsets rfl rfl rfl HO4.out rfl rfl (by omega) hs4 ?_; intro v' w5 hown' hg _)
          | (go_at_call 98; refine (all_any _ _ _ (by omega) _).mono ?_; rintro e w2 ⟨he2, hw2⟩; rw [← HN.out] at he2; subst he2; subst hw2))
        go_roundw
        case rel => exact ⟨k + 1, l ++ [⟨k, hk8⟩], by omega, by omega, by go_num, mdI_put HI.out HMm.out hk1 hk8, by rw [List.length_append, List.map_append]; exact hown', below_grown HB4.out HO4.out hg (Nat.le_refl _) hs4⟩
        case measure => simp [intOf]; omega
      · have HMm := Lib.hid hm
        clear hm
        go_wp2_with (first
          | (go_at_call 107; refine HSP.out.mono ?_; rintro e w4 ⟨z, rfl, hz16, hz0, hb4⟩; have hzn : ((z : Int) == 0) = false := (by have : z ≠ 0 := (fun h => HMm.out (hz0.1 h)); simp; omega); have HO4 := Lib.hid (ownsRow_below Hown.out hb4); have HB4 := Lib.hid (Hbel.out.trans (hb4.mono hsz)); clear hz0 hb4)
          | (go_at_call 98; refine (all_any _ _ _ (by omega) _).mono ?_; rintro e w2 ⟨he2, hw2⟩; rw [← HN.out] at he2; subst he2; subst hw2))
        go_roundw
        case rel => exact ⟨k + 1, l, by omega, by omega, by go_num, mdI_skip HI.out HMm.out, HO4.out, HB4.out⟩
        case measure => simp [intOf]; omega
    · obtain rfl : k = M := by omega
      have hki : ¬ (k : Int) ≤ (N : Int) := by omega
      go_wp2_with (first
        | (go_at_call 159; refine (sortG_any 160 heg.out cmpG swoG totG cmpOkGS _ l w.heap.size _ Hown.out (HT.out.below Hbel.out HTP.out) HTP.out (by omega)).mono ?_; rintro e w4 ⟨rfl, ho4, hg4⟩; have HO4 := Lib.hid ho4; clear ho4)
        | (go_at_call 98; refine (all_any _ _ _ (by omega) _).mono ?_; rintro e w2 ⟨he2, hw2⟩; rw [← HN.out] at he2; subst he2; subst hw2))
      go_ret
      exact ⟨_, l, rfl, by rw [← HM.out]; exact HI.out, HO4.out, below_grown Hbel.out Hown.out hg4 (Nat.le_refl _) hsz⟩

end Go.Proofs.YtmakhapdlkbbnaaDoor

/- Walks: ModulesOf of the program. -/
namespace Go.Proofs.YtmakhapdlkbbnaaDoor
open Go.RowKit Go.Sort

theorem rows_srt (l : List (Fin 256)) : rowsOf ((l.mergeSort fun x y => !ltOf cmpG y x).map Fin.val) = (srtG l).map natInts := by
  unfold rowsOf srtG
  rw [List.map_map, List.map_map]
  rfl
theorem md_rows {g : List (List Int)} {L : List (List Nat)} (h8 : g.length ≤ 8) (h : MdOn (ModN g) (2 ^ g.length) L) (j : Nat) : (row (L.map natInts) j).length ≤ 32 := by
  by_cases hj : j < L.length
  · have e : row (L.map natInts) j = natInts L[j] := by simp [row, hj]
    rw [e, natInts_length]
    obtain ⟨s, _, _, _, h4⟩ := (h.mem _).1 (List.getElem_mem hj)
    rw [h4]
    exact bitsOf_length s
  · simp [row, hj]

set_option maxRecDepth 100000 in
set_option maxHeartbeats 2000000 in
theorem implModulesOf_any (v : Value) (g : List (List Int)) (w : World) (hg : Gr w v g) (hT : Tab w) :
    Calls Tryd.prog 33 #[v] w fun e w' => ∃ (u : Value) (gg : List (List Int)), e = .returned u ∧ MdS g gg ∧ DG w' w.heap.size (.agg #[u]) gg ∧ gg.length ≤ 65536 ∧ (∀ j, (row gg j).length ≤ 32) ∧ Below w.heap.size w w' := by
  have hg0 := hg
  obtain ⟨u, rfl, hr⟩ := hg
  obtain ⟨p, c, rfl, _⟩ := hr.shape
  have hbA := Lib.hid (below_alloc w (.cells #[.slice p g.length c] 29))
  have HG := Lib.hid (hg0.below hbA.out)
  have BX := Lib.hid (Box.new w (.slice p g.length c) 29)
  have HT := Lib.hid (hT.keep hbA.out)
  clear hr hg0 hT
  by_cases hok : GOk g ∧ g.length ≤ 8
  case neg =>
    have hd := dec_false hok
    have Hok := Lib.hid hok
    clear hok
    go_enter Tryd.func33, Tryd.ntmps33
    go_wp2_with (go_at_call 109; refine (isSmall_any _ g _ HG.out).mono ?_; rintro e w2 ⟨he, hb2⟩; rw [hd] at he; subst he)
    go_ret
    exact ⟨_, [], rfl, .inr ⟨Hok.out, rfl⟩, ⟨_, [], rfl, rfl, World.ownsRow_nil _ _ _ _, ⟨fun j hj => by simp at hj, fun i j hi => by simp at hi⟩⟩, by simp, fun j => by simp [row], hbA.out.trans (hb2.mono hbA.out.size)⟩
  have hd := dec_true hok
  have HOK := Lib.hid hok
  have h16 := hok.1.le
  have hM8 : 2 ^ g.length ≤ 256 := Nat.le_trans (Nat.pow_le_pow_right (by decide) hok.2) (by decide)
  have HM8 := Lib.hid hM8
  clear hok hM8
  go_enter Tryd.func33, Tryd.ntmps33
  go_wp2_with (first
    | (go_at_call 109; refine (isSmall_any _ g _ HG.out).mono ?_; rintro e w2 ⟨he, hb2⟩; rw [hd] at he; subst he; have hbx := (BX.out.keep hb2).cell)
    | (go_at_call 82; refine (netsOf_any _ g _ (HG.out.below hb2) HOK.out.1).mono ?_; rintro e w3 ⟨x, rfl, hown3, hb3⟩; have HX3 := Lib.hid (Sl.of_owns hown3 (by omega)); obtain ⟨xp, xc, rfl⟩ := owns_shapeA hown3; have HT3 := Lib.hid ((HT.out.keep hb2).keep hb3); clear hown3)
    | (go_at_call 110; refine (modulesOf_any g xp xc HOK.out.1 HOK.out.2 _ HX3.out HT3.out).mono ?_; rintro e w4 ⟨cv, l, rfl, hI, ho4, hb4⟩; have HI := Lib.hid hI; have HLL : Hid (((l.mergeSort fun x y => !ltOf cmpG y x).map Fin.val).length ≤ 100000) := Lib.hid (by have := HI.out.len; have := HM8.out; simp; omega); have HS4 : Hid (Sl w4 79 cv ((l.mergeSort fun x y => !ltOf cmpG y x).map Fin.val).length (((l.mergeSort fun x y => !ltOf cmpG y x).map Fin.val).map u32v)) := Lib.hid (by have h := Sl.of_owns ho4 (by have := HI.out.len; have := HM8.out; omega); rw [List.map_map, List.length_map, List.length_mergeSort]; exact h); clear ho4 hI)
    | (go_at_call 96; refine (results_any _ ((l.mergeSort fun x y => !ltOf cmpG y x).map Fin.val) (fun s hs => by obtain ⟨x, _, rfl⟩ := List.mem_map.1 hs; have := x.isLt; omega) HLL.out _ HS4.out (HT3.out.keep hb4)).mono ?_; rintro e w5 ⟨rv, rfl, hd5, hb5⟩; have HD5 := Lib.hid hd5; clear hd5))
  go_ret
  have s0 := hbA.out.size
  have s2 := hb2.size
  have s3 := hb3.size
  have s4 := hb4.size
  have hd5 := HD5.out
  rw [rows_srt] at hd5
  have hon := srtG_on HM8.out HI.out.nd HI.out.mem
  exact ⟨_, _, rfl, .inl ⟨HOK.out, _, hon, rfl⟩, DG.base hd5 (by omega), by
    have := HI.out.len
    have := HM8.out
    simp only [srtG, List.length_map, List.length_mergeSort]
    omega, md_rows HOK.out.2 hon, (((hbA.out.trans (hb2.mono s0)).trans (hb3.mono (by omega))).trans (hb4.mono (by omega))).trans (hb5.mono (by omega))⟩

end Go.Proofs.YtmakhapdlkbbnaaDoor

/- What a law's bytes read as. -/
namespace Go.Proofs.YtmakhapdlkbbnaaDoor
open Go.RowKit

def ArgB (w : World) (v : Value) (bs : List Int) : Prop := ∃ p c, v = .slice p bs.length c ∧ bs.length ≤ 9223372036854775807 ∧ (∀ x ∈ bs, 0 ≤ x ∧ x ≤ 255) ∧ Cl w p (bs.map (Value.int .u8))
theorem ArgB.below {w w' : World} {v : Value} {bs : List Int} (h : ArgB w v bs) (hb : Below w.heap.size w w') : ArgB w' v bs := by
  obtain ⟨p, c, h1, h2, h3, h4⟩ := h
  exact ⟨p, c, h1, h2, h3, h4.below hb⟩
theorem ArgB.get {w : World} {p : Option Addr} {n c : Nat} {bs : List Int} (h : ArgB w (.slice p n c) bs) {k : Nat} (hk : k < bs.length) :
    ∃ b o, p = some ⟨b, o, none⟩ ∧ w.cell? ⟨b, o + k, none⟩ = some (.int .u8 bs[k]) ∧ 0 ≤ bs[k] ∧ bs[k] ≤ 255 := by
  obtain ⟨p', c', e, _, h3, h4⟩ := h
  cases e
  rcases h4 with h4 | ⟨b, o, rfl, h5⟩
  · rw [List.map_eq_nil_iff] at h4
    subst h4
    simp at hk
  · refine ⟨b, o, rfl, h5 k _ (by simp [hk]), h3 _ (List.getElem_mem hk)⟩

end Go.Proofs.YtmakhapdlkbbnaaDoor

/- Walks: the laws' dice (big, roll, below). -/
namespace Go.Proofs.YtmakhapdlkbbnaaDoor
open Go.RowKit

structure BoxD (w : World) (b : Nat) (x y z : Value) : Prop where
  blk : w.heap[b]? = some (.cells #[x, y, z] 73 (0, 0))
section
variable {w w' : World} {b : Nat} {x y z : Value}
theorem BoxD.c0 (h : BoxD w b x y z) : w.cell? ⟨b, 0, none⟩ = some x := by unfold World.cell?; rw [h.blk]; rfl
theorem BoxD.c1 (h : BoxD w b x y z) : w.cell? ⟨b, 1, none⟩ = some y := by unfold World.cell?; rw [h.blk]; rfl
theorem BoxD.c2 (h : BoxD w b x y z) : w.cell? ⟨b, 2, none⟩ = some z := by unfold World.cell?; rw [h.blk]; rfl
theorem BoxD.free (h : BoxD w b x y z) (i : Nat) : w.frozen? ⟨b, i, none⟩ = false := by simp [World.frozen?, h.blk]
theorem BoxD.lt (h : BoxD w b x y z) : b < w.heap.size := lt_of_block h.blk
theorem BoxD.new (w : World) (x y z : Value) : BoxD (w.alloc (.cells #[x, y, z] 73)) w.heap.size x y z := ⟨heap_alloc_new w _⟩
theorem BoxD.to (h : BoxD w b x y z) (hk : w'.heap[b]? = w.heap[b]?) : BoxD w' b x y z := ⟨hk.trans h.blk⟩
theorem BoxD.s1 (h : BoxD w b x y z) (u : Value) : BoxD (w.setCell ⟨b, 1, none⟩ u) b x u z := ⟨by have := heap_setCell_same w b 1 _ _ u h.blk; simpa using this⟩
theorem BoxD.s2 (h : BoxD w b x y z) (u : Value) : BoxD (w.setCell ⟨b, 2, none⟩ u) b x y u := ⟨by have := heap_setCell_same w b 2 _ _ u h.blk; simpa using this⟩
theorem BoxD.keep (h : BoxD w b x y z) (hb : Below w.heap.size w w') : BoxD w' b x y z := h.to (hb.block b h.lt)
end

theorem grown_setD (w : World) (b i : Nat) (u : Value) : w.grownBy (w.setCell ⟨b, i, none⟩ u) (some b) :=
  ⟨rfl, rfl, rfl, by rw [World.size_setCell]; exact Nat.le_refl _, fun k _ hne => Below.heap_setCell _ _ _ _ (fun e => hne (by simp only at e; rw [e]))⟩

/-- The dice stand in block db: the bytes, how many were read, a number. -/
structure Dice (w0 w : World) (db : Nat) (bs : List Int) : Prop where
  ex : ∃ (bv : Value) (i : Nat) (h : Int), BoxD w db bv (.int .i64 i) (.int .u64 h) ∧ i ≤ bs.length ∧ ArgB w0 bv bs
  few : bs.length ≤ 4096
  lo : w0.heap.size ≤ db
  bel : Below w0.heap.size w0 w
theorem Dice.keep {w0 w w' : World} {db : Nat} {bs : List Int} (h : Dice w0 w db bs) (hb : Below w.heap.size w w') : Dice w0 w' db bs := by
  obtain ⟨bv, i, z, h1, h2, h3⟩ := h.ex
  exact ⟨⟨bv, i, z, h1.keep hb, h2, h3⟩, h.few, h.lo, h.bel.trans (hb.mono h.bel.size)⟩
theorem below_grownD {w0 w w' : World} {cb : Nat} (h : Below w0.heap.size w0 w) (hg : w.grownBy w' (some cb)) (hl : w0.heap.size ≤ cb) : Below w0.heap.size w0 w' :=
  ⟨hg.os.trans h.os, hg.tape.trans h.tape, hg.output.trans h.output, Nat.le_trans h.size hg.size, fun k hk => (hg.block k (Nat.lt_of_lt_of_le hk h.size) (fun e => by simp only [Option.some.injEq] at e; omega)).trans (h.block k hk)⟩
theorem andM (x : Int) : ∃ r : Nat, bits BinOp.and IntKind.u64 x 16777215 = (r : Int) ∧ r ≤ 16777215 := by
  refine ⟨(BitVec.ofInt 64 x &&& BitVec.ofInt 64 16777215).toNat, ?_, ?_⟩
  · show IntKind.u64.wrap ((BitVec.ofInt 64 x &&& BitVec.ofInt 64 16777215).toNat : Int) = _
    have h : (BitVec.ofInt 64 x &&& BitVec.ofInt 64 16777215).toNat ≤ 16777215 := by
      rw [BitVec.toNat_and]
      exact Nat.le_trans Nat.and_le_right (by decide)
    generalize (BitVec.ofInt 64 x &&& BitVec.ofInt 64 16777215).toNat = r at h
    simp [IntKind.wrap, IntKind.bits, IntKind.signed]
    omega
  · rw [BitVec.toNat_and]
    exact Nat.le_trans Nat.and_le_right (by decide)

set_option maxRecDepth 100000 in
theorem big_any (v : Value) (bs : List Int) (w : World) (h : ArgB w v bs) :
    Calls Tryd.prog 11 #[v] w fun e w' => e = .returned (.bool (decide (4096 < bs.length))) ∧ w = w' := by
  obtain ⟨p, c, rfl, hl, _⟩ := h
  go_enter Tryd.func11, Tryd.ntmps11
  go_wp2
  go_ret
  exact ⟨ret_bool (by simp; omega), rfl⟩

set_option maxRecDepth 100000 in
set_option maxHeartbeats 4000000 in
theorem below_any (w0 : World) (cb : Nat) (bs : List Int) (k : Nat) (n : Int) (hkn : n = k) (hkp : 0 < k) (hk : k ≤ 1000000) (w : World) (hc : Dice w0 w cb bs) :
    Calls Tryd.prog 26 #[.pointer (some ⟨cb, 0, none⟩), .int .i64 n] w fun e w' => ∃ r : Nat, e = .returned (.int .i64 (r : Int)) ∧ r < k ∧ Dice w0 w' cb bs ∧ w.grownBy w' (some cb) := by
  subst hkn
  have hk0 : ((k : Int) == 0) = false := by simp; omega
  have htm : ∀ r : Nat, Int.tmod (r : Int) (k : Int) = ((r % k : Nat) : Int) := fun r => (Int.ofNat_tmod r k).symm
  have HML : Hid (∀ r : Nat, r % k < k) := Lib.hid (fun r => Nat.mod_lt r hkp)
  obtain ⟨⟨bv, i, h, hb, hi, ha⟩, few, lo, bel⟩ := hc
  obtain ⟨bp, bc, e, ha2⟩ := id ha
  subst e
  have c2 := hb.c2
  have f2 := hb.free 2
  have HB := Lib.hid hb
  have HA := Lib.hid ha
  have HBEL := Lib.hid bel
  clear ha2 ha hb bel
  go_enter Tryd.func26, Tryd.ntmps26
  go_upto_region 1 with fail
  go_cut [14] (fun _ wx => ∃ h2 : Int, wx = w.setCell ⟨cb, 2, none⟩ (.int .u64 h2))
  case first =>
    go_wp2
    go_meet
    exact ⟨_, rfl⟩
  case rest =>
    obtain ⟨h2, rfl⟩ := hcut
    have HB2 := Lib.hid (HB.out.s2 (.int .u64 h2))
    have HG2 := Lib.hid (grown_setD w cb 2 (.int .u64 h2))
    have c2 := HB2.out.c2
    obtain ⟨w2, hw2⟩ : ∃ w2, w2 = w.setCell ⟨cb, 2, none⟩ (.int .u64 h2) := ⟨_, rfl⟩
    rw [← hw2] at c2 HB2 HG2 ⊢
    clear hw2 f2
    obtain ⟨r, hr1, hr⟩ := andM (h2 / 8589934592)
    have hrw : wrap64 (bits BinOp.and IntKind.u64 (h2 / 8589934592) 16777215) = (r : Int) := by rw [hr1]; unfold wrap64; omega
    have c0 := HB2.out.c0
    have c1 := HB2.out.c1
    go_upto_region 3 with fail
    go_cut [31] (fun s wx => s = .bool (decide (i < bs.length)) ∧ Below w2.heap.size w2 wx)
    case first =>
      go_region_held3 (fun w' => w'.cell? ⟨cb, 1, none⟩ = some (.int .i64 i) ∧ w'.cell? ⟨cb, 0, none⟩ = some (.slice bp bs.length bc))
        (first | go_keep | exact ⟨c1, c0⟩)
        (fail)
      all_goals go_wp2
      all_goals go_meet
      all_goals exact ⟨rfl, below_dN (Below.refl _ _) _⟩
    case rest =>
      obtain ⟨rfl, hb4⟩ := hcut
      have HB4 := Lib.hid (HB2.out.keep hb4)
      have HG4 := Lib.hid (grown_trans HG2.out (grown_of_below hb4 _))
      have HL4 := Lib.hid (below_grownD HBEL.out HG4.out lo)
      have c0 := HB4.out.c0
      have c1 := HB4.out.c1
      clear hb4 c2
      by_cases hlt : i < bs.length
      · obtain ⟨xb, xo, rfl, hcx, hx0, hx1⟩ := (HA.out.below HL4.out).get hlt
        generalize bs[i] = x at hcx hx0 hx1
        have hdt : decide (i < bs.length) = true := by simp [hlt]
        have e0 : (0 : Int) ≤ (i : Int) := by omega
        have e1 : (i : Int) < (bs.length : Int) := by omega
        obtain ⟨y, rfl⟩ : ∃ y : Nat, x = (y : Int) := ⟨x.toNat, by omega⟩
        have hwy : IntKind.i64.wrap (y : Int) = (y : Int) := by rw [IntKind.wrap_i64]; omega
        have hws : IntKind.i64.wrap ((r : Int) + (y : Int)) = ((r + y : Nat) : Int) := by rw [IntKind.wrap_i64]; omega
        go_upto_region 4 with fail
        go_cut [5] (fun s wx => s = .int .i64 ((r + y : Nat) : Int) ∧ Below wc.heap.size wc wx)
        case first =>
          go_region_held3 (fun w' => w'.cell? ⟨cb, 1, none⟩ = some (.int .i64 i) ∧ w'.cell? ⟨cb, 0, none⟩ = some (.slice (some ⟨xb, xo, none⟩) bs.length bc) ∧ w'.cell? ⟨xb, xo + i, none⟩ = some (.int .u8 (y : Int)))
            (first | go_keep | exact ⟨c1, c0, hcx⟩)
            (fail)
          all_goals go_wp2
          all_goals go_meet
          all_goals exact ⟨by first | rfl | exact val_int (by omega), below_dN (Below.refl _ _) _⟩
        case rest =>
          obtain ⟨rfl, hb5⟩ := hcut
          have HB5 := Lib.hid (HB4.out.keep hb5)
          have HG5 := Lib.hid (grown_trans HG4.out (grown_of_below hb5 _))
          have c1 := HB5.out.c1
          have f1 := HB5.out.free 1
          have htm2 := htm (r + y)
          clear hb5 hcx c0 htm
          generalize r + y = z at *
          go_wp2
          go_ret
          have HB6 := HB5.out.s1 (.int .i64 ((i + 1 : Nat) : Int))
          have HG6 := grown_trans HG5.out (grown_setD wc cb 1 (.int .i64 ((i + 1 : Nat) : Int)))
          exact ⟨z % k, by first | rfl | (rw [← htm2]; rfl), HML.out _, ⟨⟨_, i + 1, h2, HB6, by omega, HA.out⟩, few, lo, below_grownD HBEL.out HG6 lo⟩, HG6⟩
      · have hdt : decide (i < bs.length) = false := by simp [hlt]
        have htm2 := htm r
        go_wp2
        go_ret
        exact ⟨r % k, by first | rfl | (rw [← htm2]; rfl), HML.out _, ⟨⟨_, i, h2, HB4.out, hi, HA.out⟩, few, lo, HL4.out⟩, HG4.out⟩

end Go.Proofs.YtmakhapdlkbbnaaDoor
