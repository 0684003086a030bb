/- Walks: modulesOf, ModulesOf of the program. -/
import Derived.Test.YtdkmnmnncccgaaaDoorMdQ42
namespace Go.Proofs.YtdkmnmnncccgaaaDoor
open Go.RowKit Go.Sort

/-- The modules numbered below k, in the order of their numbers. -/
structure MdI (g : List (List Int)) (k : Nat) (l : List (Fin 256)) : Prop where
  nd : l.Nodup
  mem : ∀ x : Fin 256, x ∈ l ↔ 1 ≤ x.val ∧ x.val < k ∧ ModN g x.val
  len : l.length < k
theorem mdI_start (g : List (List Int)) : MdI g 1 [] := ⟨by simp, fun x => by
  constructor
  · intro h; simp at h
  · intro h; omega, by simp⟩
theorem mdI_skip {g : List (List Int)} {k : Nat} {l : List (Fin 256)} (h : MdI g k l) (hk : ¬ ModN g k) : MdI g (k + 1) l := ⟨h.nd, fun x => by
  rw [h.mem]
  constructor
  · rintro ⟨a, b, c⟩; exact ⟨a, by omega, c⟩
  · rintro ⟨a, b, c⟩
    by_cases e : x.val = k
    · rw [e] at c; exact absurd c hk
    · exact ⟨a, by omega, c⟩, by have := h.len; omega⟩
theorem mdI_put {g : List (List Int)} {k : Nat} {l : List (Fin 256)} (h : MdI g k l) (hk : ModN g k) (h1 : 1 ≤ k) (h2 : k < 256) : MdI g (k + 1) (l ++ [⟨k, h2⟩]) := ⟨by
  have hn : (⟨k, h2⟩ : Fin 256) ∉ l := fun hm => by have := ((h.mem _).1 hm).2.1; simp at this
  rw [List.nodup_append]
  refine ⟨h.nd, by simp, fun a ha b hb => ?_⟩
  obtain rfl : b = ⟨k, h2⟩ := by simpa using hb
  exact fun e => hn (e ▸ ha), fun x => by
  rw [List.mem_append, h.mem, List.mem_singleton]
  constructor
  · rintro (⟨a, b, c⟩ | rfl)
    · exact ⟨a, by omega, c⟩
    · exact ⟨h1, by simp, hk⟩
  · rintro ⟨a, b, c⟩
    by_cases e : x.val = k
    · exact .inr (Fin.ext e)
    · exact .inl ⟨a, by omega, c⟩, by have := h.len; simp; omega⟩

set_option maxRecDepth 100000 in
set_option maxHeartbeats 4000000 in
theorem modulesOf_any (g : List (List Int)) (xp : Option Addr) (xc : Nat) (hok : GOk g) (h8 : g.length ≤ 8) (w : World) (hx : Sl w 50 (.slice xp g.length xc) g.length ((netL g).map u32v)) (hT : Tab w) :
    Calls Tryd.prog 38 #[.slice xp g.length xc] w fun e w' => ∃ (v : Value) (l : List (Fin 256)), e = .returned v ∧ MdI g (2 ^ g.length) l ∧ w'.ownsRow w.heap.size 50 1 v l.length ((l.mergeSort fun x y => !ltOf cmpG y x).map encG) ∧ Below w.heap.size w w' := by
  have HX := Lib.hid hx
  have HT := Lib.hid hT
  have HTP := Lib.hid hT.pos
  have HOK := Lib.hid hok
  obtain ⟨M, hM⟩ : ∃ M, M = 2 ^ g.length := ⟨_, rfl⟩
  have hM1 : 1 ≤ M := by rw [hM]; exact Nat.two_pow_pos _
  have hM8 : M ≤ 256 := by
    rw [hM]
    exact Nat.le_trans (Nat.pow_le_pow_right (by decide) h8) (by decide)
  obtain ⟨N, hN⟩ : ∃ N, N = 2 ^ g.length - 1 := ⟨_, rfl⟩
  have HN := Lib.hid hN
  have hNM : N + 1 = M := by rw [hN, hM]; have := Nat.two_pow_pos g.length; omega
  have hN1 : N ≤ 255 := by omega
  have hNM2 : M - 1 ≤ N := by omega
  have hNM3 : N < M := by omega
  have HM := Lib.hid hM
  have HO0 := Lib.hid (ownsRow_empty w 50 1)
  have HB0 := Lib.hid (below_alloc w (.cells #[] 50))
  have heg : Hid (∀ args w, (callFunc 62 args).run Tryd.prog w = .ok (.enter 62 args) w) := Lib.hid (enters_of Tryd.func62 (by kernel_rfl) rfl)
  clear hx hT hok hM hN hNM
  go_enter Tryd.func38, Tryd.ntmps38
  go_wp2
  go_loopw [3, 4] (fun o sv wr => ∃ (k : Nat) (l : List (Fin 256)), 1 ≤ k ∧ k ≤ M ∧ sv = .int .u32 k ∧ MdI g k l ∧ wr.ownsRow w.heap.size 50 1 o l.length (l.map encG) ∧ Below w.heap.size w wr) (fun _ sv _ => M - (intOf sv).toNat)
  case atStart => exact ⟨1, [], Nat.le_refl _, hM1, rfl, mdI_start g, HO0.out, HB0.out⟩
  case round =>
    obtain ⟨k, l, hk1, hk, rfl, hI, hown, hbel⟩ := hrel
    have HI := Lib.hid hI
    have hll := hI.len
    have hsz := hbel.size
    have Hbel := Lib.hid hbel
    have Hown := Lib.hid hown
    clear hI hown hbel
    by_cases hlt : k ≤ N
    · have hki : (k : Int) ≤ (N : Int) := by omega
      have hk8 : k < 256 := by omega
      have hwr : IntKind.u32.wrap ((k : Int) + 1) = (k : Int) + 1 := by rw [IntKind.wrap_u32']; omega
      have HSP : Hid (Calls Tryd.prog 60 #[.slice xp g.length xc, .int .u32 N, .int .u32 k] wr fun e w' => ∃ z : Nat, e = .returned (.int .u32 z) ∧ z < 65536 ∧ (z = 0 ↔ ModN g k) ∧ Below wr.heap.size wr w') := Lib.hid (splitters_any g xp xc _ _ N k rfl rfl HN.out (by rw [← HM.out]; omega) HOK.out wr (HX.out.below Hbel.out) (HT.out.below Hbel.out HTP.out))
      by_cases hm : ModN g k
      · have HMm := Lib.hid hm
        clear hm
        go_wp2_with (first
          | (go_at_call 60; refine HSP.out.mono ?_; rintro e w4 ⟨z, rfl, hz16, hz0, hb4⟩; obtain rfl : z = 0 := hz0.2 HMm.out; have HO4 := Lib.hid (ownsRow_below Hown.out hb4); have HB4 := Lib.hid (Hbel.out.trans (hb4.mono hsz)); have hs4 := HB4.out.size; clear hz0 hb4)
          | (at_builtin; refine wpList_app1 tyM_vsets rfl rfl rfl HO4.out rfl rfl (by omega) hs4 ?_; intro v' w5 hown' hg _)
          | (go_at_call 59; refine (all_any _ _ _ (by omega) _).mono ?_; rintro e w2 ⟨he2, hw2⟩; rw [← HN.out] at he2; subst he2; subst hw2))
        go_roundw
        case rel => exact ⟨k + 1, l ++ [⟨k, hk8⟩], by omega, by omega, by go_num, mdI_put HI.out HMm.out hk1 hk8, by rw [List.length_append, List.map_append]; exact hown', below_grown HB4.out HO4.out hg (Nat.le_refl _) hs4⟩
        case measure => simp [intOf]; omega
      · have HMm := Lib.hid hm
        clear hm
        go_wp2_with (first
          | (go_at_call 60; refine HSP.out.mono ?_; rintro e w4 ⟨z, rfl, hz16, hz0, hb4⟩; have hzn : ((z : Int) == 0) = false := (by have : z ≠ 0 := (fun h => HMm.out (hz0.1 h)); simp; omega); have HO4 := Lib.hid (ownsRow_below Hown.out hb4); have HB4 := Lib.hid (Hbel.out.trans (hb4.mono hsz)); clear hz0 hb4)
          | (go_at_call 59; refine (all_any _ _ _ (by omega) _).mono ?_; rintro e w2 ⟨he2, hw2⟩; rw [← HN.out] at he2; subst he2; subst hw2))
        go_roundw
        case rel => exact ⟨k + 1, l, by omega, by omega, by go_num, mdI_skip HI.out HMm.out, HO4.out, HB4.out⟩
        case measure => simp [intOf]; omega
    · obtain rfl : k = M := by omega
      have hki : ¬ (k : Int) ≤ (N : Int) := by omega
      go_wp2_with (first
        | (go_at_call 61; refine (sortG_any 62 heg.out cmpG swoG totG cmpOkGS _ l w.heap.size _ Hown.out (HT.out.below Hbel.out HTP.out) HTP.out (by omega)).mono ?_; rintro e w4 ⟨rfl, ho4, hg4⟩; have HO4 := Lib.hid ho4; clear ho4)
        | (go_at_call 59; refine (all_any _ _ _ (by omega) _).mono ?_; rintro e w2 ⟨he2, hw2⟩; rw [← HN.out] at he2; subst he2; subst hw2))
      go_ret
      exact ⟨_, l, rfl, by rw [← HM.out]; exact HI.out, HO4.out, below_grown Hbel.out Hown.out hg4 (Nat.le_refl _) hsz⟩

end Go.Proofs.YtdkmnmnncccgaaaDoor

/- Walks: ModulesOf of the program. -/
namespace Go.Proofs.YtdkmnmnncccgaaaDoor
open Go.RowKit Go.Sort

theorem rows_srt (l : List (Fin 256)) : rowsOf ((l.mergeSort fun x y => !ltOf cmpG y x).map Fin.val) = (srtG l).map natInts := by
  unfold rowsOf srtG
  rw [List.map_map, List.map_map]
  rfl
theorem md_rows {g : List (List Int)} {L : List (List Nat)} (h8 : g.length ≤ 8) (h : MdOn (ModN g) (2 ^ g.length) L) (j : Nat) : (row (L.map natInts) j).length ≤ 32 := by
  by_cases hj : j < L.length
  · have e : row (L.map natInts) j = natInts L[j] := by simp [row, hj]
    rw [e, natInts_length]
    obtain ⟨s, _, _, _, h4⟩ := (h.mem _).1 (List.getElem_mem hj)
    rw [h4]
    exact bitsOf_length s
  · simp [row, hj]

set_option maxRecDepth 100000 in
set_option maxHeartbeats 2000000 in
theorem implModulesOf_any (v : Value) (g : List (List Int)) (w : World) (hg : Gr w v g) (hT : Tab w) :
    Calls Tryd.prog 16 #[v] w fun e w' => ∃ (u : Value) (gg : List (List Int)), e = .returned u ∧ MdS g gg ∧ DG w' w.heap.size (.agg #[u]) gg ∧ gg.length ≤ 65536 ∧ (∀ j, (row gg j).length ≤ 32) ∧ Below w.heap.size w w' := by
  have hg0 := hg
  obtain ⟨u, rfl, hr⟩ := hg
  obtain ⟨p, c, rfl, _⟩ := hr.shape
  have hbA := Lib.hid (below_alloc w (.cells #[.slice p g.length c] 29))
  have HG := Lib.hid (hg0.below hbA.out)
  have BX := Lib.hid (Box.new w (.slice p g.length c) 29)
  have HT := Lib.hid (hT.keep hbA.out)
  clear hr hg0 hT
  by_cases hok : GOk g ∧ g.length ≤ 8
  case neg =>
    have hd := dec_false hok
    have Hok := Lib.hid hok
    clear hok
    go_enter Tryd.func16, Tryd.ntmps16
    go_wp2_with (go_at_call 29; refine (isSmall_any _ g _ HG.out).mono ?_; rintro e w2 ⟨he, hb2⟩; rw [hd] at he; subst he)
    go_ret
    exact ⟨_, [], rfl, .inr ⟨Hok.out, rfl⟩, ⟨_, [], rfl, rfl, World.ownsRow_nil _ _ _ _, ⟨fun j hj => by simp at hj, fun i j hi => by simp at hi⟩⟩, by simp, fun j => by simp [row], hbA.out.trans (hb2.mono hbA.out.size)⟩
  have hd := dec_true hok
  have HOK := Lib.hid hok
  have h16 := hok.1.le
  have hM8 : 2 ^ g.length ≤ 256 := Nat.le_trans (Nat.pow_le_pow_right (by decide) hok.2) (by decide)
  have HM8 := Lib.hid hM8
  clear hok hM8
  go_enter Tryd.func16, Tryd.ntmps16
  go_wp2_with (first
    | (go_at_call 29; refine (isSmall_any _ g _ HG.out).mono ?_; rintro e w2 ⟨he, hb2⟩; rw [hd] at he; subst he; have hbx := (BX.out.keep hb2).cell)
    | (go_at_call 30; refine (netsOf_any _ g _ (HG.out.below hb2) HOK.out.1).mono ?_; rintro e w3 ⟨x, rfl, hown3, hb3⟩; have HX3 := Lib.hid (Sl.of_owns hown3 (by omega)); obtain ⟨xp, xc, rfl⟩ := owns_shapeA hown3; have HT3 := Lib.hid ((HT.out.keep hb2).keep hb3); clear hown3)
    | (go_at_call 38; refine (modulesOf_any g xp xc HOK.out.1 HOK.out.2 _ HX3.out HT3.out).mono ?_; rintro e w4 ⟨cv, l, rfl, hI, ho4, hb4⟩; have HI := Lib.hid hI; have HLL : Hid (((l.mergeSort fun x y => !ltOf cmpG y x).map Fin.val).length ≤ 100000) := Lib.hid (by have := HI.out.len; have := HM8.out; simp; omega); have HS4 : Hid (Sl w4 50 cv ((l.mergeSort fun x y => !ltOf cmpG y x).map Fin.val).length (((l.mergeSort fun x y => !ltOf cmpG y x).map Fin.val).map u32v)) := Lib.hid (by have h := Sl.of_owns ho4 (by have := HI.out.len; have := HM8.out; omega); rw [List.map_map, List.length_map, List.length_mergeSort]; exact h); clear ho4 hI)
    | (go_at_call 37; refine (results_any _ ((l.mergeSort fun x y => !ltOf cmpG y x).map Fin.val) (fun s hs => by obtain ⟨x, _, rfl⟩ := List.mem_map.1 hs; have := x.isLt; omega) HLL.out _ HS4.out (HT3.out.keep hb4)).mono ?_; rintro e w5 ⟨rv, rfl, hd5, hb5⟩; have HD5 := Lib.hid hd5; clear hd5))
  go_ret
  have s0 := hbA.out.size
  have s2 := hb2.size
  have s3 := hb3.size
  have s4 := hb4.size
  have hd5 := HD5.out
  rw [rows_srt] at hd5
  have hon := srtG_on HM8.out HI.out.nd HI.out.mem
  exact ⟨_, _, rfl, .inl ⟨HOK.out, _, hon, rfl⟩, DG.base hd5 (by omega), by
    have := HI.out.len
    have := HM8.out
    simp only [srtG, List.length_map, List.length_mergeSort]
    omega, md_rows HOK.out.2 hon, (((hbA.out.trans (hb2.mono s0)).trans (hb3.mono (by omega))).trans (hb4.mono (by omega))).trans (hb5.mono (by omega))⟩

end Go.Proofs.YtdkmnmnncccgaaaDoor
