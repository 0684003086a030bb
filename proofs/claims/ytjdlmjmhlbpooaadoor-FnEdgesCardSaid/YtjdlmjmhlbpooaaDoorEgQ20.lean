/- Walks: how the program says that a vertex may be folded, and how it folds it away. -/
import Derived.Test.YtjdlmjmhlbpooaaDoorEgQ10
import Derived.Test.YtjdlmjmhlbpooaaDoorEgQ15
import Derived.Test.YtjdlmjmhlbpooaaDoorEgQ13
import Derived.Deep.RegionLaw
namespace Go.Proofs.YtjdlmjmhlbpooaaDoor
open Go.RowKit

theorem and_near {a : List Nat} (ha : ∀ s ∈ a, s < 65536) {v left : Nat} (hv : v < a.length) (hl : left < 65536) : bits BinOp.and IntKind.u32 (a[v] : Int) (left : Int) = ((a.getD v 0 &&& left : Nat) : Int) := by
  have e : a.getD v 0 = a[v] := by simp [hv]
  rw [e]
  exact u32_and_nat _ _ (by have := ha _ (List.getElem_mem hv); omega) (by omega)

theorem nets_cell {w : World} {p : Option Addr} {n c : Nat} {a : List Nat} (h : Sl w 69 (.slice p n c) a.length (a.map u32v)) {v : Nat} (hv : v < a.length) :
    ∃ b o, p = some ⟨b, o, none⟩ ∧ w.cell? ⟨b, o + v, none⟩ = some (.int .u32 (a[v] : Int)) := by
  obtain ⟨p', c', he, _, _, _, hat⟩ := h
  simp only [Value.slice.injEq] at he
  obtain ⟨rfl, rfl, rfl⟩ := he
  obtain ⟨b, o, h1, h2⟩ := hat.cells (k := v) (by simpa using hv)
  exact ⟨b, o, h1, h2 v _ (by simp [hv, u32v])⟩


end Go.Proofs.YtjdlmjmhlbpooaaDoor

/- Walks: the program's graph of some vertices; a graph made of masks. -/
namespace Go.Proofs.YtjdlmjmhlbpooaaDoor
open Go.RowKit

theorem step_app1s {P : Program} {T E : TypeId} {z : Value} {bytes : Nat} (S : SlTy P T E z 1 bytes) {w : World} {ops : Array Oper} {o : Oper} {a : Act} {K : Act → World → Prop} {Q : Exit → Act → World → Prop} {F : Prop}
    (hgd : o.guard = none) {s x : Operand} (ho : o.op = .call { callee := .builtin .append, args := #[s, x], argTypes := #[T, T] })
    {base : Nat} {v : Value} {n : Nat} {xs : List Value} {el : Value} (hs : a.eval s = v) (hown : w.ownsRow base E 1 v n xs)
    (hx : a.eval x = .slice (some ⟨w.heap.size, 0, none⟩) 1 1) (h1 : el.oneCell' = true)
    (hnm : n < 1000000000) (hbase : base ≤ w.heap.size)
    (h : ∀ b c w', w'.ownsRow base E 1 (.slice (some ⟨b, 0, none⟩) (n + 1) c) (n + 1) (xs ++ [el]) → w.grownBy w' v.ownBlock → K (a.put o.dst (.slice (some ⟨b, 0, none⟩) (n + 1) c)) w') :
    if Region.wanted o (yielded ops a.tmps) = true then Oper.wp P o a (w.alloc (.cells #[el] E)) K Q else F := by
  have hw : Region.wanted o (yielded ops a.tmps) = true := by simp [Region.wanted, hgd]
  rw [if_pos hw]
  have hal : (w.alloc (.cells #[el] E)).heap.size = w.heap.size + 1 := by show (w.heap.push _).size = _; simp
  have hu : Sl (w.alloc (.cells #[el] E)) E (.slice (some ⟨w.heap.size, 0, none⟩) 1 1) 1 [el] := by
    refine ⟨_, 1, rfl, (fun e => by cases e), Nat.le_refl _, by omega, Or.inr ⟨w.heap.size, 0, #[el], (0, 0), rfl, heap_alloc_new w _, ?_⟩⟩
    intro j u hu
    match j, hu with
    | 0, hu => simpa using hu
    | j + 1, hu => simp at hu
  obtain ⟨v', w', hr, h2, h3, h4⟩ := run_app S (w.alloc (.cells #[el] E)) o.type base v n xs (hown.alloc _) _ 1 [el] hu (by simp) (by simpa using h1) (by omega) (by omega)
  unfold Oper.wp execOp
  simp only [ho, resolve, invoke, builtin, Sem.run_bind, Sem.run_pure, Result.andThen_ok, List.map_toArray, List.map_cons, List.map_nil, hs, hx, hr]
  rcases id h2.2 with ⟨_, h0⟩ | ⟨g, cap, cur, rfl, _⟩
  · omega
  · exact h g cap w' h2 ⟨h3.os, h3.tape, h3.output, by have := h3.size; omega, fun k hk hne => (h3.block k (by omega) hne).trans (Below.heap_alloc w _ k hk)⟩

set_option maxRecDepth 100000 in
set_option maxHeartbeats 4000000 in
theorem induced_any (x lv : Value) (a l : List Nat) (h16 : a.length ≤ 16) (ha : ∀ s ∈ a, s < 65536) (hl : ∀ v ∈ l, v < a.length) (hm : l.length ≤ 16) (w : World)
    (hx : Sl w 69 x a.length (a.map u32v)) (hn : Nums w 3 .i64 lv (natInts l)) :
    Calls Tryd.prog 108 #[x, lv] w fun e w' => ∃ u, e = .returned u ∧
      w'.ownsRow w.heap.size 69 1 u l.length ((indN l.length (bitE a l)).map u32v) ∧ Below w.heap.size w w' := by
  obtain ⟨p, c, rfl, _⟩ := id hx
  obtain ⟨lp, lc, rfl, _⟩ := id hn.shape
  have hll := natInts_length l
  rw [hll] at hn ⊢
  have HX := Lib.hid hx
  have HN := Lib.hid hn
  clear hx hn
  go_enter Tryd.func108, Tryd.ntmps108
  go_wp2_with (at_make; refine wpList_mk ty_nets rfl rfl rfl l.length rfl rfl rfl rfl (by omega) ?_; intro w1 hown1 hg1)
  have hb1 := grown_below hg1
  have START : Hid (w1.ownsRow w.heap.size 69 1 (.slice (some ⟨w.heap.size, 0, none⟩) l.length l.length) l.length ((indN l.length (rowsE (bitE a l) 0 0)).map u32v) ∧ Below w.heap.size w w1) := Lib.hid
    ⟨by rw [rows_start, List.map_replicate]; exact hown1, hb1⟩
  clear hg1 hown1 hb1
  go_loopw [15] (fun i wr => ∃ k : Nat, k ≤ l.length ∧ i = .int .i64 k ∧ wr.ownsRow w.heap.size 69 1 (.slice (some ⟨w.heap.size, 0, none⟩) l.length l.length) l.length ((indN l.length (rowsE (bitE a l) k 0)).map u32v) ∧ Below w.heap.size w wr)
    (fun i _ => l.length - (intOf i).toNat)
  case atStart => exact ⟨0, Nat.zero_le _, rfl, START.out⟩
  case round =>
    obtain ⟨i, hi, rfl, hown, hbel⟩ := hrel
    have HI := Lib.hid hown
    clear hown
    by_cases hlt : i < l.length
    · have hin := hl _ (List.getElem_mem hlt)
      obtain ⟨b, o, rfl, hci⟩ := (HN.out.below hbel).get (k := i) (by rw [hll]; exact hlt)
      rw [show (natInts l)[i]'(by rw [hll]; exact hlt) = ((l[i] : Nat) : Int) by simp [natInts]] at hci
      go_wp2_with fail
      clear hci
      go_loopw [22] (fun i' wr => ∃ k : Nat, k ≤ l.length ∧ i' = .int .i64 k ∧ wr.ownsRow w.heap.size 69 1 (.slice (some ⟨w.heap.size, 0, none⟩) l.length l.length) l.length ((indN l.length (rowsE (bitE a l) i k)).map u32v) ∧ Below w.heap.size w wr)
        (fun i' _ => l.length - (intOf i').toNat)
      case atStart => exact ⟨0, Nat.zero_le _, rfl, HI.out, hbel⟩
      case round =>
        clear HI hbel
        obtain ⟨k, hk, rfl, hown, hbel⟩ := hrel
        by_cases hlt2 : k < l.length
        · have hkn := hl _ (List.getElem_mem hlt2)
          obtain ⟨_, _, hbo, hck⟩ := (HN.out.below hbel).get (k := k) (by rw [hll]; exact hlt2)
          cases hbo
          rw [show (natInts l)[k]'(by rw [hll]; exact hlt2) = ((l[k] : Nat) : Int) by simp [natInts]] at hck
          obtain ⟨ab, ao, rfl, hca⟩ := nets_cell (HX.out.below hbel) hin
          have hs16 := ha _ (List.getElem_mem hin)
          have hbit : Hid (a[l[i]].testBit l[k] = bitE a l i k) := Lib.hid (by unfold bitE; simp [hlt, hlt2, hin])
          have e0 : (0 : Int) ≤ (k : Int) := by omega
          have hrl := hown.cellAt i (by omega)
          have hfz := hown.frozenAt i
          have hil : i < (indN l.length (rowsE (bitE a l) i k)).length := by rw [indN_length]; exact hlt
          rw [List.getElem?_map, List.getElem?_eq_getElem hil] at hrl
          change wr.cell? _ = some (.int .u32 (((indN l.length (rowsE (bitE a l) i k))[i] : Nat) : Int)) at hrl
          have hr16 := indN_lt16 (E := rowsE (bitE a l) i k) hm _ (List.getElem_mem hil)
          obtain ⟨ho2, hg2⟩ := hown.stored i (.int .u32 (((indN l.length (rowsE (bitE a l) i k))[i] ||| 2 ^ k : Nat) : Int))
          have hb2 := below_grown hbel hown hg2 (Nat.le_refl _) hbel.size
          have hyes : Hid (bitE a l i k = true → ((indN l.length (rowsE (bitE a l) i k)).map u32v).set i (.int .u32 (((indN l.length (rowsE (bitE a l) i k))[i] ||| 2 ^ k : Nat) : Int)) = (indN l.length (rowsE (bitE a l) i (k + 1))).map u32v) := Lib.hid (fun he => by
            rw [← rows_yes hlt hlt2 he, List.map_set]
            have : (indN l.length (rowsE (bitE a l) i k)).getD i 0 = (indN l.length (rowsE (bitE a l) i k))[i] := by simp [hil]
            rw [this]; rfl)
          have Hown := Lib.hid hown
          have Ho2 := Lib.hid ho2
          have Hb2 := Lib.hid hb2
          have Hbel := Lib.hid hbel
          have hor := or_u32 (indN l.length (rowsE (bitE a l) i k))[i] (2 ^ k) hr16 (pow_lt16 k (by omega))
          generalize (indN l.length (rowsE (bitE a l) i k))[i] = m0 at hrl hr16 hyes Ho2 Hb2 hor
          have c1 := Lib.hid (fun w => one_any (k : Int) k rfl (by omega) w)
          clear hown ho2 hb2 hg2 hbel hil
          cases hE' : bitE a l i k
          · rw [hE'] at hbit
            have hb' := hbit.out
            go_wp2_with (go_at_call 101; refine (has_any _ _ a[l[i]] l[k] rfl rfl (by omega) (by omega) _).mono ?_; rintro e w2 ⟨rfl, rfl⟩)
            go_roundw
            case rel => exact ⟨k + 1, by omega, by go_num, by rw [← rows_no hE']; exact Hown.out, Hbel.out⟩
            case measure => simp [intOf]; omega
          · rw [hE'] at hbit
            have hb' := hbit.out
            generalize 2 ^ k = pk at *
            go_upto_region 9 with (go_at_call 101; refine (has_any _ _ a[l[i]] l[k] rfl rfl (by omega) (by omega) _).mono ?_; rintro e w2 ⟨rfl, rfl⟩)
            go_region_with (go_at_call 102; refine (c1.out _).mono ?_; rintro e w2 ⟨rfl, rfl⟩)
            all_goals go_wp2
            all_goals go_roundw
            all_goals first
              | exact ⟨k + 1, by omega, by go_num, by rw [← hyes.out hE']; exact Ho2.out, ⟨Hb2.out.os, Hb2.out.tape, Hb2.out.output, Hb2.out.size, Hb2.out.block⟩⟩
              | (simp [intOf]; omega)
        · obtain rfl : k = l.length := by omega
          go_wp2
          go_roundw
          case rel => exact ⟨i + 1, by omega, by go_num, by rw [← rows_row]; exact hown, hbel⟩
          case measure => simp [intOf]; omega
    · obtain rfl : i = l.length := by omega
      go_wp2
      go_ret
      exact ⟨_, rfl, by rw [← rows_end]; exact HI.out, hbel⟩

end Go.Proofs.YtjdlmjmhlbpooaaDoor
