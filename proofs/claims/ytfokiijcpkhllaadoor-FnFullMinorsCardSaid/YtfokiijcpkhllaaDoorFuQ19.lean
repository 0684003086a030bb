/- Plain: each graph of six vertices at most in which no vertex has one or two neighbours, and some edge is, has a model of the full graph of four. -/
import Derived.Test.YtfokiijcpkhllaaDoorFuQ18
import Derived.Test.YtfokiijcpkhllaaDoorFuQ5
namespace Go.Proofs.YtfokiijcpkhllaaDoor

/-- The bit of an edge. -/
def bitVd (u v : Nat) : Nat := if u < v then v * (v - 1) / 2 + u else u * (u - 1) / 2 + v
theorem bitVd_comm (u v : Nat) : bitVd u v = bitVd v u := by
  unfold bitVd
  by_cases h : u < v
  · rw [if_pos h, if_neg (by omega)]
  · by_cases h2 : v < u
    · rw [if_neg h, if_pos h2]
    · obtain rfl : u = v := by omega
      rfl
/-- The edges between two lists. -/
def joinVd (A B : List Nat) : Nat := A.foldl (fun m x => B.foldl (fun m y => m ||| 2 ^ bitVd x y) m) 0
theorem joinVd_in {c x : Nat} (B : List Nat) : ∀ m, c &&& B.foldl (fun m y => m ||| 2 ^ bitVd x y) m ≠ 0 → c &&& m ≠ 0 ∨ ∃ y ∈ B, c.testBit (bitVd x y) = true := by
  induction B with
  | nil => intro m h; exact .inl h
  | cons y B ih =>
    intro m h
    rcases ih _ h with h | ⟨z, hz, h⟩
    · by_cases e : c.testBit (bitVd x y) = true
      · exact .inr ⟨y, by simp, e⟩
      · refine .inl fun h0 => h (Nat.eq_of_testBit_eq fun i => ?_)
        have := congrArg (Nat.testBit · i) h0
        simp only [Nat.testBit_and, Nat.zero_testBit, Nat.testBit_or] at this ⊢
        by_cases ei : i = bitVd x y
        · subst ei
          have e' : c.testBit (bitVd x y) = false := by simpa using e
          rw [e']; rfl
        · rw [Nat.testBit_two_pow_of_ne (Ne.symm ei), Bool.or_false, this]
    · exact .inr ⟨z, by simp [hz], h⟩
theorem joinVd_out {c : Nat} {B : List Nat} (A : List Nat) : ∀ m, c &&& A.foldl (fun m x => B.foldl (fun m y => m ||| 2 ^ bitVd x y) m) m ≠ 0 → c &&& m ≠ 0 ∨ ∃ x ∈ A, ∃ y ∈ B, c.testBit (bitVd x y) = true := by
  induction A with
  | nil => intro m h; exact .inl h
  | cons x A ih =>
    intro m h
    rcases ih _ h with h | ⟨z, hz, h⟩
    · rcases joinVd_in B m h with h | ⟨y, hy, h⟩
      · exact .inl h
      · exact .inr ⟨x, by simp, y, hy, h⟩
    · exact .inr ⟨z, by simp [hz], h⟩
theorem joinVd_hit {c : Nat} {A B : List Nat} (h : c &&& joinVd A B ≠ 0) : ∃ x ∈ A, ∃ y ∈ B, c.testBit (bitVd x y) = true := by
  rcases joinVd_out A 0 h with h | h
  · rw [Nat.and_zero] at h; exact absurd rfl h
  · exact h

/-- What a set of a model needs: each vertex an edge to the rest. -/
def wholeVd (B : List Nat) : List Nat := if B.length ≤ 1 then [] else B.map fun x => joinVd [x] (B.filter (· != x))
def condsVd (M : List (List Nat)) : List Nat := M.flatMap wholeVd ++ (List.range 4).flatMap fun i => (List.range i).map fun j => joinVd (M.getD i []) (M.getD j [])
def shapeVd (M : List (List Nat)) : Bool := M.length == 4 && M.all (fun B => decide (1 ≤ B.length) && decide (B.length ≤ 3)) && decide M.flatten.Nodup && M.all (fun B => B.all (· < 6))

def modsVd : List (List (List Nat)) := [
  [[0], [1], [2], [3]],
  [[0], [1], [2], [4]],
  [[0], [1], [2], [5]],
  [[0], [1], [3], [4]],
  [[0], [1], [3], [5]],
  [[0], [1], [4], [5]],
  [[0], [2], [3], [4]],
  [[0], [2], [3], [5]],
  [[0], [2], [4], [5]],
  [[0], [3], [4], [5]],
  [[1], [2], [3], [4]],
  [[1], [2], [3], [5]],
  [[1], [2], [4], [5]],
  [[1], [3], [4], [5]],
  [[2], [3], [4], [5]],
  [[0, 1], [2], [3], [4]],
  [[0, 1], [2], [3], [5]],
  [[0, 1], [2], [4], [5]],
  [[0, 1], [3], [4], [5]],
  [[0, 2], [1], [3], [4]],
  [[0, 2], [1], [3], [5]],
  [[0, 2], [1], [4], [5]],
  [[0, 2], [3], [4], [5]],
  [[0, 3], [1], [2], [4]],
  [[0, 3], [1], [2], [5]],
  [[0, 3], [1], [4], [5]],
  [[0, 3], [2], [4], [5]],
  [[0, 4], [1], [2], [3]],
  [[0, 4], [1], [2], [5]],
  [[0, 4], [1], [3], [5]],
  [[0, 4], [2], [3], [5]],
  [[0, 5], [1], [2], [3]],
  [[0, 5], [1], [2], [4]],
  [[0, 5], [1], [3], [4]],
  [[0, 5], [2], [3], [4]],
  [[1, 2], [0], [3], [4]],
  [[1, 2], [0], [3], [5]],
  [[1, 2], [0], [4], [5]],
  [[1, 2], [3], [4], [5]],
  [[1, 3], [0], [2], [4]],
  [[1, 3], [0], [2], [5]],
  [[1, 3], [0], [4], [5]],
  [[1, 3], [2], [4], [5]],
  [[1, 4], [0], [2], [3]],
  [[1, 4], [0], [2], [5]],
  [[1, 4], [0], [3], [5]],
  [[1, 4], [2], [3], [5]],
  [[1, 5], [0], [2], [3]],
  [[1, 5], [0], [2], [4]],
  [[1, 5], [0], [3], [4]],
  [[1, 5], [2], [3], [4]],
  [[2, 3], [0], [1], [4]],
  [[2, 3], [0], [1], [5]],
  [[2, 3], [0], [4], [5]],
  [[2, 3], [1], [4], [5]],
  [[2, 4], [0], [1], [3]],
  [[2, 4], [0], [1], [5]],
  [[2, 4], [0], [3], [5]],
  [[2, 4], [1], [3], [5]],
  [[2, 5], [0], [1], [3]],
  [[2, 5], [0], [1], [4]],
  [[2, 5], [0], [3], [4]],
  [[2, 5], [1], [3], [4]],
  [[3, 4], [0], [1], [2]],
  [[3, 4], [0], [1], [5]],
  [[3, 4], [0], [2], [5]],
  [[3, 4], [1], [2], [5]],
  [[3, 5], [0], [1], [2]],
  [[3, 5], [0], [1], [4]],
  [[3, 5], [0], [2], [4]],
  [[3, 5], [1], [2], [4]],
  [[4, 5], [0], [1], [2]],
  [[4, 5], [0], [1], [3]],
  [[4, 5], [0], [2], [3]],
  [[4, 5], [1], [2], [3]],
  [[0, 1, 2], [3], [4], [5]],
  [[0, 1, 3], [2], [4], [5]],
  [[0, 1, 4], [2], [3], [5]],
  [[0, 1, 5], [2], [3], [4]],
  [[0, 2, 3], [1], [4], [5]],
  [[0, 2, 4], [1], [3], [5]],
  [[0, 2, 5], [1], [3], [4]],
  [[0, 3, 4], [1], [2], [5]],
  [[0, 3, 5], [1], [2], [4]],
  [[0, 4, 5], [1], [2], [3]],
  [[1, 2, 3], [0], [4], [5]],
  [[1, 2, 4], [0], [3], [5]],
  [[1, 2, 5], [0], [3], [4]],
  [[1, 3, 4], [0], [2], [5]],
  [[1, 3, 5], [0], [2], [4]],
  [[1, 4, 5], [0], [2], [3]],
  [[2, 3, 4], [0], [1], [5]],
  [[2, 3, 5], [0], [1], [4]],
  [[2, 4, 5], [0], [1], [3]],
  [[3, 4, 5], [0], [1], [2]],
  [[0, 1], [2, 3], [4], [5]],
  [[0, 1], [2, 4], [3], [5]],
  [[0, 1], [2, 5], [3], [4]],
  [[0, 1], [3, 4], [2], [5]],
  [[0, 1], [3, 5], [2], [4]],
  [[0, 1], [4, 5], [2], [3]],
  [[0, 2], [1, 3], [4], [5]],
  [[0, 2], [1, 4], [3], [5]],
  [[0, 2], [1, 5], [3], [4]],
  [[0, 2], [3, 4], [1], [5]],
  [[0, 2], [3, 5], [1], [4]],
  [[0, 2], [4, 5], [1], [3]],
  [[0, 3], [1, 2], [4], [5]],
  [[0, 3], [1, 4], [2], [5]],
  [[0, 3], [1, 5], [2], [4]],
  [[0, 3], [2, 4], [1], [5]],
  [[0, 3], [2, 5], [1], [4]],
  [[0, 3], [4, 5], [1], [2]],
  [[0, 4], [1, 2], [3], [5]],
  [[0, 4], [1, 3], [2], [5]],
  [[0, 4], [1, 5], [2], [3]],
  [[0, 4], [2, 3], [1], [5]],
  [[0, 4], [2, 5], [1], [3]],
  [[0, 4], [3, 5], [1], [2]],
  [[0, 5], [1, 2], [3], [4]],
  [[0, 5], [1, 3], [2], [4]],
  [[0, 5], [1, 4], [2], [3]],
  [[0, 5], [2, 3], [1], [4]],
  [[0, 5], [2, 4], [1], [3]],
  [[0, 5], [3, 4], [1], [2]],
  [[1, 2], [3, 4], [0], [5]],
  [[1, 2], [3, 5], [0], [4]],
  [[1, 2], [4, 5], [0], [3]],
  [[1, 3], [2, 4], [0], [5]],
  [[1, 3], [2, 5], [0], [4]],
  [[1, 3], [4, 5], [0], [2]],
  [[1, 4], [2, 3], [0], [5]],
  [[1, 4], [2, 5], [0], [3]],
  [[1, 4], [3, 5], [0], [2]],
  [[1, 5], [2, 3], [0], [4]],
  [[1, 5], [2, 4], [0], [3]],
  [[1, 5], [3, 4], [0], [2]],
  [[2, 3], [4, 5], [0], [1]],
  [[2, 4], [3, 5], [0], [1]],
  [[2, 5], [3, 4], [0], [1]]]
def condVd : List (List Nat) := [
  [1, 2, 4, 8, 16, 32],
  [1, 2, 4, 64, 128, 256],
  [1, 2, 4, 1024, 2048, 4096],
  [1, 8, 16, 64, 128, 512],
  [1, 8, 16, 1024, 2048, 8192],
  [1, 64, 128, 1024, 2048, 16384],
  [2, 8, 32, 64, 256, 512],
  [2, 8, 32, 1024, 4096, 8192],
  [2, 64, 256, 1024, 4096, 16384],
  [8, 64, 512, 1024, 8192, 16384],
  [4, 16, 32, 128, 256, 512],
  [4, 16, 32, 2048, 4096, 8192],
  [4, 128, 256, 2048, 4096, 16384],
  [16, 128, 512, 2048, 8192, 16384],
  [32, 256, 512, 4096, 8192, 16384],
  [1, 1, 6, 24, 32, 192, 256, 512],
  [1, 1, 6, 24, 32, 3072, 4096, 8192],
  [1, 1, 6, 192, 256, 3072, 4096, 16384],
  [1, 1, 24, 192, 512, 3072, 8192, 16384],
  [2, 2, 5, 40, 16, 320, 128, 512],
  [2, 2, 5, 40, 16, 5120, 2048, 8192],
  [2, 2, 5, 320, 128, 5120, 2048, 16384],
  [2, 2, 40, 320, 512, 5120, 8192, 16384],
  [8, 8, 17, 34, 4, 576, 128, 256],
  [8, 8, 17, 34, 4, 9216, 2048, 4096],
  [8, 8, 17, 576, 128, 9216, 2048, 16384],
  [8, 8, 34, 576, 256, 9216, 4096, 16384],
  [64, 64, 129, 258, 4, 520, 16, 32],
  [64, 64, 129, 258, 4, 17408, 2048, 4096],
  [64, 64, 129, 520, 16, 17408, 2048, 8192],
  [64, 64, 258, 520, 32, 17408, 4096, 8192],
  [1024, 1024, 2049, 4098, 4, 8200, 16, 32],
  [1024, 1024, 2049, 4098, 4, 16448, 128, 256],
  [1024, 1024, 2049, 8200, 16, 16448, 128, 512],
  [1024, 1024, 4098, 8200, 32, 16448, 256, 512],
  [4, 4, 3, 48, 8, 384, 64, 512],
  [4, 4, 3, 48, 8, 6144, 1024, 8192],
  [4, 4, 3, 384, 64, 6144, 1024, 16384],
  [4, 4, 48, 384, 512, 6144, 8192, 16384],
  [16, 16, 9, 36, 2, 640, 64, 256],
  [16, 16, 9, 36, 2, 10240, 1024, 4096],
  [16, 16, 9, 640, 64, 10240, 1024, 16384],
  [16, 16, 36, 640, 256, 10240, 4096, 16384],
  [128, 128, 65, 260, 2, 528, 8, 32],
  [128, 128, 65, 260, 2, 18432, 1024, 4096],
  [128, 128, 65, 528, 8, 18432, 1024, 8192],
  [128, 128, 260, 528, 32, 18432, 4096, 8192],
  [2048, 2048, 1025, 4100, 2, 8208, 8, 32],
  [2048, 2048, 1025, 4100, 2, 16512, 64, 256],
  [2048, 2048, 1025, 8208, 8, 16512, 64, 512],
  [2048, 2048, 4100, 8208, 32, 16512, 256, 512],
  [32, 32, 10, 20, 1, 768, 64, 128],
  [32, 32, 10, 20, 1, 12288, 1024, 2048],
  [32, 32, 10, 768, 64, 12288, 1024, 16384],
  [32, 32, 20, 768, 128, 12288, 2048, 16384],
  [256, 256, 66, 132, 1, 544, 8, 16],
  [256, 256, 66, 132, 1, 20480, 1024, 2048],
  [256, 256, 66, 544, 8, 20480, 1024, 8192],
  [256, 256, 132, 544, 16, 20480, 2048, 8192],
  [4096, 4096, 1026, 2052, 1, 8224, 8, 16],
  [4096, 4096, 1026, 2052, 1, 16640, 64, 128],
  [4096, 4096, 1026, 8224, 8, 16640, 64, 512],
  [4096, 4096, 2052, 8224, 16, 16640, 128, 512],
  [512, 512, 72, 144, 1, 288, 2, 4],
  [512, 512, 72, 144, 1, 24576, 1024, 2048],
  [512, 512, 72, 288, 2, 24576, 1024, 4096],
  [512, 512, 144, 288, 4, 24576, 2048, 4096],
  [8192, 8192, 1032, 2064, 1, 4128, 2, 4],
  [8192, 8192, 1032, 2064, 1, 16896, 64, 128],
  [8192, 8192, 1032, 4128, 2, 16896, 64, 256],
  [8192, 8192, 2064, 4128, 4, 16896, 128, 256],
  [16384, 16384, 1088, 2176, 1, 4352, 2, 4],
  [16384, 16384, 1088, 2176, 1, 8704, 8, 16],
  [16384, 16384, 1088, 4352, 2, 8704, 8, 32],
  [16384, 16384, 2176, 4352, 4, 8704, 16, 32],
  [3, 5, 6, 56, 448, 512, 7168, 8192, 16384],
  [9, 17, 24, 38, 704, 256, 11264, 4096, 16384],
  [65, 129, 192, 262, 536, 32, 19456, 4096, 8192],
  [1025, 2049, 3072, 4102, 8216, 32, 16576, 256, 512],
  [10, 34, 40, 21, 832, 128, 13312, 2048, 16384],
  [66, 258, 320, 133, 552, 16, 21504, 2048, 8192],
  [1026, 4098, 5120, 2053, 8232, 16, 16704, 128, 512],
  [72, 520, 576, 145, 290, 4, 25600, 2048, 4096],
  [1032, 8200, 9216, 2065, 4130, 4, 16960, 128, 256],
  [1088, 16448, 17408, 2177, 4354, 4, 8712, 16, 32],
  [20, 36, 48, 11, 896, 64, 14336, 1024, 16384],
  [132, 260, 384, 67, 560, 8, 22528, 1024, 8192],
  [2052, 4100, 6144, 1027, 8240, 8, 16768, 64, 512],
  [144, 528, 640, 73, 292, 2, 26624, 1024, 4096],
  [2064, 8208, 10240, 1033, 4132, 2, 17024, 64, 256],
  [2176, 16512, 18432, 1089, 4356, 2, 8720, 8, 32],
  [288, 544, 768, 74, 148, 1, 28672, 1024, 2048],
  [4128, 8224, 12288, 1034, 2068, 1, 17152, 64, 128],
  [4352, 16640, 20480, 1090, 2180, 1, 8736, 8, 16],
  [8704, 16896, 24576, 1096, 2192, 1, 4384, 2, 4],
  [1, 1, 32, 32, 30, 192, 768, 3072, 12288, 16384],
  [1, 1, 256, 256, 198, 24, 544, 3072, 20480, 8192],
  [1, 1, 4096, 4096, 3078, 24, 8224, 192, 16640, 512],
  [1, 1, 512, 512, 216, 6, 288, 3072, 24576, 4096],
  [1, 1, 8192, 8192, 3096, 6, 4128, 192, 16896, 256],
  [1, 1, 16384, 16384, 3264, 6, 4352, 24, 8704, 32],
  [2, 2, 16, 16, 45, 320, 640, 5120, 10240, 16384],
  [2, 2, 128, 128, 325, 40, 528, 5120, 18432, 8192],
  [2, 2, 2048, 2048, 5125, 40, 8208, 320, 16512, 512],
  [2, 2, 512, 512, 360, 5, 144, 5120, 24576, 2048],
  [2, 2, 8192, 8192, 5160, 5, 2064, 320, 16896, 128],
  [2, 2, 16384, 16384, 5440, 5, 2176, 40, 8704, 16],
  [8, 8, 4, 4, 51, 576, 384, 9216, 6144, 16384],
  [8, 8, 128, 128, 593, 34, 260, 9216, 18432, 4096],
  [8, 8, 2048, 2048, 9233, 34, 4100, 576, 16512, 256],
  [8, 8, 256, 256, 610, 17, 132, 9216, 20480, 2048],
  [8, 8, 4096, 4096, 9250, 17, 2052, 576, 16640, 128],
  [8, 8, 16384, 16384, 9792, 17, 2176, 34, 4352, 4],
  [64, 64, 4, 4, 387, 520, 48, 17408, 6144, 8192],
  [64, 64, 16, 16, 649, 258, 36, 17408, 10240, 4096],
  [64, 64, 2048, 2048, 17537, 258, 4100, 520, 8208, 32],
  [64, 64, 32, 32, 778, 129, 20, 17408, 12288, 2048],
  [64, 64, 4096, 4096, 17666, 129, 2052, 520, 8224, 16],
  [64, 64, 8192, 8192, 17928, 129, 2064, 258, 4128, 4],
  [1024, 1024, 4, 4, 6147, 8200, 48, 16448, 384, 512],
  [1024, 1024, 16, 16, 10249, 4098, 36, 16448, 640, 256],
  [1024, 1024, 128, 128, 18497, 4098, 260, 8200, 528, 32],
  [1024, 1024, 32, 32, 12298, 2049, 20, 16448, 768, 128],
  [1024, 1024, 256, 256, 20546, 2049, 132, 8200, 544, 16],
  [1024, 1024, 512, 512, 24648, 2049, 144, 4098, 288, 4],
  [4, 4, 512, 512, 432, 3, 72, 6144, 24576, 1024],
  [4, 4, 8192, 8192, 6192, 3, 1032, 384, 16896, 64],
  [4, 4, 16384, 16384, 6528, 3, 1088, 48, 8704, 8],
  [16, 16, 256, 256, 676, 9, 66, 10240, 20480, 1024],
  [16, 16, 4096, 4096, 10276, 9, 1026, 640, 16640, 64],
  [16, 16, 16384, 16384, 10880, 9, 1088, 36, 4352, 2],
  [128, 128, 32, 32, 788, 65, 10, 18432, 12288, 1024],
  [128, 128, 4096, 4096, 18692, 65, 1026, 528, 8224, 8],
  [128, 128, 8192, 8192, 18960, 65, 1032, 260, 4128, 2],
  [2048, 2048, 32, 32, 12308, 1025, 10, 16512, 768, 64],
  [2048, 2048, 256, 256, 20612, 1025, 66, 8208, 544, 8],
  [2048, 2048, 512, 512, 24720, 1025, 72, 4100, 288, 2],
  [32, 32, 16384, 16384, 13056, 10, 1088, 20, 2176, 1],
  [256, 256, 8192, 8192, 21024, 66, 1032, 132, 2064, 1],
  [4096, 4096, 512, 512, 24864, 1026, 72, 2052, 144, 1]]
theorem condVd_eq : condVd = modsVd.map condsVd := by decide +kernel
theorem modsVd_ok : modsVd.all shapeVd = true := by decide +kernel

def degVd : List Nat := [1099, 2197, 4390, 8760, 17344, 31744]
/-- One or two bits. -/
def fewVd (x : Nat) : Bool := x != 0 && (x ^^^ 2 ^ x.log2 == 0 || (x ^^^ 2 ^ x.log2) ^^^ 2 ^ (x ^^^ 2 ^ x.log2).log2 == 0)
def chkVd (c : Nat) : Bool := degVd.any (fun m => fewVd (c &&& m)) || c == 0 || condVd.any fun l => l.all fun m => c &&& m != 0
def allVd (p : Nat → Bool) : Nat → Nat → Bool
  | 0, c => p c
  | k + 1, c => allVd p k (2 * c) && allVd p k (2 * c + 1)
theorem allVd_yes {p : Nat → Bool} : ∀ (k c : Nat), allVd p k c = true → ∀ x, x < 2 ^ k → p (c * 2 ^ k + x) = true
  | 0, c, h, x, hx => by
    obtain rfl : x = 0 := by omega
    rw [allVd] at h; simpa using h
  | k + 1, c, h, x, hx => by
    rw [allVd, Bool.and_eq_true] at h
    have e : 2 ^ (k + 1) = 2 * 2 ^ k := by rw [Nat.pow_succ]; omega
    by_cases hx2 : x < 2 ^ k
    · have := allVd_yes k _ h.1 x hx2
      rwa [show c * 2 ^ (k + 1) = 2 * c * 2 ^ k by rw [e, ← Nat.mul_assoc, Nat.mul_comm c 2]]
    · have := allVd_yes k _ h.2 (x - 2 ^ k) (by omega)
      rw [show (2 * c + 1) * 2 ^ k + (x - 2 ^ k) = c * 2 ^ (k + 1) + x by
        rw [e, ← Nat.mul_assoc, Nat.mul_comm c 2, Nat.add_mul]; omega] at this
      exact this
set_option maxRecDepth 100000 in
theorem chkVd_all : allVd chkVd 15 0 = true := by decide +kernel

end Go.Proofs.YtfokiijcpkhllaaDoor

/- Plain facts, with no program in sight: cutting and contracting a graph that is not folded away, as the reference does it, and on sets of bits. -/
namespace Go.Proofs.YtfokiijcpkhllaaDoor

/-- A row behind v's cutting. -/
def freeRow (g : List (List Int)) (v : Int) (u : Nat) : List Int := if (u : Int) = v then [] else lessL (row g u) v
def freeG (g : List (List Int)) (v : Int) : List (List Int) := (List.range g.length).map (freeRow g v)
theorem freeG_length (g : List (List Int)) (v : Int) : (freeG g v).length = g.length := by simp [freeG]
theorem row_freeG (g : List (List Int)) (v : Int) {u : Nat} (hu : u < g.length) : row (freeG g v) u = freeRow g v u := by simp [row, freeG, hu]
theorem freeRow_length (g : List (List Int)) (v : Int) (u : Nat) : (freeRow g v u).length ≤ (row g u).length := by
  unfold freeRow; split
  · simp
  · exact lessL_length _ _
theorem freeRow_yes {g : List (List Int)} {v : Int} {u : Nat} (h : (u : Int) = v) : freeRow g v u = [] := if_pos h
theorem freeRow_no {g : List (List Int)} {v : Int} {u : Nat} (h : ¬ (u : Int) = v) : freeRow g v u = lessL (row g u) v := if_neg h

theorem row_put (g : List (List Int)) (x y : Nat) (r : List Int) : row (g.set x r) y = if y = x ∧ x < g.length then r else row g y := by
  simp only [row, List.getD_eq_getElem?_getD, List.getElem?_set]
  by_cases e : x = y
  · subst e
    by_cases h : x < g.length
    · simp [h]
    · simp [h]
  · simp [e, Ne.symm e]

/-- Two more neighbours. -/
def tieG (g : List (List Int)) (u x : Nat) : List (List Int) := (g.set x (intoL (row g x) u)).set u (intoL (row (g.set x (intoL (row g x) u)) u) x)
theorem tieG_length (g : List (List Int)) (u x : Nat) : (tieG g u x).length = g.length := by simp [tieG]
theorem row_tieG (g : List (List Int)) {u x : Nat} (hu : u < g.length) (hx : x < g.length) (h : x ≠ u) (y : Nat) : row (tieG g u x) y = if y = u then intoL (row g u) x else if y = x then intoL (row g x) u else row g y := by
  unfold tieG
  rw [row_put]
  by_cases e : y = u
  · subst e
    rw [if_pos ⟨rfl, by simpa using hu⟩, if_pos rfl, row_put, if_neg (fun c => h c.1.symm)]
  · rw [if_neg (fun c => e c.1), if_neg e, row_put]
    by_cases e2 : y = x
    · rw [if_pos ⟨e2, hx⟩, if_pos e2]
    · rw [if_neg (fun c => e2 c.1), if_neg e2]
def tieStep (u : Int) (g : List (List Int)) (x : Int) : List (List Int) := if x = u then g else tieG g u.toNat x.toNat
def joinG (g : List (List Int)) (u v : Int) : List (List Int) := (row g v.toNat).foldl (tieStep u) (freeG g v)
theorem tieStep_length (u : Int) (g : List (List Int)) (x : Int) : (tieStep u g x).length = g.length := by
  unfold tieStep; split
  · rfl
  · exact tieG_length ..
theorem tieFold_length (u : Int) (l : List Int) : ∀ g : List (List Int), (l.foldl (tieStep u) g).length = g.length := by
  induction l with
  | nil => intro g; rfl
  | cons x l ih => intro g; rw [List.foldl_cons, ih, tieStep_length]
theorem joinG_length (g : List (List Int)) (u v : Int) : (joinG g u v).length = g.length := by rw [joinG, tieFold_length, freeG_length]

/-- Rows that are sets of vertices. -/
def RG (g : List (List Int)) : Prop := ∀ j, SetIn g.length (row g j)
theorem row_over {g : List (List Int)} {j : Nat} (h : g.length ≤ j) : row g j = [] := by simp [row, h]
theorem RG.of_ok {g : List (List Int)} (h : GOk g) : RG g := by
  intro j
  by_cases hj : j < g.length
  · exact (h.sets j hj).1
  · rw [row_over (by omega)]; exact setIn_nil _
theorem RG.row_le {g : List (List Int)} (h : RG g) (j : Nat) : (row g j).length ≤ g.length := by
  have := setIn_length (by omega) (h j)
  omega
theorem setIn_lessL {n : Int} {s : List Int} (h : SetIn n s) (v : Int) : SetIn n (lessL s v) := ⟨fun x hx => h.1 x (mem_lessL.1 hx).1, lessL_rising h.2 v⟩
theorem setIn_intoL {n : Int} {s : List Int} (h : SetIn n s) {v : Int} (h0 : 0 ≤ v) (hn : v < n) : SetIn n (intoL s v) := by
  refine ⟨fun x hx => ?_, intoL_rising h.2⟩
  rcases mem_intoL.1 hx with e | e
  · exact h.1 x e
  · subst e; exact ⟨h0, hn⟩
theorem RG.free {g : List (List Int)} (h : RG g) (v : Int) : RG (freeG g v) := by
  intro j
  rw [freeG_length]
  by_cases hj : j < g.length
  · rw [row_freeG g v hj]
    unfold freeRow; split
    · exact setIn_nil _
    · exact setIn_lessL (h j) v
  · rw [row_over (by rw [freeG_length]; omega)]; exact setIn_nil _
theorem RG.tie {u : Int} {g : List (List Int)} {x : Int} (h : RG g) (hu0 : 0 ≤ u) (hu : u.toNat < g.length) (hx0 : 0 ≤ x) (hx : x.toNat < g.length) : RG (tieStep u g x) := by
  intro j
  rw [tieStep_length]
  unfold tieStep
  by_cases e : x = u
  · rw [if_pos e]; exact h j
  · rw [if_neg e, row_tieG g hu hx (by omega)]
    split
    · exact setIn_intoL (h _) (by omega) (by omega)
    · split
      · exact setIn_intoL (h _) (by omega) (by omega)
      · exact h j
theorem tieStep_mem {u : Int} {g : List (List Int)} {x : Int} (hu : u.toNat < g.length) (hx : x.toNat < g.length) (hu0 : 0 ≤ u) (hx0 : 0 ≤ x) (j : Nat) (y : Int) :
    y ∈ row (tieStep u g x) j ↔ y ∈ row g j ∨ (x ≠ u ∧ (((j : Int) = x ∧ y = u) ∨ ((j : Int) = u ∧ y = x))) := by
  unfold tieStep
  by_cases e : x = u
  · rw [if_pos e]; simp [e]
  · rw [if_neg e, row_tieG g hu hx (by omega)]
    have e1 : (u.toNat : Int) = u := by omega
    have e2 : (x.toNat : Int) = x := by omega
    by_cases c : j = u.toNat
    · subst c
      rw [if_pos rfl, mem_intoL, e1, e2]
      constructor
      · rintro (h | h)
        · exact .inl h
        · exact .inr ⟨e, .inr ⟨rfl, h⟩⟩
      · rintro (h | ⟨_, ⟨h, _⟩ | ⟨_, h⟩⟩)
        · exact .inl h
        · exact absurd h.symm e
        · exact .inr h
    · rw [if_neg c]
      by_cases c2 : j = x.toNat
      · subst c2
        rw [if_pos rfl, mem_intoL, e1, e2]
        constructor
        · rintro (h | h)
          · exact .inl h
          · exact .inr ⟨e, .inl ⟨rfl, h⟩⟩
        · rintro (h | ⟨_, ⟨_, h⟩ | ⟨h, _⟩⟩)
          · exact .inl h
          · exact .inr h
          · exact absurd h e
      · rw [if_neg c2]
        constructor
        · exact .inl
        · rintro (h | ⟨_, ⟨h, _⟩ | ⟨h, _⟩⟩)
          · exact h
          · omega
          · omega
theorem tieFold_mem {u : Int} (hu0 : 0 ≤ u) (l : List Int) : ∀ g : List (List Int), u.toNat < g.length → (∀ x ∈ l, 0 ≤ x ∧ x.toNat < g.length) → RG g → RG (l.foldl (tieStep u) g) ∧
    ∀ (j : Nat) (y : Int), y ∈ row (l.foldl (tieStep u) g) j ↔ y ∈ row g j ∨ (∃ x ∈ l, x ≠ u ∧ (((j : Int) = x ∧ y = u) ∨ ((j : Int) = u ∧ y = x))) := by
  induction l with
  | nil => intro g _ _ hr; exact ⟨hr, fun j y => by simp⟩
  | cons x l ih =>
    intro g hu hl hr
    have hx := hl x (by simp)
    obtain ⟨h1, h2⟩ := ih (tieStep u g x) (by rw [tieStep_length]; exact hu) (fun y hy => by rw [tieStep_length]; exact hl y (by simp [hy])) (hr.tie hu0 hu hx.1 hx.2)
    refine ⟨h1, fun j y => ?_⟩
    rw [List.foldl_cons, h2 j y, tieStep_mem hu hx.2 hu0 hx.1]
    constructor
    · rintro ((h | h) | ⟨z, hz, h⟩)
      · exact .inl h
      · exact .inr ⟨x, by simp, h⟩
      · exact .inr ⟨z, by simp [hz], h⟩
    · rintro (h | ⟨z, hz, h⟩)
      · exact .inl (.inl h)
      · rcases List.mem_cons.1 hz with e | e
        · subst e; exact .inl (.inr h)
        · exact .inr ⟨z, e, h⟩

/-- What the contracting adds. -/
theorem joinG_mem {g : List (List Int)} {u v : Int} (hr : RG g) (hu0 : 0 ≤ u) (hu : u < g.length) : RG (joinG g u v) ∧ ∀ (j : Nat) (y : Int), y ∈ row (joinG g u v) j ↔ y ∈ row (freeG g v) j ∨ (∃ x ∈ row g v.toNat, x ≠ u ∧ (((j : Int) = x ∧ y = u) ∨ ((j : Int) = u ∧ y = x))) :=
  tieFold_mem hu0 _ _ (by rw [freeG_length]; omega) (fun x hx => by have := (hr v.toNat).1 x hx; rw [freeG_length]; omega) (hr.free v)

/-- Something is left, if one folds as long as one can. -/
def HardS (g : List (List Int)) (left : List Int) : Prop := ∃ fs l g', Folds g left fs l g' ∧ 0 < l.length
theorem hardS_iff {g : List (List Int)} {left : List Int} {fs : List Fd} {l : List Int} {g' : List (List Int)} (h : Folds g left fs l g') : HardS g left ↔ 0 < l.length := by
  constructor
  · rintro ⟨fs2, l2, g2, h2, hl⟩
    obtain ⟨_, rfl, _⟩ := folds_det h h2
    exact hl
  · exact fun hl => ⟨_, _, _, h, hl⟩

/-- Who can be cut, and which edge can be contracted. -/
noncomputable def lessOf (g : List (List Int)) (L : List Int) : Option Int := L.find? (fun v => dec (HardS (freeG g v) (lessL L v)))
noncomputable def edgeRow (g : List (List Int)) (L : List Int) (u : Int) : Option Int := (row g u.toNat).find? (fun v => dec (u < v) && dec (HardS (joinG g u v) (lessL L v)))
noncomputable def edgeF (g : List (List Int)) (L : List Int) (u : Int) : Option (Int × Int) := (edgeRow g L u).map fun v => (u, v)
noncomputable def edgeOf (g : List (List Int)) (L : List Int) : Option (Int × Int) := L.findSome? (edgeF g L)
def intoAll (s t : List Int) : List Int := t.foldl intoL s

theorem find_drop {p : Int → Bool} {l : List Int} {i : Nat} (h : i < l.length) : (l.drop i).find? p = if p l[i] = true then some l[i] else (l.drop (i + 1)).find? p := by
  rw [List.drop_eq_getElem_cons h, List.find?_cons]
  cases p l[i] <;> simp
theorem find_stop {p : Int → Bool} {l : List Int} {i : Nat} (h : l.length ≤ i) : (l.drop i).find? p = none := by rw [List.drop_of_length_le h]; rfl
theorem some_drop {f : Int → Option (Int × Int)} {l : List Int} {i : Nat} (h : i < l.length) : (l.drop i).findSome? f = (f l[i]).or ((l.drop (i + 1)).findSome? f) := by
  rw [List.drop_eq_getElem_cons h, List.findSome?_cons]
  cases f l[i] <;> simp
theorem some_stop {f : Int → Option (Int × Int)} {l : List Int} {i : Nat} (h : l.length ≤ i) : (l.drop i).findSome? f = none := by rw [List.drop_of_length_le h]; rfl

/-- The reference cuts and contracts as long as it can. -/
inductive Fours : List (List Int) → List Int → List (List Int) → List Int → List (List Int) → Prop
  | stop {g : List (List Int)} {L : List Int} {S : List (List Int)} (h1 : lessOf g L = none) (h2 : edgeOf g L = none) : Fours g L S L S
  | less {g : List (List Int)} {L : List Int} {S : List (List Int)} {v : Int} {L' : List Int} {S' : List (List Int)} (h1 : lessOf g L = some v) (h : Fours (freeG g v) (lessL L v) S L' S') : Fours g L S L' S'
  | edge {g : List (List Int)} {L : List Int} {S : List (List Int)} {u v : Int} {L' : List Int} {S' : List (List Int)} (h1 : lessOf g L = none) (h2 : edgeOf g L = some (u, v))
      (h : Fours (joinG g u v) (lessL L v) (S.set u.toNat (intoAll (row S u.toNat) (row S v.toNat))) L' S') : Fours g L S L' S'

theorem fours_det {g : List (List Int)} {L : List Int} {S : List (List Int)} {L' : List Int} {S' : List (List Int)} (h : Fours g L S L' S') : ∀ {L2 : List Int} {S2 : List (List Int)}, Fours g L S L2 S2 → L' = L2 ∧ S' = S2 := by
  induction h with
  | stop h1 h2 =>
    intro L2 S2 k
    cases k with
    | stop => exact ⟨rfl, rfl⟩
    | less k1 _ => rw [h1] at k1; cases k1
    | edge _ k2 _ => rw [h2] at k2; cases k2
  | less h1 _ ih =>
    intro L2 S2 k
    cases k with
    | stop k1 _ => rw [h1] at k1; cases k1
    | less k1 k => rw [h1] at k1; cases k1; exact ih k
    | edge k1 _ _ => rw [h1] at k1; cases k1
  | edge h1 h2 _ ih =>
    intro L2 S2 k
    cases k with
    | stop _ k2 => rw [h2] at k2; cases k2
    | less k1 _ => rw [h1] at k1; cases k1
    | edge _ k2 k => rw [h2] at k2; cases k2; exact ih k

/-- What a loop carries: whatever comes of this comes of the first. -/
def FoursOn (g0 : List (List Int)) (L0 : List Int) (S0 : List (List Int)) (g : List (List Int)) (L : List Int) (S : List (List Int)) : Prop := ∀ L' S', Fours g L S L' S' → Fours g0 L0 S0 L' S'

/-- The sets at the start, and the result. -/
def aloneL (n : Nat) : List (List Int) := (List.range n).map fun (i : Nat) => [(i : Int)]
def FourS (g : List (List Int)) (out : List (List Int)) (b : Bool) : Prop :=
  (b = false ∧ out = [] ∧ ¬ (GOk g ∧ ¬ SerS g)) ∨ (b = true ∧ GOk g ∧ ¬ SerS g ∧ ∃ L S, Fours g (allL g.length) (aloneL g.length) L S ∧ out = L.map fun v => row S v.toNat)
theorem fourS_det {g : List (List Int)} {o1 o2 : List (List Int)} {b1 b2 : Bool} (h1 : FourS g o1 b1) (h2 : FourS g o2 b2) : o1 = o2 ∧ b1 = b2 := by
  rcases h1 with ⟨rfl, rfl, h⟩ | ⟨rfl, h, h', L, S, hf, rfl⟩
  · rcases h2 with ⟨rfl, rfl, _⟩ | ⟨_, k, k', _⟩
    · exact ⟨rfl, rfl⟩
    · exact absurd ⟨k, k'⟩ h
  · rcases h2 with ⟨_, _, k⟩ | ⟨rfl, _, _, L2, S2, hf2, rfl⟩
    · exact absurd ⟨h, h'⟩ k
    · obtain ⟨rfl, rfl⟩ := fours_det hf hf2
      exact ⟨rfl, rfl⟩

end Go.Proofs.YtfokiijcpkhllaaDoor
