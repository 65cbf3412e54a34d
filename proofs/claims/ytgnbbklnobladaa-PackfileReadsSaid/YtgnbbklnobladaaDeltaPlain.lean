/- Plain words on deltas. No condition. -/
import Derived.Test.YtgnbbklnobladaaBuf
namespace Go.Proofs.Ytgnbbklnobladaa
open Go.RowKit
/-- The byte at a place, 0 behind the end. -/
def byt (l : List UInt8) (j : Nat) : Int := ((l.getD j 0).toNat : Int)
theorem byt_range (l : List UInt8) (j : Nat) : 0 ≤ byt l j ∧ byt l j ≤ 255 := by
  unfold byt
  have := (l.getD j 0).toNat_lt
  omega
theorem byt_drop (l : List UInt8) (k j : Nat) : byt (l.drop k) j = byt l (k + j) := by
  unfold byt
  rw [List.getD_eq_getElem?_getD, List.getD_eq_getElem?_getD, List.getElem?_drop]
theorem get_byte (l : List UInt8) (i : Nat) (h : i < (strOf l).size) : (((strOf l)[i].toNat : Nat) : Int) = byt l i := by
  unfold byt
  have h' : i < l.length := by rw [strOf_size] at h; exact h
  rw [List.getD_eq_getElem?_getD, List.getElem?_eq_getElem h']
  rfl
theorem strOf_extract (l : List UInt8) (a b : Nat) : (strOf l).extract a b = strOf ((l.drop a).take (b - a)) := by
  rw [str_eq, ByteArray.data_extract]
  simp [strOf, List.extract]
theorem strOf_tail (l : List UInt8) (a : Nat) : (strOf l).extract a (strOf l).size = strOf (l.drop a) := by
  rw [strOf_extract, strOf_size, List.take_of_length_le (by rw [List.length_drop]; exact Nat.le_refl _)]
theorem strOf_append (a b : List UInt8) : strOf a ++ strOf b = strOf (a ++ b) := by
  rw [str_eq, ByteArray.data_append, Array.toList_append, strOf_list, strOf_list, strOf_list]
namespace Delta
/-- The number of four bytes. -/
def val4 (l : List UInt8) : Nat := (((l.getD 0 0).toNat * 256 + (l.getD 1 0).toNat) * 256 + (l.getD 2 0).toNat) * 256 + (l.getD 3 0).toNat
theorem val4_lt (l : List UInt8) : val4 l < 4294967296 := by
  unfold val4
  have h0 := (l.getD 0 0).toNat_lt
  have h1 := (l.getD 1 0).toNat_lt
  have h2 := (l.getD 2 0).toNat_lt
  have h3 := (l.getD 3 0).toNat_lt
  omega
theorem val4_byt (l : List UInt8) : ((val4 l : Nat) : Int) = ((byt l 0 * 256 + byt l 1) * 256 + byt l 2) * 256 + byt l 3 := by
  unfold val4 byt
  simp
theorem wraps_i64 (n : Int) (h₀ : 0 ≤ n) (h₁ : n < 2 ^ 63) : IntKind.i64.wrap n = n := by
  simp [IntKind.wrap, IntKind.bits, IntKind.signed]; omega
theorem join4 (a b c d : Int) (ha : 0 ≤ a ∧ a ≤ 255) (hb : 0 ≤ b ∧ b ≤ 255) (hc : 0 ≤ c ∧ c ≤ 255) (hd : 0 ≤ d ∧ d ≤ 255) :
    bits .or .i64 (bits .or .i64 (bits .or .i64 (a * 16777216) (b * 65536)) (c * 256)) d = ((a * 256 + b) * 256 + c) * 256 + d := by
  rw [bits_join .i64 63 (by decide) wraps_i64 24 (a * 16777216) (b * 65536) (by omega) (by omega) (by omega) (by omega) (by omega) (by omega)]
  rw [bits_join .i64 63 (by decide) wraps_i64 16 (a * 16777216 + b * 65536) (c * 256) (by omega) (by omega) (by omega) (by omega) (by omega) (by omega)]
  rw [bits_join .i64 63 (by decide) wraps_i64 8 (a * 16777216 + b * 65536 + c * 256) d (by omega) (by omega) (by omega) (by omega) (by omega) (by omega)]
  omega
/-- What the first step makes, what stands behind it, the error. -/
def stepP (b s : List UInt8) : List UInt8 × List UInt8 × Int :=
  if byt s 0 = 1 then
    if s.length < 9 then ([], [], 2)
    else if val4 (s.drop 5) = 0 ∨ b.length < val4 (s.drop 1) + val4 (s.drop 5) then ([], [], 3)
    else ((b.drop (val4 (s.drop 1))).take (val4 (s.drop 5)), s.drop 9, 0)
  else if byt s 0 = 2 then
    if s.length < 5 then ([], [], 2)
    else if s.length < 5 + val4 (s.drop 1) then ([], [], 2)
    else if val4 (s.drop 1) = 0 then ([], [], 3)
    else ((s.drop 5).take (val4 (s.drop 1)), s.drop (5 + val4 (s.drop 1)), 0)
  else ([], [], 3)
def runP (b : List UInt8) (size : Nat) : Nat → List UInt8 → List UInt8 → List UInt8 × Int
  | 0, _, _ => ([], 3)
  | k + 1, out, s =>
    if s = [] then (if out.length = size then (out, 0) else ([], 3))
    else if (stepP b s).2.2 ≠ 0 then ([], (stepP b s).2.2)
    else if size < out.length + (stepP b s).1.length then ([], 3)
    else runP b size k (out ++ (stepP b s).1) (stepP b s).2.1
theorem stepP_next (b s : List UInt8) (h : (stepP b s).2.2 = 0) (hs : s ≠ []) : (stepP b s).2.1.length < s.length := by
  have hp : 0 < s.length := List.length_pos_iff.2 hs
  unfold stepP at h ⊢
  by_cases h1 : byt s 0 = 1
  · rw [if_pos h1] at h ⊢
    by_cases h2 : s.length < 9
    · rw [if_pos h2] at h; exact absurd h (by decide)
    · rw [if_neg h2] at h ⊢
      by_cases h3 : val4 (s.drop 5) = 0 ∨ b.length < val4 (s.drop 1) + val4 (s.drop 5)
      · rw [if_pos h3] at h; exact absurd h (by decide)
      · rw [if_neg h3]; simp only [List.length_drop]; omega
  · rw [if_neg h1] at h ⊢
    by_cases h2 : byt s 0 = 2
    · rw [if_pos h2] at h ⊢
      by_cases h3 : s.length < 5
      · rw [if_pos h3] at h; exact absurd h (by decide)
      · rw [if_neg h3] at h ⊢
        by_cases h4 : s.length < 5 + val4 (s.drop 1)
        · rw [if_pos h4] at h; exact absurd h (by decide)
        · rw [if_neg h4] at h ⊢
          by_cases h5 : val4 (s.drop 1) = 0
          · rw [if_pos h5] at h; exact absurd h (by decide)
          · rw [if_neg h5]; simp only [List.length_drop]; omega
    · rw [if_neg h2] at h; exact absurd h (by decide)
theorem runP_fuel (b : List UInt8) (size : Nat) : ∀ (n k : Nat) (out s : List UInt8), s.length ≤ n → n < k → runP b size k out s = runP b size (n + 1) out s
  | n, 0, _, _, _, h => by omega
  | 0, k + 1, out, s, hs, _ => by
    have : s = [] := List.eq_nil_of_length_eq_zero (by omega)
    subst this
    simp only [runP, if_true]
  | n + 1, k + 1, out, s, hs, hk => by
    unfold runP
    by_cases h0 : s = []
    · rw [if_pos h0, if_pos h0]
    · rw [if_neg h0, if_neg h0]
      by_cases h1 : (stepP b s).2.2 ≠ 0
      · rw [if_pos h1, if_pos h1]
      · rw [if_neg h1, if_neg h1]
        have h2 := stepP_next b s (by simpa using h1) h0
        rw [runP_fuel b size n k _ _ (by omega) (by omega)]
/-- What is made of bytes that are left. -/
def outP (b : List UInt8) (size : Nat) (out s : List UInt8) : List UInt8 × Int := runP b size (s.length + 1) out s
theorem outP_end (b : List UInt8) (size : Nat) (out : List UInt8) : outP b size out [] = if out.length = size then (out, 0) else ([], 3) := by
  simp only [outP, runP, if_true]
theorem outP_step (b : List UInt8) (size : Nat) (out s : List UInt8) (hs : s ≠ []) :
    outP b size out s = if (stepP b s).2.2 ≠ 0 then ([], (stepP b s).2.2) else if size < out.length + (stepP b s).1.length then ([], 3) else outP b size (out ++ (stepP b s).1) (stepP b s).2.1 := by
  unfold outP
  rw [runP, if_neg hs]
  by_cases h1 : (stepP b s).2.2 ≠ 0
  · rw [if_pos h1, if_pos h1]
  · rw [if_neg h1, if_neg h1]
    have h2 := stepP_next b s (by simpa using h1) hs
    rw [runP_fuel b size (stepP b s).2.1.length s.length _ _ (Nat.le_refl _) h2]
def applyP (b d : List UInt8) (most : Int) : List UInt8 × Int :=
  if d.length < 8 then ([], 2)
  else if val4 d ≠ b.length then ([], 13)
  else if (if most < 0 then 0 else most) < (val4 (d.drop 4) : Int) then ([], 9)
  else outP b (val4 (d.drop 4)) [] (d.drop 8)
def sizeP (d : List UInt8) : Int × Int := if d.length < 8 then (0, 2) else ((val4 (d.drop 4) : Int), 0)
end Delta
end Go.Proofs.Ytgnbbklnobladaa
