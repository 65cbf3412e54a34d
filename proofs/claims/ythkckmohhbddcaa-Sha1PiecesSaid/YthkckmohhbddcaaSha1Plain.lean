/- Plain words on SHA-1, on whole numbers as the walk writes them. No condition. -/
import Derived.Test.YthkckmohhbddcaaNum
namespace Go.Proofs.Ythkckmohhbddcaa
open Go.RowKit
namespace Sha1

def rotI (x : Int) (k : Nat) : Int := bits .or .u32 (x * 2 ^ k % 4294967296) (x / 2 ^ (32 - k))
def mixI (t b c d : Int) : Int :=
  if t < 20 then (bits .or .u32 (bits .and .u32 b c) (bits .and .u32 (bits .xor .u32 IntKind.u32.max b) d) + 1518500249) % 4294967296
  else if t < 40 then (bits .xor .u32 (bits .xor .u32 b c) d + 1859775393) % 4294967296
  else if t < 60 then (bits .or .u32 (bits .or .u32 (bits .and .u32 b c) (bits .and .u32 b d)) (bits .and .u32 c d) + 2400959708) % 4294967296
  else (bits .xor .u32 (bits .xor .u32 b c) d + 3395469782) % 4294967296
/-- A chain: five words. -/
structure Ch where
  a : Int
  b : Int
  c : Int
  d : Int
  e : Int
def chL (x : Ch) : List Int := [x.a, x.b, x.c, x.d, x.e]
def chV (x : Ch) : Value := .agg #[.int .u32 x.a, .int .u32 x.b, .int .u32 x.c, .int .u32 x.d, .int .u32 x.e]
def firstC : Ch := ⟨1732584193, 4023233417, 2562383102, 271733878, 3285377520⟩
def stepC (x : Ch) (t w : Int) : Ch := ⟨(rotI x.a 5 + mixI t x.b x.c x.d + x.e + w) % 4294967296, x.a, rotI x.b 30, x.c, x.d⟩
def backC (x : Ch) (t w : Int) : Ch := ⟨x.b, rotI x.c 2, x.d, x.e, (x.a - rotI x.b 5 - mixI t (rotI x.c 2) x.d x.e - w) % 4294967296⟩

/-- The byte at a place, 0 behind the end; what is there of the first k bytes. -/
def byt (l : List UInt8) (j : Nat) : Int := ((l.getD j 0).toNat : Int)
def bk (l : List UInt8) (k j : Nat) : Int := if j < k then byt l j else 0
theorem byt_range (l : List UInt8) (j : Nat) : 0 ≤ byt l j ∧ byt l j ≤ 255 := by
  unfold byt
  have := (l.getD j 0).toNat_lt
  omega
theorem bk_range (l : List UInt8) (k j : Nat) : 0 ≤ bk l k j ∧ bk l k j ≤ 255 := by
  unfold bk
  have := byt_range l j
  split <;> omega
/-- Word t of the first k bytes. -/
def pw (l : List UInt8) (k t : Nat) : Int := ((bk l k (4 * t) * 256 + bk l k (4 * t + 1)) * 256 + bk l k (4 * t + 2)) * 256 + bk l k (4 * t + 3)
def nextW (ws : List Int) : Int :=
  rotI (bits .xor .u32 (bits .xor .u32 (bits .xor .u32 (ws.getD (ws.length - 3) 0) (ws.getD (ws.length - 8) 0)) (ws.getD (ws.length - 14) 0)) (ws.getD (ws.length - 16) 0)) 1
def grow : Nat → List Int → List Int
  | 0, ws => ws
  | k + 1, ws => grow k (ws ++ [nextW ws])
def w16 (l : List UInt8) : List Int := (List.range 16).map fun t => pw l (min l.length 64) t
def expand (l : List UInt8) : List Int := grow 64 (w16 l)
theorem grow_length (k : Nat) : ∀ ws, (grow k ws).length = ws.length + k := by
  induction k with
  | zero => intro ws; rfl
  | succ k ih => intro ws; rw [grow, ih]; simp; omega
theorem expand_length (l : List UInt8) : (expand l).length = 80 := by rw [expand, grow_length]; simp [w16]
/-- One byte more, laid into its word. -/
theorem pw_or (l : List UInt8) (k : Nat) :
    bits .or .u32 (pw l k (k / 4)) (byt l k * 2 ^ (24 - 8 * (k % 4))) = pw l (k + 1) (k / 4) := by
  have hb := byt_range l k
  have h0 := bk_range l k (4 * (k / 4))
  have h1 := bk_range l k (4 * (k / 4) + 1)
  have h2 := bk_range l k (4 * (k / 4) + 2)
  have e : ∀ j, j < k → bk l (k + 1) j = bk l k j := fun j hj => by unfold bk; rw [if_pos (by omega), if_pos hj]
  have ek : bk l (k + 1) k = byt l k := by unfold bk; rw [if_pos (by omega)]
  have ez : ∀ j, k ≤ j → bk l k j = 0 := fun j hj => by unfold bk; rw [if_neg (by omega)]
  have ez' : ∀ j, k < j → bk l (k + 1) j = 0 := fun j hj => by unfold bk; rw [if_neg (by omega)]
  unfold pw
  rcases (show k % 4 = 0 ∨ k % 4 = 1 ∨ k % 4 = 2 ∨ k % 4 = 3 by omega) with h | h | h | h
  · have hq : 4 * (k / 4) = k := by omega
    rw [hq, h, ek, ez k (by omega), ez (k + 1) (by omega), ez (k + 2) (by omega), ez (k + 3) (by omega), ez' (k + 1) (by omega), ez' (k + 2) (by omega), ez' (k + 3) (by omega)]
    rw [bits_join .u32 32 (by decide) wraps_u32 32 _ _ (by omega) (by omega) (by omega) (by omega) (by omega) (by omega)]
    omega
  · have hq : 4 * (k / 4) + 1 = k := by omega
    have hq2 : 4 * (k / 4) + 2 = k + 1 := by omega
    have hq3 : 4 * (k / 4) + 3 = k + 2 := by omega
    rw [hq, hq2, hq3, h, ek, e _ (show 4 * (k / 4) < k by omega), ez k (by omega), ez (k + 1) (by omega), ez (k + 2) (by omega), ez' (k + 1) (by omega), ez' (k + 2) (by omega)]
    rw [bits_join .u32 32 (by decide) wraps_u32 24 _ _ (by omega) (by omega) (by omega) (by omega) (by omega) (by omega)]
    omega
  · have hq1 : 4 * (k / 4) + 1 < k := by omega
    have hq : 4 * (k / 4) + 2 = k := by omega
    have hq3 : 4 * (k / 4) + 3 = k + 1 := by omega
    rw [hq, hq3, h, ek, e _ (show 4 * (k / 4) < k by omega), e _ hq1, ez k (by omega), ez (k + 1) (by omega), ez' (k + 1) (by omega)]
    rw [bits_join .u32 32 (by decide) wraps_u32 16 _ _ (by omega) (by omega) (by omega) (by omega) (by omega) (by omega)]
    omega
  · have hq1 : 4 * (k / 4) + 1 < k := by omega
    have hq2 : 4 * (k / 4) + 2 < k := by omega
    have hq : 4 * (k / 4) + 3 = k := by omega
    rw [hq, h, ek, e _ (show 4 * (k / 4) < k by omega), e _ hq1, e _ hq2, ez k (by omega)]
    rw [bits_join .u32 32 (by decide) wraps_u32 8 _ _ (by omega) (by omega) (by omega) (by omega) (by omega) (by omega)]
    omega
theorem pw_same (l : List UInt8) (k t : Nat) (h : t ≠ k / 4) : pw l (k + 1) t = pw l k t := by
  have e : ∀ j, j ≠ k → bk l (k + 1) j = bk l k j := fun j hj => by
    unfold bk
    by_cases h1 : j < k
    · rw [if_pos (by omega), if_pos h1]
    · rw [if_neg (by omega), if_neg h1]
  unfold pw
  rw [e _ (by omega), e _ (by omega), e _ (by omega), e _ (by omega)]
theorem pw_range (l : List UInt8) (k t : Nat) : 0 ≤ pw l k t ∧ pw l k t ≤ 4294967295 := by
  unfold pw
  have h0 := bk_range l k (4 * t)
  have h1 := bk_range l k (4 * t + 1)
  have h2 := bk_range l k (4 * t + 2)
  have h3 := bk_range l k (4 * t + 3)
  omega
/-- The eighty words when k bytes are laid. -/
def pws (l : List UInt8) (k : Nat) : List Int := (List.range 80).map fun t => pw l k t
theorem pws_length (l : List UInt8) (k : Nat) : (pws l k).length = 80 := by simp [pws]
theorem pws_getD (l : List UInt8) (k t : Nat) (h : t < 80) : (pws l k).getD t 0 = pw l k t := by simp [pws, List.getD_eq_getElem?_getD, h]
theorem pws_zero (l : List UInt8) : pws l 0 = List.replicate 80 0 := by
  apply List.ext_getElem
  · simp [pws]
  · intro i h1 h2
    rw [List.getElem_replicate]
    simp [pws, pw, bk]
theorem pws_set (l : List UInt8) (k : Nat) : (pws l k).set (k / 4) (pw l (k + 1) (k / 4)) = pws l (k + 1) := by
  apply List.ext_getElem
  · simp [pws]
  · intro i h1 h2
    rw [List.getElem_set]
    by_cases e : k / 4 = i
    · subst e; simp [pws]
    · rw [if_neg e]
      simp [pws, pw_same l k i (Ne.symm e)]
theorem pws_end (l : List UInt8) : pws l (min l.length 64) = w16 l ++ List.replicate 64 0 := by
  apply List.ext_getElem
  · simp [pws, w16]
  · intro i h1 h2
    by_cases hi : i < 16
    · rw [List.getElem_append_left (by simpa [w16] using hi)]
      simp [pws, w16]
    · rw [List.getElem_append_right (by simpa [w16] using Nat.le_of_not_lt hi)]
      have e : ∀ j, 64 ≤ j → bk l (min l.length 64) j = 0 := fun j hj => by unfold bk; rw [if_neg (by omega)]
      rw [List.getElem_replicate]
      simp [pws, pw, e _ (show 64 ≤ 4 * i by omega), e _ (show 64 ≤ 4 * i + 1 by omega), e _ (show 64 ≤ 4 * i + 2 by omega), e _ (show 64 ≤ 4 * i + 3 by omega)]

/-- The document's words: a word after i of its bytes. -/
def iw (l : List UInt8) (t : Nat) : Nat → Int
  | 0 => 0
  | i + 1 => iw l t i * 256 + byt l (4 * t + i)
theorem iw_range (l : List UInt8) (t i : Nat) (hi : i ≤ 4) : 0 ≤ iw l t i ∧ iw l t i < 256 ^ i := by
  have h0 := byt_range l (4 * t + 0)
  have h1 := byt_range l (4 * t + 1)
  have h2 := byt_range l (4 * t + 2)
  have h3 := byt_range l (4 * t + 3)
  rcases (show i = 0 ∨ i = 1 ∨ i = 2 ∨ i = 3 ∨ i = 4 by omega) with h | h | h | h | h <;> subst h <;> simp only [iw] <;> omega
theorem byt_behind (l : List UInt8) (j : Nat) (h : l.length ≤ j) : byt l j = 0 := by
  unfold byt
  rw [List.getD_eq_getElem?_getD, List.getElem?_eq_none h]; rfl
theorem iw_pw (l : List UInt8) (t : Nat) (ht : t < 16) : iw l t 4 = pw l (min l.length 64) t := by
  have e : ∀ j, j < 64 → bk l (min l.length 64) j = byt l j := fun j hj => by
    unfold bk
    split
    · rfl
    · rw [byt_behind l j (by omega)]
  unfold pw
  rw [e _ (by omega), e _ (by omega), e _ (by omega), e _ (by omega)]
  simp only [iw, Nat.add_zero]
  omega
def uws (l : List UInt8) (k i : Nat) : List Int := (List.range 80).map fun t => if t < k then iw l t 4 else if t = k then iw l k i else 0
theorem uws_length (l : List UInt8) (k i : Nat) : (uws l k i).length = 80 := by simp [uws]
theorem uws_zero (l : List UInt8) : uws l 0 0 = List.replicate 80 0 := by
  apply List.ext_getElem
  · simp [uws]
  · intro i h1 h2
    rw [List.getElem_replicate]
    simp [uws, iw]
theorem uws_next (l : List UInt8) (k : Nat) : uws l k 4 = uws l (k + 1) 0 := by
  apply List.ext_getElem
  · simp [uws]
  · intro i h1 h2
    simp only [uws, List.getElem_map, List.getElem_range, iw]
    by_cases h : i < k
    · rw [if_pos h, if_pos (by omega)]
    · by_cases e : i = k
      · subst e; rw [if_neg (by omega), if_pos rfl, if_pos (by omega)]
      · rw [if_neg h, if_neg e, if_neg (by omega)]; split <;> rfl
theorem uws_getD (l : List UInt8) (k i : Nat) (hk : k < 80) : (uws l k i).getD k 0 = iw l k i := by simp [uws, List.getD_eq_getElem?_getD, hk]
theorem uws_set (l : List UInt8) (k i : Nat) (x : Int) : ((uws l k i).set k x).set k (iw l k (i + 1)) = uws l k (i + 1) := by
  rw [List.set_set]
  apply List.ext_getElem
  · simp [uws]
  · intro j h1 h2
    rw [List.getElem_set]
    by_cases e : k = j
    · subst e; simp [uws]
    · rw [if_neg e]
      simp [uws, Ne.symm e]
theorem uws_set1 (l : List UInt8) (k i : Nat) : (uws l k i).set k (iw l k (i + 1)) = uws l k (i + 1) := by
  have := uws_set l k i (iw l k (i + 1))
  rwa [List.set_set] at this
theorem uws_end (l : List UInt8) : uws l 16 0 = w16 l ++ List.replicate 64 0 := by
  apply List.ext_getElem
  · simp [uws, w16]
  · intro i h1 h2
    by_cases hi : i < 16
    · rw [List.getElem_append_left (by simpa [w16] using hi)]
      simp [uws, w16, hi, iw_pw l i hi]
    · rw [List.getElem_append_right (by simpa [w16] using Nat.le_of_not_lt hi), List.getElem_replicate]
      simp [uws, hi, iw]

/-- The chain behind the steps from t on. -/
def runC (x : Ch) (t : Nat) : List Int → Ch
  | [] => x
  | w :: ws => runC (stepC x t w) (t + 1) ws
def addC (c y : Ch) : Ch := ⟨(c.a + y.a) % 4294967296, (c.b + y.b) % 4294967296, (c.c + y.c) % 4294967296, (c.d + y.d) % 4294967296, (c.e + y.e) % 4294967296⟩
def pressC (c : Ch) (l : List UInt8) : Ch := addC c (runC c 0 (expand l))
theorem runC_drop (x : Ch) (t : Nat) (ws : List Int) (h : t < ws.length) : runC x t (ws.drop t) = runC (stepC x t (ws.getD t 0)) (t + 1) (ws.drop (t + 1)) := by
  have e : ws.getD t 0 = ws[t] := by simp [List.getD_eq_getElem?_getD, List.getElem?_eq_getElem h]
  rw [List.drop_eq_getElem_cons h, e]
  rfl

/-- A chain to which the first i words of another are added. -/
def addL (c y : Ch) (i : Nat) : List Int := (List.range 5).map fun j => if j < i then ((chL c).getD j 0 + (chL y).getD j 0) % 4294967296 else (chL c).getD j 0
theorem addL_zero (c y : Ch) : addL c y 0 = chL c := rfl
theorem addL_five (c y : Ch) : addL c y 5 = chL (addC c y) := rfl
theorem addL_length (c y : Ch) (i : Nat) : (addL c y i).length = 5 := by simp [addL]
theorem addL_getD (c y : Ch) (i : Nat) (h : i < 5) : (addL c y i).getD i 0 = (chL c).getD i 0 := by simp [addL, List.getD_eq_getElem?_getD, h]
theorem addL_set (c y : Ch) (i : Nat) (h : i < 5) : (addL c y i).set i (((chL c).getD i 0 + (chL y).getD i 0) % 4294967296) = addL c y (i + 1) := by
  rcases (show i = 0 ∨ i = 1 ∨ i = 2 ∨ i = 3 ∨ i = 4 by omega) with h | h | h | h | h <;> subst h <;> rfl

end Sha1
end Go.Proofs.Ythkckmohhbddcaa
