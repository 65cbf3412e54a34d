/- Plain words on SHA-256, on whole numbers as the walk writes them. No condition. -/
import Derived.Test.YtgnbbklnobladaaNum
namespace Go.Proofs.Ytgnbbklnobladaa
open Go.RowKit
namespace Sha2

/-- The bits of a word. -/
def bv (x : Int) : BitVec 32 := BitVec.ofInt 32 x
theorem wrap_bv (b : BitVec 32) : IntKind.u32.wrap (b.toNat : Int) = (b.toNat : Int) := by
  have := b.isLt
  rw [IntKind.wrap_u32]; omega
theorem bits_and (a b : Int) : bits .and .u32 a b = ((bv a &&& bv b).toNat : Int) := wrap_bv (bv a &&& bv b)
theorem bits_or (a b : Int) : bits .or .u32 a b = ((bv a ||| bv b).toNat : Int) := wrap_bv (bv a ||| bv b)
theorem bits_xor (a b : Int) : bits .xor .u32 a b = ((bv a ^^^ bv b).toNat : Int) := wrap_bv (bv a ^^^ bv b)
theorem bv_toNat (b : BitVec 32) : bv (b.toNat : Int) = b := by
  apply BitVec.eq_of_toNat_eq
  have := b.isLt
  simp [bv]
theorem or_comm (a b : Int) : bits .or .u32 a b = bits .or .u32 b a := by
  rw [bits_or, bits_or, BitVec.or_comm]
/-- A word turned to the right. -/
def rotr (x : Int) (k : Nat) : Int := bits .or .u32 (x * 2 ^ (32 - k) % 4294967296) (x / 2 ^ k)
def sig0 (x : Int) : Int := bits .xor .u32 (bits .xor .u32 (rotr x 7) (rotr x 18)) (x / 8)
def sig1 (x : Int) : Int := bits .xor .u32 (bits .xor .u32 (rotr x 17) (rotr x 19)) (x / 1024)
def big0 (x : Int) : Int := bits .xor .u32 (bits .xor .u32 (rotr x 2) (rotr x 13)) (rotr x 22)
def big1 (x : Int) : Int := bits .xor .u32 (bits .xor .u32 (rotr x 6) (rotr x 11)) (rotr x 25)
def chI (e f g : Int) : Int := bits .xor .u32 g (bits .and .u32 e (bits .xor .u32 f g))
def majI (a b c : Int) : Int := bits .or .u32 (bits .and .u32 a b) (bits .and .u32 c (bits .or .u32 a b))
theorem ch_ref (e f g : Int) : bits .xor .u32 (bits .and .u32 e f) (bits .and .u32 (bits .xor .u32 IntKind.u32.max e) g) = chI e f g := by
  unfold chI
  simp only [bits_and, bits_xor, bv_toNat]
  congr 2
  have hm : bv IntKind.u32.max = BitVec.allOnes 32 := by decide
  rw [hm]
  apply BitVec.eq_of_getLsbD_eq
  intro i hi
  simp only [BitVec.getLsbD_xor, BitVec.getLsbD_and, BitVec.getLsbD_allOnes, hi, decide_true]
  cases (bv e).getLsbD i <;> cases (bv f).getLsbD i <;> cases (bv g).getLsbD i <;> rfl
theorem maj_ref (a b c : Int) : bits .xor .u32 (bits .xor .u32 (bits .and .u32 a b) (bits .and .u32 a c)) (bits .and .u32 b c) = majI a b c := by
  unfold majI
  simp only [bits_and, bits_xor, bits_or, bv_toNat]
  congr 2
  apply BitVec.eq_of_getLsbD_eq
  intro i hi
  simp only [BitVec.getLsbD_xor, BitVec.getLsbD_and, BitVec.getLsbD_or]
  cases (bv a).getLsbD i <;> cases (bv b).getLsbD i <;> cases (bv c).getLsbD i <;> rfl

/-- A chain: eight words. -/
structure Ch where
  a : Int
  b : Int
  c : Int
  d : Int
  e : Int
  f : Int
  g : Int
  h : Int
def chL (x : Ch) : List Int := [x.a, x.b, x.c, x.d, x.e, x.f, x.g, x.h]
def firstC : Ch := ⟨1779033703, 3144134277, 1013904242, 2773480762, 1359893119, 2600822924, 528734635, 1541459225⟩
def keysL : List Int := [1116352408, 1899447441, 3049323471, 3921009573, 961987163, 1508970993, 2453635748, 2870763221, 3624381080, 310598401, 607225278, 1426881987, 1925078388, 2162078206, 2614888103, 3248222580, 3835390401, 4022224774, 264347078, 604807628, 770255983, 1249150122, 1555081692, 1996064986, 2554220882, 2821834349, 2952996808, 3210313671, 3336571891, 3584528711, 113926993, 338241895, 666307205, 773529912, 1294757372, 1396182291, 1695183700, 1986661051, 2177026350, 2456956037, 2730485921, 2820302411, 3259730800, 3345764771, 3516065817, 3600352804, 4094571909, 275423344, 430227734, 506948616, 659060556, 883997877, 958139571, 1322822218, 1537002063, 1747873779, 1955562222, 2024104815, 2227730452, 2361852424, 2428436474, 2756734187, 3204031479, 3329325298]
def oneI (x : Ch) (k w : Int) : Int := (x.h + big1 x.e + chI x.e x.f x.g + k + w) % 4294967296
def twoI (x : Ch) : Int := (big0 x.a + majI x.a x.b x.c) % 4294967296
def stepC (x : Ch) (k w : Int) : Ch := ⟨(oneI x k w + twoI x) % 4294967296, x.a, x.b, x.c, (x.d + oneI x k w) % 4294967296, x.e, x.f, x.g⟩

def byt (l : List UInt8) (j : Nat) : Int := ((l.getD j 0).toNat : Int)
theorem byt_range (l : List UInt8) (j : Nat) : 0 ≤ byt l j ∧ byt l j ≤ 255 := by
  unfold byt
  have := (l.getD j 0).toNat_lt
  omega
/-- Word t, after i of its bytes. -/
def iw (l : List UInt8) (t : Nat) : Nat → Int
  | 0 => 0
  | i + 1 => iw l t i * 256 + byt l (4 * t + i)
theorem iw_range (l : List UInt8) (t i : Nat) (hi : i ≤ 4) : 0 ≤ iw l t i ∧ iw l t i < 256 ^ i := by
  have h0 := byt_range l (4 * t + 0)
  have h1 := byt_range l (4 * t + 1)
  have h2 := byt_range l (4 * t + 2)
  have h3 := byt_range l (4 * t + 3)
  rcases (show i = 0 ∨ i = 1 ∨ i = 2 ∨ i = 3 ∨ i = 4 by omega) with h | h | h | h | h <;> subst h <;> simp only [iw] <;> omega
/-- One byte more, laid into its word. -/
theorem iw_or (l : List UInt8) (t i : Nat) (hi : i < 4) : bits .or .u32 (iw l t i * 256 % 4294967296) (byt l (4 * t + i)) = iw l t (i + 1) := by
  have h0 := iw_range l t i (by omega)
  have hb := byt_range l (4 * t + i)
  have hp : (256 : Int) ^ i ≤ 16777216 := by
    rcases (show i = 0 ∨ i = 1 ∨ i = 2 ∨ i = 3 by omega) with h | h | h | h <;> subst h <;> decide
  rw [show iw l t (i + 1) = iw l t i * 256 + byt l (4 * t + i) from rfl]
  rw [show iw l t i * 256 % 4294967296 = iw l t i * 256 by omega]
  rw [bits_join .u32 32 (by decide) wraps_u32 8 _ _ (by omega) (by omega) (by omega) (by omega) (by omega) (by omega)]
theorem iw_four (l : List UInt8) (t : Nat) : iw l t 4 = (byt l (4 * t) * 16777216 + byt l (4 * t + 1) * 65536 + byt l (4 * t + 2) * 256 + byt l (4 * t + 3)) := by
  simp only [iw, Nat.add_zero]; omega
/-- The words when k of them, and i bytes of the next, are laid. -/
def uws (l : List UInt8) (k i : Nat) : List Int := (List.range 64).map fun t => if t < k then iw l t 4 else if t = k then iw l k i else 0
theorem uws_length (l : List UInt8) (k i : Nat) : (uws l k i).length = 64 := by simp [uws]
theorem uws_zero (l : List UInt8) : uws l 0 0 = List.replicate 64 0 := by
  apply List.ext_getElem
  · simp [uws]
  · intro i h1 h2
    rw [List.getElem_replicate]
    simp [uws, iw]
theorem uws_next (l : List UInt8) (k : Nat) : uws l k 4 = uws l (k + 1) 0 := by
  apply List.ext_getElem
  · simp [uws]
  · intro i h1 h2
    simp only [uws, List.getElem_map, List.getElem_range, iw]
    by_cases h : i < k
    · rw [if_pos h, if_pos (by omega)]
    · by_cases e : i = k
      · subst e; rw [if_neg (by omega), if_pos rfl, if_pos (by omega)]
      · rw [if_neg h, if_neg e, if_neg (by omega)]; split <;> rfl
theorem uws_getD (l : List UInt8) (k i : Nat) (hk : k < 64) : (uws l k i).getD k 0 = iw l k i := by simp [uws, List.getD_eq_getElem?_getD, hk]
theorem uws_set (l : List UInt8) (k i : Nat) : (uws l k i).set k (iw l k (i + 1)) = uws l k (i + 1) := by
  apply List.ext_getElem
  · simp [uws]
  · intro j h1 h2
    rw [List.getElem_set]
    by_cases e : k = j
    · subst e; simp [uws]
    · rw [if_neg e]
      simp [uws, Ne.symm e]
theorem uws_word (l : List UInt8) (k : Nat) : (uws l k 0).set k (iw l k 4) = uws l (k + 1) 0 := by
  rw [← uws_next, ← uws_set l k 3, ← uws_set l k 2, ← uws_set l k 1, ← uws_set l k 0]
  simp only [List.set_set]
/-- The words when j bytes are laid. -/
def bws (l : List UInt8) (j : Nat) : List Int := uws l (j / 4) (j % 4)
theorem bws_length (l : List UInt8) (j : Nat) : (bws l j).length = 64 := uws_length _ _ _
theorem bws_getD (l : List UInt8) (j : Nat) (hj : j < 64) : (bws l j).getD (j / 4) 0 = iw l (j / 4) (j % 4) := uws_getD _ _ _ (by omega)
theorem bws_set (l : List UInt8) (j : Nat) : (bws l j).set (j / 4) (bits .or .u32 (iw l (j / 4) (j % 4) * 256 % 4294967296) (byt l j)) = bws l (j + 1) := by
  have h := iw_or l (j / 4) (j % 4) (by omega)
  rw [show 4 * (j / 4) + j % 4 = j by omega] at h
  rw [h, bws, uws_set, bws]
  rcases (show j % 4 < 3 ∨ j % 4 = 3 by omega) with h3 | h3
  · rw [show (j + 1) / 4 = j / 4 by omega, show (j + 1) % 4 = j % 4 + 1 by omega]
  · rw [show (j + 1) / 4 = j / 4 + 1 by omega, show (j + 1) % 4 = 0 by omega, h3, uws_next]
def w16 (l : List UInt8) : List Int := (List.range 16).map fun t => iw l t 4
theorem uws_end (l : List UInt8) : uws l 16 0 = w16 l ++ List.replicate 48 0 := by
  apply List.ext_getElem
  · simp [uws, w16]
  · intro i h1 h2
    by_cases hi : i < 16
    · rw [List.getElem_append_left (by simpa [w16] using hi)]
      simp [uws, w16, hi]
    · rw [List.getElem_append_right (by simpa [w16] using Nat.le_of_not_lt hi), List.getElem_replicate]
      simp [uws, hi, iw]
def nextW (ws : List Int) : Int :=
  (ws.getD (ws.length - 16) 0 + sig0 (ws.getD (ws.length - 15) 0) + ws.getD (ws.length - 7) 0 + sig1 (ws.getD (ws.length - 2) 0)) % 4294967296
def grow : Nat → List Int → List Int
  | 0, ws => ws
  | k + 1, ws => grow k (ws ++ [nextW ws])
theorem grow_length (k : Nat) : ∀ ws, (grow k ws).length = ws.length + k := by
  induction k with
  | zero => intro ws; rfl
  | succ k ih => intro ws; rw [grow, ih]; simp; omega
def expand (l : List UInt8) : List Int := grow 48 (w16 l)
theorem expand_length (l : List UInt8) : (expand l).length = 64 := by rw [expand, grow_length]; simp [w16]
/-- The chain behind the steps from t on. -/
def runC (x : Ch) (t : Nat) : List Int → Ch
  | [] => x
  | w :: ws => runC (stepC x (keysL.getD t 0) w) (t + 1) ws
def addC (c y : Ch) : Ch := ⟨(c.a + y.a) % 4294967296, (c.b + y.b) % 4294967296, (c.c + y.c) % 4294967296, (c.d + y.d) % 4294967296, (c.e + y.e) % 4294967296, (c.f + y.f) % 4294967296, (c.g + y.g) % 4294967296, (c.h + y.h) % 4294967296⟩
def pressC (c : Ch) (l : List UInt8) : Ch := addC c (runC c 0 (expand l))
theorem runC_drop (x : Ch) (t : Nat) (ws : List Int) (h : t < ws.length) : runC x t (ws.drop t) = runC (stepC x (keysL.getD t 0) (ws.getD t 0)) (t + 1) (ws.drop (t + 1)) := by
  have e : ws.getD t 0 = ws[t] := by simp [List.getD_eq_getElem?_getD, List.getElem?_eq_getElem h]
  rw [List.drop_eq_getElem_cons h, e]
  rfl
/-- A chain to which the first i words of another are added. -/
def addL (c y : Ch) (i : Nat) : List Int := (List.range 8).map fun j => if j < i then ((chL c).getD j 0 + (chL y).getD j 0) % 4294967296 else (chL c).getD j 0
theorem addL_zero (c y : Ch) : addL c y 0 = chL c := rfl
theorem addL_eight (c y : Ch) : addL c y 8 = chL (addC c y) := rfl
theorem addL_length (c y : Ch) (i : Nat) : (addL c y i).length = 8 := by simp [addL]
theorem addL_getD (c y : Ch) (i : Nat) (h : i < 8) : (addL c y i).getD i 0 = (chL c).getD i 0 := by simp [addL, List.getD_eq_getElem?_getD, h]
theorem addL_set (c y : Ch) (i : Nat) (h : i < 8) : (addL c y i).set i (((chL c).getD i 0 + (chL y).getD i 0) % 4294967296) = addL c y (i + 1) := by
  rcases (show i = 0 ∨ i = 1 ∨ i = 2 ∨ i = 3 ∨ i = 4 ∨ i = 5 ∨ i = 6 ∨ i = 7 by omega) with h | h | h | h | h | h | h | h <;> subst h <;> rfl

/-- The bytes, block by block. -/
def chain : Nat → Ch → List UInt8 → Ch
  | 0, c, _ => c
  | k + 1, c, l => chain k (pressC c (l.take 64)) (l.drop 64)
theorem chain_add (i : Nat) : ∀ (j : Nat) (c : Ch) (l : List UInt8), chain (i + j) c l = chain j (chain i c l) (l.drop (64 * i)) := by
  induction i with
  | zero => intro j c l; simp [chain]
  | succ i ih =>
    intro j c l
    rw [show i + 1 + j = (i + j) + 1 by omega, chain, ih, chain, List.drop_drop, show 64 + 64 * i = 64 * (i + 1) by omega]
theorem chain_front (k : Nat) : ∀ (c : Ch) (l x : List UInt8), 64 * k ≤ l.length → chain k c (l ++ x) = chain k c l := by
  induction k with
  | zero => intro c l x _; rfl
  | succ k ih =>
    intro c l x h
    rw [chain, chain, List.take_append_of_le_length (by omega), List.drop_append_of_le_length (by omega), ih _ _ _ (by rw [List.length_drop]; omega)]
def midC (m : List UInt8) : Ch := chain (m.length / 64) firstC m
def restB (m : List UInt8) : List UInt8 := m.drop (64 * (m.length / 64))
theorem restB_length (m : List UInt8) : (restB m).length = m.length % 64 := by rw [restB, List.length_drop]; omega
/-- More bytes that do not fill the block. -/
theorem feed_some (m x : List UInt8) (h : m.length % 64 + x.length < 64) : midC (m ++ x) = midC m ∧ restB (m ++ x) = restB m ++ x := by
  have e : (m ++ x).length / 64 = m.length / 64 := by rw [List.length_append]; omega
  constructor
  · rw [midC, e, chain_front _ _ _ _ (by omega)]; rfl
  · rw [restB, e, List.drop_append_of_le_length (by omega)]; rfl
/-- Bytes that fill it. -/
theorem feed_full (m x : List UInt8) (h : m.length % 64 + x.length = 64) : midC (m ++ x) = pressC (midC m) (restB m ++ x) ∧ restB (m ++ x) = [] := by
  have e : (m ++ x).length / 64 = m.length / 64 + 1 := by rw [List.length_append]; omega
  have hl : (restB m ++ x).length = 64 := by rw [List.length_append, restB_length]; omega
  constructor
  · rw [midC, e, chain_add, chain_front _ _ _ _ (by omega), List.drop_append_of_le_length (by omega)]
    show chain 1 (midC m) (restB m ++ x) = _
    rw [chain, chain, List.take_of_length_le (by omega)]
  · rw [restB, e]
    exact List.drop_eq_nil_of_le (by rw [List.length_append]; omega)
def flat (l : List ByteArray) : List UInt8 := (l.map fun s => s.data.toList).flatten
theorem flat_next (l : List ByteArray) (k : Nat) (h : k < l.length) : flat (l.take (k + 1)) = flat (l.take k) ++ l[k].data.toList := by
  rw [flat, flat, List.take_succ_eq_append_getElem h, List.map_append, List.flatten_append, List.map_singleton, List.flatten_singleton]
theorem flat_cut (l : List ByteArray) (k : Nat) : flat l = flat (l.take k) ++ flat (l.drop k) := by
  conv => lhs; rw [← List.take_append_drop k l]
  rw [flat, flat, flat, List.map_append, List.flatten_append]
theorem flat_len (l : List ByteArray) (k : Nat) : (flat (l.take k)).length ≤ (flat l).length := by
  rw [flat_cut l k, List.length_append]; omega
/-- What the padding adds. -/
def tailB (n : Nat) : List UInt8 := 128 :: List.replicate ((119 - n % 64) % 64) 0
def be8 (n : Nat) : List UInt8 := (List.range 8).map fun i => UInt8.ofNat (n / 2 ^ (56 - 8 * i) % 256)
theorem be8_next (N i : Nat) (h : i < 8) : (be8 N).take (i + 1) = (be8 N).take i ++ [UInt8.ofNat (N / 2 ^ (56 - 8 * i) % 256)] := by
  rw [List.take_succ_eq_append_getElem (by simpa [be8] using h)]
  simp [be8]
def pad (m : List UInt8) : List UInt8 := m ++ (tailB m.length ++ be8 (8 * m.length % 2 ^ 64))
def digit4 (x : Int) : List UInt8 := [UInt8.ofNat (x / 16777216 % 256).toNat, UInt8.ofNat (x / 65536 % 256).toNat, UInt8.ofNat (x / 256 % 256).toNat, UInt8.ofNat (x % 256).toNat]
def digestC (x : Ch) : List UInt8 := (chL x).flatMap digit4
def digest (m : List UInt8) : List UInt8 := digestC (midC (pad m))
theorem digest_length (m : List UInt8) : (digest m).length = 32 := rfl
end Sha2
end Go.Proofs.Ytgnbbklnobladaa
