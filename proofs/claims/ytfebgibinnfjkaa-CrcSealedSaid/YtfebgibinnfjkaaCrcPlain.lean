/- Plain laws on CRC-32: the table's way and the way bit by bit come to the same. No condition. -/
import Derived.Test.YtfebgibinnfjkaaNum
namespace Go.Proofs.Ytfebgibinnfjkaa
open Go.RowKit
namespace Crc

/-- One bit's step. -/
def stp (n : Nat) : Nat := (n / 2) ^^^ (if n % 2 = 1 then 3988292384 else 0)
def stps : Nat → Nat → Nat
  | 0, n => n
  | k + 1, n => stp (stps k n)
theorem stp_lt {n : Nat} (h : n < 4294967296) : stp n < 4294967296 := by
  unfold stp
  refine xor_lt32 (by omega) ?_
  split <;> omega
theorem stps_lt (k : Nat) {n : Nat} (h : n < 4294967296) : stps k n < 4294967296 := by
  induction k with
  | zero => exact h
  | succ k ih => exact stp_lt ih
/-- As the walk writes the step of the table. -/
theorem stp_walk {n : Nat} (h : n < 4294967296) :
    bits .xor .u32 ((n : Int) / 2) (bits .and .u32 3988292384 (-bits .and .u32 (n : Int) 1 % 4294967296)) = ((stp n : Nat) : Int) := by
  have h1 : bits .and .u32 (n : Int) 1 = ((n % 2 : Nat) : Int) := by
    rw [show (1 : Int) = ((1 : Nat) : Int) from rfl, and32 h (by decide), Nat.and_one_is_mod]
  have h2 : (n : Int) / 2 = ((n / 2 : Nat) : Int) := by omega
  rw [h1, h2]
  unfold stp
  rcases Nat.mod_two_eq_zero_or_one n with e | e
  · rw [e, if_neg (by decide)]
    rw [show (-((0 : Nat) : Int) % 4294967296) = ((0 : Nat) : Int) from by decide, show (3988292384 : Int) = ((3988292384 : Nat) : Int) from rfl, and32 (by decide) (by decide), xor32 (by omega) (by decide)]
    rfl
  · rw [e, if_pos rfl]
    rw [show (-((1 : Nat) : Int) % 4294967296) = ((4294967295 : Nat) : Int) from by decide, show (3988292384 : Int) = ((3988292384 : Nat) : Int) from rfl, and32 (by decide) (by decide), xor32 (by omega) (by decide)]
    rfl

/-- The table's place n. -/
def tab (n : Nat) : Nat := stps 8 n
theorem tab_lt {n : Nat} (h : n < 256) : tab n < 4294967296 := stps_lt 8 (by omega)
/-- A byte more, by the table. -/
def byt (x c : Nat) : Nat := tab ((x % 256) ^^^ c) ^^^ (x / 256)
theorem byt_lt {x c : Nat} (hx : x < 4294967296) (hc : c < 256) : byt x c < 4294967296 :=
  xor_lt32 (tab_lt (xor_lt8 (by omega) hc)) (by omega)
def byts (x : Nat) (l : List UInt8) : Nat := l.foldl (fun x c => byt x c.toNat) x
theorem byts_lt {x : Nat} (hx : x < 4294967296) (l : List UInt8) : byts x l < 4294967296 := by
  induction l generalizing x with
  | nil => exact hx
  | cons c l ih => exact ih (byt_lt hx c.toNat_lt)
theorem byts_append (x : Nat) (l m : List UInt8) : byts x (l ++ m) = byts (byts x l) m := List.foldl_append ..

/-- Bit by bit. -/
def ref (x c : Nat) : Nat := stps 8 (x ^^^ c)
theorem xor_div2 (a b : Nat) : (a ^^^ b) / 2 = (a / 2) ^^^ (b / 2) := by
  apply Nat.eq_of_testBit_eq
  intro i
  simp [Nat.testBit_div_two, Nat.testBit_xor]
theorem xor_mod2 (a b : Nat) : (a ^^^ b) % 2 = (a % 2 + b % 2) % 2 := by
  have h := Nat.testBit_xor a b 0
  simp only [Nat.testBit_zero] at h
  rcases Nat.mod_two_eq_zero_or_one a with ha | ha <;> rcases Nat.mod_two_eq_zero_or_one b with hb | hb <;> rcases Nat.mod_two_eq_zero_or_one (a ^^^ b) with hc | hc <;> simp [ha, hb, hc] at h ⊢
theorem stp_xor (a b : Nat) : stp (a ^^^ b) = stp a ^^^ stp b := by
  unfold stp
  rw [xor_div2, xor_mod2]
  rcases Nat.mod_two_eq_zero_or_one a with ha | ha <;> rcases Nat.mod_two_eq_zero_or_one b with hb | hb <;> simp [ha, hb]
  · ac_rfl
  · ac_rfl
  · have : ∀ p q r : Nat, (p ^^^ r) ^^^ (q ^^^ r) = p ^^^ q := by
      intro p q r
      rw [show (p ^^^ r) ^^^ (q ^^^ r) = (p ^^^ q) ^^^ (r ^^^ r) by ac_rfl]
      simp
    exact (this _ _ _).symm
theorem stps_xor (k a b : Nat) : stps k (a ^^^ b) = stps k a ^^^ stps k b := by
  induction k with
  | zero => rfl
  | succ k ih => simp only [stps, ih, stp_xor]
theorem stp_even (n : Nat) : stp (n * 2) = n := by
  unfold stp
  rw [if_neg (by omega)]
  simp
theorem stps_high (k n : Nat) : stps k (n * 2 ^ k) = n := by
  induction k generalizing n with
  | zero => simp [stps]
  | succ k ih =>
    have : n * 2 ^ (k + 1) = n * 2 * 2 ^ k := by rw [Nat.pow_succ]; ac_rfl
    rw [this]
    show stp (stps k (n * 2 * 2 ^ k)) = n
    rw [ih, stp_even]
theorem split256 (y : Nat) : y = (y % 256) ^^^ (y / 256 * 2 ^ 8) := by
  apply Nat.eq_of_testBit_eq
  intro i
  rw [Nat.testBit_xor, show (256 : Nat) = 2 ^ 8 from rfl, Nat.testBit_mod_two_pow, Nat.testBit_mul_two_pow, Nat.testBit_div_two_pow]
  by_cases h : i < 8
  · simp [h, show ¬ 8 ≤ i by omega]
  · simp [h, show 8 ≤ i by omega, show i - 8 + 8 = i by omega]
theorem ref_eq {x c : Nat} (hc : c < 256) : ref x c = byt x c := by
  unfold ref byt tab
  have h1 : (x ^^^ c) % 256 = (x % 256) ^^^ c := by
    rw [show (256 : Nat) = 2 ^ 8 from rfl, Nat.xor_mod_two_pow, Nat.mod_eq_of_lt (show c < 2 ^ 8 from hc)]
  have h2 : (x ^^^ c) / 256 = x / 256 := by
    rw [show (256 : Nat) = 2 ^ 8 from rfl, Nat.xor_div_two_pow, Nat.div_eq_of_lt (show c < 2 ^ 8 from hc)]
    simp
  rw [split256 (x ^^^ c), stps_xor, stps_high, h1, h2]

/-- More bytes behind a sum. -/
def more (sum : Nat) (l : List UInt8) : Nat := 4294967295 - byts (4294967295 - sum) l
theorem more_lt (sum : Nat) (l : List UInt8) : more sum l < 4294967296 := by unfold more; omega
theorem more_append {sum : Nat} (l m : List UInt8) : more sum (l ++ m) = more (more sum l) m := by
  unfold more
  rw [byts_append]
  have : byts (4294967295 - sum) l < 4294967296 := byts_lt (by omega) l
  rw [show 4294967295 - (4294967295 - byts (4294967295 - sum) l) = byts (4294967295 - sum) l by omega]
/-- The four bytes of a sum. -/
def four (x : Nat) : List UInt8 := [UInt8.ofNat (x / 16777216), UInt8.ofNat (x / 65536), UInt8.ofNat (x / 256), UInt8.ofNat x]
/-- What is sealed. -/
def sealed (l : List UInt8) : List UInt8 := l ++ four (more 0 l)
/-- What is opened. -/
def opened (l : List UInt8) : Option (List UInt8) × Nat :=
  if l.length < 4 then (none, 2) else if sealed (l.take (l.length - 4)) = l then (some (l.take (l.length - 4)), 0) else (none, 14)
theorem four_length (x : Nat) : (four x).length = 4 := rfl
theorem sealed_length (l : List UInt8) : (sealed l).length = l.length + 4 := by simp [sealed, four_length]
theorem opened_sealed (l : List UInt8) : opened (sealed l) = (some l, 0) := by
  unfold opened
  rw [sealed_length, if_neg (by omega), show l.length + 4 - 4 = l.length by omega]
  have : (sealed l).take l.length = l := by unfold sealed; exact List.take_left
  rw [this, if_pos rfl]
theorem awake1 : more 0 [49, 50, 51, 52, 53, 54, 55, 56, 57] = 3421780262 := by decide +kernel

end Crc
end Go.Proofs.Ytfebgibinnfjkaa
