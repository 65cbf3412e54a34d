/- The walk of CRC's sum by the table. No condition. -/
import Derived.Test.YtfebgibinnfjkaaCrcWalkA
namespace Go.Proofs.Ytfebgibinnfjkaa
open Go.RowKit
namespace Crc

def MoreIs (w : World) (n : Nat) (e : Ending) (w' : World) : Prop := e = .returned (.int .u32 ((n : Nat) : Int)) ∧ Below w.heap.size w w'
theorem not32 {n : Nat} (h : n < 4294967296) : bits .xor .u32 IntKind.u32.max (n : Int) = ((4294967295 - n : Nat) : Int) := by
  rw [show IntKind.u32.max = ((4294967295 : Nat) : Int) from rfl, xor32 (by decide) h]
  congr 1
  have h0 : n < 2 ^ 32 := h
  apply Nat.eq_of_testBit_eq
  intro i
  rw [show 4294967295 - n = 2 ^ 32 - (n + 1) by omega, Nat.testBit_two_pow_sub_succ h0, Nat.testBit_xor, show 4294967295 = 2 ^ 32 - 1 by decide, Nat.testBit_two_pow_sub_one]
  by_cases hi : i < 32
  · simp [hi]
  · have : n.testBit i = false := Nat.testBit_lt_two_pow (Nat.lt_of_lt_of_le h0 (Nat.pow_le_pow_right (by decide) (by omega)))
    simp [hi, this]
theorem byt_walk {x c : Nat} (hx : x < 4294967296) (hc : c < 256) :
    bits .xor .u32 ((tab ((x % 256) ^^^ c) : Nat) : Int) ((x : Int) / 256) = ((byt x c : Nat) : Int) := by
  rw [show (x : Int) / 256 = ((x / 256 : Nat) : Int) by omega, xor32 (tab_lt (xor_lt8 (by omega) hc)) (by omega)]
  rfl
theorem tab_drewN {w : World} {g k : Nat} (h : TabAt w g k) (n : Nat) : TabAt (w.drewN n) g k := ⟨h.some', h.cell, h.free⟩
theorem take_snoc (s : ByteArray) (k : Nat) (h : k < s.size) : s.data.toList.take (k + 1) = s.data.toList.take k ++ [s[k]] := by
  rw [List.take_succ_eq_append_getElem (by simpa using h)]; rfl

set_option maxRecDepth 100000 in
set_option maxHeartbeats 400000 in
theorem more_any (x : Nat) (hx : x < 4294967296) (s : ByteArray) (hsz : s.size ≤ 9223372036854775807) (w : World) :
    Calls Try.prog 10 #[.int .u32 (x : Int), .string s] w (MoreIs w (more x s.data.toList)) := by
  have hsg : IntKind.u32.signed = false := rfl
  have hn := not32 hx
  go_enter Try.func10, Try.ntmps10
  go_wp2_with (go_at_call 13; refine (table_any _).mono ?_; rintro e w1 ⟨rfl, hb, hs1, ht⟩)
  clear hn
  go_loopg [6, 7, 13] s.size (fun n y _ i wr => ∃ k : Nat, k + n = s.size ∧ i = .int .i64 k ∧ y = .int .u32 ((byts (4294967295 - x) (s.data.toList.take k) : Nat) : Int) ∧ Below w.heap.size w wr ∧ TabAt wr w.heap.size 256)
  case atStart => exact ⟨0, by omega, rfl, rfl, hb, ht⟩
  case round =>
    clear hb ht hs1
    obtain ⟨k, hk, rfl, rfl, hb, ht⟩ := hrel
    have hy : byts (4294967295 - x) (s.data.toList.take k) < 4294967296 := byts_lt (by omega) _
    generalize hyd : byts (4294967295 - x) (s.data.toList.take k) = y at hy ⊢
    have HY := Lib.hid hyd
    clear hyd
    by_cases hlt : k < s.size
    · have hc : s[k].toNat < 256 := s[k].toNat_lt
      have hix : bits .xor .u8 (IntKind.u8.wrap (y : Int)) (s[k].toNat : Int) = (((y % 256) ^^^ s[k].toNat : Nat) : Int) := by
        rw [IntKind.wrap_u8, show (y : Int) % 256 = ((y % 256 : Nat) : Int) by omega, xor8 (by omega) hc]
      have hil : (y % 256) ^^^ s[k].toNat < 256 := xor_lt8 (by omega) hc
      have hcell := ht.cell _ hil
      have hres := byt_walk hy hc
      have hsn := take_snoc s k hlt
      have HB := Lib.hid hb
      have HT := Lib.hid ht
      have HS := Lib.hid hsn
      clear hb ht hsn
      generalize hgi : (y % 256) ^^^ s[k].toNat = ix at hix hil hcell hres
      clear hgi
      have hil2 : (ix : Int) < 256 := by omega
      go_wp2_with fail
      go_quiet (fail)
      go_wp2_with fail
      go_roundg (gk - 1)
      case measure => omega
      case rel =>
        refine ⟨k + 1, by omega, by go_num, ?_, below_drewN HB.out _, tab_drewN HT.out _⟩
        rw [HS.out, byts_append, HY.out]; rfl
    · have hn := not32 hy
      go_wp2_with fail
      go_ret
      obtain rfl : k = s.size := by omega
      refine ⟨?_, hb⟩
      have h := HY.out
      rw [List.take_of_length_le (by simp)] at h
      rw [more, h]; rfl

end Crc
end Go.Proofs.Ytfebgibinnfjkaa
