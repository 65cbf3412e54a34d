/- The walks of the document's CRC: Sum, Seal and Open. No condition but on sizes that every string meets. -/
import Derived.Test.YtfebgibinnfjkaaCrcWalkD
namespace Go.Proofs.Ytfebgibinnfjkaa
open Go.RowKit
namespace Crc

theorem not32' {n : Nat} (h : n < 4294967296) : bits .xor .u32 (n : Int) 4294967295 = ((4294967295 - n : Nat) : Int) := by
  have h1 := not32 h
  rw [show IntKind.u32.max = ((4294967295 : Nat) : Int) from rfl, xor32 (by decide) h] at h1
  rw [show (4294967295 : Int) = ((4294967295 : Nat) : Int) from rfl, xor32 h (by decide), Nat.xor_comm]; exact h1
theorem xor_poly {n : Nat} (h : n < 4294967296) (h1 : n % 2 = 1) : bits .xor .u32 ((n : Int) / 2) 3988292384 = ((stp n : Nat) : Int) := by
  rw [show (3988292384 : Int) = ((3988292384 : Nat) : Int) from rfl, show (n : Int) / 2 = ((n / 2 : Nat) : Int) by omega, xor32 (by omega) (by decide)]
  unfold stp; rw [if_pos h1]
theorem no_poly {n : Nat} (h1 : n % 2 ≠ 1) : ((n : Int) / 2) = ((stp n : Nat) : Int) := by
  unfold stp; rw [if_neg h1]; simp

set_option maxRecDepth 100000 in
set_option maxHeartbeats 400000 in
theorem refsum_any (s : ByteArray) (hsz : s.size ≤ 9223372036854775807) (w : World) :
    Calls Try.prog 9 #[.string s] w (MoreIs w (more 0 s.data.toList)) := by
  go_enter Try.func9, Try.ntmps9
  go_wp2_with fail
  go_loopg [3, 4, 5, 6] s.size (fun n y i _ _ wr => wr = w ∧ ∃ k : Nat, k + n = s.size ∧ i = .int .i64 k ∧ y = .int .u32 ((byts 4294967295 (s.data.toList.take k) : Nat) : Int))
  case atStart => exact ⟨rfl, 0, by omega, rfl, rfl⟩
  case round =>
    obtain ⟨rfl, k, hk, rfl, rfl⟩ := hrel
    obtain ⟨go, rfl⟩ : ∃ n : Nat, n = gk := ⟨_, rfl⟩
    have hy : byts 4294967295 (s.data.toList.take k) < 4294967296 := byts_lt (by omega) _
    generalize hyd : byts 4294967295 (s.data.toList.take k) = y at hy ⊢
    have HY := Lib.hid hyd
    clear hyd
    by_cases hlt : k < s.size
    · have hc : s[k].toNat < 256 := s[k].toNat_lt
      have hx := xor32 hy (show s[k].toNat < 4294967296 by omega)
      have hx2 : y ^^^ s[k].toNat < 4294967296 := xor_lt32 hy (by omega)
      have hsn : byts 4294967295 (s.data.toList.take (k + 1)) = stps 8 (y ^^^ s[k].toNat) := by
        rw [take_snoc s k hlt, byts_append, HY.out]; exact (ref_eq hc).symm
      have HS := Lib.hid hsn
      clear hsn
      generalize hgx : y ^^^ s[k].toNat = x at hx hx2 HS
      clear hgx
      go_wp2_with fail
      go_loopg [3, 5, 6] 8 (fun n z i _ wi => wi = wr ∧ ∃ m : Nat, m + n = 8 ∧ i = .int .i64 m ∧ z = .int .u32 ((stps m x : Nat) : Int))
      case atStart => exact ⟨rfl, 0, rfl, rfl, rfl⟩
      case round =>
        obtain ⟨rfl, m, hm, rfl, rfl⟩ := hrel
        have hz := stps_lt m hx2
        by_cases hlt2 : m < 8
        · by_cases hone : (stps m x) % 2 = 1
          · have h1 : ((((stps m x : Nat) : Int) % 2) == 1) = true := by rw [beq_iff_eq]; omega
            have h2 := xor_poly hz hone
            have HN := Lib.hid (show stps (m + 1) x = stp (stps m x) from rfl)
            generalize stps m x = z at *
            clear hone
            go_wp2_with fail
            go_roundg (gk - 1)
            case measure => omega
            case rel => exact ⟨rfl, m + 1, by omega, by go_num, by rw [HN.out]⟩
          · have h1 : ((((stps m x : Nat) : Int) % 2) == 1) = false := by rw [beq_eq_false_iff_ne]; omega
            have h2 := no_poly hone
            have HN := Lib.hid (show stps (m + 1) x = stp (stps m x) from rfl)
            generalize stps m x = z at *
            clear hone
            go_wp2_with fail
            go_roundg (gk - 1)
            case measure => omega
            case rel => exact ⟨rfl, m + 1, by omega, by go_num, by rw [HN.out]⟩
        · obtain rfl : m = 8 := by omega
          go_wp2_with fail
          go_roundg (go - 1)
          case measure => omega
          case rel => exact ⟨rfl, k + 1, by omega, by go_num, by rw [HS.out]⟩
    · have hn := not32' hy
      go_wp2_with fail
      go_ret
      obtain rfl : k = s.size := by omega
      refine ⟨?_, Below.refl _ _⟩
      have h := HY.out
      rw [List.take_of_length_le (by simp)] at h
      rw [more, h]; rfl

set_option maxRecDepth 100000 in
set_option maxHeartbeats 400000 in
theorem refseal_any (s : ByteArray) (hs : s.size ≤ 4000) (w : World) :
    Calls Try.prog 12 #[.string s] w (StrIs w (sealed s.data.toList)) := by
  go_enter Try.func12, Try.ntmps12
  go_wp2_with fail
  refine (refsum_any s (by omega) _).mono ?_
  rintro e w1 ⟨rfl, HB⟩
  have hy := more_lt 0 s.data.toList
  have h4 := four_str hy
  generalize hyd : more 0 s.data.toList = y at hy h4 ⊢
  have HY := Lib.hid hyd
  have H4 := Lib.hid h4
  clear hyd h4
  have kc := conv_new (P := Try.prog) w1 39 5 9 Try.underlying39 Try.underlying5 Try.underlying9 4 [(y : Int) / 16777216, (y : Int) / 65536 % 256, (y : Int) / 256 % 256, (y : Int) % 256]
  simp only [List.map_cons, List.map_nil, List.length_cons, List.length_nil, Nat.zero_add] at kc
  generalize strOfNums [(y : Int) / 16777216, (y : Int) / 65536 % 256, (y : Int) / 256 % 256, (y : Int) % 256] = q at kc H4
  have hq : q.size = 4 := by
    have := congrArg List.length H4.out
    simpa [four_length] using this
  have hq4 : q.size ≤ 4 := by omega
  clear hq
  go_wp2_with fail
  go_ret
  refine ⟨⟨_, rfl, ?_⟩, Ext.trans HB (Ext.alloc _ _)⟩
  rw [ByteArray.data_append, Array.toList_append, H4.out, ← HY.out]
  rfl

set_option maxRecDepth 100000 in
set_option maxHeartbeats 400000 in
theorem refopen_any (s : ByteArray) (hs : s.size ≤ 4000) (w : World) :
    Calls Try.prog 7 #[.string s] w (OpenIs w s.data.toList) := by
  have hlen : s.data.toList.length = s.size := by simp
  by_cases h4 : s.size < 4
  · have ho : opened s.data.toList = (none, 2) := by unfold opened; rw [if_pos (by omega)]
    have HO := Lib.hid ho
    clear ho
    go_enter Try.func7, Try.ntmps7
    go_wp2_with fail
    go_ret2
    exact ⟨⟨_, by rw [HO.out]; rfl, by rw [HO.out]; rfl⟩, Ext.refl _⟩
  · have hx := extract_take s (s.size - 4)
    by_cases hse : sealed (s.data.toList.take (s.size - 4)) = s.data.toList
    · have ho : opened s.data.toList = (some (s.data.toList.take (s.size - 4)), 0) := by unfold opened; rw [if_neg (by omega), hlen, if_pos hse]
      have HX := Lib.hid hx
      have HO := Lib.hid ho
      have HS := Lib.hid hse
      have HL := Lib.hid hlen
      clear ho hx hse hlen
      go_enter Try.func7, Try.ntmps7
      go_wp2_with fail
      refine (refseal_any _ (by simp; omega) _).mono ?_
      rintro e w1 ⟨⟨q, rfl, hq⟩, hb⟩
      have hqs := str_yes (q := q) (s := s) (by rw [hq, HX.out, HS.out])
      clear hq
      go_wp2_with fail
      go_ret2
      exact ⟨⟨_, by rw [HO.out]; rfl, by rw [HO.out, HX.out]; rfl⟩, hb⟩
    · have ho : opened s.data.toList = (none, 14) := by unfold opened; rw [if_neg (by omega), hlen, if_neg hse]
      have HX := Lib.hid hx
      have HO := Lib.hid ho
      have HS := Lib.hid hse
      have HL := Lib.hid hlen
      clear ho hx hse hlen
      go_enter Try.func7, Try.ntmps7
      go_wp2_with fail
      refine (refseal_any _ (by simp; omega) _).mono ?_
      rintro e w1 ⟨⟨q, rfl, hq⟩, hb⟩
      have hqs := str_no (q := q) (s := s) (by rw [hq, HX.out]; exact HS.out)
      clear hq
      go_wp2_with fail
      go_ret2
      exact ⟨⟨_, by rw [HO.out]; rfl, by rw [HO.out]; rfl⟩, hb⟩

end Crc
end Go.Proofs.Ytfebgibinnfjkaa
