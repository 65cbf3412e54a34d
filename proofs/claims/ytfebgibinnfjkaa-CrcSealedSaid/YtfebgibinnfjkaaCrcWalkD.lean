/- The walks of CRC's Seal and Open. No condition but on sizes that every string meets. -/
import Derived.Test.YtfebgibinnfjkaaCrcWalkC
namespace Go.Proofs.Ytfebgibinnfjkaa
open Go.RowKit
namespace Crc

def StrIs (w : World) (l : List UInt8) (e : Ending) (w' : World) : Prop := (∃ s : ByteArray, e = .returned (.string s) ∧ s.data.toList = l) ∧ Ext w w'
theorem four_str {y : Nat} (hy : y < 4294967296) : (strOfNums [(y : Int) / 16777216, (y : Int) / 65536 % 256, (y : Int) / 256 % 256, (y : Int) % 256]).data.toList = four y := by
  rw [strOfNums_data]
  have h (n m : Nat) (e : n % 256 = m % 256) : UInt8.ofNat n = UInt8.ofNat m := by
    apply UInt8.toNat_inj.1; simpa using e
  simp only [List.map_cons, List.map_nil, four]
  rw [h (((y : Int) / 16777216).toNat) (y / 16777216) (by omega), h (((y : Int) / 65536 % 256).toNat) (y / 65536) (by omega), h (((y : Int) / 256 % 256).toNat) (y / 256) (by omega), h (((y : Int) % 256).toNat) y (by omega)]
set_option maxRecDepth 100000 in
set_option maxHeartbeats 400000 in
theorem seal_any (s : ByteArray) (hs : s.size ≤ 4000) (w : World) :
    Calls Try.prog 11 #[.string s] w (StrIs w (sealed s.data.toList)) := by
  have hr : Row (w.alloc (.cells #[.string s] 9)) (some ⟨w.heap.size, 0, none⟩) ([s].map strV) := Row.new w [.string s] _
  have HR := Lib.hid hr
  clear hr
  go_enter Try.func11, Try.ntmps11
  go_wp2_with fail
  refine (sum_any [s] _ _ _ HR.out (by simp) (by simp; omega)).mono ?_
  rintro e w1 ⟨rfl, hb1⟩
  have hy := sumL_lt [s]
  have h4 := four_str hy
  have HB : Ext w w1 := (Ext.alloc w _).trans hb1
  generalize hyd : sumL [s] = y at hy h4 ⊢
  have HY := Lib.hid hyd
  have H4 := Lib.hid h4
  clear hyd h4 hb1 HR
  have kc := conv_new (P := Try.prog) w1 39 5 9 Try.underlying39 Try.underlying5 Try.underlying9 4 [(y : Int) / 16777216, (y : Int) / 65536 % 256, (y : Int) / 256 % 256, (y : Int) % 256]
  simp only [List.map_cons, List.map_nil, List.length_cons, List.length_nil, Nat.zero_add] at kc
  generalize strOfNums [(y : Int) / 16777216, (y : Int) / 65536 % 256, (y : Int) / 256 % 256, (y : Int) % 256] = q at kc H4
  have hq : q.size = 4 := by
    have := congrArg List.length H4.out
    simpa [four_length] using this
  have hq4 : q.size ≤ 4 := by omega
  clear hq
  go_wp2_with fail
  go_ret
  refine ⟨⟨_, rfl, ?_⟩, HB.trans (Ext.alloc _ _)⟩
  rw [ByteArray.data_append, Array.toList_append, H4.out, ← HY.out]
  rfl

def OpenIs (w : World) (l : List UInt8) (e : Ending) (w' : World) : Prop :=
  (∃ (s : ByteArray), e = .returned (.tuple #[.string s, .int .i64 (((opened l).2 : Nat) : Int)]) ∧ s.data.toList = (opened l).1.getD []) ∧ Ext w w'
set_option maxRecDepth 100000 in
set_option maxHeartbeats 400000 in
theorem open_any (s : ByteArray) (hs : s.size ≤ 4000) (w : World) :
    Calls Try.prog 6 #[.string s] w (OpenIs w s.data.toList) := by
  have hlen : s.data.toList.length = s.size := by simp
  by_cases h4 : s.size < 4
  · have ho : opened s.data.toList = (none, 2) := by unfold opened; rw [if_pos (by omega)]
    have HO := Lib.hid ho
    clear ho
    go_enter Try.func6, Try.ntmps6
    go_wp2_with fail
    go_ret2
    exact ⟨⟨_, by rw [HO.out]; rfl, by rw [HO.out]; rfl⟩, Ext.refl _⟩
  · have hx := extract_take s (s.size - 4)
    by_cases hse : sealed (s.data.toList.take (s.size - 4)) = s.data.toList
    · have ho : opened s.data.toList = (some (s.data.toList.take (s.size - 4)), 0) := by unfold opened; rw [if_neg (by omega), hlen, if_pos hse]
      have HX := Lib.hid hx
      have HO := Lib.hid ho
      have HS := Lib.hid hse
      have HL := Lib.hid hlen
      clear ho hx hse hlen
      go_enter Try.func6, Try.ntmps6
      go_wp2_with fail
      refine (seal_any _ (by simp; omega) _).mono ?_
      rintro e w1 ⟨⟨q, rfl, hq⟩, hb⟩
      have hqs := str_yes (q := q) (s := s) (by rw [hq, HX.out, HS.out])
      clear hq
      go_wp2_with fail
      go_ret2
      exact ⟨⟨_, by rw [HO.out]; rfl, by rw [HO.out, HX.out]; rfl⟩, hb⟩
    · have ho : opened s.data.toList = (none, 14) := by unfold opened; rw [if_neg (by omega), hlen, if_neg hse]
      have HX := Lib.hid hx
      have HO := Lib.hid ho
      have HS := Lib.hid hse
      have HL := Lib.hid hlen
      clear ho hx hse hlen
      go_enter Try.func6, Try.ntmps6
      go_wp2_with fail
      refine (seal_any _ (by simp; omega) _).mono ?_
      rintro e w1 ⟨⟨q, rfl, hq⟩, hb⟩
      have hqs := str_no (q := q) (s := s) (by rw [hq, HX.out]; exact HS.out)
      clear hq
      go_wp2_with fail
      go_ret2
      exact ⟨⟨_, by rw [HO.out]; rfl, by rw [HO.out]; rfl⟩, hb⟩

end Crc
end Go.Proofs.Ytfebgibinnfjkaa
