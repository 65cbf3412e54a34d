/- The walks of CRC's Sum, Seal and Open. No condition but on sizes that every string meets. -/
import Derived.Test.YtfebgibinnfjkaaCrcWalkB
import Derived.Test.YtfebgibinnfjkaaRow
namespace Go.Proofs.Ytfebgibinnfjkaa
open Go.RowKit
namespace Crc

def sumL (l : List ByteArray) : Nat := l.foldl (fun x s => more x s.data.toList) 0
theorem sumL_snoc (l : List ByteArray) (s : ByteArray) : sumL (l ++ [s]) = more (sumL l) s.data.toList := by simp [sumL]
theorem sumL_lt (l : List ByteArray) : sumL l < 4294967296 := by
  rcases List.eq_nil_or_concat l with rfl | ⟨m, s, rfl⟩
  · decide
  · rw [List.concat_eq_append, sumL_snoc]; exact more_lt _ _
set_option maxRecDepth 100000 in
set_option maxHeartbeats 400000 in
theorem sum_any (l : List ByteArray) (A : Option Addr) (c : Nat) (w : World) (hA : Row w A (l.map strV)) (hl : l.length ≤ 9223372036854775807) (hs : ∀ s ∈ l, s.size ≤ 9223372036854775807) :
    Calls Try.prog 8 #[.slice A l.length c] w (MoreIs w (sumL l)) := by
  go_enter Try.func8, Try.ntmps8
  go_wp2_with fail
  go_loopg [3, 5, 8] l.length (fun n y _ i wr => ∃ k : Nat, k + n = l.length ∧ i = .int .i64 k ∧ y = .int .u32 ((sumL (l.take k) : Nat) : Int) ∧ Ext w wr)
  case atStart => exact ⟨0, by omega, rfl, rfl, Ext.refl _⟩
  case round =>
    obtain ⟨k, hk, rfl, rfl, hb⟩ := hrel
    by_cases hlt : k < l.length
    · obtain ⟨b, off, rfl, hc⟩ := hA.at (by simpa using by omega)
      have hck := hb.cell (hc k _ (strV_at hlt))
      have hsz := hs l[k] (List.getElem_mem hlt)
      have hy := sumL_lt (l.take k)
      have HS := Lib.hid (show sumL (l.take (k + 1)) = more (sumL (l.take k)) l[k].data.toList by
        rw [List.take_succ_eq_append_getElem hlt, sumL_snoc])
      clear hc
      generalize sumL (l.take k) = y at hy HS ⊢
      generalize l[k] = s at hck hsz HS
      have HB := Lib.hid hb
      clear hb hs
      go_wp2_with (go_at_call 10; refine (more_any _ hy _ hsz _).mono ?_; rintro e w1 ⟨rfl, hb1⟩)
      go_roundg (gk - 1)
      case measure => omega
      case rel => exact ⟨k + 1, by omega, by go_num, by rw [HS.out], HB.out.trans hb1⟩
    · go_wp2_with fail
      go_ret
      obtain rfl : k = l.length := by omega
      refine ⟨?_, hb⟩
      rw [List.take_length]; rfl

end Crc
end Go.Proofs.Ytfebgibinnfjkaa
