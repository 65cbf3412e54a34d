/- The walk of CRC's awake: the answers that the document fixes are given. No condition. -/
import Derived.Test.YtfebgibinnfjkaaCrcWalkE
namespace Go.Proofs.Ytfebgibinnfjkaa
open Go.RowKit
namespace Crc

def TrueIs (w : World) (e : Ending) (w' : World) : Prop := e = .returned (.bool true) ∧ Ext w w'
theorem row2 (w : World) (s t : ByteArray) (T : TypeId) : Row (w.alloc (.cells #[.string s, .string t] T)) (some ⟨w.heap.size, 0, none⟩) ([s, t].map strV) := Row.new w [.string s, .string t] _
theorem row1 (w : World) (s : ByteArray) (T : TypeId) : Row (w.alloc (.cells #[.string s] T)) (some ⟨w.heap.size, 0, none⟩) ([s].map strV) := Row.new w [.string s] _
theorem aw1 : opened (sealed [104, 105]) = (some [104, 105], 0) := opened_sealed _
theorem aw2 : opened [97, 98, 99] = (none, 2) := by decide
theorem aw3 : sumL [⟨#[49, 50, 51, 52]⟩, ⟨#[53, 54, 55, 56, 57]⟩] = 3421780262 := by decide +kernel

set_option maxRecDepth 100000 in
set_option maxHeartbeats 400000 in
theorem awake_any (w : World) : Calls Try.prog 5 #[] w (TrueIs w) := by
  go_enter Try.func5, Try.ntmps5
  go_wp2_with fail
  refine (seal_any _ (by decide) _).mono ?_
  rintro e w1 ⟨⟨q, rfl, hq⟩, hb1⟩
  have hqs : q.size ≤ 4000 := by
    have := congrArg List.length hq
    rw [sealed_length] at this
    simp at this; omega
  have HQ := Lib.hid hq
  clear hq
  go_wp2_with fail
  refine (open_any _ hqs _).mono ?_
  rintro e w2 ⟨⟨s1, rfl, hs1⟩, hb2⟩
  rw [HQ.out, aw1] at hs1 ⊢
  have h1 := str_lit (q := s1) (l := [104, 105]) (by rw [hs1]; rfl)
  clear hs1
  go_wp2_with fail
  refine (open_any _ (by decide) _).mono ?_
  rintro e w3 ⟨⟨s2, rfl, hs2⟩, hb3⟩
  rw [aw2] at hs2 ⊢
  clear hs2
  go_wp2_with fail
  refine (sum_any [_, _] _ _ _ (row2 _ _ _ _) (by decide) (by decide)).mono ?_
  rintro e w4 ⟨rfl, hb4⟩
  rw [aw3]
  go_wp2_with fail
  refine (more_any 0 (by decide) _ (by decide) _).mono ?_
  rintro e w5 ⟨rfl, hb5⟩
  have h5 : more 0 (⟨#[49, 50, 51, 52, 53, 54, 55, 56, 57]⟩ : ByteArray).data.toList = 3421780262 := awake1
  rw [h5]
  go_wp2_with fail
  go_ret
  exact ⟨rfl, hb1.trans (hb2.trans (hb3.trans ((Ext.alloc _ _).trans (Ext.trans hb4 hb5))))⟩

end Crc
end Go.Proofs.Ytfebgibinnfjkaa
