/- The walk of the law CrcSums: it answers true. No condition. -/
import Derived.Test.YtfebgibinnfjkaaCrcWalkF
namespace Go.Proofs.Ytfebgibinnfjkaa
open Go.RowKit
namespace Crc

set_option maxRecDepth 100000 in
set_option maxHeartbeats 1000000 in
theorem sums_any (w : World) (a : ByteArray) (ha : a.size ≤ 9223372036854775807) (b : ByteArray) (hb : b.size ≤ 9223372036854775807) : Calls Try.prog 3 #[.string a, .string b] w (TrueIs w) := by
  by_cases hla : a.size ≤ 2000
  · by_cases hlb : b.size ≤ 2000
    · go_enter Try.func3, Try.ntmps3
      go_wp2_with fail
      refine (awake_any _).mono ?_
      rintro e w1 ⟨rfl, hb1⟩
      go_wp2_with fail
      refine (open_any _ (by omega) _).mono ?_
      rintro e w2 ⟨⟨s1, rfl, hs1⟩, hb2⟩
      have H1 := Lib.hid hs1
      clear hs1
      go_wp2_with fail
      refine (refopen_any _ (by omega) _).mono ?_
      rintro e w3 ⟨⟨s2, rfl, hs2⟩, hb3⟩
      have h12 := str_yes (q := s1) (s := s2) (by rw [hs2, H1.out])
      clear hs2 H1
      have hab : (a ++ b).data.toList = a.data.toList ++ b.data.toList := by rw [ByteArray.data_append, Array.toList_append]
      have e1 : sumL [a, b] = more 0 (a ++ b).data.toList := by rw [hab, more_append]; rfl
      have e2 : more (sumL [a]) b.data.toList = more 0 (a ++ b).data.toList := by rw [hab, more_append]; rfl
      have e3 : sumL [a ++ b] = more 0 (a ++ b).data.toList := rfl
      generalize hyd : more 0 (a ++ b).data.toList = y at e1 e2 e3
      have EY := Lib.hid hyd
      clear hyd
      have E1 := Lib.hid e1
      have E2 := Lib.hid e2
      have E3 := Lib.hid e3
      have hsz : (a ++ b).size ≤ 9223372036854775807 := by rw [ByteArray.size_append]; omega
      clear e1 e2 e3 hab
      go_wp2_with fail
      refine (sum_any [a, b] _ _ _ (row2 _ _ _ _) (by simp) (by simp; omega)).mono ?_
      rintro e w4 ⟨rfl, hb4⟩
      rw [E1.out]
      go_wp2_with fail
      refine (refsum_any (a ++ b) hsz _).mono ?_
      rintro e w5 ⟨rfl, hb5⟩
      rw [EY.out]
      go_wp2_with fail
      refine (sum_any [a] _ _ _ (row1 _ _ _) (by simp) (by simp; omega)).mono ?_
      rintro e w6 ⟨rfl, hb6⟩
      have hl := sumL_lt [a]
      generalize sumL [a] = x at E2 hl ⊢
      go_wp2_with fail
      refine (more_any x hl b hb _).mono ?_
      rintro e w7 ⟨rfl, hb7⟩
      rw [E2.out]
      go_wp2_with fail
      refine (sum_any [a ++ b] _ _ _ (row1 _ _ _) (by simp) (by simpa using hsz)).mono ?_
      rintro e w8 ⟨rfl, hb8⟩
      rw [E3.out]
      go_wp2_with fail
      refine (seal_any a (by omega) _).mono ?_
      rintro e w9 ⟨⟨q1, rfl, hq1⟩, hb9⟩
      have Q1 := Lib.hid hq1
      clear hq1
      go_wp2_with fail
      refine (refseal_any a (by omega) _).mono ?_
      rintro e w10 ⟨⟨q2, rfl, hq2⟩, hb10⟩
      have hq12 := str_yes (q := q1) (s := q2) (by rw [hq2, Q1.out])
      clear hq2 Q1
      go_wp2_with fail
      go_ret
      refine ⟨rfl, ?_⟩
      exact hb1.trans (hb2.trans (hb3.trans ((Ext.alloc _ _).trans (Ext.trans hb4 (Ext.trans hb5 ((Ext.alloc _ _).trans (Ext.trans hb6 (Ext.trans hb7 ((Ext.alloc _ _).trans (Ext.trans hb8 (Ext.trans hb9 hb10)))))))))))
    · go_enter Try.func3, Try.ntmps3
      go_wp2_with fail
      refine (awake_any _).mono ?_
      rintro e w1 ⟨rfl, hb1⟩
      go_wp2_with fail
      go_ret
      exact ⟨rfl, hb1⟩
  · go_enter Try.func3, Try.ntmps3
    go_wp2_with fail
    refine (awake_any _).mono ?_
    rintro e w1 ⟨rfl, hb1⟩
    go_wp2_with fail
    go_ret
    exact ⟨rfl, hb1⟩

end Crc
end Go.Proofs.Ytfebgibinnfjkaa
