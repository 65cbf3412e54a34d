/- The walk of the statement Sha2Sums. No condition. -/
import Derived.Test.YtjfacolnlbfpmaaSha2WalkG
namespace Go.Proofs.Ytjfacolnlbfpmaa
open Go.RowKit
namespace Sha2
set_option linter.unusedSimpArgs false
set_option linter.unusedVariables false
set_option maxRecDepth 100000 in
set_option maxHeartbeats 1000000 in
theorem sums_law (w : World) (s : ByteArray) (hs : s.size ≤ 9223372036854775807) : Calls Try.prog 3 #[.string s] w (TrueIs w) := by
  go_enter Try.func3, Try.ntmps3
  go_wp2_with fail
  refine (awake_any _).mono ?_
  rintro e w1 ⟨rfl, h1⟩
  by_cases hlt : s.size ≤ 2000
  · have hltI : ¬ (s.size : Int) > 2000 := by omega
    go_wp2_with fail
    have hfl : flat [s] = s.data.toList := by simp [flat]
    have hsl : s.data.toList.length = s.size := by simp
    refine (sumOf_any (some ⟨w1.heap.size, 0, none⟩) 1 [s] _ (Row.of_blk (Blk.new w1 9 [.string s])) (by intro j hj; simp [own] at hj; subst hj; simp) (by rw [hfl, hsl]; omega) (by simp)).mono ?_
    rintro e w2 ⟨rfl, h2⟩
    rw [hfl]
    have hE2 := h1.trans ((Ext.alloc w1 _).trans h2)
    clear h2 h1
    generalize hdg : digest s.data.toList = dg
    have KG := Kept.mk hdg
    clear hdg
    go_wp2_with fail
    refine (refSum_any s (by omega) _).mono ?_
    rintro e w3 ⟨rfl, h3⟩
    rw [KG.out]
    have hE3 := hE2.trans h3
    clear h3 hE2
    go_wp2_with fail
    go_ret
    exact ⟨rfl, hE3⟩
  · have hltI : (s.size : Int) > 2000 := by omega
    go_wp2_with fail
    go_ret
    exact ⟨rfl, h1⟩
end Sha2
end Go.Proofs.Ytjfacolnlbfpmaa
