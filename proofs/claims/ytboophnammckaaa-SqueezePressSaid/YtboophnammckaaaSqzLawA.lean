/- The laws of squeeze: awake, SqueezeOpens. No condition. -/
import Derived.Test.YtboophnammckaaaSqzWalkG
namespace Go.Proofs.Ytboophnammckaaa
open Go.RowKit Go.Maps
namespace Sqz
open Delta (TextE infoB)
set_option linter.unusedSimpArgs false
set_option linter.unusedVariables false
theorem open_press {s q : List UInt8} (h : q = 0 :: s ∨ ∃ T, q = 1 :: T ∧ Leads [] T s) (M : Int) (hM : 0 ≤ M) : openM M q = if M < (s.length : Int) then ([], 9) else (s, 0) := by
  rcases h with rfl | ⟨T, rfl, h⟩
  · rw [openM_stored M _ (by simp) rfl]
    have : ((0 :: s : List UInt8).length : Int) - 1 = (s.length : Int) := by simp
    rw [this]; rfl
  · rw [openM_packed M _ (by simp) rfl]
    show toks M [] T = _
    rw [h.toks M]
    by_cases hl : M < (s.length : Int)
    · have hT : T ≠ [] := by
        intro e; subst e; cases h; simp at hl; omega
      rw [if_pos ⟨hl, hT⟩, if_pos hl]
    · rw [if_neg (fun h => hl h.1), if_neg hl]
theorem open1 : openP [1, 0, 97, 130, 0, 1] 100 = ([97, 97, 97, 97, 97, 97, 97], 0) := by kernel_rfl
theorem open2 : openP [2] 100 = ([], 3) := by kernel_rfl
set_option maxRecDepth 100000 in
set_option maxHeartbeats 2000000 in
theorem awake_any (w : World) : Calls Try.prog 7 #[] w fun e w1 => e = .returned (.bool true) ∧ Ext w w1 := by
  go_enter Try.func7, Try.ntmps7
  go_wp2_with fail
  refine (open_any [1, 0, 97, 130, 0, 1] (by decide) 100 _).mono ?_
  rintro e w1 ⟨rfl, h1⟩
  rw [open1]
  go_wp2_with fail
  refine (open_any [2] (by decide) 100 _).mono ?_
  rintro e w2 ⟨rfl, h2⟩
  rw [open2]
  have hE2 := Kept.mk (h1.trans h2)
  clear h1 h2
  go_wp2_with fail
  refine (press_any [104, 101, 108, 108, 111] (by decide) _).mono ?_
  rintro e w3 ⟨q, rfl, h3, hql, hq⟩
  have hE3 := Kept.mk (hE2.out.trans h3)
  have hop : openP q 100 = ([104, 101, 108, 108, 111], 0) := open_press hq 100 (by decide)
  clear h3 hE2 hq
  go_wp2_with fail
  refine (open_any q (by simp at hql; omega) 100 _).mono ?_
  rintro e w4 ⟨rfl, h4⟩
  rw [hop]
  have hE4 := Kept.mk (hE3.out.trans h4)
  clear h4 hE3
  have q1 : (strOf [97, 97, 97, 97, 97, 97, 97]).toList = [97, 97, 97, 97, 97, 97, 97] := by rw [ByteArray.toList_eq]; rfl
  have q2 : (strOf [104, 101, 108, 108, 111]).toList = [104, 101, 108, 108, 111] := by rw [ByteArray.toList_eq]; rfl
  go_wp2_with fail
  go_ret
  exact ⟨by first | rfl | simp, hE4.out⟩
set_option maxRecDepth 100000 in
set_option maxHeartbeats 2000000 in
theorem opens_law (w : World) (s : ByteArray) (hs : s.size ≤ 9223372036854775807) (most : Int) (hmo : (Lit.int .i64 most).wf = true) : Calls Try.prog 3 #[.string s, .int .i64 most] w fun e w1 => e = .returned (.bool true) ∧ Below w.heap.size w w1 := by
  obtain ⟨l, rfl⟩ : ∃ l, s = strOf l := ⟨_, (strOf_self s).symm⟩
  have hlz := strOf_size l
  clear hs hmo
  rcases (show 3000 < l.length ∨ l.length ≤ 3000 by omega) with h | h
  · have hI : (l.length : Int) > 3000 := by omega
    go_enter Try.func3, Try.ntmps3
    go_wp2_with fail
    refine (awake_any _).mono ?_
    rintro e w1 ⟨rfl, h1⟩
    go_wp2_with fail
    go_ret
    exact ⟨rfl, h1⟩
  · have hI : ¬ (l.length : Int) > 3000 := by omega
    go_enter Try.func3, Try.ntmps3
    go_wp2_with fail
    refine (awake_any _).mono ?_
    rintro e w1 ⟨rfl, h1⟩
    go_wp2_with fail
    refine (open_any l (by omega) most _).mono ?_
    rintro e w2 ⟨rfl, h2⟩
    have hE2 := h1.trans h2
    clear h1 h2
    go_wp2_with fail
    refine (refOpen_any l (by omega) most _).mono ?_
    rintro e w3 ⟨rfl, h3⟩
    have hE3 := hE2.trans h3
    clear hE2 h3
    generalize openP l most = r
    obtain ⟨r1, r2⟩ := r
    simp only []
    go_wp2_with fail
    go_ret
    exact ⟨by first | rfl | simp, hE3⟩
end Sqz
end Go.Proofs.Ytboophnammckaaa
