/- The walk of the reference's Same. No condition. -/
import Derived.Test.YtgnbbklnobladaaWorkPlain
import Derived.Test.YtgnbbklnobladaaProg
namespace Go.Proofs.Ytgnbbklnobladaa
open Go.RowKit
namespace Work
set_option linter.unusedSimpArgs false
set_option linter.unusedVariables false
set_option maxRecDepth 100000 in
set_option maxHeartbeats 2000000 in
theorem same_any (A : Option Addr) (n cap : Nat) (xs : List Int) (hn : xs.length = n) (hm : n ≤ 9223372036854775807) (A' : Option Addr) (n' cap' : Nat) (ys : List Int) (hn' : ys.length = n') (hm' : n' ≤ 9223372036854775807) (w : World) (h : Row w A (ints xs)) (h' : Row w A' (ints ys)) :
    Calls Try.prog 11 #[.slice A n cap, .slice A' n' cap'] w fun e w' => e = .returned (.bool (decide (xs = ys))) ∧ Ext w w' := by
  have KR := Kept.mk h
  have KR' := Kept.mk h'
  clear h h'
  by_cases hnn : n = n'
  · subst hnn
    go_enter Try.func11, Try.ntmps11
    go_wp2_with fail
    go_loopg [5] n (fun r iv wi => ∃ i : Nat, i + r = n ∧ iv = .int .i64 (i : Int) ∧ xs.take i = ys.take i ∧ Ext w wi)
    case atStart => exact ⟨0, by omega, rfl, by simp, Ext.refl _⟩
    case round =>
      obtain ⟨i, hr, rfl, hk, hE⟩ := hrel
      have Kr := Kept.mk hr
      have Kk := Kept.mk hk
      have KE := Kept.mk hE
      have hil : i ≤ n := by omega
      clear hr hk hE
      by_cases hlt : i < n
      · have hltI : (i : Int) < (n : Int) := by omega
        obtain ⟨b, off, rfl, hc⟩ := KR.out.at (by rw [ints_length]; omega)
        obtain ⟨b', off', rfl, hc'⟩ := KR'.out.at (by rw [ints_length]; omega)
        have c0 := KE.out.cell (hc i _ (ints_at xs i (by omega)))
        have c0' := KE.out.cell (hc' i _ (ints_at ys i (by omega)))
        have Kst := Kept.mk (take_snoc xs i (by omega))
        have Kst' := Kept.mk (take_snoc ys i (by omega))
        have Kg := Kept.mk (show xs[i]? = some (xs.getD i 0) ∧ ys[i]? = some (ys.getD i 0) from by
          rw [List.getD_eq_getElem?_getD, List.getD_eq_getElem?_getD, List.getElem?_eq_getElem (by omega), List.getElem?_eq_getElem (by omega)]; exact ⟨rfl, rfl⟩)
        generalize xs.getD i 0 = x at c0 Kst Kg
        generalize ys.getD i 0 = y at c0' Kst' Kg
        clear hc hc'
        by_cases hx : x = y
        · have hxb : (x != y) = false := by simpa using hx
          have Kx := Kept.mk hx
          clear hx
          go_wp2_with fail
          go_quiet (fail)
          go_wp2_with fail
          go_roundg (gk - 1)
          case measure => have := Kr.out; omega
          case rel => exact ⟨i + 1, by have := Kr.out; omega, by first | rfl | simp, by rw [Kst.out, Kst'.out, Kk.out, Kx.out], KE.out.trans (Ext.drewN _ _)⟩
        · have hxb : (x != y) = true := by simpa using hx
          have Kno := Kept.mk (show ¬ xs = ys from fun e => by
            have h1 := Kg.out
            rw [e] at h1
            exact hx (by simpa using h1.1.symm.trans h1.2))
          clear hx
          go_wp2_with fail
          go_quiet (fail)
          go_wp2_with fail
          go_ret
          exact ⟨by rw [decide_eq_false Kno.out]; rfl, KE.out.trans (Ext.drewN _ _)⟩
      · have hltI : ¬ (i : Int) < (n : Int) := by omega
        have Kyes := Kept.mk (show xs = ys from by
          have := Kk.out
          rwa [List.take_of_length_le (by omega), List.take_of_length_le (by omega)] at this)
        go_wp2_with fail
        go_ret
        exact ⟨by rw [decide_eq_true Kyes.out]; rfl, KE.out⟩
  · have hnb : ((n : Int) != (n' : Int)) = true := by simpa using (show ¬ (n : Int) = (n' : Int) by omega)
    have Kno := Kept.mk (show ¬ xs = ys from fun e => hnn (by rw [← hn, ← hn', e]))
    clear hnn
    go_enter Try.func11, Try.ntmps11
    go_wp2_with fail
    go_ret
    exact ⟨by rw [decide_eq_false Kno.out]; rfl, Ext.refl _⟩
end Work
end Go.Proofs.Ytgnbbklnobladaa
