/- The walks of the reference's In, Same. No condition. -/
import Derived.Test.YtnbgdphnoopdpaaWorkPlain
import Derived.Test.YtnbgdphnoopdpaaProg
namespace Go.Proofs.Ytnbgdphnoopdpaa
open Go.RowKit
namespace Work
set_option linter.unusedSimpArgs false
set_option linter.unusedVariables false
set_option maxRecDepth 100000 in
set_option maxHeartbeats 2000000 in
theorem in_any (A : Option Addr) (n cap : Nat) (xs : List Int) (hn : xs.length = n) (hm : n ≤ 9223372036854775807) (k : Int) (w : World) (h : Row w A (ints xs)) :
    Calls Try.prog 15 #[.slice A n cap, .int .i64 k] w fun e w' => e = .returned (.bool (decide (k ∈ xs))) ∧ w = w' := by
  have KR := Kept.mk h
  clear h
  go_enter Try.func15, Try.ntmps15
  go_wp2_with fail
  go_loopg [5] n (fun r iv wi => ∃ i : Nat, i + r = n ∧ iv = .int .i64 (i : Int) ∧ k ∉ xs.take i ∧ w = wi)
  case atStart => exact ⟨0, by omega, rfl, by simp, rfl⟩
  case round =>
    obtain ⟨i, hr, rfl, hk, rfl⟩ := hrel
    have Kr := Kept.mk hr
    have Kk := Kept.mk hk
    have hil : i ≤ n := by omega
    clear hr hk
    by_cases hlt : i < n
    · have hltI : (i : Int) < (n : Int) := by omega
      obtain ⟨b, off, rfl, hc⟩ := KR.out.at (by rw [ints_length]; omega)
      have c0 := hc i _ (ints_at xs i (by omega))
      have Kst := Kept.mk (take_snoc xs i (by omega))
      have Kmem := Kept.mk (show xs.getD i 0 ∈ xs from by
        rw [List.getD_eq_getElem?_getD, List.getElem?_eq_getElem (by omega)]
        exact List.getElem_mem _)
      generalize xs.getD i 0 = x at c0 Kst Kmem
      clear hc
      by_cases hx : x = k
      · have hxb : (x == k) = true := by simpa using hx
        have Kyes := Kept.mk (show k ∈ xs from hx ▸ Kmem.out)
        clear hx
        go_wp2_with fail
        go_ret
        exact ⟨by rw [decide_eq_true Kyes.out]; rfl, rfl⟩
      · have hxb : (x == k) = false := by simpa using hx
        have Kx := Kept.mk hx
        clear hx
        go_wp2_with fail
        go_roundg (gk - 1)
        case measure => have := Kr.out; omega
        case rel => exact ⟨i + 1, by have := Kr.out; omega, by first | rfl | simp, by
          rw [Kst.out]
          intro hm
          rcases List.mem_append.1 hm with h1 | h1
          · exact Kk.out h1
          · rw [List.mem_singleton] at h1; exact Kx.out h1.symm, rfl⟩
    · have hltI : ¬ (i : Int) < (n : Int) := by omega
      have Kno := Kept.mk (show k ∉ xs from by
        have := Kk.out
        rwa [List.take_of_length_le (by omega)] at this)
      go_wp2_with fail
      go_ret
      exact ⟨by rw [decide_eq_false Kno.out]; rfl, rfl⟩
set_option maxRecDepth 100000 in
set_option maxHeartbeats 2000000 in
theorem same_any (A : Option Addr) (n cap : Nat) (xs : List Int) (hn : xs.length = n) (hm : n ≤ 9223372036854775807) (A' : Option Addr) (n' cap' : Nat) (ys : List Int) (hn' : ys.length = n') (hm' : n' ≤ 9223372036854775807) (w : World) (h : Row w A (ints xs)) (h' : Row w A' (ints ys)) :
    Calls Try.prog 13 #[.slice A n cap, .slice A' n' cap'] w fun e w' => e = .returned (.bool (decide (xs = ys))) ∧ Ext w w' := by
  have KR := Kept.mk h
  have KR' := Kept.mk h'
  clear h h'
  by_cases hnn : n = n'
  · subst hnn
    go_enter Try.func13, Try.ntmps13
    go_wp2_with fail
    go_loopg [5] n (fun r iv wi => ∃ i : Nat, i + r = n ∧ iv = .int .i64 (i : Int) ∧ xs.take i = ys.take i ∧ Ext w wi)
    case atStart => exact ⟨0, by omega, rfl, by simp, Ext.refl _⟩
    case round =>
      obtain ⟨i, hr, rfl, hk, hE⟩ := hrel
      have Kr := Kept.mk hr
      have Kk := Kept.mk hk
      have KE := Kept.mk hE
      have hil : i ≤ n := by omega
      clear hr hk hE
      by_cases hlt : i < n
      · have hltI : (i : Int) < (n : Int) := by omega
        obtain ⟨b, off, rfl, hc⟩ := KR.out.at (by rw [ints_length]; omega)
        obtain ⟨b', off', rfl, hc'⟩ := KR'.out.at (by rw [ints_length]; omega)
        have c0 := KE.out.cell (hc i _ (ints_at xs i (by omega)))
        have c0' := KE.out.cell (hc' i _ (ints_at ys i (by omega)))
        have Kst := Kept.mk (take_snoc xs i (by omega))
        have Kst' := Kept.mk (take_snoc ys i (by omega))
        have Kg := Kept.mk (show xs[i]? = some (xs.getD i 0) ∧ ys[i]? = some (ys.getD i 0) from by
          rw [List.getD_eq_getElem?_getD, List.getD_eq_getElem?_getD, List.getElem?_eq_getElem (by omega), List.getElem?_eq_getElem (by omega)]; exact ⟨rfl, rfl⟩)
        generalize xs.getD i 0 = x at c0 Kst Kg
        generalize ys.getD i 0 = y at c0' Kst' Kg
        clear hc hc'
        by_cases hx : x = y
        · have hxb : (x != y) = false := by simpa using hx
          have Kx := Kept.mk hx
          clear hx
          go_wp2_with fail
          go_quiet (fail)
          go_wp2_with fail
          go_roundg (gk - 1)
          case measure => have := Kr.out; omega
          case rel => exact ⟨i + 1, by have := Kr.out; omega, by first | rfl | simp, by rw [Kst.out, Kst'.out, Kk.out, Kx.out], KE.out.trans (Ext.drewN _ _)⟩
        · have hxb : (x != y) = true := by simpa using hx
          have Kno := Kept.mk (show ¬ xs = ys from fun e => by
            have h1 := Kg.out
            rw [e] at h1
            exact hx (by simpa using h1.1.symm.trans h1.2))
          clear hx
          go_wp2_with fail
          go_quiet (fail)
          go_wp2_with fail
          go_ret
          exact ⟨by rw [decide_eq_false Kno.out]; rfl, KE.out.trans (Ext.drewN _ _)⟩
      · have hltI : ¬ (i : Int) < (n : Int) := by omega
        have Kyes := Kept.mk (show xs = ys from by
          have := Kk.out
          rwa [List.take_of_length_le (by omega), List.take_of_length_le (by omega)] at this)
        go_wp2_with fail
        go_ret
        exact ⟨by rw [decide_eq_true Kyes.out]; rfl, KE.out⟩
  · have hnb : ((n : Int) != (n' : Int)) = true := by simpa using (show ¬ (n : Int) = (n' : Int) by omega)
    have Kno := Kept.mk (show ¬ xs = ys from fun e => hnn (by rw [← hn, ← hn', e]))
    clear hnn
    go_enter Try.func13, Try.ntmps13
    go_wp2_with fail
    go_ret
    exact ⟨by rw [decide_eq_false Kno.out]; rfl, Ext.refl _⟩
end Work
end Go.Proofs.Ytnbgdphnoopdpaa
