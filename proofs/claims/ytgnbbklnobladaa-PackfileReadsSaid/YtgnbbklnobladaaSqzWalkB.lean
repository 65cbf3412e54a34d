/- The walk of squeeze's Open. No condition. -/
import Derived.Test.YtgnbbklnobladaaSqzWalkA
namespace Go.Proofs.Ytgnbbklnobladaa
open Go.RowKit
namespace Sqz
open Delta (TextE infoB wraps_i64)
set_option linter.unusedSimpArgs false
set_option linter.unusedVariables false
theorem openM_nil (M : Int) : openM M [] = ([], 2) := by simp [openM]
theorem openM_stored (M : Int) (s : List UInt8) (h : s ≠ []) (h0 : (s.getD 0 0).toNat = 0) : openM M s = if M < (s.length : Int) - 1 then ([], 9) else (s.drop 1, 0) := by
  have : byt s 0 = 0 := by unfold byt; omega
  rw [openM, if_neg h, if_pos this]
theorem openM_packed (M : Int) (s : List UInt8) (h : s ≠ []) (h0 : (s.getD 0 0).toNat = 1) : openM M s = toks M [] (s.drop 1) := by
  have : byt s 0 = 1 := by unfold byt; omega
  rw [openM, if_neg h, if_neg (by omega), if_pos this]
theorem openM_other (M : Int) (s : List UInt8) (h : s ≠ []) (h0 : 2 ≤ (s.getD 0 0).toNat) : openM M s = ([], 3) := by
  have : 2 ≤ byt s 0 := by unfold byt; omega
  rw [openM, if_neg h, if_neg (by omega), if_neg (by omega)]
set_option maxRecDepth 100000 in
set_option maxHeartbeats 2000000 in
theorem open_any (s : List UInt8) (hs : s.length ≤ 1000000) (most : Int) (w : World) : Calls Try.prog 36 #[.string (strOf s), .int .i64 most] w (TextE w (openP s most)) := by
  have hm : Try.prog.follows .mixedOrders = true := by kernel_rfl
  have hsz := strOf_size s
  unfold openP
  obtain ⟨M, hM⟩ : ∃ M, M = (if most < 0 then 0 else most) := ⟨_, rfl⟩
  rw [← hM]
  have hM2 : (if most < 0 then 0 else most) = M := hM.symm
  clear hM
  by_cases h0 : s = []
  · subst h0
    rw [openM_nil]
    have hne : (strOf []).toList.isEmpty = true := by rw [ByteArray.toList_eq]; rfl
    go_enter Try.func36, Try.ntmps36
    go_wp2_with fail
    go_ret2
    exact ⟨rfl, Ext.refl _⟩
  · have hpos : 0 < s.length := List.length_pos_iff.2 h0
    have hposI : (0 : Int) < (s.length : Int) := by omega
    have hne : (strOf s).toList.isEmpty = false := by
      rw [ByteArray.toList_eq, strOf_list]; simpa using h0
    have y0a := get_nat s 0 (by omega)
    have n0 : 0 < (strOf s).size := by omega
    have hO := openM_stored M s h0
    have hP := openM_packed M s h0
    have hQ := openM_other M s h0
    have hcb : (s.getD 0 0).toNat < 256 := (s.getD 0 0).toNat_lt
    generalize (s.getD 0 0).toNat = c at y0a hO hP hQ hcb
    have hx : (strOf s).extract 1 s.length = strOf (s.drop 1) := by
      have := strOf_tail s 1
      rwa [hsz] at this
    have hdl : (s.drop 1).length = s.length - 1 := List.length_drop
    generalize hsd : s.drop 1 = p at hx hdl hO hP hQ
    have hpl : (p.length : Int) = (s.length : Int) - 1 := by omega
    have hpb : p.length ≤ 1000000 := by omega
    clear hdl
    have hj : (1 : Int) ≤ (s.length : Int) := by omega
    have hpz : (strOf p).size = p.length := strOf_size p
    have K0 := Kept.mk h0
    clear h0 hsd
    rcases (show c = 0 ∨ c = 1 ∨ 2 ≤ c by omega) with h | h | h
    · subst h
      replace hO := hO rfl
      by_cases hl : M < (s.length : Int) - 1
      · rw [if_pos hl] at hO
        have Kf := Kept.mk hO
        have hI : (p.length : Int) > M := by omega
        clear hl hpl
        clear hO hP hQ
        go_enter Try.func36, Try.ntmps36
        go_wp2_with fail
        go_ret2
        exact ⟨by rw [Kf.out]; rfl, Ext.refl _⟩
      · rw [if_neg hl] at hO
        have Kf := Kept.mk hO
        have hI : ¬ (p.length : Int) > M := by omega
        clear hl hpl
        clear hO hP hQ
        go_enter Try.func36, Try.ntmps36
        go_wp2_with fail
        go_ret2
        exact ⟨by rw [Kf.out]; rfl, Ext.refl _⟩
    · subst h
      have Kf := Kept.mk (hP rfl)
      clear hO hP hQ hpl
      go_enter Try.func36, Try.ntmps36
      go_wp2_with fail
      refine (tokens_any p hpb M _).mono ?_
      rintro e w1 ⟨rfl, h1⟩
      rw [← Kf.out]
      go_wp2_with fail
      go_ret2
      exact ⟨rfl, h1⟩
    · have Kf := Kept.mk (hQ h)
      have hc0 : ¬ (c : Int) = 0 := by omega
      have hc1 : ¬ (c : Int) = 1 := by omega
      have q0 : ((c : Int) == 0) = false := by rw [beq_eq_false_iff_ne]; omega
      have q1 : ((c : Int) == 1) = false := by rw [beq_eq_false_iff_ne]; omega
      clear hO hP hQ
      go_enter Try.func36, Try.ntmps36
      go_wp2_with fail
      go_ret2
      exact ⟨by rw [Kf.out]; rfl, Ext.refl _⟩
end Sqz
end Go.Proofs.Ytgnbbklnobladaa
