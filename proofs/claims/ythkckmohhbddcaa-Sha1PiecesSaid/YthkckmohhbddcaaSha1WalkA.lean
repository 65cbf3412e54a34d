/- The walks of SHA-1's words: rotation, mixing, a step ahead and back. No condition. -/
import Derived.Test.YthkckmohhbddcaaProg
import Derived.Test.YthkckmohhbddcaaRow
import Derived.Test.YthkckmohhbddcaaSha1Plain
namespace Go.Proofs.Ythkckmohhbddcaa
open Go.RowKit
namespace Sha1

def IntIs (k : IntKind) (w : World) (x : Int) (e : Ending) (w' : World) : Prop := e = .returned (.int k x) ∧ w = w'
set_option maxRecDepth 100000 in
set_option maxHeartbeats 400000 in
theorem rotl_any (x : Int) (k : Nat) (hk : k ≤ 31) (w : World) : Calls Try.prog 26 #[.int .u32 x, .int .i64 (k : Int)] w (IntIs .u32 w (rotI x k)) := by
  have hb : bits .and .u64 (k : Int) 31 = (k : Int) := by
    have := bits_mask .u64 63 (by decide) (fun n h0 h1 => by simp [IntKind.wrap, IntKind.bits, IntKind.signed]; omega) 5 (by decide) (k : Int) (by omega) (by omega)
    simpa using this.trans (by omega)
  have hk' : (k : Int) ≤ 31 := by omega
  go_enter Try.func26, Try.ntmps26
  go_wp2_with fail
  go_ret
  exact ⟨rfl, rfl⟩
set_option maxRecDepth 100000 in
set_option maxHeartbeats 400000 in
theorem rot_any (x : Int) (k : Nat) (hk : k ≤ 31) (w : World) : Calls Try.prog 27 #[.int .u32 x, .int .u64 (k : Int)] w (IntIs .u32 w (rotI x k)) := by
  have hk' : (k : Int) ≤ 31 := by omega
  go_enter Try.func27, Try.ntmps27
  go_wp2_with fail
  go_ret
  exact ⟨rfl, rfl⟩
set_option maxRecDepth 100000 in
set_option maxHeartbeats 400000 in
theorem mixed_a (t b c d : Int) (h : t ≤ 0) (w : World) : Calls Try.prog 28 #[.int .i64 t, .int .u32 b, .int .u32 c, .int .u32 d] w (IntIs .u32 w (mixI t b c d)) := by
  have hsg : IntKind.u32.signed = false := rfl
  have HM := Lib.hid (show mixI t b c d = _ from by unfold mixI; rw [if_pos (by omega)])
  go_enter Try.func28, Try.ntmps28
  go_wp2_with fail
  go_ret
  exact ⟨by rw [HM.out]; rfl, rfl⟩
set_option maxRecDepth 100000 in
set_option maxHeartbeats 400000 in
theorem mixed_b (t b c d : Int) (h : 0 < t) (h' : t < 20) (w : World) : Calls Try.prog 28 #[.int .i64 t, .int .u32 b, .int .u32 c, .int .u32 d] w (IntIs .u32 w (mixI t b c d)) := by
  have hsg : IntKind.u32.signed = false := rfl
  have HM := Lib.hid (show mixI t b c d = _ from by unfold mixI; rw [if_pos (by omega)])
  have q0 : ((t / 20 == 0) : Bool) = true := by rw [beq_iff_eq]; omega
  go_enter Try.func28, Try.ntmps28
  go_wp2_with fail
  go_ret
  exact ⟨by rw [HM.out]; rfl, rfl⟩
set_option maxRecDepth 100000 in
set_option maxHeartbeats 400000 in
theorem mixed_c (t b c d : Int) (h : 20 ≤ t) (h' : t < 40) (w : World) : Calls Try.prog 28 #[.int .i64 t, .int .u32 b, .int .u32 c, .int .u32 d] w (IntIs .u32 w (mixI t b c d)) := by
  have hsg : IntKind.u32.signed = false := rfl
  have HM := Lib.hid (show mixI t b c d = _ from by unfold mixI; rw [if_neg (by omega), if_pos (by omega)])
  have q0 : ((t / 20 == 0) : Bool) = false := by rw [beq_eq_false_iff_ne]; omega
  have q1 : ((t / 20 == 1) : Bool) = true := by rw [beq_iff_eq]; omega
  go_enter Try.func28, Try.ntmps28
  go_wp2_with fail
  go_ret
  exact ⟨by rw [HM.out]; rfl, rfl⟩
set_option maxRecDepth 100000 in
set_option maxHeartbeats 400000 in
theorem mixed_d (t b c d : Int) (h : 40 ≤ t) (h' : t < 60) (w : World) : Calls Try.prog 28 #[.int .i64 t, .int .u32 b, .int .u32 c, .int .u32 d] w (IntIs .u32 w (mixI t b c d)) := by
  have hsg : IntKind.u32.signed = false := rfl
  have HM := Lib.hid (show mixI t b c d = _ from by unfold mixI; rw [if_neg (by omega), if_neg (by omega), if_pos (by omega)])
  have q0 : ((t / 20 == 0) : Bool) = false := by rw [beq_eq_false_iff_ne]; omega
  have q1 : ((t / 20 == 1) : Bool) = false := by rw [beq_eq_false_iff_ne]; omega
  have q2 : ((t / 20 == 2) : Bool) = true := by rw [beq_iff_eq]; omega
  go_enter Try.func28, Try.ntmps28
  go_wp2_with fail
  go_ret
  exact ⟨by rw [HM.out]; rfl, rfl⟩
set_option maxRecDepth 100000 in
set_option maxHeartbeats 400000 in
theorem mixed_e (t b c d : Int) (h : 60 ≤ t) (h' : t < 79) (w : World) : Calls Try.prog 28 #[.int .i64 t, .int .u32 b, .int .u32 c, .int .u32 d] w (IntIs .u32 w (mixI t b c d)) := by
  have hsg : IntKind.u32.signed = false := rfl
  have HM := Lib.hid (show mixI t b c d = _ from by unfold mixI; rw [if_neg (by omega), if_neg (by omega), if_neg (by omega)])
  have q0 : ((t / 20 == 0) : Bool) = false := by rw [beq_eq_false_iff_ne]; omega
  have q1 : ((t / 20 == 1) : Bool) = false := by rw [beq_eq_false_iff_ne]; omega
  have q2 : ((t / 20 == 2) : Bool) = false := by rw [beq_eq_false_iff_ne]; omega
  go_enter Try.func28, Try.ntmps28
  go_wp2_with fail
  go_ret
  exact ⟨by rw [HM.out]; rfl, rfl⟩
set_option maxRecDepth 100000 in
set_option maxHeartbeats 400000 in
theorem mixed_f (t b c d : Int) (h : 79 ≤ t) (w : World) : Calls Try.prog 28 #[.int .i64 t, .int .u32 b, .int .u32 c, .int .u32 d] w (IntIs .u32 w (mixI t b c d)) := by
  have hsg : IntKind.u32.signed = false := rfl
  have HM := Lib.hid (show mixI t b c d = _ from by unfold mixI; rw [if_neg (by omega), if_neg (by omega), if_neg (by omega)])
  go_enter Try.func28, Try.ntmps28
  go_wp2_with fail
  all_goals (go_ret; exact ⟨by rw [HM.out]; rfl, rfl⟩)
theorem mixed_any (t b c d : Int) (w : World) : Calls Try.prog 28 #[.int .i64 t, .int .u32 b, .int .u32 c, .int .u32 d] w (IntIs .u32 w (mixI t b c d)) := by
  by_cases h0 : t ≤ 0
  · exact mixed_a t b c d h0 w
  by_cases h1 : t < 20
  · exact mixed_b t b c d (by omega) h1 w
  by_cases h2 : t < 40
  · exact mixed_c t b c d (by omega) h2 w
  by_cases h3 : t < 60
  · exact mixed_d t b c d (by omega) h3 w
  by_cases h4 : t < 79
  · exact mixed_e t b c d (by omega) h4 w
  · exact mixed_f t b c d (by omega) w
set_option maxRecDepth 100000 in
set_option maxHeartbeats 400000 in
theorem mix_a (t b c d : Int) (h : t < 20) (w : World) : Calls Try.prog 29 #[.int .i64 t, .int .u32 b, .int .u32 c, .int .u32 d] w (IntIs .u32 w (mixI t b c d)) := by
  have hsg : IntKind.u32.signed = false := rfl
  have HM := Lib.hid (show mixI t b c d = _ from by unfold mixI; rw [if_pos (by omega)])
  go_enter Try.func29, Try.ntmps29
  go_wp2_with fail
  go_ret
  exact ⟨by rw [HM.out]; rfl, rfl⟩
set_option maxRecDepth 100000 in
set_option maxHeartbeats 400000 in
theorem mix_b (t b c d : Int) (h : 20 ≤ t) (h' : t < 40) (w : World) : Calls Try.prog 29 #[.int .i64 t, .int .u32 b, .int .u32 c, .int .u32 d] w (IntIs .u32 w (mixI t b c d)) := by
  have hsg : IntKind.u32.signed = false := rfl
  have HM := Lib.hid (show mixI t b c d = _ from by unfold mixI; rw [if_neg (by omega), if_pos (by omega)])
  go_enter Try.func29, Try.ntmps29
  go_wp2_with fail
  go_ret
  exact ⟨by rw [HM.out]; rfl, rfl⟩
set_option maxRecDepth 100000 in
set_option maxHeartbeats 400000 in
theorem mix_c (t b c d : Int) (h : 40 ≤ t) (h' : t < 60) (w : World) : Calls Try.prog 29 #[.int .i64 t, .int .u32 b, .int .u32 c, .int .u32 d] w (IntIs .u32 w (mixI t b c d)) := by
  have hsg : IntKind.u32.signed = false := rfl
  have HM := Lib.hid (show mixI t b c d = _ from by unfold mixI; rw [if_neg (by omega), if_neg (by omega), if_pos (by omega)])
  go_enter Try.func29, Try.ntmps29
  go_wp2_with fail
  go_ret
  exact ⟨by rw [HM.out]; rfl, rfl⟩
set_option maxRecDepth 100000 in
set_option maxHeartbeats 400000 in
theorem mix_d (t b c d : Int) (h : 60 ≤ t) (w : World) : Calls Try.prog 29 #[.int .i64 t, .int .u32 b, .int .u32 c, .int .u32 d] w (IntIs .u32 w (mixI t b c d)) := by
  have hsg : IntKind.u32.signed = false := rfl
  have HM := Lib.hid (show mixI t b c d = _ from by unfold mixI; rw [if_neg (by omega), if_neg (by omega), if_neg (by omega)])
  go_enter Try.func29, Try.ntmps29
  go_wp2_with fail
  go_ret
  exact ⟨by rw [HM.out]; rfl, rfl⟩
theorem mix_any (t b c d : Int) (w : World) : Calls Try.prog 29 #[.int .i64 t, .int .u32 b, .int .u32 c, .int .u32 d] w (IntIs .u32 w (mixI t b c d)) := by
  by_cases h1 : t < 20
  · exact mix_a t b c d h1 w
  by_cases h2 : t < 40
  · exact mix_b t b c d (by omega) h2 w
  by_cases h3 : t < 60
  · exact mix_c t b c d (by omega) h3 w
  · exact mix_d t b c d (by omega) w

end Sha1
end Go.Proofs.Ythkckmohhbddcaa
