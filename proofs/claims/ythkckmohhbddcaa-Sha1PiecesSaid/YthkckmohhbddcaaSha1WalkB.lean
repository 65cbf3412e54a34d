/- The walks of SHA-1's steps, ahead and back. No condition. -/
import Derived.Test.YthkckmohhbddcaaSha1WalkA
import Derived.Test.YthkckmohhbddcaaCalm
namespace Go.Proofs.Ythkckmohhbddcaa
open Go.RowKit
namespace Sha1

def ChIs (w : World) (x : Ch) (e : Ending) (w' : World) : Prop := e = .returned (chV x) ∧ Ext w w'
set_option maxRecDepth 100000 in
set_option maxHeartbeats 400000 in
theorem first_any (w : World) : Calls Try.prog 14 #[] w (ChIs w firstC) := by
  go_enter Try.func14, Try.ntmps14
  go_wp2_with fail
  exact bodyPost_ret (v := chV firstC) (by simp [results, Try.results14, go_sem]; rfl) rfl ⟨rfl, Ext.alloc _ _⟩
set_option maxRecDepth 100000 in
set_option maxHeartbeats 400000 in
theorem step_any (x : Ch) (t v : Int) (w : World) : Calls Try.prog 18 #[chV x, .int .i64 t, .int .u32 v] w (ChIs w (stepC x t v)) := by
  obtain ⟨a, b, c, d, e⟩ := x
  unfold chV
  have HS := Lib.hid (show stepC ⟨a, b, c, d, e⟩ t v = ⟨(rotI a 5 + mixI t b c d + e + v) % 4294967296, a, rotI b 30, c, d⟩ from rfl)
  generalize stepC ⟨a, b, c, d, e⟩ t v = y at HS
  go_enter Try.func18, Try.ntmps18
  go_wp2_with fail
  go_quiet (fail)
  go_wp2_with fail
  refine (rotl_any a 5 (by decide) _).mono ?_
  rintro e1 w1 ⟨rfl, rfl⟩
  go_wp2_with fail
  refine (mixed_any t b c d _).mono ?_
  rintro e1 w1 ⟨rfl, rfl⟩
  go_wp2_with fail
  refine (rotl_any b 30 (by decide) _).mono ?_
  rintro e1 w1 ⟨rfl, rfl⟩
  go_wp2_with fail
  refine bodyPost_ret (v := chV y) ?_ rfl ⟨rfl, ?_⟩
  · rw [HS.out]
    simp [results, Try.results18, go_sem]
    rfl
  · unfold Ext; repeat (first | (with_reducible refine Below.setCell ?_ (by simp) _) | (with_reducible refine below_drewN ?_ _) | (with_reducible refine Below.drew ?_) | (with_reducible refine Below.alloc ?_ (by simp) _) | with_reducible exact Below.refl _ _)
-- GENERATED BELOW
set_option linter.unusedSimpArgs false
set_option maxRecDepth 100000 in
set_option maxHeartbeats 1000000 in
theorem back_any (x : Ch) (t v : Int) (w : World) : Calls Try.prog 20 #[chV x, .int .i64 t, .int .u32 v] w (ChIs w (backC x t v)) := by
  obtain ⟨a, b, c, d, e⟩ := x
  unfold chV
  have HS := Lib.hid (show backC ⟨a, b, c, d, e⟩ t v = ⟨b, rotI c 2, d, e, (a - rotI b 5 - mixI t (rotI c 2) d e - v) % 4294967296⟩ from rfl)
  generalize backC ⟨a, b, c, d, e⟩ t v = y at HS
  have hm : Try.prog.follows .mixedOrders = true := by kernel_rfl
  go_enter Try.func20, Try.ntmps20
  go_wp2_with fail
  refine wp_region_calm DrewR 13 ([] :: [(11, 0)] :: [] :: [(13, 2)] :: [(14, 3)] :: [] :: [(16, 5)] :: [] :: [(18, 7)] :: [(12, 1)] :: [(15, 4)] :: [(17, 6)] :: [(19, 8)] :: [])
    ((11, 0) :: (12, 1) :: (13, 2) :: (14, 3) :: (15, 4) :: (16, 5) :: (17, 6) :: (18, 7) :: (19, 8) :: (7, 9) :: (8, 10) :: (9, 11) :: (10, 12) :: [])
    (EqV ?pce0 :: EqV ?pce1 :: EqV ?pce2 :: EqV ?pce3 :: EqV ?pce4 :: EqV ?pce5 :: EqV ?pce6 :: EqV ?pce7 :: EqV ?pce8 :: EqV ?pce9 :: EqV ?pce10 :: EqV ?pce11 :: EqV ?pce12 :: []) hm (by kernel_rfl) DrewR.refl DrewR.trans DrewR.drew
    (MonoL.at (MonoL.eq _ (MonoL.eq _ (MonoL.eq _ (MonoL.eq _ (MonoL.eq _ (MonoL.eq _ (MonoL.eq _ (MonoL.eq _ (MonoL.eq _ (MonoL.eq _ (MonoL.eq _ (MonoL.eq _ (MonoL.eq _ (MonoL.nil))))))))))))))) ?pcalmOps ?pcalmDone
  case pcalmOps =>
    intro vs
    refine (CalmOps.cons ?_ (CalmOps.cons ?_ (CalmOps.cons ?_ (CalmOps.cons ?_ (CalmOps.cons ?_ (CalmOps.cons ?_ (CalmOps.cons ?_ (CalmOps.cons ?_ (CalmOps.cons ?_ (CalmOps.cons ?_ (CalmOps.cons ?_ (CalmOps.cons ?_ (CalmOps.cons ?_ trivial)))))))))))))
    · intro w hR hL; obtain ⟨nd, rfl⟩ := hR; simp [Look, VAt, EqV] at hL; simp [Guarded, setAll, bare, hL]; go_wp2_with fail; exact CalmPost.mk (by simp; rfl) rfl (DrewR.refl _)
    · intro w hR hL; obtain ⟨nd, rfl⟩ := hR; simp [Look, VAt, EqV] at hL; simp [Guarded, setAll, bare, hL]; go_wp2_with fail; exact CalmPost.mk (by simp; rfl) rfl (DrewR.refl _)
    · intro w hR hL; obtain ⟨nd, rfl⟩ := hR; simp [Look, VAt, EqV] at hL; simp [Guarded, setAll, bare, hL]; go_wp2_with fail; exact CalmPost.mk (by simp; rfl) rfl (DrewR.refl _)
    · intro w hR hL; obtain ⟨nd, rfl⟩ := hR; simp [Look, VAt, EqV] at hL; simp [Guarded, setAll, bare, hL]; go_wp2_with fail; exact CalmPost.mk (by simp; rfl) rfl (DrewR.refl _)
    · intro w hR hL; obtain ⟨nd, rfl⟩ := hR; simp [Look, VAt, EqV] at hL; simp [Guarded, setAll, bare, hL]; go_wp2_with fail; refine (rotl_any c 2 (by decide) _).mono ?_; rintro ee ww ⟨rfl, rfl⟩; go_wp2_with fail; exact CalmPost.mk (by simp; rfl) rfl (DrewR.refl _)
    · intro w hR hL; obtain ⟨nd, rfl⟩ := hR; simp [Look, VAt, EqV] at hL; simp [Guarded, setAll, bare, hL]; go_wp2_with fail; exact CalmPost.mk (by simp; rfl) rfl (DrewR.refl _)
    · intro w hR hL; obtain ⟨nd, rfl⟩ := hR; simp [Look, VAt, EqV] at hL; simp [Guarded, setAll, bare, hL]; go_wp2_with fail; exact CalmPost.mk (by simp; rfl) rfl (DrewR.refl _)
    · intro w hR hL; obtain ⟨nd, rfl⟩ := hR; simp [Look, VAt, EqV] at hL; simp [Guarded, setAll, bare, hL]; go_wp2_with fail; exact CalmPost.mk (by simp; rfl) rfl (DrewR.refl _)
    · intro w hR hL; obtain ⟨nd, rfl⟩ := hR; simp [Look, VAt, EqV] at hL; simp [Guarded, setAll, bare, hL]; go_wp2_with fail; exact CalmPost.mk (by simp; rfl) rfl (DrewR.refl _)
    · intro w hR hL; obtain ⟨nd, rfl⟩ := hR; simp [Look, VAt, EqV] at hL; simp [Guarded, setAll, bare, hL]; go_wp2_with fail; exact CalmPost.mk (by simp; rfl) rfl (DrewR.refl _)
    · intro w hR hL; obtain ⟨nd, rfl⟩ := hR; simp [Look, VAt, EqV] at hL; simp [Guarded, setAll, bare, hL]; go_wp2_with fail; exact CalmPost.mk (by simp; rfl) rfl (DrewR.refl _)
    · intro w hR hL; obtain ⟨nd, rfl⟩ := hR; simp [Look, VAt, EqV] at hL; simp [Guarded, setAll, bare, hL]; go_wp2_with fail; exact CalmPost.mk (by simp; rfl) rfl (DrewR.refl _)
    · intro w hR hL; obtain ⟨nd, rfl⟩ := hR; simp [Look, VAt, EqV] at hL; simp [Guarded, setAll, bare, hL]; go_wp2_with fail; exact CalmPost.mk (by simp; rfl) rfl (DrewR.refl _)
  case pcalmDone =>
    intro vs w6 hR hL; obtain ⟨nd, rfl⟩ := hR; simp [Look, VAt, EqV] at hL; simp [setAll, hL]; clear hL
    go_wp2_with fail
    refine wp_region_calm DrewR 18 ([] :: [] :: [] :: [] :: [] :: [(24, 4)] :: [] :: [(26, 6)] :: [(25, 5), (27, 7)] :: [] :: [] :: [] :: [] :: [(29, 9), (30, 10), (31, 11), (32, 12)] :: [(28, 8), (33, 13)] :: [] :: [(34, 14), (35, 15)] :: [(20, 0), (21, 1), (22, 2), (23, 3), (36, 16)] :: [])
      ((20, 0) :: (21, 1) :: (22, 2) :: (23, 3) :: (24, 4) :: (25, 5) :: (26, 6) :: (27, 7) :: (28, 8) :: (29, 9) :: (30, 10) :: (31, 11) :: (32, 12) :: (33, 13) :: (34, 14) :: (35, 15) :: (36, 16) :: (37, 17) :: [])
      (EqV ?qce0 :: EqV ?qce1 :: EqV ?qce2 :: EqV ?qce3 :: EqV ?qce4 :: EqV ?qce5 :: EqV ?qce6 :: EqV ?qce7 :: EqV ?qce8 :: EqV ?qce9 :: EqV ?qce10 :: EqV ?qce11 :: EqV ?qce12 :: EqV ?qce13 :: EqV ?qce14 :: EqV ?qce15 :: EqV ?qce16 :: EqV ?qce17 :: []) hm (by kernel_rfl) DrewR.refl DrewR.trans DrewR.drew
      (MonoL.at (MonoL.eq _ (MonoL.eq _ (MonoL.eq _ (MonoL.eq _ (MonoL.eq _ (MonoL.eq _ (MonoL.eq _ (MonoL.eq _ (MonoL.eq _ (MonoL.eq _ (MonoL.eq _ (MonoL.eq _ (MonoL.eq _ (MonoL.eq _ (MonoL.eq _ (MonoL.eq _ (MonoL.eq _ (MonoL.eq _ (MonoL.nil)))))))))))))))))))) ?qcalmOps ?qcalmDone
    case qcalmOps =>
      intro vs
      refine (CalmOps.cons ?_ (CalmOps.cons ?_ (CalmOps.cons ?_ (CalmOps.cons ?_ (CalmOps.cons ?_ (CalmOps.cons ?_ (CalmOps.cons ?_ (CalmOps.cons ?_ (CalmOps.cons ?_ (CalmOps.cons ?_ (CalmOps.cons ?_ (CalmOps.cons ?_ (CalmOps.cons ?_ (CalmOps.cons ?_ (CalmOps.cons ?_ (CalmOps.cons ?_ (CalmOps.cons ?_ (CalmOps.cons ?_ trivial))))))))))))))))))
      · intro w hR hL; obtain ⟨nd, rfl⟩ := hR; simp [Look, VAt, EqV] at hL; simp [Guarded, setAll, bare, hL]; go_wp2_with fail; exact CalmPost.mk (by simp; rfl) rfl (DrewR.refl _)
      · intro w hR hL; obtain ⟨nd, rfl⟩ := hR; simp [Look, VAt, EqV] at hL; simp [Guarded, setAll, bare, hL]; go_wp2_with fail; exact CalmPost.mk (by simp; rfl) rfl (DrewR.refl _)
      · intro w hR hL; obtain ⟨nd, rfl⟩ := hR; simp [Look, VAt, EqV] at hL; simp [Guarded, setAll, bare, hL]; go_wp2_with fail; exact CalmPost.mk (by simp; rfl) rfl (DrewR.refl _)
      · intro w hR hL; obtain ⟨nd, rfl⟩ := hR; simp [Look, VAt, EqV] at hL; simp [Guarded, setAll, bare, hL]; go_wp2_with fail; exact CalmPost.mk (by simp; rfl) rfl (DrewR.refl _)
      · intro w hR hL; obtain ⟨nd, rfl⟩ := hR; simp [Look, VAt, EqV] at hL; simp [Guarded, setAll, bare, hL]; go_wp2_with fail; exact CalmPost.mk (by simp; rfl) rfl (DrewR.refl _)
      · intro w hR hL; obtain ⟨nd, rfl⟩ := hR; simp [Look, VAt, EqV] at hL; simp [Guarded, setAll, bare, hL]; go_wp2_with fail; exact CalmPost.mk (by simp; rfl) rfl (DrewR.refl _)
      · intro w hR hL; obtain ⟨nd, rfl⟩ := hR; simp [Look, VAt, EqV] at hL; simp [Guarded, setAll, bare, hL]; go_wp2_with fail; exact CalmPost.mk (by simp; rfl) rfl (DrewR.refl _)
      · intro w hR hL; obtain ⟨nd, rfl⟩ := hR; simp [Look, VAt, EqV] at hL; simp [Guarded, setAll, bare, hL]; go_wp2_with fail; refine (rotl_any b 5 (by decide) _).mono ?_; rintro ee ww ⟨rfl, rfl⟩; go_wp2_with fail; exact CalmPost.mk (by simp; rfl) rfl (DrewR.refl _)
      · intro w hR hL; obtain ⟨nd, rfl⟩ := hR; simp [Look, VAt, EqV] at hL; simp [Guarded, setAll, bare, hL]; go_wp2_with fail; exact CalmPost.mk (by simp; rfl) rfl (DrewR.refl _)
      · intro w hR hL; obtain ⟨nd, rfl⟩ := hR; simp [Look, VAt, EqV] at hL; simp [Guarded, setAll, bare, hL]; go_wp2_with fail; exact CalmPost.mk (by simp; rfl) rfl (DrewR.refl _)
      · intro w hR hL; obtain ⟨nd, rfl⟩ := hR; simp [Look, VAt, EqV] at hL; simp [Guarded, setAll, bare, hL]; go_wp2_with fail; exact CalmPost.mk (by simp; rfl) rfl (DrewR.refl _)
      · intro w hR hL; obtain ⟨nd, rfl⟩ := hR; simp [Look, VAt, EqV] at hL; simp [Guarded, setAll, bare, hL]; go_wp2_with fail; exact CalmPost.mk (by simp; rfl) rfl (DrewR.refl _)
      · intro w hR hL; obtain ⟨nd, rfl⟩ := hR; simp [Look, VAt, EqV] at hL; simp [Guarded, setAll, bare, hL]; go_wp2_with fail; exact CalmPost.mk (by simp; rfl) rfl (DrewR.refl _)
      · intro w hR hL; obtain ⟨nd, rfl⟩ := hR; simp [Look, VAt, EqV] at hL; simp [Guarded, setAll, bare, hL]; go_wp2_with fail; refine (mixed_any t (rotI c 2) d e _).mono ?_; rintro ee ww ⟨rfl, rfl⟩; go_wp2_with fail; exact CalmPost.mk (by simp; rfl) rfl (DrewR.refl _)
      · intro w hR hL; obtain ⟨nd, rfl⟩ := hR; simp [Look, VAt, EqV] at hL; simp [Guarded, setAll, bare, hL]; go_wp2_with fail; exact CalmPost.mk (by simp; rfl) rfl (DrewR.refl _)
      · intro w hR hL; obtain ⟨nd, rfl⟩ := hR; simp [Look, VAt, EqV] at hL; simp [Guarded, setAll, bare, hL]; go_wp2_with fail; exact CalmPost.mk (by simp; rfl) rfl (DrewR.refl _)
      · intro w hR hL; obtain ⟨nd, rfl⟩ := hR; simp [Look, VAt, EqV] at hL; simp [Guarded, setAll, bare, hL]; go_wp2_with fail; exact CalmPost.mk (by simp; rfl) rfl (DrewR.refl _)
      · intro w hR hL; obtain ⟨nd, rfl⟩ := hR; simp [Look, VAt, EqV] at hL; simp [Guarded, setAll, bare, hL]; go_wp2_with fail; exact CalmPost.mk (by simp; rfl) rfl (DrewR.refl _)

    case qcalmDone =>
      intro vs w6 hR hL; obtain ⟨nd, rfl⟩ := hR; simp [Look, VAt, EqV] at hL; simp [setAll, hL]; clear hL
      go_wp2_with fail
      refine bodyPost_ret (v := chV y) ?_ rfl ⟨rfl, ?_⟩
      · rw [HS.out]
        simp [results, Try.results20, go_sem]
        rfl
      · unfold Ext; repeat (first | (with_reducible refine Below.setCell ?_ (by simp) _) | (with_reducible refine below_drewN ?_ _) | (with_reducible refine Below.drew ?_) | (with_reducible refine Below.alloc ?_ (by simp) _) | with_reducible exact Below.refl _ _)
theorem refFirst_any (w : World) : Calls Try.prog 25 #[] w (ChIs w firstC) := by
  go_enter Try.func25, Try.ntmps25
  go_wp2_with fail
  exact bodyPost_ret (v := chV firstC) (by simp [results, Try.results25, go_sem]; rfl) rfl ⟨rfl, Ext.alloc _ _⟩
set_option maxRecDepth 100000 in
set_option maxHeartbeats 1000000 in
theorem refStep_any (x : Ch) (t v : Int) (w : World) : Calls Try.prog 19 #[chV x, .int .i64 t, .int .u32 v] w (ChIs w (stepC x t v)) := by
  obtain ⟨a, b, c, d, e⟩ := x
  unfold chV
  have HS := Lib.hid (show stepC ⟨a, b, c, d, e⟩ t v = ⟨(rotI a 5 + mixI t b c d + e + v) % 4294967296, a, rotI b 30, c, d⟩ from rfl)
  generalize stepC ⟨a, b, c, d, e⟩ t v = y at HS
  have hm : Try.prog.follows .mixedOrders = true := by kernel_rfl
  go_enter Try.func19, Try.ntmps19
  go_wp2_with fail
  refine wp_region_calm DrewR 18 ([] :: [(8, 0)] :: [(9, 1)] :: [] :: [] :: [(12, 4)] :: [] :: [(14, 6)] :: [] :: [(16, 8)] :: [(11, 3), (13, 5), (15, 7), (17, 9)] :: [(10, 2), (18, 10)] :: [] :: [(20, 12)] :: [(19, 11), (21, 13)] :: [] :: [(22, 14), (23, 15)] :: [(24, 16)] :: [])
    ((8, 0) :: (9, 1) :: (10, 2) :: (11, 3) :: (12, 4) :: (13, 5) :: (14, 6) :: (15, 7) :: (16, 8) :: (17, 9) :: (18, 10) :: (19, 11) :: (20, 12) :: (21, 13) :: (22, 14) :: (23, 15) :: (24, 16) :: (7, 17) :: [])
    (EqV ?pce0 :: EqV ?pce1 :: EqV ?pce2 :: EqV ?pce3 :: EqV ?pce4 :: EqV ?pce5 :: EqV ?pce6 :: EqV ?pce7 :: EqV ?pce8 :: EqV ?pce9 :: EqV ?pce10 :: EqV ?pce11 :: EqV ?pce12 :: EqV ?pce13 :: EqV ?pce14 :: EqV ?pce15 :: EqV ?pce16 :: EqV ?pce17 :: []) hm (by kernel_rfl) DrewR.refl DrewR.trans DrewR.drew
    (MonoL.at (MonoL.eq _ (MonoL.eq _ (MonoL.eq _ (MonoL.eq _ (MonoL.eq _ (MonoL.eq _ (MonoL.eq _ (MonoL.eq _ (MonoL.eq _ (MonoL.eq _ (MonoL.eq _ (MonoL.eq _ (MonoL.eq _ (MonoL.eq _ (MonoL.eq _ (MonoL.eq _ (MonoL.eq _ (MonoL.eq _ (MonoL.nil)))))))))))))))))))) ?pcalmOps ?pcalmDone
  case pcalmOps =>
    intro vs
    refine (CalmOps.cons ?_ (CalmOps.cons ?_ (CalmOps.cons ?_ (CalmOps.cons ?_ (CalmOps.cons ?_ (CalmOps.cons ?_ (CalmOps.cons ?_ (CalmOps.cons ?_ (CalmOps.cons ?_ (CalmOps.cons ?_ (CalmOps.cons ?_ (CalmOps.cons ?_ (CalmOps.cons ?_ (CalmOps.cons ?_ (CalmOps.cons ?_ (CalmOps.cons ?_ (CalmOps.cons ?_ (CalmOps.cons ?_ trivial))))))))))))))))))
    · intro w hR hL; obtain ⟨nd, rfl⟩ := hR; simp [Look, VAt, EqV] at hL; simp [Guarded, setAll, bare, hL]; go_wp2_with fail; exact CalmPost.mk (by simp; rfl) rfl (DrewR.refl _)
    · intro w hR hL; obtain ⟨nd, rfl⟩ := hR; simp [Look, VAt, EqV] at hL; simp [Guarded, setAll, bare, hL]; go_wp2_with fail; exact CalmPost.mk (by simp; rfl) rfl (DrewR.refl _)
    · intro w hR hL; obtain ⟨nd, rfl⟩ := hR; simp [Look, VAt, EqV] at hL; simp [Guarded, setAll, bare, hL]; go_wp2_with fail; refine (rot_any a 5 (by decide) _).mono ?_; rintro ee ww ⟨rfl, rfl⟩; go_wp2_with fail; exact CalmPost.mk (by simp; rfl) rfl (DrewR.refl _)
    · intro w hR hL; obtain ⟨nd, rfl⟩ := hR; simp [Look, VAt, EqV] at hL; simp [Guarded, setAll, bare, hL]; go_wp2_with fail; exact CalmPost.mk (by simp; rfl) rfl (DrewR.refl _)
    · intro w hR hL; obtain ⟨nd, rfl⟩ := hR; simp [Look, VAt, EqV] at hL; simp [Guarded, setAll, bare, hL]; go_wp2_with fail; exact CalmPost.mk (by simp; rfl) rfl (DrewR.refl _)
    · intro w hR hL; obtain ⟨nd, rfl⟩ := hR; simp [Look, VAt, EqV] at hL; simp [Guarded, setAll, bare, hL]; go_wp2_with fail; exact CalmPost.mk (by simp; rfl) rfl (DrewR.refl _)
    · intro w hR hL; obtain ⟨nd, rfl⟩ := hR; simp [Look, VAt, EqV] at hL; simp [Guarded, setAll, bare, hL]; go_wp2_with fail; exact CalmPost.mk (by simp; rfl) rfl (DrewR.refl _)
    · intro w hR hL; obtain ⟨nd, rfl⟩ := hR; simp [Look, VAt, EqV] at hL; simp [Guarded, setAll, bare, hL]; go_wp2_with fail; exact CalmPost.mk (by simp; rfl) rfl (DrewR.refl _)
    · intro w hR hL; obtain ⟨nd, rfl⟩ := hR; simp [Look, VAt, EqV] at hL; simp [Guarded, setAll, bare, hL]; go_wp2_with fail; exact CalmPost.mk (by simp; rfl) rfl (DrewR.refl _)
    · intro w hR hL; obtain ⟨nd, rfl⟩ := hR; simp [Look, VAt, EqV] at hL; simp [Guarded, setAll, bare, hL]; go_wp2_with fail; exact CalmPost.mk (by simp; rfl) rfl (DrewR.refl _)
    · intro w hR hL; obtain ⟨nd, rfl⟩ := hR; simp [Look, VAt, EqV] at hL; simp [Guarded, setAll, bare, hL]; go_wp2_with fail; refine (mix_any t b c d _).mono ?_; rintro ee ww ⟨rfl, rfl⟩; go_wp2_with fail; exact CalmPost.mk (by simp; rfl) rfl (DrewR.refl _)
    · intro w hR hL; obtain ⟨nd, rfl⟩ := hR; simp [Look, VAt, EqV] at hL; simp [Guarded, setAll, bare, hL]; go_wp2_with fail; exact CalmPost.mk (by simp; rfl) rfl (DrewR.refl _)
    · intro w hR hL; obtain ⟨nd, rfl⟩ := hR; simp [Look, VAt, EqV] at hL; simp [Guarded, setAll, bare, hL]; go_wp2_with fail; exact CalmPost.mk (by simp; rfl) rfl (DrewR.refl _)
    · intro w hR hL; obtain ⟨nd, rfl⟩ := hR; simp [Look, VAt, EqV] at hL; simp [Guarded, setAll, bare, hL]; go_wp2_with fail; exact CalmPost.mk (by simp; rfl) rfl (DrewR.refl _)
    · intro w hR hL; obtain ⟨nd, rfl⟩ := hR; simp [Look, VAt, EqV] at hL; simp [Guarded, setAll, bare, hL]; go_wp2_with fail; exact CalmPost.mk (by simp; rfl) rfl (DrewR.refl _)
    · intro w hR hL; obtain ⟨nd, rfl⟩ := hR; simp [Look, VAt, EqV] at hL; simp [Guarded, setAll, bare, hL]; go_wp2_with fail; exact CalmPost.mk (by simp; rfl) rfl (DrewR.refl _)
    · intro w hR hL; obtain ⟨nd, rfl⟩ := hR; simp [Look, VAt, EqV] at hL; simp [Guarded, setAll, bare, hL]; go_wp2_with fail; exact CalmPost.mk (by simp; rfl) rfl (DrewR.refl _)
    · intro w hR hL; obtain ⟨nd, rfl⟩ := hR; simp [Look, VAt, EqV] at hL; simp [Guarded, setAll, bare, hL]; go_wp2_with fail; exact CalmPost.mk (by simp; rfl) rfl (DrewR.refl _)
  case pcalmDone =>
    intro vs w6 hR hL; obtain ⟨nd, rfl⟩ := hR; simp [Look, VAt, EqV] at hL; simp [setAll, hL]; clear hL
    go_wp2_with fail
    refine wp_region_calm DrewR 11 ([] :: [] :: [(26, 1)] :: [] :: [(28, 3)] :: [(29, 4)] :: [] :: [(31, 6)] :: [] :: [(33, 8)] :: [(25, 0), (27, 2), (30, 5), (32, 7), (34, 9)] :: [])
      ((25, 0) :: (26, 1) :: (27, 2) :: (28, 3) :: (29, 4) :: (30, 5) :: (31, 6) :: (32, 7) :: (33, 8) :: (34, 9) :: (35, 10) :: [])
      (EqV ?qce0 :: EqV ?qce1 :: EqV ?qce2 :: EqV ?qce3 :: EqV ?qce4 :: EqV ?qce5 :: EqV ?qce6 :: EqV ?qce7 :: EqV ?qce8 :: EqV ?qce9 :: EqV ?qce10 :: []) hm (by kernel_rfl) DrewR.refl DrewR.trans DrewR.drew
      (MonoL.at (MonoL.eq _ (MonoL.eq _ (MonoL.eq _ (MonoL.eq _ (MonoL.eq _ (MonoL.eq _ (MonoL.eq _ (MonoL.eq _ (MonoL.eq _ (MonoL.eq _ (MonoL.eq _ (MonoL.nil))))))))))))) ?qcalmOps ?qcalmDone
    case qcalmOps =>
      intro vs
      refine (CalmOps.cons ?_ (CalmOps.cons ?_ (CalmOps.cons ?_ (CalmOps.cons ?_ (CalmOps.cons ?_ (CalmOps.cons ?_ (CalmOps.cons ?_ (CalmOps.cons ?_ (CalmOps.cons ?_ (CalmOps.cons ?_ (CalmOps.cons ?_ trivial)))))))))))
      · intro w hR hL; obtain ⟨nd, rfl⟩ := hR; simp [Look, VAt, EqV] at hL; simp [Guarded, setAll, bare, hL]; go_wp2_with fail; exact CalmPost.mk (by simp; rfl) rfl (DrewR.refl _)
      · intro w hR hL; obtain ⟨nd, rfl⟩ := hR; simp [Look, VAt, EqV] at hL; simp [Guarded, setAll, bare, hL]; go_wp2_with fail; exact CalmPost.mk (by simp; rfl) rfl (DrewR.refl _)
      · intro w hR hL; obtain ⟨nd, rfl⟩ := hR; simp [Look, VAt, EqV] at hL; simp [Guarded, setAll, bare, hL]; go_wp2_with fail; exact CalmPost.mk (by simp; rfl) rfl (DrewR.refl _)
      · intro w hR hL; obtain ⟨nd, rfl⟩ := hR; simp [Look, VAt, EqV] at hL; simp [Guarded, setAll, bare, hL]; go_wp2_with fail; exact CalmPost.mk (by simp; rfl) rfl (DrewR.refl _)
      · intro w hR hL; obtain ⟨nd, rfl⟩ := hR; simp [Look, VAt, EqV] at hL; simp [Guarded, setAll, bare, hL]; go_wp2_with fail; exact CalmPost.mk (by simp; rfl) rfl (DrewR.refl _)
      · intro w hR hL; obtain ⟨nd, rfl⟩ := hR; simp [Look, VAt, EqV] at hL; simp [Guarded, setAll, bare, hL]; go_wp2_with fail; refine (rot_any b 30 (by decide) _).mono ?_; rintro ee ww ⟨rfl, rfl⟩; go_wp2_with fail; exact CalmPost.mk (by simp; rfl) rfl (DrewR.refl _)
      · intro w hR hL; obtain ⟨nd, rfl⟩ := hR; simp [Look, VAt, EqV] at hL; simp [Guarded, setAll, bare, hL]; go_wp2_with fail; exact CalmPost.mk (by simp; rfl) rfl (DrewR.refl _)
      · intro w hR hL; obtain ⟨nd, rfl⟩ := hR; simp [Look, VAt, EqV] at hL; simp [Guarded, setAll, bare, hL]; go_wp2_with fail; exact CalmPost.mk (by simp; rfl) rfl (DrewR.refl _)
      · intro w hR hL; obtain ⟨nd, rfl⟩ := hR; simp [Look, VAt, EqV] at hL; simp [Guarded, setAll, bare, hL]; go_wp2_with fail; exact CalmPost.mk (by simp; rfl) rfl (DrewR.refl _)
      · intro w hR hL; obtain ⟨nd, rfl⟩ := hR; simp [Look, VAt, EqV] at hL; simp [Guarded, setAll, bare, hL]; go_wp2_with fail; exact CalmPost.mk (by simp; rfl) rfl (DrewR.refl _)
      · intro w hR hL; obtain ⟨nd, rfl⟩ := hR; simp [Look, VAt, EqV] at hL; simp [Guarded, setAll, bare, hL]; go_wp2_with fail; exact CalmPost.mk (by simp; rfl) rfl (DrewR.refl _)

    case qcalmDone =>
      intro vs w6 hR hL; obtain ⟨nd, rfl⟩ := hR; simp [Look, VAt, EqV] at hL; simp [setAll, hL]; clear hL
      go_wp2_with fail
      refine bodyPost_ret (v := chV y) ?_ rfl ⟨rfl, ?_⟩
      · rw [HS.out]
        simp [results, Try.results19, go_sem]
        rfl
      · unfold Ext; repeat (first | (with_reducible refine Below.setCell ?_ (by simp) _) | (with_reducible refine below_drewN ?_ _) | (with_reducible refine Below.drew ?_) | (with_reducible refine Below.alloc ?_ (by simp) _) | with_reducible exact Below.refl _ _)

end Sha1
end Go.Proofs.Ythkckmohhbddcaa
