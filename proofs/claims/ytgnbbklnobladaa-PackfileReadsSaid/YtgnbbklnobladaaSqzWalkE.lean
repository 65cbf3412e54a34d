/- The walks of squeeze's run and at. No condition. -/
import Derived.Test.YtgnbbklnobladaaSqzWalkD
namespace Go.Proofs.Ytgnbbklnobladaa
open Go.RowKit
namespace Sqz
open Delta (TextE infoB wraps_i64)
set_option linter.unusedSimpArgs false
set_option linter.unusedVariables false
def RunE (s : List UInt8) (a b : Nat) (w : World) (e : Ending) (w1 : World) : Prop :=
  ∃ n : Nat, e = .returned (.int .i64 (n : Int)) ∧ n ≤ 131 ∧ b + n ≤ s.length ∧ (∀ k, k < n → s.getD (a + k) 0 = s.getD (b + k) 0) ∧ (n < 131 → b + n < s.length → s.getD (a + n) 0 ≠ s.getD (b + n) 0) ∧ Ext w w1
set_option maxRecDepth 100000 in
set_option maxHeartbeats 4000000 in
theorem run_any (s : List UInt8) (hs : s.length ≤ 1000000) (a b : Nat) (hab : a < b) (hb : b ≤ s.length) (w : World) : Calls Try.prog 39 #[.string (strOf s), .int .i64 (a : Int), .int .i64 (b : Int)] w (RunE s a b w) := by
  have hm : Try.prog.follows .mixedOrders = true := by kernel_rfl
  have hsz := strOf_size s
  go_enter Try.func39, Try.ntmps39
  go_wp2_with fail
  go_loopg [7] 131 (fun r nv wi => ∃ n : Nat, n + r = 131 ∧ nv = .int .i64 (n : Int) ∧ b + n ≤ s.length ∧ (∀ k, k < n → s.getD (a + k) 0 = s.getD (b + k) 0) ∧ Ext w wi)
  case atStart => exact ⟨0, rfl, rfl, hb, fun k hk => by omega, Ext.refl _⟩
  case round =>
    obtain ⟨n, hn, rfl, hbn, hal, hE⟩ := hrel
    have KE := Kept.mk hE
    have Kal := Kept.mk hal
    clear hE hal
    by_cases h1 : b + n < s.length
    · have h1I : (b : Int) + (n : Int) < (s.length : Int) := by omega
      by_cases h2 : n < 131
      · have h2I : (n : Int) < 131 := by omega
        have y1 := get_nat s (a + n) (by omega)
        have y2 := get_nat s (b + n) (by omega)
        have n1 : a + n < (strOf s).size := by omega
        have n2 : b + n < (strOf s).size := by omega
        have j1 : (a : Int) + (n : Int) < (s.length : Int) := by omega
        have hx1 : (s.getD (a + n) 0).toNat < 256 := (s.getD (a + n) 0).toNat_lt
        have hx2 : (s.getD (b + n) 0).toNat < 256 := (s.getD (b + n) 0).toNat_lt
        obtain ⟨x1, e1⟩ : ∃ x1, x1 = (s.getD (a + n) 0).toNat := ⟨_, rfl⟩
        obtain ⟨x2, e2⟩ : ∃ x2, x2 = (s.getD (b + n) 0).toNat := ⟨_, rfl⟩
        rw [← e1] at y1 hx1
        rw [← e2] at y2 hx2
        have Ke1 := Kept.mk e1
        have Ke2 := Kept.mk e2
        clear e1 e2
        by_cases h3 : x1 = x2
        · have q : ((x1 : Int) == (x2 : Int)) = true := by rw [beq_iff_eq]; omega
          have K3 := Kept.mk h3
          clear h3
          go_wp2_with fail
          refine wp_region_calm DrewR 23 ([] :: [] :: [(8, 0), (9, 1)] :: [] :: [(11, 3)] :: [(10, 2), (12, 4)] :: [(13, 5)] :: [(14, 6)] :: [(15, 7), (14, 6)] :: [(14, 6), (16, 8)] :: [(17, 9)] :: [(18, 10)] :: [(18, 10)] :: [(18, 10)] :: [(20, 12), (21, 13), (18, 10)] :: [(19, 11), (22, 14), (18, 10)] :: [(18, 10)] :: [(18, 10)] :: [(18, 10)] :: [(25, 17), (26, 18), (18, 10)] :: [(24, 16), (27, 19), (18, 10)] :: [(23, 15), (28, 20), (18, 10)] :: [(18, 10), (29, 21)] :: [])
            ((8, 0) :: (9, 1) :: (10, 2) :: (11, 3) :: (12, 4) :: (13, 5) :: (14, 6) :: (15, 7) :: (16, 8) :: (17, 9) :: (18, 10) :: (19, 11) :: (20, 12) :: (21, 13) :: (22, 14) :: (23, 15) :: (24, 16) :: (25, 17) :: (26, 18) :: (27, 19) :: (28, 20) :: (29, 21) :: (30, 22) :: [])
            (EqV ?pcce0 :: EqV ?pcce1 :: EqV ?pcce2 :: EqV ?pcce3 :: EqV ?pcce4 :: EqV (.bool true) :: EqV (.bool true) :: EqV ?pcce7 :: EqV (.bool true) :: EqV (.bool true) :: EqV (.bool true) :: EqV ?pcce11 :: EqV ?pcce12 :: EqV ?pcce13 :: EqV ?pcce14 :: EqV ?pcce15 :: EqV ?pcce16 :: EqV ?pcce17 :: EqV ?pcce18 :: EqV ?pcce19 :: EqV ?pcce20 :: EqV (.bool true) :: EqV (.bool true) :: []) hm (by kernel_rfl) DrewR.refl DrewR.trans DrewR.drew
            (MonoL.at (MonoL.eq _ (MonoL.eq _ (MonoL.eq _ (MonoL.eq _ (MonoL.eq _ (MonoL.eq _ (MonoL.eq _ (MonoL.eq _ (MonoL.eq _ (MonoL.eq _ (MonoL.eq _ (MonoL.eq _ (MonoL.eq _ (MonoL.eq _ (MonoL.eq _ (MonoL.eq _ (MonoL.eq _ (MonoL.eq _ (MonoL.eq _ (MonoL.eq _ (MonoL.eq _ (MonoL.eq _ (MonoL.eq _ (MonoL.nil))))))))))))))))))))))))) ?pccalmOps ?pccalmDone
          case pccalmOps =>
            intro vs
            refine (CalmOps.cons ?_ (CalmOps.cons ?_ (CalmOps.cons ?_ (CalmOps.cons ?_ (CalmOps.cons ?_ (CalmOps.cons ?_ (CalmOps.cons ?_ (CalmOps.cons ?_ (CalmOps.cons ?_ (CalmOps.cons ?_ (CalmOps.cons ?_ (CalmOps.cons ?_ (CalmOps.cons ?_ (CalmOps.cons ?_ (CalmOps.cons ?_ (CalmOps.cons ?_ (CalmOps.cons ?_ (CalmOps.cons ?_ (CalmOps.cons ?_ (CalmOps.cons ?_ (CalmOps.cons ?_ (CalmOps.cons ?_ (CalmOps.cons ?_ trivial)))))))))))))))))))))))
            · intro w hR hL; obtain ⟨nd, rfl⟩ := hR; simp [Look, VAt, EqV] at hL; simp [Guarded, setAll, bare, hL]; go_wp2_with fail; exact CalmPost.mk (by first | (simp; done) | (simp; rfl) | (simp; omega) | rfl) rfl (DrewR.refl _)
            · intro w hR hL; obtain ⟨nd, rfl⟩ := hR; simp [Look, VAt, EqV] at hL; simp [Guarded, setAll, bare, hL]; go_wp2_with fail; exact CalmPost.mk (by first | (simp; done) | (simp; rfl) | (simp; omega) | rfl) rfl (DrewR.refl _)
            · intro w hR hL; obtain ⟨nd, rfl⟩ := hR; simp [Look, VAt, EqV] at hL; simp [Guarded, setAll, bare, hL]; go_wp2_with fail; exact CalmPost.mk (by first | (simp; done) | (simp; rfl) | (simp; omega) | rfl) rfl (DrewR.refl _)
            · intro w hR hL; obtain ⟨nd, rfl⟩ := hR; simp [Look, VAt, EqV] at hL; simp [Guarded, setAll, bare, hL]; go_wp2_with fail; exact CalmPost.mk (by first | (simp; done) | (simp; rfl) | (simp; omega) | rfl) rfl (DrewR.refl _)
            · intro w hR hL; obtain ⟨nd, rfl⟩ := hR; simp [Look, VAt, EqV] at hL; simp [Guarded, setAll, bare, hL]; go_wp2_with fail; exact CalmPost.mk (by first | (simp; done) | (simp; rfl) | (simp; omega) | rfl) rfl (DrewR.refl _)
            · intro w hR hL; obtain ⟨nd, rfl⟩ := hR; simp [Look, VAt, EqV] at hL; simp [Guarded, setAll, bare, hL]; go_wp2_with fail; exact CalmPost.mk (by first | (simp; done) | (simp; rfl) | (simp; omega) | rfl) rfl (DrewR.refl _)
            · intro w hR hL; obtain ⟨nd, rfl⟩ := hR; simp [Look, VAt, EqV] at hL; simp [Guarded, setAll, bare, hL]; go_wp2_with fail; exact CalmPost.mk (by first | (simp; done) | (simp; rfl) | (simp; omega) | rfl) rfl (DrewR.refl _)
            · intro w hR hL; obtain ⟨nd, rfl⟩ := hR; simp [Look, VAt, EqV] at hL; simp [Guarded, setAll, bare, hL]; go_wp2_with fail; exact CalmPost.mk (by first | (simp; done) | (simp; rfl) | (simp; omega) | rfl) rfl (DrewR.refl _)
            · intro w hR hL; obtain ⟨nd, rfl⟩ := hR; simp [Look, VAt, EqV] at hL; simp [Guarded, setAll, bare, hL]; go_wp2_with fail; exact CalmPost.mk (by first | (simp; done) | (simp; rfl) | (simp; omega) | rfl) rfl (DrewR.refl _)
            · intro w hR hL; obtain ⟨nd, rfl⟩ := hR; simp [Look, VAt, EqV] at hL; simp [Guarded, setAll, bare, hL]; go_wp2_with fail; exact CalmPost.mk (by first | (simp; done) | (simp; rfl) | (simp; omega) | rfl) rfl (DrewR.refl _)
            · intro w hR hL; obtain ⟨nd, rfl⟩ := hR; simp [Look, VAt, EqV] at hL; simp [Guarded, setAll, bare, hL]; go_wp2_with fail; exact CalmPost.mk (by first | (simp; done) | (simp; rfl) | (simp; omega) | rfl) rfl (DrewR.refl _)
            · intro w hR hL; obtain ⟨nd, rfl⟩ := hR; simp [Look, VAt, EqV] at hL; simp [Guarded, setAll, bare, hL]; go_wp2_with fail; exact CalmPost.mk (by first | (simp; done) | (simp; rfl) | (simp; omega) | rfl) rfl (DrewR.refl _)
            · intro w hR hL; obtain ⟨nd, rfl⟩ := hR; simp [Look, VAt, EqV] at hL; simp [Guarded, setAll, bare, hL]; go_wp2_with fail; exact CalmPost.mk (by first | (simp; done) | (simp; rfl) | (simp; omega) | rfl) rfl (DrewR.refl _)
            · intro w hR hL; obtain ⟨nd, rfl⟩ := hR; simp [Look, VAt, EqV] at hL; simp [Guarded, setAll, bare, hL]; go_wp2_with fail; exact CalmPost.mk (by first | (simp; done) | (simp; rfl) | (simp; omega) | rfl) rfl (DrewR.refl _)
            · intro w hR hL; obtain ⟨nd, rfl⟩ := hR; simp [Look, VAt, EqV] at hL; simp [Guarded, setAll, bare, hL]; go_wp2_with fail; exact CalmPost.mk (by first | (simp; done) | (simp; rfl) | (simp; omega) | rfl) rfl (DrewR.refl _)
            · intro w hR hL; obtain ⟨nd, rfl⟩ := hR; simp [Look, VAt, EqV] at hL; simp [Guarded, setAll, bare, hL]; go_wp2_with fail; exact CalmPost.mk (by first | (simp; done) | (simp; rfl) | (simp; omega) | rfl) rfl (DrewR.refl _)
            · intro w hR hL; obtain ⟨nd, rfl⟩ := hR; simp [Look, VAt, EqV] at hL; simp [Guarded, setAll, bare, hL]; go_wp2_with fail; exact CalmPost.mk (by first | (simp; done) | (simp; rfl) | (simp; omega) | rfl) rfl (DrewR.refl _)
            · intro w hR hL; obtain ⟨nd, rfl⟩ := hR; simp [Look, VAt, EqV] at hL; simp [Guarded, setAll, bare, hL]; go_wp2_with fail; exact CalmPost.mk (by first | (simp; done) | (simp; rfl) | (simp; omega) | rfl) rfl (DrewR.refl _)
            · intro w hR hL; obtain ⟨nd, rfl⟩ := hR; simp [Look, VAt, EqV] at hL; simp [Guarded, setAll, bare, hL]; go_wp2_with fail; exact CalmPost.mk (by first | (simp; done) | (simp; rfl) | (simp; omega) | rfl) rfl (DrewR.refl _)
            · intro w hR hL; obtain ⟨nd, rfl⟩ := hR; simp [Look, VAt, EqV] at hL; simp [Guarded, setAll, bare, hL]; go_wp2_with fail; exact CalmPost.mk (by first | (simp; done) | (simp; rfl) | (simp; omega) | rfl) rfl (DrewR.refl _)
            · intro w hR hL; obtain ⟨nd, rfl⟩ := hR; simp [Look, VAt, EqV] at hL; simp [Guarded, setAll, bare, hL]; go_wp2_with fail; exact CalmPost.mk (by first | (simp; done) | (simp; rfl) | (simp; omega) | rfl) rfl (DrewR.refl _)
            · intro w hR hL; obtain ⟨nd, rfl⟩ := hR; simp [Look, VAt, EqV] at hL; simp [Guarded, setAll, bare, hL]; go_wp2_with fail; exact CalmPost.mk (by first | (simp; done) | (simp; rfl) | (simp; omega) | rfl) rfl (DrewR.refl _)
            · intro w hR hL; obtain ⟨nd, rfl⟩ := hR; simp [Look, VAt, EqV] at hL; simp [Guarded, setAll, bare, hL]; go_wp2_with fail; exact CalmPost.mk (by first | (simp; done) | (simp; rfl) | (simp; omega) | rfl) rfl (DrewR.refl _)
          case pccalmDone =>
            intro vs w6 hR hL; obtain ⟨nd, rfl⟩ := hR; simp [Look, VAt, EqV] at hL; simp [setAll, hL]; clear hL
            have KE := Kept.mk (KE.out.trans (Ext.drewN wr nd))
            generalize wr.drewN nd = wq at KE ⊢
            clear y1 y2
            go_wp2_with fail
            go_roundg (gk - 1)
            case measure => omega
            case rel => exact ⟨n + 1, by omega, rfl, by omega, fun k hk => by
              rcases Nat.lt_or_ge k n with h | h
              · exact Kal.out k h
              · have he : k = n := by omega
                subst he
                exact UInt8.toNat_inj.1 (by rw [← Ke1.out, ← Ke2.out]; exact K3.out), KE.out⟩
        · have q : ((x1 : Int) == (x2 : Int)) = false := by rw [beq_eq_false_iff_ne]; omega
          have K3 := Kept.mk h3
          clear h3
          go_wp2_with fail
          refine wp_region_calm DrewR 23 ([] :: [] :: [(8, 0), (9, 1)] :: [] :: [(11, 3)] :: [(10, 2), (12, 4)] :: [(13, 5)] :: [(14, 6)] :: [(15, 7), (14, 6)] :: [(14, 6), (16, 8)] :: [(17, 9)] :: [(18, 10)] :: [(18, 10)] :: [(18, 10)] :: [(20, 12), (21, 13), (18, 10)] :: [(19, 11), (22, 14), (18, 10)] :: [(18, 10)] :: [(18, 10)] :: [(18, 10)] :: [(25, 17), (26, 18), (18, 10)] :: [(24, 16), (27, 19), (18, 10)] :: [(23, 15), (28, 20), (18, 10)] :: [(18, 10), (29, 21)] :: [])
            ((8, 0) :: (9, 1) :: (10, 2) :: (11, 3) :: (12, 4) :: (13, 5) :: (14, 6) :: (15, 7) :: (16, 8) :: (17, 9) :: (18, 10) :: (19, 11) :: (20, 12) :: (21, 13) :: (22, 14) :: (23, 15) :: (24, 16) :: (25, 17) :: (26, 18) :: (27, 19) :: (28, 20) :: (29, 21) :: (30, 22) :: [])
            (EqV ?pdce0 :: EqV ?pdce1 :: EqV ?pdce2 :: EqV ?pdce3 :: EqV ?pdce4 :: EqV (.bool true) :: EqV (.bool true) :: EqV ?pdce7 :: EqV (.bool true) :: EqV (.bool true) :: EqV (.bool true) :: EqV ?pdce11 :: EqV ?pdce12 :: EqV ?pdce13 :: EqV ?pdce14 :: EqV ?pdce15 :: EqV ?pdce16 :: EqV ?pdce17 :: EqV ?pdce18 :: EqV ?pdce19 :: EqV ?pdce20 :: EqV (.bool false) :: EqV (.bool false) :: []) hm (by kernel_rfl) DrewR.refl DrewR.trans DrewR.drew
            (MonoL.at (MonoL.eq _ (MonoL.eq _ (MonoL.eq _ (MonoL.eq _ (MonoL.eq _ (MonoL.eq _ (MonoL.eq _ (MonoL.eq _ (MonoL.eq _ (MonoL.eq _ (MonoL.eq _ (MonoL.eq _ (MonoL.eq _ (MonoL.eq _ (MonoL.eq _ (MonoL.eq _ (MonoL.eq _ (MonoL.eq _ (MonoL.eq _ (MonoL.eq _ (MonoL.eq _ (MonoL.eq _ (MonoL.eq _ (MonoL.nil))))))))))))))))))))))))) ?pdcalmOps ?pdcalmDone
          case pdcalmOps =>
            intro vs
            refine (CalmOps.cons ?_ (CalmOps.cons ?_ (CalmOps.cons ?_ (CalmOps.cons ?_ (CalmOps.cons ?_ (CalmOps.cons ?_ (CalmOps.cons ?_ (CalmOps.cons ?_ (CalmOps.cons ?_ (CalmOps.cons ?_ (CalmOps.cons ?_ (CalmOps.cons ?_ (CalmOps.cons ?_ (CalmOps.cons ?_ (CalmOps.cons ?_ (CalmOps.cons ?_ (CalmOps.cons ?_ (CalmOps.cons ?_ (CalmOps.cons ?_ (CalmOps.cons ?_ (CalmOps.cons ?_ (CalmOps.cons ?_ (CalmOps.cons ?_ trivial)))))))))))))))))))))))
            · intro w hR hL; obtain ⟨nd, rfl⟩ := hR; simp [Look, VAt, EqV] at hL; simp [Guarded, setAll, bare, hL]; go_wp2_with fail; exact CalmPost.mk (by first | (simp; done) | (simp; rfl) | (simp; omega) | rfl) rfl (DrewR.refl _)
            · intro w hR hL; obtain ⟨nd, rfl⟩ := hR; simp [Look, VAt, EqV] at hL; simp [Guarded, setAll, bare, hL]; go_wp2_with fail; exact CalmPost.mk (by first | (simp; done) | (simp; rfl) | (simp; omega) | rfl) rfl (DrewR.refl _)
            · intro w hR hL; obtain ⟨nd, rfl⟩ := hR; simp [Look, VAt, EqV] at hL; simp [Guarded, setAll, bare, hL]; go_wp2_with fail; exact CalmPost.mk (by first | (simp; done) | (simp; rfl) | (simp; omega) | rfl) rfl (DrewR.refl _)
            · intro w hR hL; obtain ⟨nd, rfl⟩ := hR; simp [Look, VAt, EqV] at hL; simp [Guarded, setAll, bare, hL]; go_wp2_with fail; exact CalmPost.mk (by first | (simp; done) | (simp; rfl) | (simp; omega) | rfl) rfl (DrewR.refl _)
            · intro w hR hL; obtain ⟨nd, rfl⟩ := hR; simp [Look, VAt, EqV] at hL; simp [Guarded, setAll, bare, hL]; go_wp2_with fail; exact CalmPost.mk (by first | (simp; done) | (simp; rfl) | (simp; omega) | rfl) rfl (DrewR.refl _)
            · intro w hR hL; obtain ⟨nd, rfl⟩ := hR; simp [Look, VAt, EqV] at hL; simp [Guarded, setAll, bare, hL]; go_wp2_with fail; exact CalmPost.mk (by first | (simp; done) | (simp; rfl) | (simp; omega) | rfl) rfl (DrewR.refl _)
            · intro w hR hL; obtain ⟨nd, rfl⟩ := hR; simp [Look, VAt, EqV] at hL; simp [Guarded, setAll, bare, hL]; go_wp2_with fail; exact CalmPost.mk (by first | (simp; done) | (simp; rfl) | (simp; omega) | rfl) rfl (DrewR.refl _)
            · intro w hR hL; obtain ⟨nd, rfl⟩ := hR; simp [Look, VAt, EqV] at hL; simp [Guarded, setAll, bare, hL]; go_wp2_with fail; exact CalmPost.mk (by first | (simp; done) | (simp; rfl) | (simp; omega) | rfl) rfl (DrewR.refl _)
            · intro w hR hL; obtain ⟨nd, rfl⟩ := hR; simp [Look, VAt, EqV] at hL; simp [Guarded, setAll, bare, hL]; go_wp2_with fail; exact CalmPost.mk (by first | (simp; done) | (simp; rfl) | (simp; omega) | rfl) rfl (DrewR.refl _)
            · intro w hR hL; obtain ⟨nd, rfl⟩ := hR; simp [Look, VAt, EqV] at hL; simp [Guarded, setAll, bare, hL]; go_wp2_with fail; exact CalmPost.mk (by first | (simp; done) | (simp; rfl) | (simp; omega) | rfl) rfl (DrewR.refl _)
            · intro w hR hL; obtain ⟨nd, rfl⟩ := hR; simp [Look, VAt, EqV] at hL; simp [Guarded, setAll, bare, hL]; go_wp2_with fail; exact CalmPost.mk (by first | (simp; done) | (simp; rfl) | (simp; omega) | rfl) rfl (DrewR.refl _)
            · intro w hR hL; obtain ⟨nd, rfl⟩ := hR; simp [Look, VAt, EqV] at hL; simp [Guarded, setAll, bare, hL]; go_wp2_with fail; exact CalmPost.mk (by first | (simp; done) | (simp; rfl) | (simp; omega) | rfl) rfl (DrewR.refl _)
            · intro w hR hL; obtain ⟨nd, rfl⟩ := hR; simp [Look, VAt, EqV] at hL; simp [Guarded, setAll, bare, hL]; go_wp2_with fail; exact CalmPost.mk (by first | (simp; done) | (simp; rfl) | (simp; omega) | rfl) rfl (DrewR.refl _)
            · intro w hR hL; obtain ⟨nd, rfl⟩ := hR; simp [Look, VAt, EqV] at hL; simp [Guarded, setAll, bare, hL]; go_wp2_with fail; exact CalmPost.mk (by first | (simp; done) | (simp; rfl) | (simp; omega) | rfl) rfl (DrewR.refl _)
            · intro w hR hL; obtain ⟨nd, rfl⟩ := hR; simp [Look, VAt, EqV] at hL; simp [Guarded, setAll, bare, hL]; go_wp2_with fail; exact CalmPost.mk (by first | (simp; done) | (simp; rfl) | (simp; omega) | rfl) rfl (DrewR.refl _)
            · intro w hR hL; obtain ⟨nd, rfl⟩ := hR; simp [Look, VAt, EqV] at hL; simp [Guarded, setAll, bare, hL]; go_wp2_with fail; exact CalmPost.mk (by first | (simp; done) | (simp; rfl) | (simp; omega) | rfl) rfl (DrewR.refl _)
            · intro w hR hL; obtain ⟨nd, rfl⟩ := hR; simp [Look, VAt, EqV] at hL; simp [Guarded, setAll, bare, hL]; go_wp2_with fail; exact CalmPost.mk (by first | (simp; done) | (simp; rfl) | (simp; omega) | rfl) rfl (DrewR.refl _)
            · intro w hR hL; obtain ⟨nd, rfl⟩ := hR; simp [Look, VAt, EqV] at hL; simp [Guarded, setAll, bare, hL]; go_wp2_with fail; exact CalmPost.mk (by first | (simp; done) | (simp; rfl) | (simp; omega) | rfl) rfl (DrewR.refl _)
            · intro w hR hL; obtain ⟨nd, rfl⟩ := hR; simp [Look, VAt, EqV] at hL; simp [Guarded, setAll, bare, hL]; go_wp2_with fail; exact CalmPost.mk (by first | (simp; done) | (simp; rfl) | (simp; omega) | rfl) rfl (DrewR.refl _)
            · intro w hR hL; obtain ⟨nd, rfl⟩ := hR; simp [Look, VAt, EqV] at hL; simp [Guarded, setAll, bare, hL]; go_wp2_with fail; exact CalmPost.mk (by first | (simp; done) | (simp; rfl) | (simp; omega) | rfl) rfl (DrewR.refl _)
            · intro w hR hL; obtain ⟨nd, rfl⟩ := hR; simp [Look, VAt, EqV] at hL; simp [Guarded, setAll, bare, hL]; go_wp2_with fail; exact CalmPost.mk (by first | (simp; done) | (simp; rfl) | (simp; omega) | rfl) rfl (DrewR.refl _)
            · intro w hR hL; obtain ⟨nd, rfl⟩ := hR; simp [Look, VAt, EqV] at hL; simp [Guarded, setAll, bare, hL]; go_wp2_with fail; exact CalmPost.mk (by first | (simp; done) | (simp; rfl) | (simp; omega) | rfl) rfl (DrewR.refl _)
            · intro w hR hL; obtain ⟨nd, rfl⟩ := hR; simp [Look, VAt, EqV] at hL; simp [Guarded, setAll, bare, hL]; go_wp2_with fail; exact CalmPost.mk (by first | (simp; done) | (simp; rfl) | (simp; omega) | rfl) rfl (DrewR.refl _)
          case pdcalmDone =>
            intro vs w6 hR hL; obtain ⟨nd, rfl⟩ := hR; simp [Look, VAt, EqV] at hL; simp [setAll, hL]; clear hL
            have KE := Kept.mk (KE.out.trans (Ext.drewN wr nd))
            generalize wr.drewN nd = wq at KE ⊢
            clear y1 y2
            go_wp2_with fail
            go_ret
            exact ⟨n, rfl, by omega, hbn, Kal.out, fun _ _ he => K3.out (by rw [Ke1.out, Ke2.out, he]), KE.out⟩
      · have h2I : ¬ (n : Int) < 131 := by omega
        go_wp2_with fail
        refine wp_region_calm DrewR 23 ([] :: [] :: [(8, 0), (9, 1)] :: [] :: [(11, 3)] :: [(10, 2), (12, 4)] :: [(13, 5)] :: [(14, 6)] :: [(15, 7), (14, 6)] :: [(14, 6), (16, 8)] :: [(17, 9)] :: [(18, 10)] :: [(18, 10)] :: [(18, 10)] :: [(20, 12), (21, 13), (18, 10)] :: [(19, 11), (22, 14), (18, 10)] :: [(18, 10)] :: [(18, 10)] :: [(18, 10)] :: [(25, 17), (26, 18), (18, 10)] :: [(24, 16), (27, 19), (18, 10)] :: [(23, 15), (28, 20), (18, 10)] :: [(18, 10), (29, 21)] :: [])
          ((8, 0) :: (9, 1) :: (10, 2) :: (11, 3) :: (12, 4) :: (13, 5) :: (14, 6) :: (15, 7) :: (16, 8) :: (17, 9) :: (18, 10) :: (19, 11) :: (20, 12) :: (21, 13) :: (22, 14) :: (23, 15) :: (24, 16) :: (25, 17) :: (26, 18) :: (27, 19) :: (28, 20) :: (29, 21) :: (30, 22) :: [])
          (EqV ?pbce0 :: EqV ?pbce1 :: EqV ?pbce2 :: EqV ?pbce3 :: EqV ?pbce4 :: EqV (.bool true) :: EqV (.bool true) :: EqV ?pbce7 :: EqV (.bool false) :: EqV (.bool false) :: EqV (.bool false) :: EqV undef :: EqV undef :: EqV undef :: EqV undef :: EqV undef :: EqV undef :: EqV undef :: EqV undef :: EqV undef :: EqV undef :: EqV undef :: EqV (.bool false) :: []) hm (by kernel_rfl) DrewR.refl DrewR.trans DrewR.drew
          (MonoL.at (MonoL.eq _ (MonoL.eq _ (MonoL.eq _ (MonoL.eq _ (MonoL.eq _ (MonoL.eq _ (MonoL.eq _ (MonoL.eq _ (MonoL.eq _ (MonoL.eq _ (MonoL.eq _ (MonoL.eq _ (MonoL.eq _ (MonoL.eq _ (MonoL.eq _ (MonoL.eq _ (MonoL.eq _ (MonoL.eq _ (MonoL.eq _ (MonoL.eq _ (MonoL.eq _ (MonoL.eq _ (MonoL.eq _ (MonoL.nil))))))))))))))))))))))))) ?pbcalmOps ?pbcalmDone
        case pbcalmOps =>
          intro vs
          refine (CalmOps.cons ?_ (CalmOps.cons ?_ (CalmOps.cons ?_ (CalmOps.cons ?_ (CalmOps.cons ?_ (CalmOps.cons ?_ (CalmOps.cons ?_ (CalmOps.cons ?_ (CalmOps.cons ?_ (CalmOps.cons ?_ (CalmOps.cons ?_ (CalmOps.cons ?_ (CalmOps.cons ?_ (CalmOps.cons ?_ (CalmOps.cons ?_ (CalmOps.cons ?_ (CalmOps.cons ?_ (CalmOps.cons ?_ (CalmOps.cons ?_ (CalmOps.cons ?_ (CalmOps.cons ?_ (CalmOps.cons ?_ (CalmOps.cons ?_ trivial)))))))))))))))))))))))
          · intro w hR hL; obtain ⟨nd, rfl⟩ := hR; simp [Look, VAt, EqV] at hL; simp [Guarded, setAll, bare, hL]; go_wp2_with fail; exact CalmPost.mk (by first | (simp; done) | (simp; rfl) | (simp; omega) | rfl) rfl (DrewR.refl _)
          · intro w hR hL; obtain ⟨nd, rfl⟩ := hR; simp [Look, VAt, EqV] at hL; simp [Guarded, setAll, bare, hL]; go_wp2_with fail; exact CalmPost.mk (by first | (simp; done) | (simp; rfl) | (simp; omega) | rfl) rfl (DrewR.refl _)
          · intro w hR hL; obtain ⟨nd, rfl⟩ := hR; simp [Look, VAt, EqV] at hL; simp [Guarded, setAll, bare, hL]; go_wp2_with fail; exact CalmPost.mk (by first | (simp; done) | (simp; rfl) | (simp; omega) | rfl) rfl (DrewR.refl _)
          · intro w hR hL; obtain ⟨nd, rfl⟩ := hR; simp [Look, VAt, EqV] at hL; simp [Guarded, setAll, bare, hL]; go_wp2_with fail; exact CalmPost.mk (by first | (simp; done) | (simp; rfl) | (simp; omega) | rfl) rfl (DrewR.refl _)
          · intro w hR hL; obtain ⟨nd, rfl⟩ := hR; simp [Look, VAt, EqV] at hL; simp [Guarded, setAll, bare, hL]; go_wp2_with fail; exact CalmPost.mk (by first | (simp; done) | (simp; rfl) | (simp; omega) | rfl) rfl (DrewR.refl _)
          · intro w hR hL; obtain ⟨nd, rfl⟩ := hR; simp [Look, VAt, EqV] at hL; simp [Guarded, setAll, bare, hL]; go_wp2_with fail; exact CalmPost.mk (by first | (simp; done) | (simp; rfl) | (simp; omega) | rfl) rfl (DrewR.refl _)
          · intro w hR hL; obtain ⟨nd, rfl⟩ := hR; simp [Look, VAt, EqV] at hL; simp [Guarded, setAll, bare, hL]; go_wp2_with fail; exact CalmPost.mk (by first | (simp; done) | (simp; rfl) | (simp; omega) | rfl) rfl (DrewR.refl _)
          · intro w hR hL; obtain ⟨nd, rfl⟩ := hR; simp [Look, VAt, EqV] at hL; simp [Guarded, setAll, bare, hL]; go_wp2_with fail; exact CalmPost.mk (by first | (simp; done) | (simp; rfl) | (simp; omega) | rfl) rfl (DrewR.refl _)
          · intro w hR hL; obtain ⟨nd, rfl⟩ := hR; simp [Look, VAt, EqV] at hL; simp [Guarded, setAll, bare, hL]; go_wp2_with fail; exact CalmPost.mk (by first | (simp; done) | (simp; rfl) | (simp; omega) | rfl) rfl (DrewR.refl _)
          · intro w hR hL; obtain ⟨nd, rfl⟩ := hR; simp [Look, VAt, EqV] at hL; simp [Guarded, setAll, bare, hL]; go_wp2_with fail; exact CalmPost.mk (by first | (simp; done) | (simp; rfl) | (simp; omega) | rfl) rfl (DrewR.refl _)
          · intro w hR hL; obtain ⟨nd, rfl⟩ := hR; simp [Look, VAt, EqV] at hL; simp [Guarded, setAll, bare, hL]; go_wp2_with fail; exact CalmPost.mk (by first | (simp; done) | (simp; rfl) | (simp; omega) | rfl) rfl (DrewR.refl _)
          · intro w6 hR hL; obtain ⟨nd, rfl⟩ := hR; simp [Look, VAt, EqV] at hL; simp [Guarded, bare, hL, VAt, EqV]
          · intro w6 hR hL; obtain ⟨nd, rfl⟩ := hR; simp [Look, VAt, EqV] at hL; simp [Guarded, bare, hL, VAt, EqV]
          · intro w6 hR hL; obtain ⟨nd, rfl⟩ := hR; simp [Look, VAt, EqV] at hL; simp [Guarded, bare, hL, VAt, EqV]
          · intro w6 hR hL; obtain ⟨nd, rfl⟩ := hR; simp [Look, VAt, EqV] at hL; simp [Guarded, bare, hL, VAt, EqV]
          · intro w6 hR hL; obtain ⟨nd, rfl⟩ := hR; simp [Look, VAt, EqV] at hL; simp [Guarded, bare, hL, VAt, EqV]
          · intro w6 hR hL; obtain ⟨nd, rfl⟩ := hR; simp [Look, VAt, EqV] at hL; simp [Guarded, bare, hL, VAt, EqV]
          · intro w6 hR hL; obtain ⟨nd, rfl⟩ := hR; simp [Look, VAt, EqV] at hL; simp [Guarded, bare, hL, VAt, EqV]
          · intro w6 hR hL; obtain ⟨nd, rfl⟩ := hR; simp [Look, VAt, EqV] at hL; simp [Guarded, bare, hL, VAt, EqV]
          · intro w6 hR hL; obtain ⟨nd, rfl⟩ := hR; simp [Look, VAt, EqV] at hL; simp [Guarded, bare, hL, VAt, EqV]
          · intro w6 hR hL; obtain ⟨nd, rfl⟩ := hR; simp [Look, VAt, EqV] at hL; simp [Guarded, bare, hL, VAt, EqV]
          · intro w6 hR hL; obtain ⟨nd, rfl⟩ := hR; simp [Look, VAt, EqV] at hL; simp [Guarded, bare, hL, VAt, EqV]
          · intro w hR hL; obtain ⟨nd, rfl⟩ := hR; simp [Look, VAt, EqV] at hL; simp [Guarded, setAll, bare, hL]; go_wp2_with fail; exact CalmPost.mk (by first | (simp; done) | (simp; rfl) | (simp; omega) | rfl) rfl (DrewR.refl _)
        case pbcalmDone =>
          intro vs w6 hR hL; obtain ⟨nd, rfl⟩ := hR; simp [Look, VAt, EqV] at hL; simp [setAll, hL]; clear hL
          have KE := Kept.mk (KE.out.trans (Ext.drewN wr nd))
          generalize wr.drewN nd = wq at KE ⊢
          go_wp2_with fail
          go_ret
          exact ⟨n, rfl, by omega, hbn, Kal.out, fun h _ => absurd h h2, KE.out⟩
    · have h1I : ¬ (b : Int) + (n : Int) < (s.length : Int) := by omega
      go_wp2_with fail
      refine wp_region_calm DrewR 23 ([] :: [] :: [(8, 0), (9, 1)] :: [] :: [(11, 3)] :: [(10, 2), (12, 4)] :: [(13, 5)] :: [(14, 6)] :: [(15, 7), (14, 6)] :: [(14, 6), (16, 8)] :: [(17, 9)] :: [(18, 10)] :: [(18, 10)] :: [(18, 10)] :: [(20, 12), (21, 13), (18, 10)] :: [(19, 11), (22, 14), (18, 10)] :: [(18, 10)] :: [(18, 10)] :: [(18, 10)] :: [(25, 17), (26, 18), (18, 10)] :: [(24, 16), (27, 19), (18, 10)] :: [(23, 15), (28, 20), (18, 10)] :: [(18, 10), (29, 21)] :: [])
        ((8, 0) :: (9, 1) :: (10, 2) :: (11, 3) :: (12, 4) :: (13, 5) :: (14, 6) :: (15, 7) :: (16, 8) :: (17, 9) :: (18, 10) :: (19, 11) :: (20, 12) :: (21, 13) :: (22, 14) :: (23, 15) :: (24, 16) :: (25, 17) :: (26, 18) :: (27, 19) :: (28, 20) :: (29, 21) :: (30, 22) :: [])
        (EqV ?pace0 :: EqV ?pace1 :: EqV ?pace2 :: EqV ?pace3 :: EqV ?pace4 :: EqV (.bool false) :: EqV (.bool false) :: EqV undef :: EqV undef :: EqV (.bool false) :: EqV (.bool false) :: EqV undef :: EqV undef :: EqV undef :: EqV undef :: EqV undef :: EqV undef :: EqV undef :: EqV undef :: EqV undef :: EqV undef :: EqV undef :: EqV (.bool false) :: []) hm (by kernel_rfl) DrewR.refl DrewR.trans DrewR.drew
        (MonoL.at (MonoL.eq _ (MonoL.eq _ (MonoL.eq _ (MonoL.eq _ (MonoL.eq _ (MonoL.eq _ (MonoL.eq _ (MonoL.eq _ (MonoL.eq _ (MonoL.eq _ (MonoL.eq _ (MonoL.eq _ (MonoL.eq _ (MonoL.eq _ (MonoL.eq _ (MonoL.eq _ (MonoL.eq _ (MonoL.eq _ (MonoL.eq _ (MonoL.eq _ (MonoL.eq _ (MonoL.eq _ (MonoL.eq _ (MonoL.nil))))))))))))))))))))))))) ?pacalmOps ?pacalmDone
      case pacalmOps =>
        intro vs
        refine (CalmOps.cons ?_ (CalmOps.cons ?_ (CalmOps.cons ?_ (CalmOps.cons ?_ (CalmOps.cons ?_ (CalmOps.cons ?_ (CalmOps.cons ?_ (CalmOps.cons ?_ (CalmOps.cons ?_ (CalmOps.cons ?_ (CalmOps.cons ?_ (CalmOps.cons ?_ (CalmOps.cons ?_ (CalmOps.cons ?_ (CalmOps.cons ?_ (CalmOps.cons ?_ (CalmOps.cons ?_ (CalmOps.cons ?_ (CalmOps.cons ?_ (CalmOps.cons ?_ (CalmOps.cons ?_ (CalmOps.cons ?_ (CalmOps.cons ?_ trivial)))))))))))))))))))))))
        · intro w hR hL; obtain ⟨nd, rfl⟩ := hR; simp [Look, VAt, EqV] at hL; simp [Guarded, setAll, bare, hL]; go_wp2_with fail; exact CalmPost.mk (by first | (simp; done) | (simp; rfl) | (simp; omega) | rfl) rfl (DrewR.refl _)
        · intro w hR hL; obtain ⟨nd, rfl⟩ := hR; simp [Look, VAt, EqV] at hL; simp [Guarded, setAll, bare, hL]; go_wp2_with fail; exact CalmPost.mk (by first | (simp; done) | (simp; rfl) | (simp; omega) | rfl) rfl (DrewR.refl _)
        · intro w hR hL; obtain ⟨nd, rfl⟩ := hR; simp [Look, VAt, EqV] at hL; simp [Guarded, setAll, bare, hL]; go_wp2_with fail; exact CalmPost.mk (by first | (simp; done) | (simp; rfl) | (simp; omega) | rfl) rfl (DrewR.refl _)
        · intro w hR hL; obtain ⟨nd, rfl⟩ := hR; simp [Look, VAt, EqV] at hL; simp [Guarded, setAll, bare, hL]; go_wp2_with fail; exact CalmPost.mk (by first | (simp; done) | (simp; rfl) | (simp; omega) | rfl) rfl (DrewR.refl _)
        · intro w hR hL; obtain ⟨nd, rfl⟩ := hR; simp [Look, VAt, EqV] at hL; simp [Guarded, setAll, bare, hL]; go_wp2_with fail; exact CalmPost.mk (by first | (simp; done) | (simp; rfl) | (simp; omega) | rfl) rfl (DrewR.refl _)
        · intro w hR hL; obtain ⟨nd, rfl⟩ := hR; simp [Look, VAt, EqV] at hL; simp [Guarded, setAll, bare, hL]; go_wp2_with fail; exact CalmPost.mk (by first | (simp; done) | (simp; rfl) | (simp; omega) | rfl) rfl (DrewR.refl _)
        · intro w hR hL; obtain ⟨nd, rfl⟩ := hR; simp [Look, VAt, EqV] at hL; simp [Guarded, setAll, bare, hL]; go_wp2_with fail; exact CalmPost.mk (by first | (simp; done) | (simp; rfl) | (simp; omega) | rfl) rfl (DrewR.refl _)
        · intro w6 hR hL; obtain ⟨nd, rfl⟩ := hR; simp [Look, VAt, EqV] at hL; simp [Guarded, bare, hL, VAt, EqV]
        · intro w6 hR hL; obtain ⟨nd, rfl⟩ := hR; simp [Look, VAt, EqV] at hL; simp [Guarded, bare, hL, VAt, EqV]
        · intro w hR hL; obtain ⟨nd, rfl⟩ := hR; simp [Look, VAt, EqV] at hL; simp [Guarded, setAll, bare, hL]; go_wp2_with fail; exact CalmPost.mk (by first | (simp; done) | (simp; rfl) | (simp; omega) | rfl) rfl (DrewR.refl _)
        · intro w hR hL; obtain ⟨nd, rfl⟩ := hR; simp [Look, VAt, EqV] at hL; simp [Guarded, setAll, bare, hL]; go_wp2_with fail; exact CalmPost.mk (by first | (simp; done) | (simp; rfl) | (simp; omega) | rfl) rfl (DrewR.refl _)
        · intro w6 hR hL; obtain ⟨nd, rfl⟩ := hR; simp [Look, VAt, EqV] at hL; simp [Guarded, bare, hL, VAt, EqV]
        · intro w6 hR hL; obtain ⟨nd, rfl⟩ := hR; simp [Look, VAt, EqV] at hL; simp [Guarded, bare, hL, VAt, EqV]
        · intro w6 hR hL; obtain ⟨nd, rfl⟩ := hR; simp [Look, VAt, EqV] at hL; simp [Guarded, bare, hL, VAt, EqV]
        · intro w6 hR hL; obtain ⟨nd, rfl⟩ := hR; simp [Look, VAt, EqV] at hL; simp [Guarded, bare, hL, VAt, EqV]
        · intro w6 hR hL; obtain ⟨nd, rfl⟩ := hR; simp [Look, VAt, EqV] at hL; simp [Guarded, bare, hL, VAt, EqV]
        · intro w6 hR hL; obtain ⟨nd, rfl⟩ := hR; simp [Look, VAt, EqV] at hL; simp [Guarded, bare, hL, VAt, EqV]
        · intro w6 hR hL; obtain ⟨nd, rfl⟩ := hR; simp [Look, VAt, EqV] at hL; simp [Guarded, bare, hL, VAt, EqV]
        · intro w6 hR hL; obtain ⟨nd, rfl⟩ := hR; simp [Look, VAt, EqV] at hL; simp [Guarded, bare, hL, VAt, EqV]
        · intro w6 hR hL; obtain ⟨nd, rfl⟩ := hR; simp [Look, VAt, EqV] at hL; simp [Guarded, bare, hL, VAt, EqV]
        · intro w6 hR hL; obtain ⟨nd, rfl⟩ := hR; simp [Look, VAt, EqV] at hL; simp [Guarded, bare, hL, VAt, EqV]
        · intro w6 hR hL; obtain ⟨nd, rfl⟩ := hR; simp [Look, VAt, EqV] at hL; simp [Guarded, bare, hL, VAt, EqV]
        · intro w hR hL; obtain ⟨nd, rfl⟩ := hR; simp [Look, VAt, EqV] at hL; simp [Guarded, setAll, bare, hL]; go_wp2_with fail; exact CalmPost.mk (by first | (simp; done) | (simp; rfl) | (simp; omega) | rfl) rfl (DrewR.refl _)
      case pacalmDone =>
        intro vs w6 hR hL; obtain ⟨nd, rfl⟩ := hR; simp [Look, VAt, EqV] at hL; simp [setAll, hL]; clear hL
        have KE := Kept.mk (KE.out.trans (Ext.drewN wr nd))
        generalize wr.drewN nd = wq at KE ⊢
        go_wp2_with fail
        go_ret
        exact ⟨n, rfl, by omega, hbn, Kal.out, fun _ h => absurd h h1, KE.out⟩
end Sqz
end Go.Proofs.Ytgnbbklnobladaa
