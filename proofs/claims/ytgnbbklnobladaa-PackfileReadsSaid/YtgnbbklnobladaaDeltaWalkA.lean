/- The walks of deltas: numbers, sizes, a step. No condition. -/
import Derived.Test.YtgnbbklnobladaaProg
import Derived.Test.YtgnbbklnobladaaCalm
import Derived.Test.YtgnbbklnobladaaBufMore
import Derived.Test.YtgnbbklnobladaaDeltaPlain
import Derived.ProofKit
namespace Go.Proofs.Ytgnbbklnobladaa
open Go.RowKit
namespace Delta
def IntE (w : World) (x : Int) (e : Ending) (w' : World) : Prop := e = .returned (.int .i64 x) ∧ Ext w w'
set_option linter.unusedSimpArgs false
set_option linter.unusedVariables false
set_option maxRecDepth 100000 in
set_option maxHeartbeats 1000000 in
theorem number_any (l : List UInt8) (hl : 4 ≤ l.length) (w : World) : Calls Try.prog 45 #[.string (strOf l)] w (IntE w (val4 l)) := by
  have hm : Try.prog.follows .mixedOrders = true := by kernel_rfl
  have hsz : 4 ≤ (strOf l).size := by rw [strOf_size]; exact hl
  have y0 := get_byte l 0 (by omega)
  have y1 := get_byte l 1 (by omega)
  have y2 := get_byte l 2 (by omega)
  have y3 := get_byte l 3 (by omega)
  have b0 := byt_range l 0
  have b1 := byt_range l 1
  have b2 := byt_range l 2
  have b3 := byt_range l 3
  have hv := val4_byt l
  rw [← join4 _ _ _ _ b0 b1 b2 b3] at hv
  have KV := Kept.mk hv
  generalize byt l 0 = z0 at y0 b0 KV
  generalize byt l 1 = z1 at y1 b1 KV
  generalize byt l 2 = z2 at y2 b2 KV
  generalize byt l 3 = z3 at y3 b3 KV
  have b00 := b0.1
  have b01 := b0.2
  have b10 := b1.1
  have b11 := b1.2
  have b20 := b2.1
  have b21 := b2.2
  have b30 := b3.1
  have b31 := b3.2
  have i0 : (0 : Int) < (strOf l).size := by omega
  have i1 : (1 : Int) < (strOf l).size := by omega
  have i2 : (2 : Int) < (strOf l).size := by omega
  have i3 : (3 : Int) < (strOf l).size := by omega
  have n0 : 0 < (strOf l).size := by omega
  have n1 : 1 < (strOf l).size := by omega
  have n2 : 2 < (strOf l).size := by omega
  have n3 : 3 < (strOf l).size := by omega
  clear hv b0 b1 b2 b3
  go_enter Try.func45, Try.ntmps45
  go_wp2_with fail
  refine wp_region_calm DrewR 19 ([] :: [(3, 0)] :: [(4, 1)] :: [(5, 2)] :: [] :: [(7, 4)] :: [(8, 5)] :: [(9, 6)] :: [(6, 3), (10, 7)] :: [] :: [(12, 9)] :: [(13, 10)] :: [(14, 11)] :: [(11, 8), (15, 12)] :: [] :: [(17, 14)] :: [(18, 15)] :: [(16, 13), (19, 16)] :: [(20, 17)] :: [])
    ((3, 0) :: (4, 1) :: (5, 2) :: (6, 3) :: (7, 4) :: (8, 5) :: (9, 6) :: (10, 7) :: (11, 8) :: (12, 9) :: (13, 10) :: (14, 11) :: (15, 12) :: (16, 13) :: (17, 14) :: (18, 15) :: (19, 16) :: (20, 17) :: (2, 18) :: [])
    (EqV ?pce0 :: EqV ?pce1 :: EqV ?pce2 :: EqV ?pce3 :: EqV ?pce4 :: EqV ?pce5 :: EqV ?pce6 :: EqV ?pce7 :: EqV ?pce8 :: EqV ?pce9 :: EqV ?pce10 :: EqV ?pce11 :: EqV ?pce12 :: EqV ?pce13 :: EqV ?pce14 :: EqV ?pce15 :: EqV ?pce16 :: EqV ?pce17 :: EqV ?pce18 :: []) hm (by kernel_rfl) DrewR.refl DrewR.trans DrewR.drew
    (MonoL.at (MonoL.eq _ (MonoL.eq _ (MonoL.eq _ (MonoL.eq _ (MonoL.eq _ (MonoL.eq _ (MonoL.eq _ (MonoL.eq _ (MonoL.eq _ (MonoL.eq _ (MonoL.eq _ (MonoL.eq _ (MonoL.eq _ (MonoL.eq _ (MonoL.eq _ (MonoL.eq _ (MonoL.eq _ (MonoL.eq _ (MonoL.eq _ (MonoL.nil))))))))))))))))))))) ?pcalmOps ?pcalmDone
  case pcalmOps =>
    intro vs
    refine (CalmOps.cons ?_ (CalmOps.cons ?_ (CalmOps.cons ?_ (CalmOps.cons ?_ (CalmOps.cons ?_ (CalmOps.cons ?_ (CalmOps.cons ?_ (CalmOps.cons ?_ (CalmOps.cons ?_ (CalmOps.cons ?_ (CalmOps.cons ?_ (CalmOps.cons ?_ (CalmOps.cons ?_ (CalmOps.cons ?_ (CalmOps.cons ?_ (CalmOps.cons ?_ (CalmOps.cons ?_ (CalmOps.cons ?_ (CalmOps.cons ?_ trivial)))))))))))))))))))
    · intro w hR hL; obtain ⟨nd, rfl⟩ := hR; simp [Look, VAt, EqV] at hL; simp [Guarded, setAll, bare, hL]; go_wp2_with fail; exact CalmPost.mk (by simp; rfl) rfl (DrewR.refl _)
    · intro w hR hL; obtain ⟨nd, rfl⟩ := hR; simp [Look, VAt, EqV] at hL; simp [Guarded, setAll, bare, hL]; go_wp2_with fail; exact CalmPost.mk (by simp; rfl) rfl (DrewR.refl _)
    · intro w hR hL; obtain ⟨nd, rfl⟩ := hR; simp [Look, VAt, EqV] at hL; simp [Guarded, setAll, bare, hL]; go_wp2_with fail; exact CalmPost.mk (by simp; rfl) rfl (DrewR.refl _)
    · intro w hR hL; obtain ⟨nd, rfl⟩ := hR; simp [Look, VAt, EqV] at hL; simp [Guarded, setAll, bare, hL]; go_wp2_with fail; exact CalmPost.mk (by simp; rfl) rfl (DrewR.refl _)
    · intro w hR hL; obtain ⟨nd, rfl⟩ := hR; simp [Look, VAt, EqV] at hL; simp [Guarded, setAll, bare, hL]; go_wp2_with fail; exact CalmPost.mk (by simp; rfl) rfl (DrewR.refl _)
    · intro w hR hL; obtain ⟨nd, rfl⟩ := hR; simp [Look, VAt, EqV] at hL; simp [Guarded, setAll, bare, hL]; go_wp2_with fail; exact CalmPost.mk (by simp; rfl) rfl (DrewR.refl _)
    · intro w hR hL; obtain ⟨nd, rfl⟩ := hR; simp [Look, VAt, EqV] at hL; simp [Guarded, setAll, bare, hL]; go_wp2_with fail; exact CalmPost.mk (by simp; rfl) rfl (DrewR.refl _)
    · intro w hR hL; obtain ⟨nd, rfl⟩ := hR; simp [Look, VAt, EqV] at hL; simp [Guarded, setAll, bare, hL]; go_wp2_with fail; exact CalmPost.mk (by simp; rfl) rfl (DrewR.refl _)
    · intro w hR hL; obtain ⟨nd, rfl⟩ := hR; simp [Look, VAt, EqV] at hL; simp [Guarded, setAll, bare, hL]; go_wp2_with fail; exact CalmPost.mk (by simp; rfl) rfl (DrewR.refl _)
    · intro w hR hL; obtain ⟨nd, rfl⟩ := hR; simp [Look, VAt, EqV] at hL; simp [Guarded, setAll, bare, hL]; go_wp2_with fail; exact CalmPost.mk (by simp; rfl) rfl (DrewR.refl _)
    · intro w hR hL; obtain ⟨nd, rfl⟩ := hR; simp [Look, VAt, EqV] at hL; simp [Guarded, setAll, bare, hL]; go_wp2_with fail; exact CalmPost.mk (by simp; rfl) rfl (DrewR.refl _)
    · intro w hR hL; obtain ⟨nd, rfl⟩ := hR; simp [Look, VAt, EqV] at hL; simp [Guarded, setAll, bare, hL]; go_wp2_with fail; exact CalmPost.mk (by simp; rfl) rfl (DrewR.refl _)
    · intro w hR hL; obtain ⟨nd, rfl⟩ := hR; simp [Look, VAt, EqV] at hL; simp [Guarded, setAll, bare, hL]; go_wp2_with fail; exact CalmPost.mk (by simp; rfl) rfl (DrewR.refl _)
    · intro w hR hL; obtain ⟨nd, rfl⟩ := hR; simp [Look, VAt, EqV] at hL; simp [Guarded, setAll, bare, hL]; go_wp2_with fail; exact CalmPost.mk (by simp; rfl) rfl (DrewR.refl _)
    · intro w hR hL; obtain ⟨nd, rfl⟩ := hR; simp [Look, VAt, EqV] at hL; simp [Guarded, setAll, bare, hL]; go_wp2_with fail; exact CalmPost.mk (by simp; rfl) rfl (DrewR.refl _)
    · intro w hR hL; obtain ⟨nd, rfl⟩ := hR; simp [Look, VAt, EqV] at hL; simp [Guarded, setAll, bare, hL]; go_wp2_with fail; exact CalmPost.mk (by simp; rfl) rfl (DrewR.refl _)
    · intro w hR hL; obtain ⟨nd, rfl⟩ := hR; simp [Look, VAt, EqV] at hL; simp [Guarded, setAll, bare, hL]; go_wp2_with fail; exact CalmPost.mk (by simp; rfl) rfl (DrewR.refl _)
    · intro w hR hL; obtain ⟨nd, rfl⟩ := hR; simp [Look, VAt, EqV] at hL; simp [Guarded, setAll, bare, hL]; go_wp2_with fail; exact CalmPost.mk (by simp; rfl) rfl (DrewR.refl _)
    · intro w hR hL; obtain ⟨nd, rfl⟩ := hR; simp [Look, VAt, EqV] at hL; simp [Guarded, setAll, bare, hL]; go_wp2_with fail; exact CalmPost.mk (by simp; rfl) rfl (DrewR.refl _)
  case pcalmDone =>
    intro vs w6 hR hL; obtain ⟨nd, rfl⟩ := hR; simp [Look, VAt, EqV] at hL; simp [setAll, hL]; clear hL
    go_wp2_with fail
    go_ret
    exact ⟨by rw [KV.out]; rfl, Ext.drewN _ _⟩
set_option maxRecDepth 100000 in
set_option maxHeartbeats 1000000 in
theorem get_any (l : List UInt8) (a : Nat) (hl : a + 4 ≤ l.length) (hb : l.length ≤ 1000000000) (w : World) : Calls Try.prog 16 #[.string (strOf l), .int .i64 (a : Int)] w (IntE w (val4 (l.drop a))) := by
  have hm : Try.prog.follows .mixedOrders = true := by kernel_rfl
  have hsz := strOf_size l
  have hlS : a + 4 ≤ (strOf l).size := by omega
  have hlb : l.length ≤ 1000000000 := hb
  have y0 := get_byte l a (by omega)
  have y1 := get_byte l (a + 1) (by omega)
  have y2 := get_byte l (a + 2) (by omega)
  have y3 := get_byte l (a + 3) (by omega)
  have b0 := byt_range l a
  have b1 := byt_range l (a + 1)
  have b2 := byt_range l (a + 2)
  have b3 := byt_range l (a + 3)
  have hv := val4_byt (l.drop a)
  rw [byt_drop, byt_drop, byt_drop, byt_drop, Nat.add_zero] at hv
  have KV := Kept.mk hv
  generalize byt l a = z0 at y0 b0 KV
  generalize byt l (a + 1) = z1 at y1 b1 KV
  generalize byt l (a + 2) = z2 at y2 b2 KV
  generalize byt l (a + 3) = z3 at y3 b3 KV
  have b00 := b0.1
  have b01 := b0.2
  have b10 := b1.1
  have b11 := b1.2
  have b20 := b2.1
  have b21 := b2.2
  have b30 := b3.1
  have b31 := b3.2
  have i0 : (a : Int) < (l.length : Int) := by omega
  have i1 : (a : Int) + 1 < (l.length : Int) := by omega
  have i2 : (a : Int) + 2 < (l.length : Int) := by omega
  have i3 : (a : Int) + 3 < (l.length : Int) := by omega
  clear hv b0 b1 b2 b3 hb hlS
  go_enter Try.func16, Try.ntmps16
  go_wp2_with fail
  refine wp_region_calm DrewR 26 ([] :: [] :: [(5, 0), (6, 1)] :: [(7, 2)] :: [(8, 3)] :: [] :: [] :: [(11, 6)] :: [(10, 5), (12, 7)] :: [(13, 8)] :: [(9, 4), (14, 9)] :: [(15, 10)] :: [] :: [] :: [(18, 13)] :: [(17, 12), (19, 14)] :: [(20, 15)] :: [(16, 11), (21, 16)] :: [(22, 17)] :: [] :: [] :: [(25, 20)] :: [(24, 19), (26, 21)] :: [(27, 22)] :: [(23, 18), (28, 23)] :: [(29, 24)] :: [])
    ((5, 0) :: (6, 1) :: (7, 2) :: (8, 3) :: (9, 4) :: (10, 5) :: (11, 6) :: (12, 7) :: (13, 8) :: (14, 9) :: (15, 10) :: (16, 11) :: (17, 12) :: (18, 13) :: (19, 14) :: (20, 15) :: (21, 16) :: (22, 17) :: (23, 18) :: (24, 19) :: (25, 20) :: (26, 21) :: (27, 22) :: (28, 23) :: (29, 24) :: (4, 25) :: [])
    (EqV ?pce0 :: EqV ?pce1 :: EqV ?pce2 :: EqV ?pce3 :: EqV ?pce4 :: EqV ?pce5 :: EqV ?pce6 :: EqV ?pce7 :: EqV ?pce8 :: EqV ?pce9 :: EqV ?pce10 :: EqV ?pce11 :: EqV ?pce12 :: EqV ?pce13 :: EqV ?pce14 :: EqV ?pce15 :: EqV ?pce16 :: EqV ?pce17 :: EqV ?pce18 :: EqV ?pce19 :: EqV ?pce20 :: EqV ?pce21 :: EqV ?pce22 :: EqV ?pce23 :: EqV ?pce24 :: EqV ?pce25 :: []) hm (by kernel_rfl) DrewR.refl DrewR.trans DrewR.drew
    (MonoL.at (MonoL.eq _ (MonoL.eq _ (MonoL.eq _ (MonoL.eq _ (MonoL.eq _ (MonoL.eq _ (MonoL.eq _ (MonoL.eq _ (MonoL.eq _ (MonoL.eq _ (MonoL.eq _ (MonoL.eq _ (MonoL.eq _ (MonoL.eq _ (MonoL.eq _ (MonoL.eq _ (MonoL.eq _ (MonoL.eq _ (MonoL.eq _ (MonoL.eq _ (MonoL.eq _ (MonoL.eq _ (MonoL.eq _ (MonoL.eq _ (MonoL.eq _ (MonoL.eq _ (MonoL.nil)))))))))))))))))))))))))))) ?pcalmOps ?pcalmDone
  case pcalmOps =>
    intro vs
    refine (CalmOps.cons ?_ (CalmOps.cons ?_ (CalmOps.cons ?_ (CalmOps.cons ?_ (CalmOps.cons ?_ (CalmOps.cons ?_ (CalmOps.cons ?_ (CalmOps.cons ?_ (CalmOps.cons ?_ (CalmOps.cons ?_ (CalmOps.cons ?_ (CalmOps.cons ?_ (CalmOps.cons ?_ (CalmOps.cons ?_ (CalmOps.cons ?_ (CalmOps.cons ?_ (CalmOps.cons ?_ (CalmOps.cons ?_ (CalmOps.cons ?_ (CalmOps.cons ?_ (CalmOps.cons ?_ (CalmOps.cons ?_ (CalmOps.cons ?_ (CalmOps.cons ?_ (CalmOps.cons ?_ (CalmOps.cons ?_ trivial))))))))))))))))))))))))))
    · intro w hR hL; obtain ⟨nd, rfl⟩ := hR; simp [Look, VAt, EqV] at hL; simp [Guarded, setAll, bare, hL]; go_wp2_with fail; exact CalmPost.mk (by simp; rfl) rfl (DrewR.refl _)
    · intro w hR hL; obtain ⟨nd, rfl⟩ := hR; simp [Look, VAt, EqV] at hL; simp [Guarded, setAll, bare, hL]; go_wp2_with fail; exact CalmPost.mk (by simp; rfl) rfl (DrewR.refl _)
    · intro w hR hL; obtain ⟨nd, rfl⟩ := hR; simp [Look, VAt, EqV] at hL; simp [Guarded, setAll, bare, hL]; go_wp2_with fail; exact CalmPost.mk (by simp; rfl) rfl (DrewR.refl _)
    · intro w hR hL; obtain ⟨nd, rfl⟩ := hR; simp [Look, VAt, EqV] at hL; simp [Guarded, setAll, bare, hL]; go_wp2_with fail; exact CalmPost.mk (by simp; rfl) rfl (DrewR.refl _)
    · intro w hR hL; obtain ⟨nd, rfl⟩ := hR; simp [Look, VAt, EqV] at hL; simp [Guarded, setAll, bare, hL]; go_wp2_with fail; exact CalmPost.mk (by simp; rfl) rfl (DrewR.refl _)
    · intro w hR hL; obtain ⟨nd, rfl⟩ := hR; simp [Look, VAt, EqV] at hL; simp [Guarded, setAll, bare, hL]; go_wp2_with fail; exact CalmPost.mk (by simp; rfl) rfl (DrewR.refl _)
    · intro w hR hL; obtain ⟨nd, rfl⟩ := hR; simp [Look, VAt, EqV] at hL; simp [Guarded, setAll, bare, hL]; go_wp2_with fail; exact CalmPost.mk (by simp; rfl) rfl (DrewR.refl _)
    · intro w hR hL; obtain ⟨nd, rfl⟩ := hR; simp [Look, VAt, EqV] at hL; simp [Guarded, setAll, bare, hL]; go_wp2_with fail; exact CalmPost.mk (by simp; rfl) rfl (DrewR.refl _)
    · intro w hR hL; obtain ⟨nd, rfl⟩ := hR; simp [Look, VAt, EqV] at hL; simp [Guarded, setAll, bare, hL]; go_wp2_with fail; exact CalmPost.mk (by simp; rfl) rfl (DrewR.refl _)
    · intro w hR hL; obtain ⟨nd, rfl⟩ := hR; simp [Look, VAt, EqV] at hL; simp [Guarded, setAll, bare, hL]; go_wp2_with fail; exact CalmPost.mk (by simp; rfl) rfl (DrewR.refl _)
    · intro w hR hL; obtain ⟨nd, rfl⟩ := hR; simp [Look, VAt, EqV] at hL; simp [Guarded, setAll, bare, hL]; go_wp2_with fail; exact CalmPost.mk (by simp; rfl) rfl (DrewR.refl _)
    · intro w hR hL; obtain ⟨nd, rfl⟩ := hR; simp [Look, VAt, EqV] at hL; simp [Guarded, setAll, bare, hL]; go_wp2_with fail; exact CalmPost.mk (by simp; rfl) rfl (DrewR.refl _)
    · intro w hR hL; obtain ⟨nd, rfl⟩ := hR; simp [Look, VAt, EqV] at hL; simp [Guarded, setAll, bare, hL]; go_wp2_with fail; exact CalmPost.mk (by simp; rfl) rfl (DrewR.refl _)
    · intro w hR hL; obtain ⟨nd, rfl⟩ := hR; simp [Look, VAt, EqV] at hL; simp [Guarded, setAll, bare, hL]; go_wp2_with fail; exact CalmPost.mk (by simp; rfl) rfl (DrewR.refl _)
    · intro w hR hL; obtain ⟨nd, rfl⟩ := hR; simp [Look, VAt, EqV] at hL; simp [Guarded, setAll, bare, hL]; go_wp2_with fail; exact CalmPost.mk (by simp; rfl) rfl (DrewR.refl _)
    · intro w hR hL; obtain ⟨nd, rfl⟩ := hR; simp [Look, VAt, EqV] at hL; simp [Guarded, setAll, bare, hL]; go_wp2_with fail; exact CalmPost.mk (by simp; rfl) rfl (DrewR.refl _)
    · intro w hR hL; obtain ⟨nd, rfl⟩ := hR; simp [Look, VAt, EqV] at hL; simp [Guarded, setAll, bare, hL]; go_wp2_with fail; exact CalmPost.mk (by simp; rfl) rfl (DrewR.refl _)
    · intro w hR hL; obtain ⟨nd, rfl⟩ := hR; simp [Look, VAt, EqV] at hL; simp [Guarded, setAll, bare, hL]; go_wp2_with fail; exact CalmPost.mk (by simp; rfl) rfl (DrewR.refl _)
    · intro w hR hL; obtain ⟨nd, rfl⟩ := hR; simp [Look, VAt, EqV] at hL; simp [Guarded, setAll, bare, hL]; go_wp2_with fail; exact CalmPost.mk (by simp; rfl) rfl (DrewR.refl _)
    · intro w hR hL; obtain ⟨nd, rfl⟩ := hR; simp [Look, VAt, EqV] at hL; simp [Guarded, setAll, bare, hL]; go_wp2_with fail; exact CalmPost.mk (by simp; rfl) rfl (DrewR.refl _)
    · intro w hR hL; obtain ⟨nd, rfl⟩ := hR; simp [Look, VAt, EqV] at hL; simp [Guarded, setAll, bare, hL]; go_wp2_with fail; exact CalmPost.mk (by simp; rfl) rfl (DrewR.refl _)
    · intro w hR hL; obtain ⟨nd, rfl⟩ := hR; simp [Look, VAt, EqV] at hL; simp [Guarded, setAll, bare, hL]; go_wp2_with fail; exact CalmPost.mk (by simp; rfl) rfl (DrewR.refl _)
    · intro w hR hL; obtain ⟨nd, rfl⟩ := hR; simp [Look, VAt, EqV] at hL; simp [Guarded, setAll, bare, hL]; go_wp2_with fail; exact CalmPost.mk (by simp; rfl) rfl (DrewR.refl _)
    · intro w hR hL; obtain ⟨nd, rfl⟩ := hR; simp [Look, VAt, EqV] at hL; simp [Guarded, setAll, bare, hL]; go_wp2_with fail; exact CalmPost.mk (by simp; rfl) rfl (DrewR.refl _)
    · intro w hR hL; obtain ⟨nd, rfl⟩ := hR; simp [Look, VAt, EqV] at hL; simp [Guarded, setAll, bare, hL]; go_wp2_with fail; exact CalmPost.mk (by simp; rfl) rfl (DrewR.refl _)
    · intro w hR hL; obtain ⟨nd, rfl⟩ := hR; simp [Look, VAt, EqV] at hL; simp [Guarded, setAll, bare, hL]; go_wp2_with fail; exact CalmPost.mk (by simp; rfl) rfl (DrewR.refl _)
  case pcalmDone =>
    intro vs w6 hR hL; obtain ⟨nd, rfl⟩ := hR; simp [Look, VAt, EqV] at hL; simp [setAll, hL]; clear hL
    go_wp2_with fail
    go_ret
    exact ⟨by rw [KV.out]; rfl, Ext.drewN _ _⟩
/-- Two results. -/
def TwoE (w : World) (x y : Int) (e : Ending) (w' : World) : Prop := e = .returned (.tuple #[.int .i64 x, .int .i64 y]) ∧ Ext w w'
set_option maxRecDepth 100000 in
set_option maxHeartbeats 1000000 in
theorem size_any (l : List UInt8) (hb : l.length ≤ 1000000000) (w : World) : Calls Try.prog 44 #[.string (strOf l)] w (TwoE w (sizeP l).1 (sizeP l).2) := by
  have hsz := strOf_size l
  have Kz := Kept.mk hsz
  by_cases h : l.length < 8
  · have KP := Kept.mk (show sizeP l = (0, 2) by unfold sizeP; rw [if_pos h])
    have hI : ((strOf l).size : Int) < 8 := by omega
    clear hsz
    go_enter Try.func44, Try.ntmps44
    go_wp2_with fail
    go_ret2
    exact ⟨by rw [KP.out]; rfl, Ext.refl _⟩
  · have KP := Kept.mk (show sizeP l = ((val4 (l.drop 4) : Int), 0) by unfold sizeP; rw [if_neg h])
    have hI : ¬ ((strOf l).size : Int) < 8 := by omega
    have hI4 : (4 : Int) ≤ (strOf l).size := by omega
    have Kt := Kept.mk (strOf_tail l 4)
    clear hsz
    go_enter Try.func44, Try.ntmps44
    go_wp2_with fail
    rw [Kt.out]
    refine (number_any (l.drop 4) (by rw [List.length_drop]; omega) _).mono ?_
    rintro e w1 ⟨rfl, h1⟩
    go_wp2_with fail
    go_ret2
    exact ⟨by rw [KP.out]; rfl, h1⟩
end Delta
end Go.Proofs.Ytgnbbklnobladaa
