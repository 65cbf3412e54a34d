/- The walk of squeeze's at. No condition. -/
import Derived.Test.YtgnbbklnobladaaSqzWalkE
namespace Go.Proofs.Ytgnbbklnobladaa
open Go.RowKit
namespace Sqz
open Delta (TextE infoB wraps_i64)
set_option linter.unusedSimpArgs false
set_option linter.unusedVariables false
theorem info4 : (Try.prog.info? 82).map (fun i => (i.zero, i.size, i.bytes)) = some (some (.agg #[.int .u8 0, .int .u8 0, .int .u8 0, .int .u8 0]), 4, 4) := by kernel_rfl
def fourL (s : List UInt8) (i : Nat) : List UInt8 := [s.getD i 0, s.getD (i + 1) 0, s.getD (i + 2) 0, s.getD (i + 3) 0]
def AtE (s : List UInt8) (i : Nat) (w : World) (e : Ending) (w1 : World) : Prop :=
  e = .returned (.agg (bytesV (fourL s i)).toArray) ∧ Ext w w1
set_option maxRecDepth 100000 in
set_option maxHeartbeats 2000000 in
theorem at_any (s : List UInt8) (hs : s.length ≤ 1000000) (i : Nat) (hi : i + 4 ≤ s.length) (w : World) : Calls Try.prog 38 #[.string (strOf s), .int .i64 (i : Int)] w (AtE s i w) := by
  have hm : Try.prog.follows .mixedOrders = true := by kernel_rfl
  have hsz := strOf_size s
  have y0 := get_nat s i (by omega)
  have y1 := get_nat s (i + 1) (by omega)
  have y2 := get_nat s (i + 2) (by omega)
  have y3 := get_nat s (i + 3) (by omega)
  have n0 : i < (strOf s).size := by omega
  have n1 : i + 1 < (strOf s).size := by omega
  have n2 : i + 2 < (strOf s).size := by omega
  have n3 : i + 3 < (strOf s).size := by omega
  have j0 : (i : Int) < (s.length : Int) := by omega
  have j1 : (i : Int) + 1 < (s.length : Int) := by omega
  have j2 : (i : Int) + 2 < (s.length : Int) := by omega
  have j3 : (i : Int) + 3 < (s.length : Int) := by omega
  have Kf := Kept.mk (show bytesV (fourL s i) = [.int .u8 ((s.getD i 0).toNat : Int), .int .u8 ((s.getD (i + 1) 0).toNat : Int), .int .u8 ((s.getD (i + 2) 0).toNat : Int), .int .u8 ((s.getD (i + 3) 0).toNat : Int)] from rfl)
  generalize (s.getD i 0).toNat = x0 at y0 Kf
  generalize (s.getD (i + 1) 0).toNat = x1 at y1 Kf
  generalize (s.getD (i + 2) 0).toNat = x2 at y2 Kf
  generalize (s.getD (i + 3) 0).toNat = x3 at y3 Kf
  go_enter Try.func38, Try.ntmps38
  go_wp2_with fail
  refine wp_region_calm Ext 16 ([] :: [] :: [(5, 0), (6, 1)] :: [] :: [] :: [(9, 4)] :: [(8, 3), (10, 5)] :: [] :: [] :: [(13, 8)] :: [(12, 7), (14, 9)] :: [] :: [] :: [(17, 12)] :: [(16, 11), (18, 13)] :: [(7, 2), (11, 6), (15, 10), (19, 14)] :: [])
    ((5, 0) :: (6, 1) :: (7, 2) :: (8, 3) :: (9, 4) :: (10, 5) :: (11, 6) :: (12, 7) :: (13, 8) :: (14, 9) :: (15, 10) :: (16, 11) :: (17, 12) :: (18, 13) :: (19, 14) :: (20, 15) :: [])
    (EqV ?pce0 :: EqV ?pce1 :: EqV ?pce2 :: EqV ?pce3 :: EqV ?pce4 :: EqV ?pce5 :: EqV ?pce6 :: EqV ?pce7 :: EqV ?pce8 :: EqV ?pce9 :: EqV ?pce10 :: EqV ?pce11 :: EqV ?pce12 :: EqV ?pce13 :: EqV ?pce14 :: EqV ?pce15 :: []) hm (by kernel_rfl) Ext.refl (fun _ _ _ => Ext.trans) Ext.drew
    (MonoL.at (MonoL.eq _ (MonoL.eq _ (MonoL.eq _ (MonoL.eq _ (MonoL.eq _ (MonoL.eq _ (MonoL.eq _ (MonoL.eq _ (MonoL.eq _ (MonoL.eq _ (MonoL.eq _ (MonoL.eq _ (MonoL.eq _ (MonoL.eq _ (MonoL.eq _ (MonoL.eq _ (MonoL.nil)))))))))))))))))) ?pcalmOps ?pcalmDone
  case pcalmOps =>
    intro vs
    refine (CalmOps.cons ?_ (CalmOps.cons ?_ (CalmOps.cons ?_ (CalmOps.cons ?_ (CalmOps.cons ?_ (CalmOps.cons ?_ (CalmOps.cons ?_ (CalmOps.cons ?_ (CalmOps.cons ?_ (CalmOps.cons ?_ (CalmOps.cons ?_ (CalmOps.cons ?_ (CalmOps.cons ?_ (CalmOps.cons ?_ (CalmOps.cons ?_ (CalmOps.cons ?_ trivial))))))))))))))))
    · intro w hR hL; simp [Look, VAt, EqV] at hL; simp [Guarded, setAll, bare, hL]; go_wp2_with fail; exact CalmPost.mk (by first | (simp; done) | (simp; rfl) | rfl) rfl (Ext.refl _)
    · intro w hR hL; simp [Look, VAt, EqV] at hL; simp [Guarded, setAll, bare, hL]; go_wp2_with fail; exact CalmPost.mk (by first | (simp; done) | (simp; rfl) | rfl) rfl (Ext.refl _)
    · intro w hR hL; simp [Look, VAt, EqV] at hL; simp [Guarded, setAll, bare, hL]; go_wp2_with fail; exact CalmPost.mk (by first | (simp; done) | (simp; rfl) | rfl) rfl (Ext.refl _)
    · intro w hR hL; simp [Look, VAt, EqV] at hL; simp [Guarded, setAll, bare, hL]; go_wp2_with fail; exact CalmPost.mk (by first | (simp; done) | (simp; rfl) | rfl) rfl (Ext.refl _)
    · intro w hR hL; simp [Look, VAt, EqV] at hL; simp [Guarded, setAll, bare, hL]; go_wp2_with fail; exact CalmPost.mk (by first | (simp; done) | (simp; rfl) | rfl) rfl (Ext.refl _)
    · intro w hR hL; simp [Look, VAt, EqV] at hL; simp [Guarded, setAll, bare, hL]; go_wp2_with fail; exact CalmPost.mk (by first | (simp; done) | (simp; rfl) | rfl) rfl (Ext.refl _)
    · intro w hR hL; simp [Look, VAt, EqV] at hL; simp [Guarded, setAll, bare, hL]; go_wp2_with fail; exact CalmPost.mk (by first | (simp; done) | (simp; rfl) | rfl) rfl (Ext.refl _)
    · intro w hR hL; simp [Look, VAt, EqV] at hL; simp [Guarded, setAll, bare, hL]; go_wp2_with fail; exact CalmPost.mk (by first | (simp; done) | (simp; rfl) | rfl) rfl (Ext.refl _)
    · intro w hR hL; simp [Look, VAt, EqV] at hL; simp [Guarded, setAll, bare, hL]; go_wp2_with fail; exact CalmPost.mk (by first | (simp; done) | (simp; rfl) | rfl) rfl (Ext.refl _)
    · intro w hR hL; simp [Look, VAt, EqV] at hL; simp [Guarded, setAll, bare, hL]; go_wp2_with fail; exact CalmPost.mk (by first | (simp; done) | (simp; rfl) | rfl) rfl (Ext.refl _)
    · intro w hR hL; simp [Look, VAt, EqV] at hL; simp [Guarded, setAll, bare, hL]; go_wp2_with fail; exact CalmPost.mk (by first | (simp; done) | (simp; rfl) | rfl) rfl (Ext.refl _)
    · intro w hR hL; simp [Look, VAt, EqV] at hL; simp [Guarded, setAll, bare, hL]; go_wp2_with fail; exact CalmPost.mk (by first | (simp; done) | (simp; rfl) | rfl) rfl (Ext.refl _)
    · intro w hR hL; simp [Look, VAt, EqV] at hL; simp [Guarded, setAll, bare, hL]; go_wp2_with fail; exact CalmPost.mk (by first | (simp; done) | (simp; rfl) | rfl) rfl (Ext.refl _)
    · intro w hR hL; simp [Look, VAt, EqV] at hL; simp [Guarded, setAll, bare, hL]; go_wp2_with fail; exact CalmPost.mk (by first | (simp; done) | (simp; rfl) | rfl) rfl (Ext.refl _)
    · intro w hR hL; simp [Look, VAt, EqV] at hL; simp [Guarded, setAll, bare, hL]; go_wp2_with fail; exact CalmPost.mk (by first | (simp; done) | (simp; rfl) | rfl) rfl (Ext.refl _)
    · intro w hR hL; simp [Look, VAt, EqV] at hL; simp [Guarded, setAll, bare, hL]; go_wp2_with fail; exact CalmPost.mk (by first | (simp; done) | (simp; rfl) | rfl) rfl (Ext.refl _)
  case pcalmDone =>
    intro vs w6 hR hL; simp [Look, VAt, EqV] at hL; simp [setAll, hL]; clear hL
    clear y0 y1 y2 y3
    have hb := (Blk.new w 82 [.int .u8 0, .int .u8 0, .int .u8 0, .int .u8 0]).ext hR
    have KE := Kept.mk (Ext.trans (Ext.alloc _ _) hR)
    have KB := Kept.mk hb
    have hlt : w.heap.size < w6.heap.size := by have := hR.size; simp at this; omega
    have hone : ([.int .u8 (x0 : Int), .int .u8 (x1 : Int), .int .u8 (x2 : Int), .int .u8 (x3 : Int)] : List Value).all (·.oneCell') = true := by simp [Value.oneCell']
    clear hb hR
    go_wp2_with (refine wpList_store_blk rfl 82 (.tmp 4) (.tmp 20) rfl rfl w.heap.size rfl 82 [.int .u8 0, .int .u8 0, .int .u8 0, .int .u8 0] [.int .u8 (x0 : Int), .int .u8 (x1 : Int), .int .u8 (x2 : Int), .int .u8 (x3 : Int)] rfl KB.out rfl (info_size info4) hone ?_)
    refine bodyPost_ret (v := .agg (bytesV (fourL s i)).toArray) ?_ rfl ⟨rfl, ?_⟩
    · rw [Kf.out]
      refine results_blk Try.results38 _ _ w.heap.size 82 _ _ ?_ (KB.out.row _) Try.underlying82 rfl (info_size info4)
      rfl
    · exact below_setRow KE.out (Nat.le_refl _) _
end Sqz
end Go.Proofs.Ytgnbbklnobladaa
