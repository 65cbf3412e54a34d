/- The walk of the document's press of a block into a chain. No condition. -/
import Derived.Test.YthkckmohhbddcaaSha1WalkF
namespace Go.Proofs.Ythkckmohhbddcaa
open Go.RowKit
namespace Sha1

set_option linter.unusedSimpArgs false
set_option linter.unusedVariables false
set_option maxRecDepth 100000 in
set_option maxHeartbeats 2000000 in
theorem refPress_any (c : Ch) (s : ByteArray) (hs : s.size ≤ 9223372036854775807) (w : World) : Calls Try.prog 22 #[chV c, .string s] w (ChIs w (pressC c s.data.toList)) := by
  have hm : Try.prog.follows .mixedOrders = true := by kernel_rfl
  have hz80 := zero_run (P := Try.prog) infoR80
  have hel := expand_length s.data.toList
  have HP := Kept.mk (show pressC c s.data.toList = addC c (runC c 0 (expand s.data.toList)) from rfl)
  generalize pressC c s.data.toList = out at HP
  rw [chV_eq]
  go_enter Try.func22, Try.ntmps22
  go_wp2_with fail
  refine (refExpand_any s hs _).mono ?_
  rintro e w2 ⟨rfl, h2⟩
  generalize expand s.data.toList = ws at hel HP ⊢
  have HE := Kept.mk hel
  have B2 : Blk w2 w.heap.size 36 (chW c) := ((Blk.new w 36 (chW c)).old _).ext h2
  have B4 : Blk w2 (w.heap.size + 1) 36 zW := by
    have := (Blk.new (w.alloc (.cells (chW c).toArray 36)) 36 zW).ext h2
    simpa using this
  have hB : Below w.heap.size w w2 := (Ext.alloc w _).trans ((Ext.alloc _ _).trans h2)
  have hlt := B4.lt
  have K2 := Kept.mk B2
  have K4 := Kept.mk B4
  have KB := Kept.mk hB
  clear h2 B2 B4 hB hel
  go_wp2_with (first
    | (refine wpList_store_new (w := w2) rfl 40 (.tmp 5) (.tmp 10) rfl rfl rfl 40 (numsV .u32 z80) (numsV .u32 ws) rfl (by rw [numsV_length, numsV_length, HE.out]; rfl) (by rw [numsV_length, HE.out]; exact info_size infoR80) (numsV_one _ _) ?_)
    | (refine wpList_load_blk rfl 36 (.tmp 2) rfl w.heap.size rfl 36 (chW c) (K2.out.old _) _ Try.underlying36 rfl (info_size infoR5) ?_)
    | (refine wpList_store_new rfl 36 (.tmp 6) (.tmp 11) rfl rfl (by rw [World.size_alloc]; rfl) 36 zW (chW c) rfl rfl (info_size infoR5) (chW_one _) ?_))
  have B2 : Blk ((w2.alloc (.cells (numsV .u32 ws).toArray 40)).alloc (.cells (chW c).toArray 36)) w.heap.size 36 (chW c) := (K2.out.old _).old _
  have B4 : Blk ((w2.alloc (.cells (numsV .u32 ws).toArray 40)).alloc (.cells (chW c).toArray 36)) (w.heap.size + 1) 36 zW := (K4.out.old _).old _
  have B5 : Blk ((w2.alloc (.cells (numsV .u32 ws).toArray 40)).alloc (.cells (chW c).toArray 36)) w2.heap.size 40 (numsV .u32 ws) := (Blk.new w2 _ _).old _
  have B6 : Blk ((w2.alloc (.cells (numsV .u32 ws).toArray 40)).alloc (.cells (chW c).toArray 36)) (w2.heap.size + 1) 36 (chW c) := by
    have := Blk.new (w2.alloc (.cells (numsV .u32 ws).toArray 40)) 36 (chW c)
    rwa [World.size_alloc] at this
  have hB : Below w.heap.size w ((w2.alloc (.cells (numsV .u32 ws).toArray 40)).alloc (.cells (chW c).toArray 36)) := (KB.out.alloc (by omega) _).alloc (by rw [World.size_alloc]; omega) _
  generalize ((w2.alloc (.cells (numsV .u32 ws).toArray 40)).alloc (.cells (chW c).toArray 36)) = w3 at B2 B4 B5 B6 hB ⊢
  clear K2 K4 KB
  have hg : w2.heap.size < w2.heap.size + 1 := by omega
  generalize w2.heap.size + 1 = g at B6 hg ⊢
  generalize w2.heap.size = g5 at B5 hg hlt ⊢
  obtain ⟨y, hy⟩ : ∃ y, y = runC c 0 ws := ⟨_, rfl⟩
  rw [← hy] at HP
  go_loopg [7] 80 (fun r i wi => ∃ (k : Nat) (x : Ch), k + r = 80 ∧ i = .int .i64 (k : Int) ∧ runC x k (ws.drop k) = y ∧ Below w.heap.size w wi ∧ Blk wi w.heap.size 36 (chW c) ∧ Blk wi (w.heap.size + 1) 36 zW ∧ Blk wi g5 40 (numsV .u32 ws) ∧ Blk wi g 36 (chW x))
  case atStart => exact ⟨0, c, rfl, rfl, by rw [hy]; rfl, hB, B2, B4, B5, B6⟩
  case round =>
    clear B2 B4 B5 B6 hB hy
    have hlt0 := Kept.mk hlt
    clear hlt
    obtain ⟨k, x, hk, rfl, hrun, hB, B2, B4, B5, B6⟩ := hrel
    by_cases hlt : k < 80
    · have hkI : (k : Int) < 80 := by omega
      have hc := B5.cell k
      rw [numsV_at _ _ _ (by rw [HE.out]; exact hlt)] at hc
      rw [runC_drop x k ws (by rw [HE.out]; exact hlt)] at hrun
      generalize ws.getD k 0 = v at hc hrun
      have KR := Kept.mk hrun
      have K2 := Kept.mk B2
      have K4 := Kept.mk B4
      have K5 := Kept.mk B5
      have K6 := Kept.mk B6
      have KB := Kept.mk hB
      clear hrun B2 B4 B5 B6 hB
      go_wp2_with fail
      refine wp_region_calm Ext 6 ([] :: [] :: [] :: [(18, 2)] :: [(19, 3)] :: [(16, 0), (17, 1), (20, 4)] :: [])
        ((16, 0) :: (17, 1) :: (18, 2) :: (19, 3) :: (20, 4) :: (21, 5) :: [])
        (EqV (.agg (chW x).toArray) :: EqV ?pce1 :: EqV ?pce2 :: EqV ?pce3 :: EqV ?pce4 :: EqV (chV (stepC x k v)) :: []) hm (by kernel_rfl) Ext.refl (fun _ _ _ => Ext.trans) Ext.drew
        (MonoL.at (MonoL.eq _ (MonoL.eq _ (MonoL.eq _ (MonoL.eq _ (MonoL.eq _ (MonoL.eq _ (MonoL.nil)))))))) ?pcalmOps ?pcalmDone
      case pcalmOps =>
        intro vs
        refine (CalmOps.cons ?_ (CalmOps.cons ?_ (CalmOps.cons ?_ (CalmOps.cons ?_ (CalmOps.cons ?_ (CalmOps.cons ?_ trivial))))))
        · intro w6 hR hL; simp [Look, VAt, EqV] at hL; simp [Guarded, setAll, bare, hL]; go_wp2_with (refine wpList_load_blk rfl 36 (.tmp 6) rfl g rfl 36 (chW x) (K6.out.ext hR) _ Try.underlying36 rfl (info_size infoR5) ?_); exact CalmPost.mk (by simp) rfl (Ext.refl _)
        · intro w6 hR hL; simp [Look, VAt, EqV] at hL; simp [Guarded, setAll, bare, hL]; go_wp2_with fail; exact CalmPost.mk (by simp; rfl) rfl (Ext.refl _)
        · intro w6 hR hL; simp [Look, VAt, EqV] at hL; simp [Guarded, setAll, bare, hL]; go_wp2_with fail; exact CalmPost.mk (by simp; rfl) rfl (Ext.refl _)
        · intro w6 hR hL; simp [Look, VAt, EqV] at hL; simp [Guarded, setAll, bare, hL]; go_wp2_with fail; exact CalmPost.mk (by simp; rfl) rfl (Ext.refl _)
        · intro w6 hR hL; have hc6 := hR.cell hc; simp [Look, VAt, EqV] at hL; simp [Guarded, setAll, bare, hL]; go_wp2_with fail; exact CalmPost.mk (by simp; rfl) rfl (Ext.refl _)
        · intro w6 hR hL; simp [Look, VAt, EqV] at hL; simp [Guarded, setAll, bare, hL]; go_wp2_with fail; refine (refStep_any x k v _).mono ?_; rintro ee ww ⟨rfl, hbb⟩; go_wp2_with fail; exact CalmPost.mk (by simp) rfl hbb
      case pcalmDone =>
        intro vs w6 hR hL
        simp [Look, VAt, EqV] at hL
        simp [setAll, hL]
        clear hL
        go_wp2_with (refine wpList_store_blk rfl 36 (.tmp 6) (.tmp 21) rfl rfl g rfl 36 (chW x) (chW (stepC x k v)) rfl (K6.out.ext hR) rfl (info_size infoR5) (chW_one _) ?_)
        go_roundg (gk - 1)
        case measure => omega
        case rel =>
          have := hlt0.out
          exact ⟨k + 1, stepC x k v, by omega, by go_num, KR.out, below_setRow (Ext.below KB.out hR) (by omega) _, (K2.out.ext hR).row_other _ (by omega), (K4.out.ext hR).row_other _ (by omega), (K5.out.ext hR).row_other _ (by omega), (K6.out.ext hR).row _⟩
    · obtain rfl : k = 80 := by omega
      have hxy : x = y := by rw [← hrun, List.drop_eq_nil_of_le (by rw [HE.out]; omega)]; rfl
      subst hxy
      have h0 := hlt0.out
      have hgne : ¬ g = w.heap.size := by omega
      have K2 := Kept.mk B2
      have K4 := Kept.mk B4
      have K6 := Kept.mk B6
      have KB := Kept.mk hB
      clear hrun B2 B4 B5 B6 hB h0
      go_wp2_with fail
      go_loopg [8] 5 (fun r i wi => ∃ (j : Nat), j + r = 5 ∧ i = .int .i64 (j : Int) ∧ Below w.heap.size w wi ∧ Blk wi w.heap.size 36 (numsV .u32 (addL c x j)) ∧ Blk wi (w.heap.size + 1) 36 zW ∧ Blk wi g 36 (chW x))
      case atStart => exact ⟨0, rfl, rfl, KB.out, K2.out, K4.out, K6.out⟩
      case round =>
        clear K2 K4 K6 KB
        obtain ⟨j, hj, rfl, hB, B2, B4, B6⟩ := hrel
        by_cases hlt2 : j < 5
        · have hjI : (j : Int) < 5 := by omega
          have hc := B2.cell j
          rw [numsV_at _ _ _ (by rw [addL_length]; exact hlt2), addL_getD _ _ _ hlt2] at hc
          have hcx := B6.cell j
          rw [chW, numsV_at _ _ _ hlt2] at hcx
          have hf := B2.free j
          have hset := B2.set j (.int .u32 (((chL c).getD j 0 + (chL x).getD j 0) % 4294967296))
          rw [numsV_set, addL_set _ _ _ hlt2] at hset
          have hset4 := B4.set_other ⟨w.heap.size, j, none⟩ (.int .u32 (((chL c).getD j 0 + (chL x).getD j 0) % 4294967296)) (by simp)
          have hset6 := B6.set_other ⟨w.heap.size, j, none⟩ (.int .u32 (((chL c).getD j 0 + (chL x).getD j 0) % 4294967296)) hgne
          generalize hxv : (chL x).getD j 0 = xv at hcx hset hset4 hset6
          generalize (chL c).getD j 0 = cv at hc hset hset4 hset6
          have KS := Kept.mk hset
          have K4 := Kept.mk hset4
          have K6 := Kept.mk hset6
          have KB := Kept.mk hB
          clear hset hset4 hset6 hB B2 B4 B6 hxv
          go_wp2_with fail
          refine wp_region_calm DrewR 9 ([] :: [] :: [(27, 1)] :: [(28, 2)] :: [] :: [(30, 4)] :: [(31, 5)] :: [(29, 3), (32, 6)] :: [(26, 0)] :: [])
            ((26, 0) :: (27, 1) :: (28, 2) :: (29, 3) :: (30, 4) :: (31, 5) :: (32, 6) :: (33, 7) :: (34, 8) :: [])
            (EqV ?qce0 :: EqV ?qce1 :: EqV ?qce2 :: EqV ?qce3 :: EqV ?qce4 :: EqV ?qce5 :: EqV ?qce6 :: EqV ?qce7 :: EqV ?qce8 :: []) hm (by kernel_rfl) DrewR.refl DrewR.trans DrewR.drew
            (MonoL.at (MonoL.eq _ (MonoL.eq _ (MonoL.eq _ (MonoL.eq _ (MonoL.eq _ (MonoL.eq _ (MonoL.eq _ (MonoL.eq _ (MonoL.eq _ (MonoL.nil))))))))))) ?qcalmOps ?qcalmDone
          case qcalmOps =>
            intro vs
            refine (CalmOps.cons ?_ (CalmOps.cons ?_ (CalmOps.cons ?_ (CalmOps.cons ?_ (CalmOps.cons ?_ (CalmOps.cons ?_ (CalmOps.cons ?_ (CalmOps.cons ?_ (CalmOps.cons ?_ trivial)))))))))
            · intro w hR hL; obtain ⟨nd, rfl⟩ := hR; simp [Look, VAt, EqV] at hL; simp [Guarded, setAll, bare, hL]; go_wp2_with fail; exact CalmPost.mk (by simp; rfl) rfl (DrewR.refl _)
            · intro w hR hL; obtain ⟨nd, rfl⟩ := hR; simp [Look, VAt, EqV] at hL; simp [Guarded, setAll, bare, hL]; go_wp2_with fail; exact CalmPost.mk (by simp; rfl) rfl (DrewR.refl _)
            · intro w hR hL; obtain ⟨nd, rfl⟩ := hR; simp [Look, VAt, EqV] at hL; simp [Guarded, setAll, bare, hL]; go_wp2_with fail; exact CalmPost.mk (by simp; rfl) rfl (DrewR.refl _)
            · intro w hR hL; obtain ⟨nd, rfl⟩ := hR; simp [Look, VAt, EqV] at hL; simp [Guarded, setAll, bare, hL]; go_wp2_with fail; exact CalmPost.mk (by simp; rfl) rfl (DrewR.refl _)
            · intro w hR hL; obtain ⟨nd, rfl⟩ := hR; simp [Look, VAt, EqV] at hL; simp [Guarded, setAll, bare, hL]; go_wp2_with fail; exact CalmPost.mk (by simp; rfl) rfl (DrewR.refl _)
            · intro w hR hL; obtain ⟨nd, rfl⟩ := hR; simp [Look, VAt, EqV] at hL; simp [Guarded, setAll, bare, hL]; go_wp2_with fail; exact CalmPost.mk (by simp; rfl) rfl (DrewR.refl _)
            · intro w hR hL; obtain ⟨nd, rfl⟩ := hR; simp [Look, VAt, EqV] at hL; simp [Guarded, setAll, bare, hL]; go_wp2_with fail; exact CalmPost.mk (by simp; rfl) rfl (DrewR.refl _)
            · intro w hR hL; obtain ⟨nd, rfl⟩ := hR; simp [Look, VAt, EqV] at hL; simp [Guarded, setAll, bare, hL]; go_wp2_with fail; exact CalmPost.mk (by simp; rfl) rfl (DrewR.refl _)
            · intro w hR hL; obtain ⟨nd, rfl⟩ := hR; simp [Look, VAt, EqV] at hL; simp [Guarded, setAll, bare, hL]; go_wp2_with fail; exact CalmPost.mk (by simp; rfl) rfl (DrewR.refl _)
          case qcalmDone =>
            intro vs w6 hR hL; obtain ⟨nd, rfl⟩ := hR; simp [Look, VAt, EqV] at hL; simp [setAll, hL]; clear hL
            go_wp2_with fail
            go_roundg (gk - 1)
            case measure => omega
            case rel => exact ⟨j + 1, by omega, by go_num, (below_drewN KB.out nd).setCell (Nat.le_refl _) _, KS.out, K4.out, K6.out⟩
        · obtain rfl : j = 5 := by omega
          have hadd : numsV .u32 (addL c x 5) = chW out := by rw [HP.out, addL_five]; rfl
          rw [hadd] at B2
          have K2 := Kept.mk B2
          have K4 := Kept.mk B4
          have KB := Kept.mk hB
          clear hB B2 B4 B6 hadd
          go_wp2_with (first
            | (refine wpList_load_blk rfl 36 (.tmp 2) rfl w.heap.size rfl 36 (chW out) K2.out _ Try.underlying36 rfl (info_size infoR5) ?_)
            | (refine wpList_store_blk rfl 36 (.tmp 4) (.tmp 35) rfl rfl (w.heap.size + 1) rfl 36 zW (chW out) rfl K4.out rfl (info_size infoR5) (chW_one _) ?_))
          refine bodyPost_ret (v := chV out) ?_ rfl ⟨rfl, below_setRow KB.out (by omega) _⟩
          rw [chV_eq]
          refine results_blk Try.results22 _ _ (w.heap.size + 1) 36 (chW out) _ ?_ (K4.out.row _) Try.underlying36 rfl (info_size infoR5)
          rfl

end Sha1
end Go.Proofs.Ythkckmohhbddcaa
