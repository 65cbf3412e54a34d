/- The walk of the statement Sha1Steps. No condition. -/
import Derived.Test.YthkckmohhbddcaaSha1LawB
import Derived.Test.YthkckmohhbddcaaSha1Inv
import Derived.Test.YthkckmohhbddcaaArrEq
namespace Go.Proofs.Ythkckmohhbddcaa
open Go.RowKit
namespace Sha1
set_option linter.unusedSimpArgs false
set_option linter.unusedVariables false
set_option maxRecDepth 100000 in
set_option maxHeartbeats 4000000 in
theorem steps_law (w : World) (c : Ch) (hr : InR c) (s : ByteArray) (hs : s.size ≤ 9223372036854775807) (t : Int) (ht : (Lit.int .i64 t).wf = true) (v : Int) (hv : (Lit.int .u32 v).wf = true) :
    Calls Try.prog 6 #[chV c, .string s, .int .i64 t, .int .u32 v] w (TrueIs w) := by
  have hm : Try.prog.follows .mixedOrders = true := by kernel_rfl
  have hz5 := zero_run (P := Try.prog) info5
  obtain ⟨iU, hiU, -⟩ := Option.map_eq_some_iff.1 infoU32
  have hq80 : ∀ W : World, (Op.equalIn 10000 40 (.agg (numsV .u32 (expand s.data.toList)).toArray) (.agg (numsV .u32 (expand s.data.toList)).toArray)).run Try.prog W = .ok true W := fun W => run_equal_nums W 9998 80 40 35 iU .u32 Try.underlying40 hiU Try.underlying35 (by kernel_rfl) _ (expand_length _)
  have hq5 : ∀ (W : World) (x : Ch), (Op.equalIn 10000 36 (.agg (chW x).toArray) (.agg (chW x).toArray)).run Try.prog W = .ok true W := fun W x => run_equal_nums W 9998 5 36 35 iU .u32 Try.underlying36 hiU Try.underlying35 (by kernel_rfl) (chL x) rfl
  have hqC : ∀ (W : World) (x : Ch), (Op.equalIn 10000 37 (.agg (chW x).toArray) (.agg (chW x).toArray)).run Try.prog W = .ok true W := fun W x => run_equal_nums W 9998 5 37 35 iU .u32 Try.underlying37 hiU Try.underlying35 (by kernel_rfl) (chL x) rfl
  have hzR := zero_run (P := Try.prog) infoR5
  rw [chV_eq]
  go_enter Try.func6, Try.ntmps6
  go_wp2_with fail
  refine (awake_any _).mono ?_
  rintro e w1 ⟨rfl, h1⟩
  have hE1 : Ext w w1 := (Ext.alloc _ _).trans h1
  have hA : Blk w1 w.heap.size 36 (chW c) := (Blk.new w 36 (chW c)).ext h1
  have KA0 := Kept.mk hA
  have KE1 := Kept.mk hE1
  clear h1 hA hE1
  obtain ⟨M, hM⟩ : ∃ M : Int, M = if (79 : Int) < t then (79 : Int) else t := ⟨_, rfl⟩
  obtain ⟨U, hU⟩ : ∃ U : Int, U = if (0 : Int) < M then M else (0 : Int) := ⟨_, rfl⟩
  have hUc : U = max 0 (min t 79) := by
    rw [hU, hM]; split <;> split <;> omega
  have hmin := hM.symm
  have hmax := hU.symm
  have KSU := Kept.mk (show stepC c U v = stepC c t v by rw [hUc, step_clamp])
  have KBU := Kept.mk (show backC c U v = backC c t v by rw [hUc, back_clamp])
  clear hM hU hUc
  rcases (show s.size ≤ 200 ∨ 200 < s.size by omega) with hlt | hlt
  · have hltI : ¬ (s.size : Int) > 200 := by omega
    go_wp2_with (first
      | (refine wpList_load_blk rfl 36 (.tmp 4) rfl w.heap.size rfl 36 (chW c) KA0.out _ Try.underlying36 rfl (info_size infoR5) ?_)
      | (refine wpList_load_blk rfl 36 (.tmp 4) rfl w.heap.size rfl 36 (chW c) (KA0.out.old _) _ Try.underlying36 rfl (info_size infoR5) ?_)
      | (refine wpList_store_new rfl 37 (.tmp 10) (.tmp 19) rfl rfl rfl 37 zW (chW c) rfl rfl (info_size info5) (chW_one _) ?_))
    have hb3 := Blk.new w1 37 (chW c)
    have ha3 := KA0.out.old (.cells (chW c).toArray 37)
    have hE3 : Ext w (w1.alloc (.cells (chW c).toArray 37)) := KE1.out.trans (Ext.alloc _ _)
    generalize (w1.alloc (.cells (chW c).toArray 37)) = w3 at hb3 ha3 hE3 ⊢
    generalize w1.heap.size = g at hb3 ⊢
    generalize w.heap.size = g0 at ha3 ⊢
    have KB := Kept.mk hb3
    have KA := Kept.mk ha3
    have KE := Kept.mk hE3
    clear hb3 ha3 hE3 KA0 KE1
    refine wp_region_calm Ext 59 ([] :: [(20, 0)] :: [] :: [(22, 2)] :: [(21, 1), (23, 3)] :: [(24, 4)] :: [(25, 5)] :: [(25, 5)] :: [(25, 5)] :: [(26, 6), (27, 7), (28, 8), (25, 5)] :: [(25, 5)] :: [(25, 5)] :: [(25, 5)] :: [(30, 10), (31, 11), (32, 12), (25, 5)] :: [(29, 9), (33, 13), (25, 5)] :: [(25, 5), (34, 14)] :: [(35, 15)] :: [(36, 16)] :: [(36, 16)] :: [(36, 16)] :: [(37, 17), (38, 18), (39, 19), (36, 16)] :: [(36, 16)] :: [(36, 16)] :: [(36, 16)] :: [(41, 21), (42, 22), (43, 23), (36, 16)] :: [(40, 20), (44, 24), (36, 16)] :: [(36, 16), (45, 25)] :: [(46, 26)] :: [(47, 27)] :: [(47, 27)] :: [(47, 27)] :: [(48, 28), (49, 29), (50, 30), (47, 27)] :: [(47, 27)] :: [(47, 27)] :: [(51, 31), (52, 32), (53, 33), (47, 27)] :: [(47, 27)] :: [(54, 34), (55, 35), (47, 27)] :: [(47, 27), (56, 36)] :: [(57, 37)] :: [(58, 38)] :: [(58, 38)] :: [(58, 38)] :: [(59, 39), (60, 40), (61, 41), (58, 38)] :: [(58, 38)] :: [(58, 38)] :: [(62, 42), (63, 43), (64, 44), (58, 38)] :: [(58, 38)] :: [(65, 45), (66, 46), (58, 38)] :: [(58, 38), (67, 47)] :: [(68, 48)] :: [(69, 49)] :: [(69, 49)] :: [(70, 50), (71, 51), (69, 49)] :: [(69, 49)] :: [(69, 49)] :: [(73, 53), (74, 54), (69, 49)] :: [(72, 52), (75, 55), (69, 49)] :: [(69, 49), (76, 56)] :: [(77, 57)] :: [])
      ((20, 0) :: (21, 1) :: (22, 2) :: (23, 3) :: (24, 4) :: (25, 5) :: (26, 6) :: (27, 7) :: (28, 8) :: (29, 9) :: (30, 10) :: (31, 11) :: (32, 12) :: (33, 13) :: (34, 14) :: (35, 15) :: (36, 16) :: (37, 17) :: (38, 18) :: (39, 19) :: (40, 20) :: (41, 21) :: (42, 22) :: (43, 23) :: (44, 24) :: (45, 25) :: (46, 26) :: (47, 27) :: (48, 28) :: (49, 29) :: (50, 30) :: (51, 31) :: (52, 32) :: (53, 33) :: (54, 34) :: (55, 35) :: (56, 36) :: (57, 37) :: (58, 38) :: (59, 39) :: (60, 40) :: (61, 41) :: (62, 42) :: (63, 43) :: (64, 44) :: (65, 45) :: (66, 46) :: (67, 47) :: (68, 48) :: (69, 49) :: (70, 50) :: (71, 51) :: (72, 52) :: (73, 53) :: (74, 54) :: (75, 55) :: (76, 56) :: (77, 57) :: (8, 58) :: [])
      (EqV (.string s) :: EqV (.agg (numsV .u32 (expand s.data.toList)).toArray) :: EqV (.string s) :: EqV (.agg (numsV .u32 (expand s.data.toList)).toArray) :: EqV (.bool true) :: EqV (.bool true) :: EqV (.agg (chW c).toArray) :: EqV ?pce7 :: EqV ?pce8 :: EqV (.agg (chW (stepC c t v)).toArray) :: EqV (.agg (chW c).toArray) :: EqV ?pce11 :: EqV ?pce12 :: EqV (.agg (chW (stepC c t v)).toArray) :: EqV (.bool true) :: EqV (.bool true) :: EqV (.bool true) :: EqV (.agg (chW c).toArray) :: EqV ?pce18 :: EqV ?pce19 :: EqV (.agg (chW (backC c t v)).toArray) :: EqV (.agg (chW c).toArray) :: EqV ?pce22 :: EqV ?pce23 :: EqV (.agg (chW (backC c t v)).toArray) :: EqV (.bool true) :: EqV (.bool true) :: EqV (.bool true) :: EqV (.agg (chW c).toArray) :: EqV ?pce29 :: EqV ?pce30 :: EqV (.agg (chW (stepC c t v)).toArray) :: EqV ?pce32 :: EqV ?pce33 :: EqV (.agg (chW c).toArray) :: EqV (.agg (chW c).toArray) :: EqV (.bool true) :: EqV (.bool true) :: EqV (.bool true) :: EqV (.agg (chW c).toArray) :: EqV ?pce40 :: EqV ?pce41 :: EqV (.agg (chW (backC c t v)).toArray) :: EqV ?pce43 :: EqV ?pce44 :: EqV (.agg (chW c).toArray) :: EqV (.agg (chW c).toArray) :: EqV (.bool true) :: EqV (.bool true) :: EqV (.bool true) :: EqV (.agg (chW c).toArray) :: EqV ?pce51 :: EqV (.agg (chW (pressC c s.data.toList)).toArray) :: EqV (.agg (chW c).toArray) :: EqV ?pce54 :: EqV (.agg (chW (pressC c s.data.toList)).toArray) :: EqV (.bool true) :: EqV (.bool true) :: EqV (.bool true) :: []) hm (by kernel_rfl) Ext.refl (fun _ _ _ => Ext.trans) Ext.drew
      (MonoL.at (MonoL.eq _ (MonoL.eq _ (MonoL.eq _ (MonoL.eq _ (MonoL.eq _ (MonoL.eq _ (MonoL.eq _ (MonoL.eq _ (MonoL.eq _ (MonoL.eq _ (MonoL.eq _ (MonoL.eq _ (MonoL.eq _ (MonoL.eq _ (MonoL.eq _ (MonoL.eq _ (MonoL.eq _ (MonoL.eq _ (MonoL.eq _ (MonoL.eq _ (MonoL.eq _ (MonoL.eq _ (MonoL.eq _ (MonoL.eq _ (MonoL.eq _ (MonoL.eq _ (MonoL.eq _ (MonoL.eq _ (MonoL.eq _ (MonoL.eq _ (MonoL.eq _ (MonoL.eq _ (MonoL.eq _ (MonoL.eq _ (MonoL.eq _ (MonoL.eq _ (MonoL.eq _ (MonoL.eq _ (MonoL.eq _ (MonoL.eq _ (MonoL.eq _ (MonoL.eq _ (MonoL.eq _ (MonoL.eq _ (MonoL.eq _ (MonoL.eq _ (MonoL.eq _ (MonoL.eq _ (MonoL.eq _ (MonoL.eq _ (MonoL.eq _ (MonoL.eq _ (MonoL.eq _ (MonoL.eq _ (MonoL.eq _ (MonoL.eq _ (MonoL.eq _ (MonoL.eq _ (MonoL.eq _ (MonoL.nil))))))))))))))))))))))))))))))))))))))))))))))))))))))))))))) ?pcalmOps ?pcalmDone
    case pcalmOps =>
      intro vs
      refine (CalmOps.cons ?_ (CalmOps.cons ?_ (CalmOps.cons ?_ (CalmOps.cons ?_ (CalmOps.cons ?_ (CalmOps.cons ?_ (CalmOps.cons ?_ (CalmOps.cons ?_ (CalmOps.cons ?_ (CalmOps.cons ?_ (CalmOps.cons ?_ (CalmOps.cons ?_ (CalmOps.cons ?_ (CalmOps.cons ?_ (CalmOps.cons ?_ (CalmOps.cons ?_ (CalmOps.cons ?_ (CalmOps.cons ?_ (CalmOps.cons ?_ (CalmOps.cons ?_ (CalmOps.cons ?_ (CalmOps.cons ?_ (CalmOps.cons ?_ (CalmOps.cons ?_ (CalmOps.cons ?_ (CalmOps.cons ?_ (CalmOps.cons ?_ (CalmOps.cons ?_ (CalmOps.cons ?_ (CalmOps.cons ?_ (CalmOps.cons ?_ (CalmOps.cons ?_ (CalmOps.cons ?_ (CalmOps.cons ?_ (CalmOps.cons ?_ (CalmOps.cons ?_ (CalmOps.cons ?_ (CalmOps.cons ?_ (CalmOps.cons ?_ (CalmOps.cons ?_ (CalmOps.cons ?_ (CalmOps.cons ?_ (CalmOps.cons ?_ (CalmOps.cons ?_ (CalmOps.cons ?_ (CalmOps.cons ?_ (CalmOps.cons ?_ (CalmOps.cons ?_ (CalmOps.cons ?_ (CalmOps.cons ?_ (CalmOps.cons ?_ (CalmOps.cons ?_ (CalmOps.cons ?_ (CalmOps.cons ?_ (CalmOps.cons ?_ (CalmOps.cons ?_ (CalmOps.cons ?_ (CalmOps.cons ?_ (CalmOps.cons ?_ trivial)))))))))))))))))))))))))))))))))))))))))))))))))))))))))))
      · intro w6 hR hL; simp [Look, VAt, EqV] at hL; simp [Guarded, setAll, bare, hL]; go_wp2_with fail; exact CalmPost.mk (by simp) rfl (Ext.refl _)
      · intro w6 hR hL; simp [Look, VAt, EqV] at hL; simp [Guarded, setAll, bare, hL]; go_wp2_with fail; refine (expand_any s hs _).mono ?_; rintro ee ww ⟨rfl, hbb⟩; go_wp2_with fail; exact CalmPost.mk (by simp) rfl hbb
      · intro w6 hR hL; simp [Look, VAt, EqV] at hL; simp [Guarded, setAll, bare, hL]; go_wp2_with fail; exact CalmPost.mk (by simp) rfl (Ext.refl _)
      · intro w6 hR hL; simp [Look, VAt, EqV] at hL; simp [Guarded, setAll, bare, hL]; go_wp2_with fail; refine (refExpand_any s hs _).mono ?_; rintro ee ww ⟨rfl, hbb⟩; go_wp2_with fail; exact CalmPost.mk (by simp) rfl hbb
      · intro w6 hR hL; simp [Look, VAt, EqV] at hL; simp [Guarded, setAll, bare, hL]; go_wp2_with fail; all_goals (exact CalmPost.mk (by simp) rfl (Ext.refl _))
      · intro w6 hR hL; simp [Look, VAt, EqV] at hL; simp [Guarded, setAll, bare, hL]; go_wp2_with fail; exact CalmPost.mk (by simp) rfl (Ext.refl _)
      · intro w6 hR hL; simp [Look, VAt, EqV] at hL; simp [Guarded, setAll, bare, hL]; go_wp2_with (refine wpList_load_blk rfl 37 (.tmp 10) rfl g rfl 37 (chW c) (KB.out.ext hR) _ Try.underlying37 rfl (info_size info5) ?_); exact CalmPost.mk (by simp) rfl (Ext.refl _)
      · intro w6 hR hL; simp [Look, VAt, EqV] at hL; simp [Guarded, setAll, bare, hL]; go_wp2_with fail; exact CalmPost.mk (by simp; rfl) rfl (Ext.refl _)
      · intro w6 hR hL; simp [Look, VAt, EqV] at hL; simp [Guarded, setAll, bare, hL]; go_wp2_with fail; exact CalmPost.mk (by simp; rfl) rfl (Ext.refl _)
      · intro w6 hR hL; simp [Look, VAt, EqV] at hL; simp [Guarded, setAll, bare, hL]; go_wp2_with fail; refine (step_any c t v _).mono ?_; rintro ee ww ⟨rfl, hbb⟩; rw [chV_eq]; go_wp2_with fail; exact CalmPost.mk (by simp) rfl hbb
      · intro w6 hR hL; simp [Look, VAt, EqV] at hL; simp [Guarded, setAll, bare, hL]; go_wp2_with (refine wpList_load_blk rfl 36 (.tmp 4) rfl g0 rfl 36 (chW c) (KA.out.ext hR) _ Try.underlying36 rfl (info_size infoR5) ?_); exact CalmPost.mk (by simp) rfl (Ext.refl _)
      · intro w6 hR hL; simp [Look, VAt, EqV] at hL; simp [Guarded, setAll, bare, hL]; go_wp2_with fail; exact CalmPost.mk (by simp; rfl) rfl (Ext.refl _)
      · intro w6 hR hL; simp [Look, VAt, EqV] at hL; simp [Guarded, setAll, bare, hL]; go_wp2_with fail; exact CalmPost.mk (by simp; rfl) rfl (Ext.refl _)
      · intro w6 hR hL; simp [Look, VAt, EqV] at hL; simp [Guarded, setAll, bare, hL]; go_wp2_with fail; refine (refStep_any c U v _).mono ?_; rintro ee ww ⟨rfl, hbb⟩; rw [KSU.out, chV_eq]; go_wp2_with fail; exact CalmPost.mk (by simp) rfl hbb
      · intro w6 hR hL; simp [Look, VAt, EqV] at hL; simp [Guarded, setAll, bare, hL]; go_wp2_with fail; all_goals (exact CalmPost.mk (by simp) rfl (Ext.refl _))
      · intro w6 hR hL; simp [Look, VAt, EqV] at hL; simp [Guarded, setAll, bare, hL]; go_wp2_with fail; exact CalmPost.mk (by simp) rfl (Ext.refl _)
      · intro w6 hR hL; simp [Look, VAt, EqV] at hL; simp [Guarded, setAll, bare, hL]; go_wp2_with fail; exact CalmPost.mk (by simp) rfl (Ext.refl _)
      · intro w6 hR hL; simp [Look, VAt, EqV] at hL; simp [Guarded, setAll, bare, hL]; go_wp2_with (refine wpList_load_blk rfl 37 (.tmp 10) rfl g rfl 37 (chW c) (KB.out.ext hR) _ Try.underlying37 rfl (info_size info5) ?_); exact CalmPost.mk (by simp) rfl (Ext.refl _)
      · intro w6 hR hL; simp [Look, VAt, EqV] at hL; simp [Guarded, setAll, bare, hL]; go_wp2_with fail; exact CalmPost.mk (by simp; rfl) rfl (Ext.refl _)
      · intro w6 hR hL; simp [Look, VAt, EqV] at hL; simp [Guarded, setAll, bare, hL]; go_wp2_with fail; exact CalmPost.mk (by simp; rfl) rfl (Ext.refl _)
      · intro w6 hR hL; simp [Look, VAt, EqV] at hL; simp [Guarded, setAll, bare, hL]; go_wp2_with fail; refine (back_any c t v _).mono ?_; rintro ee ww ⟨rfl, hbb⟩; rw [chV_eq]; go_wp2_with fail; exact CalmPost.mk (by simp) rfl hbb
      · intro w6 hR hL; simp [Look, VAt, EqV] at hL; simp [Guarded, setAll, bare, hL]; go_wp2_with (refine wpList_load_blk rfl 36 (.tmp 4) rfl g0 rfl 36 (chW c) (KA.out.ext hR) _ Try.underlying36 rfl (info_size infoR5) ?_); exact CalmPost.mk (by simp) rfl (Ext.refl _)
      · intro w6 hR hL; simp [Look, VAt, EqV] at hL; simp [Guarded, setAll, bare, hL]; go_wp2_with fail; exact CalmPost.mk (by simp; rfl) rfl (Ext.refl _)
      · intro w6 hR hL; simp [Look, VAt, EqV] at hL; simp [Guarded, setAll, bare, hL]; go_wp2_with fail; exact CalmPost.mk (by simp; rfl) rfl (Ext.refl _)
      · intro w6 hR hL; simp [Look, VAt, EqV] at hL; simp [Guarded, setAll, bare, hL]; go_wp2_with fail; refine (refBack_any c U v _).mono ?_; rintro ee ww ⟨rfl, hbb⟩; rw [KBU.out, chV_eq]; go_wp2_with fail; exact CalmPost.mk (by simp) rfl hbb
      · intro w6 hR hL; simp [Look, VAt, EqV] at hL; simp [Guarded, setAll, bare, hL]; go_wp2_with fail; all_goals (exact CalmPost.mk (by simp) rfl (Ext.refl _))
      · intro w6 hR hL; simp [Look, VAt, EqV] at hL; simp [Guarded, setAll, bare, hL]; go_wp2_with fail; exact CalmPost.mk (by simp) rfl (Ext.refl _)
      · intro w6 hR hL; simp [Look, VAt, EqV] at hL; simp [Guarded, setAll, bare, hL]; go_wp2_with fail; exact CalmPost.mk (by simp) rfl (Ext.refl _)
      · intro w6 hR hL; simp [Look, VAt, EqV] at hL; simp [Guarded, setAll, bare, hL]; go_wp2_with (refine wpList_load_blk rfl 37 (.tmp 10) rfl g rfl 37 (chW c) (KB.out.ext hR) _ Try.underlying37 rfl (info_size info5) ?_); exact CalmPost.mk (by simp) rfl (Ext.refl _)
      · intro w6 hR hL; simp [Look, VAt, EqV] at hL; simp [Guarded, setAll, bare, hL]; go_wp2_with fail; exact CalmPost.mk (by simp; rfl) rfl (Ext.refl _)
      · intro w6 hR hL; simp [Look, VAt, EqV] at hL; simp [Guarded, setAll, bare, hL]; go_wp2_with fail; exact CalmPost.mk (by simp; rfl) rfl (Ext.refl _)
      · intro w6 hR hL; simp [Look, VAt, EqV] at hL; simp [Guarded, setAll, bare, hL]; go_wp2_with fail; refine (step_any c t v _).mono ?_; rintro ee ww ⟨rfl, hbb⟩; rw [chV_eq]; go_wp2_with fail; exact CalmPost.mk (by simp) rfl hbb
      · intro w6 hR hL; simp [Look, VAt, EqV] at hL; simp [Guarded, setAll, bare, hL]; go_wp2_with fail; exact CalmPost.mk (by simp; rfl) rfl (Ext.refl _)
      · intro w6 hR hL; simp [Look, VAt, EqV] at hL; simp [Guarded, setAll, bare, hL]; go_wp2_with fail; exact CalmPost.mk (by simp; rfl) rfl (Ext.refl _)
      · intro w6 hR hL; simp [Look, VAt, EqV] at hL; simp [Guarded, setAll, bare, hL]; go_wp2_with fail; refine (back_any (stepC c t v) t v _).mono ?_; rintro ee ww ⟨rfl, hbb⟩; rw [back_step c t v hr.2.1 hr.2.2.2.2, chV_eq]; go_wp2_with fail; exact CalmPost.mk (by simp) rfl hbb
      · intro w6 hR hL; simp [Look, VAt, EqV] at hL; simp [Guarded, setAll, bare, hL]; go_wp2_with (refine wpList_load_blk rfl 37 (.tmp 10) rfl g rfl 37 (chW c) (KB.out.ext hR) _ Try.underlying37 rfl (info_size info5) ?_); exact CalmPost.mk (by simp) rfl (Ext.refl _)
      · intro w6 hR hL; simp [Look, VAt, EqV] at hL; simp [Guarded, setAll, bare, hL]; go_wp2_with fail; all_goals (exact CalmPost.mk (by simp) rfl (Ext.refl _))
      · intro w6 hR hL; simp [Look, VAt, EqV] at hL; simp [Guarded, setAll, bare, hL]; go_wp2_with fail; exact CalmPost.mk (by simp) rfl (Ext.refl _)
      · intro w6 hR hL; simp [Look, VAt, EqV] at hL; simp [Guarded, setAll, bare, hL]; go_wp2_with fail; exact CalmPost.mk (by simp) rfl (Ext.refl _)
      · intro w6 hR hL; simp [Look, VAt, EqV] at hL; simp [Guarded, setAll, bare, hL]; go_wp2_with (refine wpList_load_blk rfl 37 (.tmp 10) rfl g rfl 37 (chW c) (KB.out.ext hR) _ Try.underlying37 rfl (info_size info5) ?_); exact CalmPost.mk (by simp) rfl (Ext.refl _)
      · intro w6 hR hL; simp [Look, VAt, EqV] at hL; simp [Guarded, setAll, bare, hL]; go_wp2_with fail; exact CalmPost.mk (by simp; rfl) rfl (Ext.refl _)
      · intro w6 hR hL; simp [Look, VAt, EqV] at hL; simp [Guarded, setAll, bare, hL]; go_wp2_with fail; exact CalmPost.mk (by simp; rfl) rfl (Ext.refl _)
      · intro w6 hR hL; simp [Look, VAt, EqV] at hL; simp [Guarded, setAll, bare, hL]; go_wp2_with fail; refine (back_any c t v _).mono ?_; rintro ee ww ⟨rfl, hbb⟩; rw [chV_eq]; go_wp2_with fail; exact CalmPost.mk (by simp) rfl hbb
      · intro w6 hR hL; simp [Look, VAt, EqV] at hL; simp [Guarded, setAll, bare, hL]; go_wp2_with fail; exact CalmPost.mk (by simp; rfl) rfl (Ext.refl _)
      · intro w6 hR hL; simp [Look, VAt, EqV] at hL; simp [Guarded, setAll, bare, hL]; go_wp2_with fail; exact CalmPost.mk (by simp; rfl) rfl (Ext.refl _)
      · intro w6 hR hL; simp [Look, VAt, EqV] at hL; simp [Guarded, setAll, bare, hL]; go_wp2_with fail; refine (step_any (backC c t v) t v _).mono ?_; rintro ee ww ⟨rfl, hbb⟩; rw [step_back c t v hr.1 hr.2.2.1, chV_eq]; go_wp2_with fail; exact CalmPost.mk (by simp) rfl hbb
      · intro w6 hR hL; simp [Look, VAt, EqV] at hL; simp [Guarded, setAll, bare, hL]; go_wp2_with (refine wpList_load_blk rfl 37 (.tmp 10) rfl g rfl 37 (chW c) (KB.out.ext hR) _ Try.underlying37 rfl (info_size info5) ?_); exact CalmPost.mk (by simp) rfl (Ext.refl _)
      · intro w6 hR hL; simp [Look, VAt, EqV] at hL; simp [Guarded, setAll, bare, hL]; go_wp2_with fail; all_goals (exact CalmPost.mk (by simp) rfl (Ext.refl _))
      · intro w6 hR hL; simp [Look, VAt, EqV] at hL; simp [Guarded, setAll, bare, hL]; go_wp2_with fail; exact CalmPost.mk (by simp) rfl (Ext.refl _)
      · intro w6 hR hL; simp [Look, VAt, EqV] at hL; simp [Guarded, setAll, bare, hL]; go_wp2_with fail; exact CalmPost.mk (by simp) rfl (Ext.refl _)
      · intro w6 hR hL; simp [Look, VAt, EqV] at hL; simp [Guarded, setAll, bare, hL]; go_wp2_with (refine wpList_load_blk rfl 37 (.tmp 10) rfl g rfl 37 (chW c) (KB.out.ext hR) _ Try.underlying37 rfl (info_size info5) ?_); exact CalmPost.mk (by simp) rfl (Ext.refl _)
      · intro w6 hR hL; simp [Look, VAt, EqV] at hL; simp [Guarded, setAll, bare, hL]; go_wp2_with fail; exact CalmPost.mk (by simp; rfl) rfl (Ext.refl _)
      · intro w6 hR hL; simp [Look, VAt, EqV] at hL; simp [Guarded, setAll, bare, hL]; go_wp2_with fail; refine (press_any c s hs _).mono ?_; rintro ee ww ⟨rfl, hbb⟩; rw [chV_eq]; go_wp2_with fail; exact CalmPost.mk (by simp) rfl hbb
      · intro w6 hR hL; simp [Look, VAt, EqV] at hL; simp [Guarded, setAll, bare, hL]; go_wp2_with (refine wpList_load_blk rfl 36 (.tmp 4) rfl g0 rfl 36 (chW c) (KA.out.ext hR) _ Try.underlying36 rfl (info_size infoR5) ?_); exact CalmPost.mk (by simp) rfl (Ext.refl _)
      · intro w6 hR hL; simp [Look, VAt, EqV] at hL; simp [Guarded, setAll, bare, hL]; go_wp2_with fail; exact CalmPost.mk (by simp; rfl) rfl (Ext.refl _)
      · intro w6 hR hL; simp [Look, VAt, EqV] at hL; simp [Guarded, setAll, bare, hL]; go_wp2_with fail; refine (refPress_any c s hs _).mono ?_; rintro ee ww ⟨rfl, hbb⟩; rw [chV_eq]; go_wp2_with fail; exact CalmPost.mk (by simp) rfl hbb
      · intro w6 hR hL; simp [Look, VAt, EqV] at hL; simp [Guarded, setAll, bare, hL]; go_wp2_with fail; all_goals (exact CalmPost.mk (by simp) rfl (Ext.refl _))
      · intro w6 hR hL; simp [Look, VAt, EqV] at hL; simp [Guarded, setAll, bare, hL]; go_wp2_with fail; exact CalmPost.mk (by simp) rfl (Ext.refl _)
      · intro w6 hR hL; simp [Look, VAt, EqV] at hL; simp [Guarded, setAll, bare, hL]; go_wp2_with fail; exact CalmPost.mk (by simp) rfl (Ext.refl _)
    case pcalmDone =>
      intro vs w6 hR hL; simp [Look, VAt, EqV] at hL; simp [setAll, hL]; clear hL
      go_wp2_with fail
      go_ret
      exact ⟨rfl, KE.out.trans hR⟩
  · have hltI : (s.size : Int) > 200 := by omega
    go_wp2_with fail
    go_ret
    exact ⟨rfl, KE1.out⟩
/-- The same, the chain as it comes in. -/
theorem steps_law2 (w : World) (xs : List Int) (hl : xs.length = 5) (hx : ∀ x ∈ xs, (Lit.int .u32 x).wf = true) (s : ByteArray) (hs : s.size ≤ 9223372036854775807) (t : Int) (ht : (Lit.int .i64 t).wf = true) (v : Int) (hv : (Lit.int .u32 v).wf = true) :
    Calls Try.prog 6 #[.agg (numsV .u32 xs).toArray, .string s, .int .i64 t, .int .u32 v] w (TrueIs w) := by
  match xs, hl with
  | [a, b, c, d, e], _ =>
    have hr : ∀ x ∈ [a, b, c, d, e], 0 ≤ x ∧ x < 4294967296 := fun x h => by
      have := hx x h
      simp [Lit.wf, IntKind.min, IntKind.max, IntKind.signed, IntKind.bits] at this
      omega
    exact steps_law w ⟨a, b, c, d, e⟩ ⟨hr a (by simp), hr b (by simp), hr c (by simp), hr d (by simp), hr e (by simp)⟩ s hs t ht v hv
end Sha1
end Go.Proofs.Ythkckmohhbddcaa
