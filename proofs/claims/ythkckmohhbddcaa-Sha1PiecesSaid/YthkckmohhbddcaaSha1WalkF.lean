/- The walk of SHA-1's press of a block into a chain. No condition. -/
import Derived.Test.YthkckmohhbddcaaSha1WalkE
namespace Go.Proofs.Ythkckmohhbddcaa
open Go.RowKit
namespace Sha1

def chW (x : Ch) : List Value := numsV .u32 (chL x)
theorem chV_eq (x : Ch) : chV x = .agg (chW x).toArray := rfl
def zW : List Value := [.int .u32 0, .int .u32 0, .int .u32 0, .int .u32 0, .int .u32 0]
theorem info5 : (Try.prog.info? 37).map (fun i => (i.zero, i.size, i.bytes)) = some (some (.agg zW.toArray), 5, 20) := by kernel_rfl
theorem infoR5 : (Try.prog.info? 36).map (fun i => (i.zero, i.size, i.bytes)) = some (some (.agg zW.toArray), 5, 20) := by kernel_rfl
theorem infoU32 : (Try.prog.info? 35).map (fun i => (i.zero, i.size, i.bytes)) = some (some (.int .u32 0), 1, 4) := by kernel_rfl
theorem chW_one (x : Ch) : (chW x).all (·.oneCell') = true := rfl
set_option linter.unusedSimpArgs false
set_option linter.unusedVariables false
set_option maxRecDepth 100000 in
set_option maxHeartbeats 2000000 in
theorem press_any (c : Ch) (s : ByteArray) (hs : s.size ≤ 9223372036854775807) (w : World) : Calls Try.prog 15 #[chV c, .string s] w (ChIs w (pressC c s.data.toList)) := by
  have hz80 := zero_run (P := Try.prog) info80
  have hel := expand_length s.data.toList
  have HP := Kept.mk (show pressC c s.data.toList = addC c (runC c 0 (expand s.data.toList)) from rfl)
  generalize pressC c s.data.toList = out at HP
  rw [chV_eq]
  go_enter Try.func15, Try.ntmps15
  go_wp2_with fail
  refine (expand_any s hs _).mono ?_
  rintro e w2 ⟨rfl, h2⟩
  generalize expand s.data.toList = ws at hel HP ⊢
  have HE := Kept.mk hel
  have B2 : Blk w2 w.heap.size 37 (chW c) := ((Blk.new w 37 (chW c)).old _).ext h2
  have B4 : Blk w2 (w.heap.size + 1) 37 zW := by
    have := (Blk.new (w.alloc (.cells (chW c).toArray 37)) 37 zW).ext h2
    simpa using this
  have hB : Below w.heap.size w w2 := (Ext.alloc w _).trans ((Ext.alloc _ _).trans h2)
  have hlt := B4.lt
  have K2 := Kept.mk B2
  have K4 := Kept.mk B4
  have KB := Kept.mk hB
  clear h2 B2 B4 hB hel
  go_wp2_with (first
    | (refine wpList_store_new (w := w2) rfl 41 (.tmp 5) (.tmp 12) rfl rfl rfl 41 (numsV .u32 z80) (numsV .u32 ws) rfl (by rw [numsV_length, numsV_length, HE.out]; rfl) (by rw [numsV_length, HE.out]; exact info_size info80) (numsV_one _ _) ?_)
    | (refine wpList_load_blk rfl 37 (.tmp 2) rfl w.heap.size rfl 37 (chW c) (K2.out.old _) _ Try.underlying37 rfl (info_size info5) ?_)
    | (refine wpList_store_new rfl 37 (.tmp 6) (.tmp 13) rfl rfl (by rw [World.size_alloc]; rfl) 37 zW (chW c) rfl rfl (info_size info5) (chW_one _) ?_)
    | (refine wpList_load_blk rfl 41 (.tmp 5) rfl w2.heap.size rfl 41 (numsV .u32 ws) ((Blk.new w2 _ _).old _) _ Try.underlying41 rfl (by rw [numsV_length, HE.out]; exact info_size info80) ?_))
  have B2 : Blk ((w2.alloc (.cells (numsV .u32 ws).toArray 41)).alloc (.cells (chW c).toArray 37)) w.heap.size 37 (chW c) := (K2.out.old _).old _
  have B4 : Blk ((w2.alloc (.cells (numsV .u32 ws).toArray 41)).alloc (.cells (chW c).toArray 37)) (w.heap.size + 1) 37 zW := (K4.out.old _).old _
  have B6 : Blk ((w2.alloc (.cells (numsV .u32 ws).toArray 41)).alloc (.cells (chW c).toArray 37)) (w2.heap.size + 1) 37 (chW c) := by
    have := Blk.new (w2.alloc (.cells (numsV .u32 ws).toArray 41)) 37 (chW c)
    rwa [World.size_alloc] at this
  have hB : Below w.heap.size w ((w2.alloc (.cells (numsV .u32 ws).toArray 41)).alloc (.cells (chW c).toArray 37)) := (KB.out.alloc (by omega) _).alloc (by rw [World.size_alloc]; omega) _
  generalize ((w2.alloc (.cells (numsV .u32 ws).toArray 41)).alloc (.cells (chW c).toArray 37)) = w3 at B2 B4 B6 hB ⊢
  clear K2 K4 KB
  have hg : w.heap.size + 1 < w2.heap.size + 1 := by omega
  generalize w2.heap.size + 1 = g at B6 hg ⊢
  obtain ⟨y, hy⟩ : ∃ y, y = runC c 0 ws := ⟨_, rfl⟩
  rw [← hy] at HP
  go_loopg [7, 8, 15] 80 (fun r _ _ i wi => ∃ (k : Nat) (x : Ch), k + r = 80 ∧ i = .int .i64 (k : Int) ∧ runC x k (ws.drop k) = y ∧ Below w.heap.size w wi ∧ Blk wi w.heap.size 37 (chW c) ∧ Blk wi (w.heap.size + 1) 37 zW ∧ Blk wi g 37 (chW x))
  case atStart => exact ⟨0, c, rfl, rfl, by rw [hy]; rfl, hB, B2, B4, B6⟩
  case round =>
    clear B2 B4 B6 hB hy
    obtain ⟨k, x, hk, rfl, hrun, hB, B2, B4, B6⟩ := hrel
    by_cases hlt : k < 80
    · have hkI : (k : Int) < 80 := by omega
      have hix := run_index_nums (P := Try.prog) 41 35 80 4 .u32 Try.underlying41 infoU32 Try.underlying35 ws HE.out k hlt
      rw [runC_drop x k ws (by rw [HE.out]; exact hlt)] at hrun
      generalize ws.getD k 0 = v at hix hrun
      have KR := Kept.mk hrun
      have K2 := Kept.mk B2
      have K4 := Kept.mk B4
      have K6 := Kept.mk B6
      have KB := Kept.mk hB
      clear hrun B2 B4 B6 hB
      go_wp2_with (first
        | (refine wpList_load_blk rfl 37 (.tmp 6) rfl g rfl 37 (chW x) K6.out _ Try.underlying37 rfl (info_size info5) ?_)
        | (go_at_call 18; refine (step_any x k v _).mono ?_; rintro e w5 ⟨rfl, h5⟩)
        | (refine wpList_store_blk rfl 37 (.tmp 6) (.tmp 22) rfl rfl g rfl 37 (chW x) (chW (stepC x k v)) rfl (K6.out.ext h5) rfl (info_size info5) (chW_one _) ?_))
      go_roundg (gk - 1)
      case measure => omega
      case rel =>
        exact ⟨k + 1, stepC x k v, by omega, by go_num, KR.out, below_setRow (Ext.below KB.out h5) (by omega) _, (K2.out.ext h5).row_other _ (by omega), (K4.out.ext h5).row_other _ (by omega), (K6.out.ext h5).row _⟩
    · obtain rfl : k = 80 := by omega
      have hxy : x = y := by rw [← hrun, List.drop_eq_nil_of_le (by rw [HE.out]; omega)]; rfl
      subst hxy
      have K2 := Kept.mk B2
      have K4 := Kept.mk B4
      have K6 := Kept.mk B6
      have KB := Kept.mk hB
      clear hrun B2 B4 B6 hB
      go_wp2_with (refine wpList_load_blk rfl 37 (.tmp 6) rfl g rfl 37 (chW x) K6.out _ Try.underlying37 rfl (info_size info5) ?_)
      go_loopg [9, 10, 25] 5 (fun r _ _ i wi => ∃ (j : Nat), j + r = 5 ∧ i = .int .i64 (j : Int) ∧ Below w.heap.size w wi ∧ Blk wi w.heap.size 37 (numsV .u32 (addL c x j)) ∧ Blk wi (w.heap.size + 1) 37 zW)
      case atStart => exact ⟨0, rfl, rfl, KB.out, K2.out, K4.out⟩
      case round =>
        clear K2 K4 K6 KB
        obtain ⟨j, hj, rfl, hB, B2, B4⟩ := hrel
        by_cases hlt2 : j < 5
        · have hjI : (j : Int) < 5 := by omega
          have hix := run_index_nums (P := Try.prog) 37 35 5 4 .u32 Try.underlying37 infoU32 Try.underlying35 (chL x) rfl j hlt2
          have hc := B2.cell j
          rw [numsV_at _ _ _ (by rw [addL_length]; exact hlt2), addL_getD _ _ _ hlt2] at hc
          have hf := B2.free j
          have hset := B2.set j (.int .u32 (((chL c).getD j 0 + (chL x).getD j 0) % 4294967296))
          rw [numsV_set, addL_set _ _ _ hlt2] at hset
          have hset4 := B4.set_other ⟨w.heap.size, j, none⟩ (.int .u32 (((chL c).getD j 0 + (chL x).getD j 0) % 4294967296)) (by simp)
          change ∀ W, (Instr.index 37 (.agg (chW x).toArray) (.int .i64 (j : Int))).run Try.prog W = _ at hix
          generalize (chL x).getD j 0 = xv at hix hset hset4
          generalize (chL c).getD j 0 = cv at hc hset hset4
          have KS := Kept.mk hset
          have K4 := Kept.mk hset4
          have KB := Kept.mk hB
          clear hset hset4 hB B2 B4
          go_wp2_with fail
          go_roundg (gk - 1)
          case measure => omega
          case rel => exact ⟨j + 1, by omega, by go_num, KB.out.setCell (Nat.le_refl _) _, KS.out, K4.out⟩
        · obtain rfl : j = 5 := by omega
          have hadd : numsV .u32 (addL c x 5) = chW out := by rw [HP.out, addL_five]; rfl
          rw [hadd] at B2
          have K2 := Kept.mk B2
          have K4 := Kept.mk B4
          have KB := Kept.mk hB
          clear hB B2 B4 hadd
          go_wp2_with (first
            | (refine wpList_load_blk rfl 37 (.tmp 2) rfl w.heap.size rfl 37 (chW out) K2.out _ Try.underlying37 rfl (info_size info5) ?_)
            | (refine wpList_store_blk rfl 37 (.tmp 4) (.tmp 36) rfl rfl (w.heap.size + 1) rfl 37 zW (chW out) rfl K4.out rfl (info_size info5) (chW_one _) ?_))
          refine bodyPost_ret (v := chV out) ?_ rfl ⟨rfl, below_setRow KB.out (by omega) _⟩
          rw [chV_eq]
          refine results_blk Try.results15 _ _ (w.heap.size + 1) 37 (chW out) _ ?_ (K4.out.row _) Try.underlying37 rfl (info_size info5)
          rfl

end Sha1
end Go.Proofs.Ythkckmohhbddcaa
