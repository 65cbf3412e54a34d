/- The walk of the document's words of a block. No condition. -/
import Derived.Test.YthkckmohhbddcaaSha1WalkD
namespace Go.Proofs.Ythkckmohhbddcaa
open Go.RowKit
namespace Sha1

theorem infoR80 : (Try.prog.info? 40).map (fun i => (i.zero, i.size, i.bytes)) = some (some (.agg (numsV .u32 z80).toArray), 80, 320) := by kernel_rfl
set_option linter.unusedSimpArgs false
set_option linter.unusedVariables false
set_option maxRecDepth 100000 in
set_option maxHeartbeats 2000000 in
theorem refExpand_any (s : ByteArray) (hs : s.size ≤ 9223372036854775807) (w : World) : Calls Try.prog 17 #[.string s] w (WordsIs w (expand s.data.toList)) := by
  have hz := zero_run (P := Try.prog) infoR80
  have hm : Try.prog.follows .mixedOrders = true := by kernel_rfl
  go_enter Try.func17, Try.ntmps17
  go_wp2_with fail
  have hb0 : Blk ((w.alloc (.cells (numsV .u32 z80).toArray 40)).alloc (.cells (numsV .u32 z80).toArray 40)) (w.heap.size + 1) 40 (numsV .u32 z80) := by
    have := Blk.new (w.alloc (.cells (numsV .u32 z80).toArray 40)) 40 (numsV .u32 z80)
    simpa using this
  have hb1 : Blk ((w.alloc (.cells (numsV .u32 z80).toArray 40)).alloc (.cells (numsV .u32 z80).toArray 40)) w.heap.size 40 (numsV .u32 z80) := (Blk.new w _ _).old _
  have hB : Below w.heap.size w ((w.alloc (.cells (numsV .u32 z80).toArray 40)).alloc (.cells (numsV .u32 z80).toArray 40)) := ((Below.refl _ _).alloc (Nat.le_refl _) _).alloc (by simp) _
  generalize ((w.alloc (.cells (numsV .u32 z80).toArray 40)).alloc (.cells (numsV .u32 z80).toArray 40)) = w1 at hb0 hb1 hB ⊢
  go_loopg [4, 5] 16 (fun r i _ wr => ∃ k : Nat, k + r = 16 ∧ i = .int .i64 k ∧ Below w.heap.size w wr ∧ Blk wr (w.heap.size + 1) 40 (numsV .u32 (uws s.data.toList k 0)) ∧ Blk wr w.heap.size 40 (numsV .u32 z80))
  case atStart => exact ⟨0, by omega, rfl, hB, by rw [uws_zero]; exact hb0, hb1⟩
  case round =>
    clear hb0 hb1 hB
    obtain ⟨k, hk, rfl, hB, hb0, hb1⟩ := hrel
    obtain ⟨go, rfl⟩ : ∃ n : Nat, n = gk := ⟨_, rfl⟩
    by_cases hlt : k < 16
    · have hkI : (k : Int) < 16 := by omega
      go_wp2_with fail
      go_loopg [5] 4 (fun r i wi => ∃ j : Nat, j + r = 4 ∧ i = .int .i64 j ∧ Below w.heap.size w wi ∧ Blk wi (w.heap.size + 1) 40 (numsV .u32 (uws s.data.toList k j)) ∧ Blk wi w.heap.size 40 (numsV .u32 z80))
      case atStart => exact ⟨0, rfl, rfl, hB, hb0, hb1⟩
      case round =>
        clear hb0 hb1 hB
        obtain ⟨j, hj, rfl, hB, hb0, hb1⟩ := hrel
        by_cases hlt2 : j < 4
        · have hc : wr.cell? ⟨w.heap.size + 1, k, none⟩ = some (.int .u32 (iw s.data.toList k j)) := by
            rw [hb0.cell, numsV_at _ _ _ (by rw [uws_length]; omega), uws_getD _ _ _ (by omega)]
          have hf := hb0.free k
          have hir := iw_range s.data.toList k j (by omega)
          have hir2 := iw_range s.data.toList k (j + 1) (by omega)
          have hr0 := hir.1
          have hr1 : iw s.data.toList k j * 256 % 4294967296 = iw s.data.toList k j * 256 := by
            refine mod32 (by omega) ?_
            have := hir.2
            rcases (show j = 0 ∨ j = 1 ∨ j = 2 ∨ j = 3 by omega) with h | h | h | h <;> subst h <;> omega
          have hr2 : iw s.data.toList k (j + 1) % 4294967296 = iw s.data.toList k (j + 1) := by
            refine mod32 hir2.1 ?_
            have := hir2.2
            rcases (show j = 0 ∨ j = 1 ∨ j = 2 ∨ j = 3 by omega) with h | h | h | h <;> subst h <;> omega
          have hnx : iw s.data.toList k (j + 1) = iw s.data.toList k j * 256 + byt s.data.toList (4 * k + j) := rfl
          have hset1 := hb1.set_other ⟨w.heap.size + 1, k, none⟩ (.int .u32 (iw s.data.toList k j * 256)) (by simp)
          have hlen : s.data.toList.length = s.size := by simp
          by_cases hin : 4 * k + j < s.size
          · have hby := get_byte s (4 * k + j) hin
            have hset := (hb0.set k (.int .u32 (iw s.data.toList k j * 256))).set k (.int .u32 (iw s.data.toList k (j + 1)))
            rw [numsV_set, numsV_set, uws_set] at hset
            have hset2 := hset1.set_other ⟨w.heap.size + 1, k, none⟩ (.int .u32 (iw s.data.toList k (j + 1))) (by simp)
            have hinI : (4 * (k : Int)) + j < s.size := by omega
            have hr0' := (byt_range s.data.toList (4 * k + j)).1
            rw [← hnx.symm] at hr2
            have hbyr := byt_range s.data.toList (4 * k + j)
            generalize iw s.data.toList k (j + 1) = y at hset hset2 hr2 hnx
            generalize byt s.data.toList (4 * k + j) = c at hby hr2 hnx hr0' hbyr
            generalize iw s.data.toList k j = x at *
            have HB := Lib.hid hB
            have HS := Lib.hid hset
            have HS2 := Lib.hid hset2
            have HN := Kept.mk hnx
            clear hb0 hb1 hB hset hset1 hset2 hir hir2 hlen hnx hbyr
            go_wp2_with fail
            refine wp_region_calm DrewR 13 ([] :: [] :: [(29, 1)] :: [(30, 2)] :: [] :: [] :: [(33, 5)] :: [] :: [(34, 6), (35, 7)] :: [(32, 4), (36, 8)] :: [(37, 9)] :: [(31, 3), (38, 10)] :: [(28, 0)] :: [])
              ((28, 0) :: (29, 1) :: (30, 2) :: (31, 3) :: (32, 4) :: (33, 5) :: (34, 6) :: (35, 7) :: (36, 8) :: (37, 9) :: (38, 10) :: (39, 11) :: (40, 12) :: [])
              (EqV ?pce0 :: EqV ?pce1 :: EqV ?pce2 :: EqV ?pce3 :: EqV ?pce4 :: EqV ?pce5 :: EqV ?pce6 :: EqV ?pce7 :: EqV ?pce8 :: EqV ?pce9 :: EqV ?pce10 :: EqV ?pce11 :: EqV ?pce12 :: []) hm (by kernel_rfl) DrewR.refl DrewR.trans DrewR.drew
              (MonoL.at (MonoL.eq _ (MonoL.eq _ (MonoL.eq _ (MonoL.eq _ (MonoL.eq _ (MonoL.eq _ (MonoL.eq _ (MonoL.eq _ (MonoL.eq _ (MonoL.eq _ (MonoL.eq _ (MonoL.eq _ (MonoL.eq _ (MonoL.nil))))))))))))))) ?pcalmOps ?pcalmDone
            case pcalmOps =>
              intro vs
              refine (CalmOps.cons ?_ (CalmOps.cons ?_ (CalmOps.cons ?_ (CalmOps.cons ?_ (CalmOps.cons ?_ (CalmOps.cons ?_ (CalmOps.cons ?_ (CalmOps.cons ?_ (CalmOps.cons ?_ (CalmOps.cons ?_ (CalmOps.cons ?_ (CalmOps.cons ?_ (CalmOps.cons ?_ trivial)))))))))))))
              · intro w hR hL; obtain ⟨nd, rfl⟩ := hR; simp [Look, VAt, EqV] at hL; simp [Guarded, setAll, bare, hL]; go_wp2_with fail; exact CalmPost.mk (by simp; rfl) rfl (DrewR.refl _)
              · intro w hR hL; obtain ⟨nd, rfl⟩ := hR; simp [Look, VAt, EqV] at hL; simp [Guarded, setAll, bare, hL]; go_wp2_with fail; exact CalmPost.mk (by simp; rfl) rfl (DrewR.refl _)
              · intro w hR hL; obtain ⟨nd, rfl⟩ := hR; simp [Look, VAt, EqV] at hL; simp [Guarded, setAll, bare, hL]; go_wp2_with fail; exact CalmPost.mk (by simp; rfl) rfl (DrewR.refl _)
              · intro w hR hL; obtain ⟨nd, rfl⟩ := hR; simp [Look, VAt, EqV] at hL; simp [Guarded, setAll, bare, hL]; go_wp2_with fail; exact CalmPost.mk (by simp; rfl) rfl (DrewR.refl _)
              · intro w hR hL; obtain ⟨nd, rfl⟩ := hR; simp [Look, VAt, EqV] at hL; simp [Guarded, setAll, bare, hL]; go_wp2_with fail; exact CalmPost.mk (by simp; rfl) rfl (DrewR.refl _)
              · intro w hR hL; obtain ⟨nd, rfl⟩ := hR; simp [Look, VAt, EqV] at hL; simp [Guarded, setAll, bare, hL]; go_wp2_with fail; exact CalmPost.mk (by simp; rfl) rfl (DrewR.refl _)
              · intro w hR hL; obtain ⟨nd, rfl⟩ := hR; simp [Look, VAt, EqV] at hL; simp [Guarded, setAll, bare, hL]; go_wp2_with fail; exact CalmPost.mk (by simp; rfl) rfl (DrewR.refl _)
              · intro w hR hL; obtain ⟨nd, rfl⟩ := hR; simp [Look, VAt, EqV] at hL; simp [Guarded, setAll, bare, hL]; go_wp2_with fail; exact CalmPost.mk (by simp; rfl) rfl (DrewR.refl _)
              · intro w hR hL; obtain ⟨nd, rfl⟩ := hR; simp [Look, VAt, EqV] at hL; simp [Guarded, setAll, bare, hL]; go_wp2_with fail; exact CalmPost.mk (by simp; rfl) rfl (DrewR.refl _)
              · intro w hR hL; obtain ⟨nd, rfl⟩ := hR; simp [Look, VAt, EqV] at hL; simp [Guarded, setAll, bare, hL]; go_wp2_with fail; exact CalmPost.mk (by simp; rfl) rfl (DrewR.refl _)
              · intro w hR hL; obtain ⟨nd, rfl⟩ := hR; simp [Look, VAt, EqV] at hL; simp [Guarded, setAll, bare, hL]; go_wp2_with fail; exact CalmPost.mk (by simp; rfl) rfl (DrewR.refl _)
              · intro w hR hL; obtain ⟨nd, rfl⟩ := hR; simp [Look, VAt, EqV] at hL; simp [Guarded, setAll, bare, hL]; go_wp2_with fail; exact CalmPost.mk (by simp; rfl) rfl (DrewR.refl _)
              · intro w hR hL; obtain ⟨nd, rfl⟩ := hR; simp [Look, VAt, EqV] at hL; simp [Guarded, setAll, bare, hL]; go_wp2_with fail; exact CalmPost.mk (by simp; rfl) rfl (DrewR.refl _)
            case pcalmDone =>
              intro vs w6 hR hL; obtain ⟨nd, rfl⟩ := hR; simp [Look, VAt, EqV] at hL; simp [setAll, hL]; clear hL
              try rw [← HN.out]
              go_wp2_with fail
              go_roundg (gk - 1)
              case measure => omega
              case rel => exact ⟨j + 1, by omega, by go_num, (below_drewN (HB.out.setCell (by simp) _) nd).setCell (by simp) _, HS.out, HS2.out⟩
          · have hset := hb0.set k (.int .u32 (iw s.data.toList k (j + 1)))
            rw [numsV_set, uws_set1] at hset
            have hz0 := byt_behind s.data.toList (4 * k + j) (by omega)
            rw [hz0, Int.add_zero] at hnx
            rw [← hnx] at hset1
            have hninI : ¬ (4 * (k : Int)) + j < s.size := by omega
            generalize iw s.data.toList k (j + 1) = y at hset hset1 hr2 hnx
            generalize iw s.data.toList k j = x at *
            have HB := Lib.hid hB
            have HS := Lib.hid hset
            have HS2 := Lib.hid hset1
            have HN := Kept.mk hnx
            clear hb0 hb1 hB hset hset1 hir hir2 hlen hnx hz0 hr2
            go_wp2_with fail
            go_roundg (gk - 1)
            case measure => omega
            case rel => exact ⟨j + 1, by omega, by go_num, HB.out.setCell (by simp) _, by rw [← HN.out]; exact HS.out, by rw [← HN.out]; exact HS2.out⟩
        · obtain rfl : j = 4 := by omega
          rw [uws_next] at hb0
          have HB := Lib.hid hB
          have HS := Lib.hid hb0
          have HS2 := Lib.hid hb1
          clear hb0 hb1 hB
          go_wp2_with fail
          go_roundg (go - 1)
          case measure => omega
          case rel => exact ⟨k + 1, by omega, by go_num, HB.out, HS.out, HS2.out⟩
    · obtain rfl : k = 16 := by omega
      have hend := uws_end s.data.toList
      rw [hend] at hb0
      have hg0 : grow 64 (w16 s.data.toList) = expand s.data.toList := rfl
      have hw0 : (w16 s.data.toList).length = 16 := by simp [w16]
      generalize hO : expand s.data.toList = out at hg0
      have HO := Kept.mk hO
      clear hO
      generalize w16 s.data.toList = ws0 at hg0 hw0 hb0
      have HG := Lib.hid hg0
      have HW := Lib.hid hw0
      clear hend hg0 hw0
      go_wp2_with fail
      go_loopg [6] 64 (fun r i wi => ∃ (m : Nat) (ws : List Int), m + r = 64 ∧ i = .int .i64 ((m : Int) + 16) ∧ ws.length = m + 16 ∧ grow r ws = out ∧ Below w.heap.size w wi ∧ Blk wi (w.heap.size + 1) 40 (numsV .u32 (ws ++ List.replicate r 0)) ∧ Blk wi w.heap.size 40 (numsV .u32 z80))
      case atStart => exact ⟨0, ws0, rfl, rfl, HW.out, HG.out, hB, hb0, hb1⟩
      case round =>
        clear hb0 hb1 hB HG HW
        obtain ⟨m, ws, hm1, rfl, hwl, hgr, hB, hb0, hb1⟩ := hrel
        by_cases hlt2 : m < 64
        · obtain ⟨r, rfl⟩ : ∃ r, gk = r + 1 := ⟨gk - 1, by omega⟩
          have hmI : (m : Int) < 64 := by omega
          have at_ : ∀ j, j < m + 16 → wr.cell? ⟨w.heap.size + 1, j, none⟩ = some (.int .u32 (ws.getD j 0)) := fun j hj => by
            rw [hb0.cell, numsV_app_at _ _ _ _ (by rw [hwl]; exact hj)]
          have c3 := at_ (m + 13) (by omega)
          have c8 := at_ (m + 8) (by omega)
          have c14 := at_ (m + 2) (by omega)
          have c16 := at_ m (by omega)
          have hf := hb0.free (m + 16)
          have hs0 := hb0.cell (m + 16)
          rw [numsV_at _ _ _ (by simp; omega)] at hs0
          have hnx : nextW ws = rotI (bits .xor .u32 (bits .xor .u32 (bits .xor .u32 (ws.getD (m + 13) 0) (ws.getD (m + 8) 0)) (ws.getD (m + 2) 0)) (ws.getD m 0)) 1 := by
            unfold nextW
            rw [hwl, show m + 16 - 3 = m + 13 by omega, show m + 16 - 8 = m + 8 by omega, show m + 16 - 14 = m + 2 by omega, show m + 16 - 16 = m by omega]
          have hset := hb0.set (m + 16) (.int .u32 (nextW ws))
          have hset1 := hb1.set_other ⟨w.heap.size + 1, m + 16, none⟩ (.int .u32 (nextW ws)) (by simp)
          rw [numsV_set, ← hwl, List.set_append_right _ _ (Nat.le_refl _), Nat.sub_self, List.replicate_succ, List.set_cons_zero, hwl] at hset
          have hsplit : ws ++ nextW ws :: List.replicate r 0 = (ws ++ [nextW ws]) ++ List.replicate r 0 := by simp
          rw [hsplit] at hset
          have hgr' : grow r (ws ++ [nextW ws]) = out := hgr
          have hwl' : (ws ++ [nextW ws]).length = m + 1 + 16 := by simp [hwl]
          generalize (ws ++ List.replicate (r + 1) 0).getD (m + 16) 0 = z0 at hs0
          generalize ws.getD (m + 13) 0 = x3 at c3 hnx
          generalize ws.getD (m + 8) 0 = x8 at c8 hnx
          generalize ws.getD (m + 2) 0 = x14 at c14 hnx
          generalize ws.getD m 0 = x16 at c16 hnx
          generalize nextW ws = nx at hnx hset hset1 hgr' hwl'
          generalize ws ++ [nx] = ws' at hset hgr' hwl'
          have HNX := Lib.hid hnx
          have HB := Lib.hid hB
          have HS := Lib.hid hset
          have HS1 := Lib.hid hset1
          have HG := Lib.hid hgr'
          have HW := Lib.hid hwl'
          clear at_ hgr hwl hb0 hb1 hB hset hset1 hsplit hgr' hwl' hnx
          go_wp2_with fail
          refine wp_region_calm DrewR 22 ([] :: [] :: [(46, 1)] :: [(47, 2)] :: [(48, 3)] :: [] :: [(50, 5)] :: [(51, 6)] :: [(52, 7)] :: [(49, 4), (53, 8)] :: [] :: [(55, 10)] :: [(56, 11)] :: [(57, 12)] :: [(54, 9), (58, 13)] :: [] :: [(60, 15)] :: [(61, 16)] :: [(62, 17)] :: [(59, 14), (63, 18)] :: [(64, 19)] :: [(45, 0)] :: [])
            ((45, 0) :: (46, 1) :: (47, 2) :: (48, 3) :: (49, 4) :: (50, 5) :: (51, 6) :: (52, 7) :: (53, 8) :: (54, 9) :: (55, 10) :: (56, 11) :: (57, 12) :: (58, 13) :: (59, 14) :: (60, 15) :: (61, 16) :: (62, 17) :: (63, 18) :: (64, 19) :: (65, 20) :: (66, 21) :: [])
            (EqV ?qce0 :: EqV ?qce1 :: EqV ?qce2 :: EqV ?qce3 :: EqV ?qce4 :: EqV ?qce5 :: EqV ?qce6 :: EqV ?qce7 :: EqV ?qce8 :: EqV ?qce9 :: EqV ?qce10 :: EqV ?qce11 :: EqV ?qce12 :: EqV ?qce13 :: EqV ?qce14 :: EqV ?qce15 :: EqV ?qce16 :: EqV ?qce17 :: EqV ?qce18 :: EqV ?qce19 :: EqV ?qce20 :: EqV ?qce21 :: []) hm (by kernel_rfl) DrewR.refl DrewR.trans DrewR.drew
            (MonoL.at (MonoL.eq _ (MonoL.eq _ (MonoL.eq _ (MonoL.eq _ (MonoL.eq _ (MonoL.eq _ (MonoL.eq _ (MonoL.eq _ (MonoL.eq _ (MonoL.eq _ (MonoL.eq _ (MonoL.eq _ (MonoL.eq _ (MonoL.eq _ (MonoL.eq _ (MonoL.eq _ (MonoL.eq _ (MonoL.eq _ (MonoL.eq _ (MonoL.eq _ (MonoL.eq _ (MonoL.eq _ (MonoL.nil)))))))))))))))))))))))) ?qcalmOps ?qcalmDone
          case qcalmOps =>
            intro vs
            refine (CalmOps.cons ?_ (CalmOps.cons ?_ (CalmOps.cons ?_ (CalmOps.cons ?_ (CalmOps.cons ?_ (CalmOps.cons ?_ (CalmOps.cons ?_ (CalmOps.cons ?_ (CalmOps.cons ?_ (CalmOps.cons ?_ (CalmOps.cons ?_ (CalmOps.cons ?_ (CalmOps.cons ?_ (CalmOps.cons ?_ (CalmOps.cons ?_ (CalmOps.cons ?_ (CalmOps.cons ?_ (CalmOps.cons ?_ (CalmOps.cons ?_ (CalmOps.cons ?_ (CalmOps.cons ?_ (CalmOps.cons ?_ trivial))))))))))))))))))))))
            · intro w hR hL; obtain ⟨nd, rfl⟩ := hR; simp [Look, VAt, EqV] at hL; simp [Guarded, setAll, bare, hL]; go_wp2_with fail; exact CalmPost.mk (by simp; rfl) rfl (DrewR.refl _)
            · intro w hR hL; obtain ⟨nd, rfl⟩ := hR; simp [Look, VAt, EqV] at hL; simp [Guarded, setAll, bare, hL]; go_wp2_with fail; exact CalmPost.mk (by simp; rfl) rfl (DrewR.refl _)
            · intro w hR hL; obtain ⟨nd, rfl⟩ := hR; simp [Look, VAt, EqV] at hL; simp [Guarded, setAll, bare, hL]; go_wp2_with fail; exact CalmPost.mk (by simp; rfl) rfl (DrewR.refl _)
            · intro w hR hL; obtain ⟨nd, rfl⟩ := hR; simp [Look, VAt, EqV] at hL; simp [Guarded, setAll, bare, hL]; go_wp2_with fail; exact CalmPost.mk (by simp; rfl) rfl (DrewR.refl _)
            · intro w hR hL; obtain ⟨nd, rfl⟩ := hR; simp [Look, VAt, EqV] at hL; simp [Guarded, setAll, bare, hL]; go_wp2_with fail; exact CalmPost.mk (by simp; rfl) rfl (DrewR.refl _)
            · intro w hR hL; obtain ⟨nd, rfl⟩ := hR; simp [Look, VAt, EqV] at hL; simp [Guarded, setAll, bare, hL]; go_wp2_with fail; exact CalmPost.mk (by simp; rfl) rfl (DrewR.refl _)
            · intro w hR hL; obtain ⟨nd, rfl⟩ := hR; simp [Look, VAt, EqV] at hL; simp [Guarded, setAll, bare, hL]; go_wp2_with fail; exact CalmPost.mk (by simp; rfl) rfl (DrewR.refl _)
            · intro w hR hL; obtain ⟨nd, rfl⟩ := hR; simp [Look, VAt, EqV] at hL; simp [Guarded, setAll, bare, hL]; go_wp2_with fail; exact CalmPost.mk (by simp; rfl) rfl (DrewR.refl _)
            · intro w hR hL; obtain ⟨nd, rfl⟩ := hR; simp [Look, VAt, EqV] at hL; simp [Guarded, setAll, bare, hL]; go_wp2_with fail; exact CalmPost.mk (by simp; rfl) rfl (DrewR.refl _)
            · intro w hR hL; obtain ⟨nd, rfl⟩ := hR; simp [Look, VAt, EqV] at hL; simp [Guarded, setAll, bare, hL]; go_wp2_with fail; exact CalmPost.mk (by simp; rfl) rfl (DrewR.refl _)
            · intro w hR hL; obtain ⟨nd, rfl⟩ := hR; simp [Look, VAt, EqV] at hL; simp [Guarded, setAll, bare, hL]; go_wp2_with fail; exact CalmPost.mk (by simp; rfl) rfl (DrewR.refl _)
            · intro w hR hL; obtain ⟨nd, rfl⟩ := hR; simp [Look, VAt, EqV] at hL; simp [Guarded, setAll, bare, hL]; go_wp2_with fail; exact CalmPost.mk (by simp; rfl) rfl (DrewR.refl _)
            · intro w hR hL; obtain ⟨nd, rfl⟩ := hR; simp [Look, VAt, EqV] at hL; simp [Guarded, setAll, bare, hL]; go_wp2_with fail; exact CalmPost.mk (by simp; rfl) rfl (DrewR.refl _)
            · intro w hR hL; obtain ⟨nd, rfl⟩ := hR; simp [Look, VAt, EqV] at hL; simp [Guarded, setAll, bare, hL]; go_wp2_with fail; exact CalmPost.mk (by simp; rfl) rfl (DrewR.refl _)
            · intro w hR hL; obtain ⟨nd, rfl⟩ := hR; simp [Look, VAt, EqV] at hL; simp [Guarded, setAll, bare, hL]; go_wp2_with fail; exact CalmPost.mk (by simp; rfl) rfl (DrewR.refl _)
            · intro w hR hL; obtain ⟨nd, rfl⟩ := hR; simp [Look, VAt, EqV] at hL; simp [Guarded, setAll, bare, hL]; go_wp2_with fail; exact CalmPost.mk (by simp; rfl) rfl (DrewR.refl _)
            · intro w hR hL; obtain ⟨nd, rfl⟩ := hR; simp [Look, VAt, EqV] at hL; simp [Guarded, setAll, bare, hL]; go_wp2_with fail; exact CalmPost.mk (by simp; rfl) rfl (DrewR.refl _)
            · intro w hR hL; obtain ⟨nd, rfl⟩ := hR; simp [Look, VAt, EqV] at hL; simp [Guarded, setAll, bare, hL]; go_wp2_with fail; exact CalmPost.mk (by simp; rfl) rfl (DrewR.refl _)
            · intro w hR hL; obtain ⟨nd, rfl⟩ := hR; simp [Look, VAt, EqV] at hL; simp [Guarded, setAll, bare, hL]; go_wp2_with fail; exact CalmPost.mk (by simp; rfl) rfl (DrewR.refl _)
            · intro w hR hL; obtain ⟨nd, rfl⟩ := hR; simp [Look, VAt, EqV] at hL; simp [Guarded, setAll, bare, hL]; go_wp2_with fail; exact CalmPost.mk (by simp; rfl) rfl (DrewR.refl _)
            · intro w hR hL; obtain ⟨nd, rfl⟩ := hR; simp [Look, VAt, EqV] at hL; simp [Guarded, setAll, bare, hL]; go_wp2_with fail; refine (rot_any (bits .xor .u32 (bits .xor .u32 (bits .xor .u32 x3 x8) x14) x16) 1 (by decide) _).mono ?_; rintro ee ww ⟨rfl, rfl⟩; go_wp2_with fail; exact CalmPost.mk (by simp; rfl) rfl (DrewR.refl _)
            · intro w hR hL; obtain ⟨nd, rfl⟩ := hR; simp [Look, VAt, EqV] at hL; simp [Guarded, setAll, bare, hL]; go_wp2_with fail; exact CalmPost.mk (by simp; rfl) rfl (DrewR.refl _)
          case qcalmDone =>
            intro vs w6 hR hL; obtain ⟨nd, rfl⟩ := hR; simp [Look, VAt, EqV] at hL; simp [setAll, hL]; clear hL
            rw [← HNX.out]
            go_wp2_with fail
            go_roundg r
            case measure => omega
            case rel => exact ⟨m + 1, ws', by omega, by go_num, by rw [HW.out], HG.out, (below_drewN HB.out nd).setCell (by simp) _, HS.out, HS1.out⟩
        · obtain rfl : m = 64 := by omega
          obtain rfl : gk = 0 := by omega
          have hout : ws = out := hgr
          rw [hout, List.replicate_zero, List.append_nil] at hb0
          have hol : out.length = 80 := by rw [← hout, hwl]
          have HB := Lib.hid hB
          have H0 := Lib.hid hb0
          have H1 := Lib.hid hb1
          have HL := Lib.hid hol
          clear hgr hwl hb0 hb1 hB hout hol
          go_wp2_with (first | (refine wpList_load_blk rfl 40 (.tmp 3) rfl (w.heap.size + 1) rfl 40 (numsV .u32 out) H0.out _ Try.underlying40 rfl (by rw [numsV_length, HL.out]; exact info_size infoR80) ?_) | (refine wpList_store_blk rfl 40 (.tmp 2) (.tmp 67) rfl rfl w.heap.size rfl 40 (numsV .u32 z80) (numsV .u32 out) rfl H1.out (by rw [numsV_length, numsV_length, HL.out]; rfl) (by rw [numsV_length, HL.out]; exact info_size infoR80) (numsV_one _ _) ?_))
          refine bodyPost_ret (v := .agg (numsV .u32 out).toArray) ?_ rfl ⟨?_, below_setRow HB.out (Nat.le_refl _) _⟩
          · refine results_blk Try.results17 _ _ w.heap.size 40 (numsV .u32 out) _ ?_ (H1.out.row _) Try.underlying40 rfl ?_
            · rfl
            · rw [numsV_length, HL.out]; exact info_size infoR80
          · rw [HO.out]

end Sha1
end Go.Proofs.Ythkckmohhbddcaa
