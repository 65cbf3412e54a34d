/- The walk of SHA-1's words of a block. No condition. -/
import Derived.Test.YthkckmohhbddcaaSha1WalkC
import Derived.Test.YthkckmohhbddcaaArr
namespace Go.Proofs.Ythkckmohhbddcaa
open Go.RowKit
namespace Sha1

def WordsIs (w : World) (xs : List Int) (e : Ending) (w' : World) : Prop := e = .returned (.agg (numsV .u32 xs).toArray) ∧ Ext w w'
def z80 : List Int := List.replicate 80 0
theorem info80 : (Try.prog.info? 41).map (fun i => (i.zero, i.size, i.bytes)) = some (some (.agg (numsV .u32 z80).toArray), 80, 320) := by kernel_rfl
theorem get_byte (s : ByteArray) (k : Nat) (h : k < s.size) : ((s[k].toNat : Nat) : Int) = byt s.data.toList k := by
  unfold byt
  have : s.data.toList.length = s.size := by simp
  rw [List.getD_eq_getElem?_getD, List.getElem?_eq_getElem (by omega)]
  rfl
theorem mod32 {x : Int} (h0 : 0 ≤ x) (h1 : x < 4294967296) : x % 4294967296 = x := Int.emod_eq_of_lt h0 h1
theorem shl_fits (b : Int) (h0 : 0 ≤ b) (h1 : b ≤ 255) (k : Nat) : 0 ≤ b * 2 ^ (24 - 8 * (k % 4)) ∧ b * 2 ^ (24 - 8 * (k % 4)) < 4294967296 := by
  rcases (show k % 4 = 0 ∨ k % 4 = 1 ∨ k % 4 = 2 ∨ k % 4 = 3 by omega) with h | h | h | h <;> rw [h] <;> simp <;> omega
set_option linter.unusedSimpArgs false
set_option linter.unusedVariables false
set_option maxRecDepth 100000 in
set_option maxHeartbeats 2000000 in
theorem expand_any (s : ByteArray) (hs : s.size ≤ 9223372036854775807) (w : World) : Calls Try.prog 16 #[.string s] w (WordsIs w (expand s.data.toList)) := by
  have hz := zero_run (P := Try.prog) info80
  have hm : Try.prog.follows .mixedOrders = true := by kernel_rfl
  obtain ⟨n, hn⟩ : ∃ n : Nat, n = min s.size 64 := ⟨_, rfl⟩
  have hmin : (if (64 : Int) < (s.size : Int) then (64 : Int) else (s.size : Int)) = (n : Int) := by split <;> omega
  have hn64 : n ≤ 64 := by omega
  have hns : n ≤ s.size := by omega
  have HN := Lib.hid hn
  clear hn
  go_enter Try.func16, Try.ntmps16
  go_wp2_with fail
  clear hmin
  have hb0 : Blk ((w.alloc (.cells (numsV .u32 z80).toArray 41)).alloc (.cells (numsV .u32 z80).toArray 41)) (w.heap.size + 1) 41 (numsV .u32 z80) := by
    have := Blk.new (w.alloc (.cells (numsV .u32 z80).toArray 41)) 41 (numsV .u32 z80)
    simpa using this
  have hb1 : Blk ((w.alloc (.cells (numsV .u32 z80).toArray 41)).alloc (.cells (numsV .u32 z80).toArray 41)) w.heap.size 41 (numsV .u32 z80) := (Blk.new w _ _).old _
  have hB : Below w.heap.size w ((w.alloc (.cells (numsV .u32 z80).toArray 41)).alloc (.cells (numsV .u32 z80).toArray 41)) := ((Below.refl _ _).alloc (Nat.le_refl _) _).alloc (by simp) _
  generalize ((w.alloc (.cells (numsV .u32 z80).toArray 41)).alloc (.cells (numsV .u32 z80).toArray 41)) = w1 at hb0 hb1 hB ⊢
  go_loopg [4, 9] n (fun r _ i wr => ∃ k : Nat, k + r = n ∧ i = .int .i64 k ∧ Below w.heap.size w wr ∧ Blk wr (w.heap.size + 1) 41 (numsV .u32 (pws s.data.toList k)) ∧ Blk wr w.heap.size 41 (numsV .u32 z80))
  case atStart => exact ⟨0, by omega, rfl, hB, by rw [pws_zero]; exact hb0, hb1⟩
  case round =>
    clear hb0 hb1 hB
    obtain ⟨k, hk, rfl, hB, hb0, hb1⟩ := hrel
    by_cases hlt : k < n
    · have hks : k < s.size := by omega
      have hkI : (k : Int) < (n : Int) := by omega
      have hlen : (pws s.data.toList k).length = 80 := pws_length _ _
      have hc : wr.cell? ⟨w.heap.size + 1, k / 4, none⟩ = some (.int .u32 (pw s.data.toList k (k / 4))) := by
        rw [hb0.cell, numsV_at _ _ _ (by omega), pws_getD _ _ _ (by omega)]
      have hf := hb0.free (k / 4)
      have hby := get_byte s k hks
      have hbr := byt_range s.data.toList k
      have hbr1 := hbr.1
      have hbr2 := hbr.2
      have hsh := shl_fits _ hbr1 hbr2 k
      have hmo := mod32 hsh.1 hsh.2
      have hor := pw_or s.data.toList k
      have hset := hb0.set (k / 4) (.int .u32 (pw s.data.toList (k + 1) (k / 4)))
      rw [numsV_set, pws_set] at hset
      have hset1 := hb1.set_other ⟨w.heap.size + 1, k / 4, none⟩ (.int .u32 (pw s.data.toList (k + 1) (k / 4))) (by simp)
      have HB := Lib.hid hB
      have HS := Lib.hid hset
      have HS1 := Lib.hid hset1
      clear hsh hbr hset hset1 hb0 hb1 hB hlen
      go_wp2_with fail

      refine wp_region_calm DrewR 15 ([] :: [(12, 0)] :: [(13, 1)] :: [(14, 2)] :: [] :: [] :: [(16, 4), (17, 5)] :: [(18, 6)] :: [] :: [(20, 8)] :: [(21, 9)] :: [(22, 10)] :: [(19, 7), (23, 11)] :: [(15, 3), (24, 12)] :: [(13, 1)] :: [])
        ((12, 0) :: (13, 1) :: (14, 2) :: (15, 3) :: (16, 4) :: (17, 5) :: (18, 6) :: (19, 7) :: (20, 8) :: (21, 9) :: (22, 10) :: (23, 11) :: (24, 12) :: (25, 13) :: (26, 14) :: [])
        (EqV ?pce0 :: EqV ?pce1 :: EqV ?pce2 :: EqV ?pce3 :: EqV ?pce4 :: EqV ?pce5 :: EqV ?pce6 :: EqV ?pce7 :: EqV ?pce8 :: EqV ?pce9 :: EqV ?pce10 :: EqV ?pce11 :: EqV ?pce12 :: EqV ?pce13 :: EqV ?pce14 :: []) hm (by kernel_rfl) DrewR.refl DrewR.trans DrewR.drew
        (MonoL.at (MonoL.eq _ (MonoL.eq _ (MonoL.eq _ (MonoL.eq _ (MonoL.eq _ (MonoL.eq _ (MonoL.eq _ (MonoL.eq _ (MonoL.eq _ (MonoL.eq _ (MonoL.eq _ (MonoL.eq _ (MonoL.eq _ (MonoL.eq _ (MonoL.eq _ (MonoL.nil))))))))))))))))) ?pcalmOps ?pcalmDone
      case pcalmOps =>
        intro vs
        refine (CalmOps.cons ?_ (CalmOps.cons ?_ (CalmOps.cons ?_ (CalmOps.cons ?_ (CalmOps.cons ?_ (CalmOps.cons ?_ (CalmOps.cons ?_ (CalmOps.cons ?_ (CalmOps.cons ?_ (CalmOps.cons ?_ (CalmOps.cons ?_ (CalmOps.cons ?_ (CalmOps.cons ?_ (CalmOps.cons ?_ (CalmOps.cons ?_ trivial)))))))))))))))
        · intro w hR hL; obtain ⟨nd, rfl⟩ := hR; simp [Look, VAt, EqV] at hL; simp [Guarded, setAll, bare, hL]; go_wp2_with fail; exact CalmPost.mk (by simp; rfl) rfl (DrewR.refl _)
        · intro w hR hL; obtain ⟨nd, rfl⟩ := hR; simp [Look, VAt, EqV] at hL; simp [Guarded, setAll, bare, hL]; go_wp2_with fail; exact CalmPost.mk (by simp; rfl) rfl (DrewR.refl _)
        · intro w hR hL; obtain ⟨nd, rfl⟩ := hR; simp [Look, VAt, EqV] at hL; simp [Guarded, setAll, bare, hL]; go_wp2_with fail; exact CalmPost.mk (by simp; rfl) rfl (DrewR.refl _)
        · intro w hR hL; obtain ⟨nd, rfl⟩ := hR; simp [Look, VAt, EqV] at hL; simp [Guarded, setAll, bare, hL]; go_wp2_with fail; exact CalmPost.mk (by simp; rfl) rfl (DrewR.refl _)
        · intro w hR hL; obtain ⟨nd, rfl⟩ := hR; simp [Look, VAt, EqV] at hL; simp [Guarded, setAll, bare, hL]; go_wp2_with fail; exact CalmPost.mk (by simp; rfl) rfl (DrewR.refl _)
        · intro w hR hL; obtain ⟨nd, rfl⟩ := hR; simp [Look, VAt, EqV] at hL; simp [Guarded, setAll, bare, hL]; go_wp2_with fail; exact CalmPost.mk (by simp; rfl) rfl (DrewR.refl _)
        · intro w hR hL; obtain ⟨nd, rfl⟩ := hR; simp [Look, VAt, EqV] at hL; simp [Guarded, setAll, bare, hL]; go_wp2_with fail; exact CalmPost.mk (by simp; rfl) rfl (DrewR.refl _)
        · intro w hR hL; obtain ⟨nd, rfl⟩ := hR; simp [Look, VAt, EqV] at hL; simp [Guarded, setAll, bare, hL]; go_wp2_with fail; exact CalmPost.mk (by simp; rfl) rfl (DrewR.refl _)
        · intro w hR hL; obtain ⟨nd, rfl⟩ := hR; simp [Look, VAt, EqV] at hL; simp [Guarded, setAll, bare, hL]; go_wp2_with fail; exact CalmPost.mk (by simp; rfl) rfl (DrewR.refl _)
        · intro w hR hL; obtain ⟨nd, rfl⟩ := hR; simp [Look, VAt, EqV] at hL; simp [Guarded, setAll, bare, hL]; go_wp2_with fail; exact CalmPost.mk (by simp; rfl) rfl (DrewR.refl _)
        · intro w hR hL; obtain ⟨nd, rfl⟩ := hR; simp [Look, VAt, EqV] at hL; simp [Guarded, setAll, bare, hL]; go_wp2_with fail; exact CalmPost.mk (by simp; rfl) rfl (DrewR.refl _)
        · intro w hR hL; obtain ⟨nd, rfl⟩ := hR; simp [Look, VAt, EqV] at hL; simp [Guarded, setAll, bare, hL]; go_wp2_with fail; exact CalmPost.mk (by simp; rfl) rfl (DrewR.refl _)
        · intro w hR hL; obtain ⟨nd, rfl⟩ := hR; simp [Look, VAt, EqV] at hL; simp [Guarded, setAll, bare, hL]; go_wp2_with fail; exact CalmPost.mk (by simp; rfl) rfl (DrewR.refl _)
        · intro w hR hL; obtain ⟨nd, rfl⟩ := hR; simp [Look, VAt, EqV] at hL; simp [Guarded, setAll, bare, hL]; go_wp2_with fail; exact CalmPost.mk (by simp; rfl) rfl (DrewR.refl _)
        · intro w hR hL; obtain ⟨nd, rfl⟩ := hR; simp [Look, VAt, EqV] at hL; simp [Guarded, setAll, bare, hL]; go_wp2_with fail; exact CalmPost.mk (by simp; rfl) rfl (DrewR.refl _)
      case pcalmDone =>
        intro vs w6 hR hL; obtain ⟨nd, rfl⟩ := hR; simp [Look, VAt, EqV] at hL; simp [setAll, hL]; clear hL
        go_wp2_with fail
        go_roundg (gk - 1)
        case measure => omega
        case rel =>
          exact ⟨k + 1, by omega, by go_num, (below_drewN HB.out nd).setCell (by simp) _, HS.out, HS1.out⟩
    · obtain rfl : k = n := by omega
      have hend := pws_end s.data.toList
      have hl := HN.out
      have hlen : s.data.toList.length = s.size := by simp
      rw [hlen, ← hl] at hend
      rw [hend] at hb0
      have hg0 : grow 64 (w16 s.data.toList) = expand s.data.toList := rfl
      have hw0 : (w16 s.data.toList).length = 16 := by simp [w16]
      generalize hO : expand s.data.toList = out at hg0
      have HO := Kept.mk hO
      clear hO
      generalize w16 s.data.toList = ws0 at hg0 hw0 hb0
      have HG := Lib.hid hg0
      have HW := Lib.hid hw0
      clear hend hl hlen HN hg0 hw0
      go_wp2_with fail
      go_loopg [5] 64 (fun r i wi => ∃ (m : Nat) (ws : List Int), m + r = 64 ∧ i = .int .i64 ((m : Int) + 16) ∧ ws.length = m + 16 ∧ grow r ws = out ∧ Below w.heap.size w wi ∧ Blk wi (w.heap.size + 1) 41 (numsV .u32 (ws ++ List.replicate r 0)) ∧ Blk wi w.heap.size 41 (numsV .u32 z80))
      case atStart => exact ⟨0, ws0, rfl, rfl, HW.out, HG.out, hB, hb0, hb1⟩
      case round =>
        clear hb0 hb1 hB HG HW
        obtain ⟨m, ws, hm1, rfl, hwl, hgr, hB, hb0, hb1⟩ := hrel
        by_cases hlt2 : m < 64
        · obtain ⟨r, rfl⟩ : ∃ r, gk = r + 1 := ⟨gk - 1, by omega⟩
          have hmI : (m : Int) < 64 := by omega
          have at_ : ∀ j, j < m + 16 → wr.cell? ⟨w.heap.size + 1, j, none⟩ = some (.int .u32 (ws.getD j 0)) := fun j hj => by
            rw [hb0.cell, numsV_app_at _ _ _ _ (by rw [hwl]; exact hj)]
          have c3 := at_ (m + 13) (by omega)
          have c8 := at_ (m + 8) (by omega)
          have c14 := at_ (m + 2) (by omega)
          have c16 := at_ m (by omega)
          have hf := hb0.free (m + 16)
          have hs0 := hb0.cell (m + 16)
          rw [numsV_at _ _ _ (by simp; omega)] at hs0
          have hnx : nextW ws = rotI (bits .xor .u32 (bits .xor .u32 (bits .xor .u32 (ws.getD (m + 13) 0) (ws.getD (m + 8) 0)) (ws.getD (m + 2) 0)) (ws.getD m 0)) 1 := by
            unfold nextW
            rw [hwl, show m + 16 - 3 = m + 13 by omega, show m + 16 - 8 = m + 8 by omega, show m + 16 - 14 = m + 2 by omega, show m + 16 - 16 = m by omega]
          have hset := hb0.set (m + 16) (.int .u32 (nextW ws))
          have hset1 := hb1.set_other ⟨w.heap.size + 1, m + 16, none⟩ (.int .u32 (nextW ws)) (by simp)
          rw [numsV_set, ← hwl, List.set_append_right _ _ (Nat.le_refl _), Nat.sub_self, List.replicate_succ, List.set_cons_zero, hwl] at hset
          have hsplit : ws ++ nextW ws :: List.replicate r 0 = (ws ++ [nextW ws]) ++ List.replicate r 0 := by simp
          rw [hsplit] at hset
          have hgr' : grow r (ws ++ [nextW ws]) = out := hgr
          have hwl' : (ws ++ [nextW ws]).length = m + 1 + 16 := by simp [hwl]
          generalize (ws ++ List.replicate (r + 1) 0).getD (m + 16) 0 = z0 at hs0
          generalize ws.getD (m + 13) 0 = x3 at c3 hnx
          generalize ws.getD (m + 8) 0 = x8 at c8 hnx
          generalize ws.getD (m + 2) 0 = x14 at c14 hnx
          generalize ws.getD m 0 = x16 at c16 hnx
          generalize nextW ws = nx at hnx hset hset1 hgr' hwl'
          generalize ws ++ [nx] = ws' at hset hgr' hwl'
          have HNX := Lib.hid hnx
          have HB := Lib.hid hB
          have HS := Lib.hid hset
          have HS1 := Lib.hid hset1
          have HG := Lib.hid hgr'
          have HW := Lib.hid hwl'
          clear at_ hgr hwl hb0 hb1 hB hset hset1 hsplit hgr' hwl' hnx
          go_wp2_with fail
          refine wp_region_calm DrewR 22 ([] :: [] :: [(33, 1)] :: [(34, 2)] :: [(35, 3)] :: [] :: [(37, 5)] :: [(38, 6)] :: [(39, 7)] :: [(36, 4), (40, 8)] :: [] :: [(42, 10)] :: [(43, 11)] :: [(44, 12)] :: [(41, 9), (45, 13)] :: [] :: [(47, 15)] :: [(48, 16)] :: [(49, 17)] :: [(46, 14), (50, 18)] :: [(51, 19)] :: [(32, 0)] :: [])
            ((32, 0) :: (33, 1) :: (34, 2) :: (35, 3) :: (36, 4) :: (37, 5) :: (38, 6) :: (39, 7) :: (40, 8) :: (41, 9) :: (42, 10) :: (43, 11) :: (44, 12) :: (45, 13) :: (46, 14) :: (47, 15) :: (48, 16) :: (49, 17) :: (50, 18) :: (51, 19) :: (52, 20) :: (53, 21) :: [])
            (EqV ?qce0 :: EqV ?qce1 :: EqV ?qce2 :: EqV ?qce3 :: EqV ?qce4 :: EqV ?qce5 :: EqV ?qce6 :: EqV ?qce7 :: EqV ?qce8 :: EqV ?qce9 :: EqV ?qce10 :: EqV ?qce11 :: EqV ?qce12 :: EqV ?qce13 :: EqV ?qce14 :: EqV ?qce15 :: EqV ?qce16 :: EqV ?qce17 :: EqV ?qce18 :: EqV ?qce19 :: EqV ?qce20 :: EqV ?qce21 :: []) hm (by kernel_rfl) DrewR.refl DrewR.trans DrewR.drew
            (MonoL.at (MonoL.eq _ (MonoL.eq _ (MonoL.eq _ (MonoL.eq _ (MonoL.eq _ (MonoL.eq _ (MonoL.eq _ (MonoL.eq _ (MonoL.eq _ (MonoL.eq _ (MonoL.eq _ (MonoL.eq _ (MonoL.eq _ (MonoL.eq _ (MonoL.eq _ (MonoL.eq _ (MonoL.eq _ (MonoL.eq _ (MonoL.eq _ (MonoL.eq _ (MonoL.eq _ (MonoL.eq _ (MonoL.nil)))))))))))))))))))))))) ?qcalmOps ?qcalmDone
          case qcalmOps =>
            intro vs
            refine (CalmOps.cons ?_ (CalmOps.cons ?_ (CalmOps.cons ?_ (CalmOps.cons ?_ (CalmOps.cons ?_ (CalmOps.cons ?_ (CalmOps.cons ?_ (CalmOps.cons ?_ (CalmOps.cons ?_ (CalmOps.cons ?_ (CalmOps.cons ?_ (CalmOps.cons ?_ (CalmOps.cons ?_ (CalmOps.cons ?_ (CalmOps.cons ?_ (CalmOps.cons ?_ (CalmOps.cons ?_ (CalmOps.cons ?_ (CalmOps.cons ?_ (CalmOps.cons ?_ (CalmOps.cons ?_ (CalmOps.cons ?_ trivial))))))))))))))))))))))
            · intro w hR hL; obtain ⟨nd, rfl⟩ := hR; simp [Look, VAt, EqV] at hL; simp [Guarded, setAll, bare, hL]; go_wp2_with fail; exact CalmPost.mk (by simp; rfl) rfl (DrewR.refl _)
            · intro w hR hL; obtain ⟨nd, rfl⟩ := hR; simp [Look, VAt, EqV] at hL; simp [Guarded, setAll, bare, hL]; go_wp2_with fail; exact CalmPost.mk (by simp; rfl) rfl (DrewR.refl _)
            · intro w hR hL; obtain ⟨nd, rfl⟩ := hR; simp [Look, VAt, EqV] at hL; simp [Guarded, setAll, bare, hL]; go_wp2_with fail; exact CalmPost.mk (by simp; rfl) rfl (DrewR.refl _)
            · intro w hR hL; obtain ⟨nd, rfl⟩ := hR; simp [Look, VAt, EqV] at hL; simp [Guarded, setAll, bare, hL]; go_wp2_with fail; exact CalmPost.mk (by simp; rfl) rfl (DrewR.refl _)
            · intro w hR hL; obtain ⟨nd, rfl⟩ := hR; simp [Look, VAt, EqV] at hL; simp [Guarded, setAll, bare, hL]; go_wp2_with fail; exact CalmPost.mk (by simp; rfl) rfl (DrewR.refl _)
            · intro w hR hL; obtain ⟨nd, rfl⟩ := hR; simp [Look, VAt, EqV] at hL; simp [Guarded, setAll, bare, hL]; go_wp2_with fail; exact CalmPost.mk (by simp; rfl) rfl (DrewR.refl _)
            · intro w hR hL; obtain ⟨nd, rfl⟩ := hR; simp [Look, VAt, EqV] at hL; simp [Guarded, setAll, bare, hL]; go_wp2_with fail; exact CalmPost.mk (by simp; rfl) rfl (DrewR.refl _)
            · intro w hR hL; obtain ⟨nd, rfl⟩ := hR; simp [Look, VAt, EqV] at hL; simp [Guarded, setAll, bare, hL]; go_wp2_with fail; exact CalmPost.mk (by simp; rfl) rfl (DrewR.refl _)
            · intro w hR hL; obtain ⟨nd, rfl⟩ := hR; simp [Look, VAt, EqV] at hL; simp [Guarded, setAll, bare, hL]; go_wp2_with fail; exact CalmPost.mk (by simp; rfl) rfl (DrewR.refl _)
            · intro w hR hL; obtain ⟨nd, rfl⟩ := hR; simp [Look, VAt, EqV] at hL; simp [Guarded, setAll, bare, hL]; go_wp2_with fail; exact CalmPost.mk (by simp; rfl) rfl (DrewR.refl _)
            · intro w hR hL; obtain ⟨nd, rfl⟩ := hR; simp [Look, VAt, EqV] at hL; simp [Guarded, setAll, bare, hL]; go_wp2_with fail; exact CalmPost.mk (by simp; rfl) rfl (DrewR.refl _)
            · intro w hR hL; obtain ⟨nd, rfl⟩ := hR; simp [Look, VAt, EqV] at hL; simp [Guarded, setAll, bare, hL]; go_wp2_with fail; exact CalmPost.mk (by simp; rfl) rfl (DrewR.refl _)
            · intro w hR hL; obtain ⟨nd, rfl⟩ := hR; simp [Look, VAt, EqV] at hL; simp [Guarded, setAll, bare, hL]; go_wp2_with fail; exact CalmPost.mk (by simp; rfl) rfl (DrewR.refl _)
            · intro w hR hL; obtain ⟨nd, rfl⟩ := hR; simp [Look, VAt, EqV] at hL; simp [Guarded, setAll, bare, hL]; go_wp2_with fail; exact CalmPost.mk (by simp; rfl) rfl (DrewR.refl _)
            · intro w hR hL; obtain ⟨nd, rfl⟩ := hR; simp [Look, VAt, EqV] at hL; simp [Guarded, setAll, bare, hL]; go_wp2_with fail; exact CalmPost.mk (by simp; rfl) rfl (DrewR.refl _)
            · intro w hR hL; obtain ⟨nd, rfl⟩ := hR; simp [Look, VAt, EqV] at hL; simp [Guarded, setAll, bare, hL]; go_wp2_with fail; exact CalmPost.mk (by simp; rfl) rfl (DrewR.refl _)
            · intro w hR hL; obtain ⟨nd, rfl⟩ := hR; simp [Look, VAt, EqV] at hL; simp [Guarded, setAll, bare, hL]; go_wp2_with fail; exact CalmPost.mk (by simp; rfl) rfl (DrewR.refl _)
            · intro w hR hL; obtain ⟨nd, rfl⟩ := hR; simp [Look, VAt, EqV] at hL; simp [Guarded, setAll, bare, hL]; go_wp2_with fail; exact CalmPost.mk (by simp; rfl) rfl (DrewR.refl _)
            · intro w hR hL; obtain ⟨nd, rfl⟩ := hR; simp [Look, VAt, EqV] at hL; simp [Guarded, setAll, bare, hL]; go_wp2_with fail; exact CalmPost.mk (by simp; rfl) rfl (DrewR.refl _)
            · intro w hR hL; obtain ⟨nd, rfl⟩ := hR; simp [Look, VAt, EqV] at hL; simp [Guarded, setAll, bare, hL]; go_wp2_with fail; exact CalmPost.mk (by simp; rfl) rfl (DrewR.refl _)
            · intro w hR hL; obtain ⟨nd, rfl⟩ := hR; simp [Look, VAt, EqV] at hL; simp [Guarded, setAll, bare, hL]; go_wp2_with fail; refine (rotl_any (bits .xor .u32 (bits .xor .u32 (bits .xor .u32 x3 x8) x14) x16) 1 (by decide) _).mono ?_; rintro ee ww ⟨rfl, rfl⟩; go_wp2_with fail; exact CalmPost.mk (by simp; rfl) rfl (DrewR.refl _)
            · intro w hR hL; obtain ⟨nd, rfl⟩ := hR; simp [Look, VAt, EqV] at hL; simp [Guarded, setAll, bare, hL]; go_wp2_with fail; exact CalmPost.mk (by simp; rfl) rfl (DrewR.refl _)
          case qcalmDone =>
            intro vs w6 hR hL; obtain ⟨nd, rfl⟩ := hR; simp [Look, VAt, EqV] at hL; simp [setAll, hL]; clear hL
            rw [← HNX.out]
            go_wp2_with fail
            go_roundg r
            case measure => omega
            case rel => exact ⟨m + 1, ws', by omega, by go_num, by rw [HW.out], HG.out, (below_drewN HB.out nd).setCell (by simp) _, HS.out, HS1.out⟩
        · obtain rfl : m = 64 := by omega
          obtain rfl : gk = 0 := by omega
          have hout : ws = out := hgr
          rw [hout, List.replicate_zero, List.append_nil] at hb0
          have hol : out.length = 80 := by rw [← hout, hwl]
          have HB := Lib.hid hB
          have H0 := Lib.hid hb0
          have H1 := Lib.hid hb1
          have HL := Lib.hid hol
          clear hgr hwl hb0 hb1 hB hout hol
          go_wp2_with (first | (refine wpList_load_blk rfl 41 (.tmp 3) rfl (w.heap.size + 1) rfl 41 (numsV .u32 out) H0.out _ Try.underlying41 rfl (by rw [numsV_length, HL.out]; exact info_size info80) ?_) | (refine wpList_store_blk rfl 41 (.tmp 2) (.tmp 54) rfl rfl w.heap.size rfl 41 (numsV .u32 z80) (numsV .u32 out) rfl H1.out (by rw [numsV_length, numsV_length, HL.out]; rfl) (by rw [numsV_length, HL.out]; exact info_size info80) (numsV_one _ _) ?_))
          refine bodyPost_ret (v := .agg (numsV .u32 out).toArray) ?_ rfl ⟨?_, below_setRow HB.out (Nat.le_refl _) _⟩
          · refine results_blk Try.results16 _ _ w.heap.size 41 (numsV .u32 out) _ ?_ (H1.out.row _) Try.underlying41 rfl ?_
            · rfl
            · rw [numsV_length, HL.out]; exact info_size info80
          · rw [HO.out]

end Sha1
end Go.Proofs.Ythkckmohhbddcaa
