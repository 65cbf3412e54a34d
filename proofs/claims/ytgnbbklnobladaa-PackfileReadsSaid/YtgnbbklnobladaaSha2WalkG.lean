/- The walk of the document's Sum of SHA-256. No condition. -/
import Derived.Test.YtgnbbklnobladaaSha2WalkE
namespace Go.Proofs.Ytgnbbklnobladaa
open Go.RowKit
namespace Sha2
theorem strOf_extract (l : List UInt8) (a n : Nat) : (strOf l).extract a (a + n) = strOf ((l.drop a).take n) := by
  rw [str_eq, ByteArray.data_extract]
  simp [strOf, List.extract]
theorem pad_length (m : List UInt8) : (pad m).length = 64 * ((pad m).length / 64) := by
  have : (pad m).length = m.length + (1 + (119 - m.length % 64) % 64 + 8) := by simp [pad, tailB, be8]; omega
  omega
theorem get_byte (l : List UInt8) (k j i : Nat) (hi : i = 64 * k + j) (hj : j < 64) (h : i < (strOf l).size) : (((strOf l)[i].toNat : Nat) : Int) = byt ((l.drop (64 * k)).take 64) j := by
  subst hi
  unfold byt
  have h' : 64 * k + j < l.length := by rw [strOf_size] at h; exact h
  rw [List.getD_eq_getElem?_getD, List.getElem?_take_of_lt hj, List.getElem?_drop, List.getElem?_eq_getElem h']
  rfl
/-- In the midst of the document's Sum. -/
structure RI (w : World) (g4 g5 : Nat) (c : List Int) (wi : World) : Prop where
  ee : Ext w wi
  kk : Blk wi g4 63 (numsV .u32 keysL)
  cc : Blk wi g5 65 (numsV .u32 c)
  hh : g4 ≠ g5 ∧ w.heap.size ≤ g4 ∧ w.heap.size ≤ g5
theorem RI.ext {w : World} {g4 g5 : Nat} {c : List Int} {wi w' : World} (h : RI w g4 g5 c wi) (e : Ext wi w') : RI w g4 g5 c w' := ⟨h.ee.trans e, h.kk.ext e, h.cc.ext e, h.hh⟩
theorem RI.touch {w : World} {g4 g5 g : Nat} {c : List Int} {wi w' : World} (h : RI w g4 g5 c wi) (e : Touch [g] wi w') (h1 : g4 ≠ g) (h2 : g5 ≠ g) (h3 : w.heap.size ≤ g) : RI w g4 g5 c w' :=
  ⟨Touch.below h.ee e (by intro j hj; simp at hj; subst hj; exact h3) h.ee.size, h.kk.touch e (by simpa using h1), h.cc.touch e (by simpa using h2), h.hh⟩
theorem RI.setc {w : World} {g4 g5 : Nat} {c : List Int} {wi : World} (h : RI w g4 g5 c wi) (i : Nat) (x : Int) : RI w g4 g5 (c.set i x) (wi.setCell ⟨g5, i, none⟩ (.int .u32 x)) :=
  ⟨Touch.below h.ee (Touch.set _ _ _) (by intro j hj; simp at hj; subst hj; exact h.hh.2.2) h.ee.size, h.kk.set_other _ _ h.hh.1, by have := h.cc.set i (.int .u32 x); rwa [numsV_set] at this, h.hh⟩
/-- The words too. -/
structure RW (w : World) (g4 g5 g7 : Nat) (c ws : List Int) (wi : World) : Prop where
  ri : RI w g4 g5 c wi
  ww : Blk wi g7 63 (numsV .u32 ws)
  hh : g4 ≠ g7 ∧ g5 ≠ g7 ∧ w.heap.size ≤ g7
theorem RW.word {w : World} {g4 g5 g7 : Nat} {c ws : List Int} {wi : World} (h : RW w g4 g5 g7 c ws wi) (i : Nat) (x : Int) : RW w g4 g5 g7 c (ws.set i x) (wi.setCell ⟨g7, i, none⟩ (.int .u32 x)) :=
  ⟨h.ri.touch (Touch.set _ _ _) h.hh.1 h.hh.2.1 h.hh.2.2, by have := h.ww.set i (.int .u32 x); rwa [numsV_set] at this, h.hh⟩
theorem RW.drewN {w : World} {g4 g5 g7 : Nat} {c ws : List Int} {wi : World} (h : RW w g4 g5 g7 c ws wi) (n : Nat) : RW w g4 g5 g7 c ws (wi.drewN n) := ⟨h.ri.ext (Ext.drewN _ _), h.ww, h.hh⟩
theorem build_ch (x : Ch) (W : World) : (Instr.build 65 #[(0, .int .u32 x.a), (1, .int .u32 x.b), (2, .int .u32 x.c), (3, .int .u32 x.d), (4, .int .u32 x.e), (5, .int .u32 x.f), (6, .int .u32 x.g), (7, .int .u32 x.h)]).run Try.prog W = .ok (.agg (chW x).toArray) W := by
  kernel_rfl
set_option linter.unusedSimpArgs false
set_option linter.unusedVariables false
set_option maxRecDepth 100000 in
set_option maxHeartbeats 20000000 in
theorem refSum_any (s : ByteArray) (hs : s.size ≤ 400000000) (w : World) : Calls Try.prog 14 #[.string s] w (StrIs w (digest s.data.toList)) := by
  have hm : Try.prog.follows .mixedOrders = true := by kernel_rfl
  obtain ⟨iB, hiB, hzB, hsB, hbB⟩ := infoB
  have hz8 := zero_run (P := Try.prog) info8
  have hz64 := zero_run (P := Try.prog) info64
  go_enter Try.func14, Try.ntmps14
  go_wp2_with fail
  refine (fill_any s hs w).mono ?_
  rintro e w1 ⟨rfl, h1⟩
  have hpl := pad_length s.data.toList
  have hps : (pad s.data.toList).length ≤ 400000200 := by
    have : (pad s.data.toList).length = s.data.toList.length + (1 + (119 - s.data.toList.length % 64) % 64 + 8) := by simp [pad, tailB, be8]; omega
    have h2 : s.data.toList.length = s.size := by simp
    omega
  have KD := Kept.mk (show digest s.data.toList = digestC (chain ((pad s.data.toList).length / 64) firstC (pad s.data.toList)) from rfl)
  generalize pad s.data.toList = L at hpl hps KD ⊢
  obtain ⟨K, hK⟩ : ∃ K, K = L.length / 64 := ⟨_, rfl⟩
  rw [← hK] at hpl KD
  have KK := Kept.mk hK
  have hsz := strOf_size L
  rw [hpl] at hsz
  have Kpl := Kept.mk hpl
  clear hK
  go_wp2_with fail
  refine (refKeys_any _).mono ?_
  rintro e w2 ⟨rfl, h2⟩
  obtain ⟨D, hD⟩ : ∃ D, D = digest s.data.toList := ⟨_, rfl⟩
  rw [← hD] at KD
  have KDD := Kept.mk hD
  clear hD
  have hE2 := h1.trans h2
  have hs2 := hE2.size
  clear h1 h2
  go_wp2_with (first
    | (refine wpList_store_new rfl 63 (.tmp 4) (.tmp 28) rfl rfl rfl 63 (numsV .u32 z64) (numsV .u32 keysL) rfl rfl (info_size info64) (numsV_one _ _) ?_)
    | (refine wpList_build_run rfl 65 _ rfl (.agg (chW firstC).toArray) (fun W => by kernel_rfl) ?_)
    | (refine wpList_store_new rfl 65 (.tmp 5) (.tmp 29) rfl rfl (by rw [World.size_alloc]; rfl) 65 zW (chW firstC) rfl rfl (info_size info8) (chW_one _) ?_))
  have hI : RI w w2.heap.size (w2.heap.size + 1) (chL firstC) ((w2.alloc (.cells (numsV .u32 keysL).toArray 63)).alloc (.cells (chW firstC).toArray 65)) := by
    refine ⟨hE2.trans ((Ext.alloc _ _).trans (Ext.alloc _ _)), (Blk.new w2 _ _).old _, ?_, by omega, hs2, by omega⟩
    have := Blk.new (w2.alloc (.cells (numsV .u32 keysL).toArray 63)) 65 (chW firstC)
    rwa [World.size_alloc] at this
  generalize ((w2.alloc (.cells (numsV .u32 keysL).toArray 63)).alloc (.cells (chW firstC).toArray 65)) = w3 at hI ⊢
  have h45 : w2.heap.size ≠ w2.heap.size + 1 := by omega
  generalize w2.heap.size + 1 = g5 at hI h45 ⊢
  generalize w2.heap.size = g4 at hI h45 ⊢
  have KI := Kept.mk hI
  clear hI hE2 hs2 hpl
  obtain ⟨X, hX⟩ : ∃ X, X = chain K firstC L := ⟨_, rfl⟩
  rw [← hX] at KD
  have KX0 := Kept.mk hX
  clear hX
  go_loopg [6] K (fun r i wi => ∃ (k : Nat) (c : Ch), k + r = K ∧ i = .int .i64 (64 * (k : Int)) ∧ chain (K - k) c (L.drop (64 * k)) = X ∧ RI w g4 g5 (chL c) wi)
  case atStart => exact ⟨0, firstC, by omega, rfl, by simpa using KX0.out.symm, KI.out⟩
  case round =>
    clear KI
    obtain ⟨k, c, hk, rfl, hX, hI⟩ := hrel
    by_cases hlt : k < K
    · have hkI : 64 * (k : Int) < 64 * (K : Int) := by omega
      have hKb : (K : Int) ≤ 7000000 := by have := Kpl.out; omega
      obtain ⟨bl, hbl⟩ : ∃ bl, bl = (L.drop (64 * k)).take 64 := ⟨_, rfl⟩
      obtain ⟨c2, hc2⟩ : ∃ c2, c2 = pressC c bl := ⟨_, rfl⟩
      have hX2 : chain (K - (k + 1)) c2 (L.drop (64 * (k + 1))) = X := by
        rw [← hX, show K - k = (K - (k + 1)) + 1 by omega, chain, hc2, hbl, List.drop_drop, show 64 * (k + 1) = 64 * k + 64 by omega]
      have HP := Kept.mk (show c2 = addC c (runC c 0 (expand bl)) from hc2)
      have KX := Kept.mk hX2
      have Kbl := Kept.mk hbl
      have KI := Kept.mk hI
      clear hc2 hX hX2 hI hbl
      go_wp2_with fail
      have hW : RW w g4 g5 wr.heap.size (chL c) (uws bl 0 0) (wr.alloc (.cells (numsV .u32 z64).toArray 63)) := by
        refine ⟨KI.out.ext (Ext.alloc _ _), ?_, ?_, ?_, KI.out.ee.size⟩
        · rw [uws_zero]; exact Blk.new wr _ _
        · have := KI.out.kk.lt; omega
        · have := KI.out.cc.lt; omega
      generalize (wr.alloc (.cells (numsV .u32 z64).toArray 63)) = w4 at hW ⊢
      generalize wr.heap.size = g7 at hW ⊢
      have KW := Kept.mk hW
      clear hW KI
      obtain ⟨gz, rfl⟩ : ∃ n : Nat, n = gk := ⟨_, rfl⟩
      go_loopg [8] 16 (fun r i wi => ∃ t : Nat, t + r = 16 ∧ i = .int .i64 (t : Int) ∧ RW w g4 g5 g7 (chL c) (uws bl t 0) wi)
      case atStart => exact ⟨0, rfl, rfl, KW.out⟩
      case round =>
        clear KW
        obtain ⟨t, ht, rfl, hW⟩ := hrel
        by_cases hlt1 : t < 16
        · have htI : (t : Int) < 16 := by omega
          have c7 : wr.cell? ⟨g7, t, none⟩ = some (.int .u32 0) := by
            rw [hW.ww.cell, numsV_at _ _ _ (by rw [uws_length]; omega), uws_getD _ _ _ (by omega)]; rfl
          have f7 := hW.ww.free t
          have hsz' : 64 * k + (4 * t + 3) < (strOf L).size := by omega
          have y0 := get_byte L k (4 * t) (64 * k + 4 * t) (by omega) (by omega) (by omega)
          have y1 := get_byte L k (4 * t + 1) (64 * k + 4 * t + 1) (by omega) (by omega) (by omega)
          have y2 := get_byte L k (4 * t + 2) (64 * k + 4 * t + 2) (by omega) (by omega) (by omega)
          have y3 := get_byte L k (4 * t + 3) (64 * k + 4 * t + 3) (by omega) (by omega) (by omega)
          rw [← Kbl.out] at y0 y1 y2 y3
          have hfour := iw_four bl t
          have hset := fun n => (hW.drewN n).word t (iw bl t 4)
          rw [uws_word] at hset
          have b0 := byt_range bl (4 * t)
          have b1 := byt_range bl (4 * t + 1)
          have b2 := byt_range bl (4 * t + 2)
          have b3 := byt_range bl (4 * t + 3)
          generalize byt bl (4 * t) = z0 at y0 hfour b0
          generalize byt bl (4 * t + 1) = z1 at y1 hfour b1
          generalize byt bl (4 * t + 2) = z2 at y2 hfour b2
          generalize byt bl (4 * t + 3) = z3 at y3 hfour b3
          generalize iw bl t 4 = nx at hfour hset
          have KF := Kept.mk hfour
          have KS := Kept.mk hset
          have b00 := b0.1
          have b01 := b0.2
          have b10 := b1.1
          have b11 := b1.2
          have b20 := b2.1
          have b21 := b2.2
          have b30 := b3.1
          have b31 := b3.2
          have i0 : 64 * (k : Int) + 4 * (t : Int) < (64 * (K : Int)) := by omega
          have i1 : 64 * (k : Int) + 4 * (t : Int) + 1 < (64 * (K : Int)) := by omega
          have i2 : 64 * (k : Int) + 4 * (t : Int) + 2 < (64 * (K : Int)) := by omega
          have i3 : 64 * (k : Int) + 4 * (t : Int) + 3 < (64 * (K : Int)) := by omega
          clear hfour hset hW b0 b1 b2 b3
          go_wp2_with fail
          refine wp_region_calm DrewR 27 ([] :: [] :: [] :: [(45, 1), (46, 2)] :: [(47, 3)] :: [(48, 4)] :: [] :: [] :: [(51, 7)] :: [(50, 6), (52, 8)] :: [(53, 9)] :: [(54, 10)] :: [(49, 5), (55, 11)] :: [] :: [] :: [(58, 14)] :: [(57, 13), (59, 15)] :: [(60, 16)] :: [(61, 17)] :: [(56, 12), (62, 18)] :: [] :: [] :: [(65, 21)] :: [(64, 20), (66, 22)] :: [(67, 23)] :: [(63, 19), (68, 24)] :: [(44, 0)] :: [])
            ((44, 0) :: (45, 1) :: (46, 2) :: (47, 3) :: (48, 4) :: (49, 5) :: (50, 6) :: (51, 7) :: (52, 8) :: (53, 9) :: (54, 10) :: (55, 11) :: (56, 12) :: (57, 13) :: (58, 14) :: (59, 15) :: (60, 16) :: (61, 17) :: (62, 18) :: (63, 19) :: (64, 20) :: (65, 21) :: (66, 22) :: (67, 23) :: (68, 24) :: (69, 25) :: (70, 26) :: [])
            (EqV ?pce0 :: EqV ?pce1 :: EqV ?pce2 :: EqV ?pce3 :: EqV ?pce4 :: EqV ?pce5 :: EqV ?pce6 :: EqV ?pce7 :: EqV ?pce8 :: EqV ?pce9 :: EqV ?pce10 :: EqV ?pce11 :: EqV ?pce12 :: EqV ?pce13 :: EqV ?pce14 :: EqV ?pce15 :: EqV ?pce16 :: EqV ?pce17 :: EqV ?pce18 :: EqV ?pce19 :: EqV ?pce20 :: EqV ?pce21 :: EqV ?pce22 :: EqV ?pce23 :: EqV ?pce24 :: EqV ?pce25 :: EqV ?pce26 :: []) hm (by kernel_rfl) DrewR.refl DrewR.trans DrewR.drew
            (MonoL.at (MonoL.eq _ (MonoL.eq _ (MonoL.eq _ (MonoL.eq _ (MonoL.eq _ (MonoL.eq _ (MonoL.eq _ (MonoL.eq _ (MonoL.eq _ (MonoL.eq _ (MonoL.eq _ (MonoL.eq _ (MonoL.eq _ (MonoL.eq _ (MonoL.eq _ (MonoL.eq _ (MonoL.eq _ (MonoL.eq _ (MonoL.eq _ (MonoL.eq _ (MonoL.eq _ (MonoL.eq _ (MonoL.eq _ (MonoL.eq _ (MonoL.eq _ (MonoL.eq _ (MonoL.eq _ (MonoL.nil))))))))))))))))))))))))))))) ?pcalmOps ?pcalmDone
          case pcalmOps =>
            intro vs
            refine (CalmOps.cons ?_ (CalmOps.cons ?_ (CalmOps.cons ?_ (CalmOps.cons ?_ (CalmOps.cons ?_ (CalmOps.cons ?_ (CalmOps.cons ?_ (CalmOps.cons ?_ (CalmOps.cons ?_ (CalmOps.cons ?_ (CalmOps.cons ?_ (CalmOps.cons ?_ (CalmOps.cons ?_ (CalmOps.cons ?_ (CalmOps.cons ?_ (CalmOps.cons ?_ (CalmOps.cons ?_ (CalmOps.cons ?_ (CalmOps.cons ?_ (CalmOps.cons ?_ (CalmOps.cons ?_ (CalmOps.cons ?_ (CalmOps.cons ?_ (CalmOps.cons ?_ (CalmOps.cons ?_ (CalmOps.cons ?_ (CalmOps.cons ?_ trivial)))))))))))))))))))))))))))
            · intro w hR hL; obtain ⟨nd, rfl⟩ := hR; simp [Look, VAt, EqV] at hL; simp [Guarded, setAll, bare, hL]; go_wp2_with fail; exact CalmPost.mk (by simp; rfl) rfl (DrewR.refl _)
            · intro w hR hL; obtain ⟨nd, rfl⟩ := hR; simp [Look, VAt, EqV] at hL; simp [Guarded, setAll, bare, hL]; go_wp2_with fail; exact CalmPost.mk (by simp; rfl) rfl (DrewR.refl _)
            · intro w hR hL; obtain ⟨nd, rfl⟩ := hR; simp [Look, VAt, EqV] at hL; simp [Guarded, setAll, bare, hL]; go_wp2_with fail; exact CalmPost.mk (by simp; rfl) rfl (DrewR.refl _)
            · intro w hR hL; obtain ⟨nd, rfl⟩ := hR; simp [Look, VAt, EqV] at hL; simp [Guarded, setAll, bare, hL]; go_wp2_with fail; exact CalmPost.mk (by simp; rfl) rfl (DrewR.refl _)
            · intro w hR hL; obtain ⟨nd, rfl⟩ := hR; simp [Look, VAt, EqV] at hL; simp [Guarded, setAll, bare, hL]; go_wp2_with fail; exact CalmPost.mk (by simp; rfl) rfl (DrewR.refl _)
            · intro w hR hL; obtain ⟨nd, rfl⟩ := hR; simp [Look, VAt, EqV] at hL; simp [Guarded, setAll, bare, hL]; go_wp2_with fail; exact CalmPost.mk (by simp; rfl) rfl (DrewR.refl _)
            · intro w hR hL; obtain ⟨nd, rfl⟩ := hR; simp [Look, VAt, EqV] at hL; simp [Guarded, setAll, bare, hL]; go_wp2_with fail; exact CalmPost.mk (by simp; rfl) rfl (DrewR.refl _)
            · intro w hR hL; obtain ⟨nd, rfl⟩ := hR; simp [Look, VAt, EqV] at hL; simp [Guarded, setAll, bare, hL]; go_wp2_with fail; exact CalmPost.mk (by simp; rfl) rfl (DrewR.refl _)
            · intro w hR hL; obtain ⟨nd, rfl⟩ := hR; simp [Look, VAt, EqV] at hL; simp [Guarded, setAll, bare, hL]; go_wp2_with fail; exact CalmPost.mk (by simp; rfl) rfl (DrewR.refl _)
            · intro w hR hL; obtain ⟨nd, rfl⟩ := hR; simp [Look, VAt, EqV] at hL; simp [Guarded, setAll, bare, hL]; go_wp2_with fail; exact CalmPost.mk (by simp; rfl) rfl (DrewR.refl _)
            · intro w hR hL; obtain ⟨nd, rfl⟩ := hR; simp [Look, VAt, EqV] at hL; simp [Guarded, setAll, bare, hL]; go_wp2_with fail; exact CalmPost.mk (by simp; rfl) rfl (DrewR.refl _)
            · intro w hR hL; obtain ⟨nd, rfl⟩ := hR; simp [Look, VAt, EqV] at hL; simp [Guarded, setAll, bare, hL]; go_wp2_with fail; exact CalmPost.mk (by simp; rfl) rfl (DrewR.refl _)
            · intro w hR hL; obtain ⟨nd, rfl⟩ := hR; simp [Look, VAt, EqV] at hL; simp [Guarded, setAll, bare, hL]; go_wp2_with fail; exact CalmPost.mk (by simp; rfl) rfl (DrewR.refl _)
            · intro w hR hL; obtain ⟨nd, rfl⟩ := hR; simp [Look, VAt, EqV] at hL; simp [Guarded, setAll, bare, hL]; go_wp2_with fail; exact CalmPost.mk (by simp; rfl) rfl (DrewR.refl _)
            · intro w hR hL; obtain ⟨nd, rfl⟩ := hR; simp [Look, VAt, EqV] at hL; simp [Guarded, setAll, bare, hL]; go_wp2_with fail; exact CalmPost.mk (by simp; rfl) rfl (DrewR.refl _)
            · intro w hR hL; obtain ⟨nd, rfl⟩ := hR; simp [Look, VAt, EqV] at hL; simp [Guarded, setAll, bare, hL]; go_wp2_with fail; exact CalmPost.mk (by simp; rfl) rfl (DrewR.refl _)
            · intro w hR hL; obtain ⟨nd, rfl⟩ := hR; simp [Look, VAt, EqV] at hL; simp [Guarded, setAll, bare, hL]; go_wp2_with fail; exact CalmPost.mk (by simp; rfl) rfl (DrewR.refl _)
            · intro w hR hL; obtain ⟨nd, rfl⟩ := hR; simp [Look, VAt, EqV] at hL; simp [Guarded, setAll, bare, hL]; go_wp2_with fail; exact CalmPost.mk (by simp; rfl) rfl (DrewR.refl _)
            · intro w hR hL; obtain ⟨nd, rfl⟩ := hR; simp [Look, VAt, EqV] at hL; simp [Guarded, setAll, bare, hL]; go_wp2_with fail; exact CalmPost.mk (by simp; rfl) rfl (DrewR.refl _)
            · intro w hR hL; obtain ⟨nd, rfl⟩ := hR; simp [Look, VAt, EqV] at hL; simp [Guarded, setAll, bare, hL]; go_wp2_with fail; exact CalmPost.mk (by simp; rfl) rfl (DrewR.refl _)
            · intro w hR hL; obtain ⟨nd, rfl⟩ := hR; simp [Look, VAt, EqV] at hL; simp [Guarded, setAll, bare, hL]; go_wp2_with fail; exact CalmPost.mk (by simp; rfl) rfl (DrewR.refl _)
            · intro w hR hL; obtain ⟨nd, rfl⟩ := hR; simp [Look, VAt, EqV] at hL; simp [Guarded, setAll, bare, hL]; go_wp2_with fail; exact CalmPost.mk (by simp; rfl) rfl (DrewR.refl _)
            · intro w hR hL; obtain ⟨nd, rfl⟩ := hR; simp [Look, VAt, EqV] at hL; simp [Guarded, setAll, bare, hL]; go_wp2_with fail; exact CalmPost.mk (by simp; rfl) rfl (DrewR.refl _)
            · intro w hR hL; obtain ⟨nd, rfl⟩ := hR; simp [Look, VAt, EqV] at hL; simp [Guarded, setAll, bare, hL]; go_wp2_with fail; exact CalmPost.mk (by simp; rfl) rfl (DrewR.refl _)
            · intro w hR hL; obtain ⟨nd, rfl⟩ := hR; simp [Look, VAt, EqV] at hL; simp [Guarded, setAll, bare, hL]; go_wp2_with fail; exact CalmPost.mk (by simp; rfl) rfl (DrewR.refl _)
            · intro w hR hL; obtain ⟨nd, rfl⟩ := hR; simp [Look, VAt, EqV] at hL; simp [Guarded, setAll, bare, hL]; go_wp2_with fail; exact CalmPost.mk (by simp; rfl) rfl (DrewR.refl _)
            · intro w hR hL; obtain ⟨nd, rfl⟩ := hR; simp [Look, VAt, EqV] at hL; simp [Guarded, setAll, bare, hL]; go_wp2_with fail; exact CalmPost.mk (by simp; rfl) rfl (DrewR.refl _)
          case pcalmDone =>
            intro vs w6 hR hL; obtain ⟨nd, rfl⟩ := hR; simp [Look, VAt, EqV] at hL; simp [setAll, hL]; clear hL
            rw [← KF.out]
            go_wp2_with fail
            go_roundg (gk - 1)
            case measure => omega
            case rel => exact ⟨t + 1, by omega, by go_num, KS.out nd⟩
        · obtain rfl : t = 16 := by omega
          have hg0 : grow 48 (w16 bl) = expand bl := rfl
          have hw0 : (w16 bl).length = 16 := by simp [w16]
          rw [uws_end] at hW
          generalize hO : expand bl = outw at hg0 HP
          have hol : outw.length = 64 := by rw [← hO]; exact expand_length bl
          have KOL := Kept.mk hol
          clear hO hol
          generalize w16 bl = ws0 at hg0 hw0 hW
          have HG := Kept.mk hg0
          have HW := Kept.mk hw0
          have KW := Kept.mk hW
          clear hW hg0 hw0 hlt1 ht
          go_wp2_with fail
          go_loopg [10] 48 (fun r i wi => ∃ (m : Nat) (ws : List Int), m + r = 48 ∧ i = .int .i64 ((m : Int) + 16) ∧ ws.length = m + 16 ∧ grow r ws = outw ∧ RW w g4 g5 g7 (chL c) (ws ++ List.replicate r 0) wi)
          case atStart => exact ⟨0, ws0, rfl, rfl, HW.out, HG.out, KW.out⟩
          case round =>
            clear KW HG HW
            obtain ⟨m, ws, hm1, rfl, hwl, hgr, hW⟩ := hrel
            by_cases hlt2 : m < 48
            · obtain ⟨r, rfl⟩ : ∃ r, gk = r + 1 := ⟨gk - 1, by omega⟩
              have hmI : (m : Int) < 48 := by omega
              have at_ : ∀ j, j < m + 16 → wr.cell? ⟨g7, j, none⟩ = some (.int .u32 (ws.getD j 0)) := fun j hj => by
                rw [hW.ww.cell, numsV_app_at _ _ _ _ (by rw [hwl]; exact hj)]
              have c2 := at_ (m + 14) (by omega)
              have c7 := at_ (m + 9) (by omega)
              have c15 := at_ (m + 1) (by omega)
              have c16 := at_ m (by omega)
              have hf := hW.ww.free (m + 16)
              have hs0 := hW.ww.cell (m + 16)
              rw [numsV_at _ _ _ (by simp; omega)] at hs0
              have hnx : nextW ws = (ws.getD m 0 + sig0 (ws.getD (m + 1) 0) + ws.getD (m + 9) 0 + sig1 (ws.getD (m + 14) 0)) % 4294967296 := by
                unfold nextW
                rw [hwl, show m + 16 - 16 = m by omega, show m + 16 - 15 = m + 1 by omega, show m + 16 - 7 = m + 9 by omega, show m + 16 - 2 = m + 14 by omega]
              have hset := fun n => (hW.drewN n).word (m + 16) (nextW ws)
              rw [← hwl, List.set_append_right _ _ (Nat.le_refl _), Nat.sub_self, List.replicate_succ, List.set_cons_zero, hwl] at hset
              have hsplit : ws ++ nextW ws :: List.replicate r 0 = (ws ++ [nextW ws]) ++ List.replicate r 0 := by simp
              rw [hsplit] at hset
              have hgr' : grow r (ws ++ [nextW ws]) = outw := hgr
              have hwl' : (ws ++ [nextW ws]).length = m + 1 + 16 := by simp [hwl]
              generalize (ws ++ List.replicate (r + 1) 0).getD (m + 16) 0 = z0 at hs0
              generalize ws.getD (m + 14) 0 = x2 at c2 hnx
              generalize ws.getD (m + 9) 0 = x7 at c7 hnx
              generalize ws.getD (m + 1) 0 = x15 at c15 hnx
              generalize ws.getD m 0 = x16 at c16 hnx
              generalize nextW ws = nx at hnx hset hgr' hwl'
              generalize ws ++ [nx] = ws' at hset hgr' hwl'
              unfold sig0 sig1 at hnx
              have HNX := Kept.mk hnx
              have HG := Kept.mk hgr'
              have HW := Kept.mk hwl'
              have KS := Kept.mk hset
              clear at_ hgr hwl hW hset hsplit hgr' hwl' hnx
              go_wp2_with fail
              refine wp_region_calm DrewR 47 ([] :: [] :: [(76, 1)] :: [(77, 2)] :: [(78, 3)] :: [] :: [(80, 5)] :: [(81, 6)] :: [(82, 7)] :: [(83, 8)] :: [] :: [(85, 10)] :: [(86, 11)] :: [(87, 12)] :: [(88, 13)] :: [(84, 9), (89, 14)] :: [] :: [(91, 16)] :: [(92, 17)] :: [(93, 18)] :: [(94, 19)] :: [(90, 15), (95, 20)] :: [(79, 4), (96, 21)] :: [] :: [(98, 23)] :: [(99, 24)] :: [(100, 25)] :: [(97, 22), (101, 26)] :: [] :: [(103, 28)] :: [(104, 29)] :: [(105, 30)] :: [(106, 31)] :: [] :: [(108, 33)] :: [(109, 34)] :: [(110, 35)] :: [(111, 36)] :: [(107, 32), (112, 37)] :: [] :: [(114, 39)] :: [(115, 40)] :: [(116, 41)] :: [(117, 42)] :: [(113, 38), (118, 43)] :: [(102, 27), (119, 44)] :: [(75, 0)] :: [])
                ((75, 0) :: (76, 1) :: (77, 2) :: (78, 3) :: (79, 4) :: (80, 5) :: (81, 6) :: (82, 7) :: (83, 8) :: (84, 9) :: (85, 10) :: (86, 11) :: (87, 12) :: (88, 13) :: (89, 14) :: (90, 15) :: (91, 16) :: (92, 17) :: (93, 18) :: (94, 19) :: (95, 20) :: (96, 21) :: (97, 22) :: (98, 23) :: (99, 24) :: (100, 25) :: (101, 26) :: (102, 27) :: (103, 28) :: (104, 29) :: (105, 30) :: (106, 31) :: (107, 32) :: (108, 33) :: (109, 34) :: (110, 35) :: (111, 36) :: (112, 37) :: (113, 38) :: (114, 39) :: (115, 40) :: (116, 41) :: (117, 42) :: (118, 43) :: (119, 44) :: (120, 45) :: (121, 46) :: [])
                (EqV ?qce0 :: EqV ?qce1 :: EqV ?qce2 :: EqV ?qce3 :: EqV ?qce4 :: EqV ?qce5 :: EqV ?qce6 :: EqV ?qce7 :: EqV ?qce8 :: EqV ?qce9 :: EqV ?qce10 :: EqV ?qce11 :: EqV ?qce12 :: EqV ?qce13 :: EqV ?qce14 :: EqV ?qce15 :: EqV ?qce16 :: EqV ?qce17 :: EqV ?qce18 :: EqV ?qce19 :: EqV ?qce20 :: EqV ?qce21 :: EqV ?qce22 :: EqV ?qce23 :: EqV ?qce24 :: EqV ?qce25 :: EqV ?qce26 :: EqV ?qce27 :: EqV ?qce28 :: EqV ?qce29 :: EqV ?qce30 :: EqV ?qce31 :: EqV ?qce32 :: EqV ?qce33 :: EqV ?qce34 :: EqV ?qce35 :: EqV ?qce36 :: EqV ?qce37 :: EqV ?qce38 :: EqV ?qce39 :: EqV ?qce40 :: EqV ?qce41 :: EqV ?qce42 :: EqV ?qce43 :: EqV ?qce44 :: EqV ?qce45 :: EqV ?qce46 :: []) hm (by kernel_rfl) DrewR.refl DrewR.trans DrewR.drew
                (MonoL.at (MonoL.eq _ (MonoL.eq _ (MonoL.eq _ (MonoL.eq _ (MonoL.eq _ (MonoL.eq _ (MonoL.eq _ (MonoL.eq _ (MonoL.eq _ (MonoL.eq _ (MonoL.eq _ (MonoL.eq _ (MonoL.eq _ (MonoL.eq _ (MonoL.eq _ (MonoL.eq _ (MonoL.eq _ (MonoL.eq _ (MonoL.eq _ (MonoL.eq _ (MonoL.eq _ (MonoL.eq _ (MonoL.eq _ (MonoL.eq _ (MonoL.eq _ (MonoL.eq _ (MonoL.eq _ (MonoL.eq _ (MonoL.eq _ (MonoL.eq _ (MonoL.eq _ (MonoL.eq _ (MonoL.eq _ (MonoL.eq _ (MonoL.eq _ (MonoL.eq _ (MonoL.eq _ (MonoL.eq _ (MonoL.eq _ (MonoL.eq _ (MonoL.eq _ (MonoL.eq _ (MonoL.eq _ (MonoL.eq _ (MonoL.eq _ (MonoL.eq _ (MonoL.eq _ (MonoL.nil))))))))))))))))))))))))))))))))))))))))))))))))) ?qcalmOps ?qcalmDone
              case qcalmOps =>
                intro vs
                refine (CalmOps.cons ?_ (CalmOps.cons ?_ (CalmOps.cons ?_ (CalmOps.cons ?_ (CalmOps.cons ?_ (CalmOps.cons ?_ (CalmOps.cons ?_ (CalmOps.cons ?_ (CalmOps.cons ?_ (CalmOps.cons ?_ (CalmOps.cons ?_ (CalmOps.cons ?_ (CalmOps.cons ?_ (CalmOps.cons ?_ (CalmOps.cons ?_ (CalmOps.cons ?_ (CalmOps.cons ?_ (CalmOps.cons ?_ (CalmOps.cons ?_ (CalmOps.cons ?_ (CalmOps.cons ?_ (CalmOps.cons ?_ (CalmOps.cons ?_ (CalmOps.cons ?_ (CalmOps.cons ?_ (CalmOps.cons ?_ (CalmOps.cons ?_ (CalmOps.cons ?_ (CalmOps.cons ?_ (CalmOps.cons ?_ (CalmOps.cons ?_ (CalmOps.cons ?_ (CalmOps.cons ?_ (CalmOps.cons ?_ (CalmOps.cons ?_ (CalmOps.cons ?_ (CalmOps.cons ?_ (CalmOps.cons ?_ (CalmOps.cons ?_ (CalmOps.cons ?_ (CalmOps.cons ?_ (CalmOps.cons ?_ (CalmOps.cons ?_ (CalmOps.cons ?_ (CalmOps.cons ?_ (CalmOps.cons ?_ (CalmOps.cons ?_ trivial)))))))))))))))))))))))))))))))))))))))))))))))
                · intro w hR hL; obtain ⟨nd, rfl⟩ := hR; simp [Look, VAt, EqV] at hL; simp [Guarded, setAll, bare, hL]; go_wp2_with fail; exact CalmPost.mk (by simp; rfl) rfl (DrewR.refl _)
                · intro w hR hL; obtain ⟨nd, rfl⟩ := hR; simp [Look, VAt, EqV] at hL; simp [Guarded, setAll, bare, hL]; go_wp2_with fail; exact CalmPost.mk (by simp; rfl) rfl (DrewR.refl _)
                · intro w hR hL; obtain ⟨nd, rfl⟩ := hR; simp [Look, VAt, EqV] at hL; simp [Guarded, setAll, bare, hL]; go_wp2_with fail; exact CalmPost.mk (by simp; rfl) rfl (DrewR.refl _)
                · intro w hR hL; obtain ⟨nd, rfl⟩ := hR; simp [Look, VAt, EqV] at hL; simp [Guarded, setAll, bare, hL]; go_wp2_with fail; exact CalmPost.mk (by simp; rfl) rfl (DrewR.refl _)
                · intro w hR hL; obtain ⟨nd, rfl⟩ := hR; simp [Look, VAt, EqV] at hL; simp [Guarded, setAll, bare, hL]; go_wp2_with fail; exact CalmPost.mk (by simp; rfl) rfl (DrewR.refl _)
                · intro w hR hL; obtain ⟨nd, rfl⟩ := hR; simp [Look, VAt, EqV] at hL; simp [Guarded, setAll, bare, hL]; go_wp2_with fail; exact CalmPost.mk (by simp; rfl) rfl (DrewR.refl _)
                · intro w hR hL; obtain ⟨nd, rfl⟩ := hR; simp [Look, VAt, EqV] at hL; simp [Guarded, setAll, bare, hL]; go_wp2_with fail; exact CalmPost.mk (by simp; rfl) rfl (DrewR.refl _)
                · intro w hR hL; obtain ⟨nd, rfl⟩ := hR; simp [Look, VAt, EqV] at hL; simp [Guarded, setAll, bare, hL]; go_wp2_with fail; exact CalmPost.mk (by simp; rfl) rfl (DrewR.refl _)
                · intro w hR hL; obtain ⟨nd, rfl⟩ := hR; simp [Look, VAt, EqV] at hL; simp [Guarded, setAll, bare, hL]; go_wp2_with fail; exact CalmPost.mk (by simp; rfl) rfl (DrewR.refl _)
                · intro w hR hL; obtain ⟨nd, rfl⟩ := hR; simp [Look, VAt, EqV] at hL; simp [Guarded, setAll, bare, hL]; go_wp2_with fail; refine (refTurn_any x15 7 (by decide) (by decide) _).mono ?_; rintro ee ww ⟨rfl, rfl⟩; go_wp2_with fail; exact CalmPost.mk (by simp; rfl) rfl (DrewR.refl _)
                · intro w hR hL; obtain ⟨nd, rfl⟩ := hR; simp [Look, VAt, EqV] at hL; simp [Guarded, setAll, bare, hL]; go_wp2_with fail; exact CalmPost.mk (by simp; rfl) rfl (DrewR.refl _)
                · intro w hR hL; obtain ⟨nd, rfl⟩ := hR; simp [Look, VAt, EqV] at hL; simp [Guarded, setAll, bare, hL]; go_wp2_with fail; exact CalmPost.mk (by simp; rfl) rfl (DrewR.refl _)
                · intro w hR hL; obtain ⟨nd, rfl⟩ := hR; simp [Look, VAt, EqV] at hL; simp [Guarded, setAll, bare, hL]; go_wp2_with fail; exact CalmPost.mk (by simp; rfl) rfl (DrewR.refl _)
                · intro w hR hL; obtain ⟨nd, rfl⟩ := hR; simp [Look, VAt, EqV] at hL; simp [Guarded, setAll, bare, hL]; go_wp2_with fail; exact CalmPost.mk (by simp; rfl) rfl (DrewR.refl _)
                · intro w hR hL; obtain ⟨nd, rfl⟩ := hR; simp [Look, VAt, EqV] at hL; simp [Guarded, setAll, bare, hL]; go_wp2_with fail; refine (refTurn_any x15 18 (by decide) (by decide) _).mono ?_; rintro ee ww ⟨rfl, rfl⟩; go_wp2_with fail; exact CalmPost.mk (by simp; rfl) rfl (DrewR.refl _)
                · intro w hR hL; obtain ⟨nd, rfl⟩ := hR; simp [Look, VAt, EqV] at hL; simp [Guarded, setAll, bare, hL]; go_wp2_with fail; exact CalmPost.mk (by simp; rfl) rfl (DrewR.refl _)
                · intro w hR hL; obtain ⟨nd, rfl⟩ := hR; simp [Look, VAt, EqV] at hL; simp [Guarded, setAll, bare, hL]; go_wp2_with fail; exact CalmPost.mk (by simp; rfl) rfl (DrewR.refl _)
                · intro w hR hL; obtain ⟨nd, rfl⟩ := hR; simp [Look, VAt, EqV] at hL; simp [Guarded, setAll, bare, hL]; go_wp2_with fail; exact CalmPost.mk (by simp; rfl) rfl (DrewR.refl _)
                · intro w hR hL; obtain ⟨nd, rfl⟩ := hR; simp [Look, VAt, EqV] at hL; simp [Guarded, setAll, bare, hL]; go_wp2_with fail; exact CalmPost.mk (by simp; rfl) rfl (DrewR.refl _)
                · intro w hR hL; obtain ⟨nd, rfl⟩ := hR; simp [Look, VAt, EqV] at hL; simp [Guarded, setAll, bare, hL]; go_wp2_with fail; exact CalmPost.mk (by simp; rfl) rfl (DrewR.refl _)
                · intro w hR hL; obtain ⟨nd, rfl⟩ := hR; simp [Look, VAt, EqV] at hL; simp [Guarded, setAll, bare, hL]; go_wp2_with fail; exact CalmPost.mk (by simp; rfl) rfl (DrewR.refl _)
                · intro w hR hL; obtain ⟨nd, rfl⟩ := hR; simp [Look, VAt, EqV] at hL; simp [Guarded, setAll, bare, hL]; go_wp2_with fail; exact CalmPost.mk (by simp; rfl) rfl (DrewR.refl _)
                · intro w hR hL; obtain ⟨nd, rfl⟩ := hR; simp [Look, VAt, EqV] at hL; simp [Guarded, setAll, bare, hL]; go_wp2_with fail; exact CalmPost.mk (by simp; rfl) rfl (DrewR.refl _)
                · intro w hR hL; obtain ⟨nd, rfl⟩ := hR; simp [Look, VAt, EqV] at hL; simp [Guarded, setAll, bare, hL]; go_wp2_with fail; exact CalmPost.mk (by simp; rfl) rfl (DrewR.refl _)
                · intro w hR hL; obtain ⟨nd, rfl⟩ := hR; simp [Look, VAt, EqV] at hL; simp [Guarded, setAll, bare, hL]; go_wp2_with fail; exact CalmPost.mk (by simp; rfl) rfl (DrewR.refl _)
                · intro w hR hL; obtain ⟨nd, rfl⟩ := hR; simp [Look, VAt, EqV] at hL; simp [Guarded, setAll, bare, hL]; go_wp2_with fail; exact CalmPost.mk (by simp; rfl) rfl (DrewR.refl _)
                · intro w hR hL; obtain ⟨nd, rfl⟩ := hR; simp [Look, VAt, EqV] at hL; simp [Guarded, setAll, bare, hL]; go_wp2_with fail; exact CalmPost.mk (by simp; rfl) rfl (DrewR.refl _)
                · intro w hR hL; obtain ⟨nd, rfl⟩ := hR; simp [Look, VAt, EqV] at hL; simp [Guarded, setAll, bare, hL]; go_wp2_with fail; exact CalmPost.mk (by simp; rfl) rfl (DrewR.refl _)
                · intro w hR hL; obtain ⟨nd, rfl⟩ := hR; simp [Look, VAt, EqV] at hL; simp [Guarded, setAll, bare, hL]; go_wp2_with fail; exact CalmPost.mk (by simp; rfl) rfl (DrewR.refl _)
                · intro w hR hL; obtain ⟨nd, rfl⟩ := hR; simp [Look, VAt, EqV] at hL; simp [Guarded, setAll, bare, hL]; go_wp2_with fail; exact CalmPost.mk (by simp; rfl) rfl (DrewR.refl _)
                · intro w hR hL; obtain ⟨nd, rfl⟩ := hR; simp [Look, VAt, EqV] at hL; simp [Guarded, setAll, bare, hL]; go_wp2_with fail; exact CalmPost.mk (by simp; rfl) rfl (DrewR.refl _)
                · intro w hR hL; obtain ⟨nd, rfl⟩ := hR; simp [Look, VAt, EqV] at hL; simp [Guarded, setAll, bare, hL]; go_wp2_with fail; exact CalmPost.mk (by simp; rfl) rfl (DrewR.refl _)
                · intro w hR hL; obtain ⟨nd, rfl⟩ := hR; simp [Look, VAt, EqV] at hL; simp [Guarded, setAll, bare, hL]; go_wp2_with fail; refine (refTurn_any x2 17 (by decide) (by decide) _).mono ?_; rintro ee ww ⟨rfl, rfl⟩; go_wp2_with fail; exact CalmPost.mk (by simp; rfl) rfl (DrewR.refl _)
                · intro w hR hL; obtain ⟨nd, rfl⟩ := hR; simp [Look, VAt, EqV] at hL; simp [Guarded, setAll, bare, hL]; go_wp2_with fail; exact CalmPost.mk (by simp; rfl) rfl (DrewR.refl _)
                · intro w hR hL; obtain ⟨nd, rfl⟩ := hR; simp [Look, VAt, EqV] at hL; simp [Guarded, setAll, bare, hL]; go_wp2_with fail; exact CalmPost.mk (by simp; rfl) rfl (DrewR.refl _)
                · intro w hR hL; obtain ⟨nd, rfl⟩ := hR; simp [Look, VAt, EqV] at hL; simp [Guarded, setAll, bare, hL]; go_wp2_with fail; exact CalmPost.mk (by simp; rfl) rfl (DrewR.refl _)
                · intro w hR hL; obtain ⟨nd, rfl⟩ := hR; simp [Look, VAt, EqV] at hL; simp [Guarded, setAll, bare, hL]; go_wp2_with fail; exact CalmPost.mk (by simp; rfl) rfl (DrewR.refl _)
                · intro w hR hL; obtain ⟨nd, rfl⟩ := hR; simp [Look, VAt, EqV] at hL; simp [Guarded, setAll, bare, hL]; go_wp2_with fail; refine (refTurn_any x2 19 (by decide) (by decide) _).mono ?_; rintro ee ww ⟨rfl, rfl⟩; go_wp2_with fail; exact CalmPost.mk (by simp; rfl) rfl (DrewR.refl _)
                · intro w hR hL; obtain ⟨nd, rfl⟩ := hR; simp [Look, VAt, EqV] at hL; simp [Guarded, setAll, bare, hL]; go_wp2_with fail; exact CalmPost.mk (by simp; rfl) rfl (DrewR.refl _)
                · intro w hR hL; obtain ⟨nd, rfl⟩ := hR; simp [Look, VAt, EqV] at hL; simp [Guarded, setAll, bare, hL]; go_wp2_with fail; exact CalmPost.mk (by simp; rfl) rfl (DrewR.refl _)
                · intro w hR hL; obtain ⟨nd, rfl⟩ := hR; simp [Look, VAt, EqV] at hL; simp [Guarded, setAll, bare, hL]; go_wp2_with fail; exact CalmPost.mk (by simp; rfl) rfl (DrewR.refl _)
                · intro w hR hL; obtain ⟨nd, rfl⟩ := hR; simp [Look, VAt, EqV] at hL; simp [Guarded, setAll, bare, hL]; go_wp2_with fail; exact CalmPost.mk (by simp; rfl) rfl (DrewR.refl _)
                · intro w hR hL; obtain ⟨nd, rfl⟩ := hR; simp [Look, VAt, EqV] at hL; simp [Guarded, setAll, bare, hL]; go_wp2_with fail; exact CalmPost.mk (by simp; rfl) rfl (DrewR.refl _)
                · intro w hR hL; obtain ⟨nd, rfl⟩ := hR; simp [Look, VAt, EqV] at hL; simp [Guarded, setAll, bare, hL]; go_wp2_with fail; exact CalmPost.mk (by simp; rfl) rfl (DrewR.refl _)
                · intro w hR hL; obtain ⟨nd, rfl⟩ := hR; simp [Look, VAt, EqV] at hL; simp [Guarded, setAll, bare, hL]; go_wp2_with fail; exact CalmPost.mk (by simp; rfl) rfl (DrewR.refl _)
                · intro w hR hL; obtain ⟨nd, rfl⟩ := hR; simp [Look, VAt, EqV] at hL; simp [Guarded, setAll, bare, hL]; go_wp2_with fail; exact CalmPost.mk (by simp; rfl) rfl (DrewR.refl _)
                · intro w hR hL; obtain ⟨nd, rfl⟩ := hR; simp [Look, VAt, EqV] at hL; simp [Guarded, setAll, bare, hL]; go_wp2_with fail; exact CalmPost.mk (by simp; rfl) rfl (DrewR.refl _)
              case qcalmDone =>
                intro vs w6 hR hL; obtain ⟨nd2, rfl⟩ := hR; simp [Look, VAt, EqV] at hL; simp [setAll, hL]; clear hL
                rw [← HNX.out]
                go_wp2_with fail
                go_roundg r
                case measure => omega
                case rel => exact ⟨m + 1, ws', by omega, by go_num, HW.out, HG.out, KS.out nd2⟩
            · obtain rfl : m = 48 := by omega
              obtain rfl : gk = 0 := by omega
              have hout : ws = outw := hgr
              rw [hout, List.replicate_zero, List.append_nil] at hW
              obtain ⟨y, hy⟩ : ∃ y, y = runC c 0 outw := ⟨_, rfl⟩
              rw [← hy] at HP
              have q0 : wr.cell? ⟨g5, 0, none⟩ = some (.int .u32 c.a) := hW.ri.cc.cell 0
              have q1 : wr.cell? ⟨g5, 1, none⟩ = some (.int .u32 c.b) := hW.ri.cc.cell 1
              have q2 : wr.cell? ⟨g5, 2, none⟩ = some (.int .u32 c.c) := hW.ri.cc.cell 2
              have q3 : wr.cell? ⟨g5, 3, none⟩ = some (.int .u32 c.d) := hW.ri.cc.cell 3
              have q4 : wr.cell? ⟨g5, 4, none⟩ = some (.int .u32 c.e) := hW.ri.cc.cell 4
              have q5 : wr.cell? ⟨g5, 5, none⟩ = some (.int .u32 c.f) := hW.ri.cc.cell 5
              have q6 : wr.cell? ⟨g5, 6, none⟩ = some (.int .u32 c.g) := hW.ri.cc.cell 6
              have q7 : wr.cell? ⟨g5, 7, none⟩ = some (.int .u32 c.h) := hW.ri.cc.cell 7
              have KW := Kept.mk hW
              have Ky := Kept.mk hy
              clear hW hgr hwl hout hlt2 hm1 hy
              go_wp2_with fail
              refine wp_region_calm DrewR 24 ([] :: [(122, 0)] :: [] :: [(124, 2)] :: [] :: [(126, 4)] :: [] :: [(128, 6)] :: [] :: [(130, 8)] :: [] :: [(132, 10)] :: [] :: [(134, 12)] :: [] :: [(136, 14)] :: [(123, 1)] :: [(125, 3)] :: [(127, 5)] :: [(129, 7)] :: [(131, 9)] :: [(133, 11)] :: [(135, 13)] :: [(137, 15)] :: [])
                ((122, 0) :: (123, 1) :: (124, 2) :: (125, 3) :: (126, 4) :: (127, 5) :: (128, 6) :: (129, 7) :: (130, 8) :: (131, 9) :: (132, 10) :: (133, 11) :: (134, 12) :: (135, 13) :: (136, 14) :: (137, 15) :: (11, 16) :: (12, 17) :: (13, 18) :: (14, 19) :: (15, 20) :: (16, 21) :: (17, 22) :: (18, 23) :: [])
                (EqV ?rce0 :: EqV ?rce1 :: EqV ?rce2 :: EqV ?rce3 :: EqV ?rce4 :: EqV ?rce5 :: EqV ?rce6 :: EqV ?rce7 :: EqV ?rce8 :: EqV ?rce9 :: EqV ?rce10 :: EqV ?rce11 :: EqV ?rce12 :: EqV ?rce13 :: EqV ?rce14 :: EqV ?rce15 :: EqV ?rce16 :: EqV ?rce17 :: EqV ?rce18 :: EqV ?rce19 :: EqV ?rce20 :: EqV ?rce21 :: EqV ?rce22 :: EqV ?rce23 :: []) hm (by kernel_rfl) DrewR.refl DrewR.trans DrewR.drew
                (MonoL.at (MonoL.eq _ (MonoL.eq _ (MonoL.eq _ (MonoL.eq _ (MonoL.eq _ (MonoL.eq _ (MonoL.eq _ (MonoL.eq _ (MonoL.eq _ (MonoL.eq _ (MonoL.eq _ (MonoL.eq _ (MonoL.eq _ (MonoL.eq _ (MonoL.eq _ (MonoL.eq _ (MonoL.eq _ (MonoL.eq _ (MonoL.eq _ (MonoL.eq _ (MonoL.eq _ (MonoL.eq _ (MonoL.eq _ (MonoL.eq _ (MonoL.nil)))))))))))))))))))))))))) ?rcalmOps ?rcalmDone
              case rcalmOps =>
                intro vs
                refine (CalmOps.cons ?_ (CalmOps.cons ?_ (CalmOps.cons ?_ (CalmOps.cons ?_ (CalmOps.cons ?_ (CalmOps.cons ?_ (CalmOps.cons ?_ (CalmOps.cons ?_ (CalmOps.cons ?_ (CalmOps.cons ?_ (CalmOps.cons ?_ (CalmOps.cons ?_ (CalmOps.cons ?_ (CalmOps.cons ?_ (CalmOps.cons ?_ (CalmOps.cons ?_ (CalmOps.cons ?_ (CalmOps.cons ?_ (CalmOps.cons ?_ (CalmOps.cons ?_ (CalmOps.cons ?_ (CalmOps.cons ?_ (CalmOps.cons ?_ (CalmOps.cons ?_ trivial))))))))))))))))))))))))
                · intro w hR hL; obtain ⟨nd, rfl⟩ := hR; simp [Look, VAt, EqV] at hL; simp [Guarded, setAll, bare, hL]; go_wp2_with fail; exact CalmPost.mk (by simp; rfl) rfl (DrewR.refl _)
                · intro w hR hL; obtain ⟨nd, rfl⟩ := hR; simp [Look, VAt, EqV] at hL; simp [Guarded, setAll, bare, hL]; go_wp2_with fail; exact CalmPost.mk (by simp; rfl) rfl (DrewR.refl _)
                · intro w hR hL; obtain ⟨nd, rfl⟩ := hR; simp [Look, VAt, EqV] at hL; simp [Guarded, setAll, bare, hL]; go_wp2_with fail; exact CalmPost.mk (by simp; rfl) rfl (DrewR.refl _)
                · intro w hR hL; obtain ⟨nd, rfl⟩ := hR; simp [Look, VAt, EqV] at hL; simp [Guarded, setAll, bare, hL]; go_wp2_with fail; exact CalmPost.mk (by simp; rfl) rfl (DrewR.refl _)
                · intro w hR hL; obtain ⟨nd, rfl⟩ := hR; simp [Look, VAt, EqV] at hL; simp [Guarded, setAll, bare, hL]; go_wp2_with fail; exact CalmPost.mk (by simp; rfl) rfl (DrewR.refl _)
                · intro w hR hL; obtain ⟨nd, rfl⟩ := hR; simp [Look, VAt, EqV] at hL; simp [Guarded, setAll, bare, hL]; go_wp2_with fail; exact CalmPost.mk (by simp; rfl) rfl (DrewR.refl _)
                · intro w hR hL; obtain ⟨nd, rfl⟩ := hR; simp [Look, VAt, EqV] at hL; simp [Guarded, setAll, bare, hL]; go_wp2_with fail; exact CalmPost.mk (by simp; rfl) rfl (DrewR.refl _)
                · intro w hR hL; obtain ⟨nd, rfl⟩ := hR; simp [Look, VAt, EqV] at hL; simp [Guarded, setAll, bare, hL]; go_wp2_with fail; exact CalmPost.mk (by simp; rfl) rfl (DrewR.refl _)
                · intro w hR hL; obtain ⟨nd, rfl⟩ := hR; simp [Look, VAt, EqV] at hL; simp [Guarded, setAll, bare, hL]; go_wp2_with fail; exact CalmPost.mk (by simp; rfl) rfl (DrewR.refl _)
                · intro w hR hL; obtain ⟨nd, rfl⟩ := hR; simp [Look, VAt, EqV] at hL; simp [Guarded, setAll, bare, hL]; go_wp2_with fail; exact CalmPost.mk (by simp; rfl) rfl (DrewR.refl _)
                · intro w hR hL; obtain ⟨nd, rfl⟩ := hR; simp [Look, VAt, EqV] at hL; simp [Guarded, setAll, bare, hL]; go_wp2_with fail; exact CalmPost.mk (by simp; rfl) rfl (DrewR.refl _)
                · intro w hR hL; obtain ⟨nd, rfl⟩ := hR; simp [Look, VAt, EqV] at hL; simp [Guarded, setAll, bare, hL]; go_wp2_with fail; exact CalmPost.mk (by simp; rfl) rfl (DrewR.refl _)
                · intro w hR hL; obtain ⟨nd, rfl⟩ := hR; simp [Look, VAt, EqV] at hL; simp [Guarded, setAll, bare, hL]; go_wp2_with fail; exact CalmPost.mk (by simp; rfl) rfl (DrewR.refl _)
                · intro w hR hL; obtain ⟨nd, rfl⟩ := hR; simp [Look, VAt, EqV] at hL; simp [Guarded, setAll, bare, hL]; go_wp2_with fail; exact CalmPost.mk (by simp; rfl) rfl (DrewR.refl _)
                · intro w hR hL; obtain ⟨nd, rfl⟩ := hR; simp [Look, VAt, EqV] at hL; simp [Guarded, setAll, bare, hL]; go_wp2_with fail; exact CalmPost.mk (by simp; rfl) rfl (DrewR.refl _)
                · intro w hR hL; obtain ⟨nd, rfl⟩ := hR; simp [Look, VAt, EqV] at hL; simp [Guarded, setAll, bare, hL]; go_wp2_with fail; exact CalmPost.mk (by simp; rfl) rfl (DrewR.refl _)
                · intro w hR hL; obtain ⟨nd, rfl⟩ := hR; simp [Look, VAt, EqV] at hL; simp [Guarded, setAll, bare, hL]; go_wp2_with fail; exact CalmPost.mk (by simp; rfl) rfl (DrewR.refl _)
                · intro w hR hL; obtain ⟨nd, rfl⟩ := hR; simp [Look, VAt, EqV] at hL; simp [Guarded, setAll, bare, hL]; go_wp2_with fail; exact CalmPost.mk (by simp; rfl) rfl (DrewR.refl _)
                · intro w hR hL; obtain ⟨nd, rfl⟩ := hR; simp [Look, VAt, EqV] at hL; simp [Guarded, setAll, bare, hL]; go_wp2_with fail; exact CalmPost.mk (by simp; rfl) rfl (DrewR.refl _)
                · intro w hR hL; obtain ⟨nd, rfl⟩ := hR; simp [Look, VAt, EqV] at hL; simp [Guarded, setAll, bare, hL]; go_wp2_with fail; exact CalmPost.mk (by simp; rfl) rfl (DrewR.refl _)
                · intro w hR hL; obtain ⟨nd, rfl⟩ := hR; simp [Look, VAt, EqV] at hL; simp [Guarded, setAll, bare, hL]; go_wp2_with fail; exact CalmPost.mk (by simp; rfl) rfl (DrewR.refl _)
                · intro w hR hL; obtain ⟨nd, rfl⟩ := hR; simp [Look, VAt, EqV] at hL; simp [Guarded, setAll, bare, hL]; go_wp2_with fail; exact CalmPost.mk (by simp; rfl) rfl (DrewR.refl _)
                · intro w hR hL; obtain ⟨nd, rfl⟩ := hR; simp [Look, VAt, EqV] at hL; simp [Guarded, setAll, bare, hL]; go_wp2_with fail; exact CalmPost.mk (by simp; rfl) rfl (DrewR.refl _)
                · intro w hR hL; obtain ⟨nd, rfl⟩ := hR; simp [Look, VAt, EqV] at hL; simp [Guarded, setAll, bare, hL]; go_wp2_with fail; exact CalmPost.mk (by simp; rfl) rfl (DrewR.refl _)
              case rcalmDone =>
                intro vs w6 hR hL; obtain ⟨nd3, rfl⟩ := hR; simp [Look, VAt, EqV] at hL; simp [setAll, hL]; clear hL
                have KW := Kept.mk (KW.out.drewN nd3)
                clear q0 q1 q2 q3 q4 q5 q6 q7
                generalize wr.drewN nd3 = wp at KW ⊢
                go_wp2_with fail
                go_loopg [11, 12, 13, 14, 15, 16, 17, 18, 19] 64 (fun r s11 s12 s13 s14 s15 s16 s17 s18 i wi => ∃ (k : Nat) (x : Ch), k + r = 64 ∧ i = .int .i64 (k : Int) ∧ (s11 = .int .u32 x.a ∧ s12 = .int .u32 x.b ∧ s13 = .int .u32 x.c ∧ s14 = .int .u32 x.d ∧ s15 = .int .u32 x.e ∧ s16 = .int .u32 x.f ∧ s17 = .int .u32 x.g ∧ s18 = .int .u32 x.h) ∧ runC x k (outw.drop k) = y ∧ RW w g4 g5 g7 (chL c) outw wi)
                case atStart => exact ⟨0, c, rfl, rfl, ⟨rfl, rfl, rfl, rfl, rfl, rfl, rfl, rfl⟩, by rw [Ky.out]; rfl, KW.out⟩
                case round =>
                  clear KW
                  obtain ⟨j, x, hj, rfl, ⟨rfl, rfl, rfl, rfl, rfl, rfl, rfl, rfl⟩, hrun, hW⟩ := hrel
                  by_cases hlt3 : j < 64
                  · have hjI : (j : Int) < 64 := by omega
                    rw [runC_drop x j outw (by rw [KOL.out]; exact hlt3)] at hrun
                    have ck : wr.cell? ⟨g4, j, none⟩ = some (.int .u32 (keysL.getD j 0)) := by
                      rw [hW.ri.kk.cell, numsV_at _ _ _ (show j < keysL.length from hlt3)]
                    have cw : wr.cell? ⟨g7, j, none⟩ = some (.int .u32 (outw.getD j 0)) := by
                      rw [hW.ww.cell, numsV_at _ _ _ (by rw [KOL.out]; exact hlt3)]
                    generalize keysL.getD j 0 = kv at ck hrun
                    generalize outw.getD j 0 = wv at cw hrun
                    have hst : stepC x kv wv = ⟨(oneI x kv wv + twoI x) % 4294967296, x.a, x.b, x.c, (x.d + oneI x kv wv) % 4294967296, x.e, x.f, x.g⟩ := rfl
                    have hone : oneI x kv wv = (x.h + big1 x.e + chI x.e x.f x.g + kv + wv) % 4294967296 := rfl
                    have htwo : twoI x = (big0 x.a + majI x.a x.b x.c) % 4294967296 := rfl
                    rw [← ch_ref] at hone
                    rw [← maj_ref] at htwo
                    generalize oneI x kv wv = one at hst hone
                    generalize twoI x = two at hst htwo
                    generalize hnew : stepC x kv wv = nw at hrun hst
                    obtain ⟨xa, xb, xc, xd, xe, xf, xg, xh⟩ := x
                    simp only [] at hst hone htwo
                    unfold big1 at hone
                    unfold big0 at htwo
                    clear hnew
                    have KR := Kept.mk hrun
                    have K1 := Kept.mk hone
                    have K2 := Kept.mk htwo
                    have KS := Kept.mk hst
                    have KW := Kept.mk hW
                    have hsg : IntKind.u32.signed = false := rfl
                    clear hrun hone htwo hst hW
                    go_wp2_with fail
                    refine wp_region_calm DrewR 28 ([] :: [] :: [(143, 1)] :: [] :: [(145, 3)] :: [(144, 2), (146, 4)] :: [] :: [(148, 6)] :: [(147, 5), (149, 7)] :: [(142, 0), (150, 8)] :: [] :: [] :: [(152, 10), (153, 11)] :: [] :: [(155, 13)] :: [] :: [(156, 14), (157, 15)] :: [(154, 12), (158, 16)] :: [(151, 9), (159, 17)] :: [] :: [(161, 19)] :: [(162, 20)] :: [(160, 18), (163, 21)] :: [] :: [(165, 23)] :: [(166, 24)] :: [(164, 22), (167, 25)] :: [(168, 26)] :: [])
                      ((142, 0) :: (143, 1) :: (144, 2) :: (145, 3) :: (146, 4) :: (147, 5) :: (148, 6) :: (149, 7) :: (150, 8) :: (151, 9) :: (152, 10) :: (153, 11) :: (154, 12) :: (155, 13) :: (156, 14) :: (157, 15) :: (158, 16) :: (159, 17) :: (160, 18) :: (161, 19) :: (162, 20) :: (163, 21) :: (164, 22) :: (165, 23) :: (166, 24) :: (167, 25) :: (168, 26) :: (20, 27) :: [])
                      (EqV ?sce0 :: EqV ?sce1 :: EqV ?sce2 :: EqV ?sce3 :: EqV ?sce4 :: EqV ?sce5 :: EqV ?sce6 :: EqV ?sce7 :: EqV ?sce8 :: EqV ?sce9 :: EqV ?sce10 :: EqV ?sce11 :: EqV ?sce12 :: EqV ?sce13 :: EqV ?sce14 :: EqV ?sce15 :: EqV ?sce16 :: EqV ?sce17 :: EqV ?sce18 :: EqV ?sce19 :: EqV ?sce20 :: EqV ?sce21 :: EqV ?sce22 :: EqV ?sce23 :: EqV ?sce24 :: EqV ?sce25 :: EqV ?sce26 :: EqV ?sce27 :: []) hm (by kernel_rfl) DrewR.refl DrewR.trans DrewR.drew
                      (MonoL.at (MonoL.eq _ (MonoL.eq _ (MonoL.eq _ (MonoL.eq _ (MonoL.eq _ (MonoL.eq _ (MonoL.eq _ (MonoL.eq _ (MonoL.eq _ (MonoL.eq _ (MonoL.eq _ (MonoL.eq _ (MonoL.eq _ (MonoL.eq _ (MonoL.eq _ (MonoL.eq _ (MonoL.eq _ (MonoL.eq _ (MonoL.eq _ (MonoL.eq _ (MonoL.eq _ (MonoL.eq _ (MonoL.eq _ (MonoL.eq _ (MonoL.eq _ (MonoL.eq _ (MonoL.eq _ (MonoL.eq _ (MonoL.nil)))))))))))))))))))))))))))))) ?scalmOps ?scalmDone
                    case scalmOps =>
                      intro vs
                      refine (CalmOps.cons ?_ (CalmOps.cons ?_ (CalmOps.cons ?_ (CalmOps.cons ?_ (CalmOps.cons ?_ (CalmOps.cons ?_ (CalmOps.cons ?_ (CalmOps.cons ?_ (CalmOps.cons ?_ (CalmOps.cons ?_ (CalmOps.cons ?_ (CalmOps.cons ?_ (CalmOps.cons ?_ (CalmOps.cons ?_ (CalmOps.cons ?_ (CalmOps.cons ?_ (CalmOps.cons ?_ (CalmOps.cons ?_ (CalmOps.cons ?_ (CalmOps.cons ?_ (CalmOps.cons ?_ (CalmOps.cons ?_ (CalmOps.cons ?_ (CalmOps.cons ?_ (CalmOps.cons ?_ (CalmOps.cons ?_ (CalmOps.cons ?_ (CalmOps.cons ?_ trivial))))))))))))))))))))))))))))
                      · intro w hR hL; obtain ⟨nd, rfl⟩ := hR; simp [Look, VAt, EqV] at hL; simp [Guarded, setAll, bare, hL]; go_wp2_with fail; exact CalmPost.mk (by simp; rfl) rfl (DrewR.refl _)
                      · intro w hR hL; obtain ⟨nd, rfl⟩ := hR; simp [Look, VAt, EqV] at hL; simp [Guarded, setAll, bare, hL]; go_wp2_with fail; exact CalmPost.mk (by simp; rfl) rfl (DrewR.refl _)
                      · intro w hR hL; obtain ⟨nd, rfl⟩ := hR; simp [Look, VAt, EqV] at hL; simp [Guarded, setAll, bare, hL]; go_wp2_with fail; refine (refTurn_any xe 6 (by decide) (by decide) _).mono ?_; rintro ee ww ⟨rfl, rfl⟩; go_wp2_with fail; exact CalmPost.mk (by simp; rfl) rfl (DrewR.refl _)
                      · intro w hR hL; obtain ⟨nd, rfl⟩ := hR; simp [Look, VAt, EqV] at hL; simp [Guarded, setAll, bare, hL]; go_wp2_with fail; exact CalmPost.mk (by simp; rfl) rfl (DrewR.refl _)
                      · intro w hR hL; obtain ⟨nd, rfl⟩ := hR; simp [Look, VAt, EqV] at hL; simp [Guarded, setAll, bare, hL]; go_wp2_with fail; refine (refTurn_any xe 11 (by decide) (by decide) _).mono ?_; rintro ee ww ⟨rfl, rfl⟩; go_wp2_with fail; exact CalmPost.mk (by simp; rfl) rfl (DrewR.refl _)
                      · intro w hR hL; obtain ⟨nd, rfl⟩ := hR; simp [Look, VAt, EqV] at hL; simp [Guarded, setAll, bare, hL]; go_wp2_with fail; exact CalmPost.mk (by simp; rfl) rfl (DrewR.refl _)
                      · intro w hR hL; obtain ⟨nd, rfl⟩ := hR; simp [Look, VAt, EqV] at hL; simp [Guarded, setAll, bare, hL]; go_wp2_with fail; exact CalmPost.mk (by simp; rfl) rfl (DrewR.refl _)
                      · intro w hR hL; obtain ⟨nd, rfl⟩ := hR; simp [Look, VAt, EqV] at hL; simp [Guarded, setAll, bare, hL]; go_wp2_with fail; refine (refTurn_any xe 25 (by decide) (by decide) _).mono ?_; rintro ee ww ⟨rfl, rfl⟩; go_wp2_with fail; exact CalmPost.mk (by simp; rfl) rfl (DrewR.refl _)
                      · intro w hR hL; obtain ⟨nd, rfl⟩ := hR; simp [Look, VAt, EqV] at hL; simp [Guarded, setAll, bare, hL]; go_wp2_with fail; exact CalmPost.mk (by simp; rfl) rfl (DrewR.refl _)
                      · intro w hR hL; obtain ⟨nd, rfl⟩ := hR; simp [Look, VAt, EqV] at hL; simp [Guarded, setAll, bare, hL]; go_wp2_with fail; exact CalmPost.mk (by simp; rfl) rfl (DrewR.refl _)
                      · intro w hR hL; obtain ⟨nd, rfl⟩ := hR; simp [Look, VAt, EqV] at hL; simp [Guarded, setAll, bare, hL]; go_wp2_with fail; exact CalmPost.mk (by simp; rfl) rfl (DrewR.refl _)
                      · intro w hR hL; obtain ⟨nd, rfl⟩ := hR; simp [Look, VAt, EqV] at hL; simp [Guarded, setAll, bare, hL]; go_wp2_with fail; exact CalmPost.mk (by simp; rfl) rfl (DrewR.refl _)
                      · intro w hR hL; obtain ⟨nd, rfl⟩ := hR; simp [Look, VAt, EqV] at hL; simp [Guarded, setAll, bare, hL]; go_wp2_with fail; exact CalmPost.mk (by simp; rfl) rfl (DrewR.refl _)
                      · intro w hR hL; obtain ⟨nd, rfl⟩ := hR; simp [Look, VAt, EqV] at hL; simp [Guarded, setAll, bare, hL]; go_wp2_with fail; exact CalmPost.mk (by simp; rfl) rfl (DrewR.refl _)
                      · intro w hR hL; obtain ⟨nd, rfl⟩ := hR; simp [Look, VAt, EqV] at hL; simp [Guarded, setAll, bare, hL]; go_wp2_with fail; exact CalmPost.mk (by simp; rfl) rfl (DrewR.refl _)
                      · intro w hR hL; obtain ⟨nd, rfl⟩ := hR; simp [Look, VAt, EqV] at hL; simp [Guarded, setAll, bare, hL]; go_wp2_with fail; exact CalmPost.mk (by simp; rfl) rfl (DrewR.refl _)
                      · intro w hR hL; obtain ⟨nd, rfl⟩ := hR; simp [Look, VAt, EqV] at hL; simp [Guarded, setAll, bare, hL]; go_wp2_with fail; exact CalmPost.mk (by simp; rfl) rfl (DrewR.refl _)
                      · intro w hR hL; obtain ⟨nd, rfl⟩ := hR; simp [Look, VAt, EqV] at hL; simp [Guarded, setAll, bare, hL]; go_wp2_with fail; exact CalmPost.mk (by simp; rfl) rfl (DrewR.refl _)
                      · intro w hR hL; obtain ⟨nd, rfl⟩ := hR; simp [Look, VAt, EqV] at hL; simp [Guarded, setAll, bare, hL]; go_wp2_with fail; exact CalmPost.mk (by simp; rfl) rfl (DrewR.refl _)
                      · intro w hR hL; obtain ⟨nd, rfl⟩ := hR; simp [Look, VAt, EqV] at hL; simp [Guarded, setAll, bare, hL]; go_wp2_with fail; exact CalmPost.mk (by simp; rfl) rfl (DrewR.refl _)
                      · intro w hR hL; obtain ⟨nd, rfl⟩ := hR; simp [Look, VAt, EqV] at hL; simp [Guarded, setAll, bare, hL]; go_wp2_with fail; exact CalmPost.mk (by simp; rfl) rfl (DrewR.refl _)
                      · intro w hR hL; obtain ⟨nd, rfl⟩ := hR; simp [Look, VAt, EqV] at hL; simp [Guarded, setAll, bare, hL]; go_wp2_with fail; exact CalmPost.mk (by simp; rfl) rfl (DrewR.refl _)
                      · intro w hR hL; obtain ⟨nd, rfl⟩ := hR; simp [Look, VAt, EqV] at hL; simp [Guarded, setAll, bare, hL]; go_wp2_with fail; exact CalmPost.mk (by simp; rfl) rfl (DrewR.refl _)
                      · intro w hR hL; obtain ⟨nd, rfl⟩ := hR; simp [Look, VAt, EqV] at hL; simp [Guarded, setAll, bare, hL]; go_wp2_with fail; exact CalmPost.mk (by simp; rfl) rfl (DrewR.refl _)
                      · intro w hR hL; obtain ⟨nd, rfl⟩ := hR; simp [Look, VAt, EqV] at hL; simp [Guarded, setAll, bare, hL]; go_wp2_with fail; exact CalmPost.mk (by simp; rfl) rfl (DrewR.refl _)
                      · intro w hR hL; obtain ⟨nd, rfl⟩ := hR; simp [Look, VAt, EqV] at hL; simp [Guarded, setAll, bare, hL]; go_wp2_with fail; exact CalmPost.mk (by simp; rfl) rfl (DrewR.refl _)
                      · intro w hR hL; obtain ⟨nd, rfl⟩ := hR; simp [Look, VAt, EqV] at hL; simp [Guarded, setAll, bare, hL]; go_wp2_with fail; exact CalmPost.mk (by simp; rfl) rfl (DrewR.refl _)
                      · intro w hR hL; obtain ⟨nd, rfl⟩ := hR; simp [Look, VAt, EqV] at hL; simp [Guarded, setAll, bare, hL]; go_wp2_with fail; exact CalmPost.mk (by simp; rfl) rfl (DrewR.refl _)
                    case scalmDone =>
                      intro vs w6 hR hL; obtain ⟨nd4, rfl⟩ := hR; simp [Look, VAt, EqV] at hL; simp [setAll, hL]; clear hL
                      rw [← K1.out]
                      have KW := Kept.mk (KW.out.drewN nd4)
                      clear ck cw
                      generalize wr.drewN nd4 = wp at KW ⊢
                      go_wp2_with fail
                      refine (refTurn_any xa 2 (by decide) (by decide) _).mono ?_
                      rintro ee ww ⟨rfl, rfl⟩
                      go_wp2_with fail
                      refine (refTurn_any xa 13 (by decide) (by decide) _).mono ?_
                      rintro ee ww ⟨rfl, rfl⟩
                      go_wp2_with fail
                      refine (refTurn_any xa 22 (by decide) (by decide) _).mono ?_
                      rintro ee ww ⟨rfl, rfl⟩
                      have hk2 := K2.out.symm
                      go_wp2_with fail
                      go_roundg (gk - 1)
                      case measure => omega
                      case rel => exact ⟨j + 1, nw, by omega, by go_num, by rw [KS.out]; exact ⟨rfl, rfl, rfl, rfl, rfl, rfl, rfl, rfl⟩, KR.out, KW.out⟩
                  · obtain rfl : j = 64 := by omega
                    have hxy : x = y := by rw [← hrun, List.drop_eq_nil_of_le (by rw [KOL.out]; omega)]; rfl
                    subst hxy
                    have hI : RI w g4 g5 (addL c x 0) wr := hW.ri
                    have KI := Kept.mk hI
                    clear hW hI hrun
                    go_wp2_with (refine wpList_store_new rfl 65 (.tmp 22) (.tmp 209) rfl rfl rfl 65 zW (chW x) rfl rfl (info_size info8) (chW_one _) ?_)
                    have hI := KI.out.ext (Ext.alloc wr (.cells (chW x).toArray 65))
                    have hY := Blk.new wr 65 (chW x)
                    have h522 : g5 ≠ wr.heap.size := by have := KI.out.cc.lt; omega
                    generalize (wr.alloc (.cells (chW x).toArray 65)) = w5 at hI hY ⊢
                    generalize wr.heap.size = g22 at hY h522 ⊢
                    have KI := Kept.mk hI
                    have KY := Kept.mk hY
                    clear hI hY
                    go_wp2_with fail
                    go_loopg [23] 8 (fun r i wi => ∃ t : Nat, t + r = 8 ∧ i = .int .i64 (t : Int) ∧ RI w g4 g5 (addL c x t) wi ∧ Blk wi g22 65 (chW x))
                    case atStart => exact ⟨0, rfl, rfl, KI.out, KY.out⟩
                    case round =>
                      clear KI KY
                      obtain ⟨t, ht, rfl, hI, hY⟩ := hrel
                      by_cases hlt4 : t < 8
                      · have htI : (t : Int) < 8 := by omega
                        have cp : wr.cell? ⟨g5, t, none⟩ = some (.int .u32 ((chL c).getD t 0)) := by
                          rw [hI.cc.cell, numsV_at _ _ _ (by rw [addL_length]; exact hlt4), addL_getD _ _ _ hlt4]
                        have cx : wr.cell? ⟨g22, t, none⟩ = some (.int .u32 ((chL x).getD t 0)) := by
                          rw [hY.cell, chW, numsV_at _ _ _ (show t < (chL x).length from hlt4)]
                        have fp := hI.cc.free t
                        have hset := fun n => (hI.ext (Ext.drewN wr n)).setc t (((chL c).getD t 0 + (chL x).getD t 0) % 4294967296)
                        rw [addL_set _ _ _ hlt4] at hset
                        have hsx := fun n => (show Blk (wr.drewN n) g22 65 (chW x) from hY).set_other ⟨g5, t, none⟩ (.int .u32 (((chL c).getD t 0 + (chL x).getD t 0) % 4294967296)) (Ne.symm h522)
                        generalize (chL c).getD t 0 = cv at cp hset hsx
                        generalize (chL x).getD t 0 = xv at cx hset hsx
                        have KS := Kept.mk hset
                        have KX2 := Kept.mk hsx
                        clear hset hsx hI hY
                        go_wp2_with fail
                        refine wp_region_calm DrewR 9 ([] :: [] :: [(215, 1)] :: [(216, 2)] :: [] :: [(218, 4)] :: [(219, 5)] :: [(217, 3), (220, 6)] :: [(214, 0)] :: [])
                          ((214, 0) :: (215, 1) :: (216, 2) :: (217, 3) :: (218, 4) :: (219, 5) :: (220, 6) :: (221, 7) :: (222, 8) :: [])
                          (EqV ?tce0 :: EqV ?tce1 :: EqV ?tce2 :: EqV ?tce3 :: EqV ?tce4 :: EqV ?tce5 :: EqV ?tce6 :: EqV ?tce7 :: EqV ?tce8 :: []) hm (by kernel_rfl) DrewR.refl DrewR.trans DrewR.drew
                          (MonoL.at (MonoL.eq _ (MonoL.eq _ (MonoL.eq _ (MonoL.eq _ (MonoL.eq _ (MonoL.eq _ (MonoL.eq _ (MonoL.eq _ (MonoL.eq _ (MonoL.nil))))))))))) ?tcalmOps ?tcalmDone
                        case tcalmOps =>
                          intro vs
                          refine (CalmOps.cons ?_ (CalmOps.cons ?_ (CalmOps.cons ?_ (CalmOps.cons ?_ (CalmOps.cons ?_ (CalmOps.cons ?_ (CalmOps.cons ?_ (CalmOps.cons ?_ (CalmOps.cons ?_ trivial)))))))))
                          · intro w hR hL; obtain ⟨nd, rfl⟩ := hR; simp [Look, VAt, EqV] at hL; simp [Guarded, setAll, bare, hL]; go_wp2_with fail; exact CalmPost.mk (by simp; rfl) rfl (DrewR.refl _)
                          · intro w hR hL; obtain ⟨nd, rfl⟩ := hR; simp [Look, VAt, EqV] at hL; simp [Guarded, setAll, bare, hL]; go_wp2_with fail; exact CalmPost.mk (by simp; rfl) rfl (DrewR.refl _)
                          · intro w hR hL; obtain ⟨nd, rfl⟩ := hR; simp [Look, VAt, EqV] at hL; simp [Guarded, setAll, bare, hL]; go_wp2_with fail; exact CalmPost.mk (by simp; rfl) rfl (DrewR.refl _)
                          · intro w hR hL; obtain ⟨nd, rfl⟩ := hR; simp [Look, VAt, EqV] at hL; simp [Guarded, setAll, bare, hL]; go_wp2_with fail; exact CalmPost.mk (by simp; rfl) rfl (DrewR.refl _)
                          · intro w hR hL; obtain ⟨nd, rfl⟩ := hR; simp [Look, VAt, EqV] at hL; simp [Guarded, setAll, bare, hL]; go_wp2_with fail; exact CalmPost.mk (by simp; rfl) rfl (DrewR.refl _)
                          · intro w hR hL; obtain ⟨nd, rfl⟩ := hR; simp [Look, VAt, EqV] at hL; simp [Guarded, setAll, bare, hL]; go_wp2_with fail; exact CalmPost.mk (by simp; rfl) rfl (DrewR.refl _)
                          · intro w hR hL; obtain ⟨nd, rfl⟩ := hR; simp [Look, VAt, EqV] at hL; simp [Guarded, setAll, bare, hL]; go_wp2_with fail; exact CalmPost.mk (by simp; rfl) rfl (DrewR.refl _)
                          · intro w hR hL; obtain ⟨nd, rfl⟩ := hR; simp [Look, VAt, EqV] at hL; simp [Guarded, setAll, bare, hL]; go_wp2_with fail; exact CalmPost.mk (by simp; rfl) rfl (DrewR.refl _)
                          · intro w hR hL; obtain ⟨nd, rfl⟩ := hR; simp [Look, VAt, EqV] at hL; simp [Guarded, setAll, bare, hL]; go_wp2_with fail; exact CalmPost.mk (by simp; rfl) rfl (DrewR.refl _)
                        case tcalmDone =>
                          intro vs w6 hR hL; obtain ⟨nd, rfl⟩ := hR; simp [Look, VAt, EqV] at hL; simp [setAll, hL]; clear hL
                          go_wp2_with fail
                          go_roundg (gk - 1)
                          case measure => omega
                          case rel => exact ⟨t + 1, by omega, by go_num, KS.out nd, KX2.out nd⟩
                      · obtain rfl : t = 8 := by omega
                        have hI : RI w g4 g5 (chL (addC c x)) wr := hI
                        rw [← HP.out] at hI
                        have KI := Kept.mk hI
                        clear hI hY
                        go_wp2_with fail
                        go_roundg (gz - 1)
                        case measure => omega
                        case rel => exact ⟨k + 1, c2, by omega, by go_num, KX.out, KI.out⟩
    · obtain rfl : k = K := by omega
      rw [Nat.sub_self] at hX
      have hX : c = X := hX
      subst hX
      have KB := Kept.mk (show Blk wr g5 65 (chW c) from hI.cc)
      have KE := Kept.mk hI.ee
      have Kg := Kept.mk hI.hh
      clear hI
      go_wp2_with fail
      obtain ⟨go, rfl⟩ : ∃ n : Nat, n = gk := ⟨_, rfl⟩
      go_loopg [24, 25] 8 (fun r s i wi => ∃ (j : Nat) (A : Option Addr) (cap : Nat), j + r = 8 ∧ i = .int .i64 (j : Int) ∧ s = .slice A (4 * j) cap ∧ Buf wi w.heap.size 5 (.slice A (4 * j) cap) (bytesV (((chL c).take j).flatMap digit4)) ∧ Ext w wi ∧ Blk wi g5 65 (chW c) ∧ g5 ∉ own (.slice A (4 * j) cap))
      case atStart => exact ⟨0, none, 0, rfl, rfl, rfl, Buf.nil _ _ _, KE.out, KB.out, by simp [own]⟩
      case round =>
        clear KB KE
        obtain ⟨j, A, cap, hj, rfl, rfl, hv, hE, hb, hgA⟩ := hrel
        by_cases hlt : j < 8
        · have hjI : (j : Int) < 8 := by omega
          have hc : wr.cell? ⟨g5, j, none⟩ = some (.int .u32 ((chL c).getD j 0)) := by
            rw [hb.cell, chW, numsV_at _ _ _ (show j < (chL c).length from hlt)]
          have hnx : ((chL c).take (j + 1)).flatMap digit4 = ((chL c).take j).flatMap digit4 ++ digit4 ((chL c).getD j 0) := by
            rw [List.take_succ_eq_append_getElem (show j < (chL c).length from hlt), List.flatMap_append, List.getD_eq_getElem?_getD, List.getElem?_eq_getElem (show j < (chL c).length from hlt)]
            simp
          have hl4 : (bytesV (((chL c).take j).flatMap digit4)).length = 4 * j := by
            obtain ⟨_, _, he⟩ := hv.form
            injection he with _ h2 _
            exact h2.symm
          have hBw := hE.size
          generalize (chL c).getD j 0 = x at hc hnx
          have KX := Kept.mk hnx
          have KV := Kept.mk hv
          have KE := Kept.mk hE
          have KB := Kept.mk hb
          have KG := Kept.mk hgA
          clear hnx hv hE hb hgA
          go_wp2_with fail
          refine wp_region_calm Ext 21 ([] :: [] :: [(228, 1)] :: [(229, 2)] :: [(230, 3)] :: [(231, 4)] :: [] :: [(233, 6)] :: [(234, 7)] :: [(235, 8)] :: [(236, 9)] :: [] :: [(238, 11)] :: [(239, 12)] :: [(240, 13)] :: [(241, 14)] :: [] :: [(243, 16)] :: [(244, 17)] :: [(245, 18)] :: [(232, 5), (237, 10), (242, 15), (246, 19)] :: [])
            ((227, 0) :: (228, 1) :: (229, 2) :: (230, 3) :: (231, 4) :: (232, 5) :: (233, 6) :: (234, 7) :: (235, 8) :: (236, 9) :: (237, 10) :: (238, 11) :: (239, 12) :: (240, 13) :: (241, 14) :: (242, 15) :: (243, 16) :: (244, 17) :: (245, 18) :: (246, 19) :: (247, 20) :: [])
            (EqV ?uce0 :: EqV ?uce1 :: EqV ?uce2 :: EqV (.int .u32 x) :: EqV ?uce4 :: EqV ?uce5 :: EqV ?uce6 :: EqV ?uce7 :: EqV (.int .u32 x) :: EqV ?uce9 :: EqV ?uce10 :: EqV ?uce11 :: EqV ?uce12 :: EqV (.int .u32 x) :: EqV ?uce14 :: EqV ?uce15 :: EqV ?uce16 :: EqV ?uce17 :: EqV (.int .u32 x) :: EqV ?uce19 :: (fun W u => Buf W wr.heap.size 5 u ([.int .u8 (x / 16777216 % 256), .int .u8 (x / 65536 % 256), .int .u8 (x / 256 % 256), .int .u8 (x % 256)])) :: []) hm (by kernel_rfl) Ext.refl (fun _ _ _ => Ext.trans) Ext.drew
            (MonoL.at (MonoL.eq _ (MonoL.eq _ (MonoL.eq _ (MonoL.eq _ (MonoL.eq _ (MonoL.eq _ (MonoL.eq _ (MonoL.eq _ (MonoL.eq _ (MonoL.eq _ (MonoL.eq _ (MonoL.eq _ (MonoL.eq _ (MonoL.eq _ (MonoL.eq _ (MonoL.eq _ (MonoL.eq _ (MonoL.eq _ (MonoL.eq _ (MonoL.eq _ (MonoL.cons (fun a b u h k => Buf.ext k h) (MonoL.nil))))))))))))))))))))))) ?ucalmOps ?ucalmDone
          case ucalmOps =>
            intro vs
            refine (CalmOps.cons ?_ (CalmOps.cons ?_ (CalmOps.cons ?_ (CalmOps.cons ?_ (CalmOps.cons ?_ (CalmOps.cons ?_ (CalmOps.cons ?_ (CalmOps.cons ?_ (CalmOps.cons ?_ (CalmOps.cons ?_ (CalmOps.cons ?_ (CalmOps.cons ?_ (CalmOps.cons ?_ (CalmOps.cons ?_ (CalmOps.cons ?_ (CalmOps.cons ?_ (CalmOps.cons ?_ (CalmOps.cons ?_ (CalmOps.cons ?_ (CalmOps.cons ?_ (CalmOps.cons ?_ trivial)))))))))))))))))))))
            · intro w6 hR hL; simp [Look, VAt, EqV] at hL; simp [Guarded, setAll, bare, hL]; go_wp2_with fail; exact CalmPost.mk (by simp; rfl) rfl (Ext.refl _)
            · intro w6 hR hL; simp [Look, VAt, EqV] at hL; simp [Guarded, setAll, bare, hL]; go_wp2_with fail; exact CalmPost.mk (by simp; rfl) rfl (Ext.refl _)
            · intro w6 hR hL; simp [Look, VAt, EqV] at hL; simp [Guarded, setAll, bare, hL]; go_wp2_with fail; exact CalmPost.mk (by simp; rfl) rfl (Ext.refl _)
            · intro w6 hR hL; have hc9 := hR.cell hc; simp [Look, VAt, EqV] at hL; simp [Guarded, setAll, bare, hL]; go_wp2_with fail; exact CalmPost.mk (by simp) rfl (Ext.refl _)
            · intro w6 hR hL; simp [Look, VAt, EqV] at hL; simp [Guarded, setAll, bare, hL]; go_wp2_with fail; exact CalmPost.mk (by simp; rfl) rfl (Ext.refl _)
            · intro w6 hR hL; simp [Look, VAt, EqV] at hL; simp [Guarded, setAll, bare, hL]; go_wp2_with fail; exact CalmPost.mk (by simp; rfl) rfl (Ext.refl _)
            · intro w6 hR hL; simp [Look, VAt, EqV] at hL; simp [Guarded, setAll, bare, hL]; go_wp2_with fail; exact CalmPost.mk (by simp; rfl) rfl (Ext.refl _)
            · intro w6 hR hL; simp [Look, VAt, EqV] at hL; simp [Guarded, setAll, bare, hL]; go_wp2_with fail; exact CalmPost.mk (by simp; rfl) rfl (Ext.refl _)
            · intro w6 hR hL; have hc9 := hR.cell hc; simp [Look, VAt, EqV] at hL; simp [Guarded, setAll, bare, hL]; go_wp2_with fail; exact CalmPost.mk (by simp) rfl (Ext.refl _)
            · intro w6 hR hL; simp [Look, VAt, EqV] at hL; simp [Guarded, setAll, bare, hL]; go_wp2_with fail; exact CalmPost.mk (by simp; rfl) rfl (Ext.refl _)
            · intro w6 hR hL; simp [Look, VAt, EqV] at hL; simp [Guarded, setAll, bare, hL]; go_wp2_with fail; exact CalmPost.mk (by simp; rfl) rfl (Ext.refl _)
            · intro w6 hR hL; simp [Look, VAt, EqV] at hL; simp [Guarded, setAll, bare, hL]; go_wp2_with fail; exact CalmPost.mk (by simp; rfl) rfl (Ext.refl _)
            · intro w6 hR hL; simp [Look, VAt, EqV] at hL; simp [Guarded, setAll, bare, hL]; go_wp2_with fail; exact CalmPost.mk (by simp; rfl) rfl (Ext.refl _)
            · intro w6 hR hL; have hc9 := hR.cell hc; simp [Look, VAt, EqV] at hL; simp [Guarded, setAll, bare, hL]; go_wp2_with fail; exact CalmPost.mk (by simp) rfl (Ext.refl _)
            · intro w6 hR hL; simp [Look, VAt, EqV] at hL; simp [Guarded, setAll, bare, hL]; go_wp2_with fail; exact CalmPost.mk (by simp; rfl) rfl (Ext.refl _)
            · intro w6 hR hL; simp [Look, VAt, EqV] at hL; simp [Guarded, setAll, bare, hL]; go_wp2_with fail; exact CalmPost.mk (by simp; rfl) rfl (Ext.refl _)
            · intro w6 hR hL; simp [Look, VAt, EqV] at hL; simp [Guarded, setAll, bare, hL]; go_wp2_with fail; exact CalmPost.mk (by simp; rfl) rfl (Ext.refl _)
            · intro w6 hR hL; simp [Look, VAt, EqV] at hL; simp [Guarded, setAll, bare, hL]; go_wp2_with fail; exact CalmPost.mk (by simp; rfl) rfl (Ext.refl _)
            · intro w6 hR hL; have hc9 := hR.cell hc; simp [Look, VAt, EqV] at hL; simp [Guarded, setAll, bare, hL]; go_wp2_with fail; exact CalmPost.mk (by simp) rfl (Ext.refl _)
            · intro w6 hR hL; simp [Look, VAt, EqV] at hL; simp [Guarded, setAll, bare, hL]; go_wp2_with fail; exact CalmPost.mk (by simp; rfl) rfl (Ext.refl _)
            · intro w6 hR hL; simp [Look, VAt, EqV] at hL; simp [Guarded, setAll, bare, hL]; go_wp2_with fail; exact CalmPost.mk (by simp) (Buf.lit w6 5 wr.heap.size hR.size ([.int .u8 (x / 16777216 % 256), .int .u8 (x / 65536 % 256), .int .u8 (x / 256 % 256), .int .u8 (x % 256)]) (by simp [maxLen])) (Ext.alloc _ _)
          case ucalmDone =>
            intro vs w6 hR hL; simp [Look, VAt, EqV] at hL
            have hB := hL.2.2.2.2.2.2.2.2.2.2.2.2.2.2.2.2.2.2.2.2
            simp [setAll, hL]; clear hL
            obtain ⟨A9, cap9, h9⟩ := hB.form
            rw [h9] at hB ⊢
            simp only [List.length_cons, List.length_nil, Nat.zero_add, Nat.reduceAdd] at hB ⊢
            go_wp2_with (refine wpList_append_buf (P := Try.prog) _ rfl (.tmp 227) (.tmp 247) 54 54 rfl 5 iB (.int .u8 0) Try.underlying54 hiB hzB hsB rfl w.heap.size (.slice A (4 * j) cap) (bytesV (((chL c).take j).flatMap digit4)) rfl (KV.out.ext hR) (.slice A9 4 cap9) 4 _ rfl (Buf.src _ hB Try.underlying54 (by simp [Value.oneCell'])) (Nat.le_trans hBw hR.size) (by rw [hl4]; simp only [maxLen]; omega) (by rw [hl4, hbB]; omega) ?_)
            intro v' w' hv' ht' ho'
            have ho' : ∀ j' ∈ own v', j' ∈ own (.slice A (4 * j) cap) ∨ wr.heap.size ≤ j' := fun j' hj' => by
              rcases ho' with h | h
              · rw [h] at hj'; exact .inl hj'
              · rw [h, List.mem_singleton] at hj'; subst hj'; exact .inr hR.size
            rw [← digit4V, ← bytesV_append, ← KX.out] at hv'
            have hE' : Ext w w' := Touch.below (KE.out.trans hR) ht' (fun j hj => (KV.out.owns j hj).1) (Nat.le_trans hBw hR.size)
            have hb' : Blk w' g5 65 (chW c) := (KB.out.ext hR).touch ht' KG.out
            have hg' : g5 ∉ own v' := fun h => by
              rcases ho' g5 h with h1 | h1
              · exact KG.out h1
              · have := KB.out.lt
                have h1 : wr.heap.size ≤ g5 := h1
                omega
            obtain ⟨A', cap', rfl⟩ := hv'.form
            have hl5 : (bytesV (((chL c).take (j + 1)).flatMap digit4)).length = 4 * (j + 1) := by rw [KX.out, bytesV_append, digit4V, List.length_append, hl4]; rfl
            rw [hl5] at hv' hg' ⊢
            have KV := Kept.mk hv'
            have KE := Kept.mk hE'
            have KB := Kept.mk hb'
            have KG := Kept.mk hg'
            clear hv' hE' ht' ho' hl5 hb' hg'
            go_wp2_with fail
            go_roundg (gk - 1)
            case measure => omega
            case rel => exact ⟨j + 1, A', cap', by omega, by go_num, rfl, KV.out, KE.out, KB.out, KG.out⟩
        · obtain rfl : j = 8 := by omega
          have hv : Buf wr w.heap.size 5 (.slice A (4 * 8) cap) (bytesV (digestC c)) := hv
          have kc2 : (convert 54 9 (.slice A 32 cap)).run Try.prog wr = .ok (.string (strOf (digestC c))) wr := conv_buf wr _ _ _ Try.underlying54 Try.underlying5 Try.underlying9 _ hv
          have KE := Kept.mk hE
          clear hv hE hb hgA
          go_wp2_with fail
          go_ret
          rw [← KDD.out, KD.out]
          exact ⟨rfl, KE.out⟩
end Sha2
end Go.Proofs.Ytgnbbklnobladaa
