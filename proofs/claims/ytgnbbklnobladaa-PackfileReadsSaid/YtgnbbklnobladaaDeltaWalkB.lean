/- The walk of a delta's step. No condition. -/
import Derived.Test.YtgnbbklnobladaaDeltaWalkA
namespace Go.Proofs.Ytgnbbklnobladaa
open Go.RowKit
namespace Delta
/-- What a step answers. -/
def StepE (w : World) (r : List UInt8 × List UInt8 × Int) (e : Ending) (w' : World) : Prop := e = .returned (.tuple #[.string (strOf r.1), .string (strOf r.2.1), .int .i64 r.2.2]) ∧ Ext w w'
set_option linter.unusedSimpArgs false
set_option linter.unusedVariables false
set_option maxRecDepth 100000 in
set_option maxHeartbeats 1000000 in
theorem step_a (b s : List UInt8) (hs : s ≠ []) (hsl : s.length ≤ 2000000) (hbl : b.length ≤ 2000000) (w : World) (h1 : byt s 0 = 1) (h2 : s.length < 9) : Calls Try.prog 46 #[.string (strOf b), .string (strOf s)] w (StepE w (stepP b s)) := by
  have hm : Try.prog.follows .mixedOrders = true := by kernel_rfl
  have hsz := strOf_size s
  have hbz := strOf_size b
  have hpos : 0 < s.length := List.length_pos_iff.2 hs
  have y0 := get_byte s 0 (by omega)
  have i0 : (0 : Int) < (s.length : Int) := by omega
  have n0 : 0 < (strOf s).size := by omega
  have KP := Kept.mk (show stepP b s = ([], [], 2) by unfold stepP; rw [if_pos h1, if_pos h2])
  have q1 : (byt s 0 == 1) = true := by rw [beq_iff_eq]; exact h1
  have hI : (s.length : Int) < 9 := by omega
  clear h1
  generalize byt s 0 = c at *
  clear hs
  go_enter Try.func46, Try.ntmps46
  go_wp2_with fail
  go_ret3
  exact ⟨by rw [KP.out]; rfl, Ext.refl _⟩
set_option maxRecDepth 100000 in
set_option maxHeartbeats 1000000 in
theorem step_b (b s : List UInt8) (hs : s ≠ []) (hsl : s.length ≤ 2000000) (hbl : b.length ≤ 2000000) (w : World) (h1 : byt s 0 = 1) (h2 : 9 ≤ s.length) : Calls Try.prog 46 #[.string (strOf b), .string (strOf s)] w (StepE w (stepP b s)) := by
  have hm : Try.prog.follows .mixedOrders = true := by kernel_rfl
  have hsz := strOf_size s
  have hbz := strOf_size b
  have hpos : 0 < s.length := List.length_pos_iff.2 hs
  have y0 := get_byte s 0 (by omega)
  have i0 : (0 : Int) < (s.length : Int) := by omega
  have n0 : 0 < (strOf s).size := by omega
  have q1 : (byt s 0 == 1) = true := by rw [beq_iff_eq]; exact h1
  have hI : ¬ (s.length : Int) < 9 := by omega
  have hI1 : (1 : Int) ≤ (s.length : Int) := by omega
  have hI5 : (5 : Int) ≤ (s.length : Int) := by omega
  have hI9 : (9 : Int) ≤ (s.length : Int) := by omega
  have Kd5 := Kept.mk (show (strOf s).extract 5 s.length = strOf (s.drop 5) by rw [← hsz]; exact strOf_tail s 5)
  have Kd1 := Kept.mk (show (strOf s).extract 1 s.length = strOf (s.drop 1) by rw [← hsz]; exact strOf_tail s 1)
  have Kd9 := Kept.mk (show (strOf s).extract 9 s.length = strOf (s.drop 9) by rw [← hsz]; exact strOf_tail s 9)
  have hP : stepP b s = if val4 (s.drop 5) = 0 ∨ b.length < val4 (s.drop 1) + val4 (s.drop 5) then ([], [], 3) else ((b.drop (val4 (s.drop 1))).take (val4 (s.drop 5)), s.drop 9, 0) := by unfold stepP; rw [if_pos h1, if_neg (by omega)]
  have hn := val4_lt (s.drop 5)
  have ha := val4_lt (s.drop 1)
  obtain ⟨n, hne⟩ : ∃ n, n = val4 (s.drop 5) := ⟨_, rfl⟩
  obtain ⟨a, hae⟩ : ∃ a, a = val4 (s.drop 1) := ⟨_, rfl⟩
  rw [← hne, ← hae] at hP
  rw [← hne] at hn
  rw [← hae] at ha
  have KP := Kept.mk hP
  have Kn := Kept.mk hne
  have Ka := Kept.mk hae
  clear h1 hP hne hae
  generalize byt s 0 = c at *
  clear hs
  go_enter Try.func46, Try.ntmps46
  go_wp2_with fail
  rw [Kd5.out]
  refine (number_any (s.drop 5) (by rw [List.length_drop]; omega) _).mono ?_
  rintro e w1 ⟨rfl, h1⟩
  rw [← Kn.out]
  go_wp2_with fail
  rw [Kd1.out]
  refine (number_any (s.drop 1) (by rw [List.length_drop]; omega) _).mono ?_
  rintro e w2 ⟨rfl, h2'⟩
  rw [← Ka.out]
  have KE := Kept.mk (h1.trans h2')
  clear h1 h2'
  rcases (show n = 0 ∨ (n ≠ 0 ∧ b.length < a) ∨ (n ≠ 0 ∧ a ≤ b.length ∧ b.length < a + n) ∨ (n ≠ 0 ∧ a + n ≤ b.length) by omega) with h | ⟨h, h'⟩ | ⟨h, h', h''⟩ | ⟨h, h'⟩
  · have hP := KP.out
    rw [if_pos (.inl h)] at hP
    have KP2 := Kept.mk hP
    have qn : ((n : Int) == 0) = true := by rw [beq_iff_eq]; omega
    clear h hP
    go_wp2_with fail
    go_ret3
    exact ⟨by rw [KP2.out]; rfl, KE.out⟩
  · have hP := KP.out
    rw [if_pos (.inr (by omega))] at hP
    have KP2 := Kept.mk hP
    have qn : ((n : Int) == 0) = false := by rw [beq_eq_false_iff_ne]; omega
    have hI2 : (a : Int) > (b.length : Int) := by omega
    clear h hP
    go_wp2_with fail
    go_ret3
    exact ⟨by rw [KP2.out]; rfl, KE.out⟩
  · have hP := KP.out
    rw [if_pos (.inr (by omega))] at hP
    have KP2 := Kept.mk hP
    have qn : ((n : Int) == 0) = false := by rw [beq_eq_false_iff_ne]; omega
    have hI2 : ¬ (a : Int) > (b.length : Int) := by omega
    have hI3 : (n : Int) > (b.length : Int) - (a : Int) := by omega
    clear h hP
    go_wp2_with fail
    go_ret3
    exact ⟨by rw [KP2.out]; rfl, KE.out⟩
  · have hP := KP.out
    rw [if_neg (by omega)] at hP
    have KP2 := Kept.mk hP
    have qn : ((n : Int) == 0) = false := by rw [beq_eq_false_iff_ne]; omega
    have hI2 : ¬ (a : Int) > (b.length : Int) := by omega
    have hI3 : ¬ (n : Int) > (b.length : Int) - (a : Int) := by omega
    have hI4 : (a : Int) ≤ (a : Int) + (n : Int) := by omega
    have hI5 : (a : Int) + (n : Int) ≤ (b.length : Int) := by omega
    have Kx := Kept.mk (show (strOf b).extract a (a + n) = strOf ((b.drop a).take n) by rw [strOf_extract, Nat.add_sub_cancel_left])
    clear h hP
    go_wp2_with fail
    refine wp_region_calm DrewR 12 ([] :: [] :: [] :: [] :: [(49, 2), (50, 3)] :: [(47, 0), (48, 1), (51, 4)] :: [] :: [] :: [(53, 6), (54, 7)] :: [(52, 5)] :: [(55, 8)] :: [] :: [])
      ((47, 0) :: (48, 1) :: (49, 2) :: (50, 3) :: (51, 4) :: (52, 5) :: (53, 6) :: (54, 7) :: (55, 8) :: (4, 9) :: (5, 10) :: (6, 11) :: [])
      (EqV ?pce0 :: EqV ?pce1 :: EqV ?pce2 :: EqV ?pce3 :: EqV ?pce4 :: EqV ?pce5 :: EqV ?pce6 :: EqV ?pce7 :: EqV ?pce8 :: EqV ?pce9 :: EqV ?pce10 :: EqV ?pce11 :: []) hm (by kernel_rfl) DrewR.refl DrewR.trans DrewR.drew
      (MonoL.at (MonoL.eq _ (MonoL.eq _ (MonoL.eq _ (MonoL.eq _ (MonoL.eq _ (MonoL.eq _ (MonoL.eq _ (MonoL.eq _ (MonoL.eq _ (MonoL.eq _ (MonoL.eq _ (MonoL.eq _ (MonoL.nil)))))))))))))) ?pcalmOps ?pcalmDone
    case pcalmOps =>
      intro vs
      refine (CalmOps.cons ?_ (CalmOps.cons ?_ (CalmOps.cons ?_ (CalmOps.cons ?_ (CalmOps.cons ?_ (CalmOps.cons ?_ (CalmOps.cons ?_ (CalmOps.cons ?_ (CalmOps.cons ?_ (CalmOps.cons ?_ (CalmOps.cons ?_ (CalmOps.cons ?_ trivial))))))))))))
      · intro w hR hL; obtain ⟨nd, rfl⟩ := hR; simp [Look, VAt, EqV] at hL; simp [Guarded, setAll, bare, hL]; go_wp2_with fail; exact CalmPost.mk (by simp; rfl) rfl (DrewR.refl _)
      · intro w hR hL; obtain ⟨nd, rfl⟩ := hR; simp [Look, VAt, EqV] at hL; simp [Guarded, setAll, bare, hL]; go_wp2_with fail; exact CalmPost.mk (by simp; rfl) rfl (DrewR.refl _)
      · intro w hR hL; obtain ⟨nd, rfl⟩ := hR; simp [Look, VAt, EqV] at hL; simp [Guarded, setAll, bare, hL]; go_wp2_with fail; exact CalmPost.mk (by simp; rfl) rfl (DrewR.refl _)
      · intro w hR hL; obtain ⟨nd, rfl⟩ := hR; simp [Look, VAt, EqV] at hL; simp [Guarded, setAll, bare, hL]; go_wp2_with fail; exact CalmPost.mk (by simp; rfl) rfl (DrewR.refl _)
      · intro w hR hL; obtain ⟨nd, rfl⟩ := hR; simp [Look, VAt, EqV] at hL; simp [Guarded, setAll, bare, hL]; go_wp2_with fail; exact CalmPost.mk (by simp; rfl) rfl (DrewR.refl _)
      · intro w hR hL; obtain ⟨nd, rfl⟩ := hR; simp [Look, VAt, EqV] at hL; simp [Guarded, setAll, bare, hL]; go_wp2_with fail; exact CalmPost.mk (by simp; rfl) rfl (DrewR.refl _)
      · intro w hR hL; obtain ⟨nd, rfl⟩ := hR; simp [Look, VAt, EqV] at hL; simp [Guarded, setAll, bare, hL]; go_wp2_with fail; exact CalmPost.mk (by simp; rfl) rfl (DrewR.refl _)
      · intro w hR hL; obtain ⟨nd, rfl⟩ := hR; simp [Look, VAt, EqV] at hL; simp [Guarded, setAll, bare, hL]; go_wp2_with fail; exact CalmPost.mk (by simp; rfl) rfl (DrewR.refl _)
      · intro w hR hL; obtain ⟨nd, rfl⟩ := hR; simp [Look, VAt, EqV] at hL; simp [Guarded, setAll, bare, hL]; go_wp2_with fail; exact CalmPost.mk (by simp; rfl) rfl (DrewR.refl _)
      · intro w hR hL; obtain ⟨nd, rfl⟩ := hR; simp [Look, VAt, EqV] at hL; simp [Guarded, setAll, bare, hL]; go_wp2_with fail; exact CalmPost.mk (by simp; rfl) rfl (DrewR.refl _)
      · intro w hR hL; obtain ⟨nd, rfl⟩ := hR; simp [Look, VAt, EqV] at hL; simp [Guarded, setAll, bare, hL]; go_wp2_with fail; exact CalmPost.mk (by simp; rfl) rfl (DrewR.refl _)
      · intro w hR hL; obtain ⟨nd, rfl⟩ := hR; simp [Look, VAt, EqV] at hL; simp [Guarded, setAll, bare, hL]; go_wp2_with fail; exact CalmPost.mk (by simp; rfl) rfl (DrewR.refl _)
    case pcalmDone =>
      intro vs w6 hR hL; obtain ⟨nd, rfl⟩ := hR; simp [Look, VAt, EqV] at hL; simp [setAll, hL]; clear hL
      go_wp2_with fail
      go_ret3
      refine ⟨?_, KE.out.trans (Ext.drewN _ _)⟩
      rw [KP2.out]
      simp [Kx.out, Kd9.out]
set_option maxRecDepth 100000 in
set_option maxHeartbeats 1000000 in
theorem step_c (b s : List UInt8) (hs : s ≠ []) (hsl : s.length ≤ 2000000) (hbl : b.length ≤ 2000000) (w : World) (h1 : byt s 0 = 2) (h2 : s.length < 5) : Calls Try.prog 46 #[.string (strOf b), .string (strOf s)] w (StepE w (stepP b s)) := by
  have hm : Try.prog.follows .mixedOrders = true := by kernel_rfl
  have hsz := strOf_size s
  have hbz := strOf_size b
  have hpos : 0 < s.length := List.length_pos_iff.2 hs
  have y0 := get_byte s 0 (by omega)
  have i0 : (0 : Int) < (s.length : Int) := by omega
  have n0 : 0 < (strOf s).size := by omega
  have KP := Kept.mk (show stepP b s = ([], [], 2) by unfold stepP; rw [if_neg (by omega), if_pos h1, if_pos h2])
  have q1 : (byt s 0 == 1) = false := by rw [beq_eq_false_iff_ne]; omega
  have q2 : (byt s 0 == 2) = true := by rw [beq_iff_eq]; exact h1
  have hI : (s.length : Int) < 5 := by omega
  clear h1
  generalize byt s 0 = c at *
  clear hs
  go_enter Try.func46, Try.ntmps46
  go_wp2_with fail
  go_ret3
  exact ⟨by rw [KP.out]; rfl, Ext.refl _⟩
set_option maxRecDepth 100000 in
set_option maxHeartbeats 1000000 in
theorem step_d (b s : List UInt8) (hs : s ≠ []) (hsl : s.length ≤ 2000000) (hbl : b.length ≤ 2000000) (w : World) (h1 : byt s 0 = 2) (h2 : 5 ≤ s.length) : Calls Try.prog 46 #[.string (strOf b), .string (strOf s)] w (StepE w (stepP b s)) := by
  have hm : Try.prog.follows .mixedOrders = true := by kernel_rfl
  have hsz := strOf_size s
  have hbz := strOf_size b
  have hpos : 0 < s.length := List.length_pos_iff.2 hs
  have y0 := get_byte s 0 (by omega)
  have i0 : (0 : Int) < (s.length : Int) := by omega
  have n0 : 0 < (strOf s).size := by omega
  have q1 : (byt s 0 == 1) = false := by rw [beq_eq_false_iff_ne]; omega
  have q2 : (byt s 0 == 2) = true := by rw [beq_iff_eq]; exact h1
  have hI : ¬ (s.length : Int) < 5 := by omega
  have hI1 : (1 : Int) ≤ (s.length : Int) := by omega
  have hI5 : (5 : Int) ≤ (s.length : Int) := by omega
  have Kd1 := Kept.mk (show (strOf s).extract 1 s.length = strOf (s.drop 1) by rw [← hsz]; exact strOf_tail s 1)
  have hP : stepP b s = if s.length < 5 + val4 (s.drop 1) then ([], [], 2) else if val4 (s.drop 1) = 0 then ([], [], 3) else ((s.drop 5).take (val4 (s.drop 1)), s.drop (5 + val4 (s.drop 1)), 0) := by unfold stepP; rw [if_neg (by omega), if_pos h1, if_neg (by omega)]
  have hn := val4_lt (s.drop 1)
  obtain ⟨n, hne⟩ : ∃ n, n = val4 (s.drop 1) := ⟨_, rfl⟩
  rw [← hne] at hP hn
  have KP := Kept.mk hP
  have Kn := Kept.mk hne
  clear h1 hP hne
  generalize byt s 0 = c at *
  clear hs
  go_enter Try.func46, Try.ntmps46
  go_wp2_with fail
  rw [Kd1.out]
  refine (number_any (s.drop 1) (by rw [List.length_drop]; omega) _).mono ?_
  rintro e w1 ⟨rfl, h1⟩
  rw [← Kn.out]
  have KE := Kept.mk h1
  clear h1
  rcases (show s.length < 5 + n ∨ (5 + n ≤ s.length ∧ n = 0) ∨ (5 + n ≤ s.length ∧ n ≠ 0) by omega) with h | ⟨h, h'⟩ | ⟨h, h'⟩
  · have hP := KP.out
    rw [if_pos h] at hP
    have KP2 := Kept.mk hP
    have hI3 : (s.length : Int) - 5 < (n : Int) := by omega
    clear h hP
    go_wp2_with fail
    go_ret3
    exact ⟨by rw [KP2.out]; rfl, KE.out⟩
  · have hP := KP.out
    rw [if_neg (by omega), if_pos h'] at hP
    have KP2 := Kept.mk hP
    have qn : ((n : Int) == 0) = true := by rw [beq_iff_eq]; omega
    have hI3 : ¬ (s.length : Int) - 5 < (n : Int) := by omega
    clear h h' hP
    go_wp2_with fail
    go_ret3
    exact ⟨by rw [KP2.out]; rfl, KE.out⟩
  · have hP := KP.out
    rw [if_neg (by omega), if_neg h'] at hP
    have KP2 := Kept.mk hP
    have qn : ((n : Int) == 0) = false := by rw [beq_eq_false_iff_ne]; omega
    have hI3 : ¬ (s.length : Int) - 5 < (n : Int) := by omega
    have hI4 : (5 : Int) ≤ 5 + (n : Int) := by omega
    have hI6 : 5 + (n : Int) ≤ (s.length : Int) := by omega
    have Kx := Kept.mk (show (strOf s).extract 5 (5 + n) = strOf ((s.drop 5).take n) by rw [strOf_extract, Nat.add_sub_cancel_left])
    have Ky := Kept.mk (show (strOf s).extract (5 + n) s.length = strOf (s.drop (5 + n)) by rw [← hsz]; exact strOf_tail s (5 + n))
    clear h h' hP
    go_wp2_with fail
    refine wp_region_calm DrewR 14 ([] :: [] :: [] :: [] :: [(68, 2), (69, 3)] :: [(66, 0), (67, 1), (70, 4)] :: [] :: [] :: [] :: [(73, 7), (74, 8)] :: [(72, 6), (75, 9)] :: [(71, 5)] :: [(76, 10)] :: [] :: [])
      ((66, 0) :: (67, 1) :: (68, 2) :: (69, 3) :: (70, 4) :: (71, 5) :: (72, 6) :: (73, 7) :: (74, 8) :: (75, 9) :: (76, 10) :: (4, 11) :: (5, 12) :: (6, 13) :: [])
      (EqV ?pce0 :: EqV ?pce1 :: EqV ?pce2 :: EqV ?pce3 :: EqV ?pce4 :: EqV ?pce5 :: EqV ?pce6 :: EqV ?pce7 :: EqV ?pce8 :: EqV ?pce9 :: EqV ?pce10 :: EqV ?pce11 :: EqV ?pce12 :: EqV ?pce13 :: []) hm (by kernel_rfl) DrewR.refl DrewR.trans DrewR.drew
      (MonoL.at (MonoL.eq _ (MonoL.eq _ (MonoL.eq _ (MonoL.eq _ (MonoL.eq _ (MonoL.eq _ (MonoL.eq _ (MonoL.eq _ (MonoL.eq _ (MonoL.eq _ (MonoL.eq _ (MonoL.eq _ (MonoL.eq _ (MonoL.eq _ (MonoL.nil)))))))))))))))) ?pcalmOps ?pcalmDone
    case pcalmOps =>
      intro vs
      refine (CalmOps.cons ?_ (CalmOps.cons ?_ (CalmOps.cons ?_ (CalmOps.cons ?_ (CalmOps.cons ?_ (CalmOps.cons ?_ (CalmOps.cons ?_ (CalmOps.cons ?_ (CalmOps.cons ?_ (CalmOps.cons ?_ (CalmOps.cons ?_ (CalmOps.cons ?_ (CalmOps.cons ?_ (CalmOps.cons ?_ trivial))))))))))))))
      · intro w hR hL; obtain ⟨nd, rfl⟩ := hR; simp [Look, VAt, EqV] at hL; simp [Guarded, setAll, bare, hL]; go_wp2_with fail; exact CalmPost.mk (by simp; rfl) rfl (DrewR.refl _)
      · intro w hR hL; obtain ⟨nd, rfl⟩ := hR; simp [Look, VAt, EqV] at hL; simp [Guarded, setAll, bare, hL]; go_wp2_with fail; exact CalmPost.mk (by simp; rfl) rfl (DrewR.refl _)
      · intro w hR hL; obtain ⟨nd, rfl⟩ := hR; simp [Look, VAt, EqV] at hL; simp [Guarded, setAll, bare, hL]; go_wp2_with fail; exact CalmPost.mk (by simp; rfl) rfl (DrewR.refl _)
      · intro w hR hL; obtain ⟨nd, rfl⟩ := hR; simp [Look, VAt, EqV] at hL; simp [Guarded, setAll, bare, hL]; go_wp2_with fail; exact CalmPost.mk (by simp; rfl) rfl (DrewR.refl _)
      · intro w hR hL; obtain ⟨nd, rfl⟩ := hR; simp [Look, VAt, EqV] at hL; simp [Guarded, setAll, bare, hL]; go_wp2_with fail; exact CalmPost.mk (by simp; rfl) rfl (DrewR.refl _)
      · intro w hR hL; obtain ⟨nd, rfl⟩ := hR; simp [Look, VAt, EqV] at hL; simp [Guarded, setAll, bare, hL]; go_wp2_with fail; exact CalmPost.mk (by simp; rfl) rfl (DrewR.refl _)
      · intro w hR hL; obtain ⟨nd, rfl⟩ := hR; simp [Look, VAt, EqV] at hL; simp [Guarded, setAll, bare, hL]; go_wp2_with fail; exact CalmPost.mk (by simp; rfl) rfl (DrewR.refl _)
      · intro w hR hL; obtain ⟨nd, rfl⟩ := hR; simp [Look, VAt, EqV] at hL; simp [Guarded, setAll, bare, hL]; go_wp2_with fail; exact CalmPost.mk (by simp; rfl) rfl (DrewR.refl _)
      · intro w hR hL; obtain ⟨nd, rfl⟩ := hR; simp [Look, VAt, EqV] at hL; simp [Guarded, setAll, bare, hL]; go_wp2_with fail; exact CalmPost.mk (by simp; rfl) rfl (DrewR.refl _)
      · intro w hR hL; obtain ⟨nd, rfl⟩ := hR; simp [Look, VAt, EqV] at hL; simp [Guarded, setAll, bare, hL]; go_wp2_with fail; exact CalmPost.mk (by simp; rfl) rfl (DrewR.refl _)
      · intro w hR hL; obtain ⟨nd, rfl⟩ := hR; simp [Look, VAt, EqV] at hL; simp [Guarded, setAll, bare, hL]; go_wp2_with fail; exact CalmPost.mk (by simp; rfl) rfl (DrewR.refl _)
      · intro w hR hL; obtain ⟨nd, rfl⟩ := hR; simp [Look, VAt, EqV] at hL; simp [Guarded, setAll, bare, hL]; go_wp2_with fail; exact CalmPost.mk (by simp; rfl) rfl (DrewR.refl _)
      · intro w hR hL; obtain ⟨nd, rfl⟩ := hR; simp [Look, VAt, EqV] at hL; simp [Guarded, setAll, bare, hL]; go_wp2_with fail; exact CalmPost.mk (by simp; rfl) rfl (DrewR.refl _)
      · intro w hR hL; obtain ⟨nd, rfl⟩ := hR; simp [Look, VAt, EqV] at hL; simp [Guarded, setAll, bare, hL]; go_wp2_with fail; exact CalmPost.mk (by simp; rfl) rfl (DrewR.refl _)
    case pcalmDone =>
      intro vs w6 hR hL; obtain ⟨nd, rfl⟩ := hR; simp [Look, VAt, EqV] at hL; simp [setAll, hL]; clear hL
      go_wp2_with fail
      go_ret3
      refine ⟨?_, KE.out.trans (Ext.drewN _ _)⟩
      rw [KP2.out]
      simp [Kx.out, Ky.out]
set_option maxRecDepth 100000 in
set_option maxHeartbeats 1000000 in
theorem step_e (b s : List UInt8) (hs : s ≠ []) (hsl : s.length ≤ 2000000) (hbl : b.length ≤ 2000000) (w : World) (h1 : byt s 0 ≠ 1) (h2 : byt s 0 ≠ 2) : Calls Try.prog 46 #[.string (strOf b), .string (strOf s)] w (StepE w (stepP b s)) := by
  have hm : Try.prog.follows .mixedOrders = true := by kernel_rfl
  have hsz := strOf_size s
  have hbz := strOf_size b
  have hpos : 0 < s.length := List.length_pos_iff.2 hs
  have y0 := get_byte s 0 (by omega)
  have i0 : (0 : Int) < (s.length : Int) := by omega
  have n0 : 0 < (strOf s).size := by omega
  have KP := Kept.mk (show stepP b s = ([], [], 3) by unfold stepP; rw [if_neg h1, if_neg h2])
  have q1 : (byt s 0 == 1) = false := by rw [beq_eq_false_iff_ne]; exact h1
  have q2 : (byt s 0 == 2) = false := by rw [beq_eq_false_iff_ne]; exact h2
  clear h1 h2
  generalize byt s 0 = c at *
  clear hs
  go_enter Try.func46, Try.ntmps46
  go_wp2_with fail
  go_ret3
  exact ⟨by rw [KP.out]; rfl, Ext.refl _⟩
theorem step_any (b s : List UInt8) (hs : s ≠ []) (hsl : s.length ≤ 2000000) (hbl : b.length ≤ 2000000) (w : World) : Calls Try.prog 46 #[.string (strOf b), .string (strOf s)] w (StepE w (stepP b s)) := by
  by_cases h1 : byt s 0 = 1
  · by_cases h2 : s.length < 9
    · exact step_a b s hs hsl hbl w h1 h2
    · exact step_b b s hs hsl hbl w h1 (by omega)
  · by_cases h3 : byt s 0 = 2
    · by_cases h2 : s.length < 5
      · exact step_c b s hs hsl hbl w h3 h2
      · exact step_d b s hs hsl hbl w h3 (by omega)
    · exact step_e b s hs hsl hbl w h1 h3
end Delta
end Go.Proofs.Ytgnbbklnobladaa
