/- The walk of the law CrcSealed: it answers true. No condition. -/
import Derived.Test.YtfebgibinnfjkaaCrcWalkF
import Derived.Test.YtfebgibinnfjkaaCalm
namespace Go.Proofs.Ytfebgibinnfjkaa
open Go.RowKit
namespace Crc

def bs (l : List UInt8) : ByteArray := ⟨l.toArray⟩
theorem bs_of {q : ByteArray} {l : List UInt8} (h : q.data.toList = l) : q = bs l := by subst h; cases q; simp [bs]
/-- A slice of these strings. -/
def SliceV (l : List ByteArray) : World → Value → Prop := fun w v => ∃ A c, v = .slice A l.length c ∧ Row w A (l.map strV)
theorem SliceV.mono (l : List ByteArray) (w w' : World) (v : Value) (h : Ext w w') : SliceV l w v → SliceV l w' v := fun ⟨A, c, e, r⟩ => ⟨A, c, e, r.ext h⟩
set_option linter.unusedSimpArgs false
set_option maxRecDepth 100000 in
set_option maxHeartbeats 1000000 in
theorem sealed_any (w : World) (s : ByteArray) (hs : s.size ≤ 9223372036854775807) (cut : Int) (_ : (Lit.int .i64 cut).wf = true) : Calls Try.prog 4 #[.string s, .int .i64 cut] w (TrueIs w) := by
  by_cases hls : s.size ≤ 2000
  · by_cases hc0 : 0 ≤ cut
    · by_cases hc1 : cut ≤ s.size
      · obtain ⟨k, rfl⟩ := Int.eq_ofNat_of_zero_le hc0
        go_enter Try.func4, Try.ntmps4
        go_wp2_with fail
        refine (awake_any _).mono ?_
        rintro e w1 ⟨rfl, hb1⟩
        go_wp2_with fail
        refine (seal_any _ (by omega) _).mono ?_
        rintro e w2 ⟨⟨q1, rfl, hq1⟩, hb2⟩
        have hz1 : q1.size ≤ 2004 := by
          have := congrArg List.length hq1
          rw [sealed_length] at this
          simp at this; omega
        have Q1 := Lib.hid hq1
        clear hq1
        go_wp2_with fail
        refine (seal_any _ (by omega) _).mono ?_
        rintro e w3 ⟨⟨q2, rfl, hq2⟩, hb3⟩
        have hz2 : q2.size ≤ 2008 := by
          have := congrArg List.length hq2
          rw [sealed_length] at this
          simp at this; omega
        have Q2 := Lib.hid hq2
        clear hq2
        go_wp2_with fail
        refine (open_any _ (by omega) _).mono ?_
        rintro e w4 ⟨⟨q3, rfl, hq3⟩, hb4⟩
        rw [Q2.out, opened_sealed] at hq3 ⊢
        have h31 : q1 = q3 := (str_eq.2 hq3).symm
        subst h31
        go_wp2_with fail
        refine (open_any _ (by omega) _).mono ?_
        rintro e w5 ⟨⟨q4, rfl, hq4⟩, hb5⟩
        rw [Q1.out, opened_sealed] at hq4 ⊢
        have h4 : s = q4 := (str_eq.2 hq4).symm
        subst h4
        clear hq3 hq4
        have hxl := sumL_lt [s.extract 0 k]
        have e1 : sumL [s] = more 0 s.data.toList := rfl
        have hjoin : s.data.toList = (s.extract 0 k).data.toList ++ (s.extract k s.size).data.toList := by
          have h1 : (s.extract k s.size).data.toList = s.data.toList.drop k := by
            rw [ByteArray.data_extract, Array.toList_extract, List.extract, List.take_of_length_le (by simp)]
          rw [extract_take, h1, List.take_append_drop]
        have e2 : more (sumL [s.extract 0 k]) (s.extract k s.size).data.toList = more 0 s.data.toList := by
          have := more_append (sum := 0) (s.extract 0 k).data.toList (s.extract k s.size).data.toList
          rw [← hjoin] at this
          rw [this]; rfl
        have e3 : sumL [s.extract 0 k, s.extract k s.size] = more 0 s.data.toList := e2
        generalize hyd : more 0 s.data.toList = y at e1 e2 e3
        clear hyd hjoin
        have E1 := Lib.hid e1
        have E3 := Lib.hid e3
        generalize hxd : sumL [s.extract 0 k] = x at e2 hxl
        have E2 := Lib.hid e2
        clear e1 e2 e3
        go_wp2_with fail
        have hm : Try.prog.follows .mixedOrders = true := by kernel_rfl
        refine wp_region_calm Ext ([] :: [] :: [(37, 1)] :: [(36, 0), (38, 2)] :: [(39, 3)] :: [(40, 4)] :: [(41, 5), (40, 4)] :: [(40, 4), (42, 6)] :: [(43, 7)] :: [(44, 8)] :: [(44, 8)] :: [(45, 9), (46, 10), (44, 8)] :: [(44, 8), (47, 11)] :: [(48, 12)] :: [(49, 13)] :: [(50, 14), (49, 13)] :: [(49, 13), (51, 15)] :: [(52, 16)] :: [(53, 17)] :: [(54, 18), (53, 17)] :: [(55, 19), (53, 17)] :: [(53, 17)] :: [(53, 17)] :: [(57, 21), (58, 22), (53, 17)] :: [(59, 23), (53, 17)] :: [(60, 24), (53, 17)] :: [(53, 17)] :: [(53, 17)] :: [(62, 26), (63, 27), (53, 17)] :: [(61, 25), (64, 28), (53, 17)] :: [(56, 20), (65, 29), (53, 17)] :: [(53, 17), (66, 30)] :: [(67, 31)] :: [(68, 32)] :: [(68, 32)] :: [(69, 33), (70, 34), (68, 32)] :: [(68, 32)] :: [(68, 32)] :: [(72, 36), (73, 37), (68, 32)] :: [(71, 35), (74, 38), (68, 32)] :: [(75, 39), (68, 32)] :: [(68, 32)] :: [(77, 41), (68, 32)] :: [(78, 42), (68, 32)] :: [(76, 40), (79, 43), (68, 32)] :: [(68, 32), (80, 44)] :: [(81, 45)] :: [])
          ((36, 0) :: (37, 1) :: (38, 2) :: (39, 3) :: (40, 4) :: (41, 5) :: (42, 6) :: (43, 7) :: (44, 8) :: (45, 9) :: (46, 10) :: (47, 11) :: (48, 12) :: (49, 13) :: (50, 14) :: (51, 15) :: (52, 16) :: (53, 17) :: (54, 18) :: (55, 19) :: (56, 20) :: (57, 21) :: (58, 22) :: (59, 23) :: (60, 24) :: (61, 25) :: (62, 26) :: (63, 27) :: (64, 28) :: (65, 29) :: (66, 30) :: (67, 31) :: (68, 32) :: (69, 33) :: (70, 34) :: (71, 35) :: (72, 36) :: (73, 37) :: (74, 38) :: (75, 39) :: (76, 40) :: (77, 41) :: (78, 42) :: (79, 43) :: (80, 44) :: (81, 45) :: (4, 46) :: [])
          (EqV ?ce0 :: EqV ?ce1 :: EqV (.string q1) :: EqV ?ce3 :: EqV ?ce4 :: EqV ?ce5 :: EqV ?ce6 :: EqV ?ce7 :: EqV ?ce8 :: EqV ?ce9 :: EqV ?ce10 :: EqV ?ce11 :: EqV ?ce12 :: EqV ?ce13 :: EqV ?ce14 :: EqV ?ce15 :: EqV ?ce16 :: EqV ?ce17 :: EqV ?ce18 :: SliceV [s] :: EqV (.int .u32 (y : Int)) :: EqV ?ce21 :: EqV ?ce22 :: EqV ?ce23 :: SliceV [s.extract 0 k] :: EqV (.int .u32 (x : Int)) :: EqV ?ce26 :: EqV ?ce27 :: EqV ?ce28 :: EqV (.int .u32 (y : Int)) :: EqV ?ce30 :: EqV ?ce31 :: EqV ?ce32 :: EqV ?ce33 :: EqV ?ce34 :: EqV ?ce35 :: EqV ?ce36 :: EqV ?ce37 :: EqV ?ce38 :: SliceV [s.extract 0 k, s.extract k s.size] :: EqV (.int .u32 (y : Int)) :: EqV ?ce41 :: SliceV [s] :: EqV (.int .u32 (y : Int)) :: EqV ?ce44 :: EqV ?ce45 :: EqV ?ce46 :: []) hm (by kernel_rfl) Ext.refl (fun _ _ _ => Ext.trans) Ext.drew
          (MonoL.at (MonoL.eq _ (MonoL.eq _ (MonoL.eq _ (MonoL.eq _ (MonoL.eq _ (MonoL.eq _ (MonoL.eq _ (MonoL.eq _ (MonoL.eq _ (MonoL.eq _ (MonoL.eq _ (MonoL.eq _ (MonoL.eq _ (MonoL.eq _ (MonoL.eq _ (MonoL.eq _ (MonoL.eq _ (MonoL.eq _ (MonoL.eq _ (MonoL.cons (SliceV.mono _) (MonoL.eq _ (MonoL.eq _ (MonoL.eq _ (MonoL.eq _ (MonoL.cons (SliceV.mono _) (MonoL.eq _ (MonoL.eq _ (MonoL.eq _ (MonoL.eq _ (MonoL.eq _ (MonoL.eq _ (MonoL.eq _ (MonoL.eq _ (MonoL.eq _ (MonoL.eq _ (MonoL.eq _ (MonoL.eq _ (MonoL.eq _ (MonoL.eq _ (MonoL.cons (SliceV.mono _) (MonoL.eq _ (MonoL.eq _ (MonoL.cons (SliceV.mono _) (MonoL.eq _ (MonoL.eq _ (MonoL.eq _ (MonoL.eq _ (MonoL.nil))))))))))))))))))))))))))))))))))))))))))))))))) ?calmOps ?calmDone
        case calmOps =>
          intro vs
          refine (CalmOps.cons ?_ (CalmOps.cons ?_ (CalmOps.cons ?_ (CalmOps.cons ?_ (CalmOps.cons ?_ (CalmOps.cons ?_ (CalmOps.cons ?_ (CalmOps.cons ?_ (CalmOps.cons ?_ (CalmOps.cons ?_ (CalmOps.cons ?_ (CalmOps.cons ?_ (CalmOps.cons ?_ (CalmOps.cons ?_ (CalmOps.cons ?_ (CalmOps.cons ?_ (CalmOps.cons ?_ (CalmOps.cons ?_ (CalmOps.cons ?_ (CalmOps.cons ?_ (CalmOps.cons ?_ (CalmOps.cons ?_ (CalmOps.cons ?_ (CalmOps.cons ?_ (CalmOps.cons ?_ (CalmOps.cons ?_ (CalmOps.cons ?_ (CalmOps.cons ?_ (CalmOps.cons ?_ (CalmOps.cons ?_ (CalmOps.cons ?_ (CalmOps.cons ?_ (CalmOps.cons ?_ (CalmOps.cons ?_ (CalmOps.cons ?_ (CalmOps.cons ?_ (CalmOps.cons ?_ (CalmOps.cons ?_ (CalmOps.cons ?_ (CalmOps.cons ?_ (CalmOps.cons ?_ (CalmOps.cons ?_ (CalmOps.cons ?_ (CalmOps.cons ?_ (CalmOps.cons ?_ (CalmOps.cons ?_ (CalmOps.cons ?_ trivial)))))))))))))))))))))))))))))))))))))))))))))))
          · intro w hR hL; simp [Look, VAt, EqV] at hL; simp [Guarded, setAll, bare, hL]; go_wp2_with fail; exact CalmPost.mk (by simp; rfl) rfl (Ext.refl _)
          · intro w hR hL; simp [Look, VAt, EqV] at hL; simp [Guarded, setAll, bare, hL]; go_wp2_with fail; exact CalmPost.mk (by simp; rfl) rfl (Ext.refl _)
          · intro w hR hL; simp [Look, VAt, EqV] at hL; simp [Guarded, setAll, bare, hL]; go_wp2_with fail; refine (seal_any s (by omega) _).mono ?_; rintro e w6 ⟨⟨q, rfl, hq⟩, hb6⟩; obtain rfl : q = q1 := str_eq.2 (by rw [hq, Q1.out]); go_wp2_with fail; exact CalmPost.mk (by simp) rfl hb6
          · intro w hR hL; simp [Look, VAt, EqV] at hL; simp [Guarded, setAll, bare, hL]; go_wp2_with fail; exact CalmPost.mk (by simp; rfl) rfl (Ext.refl _)
          · intro w hR hL; simp [Look, VAt, EqV] at hL; simp [Guarded, setAll, bare, hL]; go_wp2_with fail; exact CalmPost.mk (by simp; rfl) rfl (Ext.refl _)
          · intro w hR hL; simp [Look, VAt, EqV] at hL; simp [Guarded, setAll, bare, hL]; go_wp2_with fail; exact CalmPost.mk (by simp; rfl) rfl (Ext.refl _)
          · intro w hR hL; simp [Look, VAt, EqV] at hL; simp [Guarded, setAll, bare, hL]; go_wp2_with fail; exact CalmPost.mk (by simp; rfl) rfl (Ext.refl _)
          · intro w hR hL; simp [Look, VAt, EqV] at hL; simp [Guarded, setAll, bare, hL]; go_wp2_with fail; exact CalmPost.mk (by simp; rfl) rfl (Ext.refl _)
          · intro w hR hL; simp [Look, VAt, EqV] at hL; simp [Guarded, setAll, bare, hL]; go_wp2_with fail; exact CalmPost.mk (by simp; rfl) rfl (Ext.refl _)
          · intro w hR hL; simp [Look, VAt, EqV] at hL; simp [Guarded, setAll, bare, hL]; go_wp2_with fail; exact CalmPost.mk (by simp; rfl) rfl (Ext.refl _)
          · intro w hR hL; simp [Look, VAt, EqV] at hL; simp [Guarded, setAll, bare, hL]; go_wp2_with fail; exact CalmPost.mk (by simp; rfl) rfl (Ext.refl _)
          · intro w hR hL; simp [Look, VAt, EqV] at hL; simp [Guarded, setAll, bare, hL]; go_wp2_with fail; exact CalmPost.mk (by simp; rfl) rfl (Ext.refl _)
          · intro w hR hL; simp [Look, VAt, EqV] at hL; simp [Guarded, setAll, bare, hL]; go_wp2_with fail; exact CalmPost.mk (by simp; rfl) rfl (Ext.refl _)
          · intro w hR hL; simp [Look, VAt, EqV] at hL; simp [Guarded, setAll, bare, hL]; go_wp2_with fail; exact CalmPost.mk (by simp; rfl) rfl (Ext.refl _)
          · intro w hR hL; simp [Look, VAt, EqV] at hL; simp [Guarded, setAll, bare, hL]; go_wp2_with fail; exact CalmPost.mk (by simp; rfl) rfl (Ext.refl _)
          · intro w hR hL; simp [Look, VAt, EqV] at hL; simp [Guarded, setAll, bare, hL]; go_wp2_with fail; exact CalmPost.mk (by simp; rfl) rfl (Ext.refl _)
          · intro w hR hL; simp [Look, VAt, EqV] at hL; simp [Guarded, setAll, bare, hL]; go_wp2_with fail; exact CalmPost.mk (by simp; rfl) rfl (Ext.refl _)
          · intro w hR hL; simp [Look, VAt, EqV] at hL; simp [Guarded, setAll, bare, hL]; go_wp2_with fail; exact CalmPost.mk (by simp; rfl) rfl (Ext.refl _)
          · intro w hR hL; simp [Look, VAt, EqV] at hL; simp [Guarded, setAll, bare, hL]; go_wp2_with fail; exact CalmPost.mk (by simp; rfl) rfl (Ext.refl _)
          · intro w hR hL; simp [Look, VAt, EqV] at hL; simp [Guarded, setAll, bare, hL]; go_wp2_with fail; exact CalmPost.mk (by simp; rfl) ⟨_, _, rfl, row1 _ _ _⟩ (Ext.alloc _ _)
          · intro w hR hL; obtain ⟨⟨A, c, hv, hrow⟩, hL⟩ := hL; simp [Look, VAt, EqV] at hv hL; simp [Guarded, setAll, bare, hL, hv]; go_wp2_with fail; refine (sum_any [s] A c w hrow (by simp) (by simp; omega)).mono ?_; rintro e w6 ⟨rfl, hb6⟩; rw [E1.out]; go_wp2_with fail; exact CalmPost.mk (by simp) rfl hb6
          · intro w hR hL; simp [Look, VAt, EqV] at hL; simp [Guarded, setAll, bare, hL]; go_wp2_with fail; exact CalmPost.mk (by simp; rfl) rfl (Ext.refl _)
          · intro w hR hL; simp [Look, VAt, EqV] at hL; simp [Guarded, setAll, bare, hL]; go_wp2_with fail; exact CalmPost.mk (by simp; rfl) rfl (Ext.refl _)
          · intro w hR hL; simp [Look, VAt, EqV] at hL; simp [Guarded, setAll, bare, hL]; go_wp2_with fail; exact CalmPost.mk (by simp; rfl) rfl (Ext.refl _)
          · intro w hR hL; simp [Look, VAt, EqV] at hL; simp [Guarded, setAll, bare, hL]; go_wp2_with fail; exact CalmPost.mk (by simp; rfl) ⟨_, _, rfl, row1 _ _ _⟩ (Ext.alloc _ _)
          · intro w hR hL; obtain ⟨⟨A, c, hv, hrow⟩, hL⟩ := hL; simp [Look, VAt, EqV] at hv hL; simp [Guarded, setAll, bare, hL, hv]; go_wp2_with fail; refine (sum_any [s.extract 0 k] A c w hrow (by simp) (by simp; omega)).mono ?_; rintro e w6 ⟨rfl, hb6⟩; rw [hxd]; go_wp2_with fail; exact CalmPost.mk (by simp) rfl hb6
          · intro w hR hL; simp [Look, VAt, EqV] at hL; simp [Guarded, setAll, bare, hL]; go_wp2_with fail; exact CalmPost.mk (by simp; rfl) rfl (Ext.refl _)
          · intro w hR hL; simp [Look, VAt, EqV] at hL; simp [Guarded, setAll, bare, hL]; go_wp2_with fail; exact CalmPost.mk (by simp; rfl) rfl (Ext.refl _)
          · intro w hR hL; simp [Look, VAt, EqV] at hL; simp [Guarded, setAll, bare, hL]; go_wp2_with fail; exact CalmPost.mk (by simp; rfl) rfl (Ext.refl _)
          · intro w hR hL; simp [Look, VAt, EqV] at hL; simp [Guarded, setAll, bare, hL]; go_wp2_with fail; refine (more_any x hxl _ (by simp; omega) _).mono ?_; rintro e w6 ⟨rfl, hb6⟩; rw [E2.out]; go_wp2_with fail; exact CalmPost.mk (by simp) rfl hb6
          · intro w hR hL; simp [Look, VAt, EqV] at hL; simp [Guarded, setAll, bare, hL]; go_wp2_with fail; exact CalmPost.mk (by simp; rfl) rfl (Ext.refl _)
          · intro w hR hL; simp [Look, VAt, EqV] at hL; simp [Guarded, setAll, bare, hL]; go_wp2_with fail; exact CalmPost.mk (by simp; rfl) rfl (Ext.refl _)
          · intro w hR hL; simp [Look, VAt, EqV] at hL; simp [Guarded, setAll, bare, hL]; go_wp2_with fail; exact CalmPost.mk (by simp; rfl) rfl (Ext.refl _)
          · intro w hR hL; simp [Look, VAt, EqV] at hL; simp [Guarded, setAll, bare, hL]; go_wp2_with fail; exact CalmPost.mk (by simp; rfl) rfl (Ext.refl _)
          · intro w hR hL; simp [Look, VAt, EqV] at hL; simp [Guarded, setAll, bare, hL]; go_wp2_with fail; exact CalmPost.mk (by simp; rfl) rfl (Ext.refl _)
          · intro w hR hL; simp [Look, VAt, EqV] at hL; simp [Guarded, setAll, bare, hL]; go_wp2_with fail; exact CalmPost.mk (by simp; rfl) rfl (Ext.refl _)
          · intro w hR hL; simp [Look, VAt, EqV] at hL; simp [Guarded, setAll, bare, hL]; go_wp2_with fail; exact CalmPost.mk (by simp; rfl) rfl (Ext.refl _)
          · intro w hR hL; simp [Look, VAt, EqV] at hL; simp [Guarded, setAll, bare, hL]; go_wp2_with fail; exact CalmPost.mk (by simp; rfl) rfl (Ext.refl _)
          · intro w hR hL; simp [Look, VAt, EqV] at hL; simp [Guarded, setAll, bare, hL]; go_wp2_with fail; exact CalmPost.mk (by simp; rfl) rfl (Ext.refl _)
          · intro w hR hL; simp [Look, VAt, EqV] at hL; simp [Guarded, setAll, bare, hL]; go_wp2_with fail; exact CalmPost.mk (by simp; rfl) ⟨_, _, rfl, row2 _ _ _ _⟩ (Ext.alloc _ _)
          · intro w hR hL; obtain ⟨⟨A, c, hv, hrow⟩, hL⟩ := hL; simp [Look, VAt, EqV] at hv hL; simp [Guarded, setAll, bare, hL, hv]; go_wp2_with fail; refine (sum_any [s.extract 0 k, s.extract k s.size] A c w hrow (by simp) (by simp; omega)).mono ?_; rintro e w6 ⟨rfl, hb6⟩; rw [E3.out]; go_wp2_with fail; exact CalmPost.mk (by simp) rfl hb6
          · intro w hR hL; simp [Look, VAt, EqV] at hL; simp [Guarded, setAll, bare, hL]; go_wp2_with fail; exact CalmPost.mk (by simp; rfl) rfl (Ext.refl _)
          · intro w hR hL; simp [Look, VAt, EqV] at hL; simp [Guarded, setAll, bare, hL]; go_wp2_with fail; exact CalmPost.mk (by simp; rfl) ⟨_, _, rfl, row1 _ _ _⟩ (Ext.alloc _ _)
          · intro w hR hL; obtain ⟨⟨A, c, hv, hrow⟩, hL⟩ := hL; simp [Look, VAt, EqV] at hv hL; simp [Guarded, setAll, bare, hL, hv]; go_wp2_with fail; refine (sum_any [s] A c w hrow (by simp) (by simp; omega)).mono ?_; rintro e w6 ⟨rfl, hb6⟩; rw [E1.out]; go_wp2_with fail; exact CalmPost.mk (by simp) rfl hb6
          · intro w hR hL; simp [Look, VAt, EqV] at hL; simp [Guarded, setAll, bare, hL]; go_wp2_with fail; exact CalmPost.mk (by simp; rfl) rfl (Ext.refl _)
          · intro w hR hL; simp [Look, VAt, EqV] at hL; simp [Guarded, setAll, bare, hL]; go_wp2_with fail; exact CalmPost.mk (by simp; rfl) rfl (Ext.refl _)
          · intro w hR hL; simp [Look, VAt, EqV] at hL; simp [Guarded, setAll, bare, hL]; go_wp2_with fail; exact CalmPost.mk (by simp; rfl) rfl (Ext.refl _)
        case calmDone =>
          intro vs w6 hR hL
          simp [Look, VAt, EqV] at hL
          simp [setAll, hL]
          go_wp2_with fail
          go_ret
          exact ⟨rfl, hb1.trans (hb2.trans (hb3.trans (hb4.trans (hb5.trans hR))))⟩
      · go_enter Try.func4, Try.ntmps4
        go_wp2_with fail
        refine (awake_any _).mono ?_
        rintro e w1 ⟨rfl, hb1⟩
        go_wp2_with fail
        go_ret
        exact ⟨rfl, hb1⟩
    · go_enter Try.func4, Try.ntmps4
      go_wp2_with fail
      refine (awake_any _).mono ?_
      rintro e w1 ⟨rfl, hb1⟩
      go_wp2_with fail
      go_ret
      exact ⟨rfl, hb1⟩
  · go_enter Try.func4, Try.ntmps4
    go_wp2_with fail
    refine (awake_any _).mono ?_
    rintro e w1 ⟨rfl, hb1⟩
    go_wp2_with fail
    go_ret
    exact ⟨rfl, hb1⟩

end Crc
end Go.Proofs.Ytfebgibinnfjkaa
