/- The law SqueezePlain. No condition. -/
import Derived.Test.YtboophnammckaaaSqzLawA
namespace Go.Proofs.Ytboophnammckaaa
open Go.RowKit Go.Maps
namespace Sqz
open Delta (TextE infoB wraps_i64)
set_option linter.unusedSimpArgs false
set_option linter.unusedVariables false
theorem rep_one (c : UInt8) : ∀ (k j : Nat), rep 1 k (List.replicate (j + 1) c) = List.replicate (j + 1 + k) c
  | 0, j => rfl
  | k + 1, j => by
    rw [rep]
    have : List.replicate (j + 1) c ++ [(List.replicate (j + 1) c).getD ((List.replicate (j + 1) c).length - 1) 0] = List.replicate (j + 2) c := by
      rw [List.length_replicate, List.getD_eq_getElem?_getD, List.getElem?_replicate_of_lt (by omega)]
      exact (List.replicate_succ' (n := j + 1) (a := c)).symm
    rw [this, rep_one c k (j + 1)]
    congr 1; omega
theorem leads_run (c : UInt8) (m : Nat) (hm : m ≤ 127) : Leads [] [0, c, UInt8.ofNat (m + 128), 0, 1] (List.replicate (5 + m) c) := by
  refine Leads.lit [] [c] [UInt8.ofNat (m + 128), 0, 1] _ (by simp) (by simp) ?_
  have h := Leads.far [c] (m + 4) 1 [] (List.replicate (5 + m) c) (by omega) (by omega) (by omega) (by omega) (by simp) (by
    have h := rep_one c (m + 4) 0
    rw [show List.replicate (0 + 1) c = [c] from rfl, show 0 + 1 + (m + 4) = 5 + m by omega] at h
    rw [h]; exact .nil _)
  exact h
theorem open_lead {T s : List UInt8} (h : Leads [] T s) (M : Int) (hM : 0 ≤ M) (hl : ¬ M < (s.length : Int)) : openP (1 :: T) M = (s, 0) := by
  unfold openP
  rw [if_neg (by omega), open_press (.inr ⟨T, rfl, h⟩) M hM, if_neg hl]
theorem open_keep (s : List UInt8) (M : Int) (hl : ¬ M < (s.length : Int)) : openP (0 :: s) M = (s, 0) := by
  unfold openP
  rw [if_neg (by omega), open_press (s := s) (.inl rfl) M (by omega), if_neg hl]
set_option maxRecDepth 100000 in
set_option maxHeartbeats 4000000 in
theorem plain_law (w : World) (s : ByteArray) (hs : s.size ≤ 9223372036854775807) (c : Int) (hc : (Lit.int .u8 c).wf = true) (n : Int) (hn : (Lit.int .u8 n).wf = true) : Calls Try.prog 5 #[.string s, .int .u8 c, .int .u8 n] w fun e w1 => e = .returned (.bool true) ∧ Below w.heap.size w w1 := by
  obtain ⟨l, rfl⟩ : ∃ l, s = strOf l := ⟨_, (strOf_self s).symm⟩
  have hlz := strOf_size l
  have hm : Try.prog.follows .mixedOrders = true := by kernel_rfl
  obtain ⟨c0, c1⟩ : 0 ≤ c ∧ c ≤ 255 := by simp [Lit.wf, IntKind.min, IntKind.max, IntKind.signed, IntKind.bits] at hc; omega
  obtain ⟨n0, n1⟩ : 0 ≤ n ∧ n ≤ 255 := by simp [Lit.wf, IntKind.min, IntKind.max, IntKind.signed, IntKind.bits] at hn; omega
  clear hs hc hn
  rcases (show 2000 < l.length ∨ l.length ≤ 2000 by omega) with h | h
  · have hI : (l.length : Int) > 2000 := by omega
    go_enter Try.func5, Try.ntmps5
    go_wp2_with fail
    refine (awake_any _).mono ?_
    rintro e w1 ⟨rfl, h1⟩
    go_wp2_with fail
    go_ret
    exact ⟨rfl, h1⟩
  · have hI : ¬ (l.length : Int) > 2000 := by omega
    have hcc : (ByteArray.mk #[0]) ++ strOf l = strOf (0 :: l) := by
      rw [str_eq]; simp [strOf]
    have hz1 : (ByteArray.mk #[0]).size = 1 := rfl
    have hzz : (ByteArray.mk #[0]).size + (strOf l).size ≤ 9223372036854775807 := by rw [hz1]; omega
    have h1s : ByteArray.mk #[1] = strOf [1] := rfl
    go_enter Try.func5, Try.ntmps5
    go_wp2_with fail
    refine (awake_any _).mono ?_
    rintro e w1 ⟨rfl, h1⟩
    go_wp2_with fail
    refine (open_any (0 :: l) (by simp; omega) l.length _).mono ?_
    rintro e w2 ⟨rfl, h2⟩
    rw [open_keep l l.length (by omega)]
    have hE2 := Kept.mk (h1.trans h2)
    clear h1 h2 hcc hzz hz1
    go_wp2_with fail
    go_loopg [9, 10] (l.length + 128) (fun r o av wi => ∃ (i : Nat) (T : List UInt8), r + i = l.length + 128 ∧ o = .string (strOf (1 :: T)) ∧ av = .int .i64 (i : Int) ∧ (∀ q, Leads q T (q ++ l.take i)) ∧ T.length ≤ 2 * i ∧ Ext w wi)
    case atStart => exact ⟨0, [], rfl, by first | rfl | rw [h1s], rfl, fun q => by rw [List.take_zero, List.append_nil]; exact .nil q, Nat.zero_le _, hE2.out⟩
    case round =>
      obtain ⟨i, T, hr, rfl, rfl, hLd, hTl, hE⟩ := hrel
      have hBw := hE.size
      have Kr := Kept.mk hr
      have KLd := Kept.mk hLd
      have KTl := Kept.mk hTl
      have KE := Kept.mk hE
      have hib : i ≤ 2128 := by omega
      have hTz : T.length ≤ 5000 := by omega
      clear hr hLd hTl hE h1s
      by_cases hlt : i < l.length
      · have hltI : (i : Int) < (l.length : Int) := by omega
        obtain ⟨k, hk⟩ : ∃ k : Nat, k = if l.length - i < 128 then l.length - i else 128 := ⟨_, rfl⟩
        have hkI : (if (l.length : Int) - (i : Int) < 128 then (l.length : Int) - (i : Int) else 128) = (k : Int) := by split at hk <;> split <;> omega
        have hk0 : 1 ≤ k := by split at hk <;> omega
        have hk1 : k ≤ 128 := by split at hk <;> omega
        have hk2 : i + k ≤ l.length := by split at hk <;> omega
        have hk2I : (i : Int) + (k : Int) ≤ (l.length : Int) := by omega
        have hx : (strOf l).extract i (i + k) = strOf ((l.drop i).take k) := by rw [strOf_extract]; congr 2; omega
        have hxl : ((l.drop i).take k).length = k := by rw [List.length_take, List.length_drop]; omega
        have hcat : l.take i ++ (l.drop i).take k = l.take (i + 128) := by
          rw [← List.take_add]
          split at hk
          · rw [List.take_of_length_le (by omega), List.take_of_length_le (by omega)]
          · rw [hk]
        generalize (l.drop i).take k = xs at hx hxl hcat
        obtain ⟨x, hxe⟩ : ∃ x : Int, x = (k : Int) - 1 := ⟨_, rfl⟩
        have hx0 : 0 ≤ x := by omega
        have hx1 : x ≤ 127 := by omega
        have hxx : (k : Int) - 1 = x := hxe.symm
        have hmod : x % 256 = x := by omega
        obtain ⟨bb, hbb⟩ : ∃ b : UInt8, b = UInt8.ofNat (k - 1) := ⟨_, rfl⟩
        have hbx : ((bb.toNat : Nat) : Int) = x := by rw [hbb, ofNat_toNat _ (by omega)]; omega
        have Kbb := Kept.mk (show [Value.int .u8 x] = bytesV [bb] by rw [← hbx]; rfl)
        obtain ⟨M1, hM1⟩ : ∃ M1, M1 = 1 :: T ++ [bb] := ⟨_, rfl⟩
        have hM1l : M1.length = T.length + 2 := by rw [hM1]; simp
        have hc1 : strOf (1 :: T) ++ strOf [bb] = strOf M1 := by rw [strOf_append, hM1]
        obtain ⟨M2, hM2⟩ : ∃ M2, M2 = M1 ++ xs := ⟨_, rfl⟩
        have hc2 : strOf M1 ++ strOf xs = strOf M2 := by rw [strOf_append, hM2]
        have hs1 : (strOf (1 :: T)).size + (strOf [bb]).size ≤ 9223372036854775807 := by rw [strOf_size, strOf_size]; simp; omega
        have hs2 : (strOf M1).size + (strOf xs).size ≤ 9223372036854775807 := by rw [strOf_size, strOf_size]; omega
        have Kc1 := Kept.mk hc1
        have Kc2 := Kept.mk hc2
        have KM := Kept.mk (show M2 = 1 :: (T ++ bb :: xs) by rw [hM2, hM1]; simp)
        have Kxl := Kept.mk hxl
        have Kcat := Kept.mk hcat
        have Kb := Kept.mk hbb
        have Kk := Kept.mk hk
        clear hM1l hxl hcat hbb hM1 hM2 hbx hk hxe
        go_wp2_with fail
        refine wp_region_calm Ext 14 ([] :: [] :: [(43, 1)] :: [(44, 2)] :: [(45, 3)] :: [(46, 4)] :: [(42, 0), (47, 5)] :: [] :: [] :: [] :: [] :: [(51, 9), (52, 10)] :: [(49, 7), (50, 8), (53, 11)] :: [(48, 6), (54, 12)] :: [])
          ((42, 0) :: (43, 1) :: (44, 2) :: (45, 3) :: (46, 4) :: (47, 5) :: (48, 6) :: (49, 7) :: (50, 8) :: (51, 9) :: (52, 10) :: (53, 11) :: (54, 12) :: (55, 13) :: [])
          (EqV ?pce0 :: EqV ?pce1 :: EqV ?pce2 :: EqV ?pce3 :: (fun W u => Buf W w.heap.size 5 u [.int .u8 x]) :: EqV (.string (strOf [bb])) :: EqV (.string (strOf M1)) :: EqV ?pce7 :: EqV ?pce8 :: EqV ?pce9 :: EqV ?pce10 :: EqV ?pce11 :: EqV (.string (strOf xs)) :: EqV (.string (strOf M2)) :: []) hm (by kernel_rfl) Ext.refl (fun _ _ _ => Ext.trans) Ext.drew
          (MonoL.at (MonoL.eq _ (MonoL.eq _ (MonoL.eq _ (MonoL.eq _ (MonoL.cons (fun W W' u hR hb => hb.ext hR) (MonoL.eq _ (MonoL.eq _ (MonoL.eq _ (MonoL.eq _ (MonoL.eq _ (MonoL.eq _ (MonoL.eq _ (MonoL.eq _ (MonoL.eq _ (MonoL.nil)))))))))))))))) ?pcalmOps ?pcalmDone
        case pcalmOps =>
          intro vs
          refine (CalmOps.cons ?_ (CalmOps.cons ?_ (CalmOps.cons ?_ (CalmOps.cons ?_ (CalmOps.cons ?_ (CalmOps.cons ?_ (CalmOps.cons ?_ (CalmOps.cons ?_ (CalmOps.cons ?_ (CalmOps.cons ?_ (CalmOps.cons ?_ (CalmOps.cons ?_ (CalmOps.cons ?_ (CalmOps.cons ?_ trivial))))))))))))))
          · intro w hR hL; simp [Look, VAt, EqV] at hL; simp [Guarded, setAll, bare, hL]; go_wp2_with fail; exact CalmPost.mk (by simp; rfl) rfl (Ext.refl _)
          · intro w hR hL; simp [Look, VAt, EqV] at hL; simp [Guarded, setAll, bare, hL]; go_wp2_with fail; exact CalmPost.mk (by simp; rfl) rfl (Ext.refl _)
          · intro w hR hL; simp [Look, VAt, EqV] at hL; simp [Guarded, setAll, bare, hL]; go_wp2_with fail; exact CalmPost.mk (by simp; rfl) rfl (Ext.refl _)
          · intro w hR hL; simp [Look, VAt, EqV] at hL; simp [Guarded, setAll, bare, hL]; go_wp2_with fail; exact CalmPost.mk (by simp; rfl) rfl (Ext.refl _)
          · intro w6 hR hL; simp [Look, VAt, EqV] at hL; simp [Guarded, setAll, bare, hL]; go_wp2_with fail; exact CalmPost.mk (by first | (simp; done) | (simp; rfl) | rfl) (Buf.lit w6 5 w.heap.size (Nat.le_trans hBw hR.size) [.int .u8 x] (by simp [maxLen])) (Ext.alloc _ _)
          · intro w6 hR hL; simp [Look, VAt, EqV] at hL; obtain ⟨A4, c4, hL4⟩ := hL.form; rw [hL4] at hL; rw [Kbb.out] at hL; have kc := conv_buf w6 33 5 9 Try.underlying33 Try.underlying5 Try.underlying9 [bb] hL; simp only [Guarded, setAll, bare, hL4, List.foldl]; simp only [List.length_cons, List.length_nil, Nat.zero_add, show (bytesV [bb]).length = 1 from rfl] at kc ⊢; clear hL hL4; go_wp2_with fail; exact CalmPost.mk (by first | (simp; done) | (simp; rfl)) rfl (Ext.refl _)
          · intro w6 hR hL; simp [Look, VAt, EqV] at hL; simp [Guarded, setAll, bare, hL]; go_wp2_with fail; exact CalmPost.mk (by first | (simp; done) | (simp; rfl)) (by first | rfl | exact congrArg _ Kc1.out) (Ext.refl _)
          · intro w hR hL; simp [Look, VAt, EqV] at hL; simp [Guarded, setAll, bare, hL]; go_wp2_with fail; exact CalmPost.mk (by simp; rfl) rfl (Ext.refl _)
          · intro w hR hL; simp [Look, VAt, EqV] at hL; simp [Guarded, setAll, bare, hL]; go_wp2_with fail; exact CalmPost.mk (by simp; rfl) rfl (Ext.refl _)
          · intro w hR hL; simp [Look, VAt, EqV] at hL; simp [Guarded, setAll, bare, hL]; go_wp2_with fail; exact CalmPost.mk (by simp; rfl) rfl (Ext.refl _)
          · intro w hR hL; simp [Look, VAt, EqV] at hL; simp [Guarded, setAll, bare, hL]; go_wp2_with fail; exact CalmPost.mk (by simp; rfl) rfl (Ext.refl _)
          · intro w hR hL; simp [Look, VAt, EqV] at hL; simp [Guarded, setAll, bare, hL]; go_wp2_with fail; exact CalmPost.mk (by simp; rfl) rfl (Ext.refl _)
          · intro w6 hR hL; simp [Look, VAt, EqV] at hL; simp [Guarded, setAll, bare, hL]; go_wp2_with fail; exact CalmPost.mk (by simp; exact hx) rfl (Ext.refl _)
          · intro w6 hR hL; simp [Look, VAt, EqV] at hL; simp [Guarded, setAll, bare, hL]; go_wp2_with fail; exact CalmPost.mk (by first | (simp; done) | (simp; rfl)) (by first | rfl | exact congrArg _ Kc2.out) (Ext.refl _)
        case pcalmDone =>
          intro vs w6 hR hL; simp [Look, VAt, EqV] at hL
          obtain ⟨e0, e1, e2, e3, hB4, e5, e6, e7, e8, e9, e10, e11, e12, e13⟩ := hL
          obtain ⟨A4, c4, e4⟩ := hB4.form
          simp [setAll, e0, e1, e2, e3, e4, e5, e6, e7, e8, e9, e10, e11, e12, e13]
          have KR := Kept.mk (show Ext w w6 from KE.out.trans hR)
          have KM2 := Kept.mk (show ∀ q, Leads q (T ++ bb :: xs) (q ++ l.take (i + 128)) by
            have h := leads_chunk (x := xs) KLd.out (by have := Kxl.out; omega) (by have := Kxl.out; omega)
            rw [Kcat.out, Kxl.out, ← Kb.out] at h
            exact h)
          have KT2 := Kept.mk (show (T ++ bb :: xs).length ≤ 2 * (i + 128) by
            have h1 := KTl.out; have h2 := Kxl.out
            rw [List.length_append, List.length_cons]; omega)
          clear hR hB4 e0 e1 e2 e3 e4 e5 e6 e7 e8 e9 e10 e11 e12 e13
          go_wp2_with fail
          go_roundg (gk - 128)
          case measure => have := Kr.out; omega
          case rel => exact ⟨i + 128, T ++ bb :: xs, by have := Kr.out; omega, by rw [← KM.out], by first | rfl | simp, KM2.out, KT2.out, KR.out⟩
      · have hltI : ¬ (i : Int) < (l.length : Int) := by omega
        have KL2 := Kept.mk (show Leads [] T l by
          have h := KLd.out []
          rwa [List.take_of_length_le (by omega), List.nil_append] at h)
        go_wp2_with fail
        refine (open_any (1 :: T) (by simp; omega) l.length _).mono ?_
        rintro e w3 ⟨rfl, h3⟩
        rw [open_lead KL2.out l.length (by omega) (by omega)]
        have KE3 := Kept.mk (KE.out.trans h3)
        clear h3
        obtain ⟨m, hm1⟩ : ∃ m : Nat, (m : Int) = n % 128 := ⟨(n % 128).toNat, by omega⟩
        have hm2 : m ≤ 127 := by omega
        have hn2 : n % 128 = (m : Int) := hm1.symm
        obtain ⟨cb, hcb⟩ : ∃ cb : UInt8, cb = UInt8.ofNat c.toNat := ⟨_, rfl⟩
        have hcb2 : c = (cb.toNat : Int) := by rw [hcb, ofNat_toNat _ (by omega)]; omega
        clear hm1 hcb
        subst hcb2
        have hms : (128 + (m : Int)) % 256 = 128 + (m : Int) := by omega
        obtain ⟨RUN, hRUN⟩ : ∃ R : List UInt8, R = [1, 0, cb, UInt8.ofNat (m + 128), 0, 1] := ⟨_, rfl⟩
        have hrun : [Value.int .u8 1, .int .u8 0, .int .u8 (cb.toNat : Int), .int .u8 (128 + (m : Int)), .int .u8 0, .int .u8 1] = bytesV RUN := by
          rw [hRUN]
          simp [bytesV, numsV, nb]; omega
        have hRl : RUN.length = 6 := by rw [hRUN]; rfl
        have KR := Kept.mk (show openP RUN 200 = (List.replicate (5 + m) cb, 0) by
          rw [hRUN]; exact open_lead (leads_run cb m hm2) 200 (by decide) (by rw [List.length_replicate]; omega))
        clear hRUN
        have kc : (convert 33 9 (.slice (some ⟨w3.heap.size, 0, none⟩) 6 6)).run Try.prog (w3.alloc (.cells #[Value.int .u8 1, .int .u8 0, .int .u8 (cb.toNat : Int), .int .u8 (128 + (m : Int)), .int .u8 0, .int .u8 1] 5)) = .ok (.string (strOf RUN)) (w3.alloc (.cells #[Value.int .u8 1, .int .u8 0, .int .u8 (cb.toNat : Int), .int .u8 (128 + (m : Int)), .int .u8 0, .int .u8 1] 5)) := by
          have hb := Buf.lit w3 5 w3.heap.size (Nat.le_refl _) [Value.int .u8 1, .int .u8 0, .int .u8 (cb.toNat : Int), .int .u8 (128 + (m : Int)), .int .u8 0, .int .u8 1] (by simp [maxLen])
          conv at hb => arg 5; rw [hrun]
          exact conv_buf _ _ _ _ Try.underlying33 Try.underlying5 Try.underlying9 _ hb
        have Kru := Kept.mk hrun
        clear hrun
        go_wp2_with fail
        refine (open_any RUN (by omega) 200 _).mono ?_
        rintro e w4 ⟨rfl, h4⟩
        rw [KR.out]
        have KE4 := Kept.mk (Ext.trans KE3.out ((Ext.alloc _ _).trans h4))
        clear h4 kc hRl
        obtain ⟨Z, hZ⟩ : ∃ Z : List UInt8, Z = List.replicate (5 + m) cb := ⟨_, rfl⟩
        rw [← hZ]
        have hZl : Z.length = 5 + m := by rw [hZ, List.length_replicate]
        have KZ := Kept.mk hZ
        clear hZ
        have hZz := strOf_size Z
        have hZ5 : (Z.length : Int) = 5 + (m : Int) := by omega
        go_wp2_with fail
        go_loopg [17] Z.length (fun r iv wi => ∃ j : Nat, j + r = Z.length ∧ iv = .int .i64 (j : Int) ∧ Ext w wi)
        case atStart => exact ⟨0, by omega, rfl, KE4.out⟩
        case round =>
          obtain ⟨j, hr, rfl, hE⟩ := hrel
          have KE := Kept.mk hE
          have Kr := Kept.mk hr
          have hjl : j ≤ Z.length := by omega
          clear hr hE
          by_cases hj : j < Z.length
          · have hjI : (j : Int) < (Z.length : Int) := by omega
            have hjz : j < (strOf Z).size := by omega
            have y0 := get_nat Z j hjz
            have hgd : Z.getD j 0 = cb := by
              rw [KZ.out, List.getD_eq_getElem?_getD, List.getElem?_replicate_of_lt (by omega)]; rfl
            rw [hgd] at y0
            clear hgd
            go_wp2_with fail
            go_roundg (gk - 1)
            case measure => have := Kr.out; omega
            case rel => exact ⟨j + 1, by have := Kr.out; omega, by first | rfl | simp, KE.out⟩
          · have hjI : ¬ (j : Int) < (Z.length : Int) := by omega
            go_wp2_with fail
            go_ret
            exact ⟨rfl, KE.out⟩
end Sqz
end Go.Proofs.Ytboophnammckaaa
