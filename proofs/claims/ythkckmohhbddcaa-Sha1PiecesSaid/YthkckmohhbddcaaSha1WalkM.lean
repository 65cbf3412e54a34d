/- The walks of the document's Sum of SHA-1; of Digits. No condition. -/
import Derived.Test.YthkckmohhbddcaaSha1WalkL
import Derived.Test.YthkckmohhbddcaaSha1Abc
namespace Go.Proofs.Ythkckmohhbddcaa
open Go.RowKit
namespace Sha1

theorem strOf_extract (l : List UInt8) (a n : Nat) : (strOf l).extract a (a + n) = strOf ((l.drop a).take n) := by
  rw [str_eq, ByteArray.data_extract]
  simp [strOf, List.extract]
theorem pad_length (m : List UInt8) : (pad m).length = 64 * ((pad m).length / 64) := by
  have : (pad m).length = m.length + (1 + (119 - m.length % 64) % 64 + 8) := by simp [pad, tailB, be8]; omega
  omega
set_option linter.unusedSimpArgs false
set_option linter.unusedVariables false
set_option maxRecDepth 100000 in
set_option maxHeartbeats 2000000 in
theorem refSum_any (s : ByteArray) (hs : s.size ≤ 400000000) (w : World) : Calls Try.prog 9 #[.string s] w (StrIs w (digest s.data.toList)) := by
  have hm : Try.prog.follows .mixedOrders = true := by kernel_rfl
  obtain ⟨iB, hiB, hzB, hsB, hbB⟩ := infoB
  have hzR := zero_run (P := Try.prog) infoR5
  go_enter Try.func9, Try.ntmps9
  go_wp2_with fail
  refine (fill_any s hs w).mono ?_
  rintro e w1 ⟨rfl, h1⟩
  have hpl := pad_length s.data.toList
  have hps : (pad s.data.toList).length ≤ 400000200 := by
    have : (pad s.data.toList).length = s.data.toList.length + (1 + (119 - s.data.toList.length % 64) % 64 + 8) := by simp [pad, tailB, be8]; omega
    have h2 : s.data.toList.length = s.size := by simp
    omega
  have KD := Kept.mk (show digest s.data.toList = digestC (chain ((pad s.data.toList).length / 64) firstC (pad s.data.toList)) from rfl)
  generalize pad s.data.toList = L at hpl hps KD ⊢
  obtain ⟨K, hK⟩ : ∃ K, K = L.length / 64 := ⟨_, rfl⟩
  rw [← hK] at hpl KD
  have KK := Kept.mk hK
  have hsz := strOf_size L
  rw [hpl] at hsz
  clear hK
  go_wp2_with fail
  refine (refFirst_any _).mono ?_
  rintro e w2 ⟨rfl, h2⟩
  rw [chV_eq]
  obtain ⟨D, hD⟩ : ∃ D, D = digest s.data.toList := ⟨_, rfl⟩
  rw [← hD] at KD
  have KDD := Kept.mk hD
  clear hD
  have hE2 := h1.trans h2
  clear h1 h2
  go_wp2_with (refine wpList_store_new rfl 36 (.tmp 4) (.tmp 10) rfl rfl rfl 36 zW (chW firstC) rfl rfl (info_size infoR5) (chW_one _) ?_)
  have hb3 := Blk.new w2 36 (chW firstC)
  have hE3 : Ext w (w2.alloc (.cells (chW firstC).toArray 36)) := hE2.trans (Ext.alloc _ _)
  have hg : w.heap.size ≤ w2.heap.size := hE2.size
  generalize (w2.alloc (.cells (chW firstC).toArray 36)) = w3 at hb3 hE3 ⊢
  generalize w2.heap.size = g at hb3 hg ⊢
  clear hE2
  obtain ⟨X, hX⟩ : ∃ X, X = chain K firstC L := ⟨_, rfl⟩
  rw [← hX] at KD
  go_loopg [5] K (fun r i wi => ∃ (k : Nat) (c : Ch), k + r = K ∧ i = .int .i64 (64 * (k : Int)) ∧ chain (K - k) c (L.drop (64 * k)) = X ∧ Blk wi g 36 (chW c) ∧ Ext w wi)
  case atStart => exact ⟨0, firstC, by omega, rfl, by simpa using hX.symm, hb3, hE3⟩
  case round =>
    clear hb3 hE3 hX
    obtain ⟨k, c, hk, rfl, hX, hb, hE⟩ := hrel
    by_cases hlt : k < K
    · have hkI : 64 * (k : Int) < 64 * (K : Int) := by omega
      obtain ⟨c2, hc2⟩ : ∃ c2, c2 = pressC c ((L.drop (64 * k)).take 64) := ⟨_, rfl⟩
      have hX2 : chain (K - (k + 1)) c2 (L.drop (64 * (k + 1))) = X := by
        rw [← hX, show K - k = (K - (k + 1)) + 1 by omega, chain, hc2, List.drop_drop, show 64 * (k + 1) = 64 * k + 64 by omega]
      have KC2 := Kept.mk hc2
      have KX := Kept.mk hX2
      have KB := Kept.mk hb
      have KE := Kept.mk hE
      clear hc2 hX hX2 hb hE
      go_wp2_with fail
      refine wp_region_calm Ext 7 ([] :: [] :: [] :: [] :: [(20, 3)] :: [(18, 1), (19, 2), (21, 4)] :: [(17, 0), (22, 5)] :: [])
        ((17, 0) :: (18, 1) :: (19, 2) :: (20, 3) :: (21, 4) :: (22, 5) :: (23, 6) :: [])
        (EqV (.agg (chW c).toArray) :: EqV ?pce1 :: EqV ?pce2 :: EqV ?pce3 :: EqV ?pce4 :: EqV (.string (strOf ((L.drop (64 * k)).take 64))) :: EqV (.agg (chW c2).toArray) :: []) hm (by kernel_rfl) Ext.refl (fun _ _ _ => Ext.trans) Ext.drew
        (MonoL.at (MonoL.eq _ (MonoL.eq _ (MonoL.eq _ (MonoL.eq _ (MonoL.eq _ (MonoL.eq _ (MonoL.eq _ (MonoL.nil))))))))) ?pcalmOps ?pcalmDone
      case pcalmOps =>
        intro vs
        refine (CalmOps.cons ?_ (CalmOps.cons ?_ (CalmOps.cons ?_ (CalmOps.cons ?_ (CalmOps.cons ?_ (CalmOps.cons ?_ (CalmOps.cons ?_ trivial)))))))
        · intro w6 hR hL; simp [Look, VAt, EqV] at hL; simp [Guarded, setAll, bare, hL]; go_wp2_with (refine wpList_load_blk rfl 36 (.tmp 4) rfl g rfl 36 (chW c) (KB.out.ext hR) _ Try.underlying36 rfl (info_size infoR5) ?_); exact CalmPost.mk (by simp) rfl (Ext.refl _)
        · intro w6 hR hL; simp [Look, VAt, EqV] at hL; simp [Guarded, setAll, bare, hL]; go_wp2_with fail; exact CalmPost.mk (by simp; rfl) rfl (Ext.refl _)
        · intro w6 hR hL; simp [Look, VAt, EqV] at hL; simp [Guarded, setAll, bare, hL]; go_wp2_with fail; exact CalmPost.mk (by simp; rfl) rfl (Ext.refl _)
        · intro w6 hR hL; simp [Look, VAt, EqV] at hL; simp [Guarded, setAll, bare, hL]; go_wp2_with fail; exact CalmPost.mk (by simp; rfl) rfl (Ext.refl _)
        · intro w6 hR hL; simp [Look, VAt, EqV] at hL; simp [Guarded, setAll, bare, hL]; go_wp2_with fail; exact CalmPost.mk (by simp; rfl) rfl (Ext.refl _)
        · intro w6 hR hL; simp [Look, VAt, EqV] at hL; simp [Guarded, setAll, bare, hL]; go_wp2_with fail; exact CalmPost.mk (by simp [strOf_extract]) rfl (Ext.refl _)
        · intro w6 hR hL; simp [Look, VAt, EqV] at hL; simp [Guarded, setAll, bare, hL]; go_wp2_with fail; refine (refPress_any c (strOf ((L.drop (64 * k)).take 64)) (by rw [strOf_size, List.length_take]; omega) _).mono ?_; rintro ee ww ⟨rfl, hbb⟩; rw [strOf_list, ← KC2.out, chV_eq]; go_wp2_with fail; exact CalmPost.mk (by simp) rfl hbb
      case pcalmDone =>
        intro vs w6 hR hL; simp [Look, VAt, EqV] at hL; simp [setAll, hL]; clear hL
        go_wp2_with (refine wpList_store_blk rfl 36 (.tmp 4) (.tmp 23) rfl rfl g rfl 36 (chW c) (chW c2) rfl (KB.out.ext hR) rfl (info_size infoR5) (chW_one _) ?_)
        have hb7 := (KB.out.ext hR).row (chW c2)
        have hE7 : Ext w (w6.setRow g (chW c2).toArray) := below_setRow (KE.out.trans hR) hg _
        generalize (w6.setRow g (chW c2).toArray) = w7 at hb7 hE7 ⊢
        have KB7 := Kept.mk hb7
        have KE7 := Kept.mk hE7
        clear hb7 hE7
        go_wp2_with fail
        go_roundg (gk - 1)
        case measure => omega
        case rel => exact ⟨k + 1, c2, by omega, by go_num, KX.out, KB7.out, KE7.out⟩
    · obtain rfl : k = K := by omega
      rw [Nat.sub_self] at hX
      have hX : c = X := hX
      subst hX
      have KB := Kept.mk hb
      have KE := Kept.mk hE
      clear hb hE
      go_wp2_with fail
      obtain ⟨go, rfl⟩ : ∃ n : Nat, n = gk := ⟨_, rfl⟩
      go_loopg [6, 7] 5 (fun r s i wi => ∃ (j : Nat) (A : Option Addr) (cap : Nat), j + r = 5 ∧ i = .int .i64 (j : Int) ∧ s = .slice A (4 * j) cap ∧ Buf wi w.heap.size 5 (.slice A (4 * j) cap) (bytesV (((chL c).take j).flatMap digit4)) ∧ Ext w wi ∧ Blk wi g 36 (chW c) ∧ g ∉ own (.slice A (4 * j) cap))
      case atStart => exact ⟨0, none, 0, rfl, rfl, rfl, Buf.nil _ _ _, KE.out, KB.out, by simp [own]⟩
      case round =>
        clear KB KE
        obtain ⟨j, A, cap, hj, rfl, rfl, hv, hE, hb, hgA⟩ := hrel
        by_cases hlt : j < 5
        · have hjI : (j : Int) < 5 := by omega
          have hc : wr.cell? ⟨g, j, none⟩ = some (.int .u32 ((chL c).getD j 0)) := by
            rw [hb.cell, chW, numsV_at _ _ _ (show j < (chL c).length from hlt)]
          have hnx : ((chL c).take (j + 1)).flatMap digit4 = ((chL c).take j).flatMap digit4 ++ digit4 ((chL c).getD j 0) := by
            rw [List.take_succ_eq_append_getElem (show j < (chL c).length from hlt), List.flatMap_append, List.getD_eq_getElem?_getD, List.getElem?_eq_getElem (show j < (chL c).length from hlt)]
            simp
          have hl4 : (bytesV (((chL c).take j).flatMap digit4)).length = 4 * j := by
            obtain ⟨_, _, he⟩ := hv.form
            injection he with _ h2 _
            exact h2.symm
          have hBw := hE.size
          generalize (chL c).getD j 0 = x at hc hnx
          have KX := Kept.mk hnx
          have KV := Kept.mk hv
          have KE := Kept.mk hE
          have KB := Kept.mk hb
          have KG := Kept.mk hgA
          clear hnx hv hE hb hgA
          go_wp2_with fail
          refine wp_region_calm Ext 21 ([] :: [] :: [(29, 1)] :: [(30, 2)] :: [(31, 3)] :: [(32, 4)] :: [] :: [(34, 6)] :: [(35, 7)] :: [(36, 8)] :: [(37, 9)] :: [] :: [(39, 11)] :: [(40, 12)] :: [(41, 13)] :: [(42, 14)] :: [] :: [(44, 16)] :: [(45, 17)] :: [(46, 18)] :: [(33, 5), (38, 10), (43, 15), (47, 19)] :: [])
            ((28, 0) :: (29, 1) :: (30, 2) :: (31, 3) :: (32, 4) :: (33, 5) :: (34, 6) :: (35, 7) :: (36, 8) :: (37, 9) :: (38, 10) :: (39, 11) :: (40, 12) :: (41, 13) :: (42, 14) :: (43, 15) :: (44, 16) :: (45, 17) :: (46, 18) :: (47, 19) :: (48, 20) :: [])
            (EqV ?qce0 :: EqV ?qce1 :: EqV ?qce2 :: EqV (.int .u32 x) :: EqV ?qce4 :: EqV ?qce5 :: EqV ?qce6 :: EqV ?qce7 :: EqV (.int .u32 x) :: EqV ?qce9 :: EqV ?qce10 :: EqV ?qce11 :: EqV ?qce12 :: EqV (.int .u32 x) :: EqV ?qce14 :: EqV ?qce15 :: EqV ?qce16 :: EqV ?qce17 :: EqV (.int .u32 x) :: EqV ?qce19 :: (fun W u => Buf W wr.heap.size 5 u ([.int .u8 (x / 16777216 % 256), .int .u8 (x / 65536 % 256), .int .u8 (x / 256 % 256), .int .u8 (x % 256)])) :: []) hm (by kernel_rfl) Ext.refl (fun _ _ _ => Ext.trans) Ext.drew
            (MonoL.at (MonoL.eq _ (MonoL.eq _ (MonoL.eq _ (MonoL.eq _ (MonoL.eq _ (MonoL.eq _ (MonoL.eq _ (MonoL.eq _ (MonoL.eq _ (MonoL.eq _ (MonoL.eq _ (MonoL.eq _ (MonoL.eq _ (MonoL.eq _ (MonoL.eq _ (MonoL.eq _ (MonoL.eq _ (MonoL.eq _ (MonoL.eq _ (MonoL.eq _ (MonoL.cons (fun a b u h k => Buf.ext k h) (MonoL.nil))))))))))))))))))))))) ?qcalmOps ?qcalmDone
          case qcalmOps =>
            intro vs
            refine (CalmOps.cons ?_ (CalmOps.cons ?_ (CalmOps.cons ?_ (CalmOps.cons ?_ (CalmOps.cons ?_ (CalmOps.cons ?_ (CalmOps.cons ?_ (CalmOps.cons ?_ (CalmOps.cons ?_ (CalmOps.cons ?_ (CalmOps.cons ?_ (CalmOps.cons ?_ (CalmOps.cons ?_ (CalmOps.cons ?_ (CalmOps.cons ?_ (CalmOps.cons ?_ (CalmOps.cons ?_ (CalmOps.cons ?_ (CalmOps.cons ?_ (CalmOps.cons ?_ (CalmOps.cons ?_ trivial)))))))))))))))))))))
            · intro w6 hR hL; simp [Look, VAt, EqV] at hL; simp [Guarded, setAll, bare, hL]; go_wp2_with fail; exact CalmPost.mk (by simp; rfl) rfl (Ext.refl _)
            · intro w6 hR hL; simp [Look, VAt, EqV] at hL; simp [Guarded, setAll, bare, hL]; go_wp2_with fail; exact CalmPost.mk (by simp; rfl) rfl (Ext.refl _)
            · intro w6 hR hL; simp [Look, VAt, EqV] at hL; simp [Guarded, setAll, bare, hL]; go_wp2_with fail; exact CalmPost.mk (by simp; rfl) rfl (Ext.refl _)
            · intro w6 hR hL; have hc9 := hR.cell hc; simp [Look, VAt, EqV] at hL; simp [Guarded, setAll, bare, hL]; go_wp2_with fail; exact CalmPost.mk (by simp) rfl (Ext.refl _)
            · intro w6 hR hL; simp [Look, VAt, EqV] at hL; simp [Guarded, setAll, bare, hL]; go_wp2_with fail; exact CalmPost.mk (by simp; rfl) rfl (Ext.refl _)
            · intro w6 hR hL; simp [Look, VAt, EqV] at hL; simp [Guarded, setAll, bare, hL]; go_wp2_with fail; exact CalmPost.mk (by simp; rfl) rfl (Ext.refl _)
            · intro w6 hR hL; simp [Look, VAt, EqV] at hL; simp [Guarded, setAll, bare, hL]; go_wp2_with fail; exact CalmPost.mk (by simp; rfl) rfl (Ext.refl _)
            · intro w6 hR hL; simp [Look, VAt, EqV] at hL; simp [Guarded, setAll, bare, hL]; go_wp2_with fail; exact CalmPost.mk (by simp; rfl) rfl (Ext.refl _)
            · intro w6 hR hL; have hc9 := hR.cell hc; simp [Look, VAt, EqV] at hL; simp [Guarded, setAll, bare, hL]; go_wp2_with fail; exact CalmPost.mk (by simp) rfl (Ext.refl _)
            · intro w6 hR hL; simp [Look, VAt, EqV] at hL; simp [Guarded, setAll, bare, hL]; go_wp2_with fail; exact CalmPost.mk (by simp; rfl) rfl (Ext.refl _)
            · intro w6 hR hL; simp [Look, VAt, EqV] at hL; simp [Guarded, setAll, bare, hL]; go_wp2_with fail; exact CalmPost.mk (by simp; rfl) rfl (Ext.refl _)
            · intro w6 hR hL; simp [Look, VAt, EqV] at hL; simp [Guarded, setAll, bare, hL]; go_wp2_with fail; exact CalmPost.mk (by simp; rfl) rfl (Ext.refl _)
            · intro w6 hR hL; simp [Look, VAt, EqV] at hL; simp [Guarded, setAll, bare, hL]; go_wp2_with fail; exact CalmPost.mk (by simp; rfl) rfl (Ext.refl _)
            · intro w6 hR hL; have hc9 := hR.cell hc; simp [Look, VAt, EqV] at hL; simp [Guarded, setAll, bare, hL]; go_wp2_with fail; exact CalmPost.mk (by simp) rfl (Ext.refl _)
            · intro w6 hR hL; simp [Look, VAt, EqV] at hL; simp [Guarded, setAll, bare, hL]; go_wp2_with fail; exact CalmPost.mk (by simp; rfl) rfl (Ext.refl _)
            · intro w6 hR hL; simp [Look, VAt, EqV] at hL; simp [Guarded, setAll, bare, hL]; go_wp2_with fail; exact CalmPost.mk (by simp; rfl) rfl (Ext.refl _)
            · intro w6 hR hL; simp [Look, VAt, EqV] at hL; simp [Guarded, setAll, bare, hL]; go_wp2_with fail; exact CalmPost.mk (by simp; rfl) rfl (Ext.refl _)
            · intro w6 hR hL; simp [Look, VAt, EqV] at hL; simp [Guarded, setAll, bare, hL]; go_wp2_with fail; exact CalmPost.mk (by simp; rfl) rfl (Ext.refl _)
            · intro w6 hR hL; have hc9 := hR.cell hc; simp [Look, VAt, EqV] at hL; simp [Guarded, setAll, bare, hL]; go_wp2_with fail; exact CalmPost.mk (by simp) rfl (Ext.refl _)
            · intro w6 hR hL; simp [Look, VAt, EqV] at hL; simp [Guarded, setAll, bare, hL]; go_wp2_with fail; exact CalmPost.mk (by simp; rfl) rfl (Ext.refl _)
            · intro w6 hR hL; simp [Look, VAt, EqV] at hL; simp [Guarded, setAll, bare, hL]; go_wp2_with fail; exact CalmPost.mk (by simp) (Buf.lit w6 5 wr.heap.size hR.size ([.int .u8 (x / 16777216 % 256), .int .u8 (x / 65536 % 256), .int .u8 (x / 256 % 256), .int .u8 (x % 256)]) (by simp [maxLen])) (Ext.alloc _ _)
          case qcalmDone =>
            intro vs w6 hR hL; simp [Look, VAt, EqV] at hL
            have hB := hL.2.2.2.2.2.2.2.2.2.2.2.2.2.2.2.2.2.2.2.2
            simp [setAll, hL]; clear hL
            obtain ⟨A9, cap9, h9⟩ := hB.form
            rw [h9] at hB ⊢
            simp only [List.length_cons, List.length_nil, Nat.zero_add, Nat.reduceAdd] at hB ⊢
            go_wp2_with (refine wpList_append_buf (P := Try.prog) _ rfl (.tmp 28) (.tmp 48) 34 34 rfl 5 iB (.int .u8 0) Try.underlying34 hiB hzB hsB rfl w.heap.size (.slice A (4 * j) cap) (bytesV (((chL c).take j).flatMap digit4)) rfl (KV.out.ext hR) (.slice A9 4 cap9) 4 _ rfl (Buf.src _ hB Try.underlying34 (by simp [Value.oneCell'])) (Nat.le_trans hBw hR.size) (by rw [hl4]; simp only [maxLen]; omega) (by rw [hl4, hbB]; omega) ?_)
            intro v' w' hv' ht' ho'
            have ho' : ∀ j' ∈ own v', j' ∈ own (.slice A (4 * j) cap) ∨ wr.heap.size ≤ j' := fun j' hj' => by
              rcases ho' with h | h
              · rw [h] at hj'; exact .inl hj'
              · rw [h, List.mem_singleton] at hj'; subst hj'; exact .inr hR.size
            rw [← digit4V, ← bytesV_append, ← KX.out] at hv'
            have hE' : Ext w w' := Touch.below (KE.out.trans hR) ht' (fun j hj => (KV.out.owns j hj).1) (Nat.le_trans hBw hR.size)
            have hb' : Blk w' g 36 (chW c) := (KB.out.ext hR).touch ht' KG.out
            have hg' : g ∉ own v' := fun h => by
              rcases ho' g h with h1 | h1
              · exact KG.out h1
              · have := KB.out.lt
                have h1 : wr.heap.size ≤ g := h1
                omega
            obtain ⟨A', cap', rfl⟩ := hv'.form
            have hl5 : (bytesV (((chL c).take (j + 1)).flatMap digit4)).length = 4 * (j + 1) := by rw [KX.out, bytesV_append, digit4V, List.length_append, hl4]; rfl
            rw [hl5] at hv' hg' ⊢
            have KV := Kept.mk hv'
            have KE := Kept.mk hE'
            have KB := Kept.mk hb'
            have KG := Kept.mk hg'
            clear hv' hE' ht' ho' hl5 hb' hg'
            go_wp2_with fail
            go_roundg (gk - 1)
            case measure => omega
            case rel => exact ⟨j + 1, A', cap', by omega, by go_num, rfl, KV.out, KE.out, KB.out, KG.out⟩
        · obtain rfl : j = 5 := by omega
          have hv : Buf wr w.heap.size 5 (.slice A (4 * 5) cap) (bytesV (digestC c)) := hv
          have kc2 : (convert 34 9 (.slice A 20 cap)).run Try.prog wr = .ok (.string (strOf (digestC c))) wr := conv_buf wr _ _ _ Try.underlying34 Try.underlying5 Try.underlying9 _ hv
          have KE := Kept.mk hE
          clear hv hE hb hgA
          go_wp2_with fail
          go_ret
          rw [← KDD.out, KD.out]
          exact ⟨rfl, KE.out⟩
end Sha1
end Go.Proofs.Ythkckmohhbddcaa
