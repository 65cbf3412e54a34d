/- The walk of Digits. No condition. -/
import Derived.Test.YtjfacolnlbfpmaaSha2Abc
namespace Go.Proofs.Ytjfacolnlbfpmaa
open Go.RowKit
namespace Sha2

set_option linter.unusedSimpArgs false
set_option linter.unusedVariables false
set_option maxRecDepth 100000 in
set_option maxHeartbeats 2000000 in
theorem digit_any (x : Int) (h0 : 0 ≤ x) (h1 : x < 16) (w : World) : Calls Try.prog 18 #[.int .u8 x] w (IntIs .u8 w (hexD x)) := by
  by_cases hlt : x < 10
  · have hx : hexD x = 48 + x := by rw [hexD, if_pos hlt]
    have h2 : (48 + x) % 256 = 48 + x := by omega
    rw [hx]
    go_enter Try.func18, Try.ntmps18
    go_wp2_with fail
    go_ret
    exact ⟨rfl, rfl⟩
  · have hx : hexD x = 87 + x := by rw [hexD, if_neg hlt]
    have h2 : (87 + x) % 256 = 87 + x := by omega
    rw [hx]
    go_enter Try.func18, Try.ntmps18
    go_wp2_with fail
    go_ret
    exact ⟨rfl, rfl⟩
theorem hexV (b : UInt8) : bytesV (hexB b) = [.int .u8 (hexD ((b.toNat : Int) / 16)), .int .u8 (hexD ((b.toNat : Int) % 16))] := by
  have h : ∀ y : Int, 0 ≤ y → y < 16 → ((UInt8.ofNat (hexD y).toNat).toNat : Int) = hexD y := fun y h0 h1 => by
    unfold hexD
    split <;> simp <;> omega
  have hb : b.toNat < 256 := b.toNat_lt
  simp [bytesV, numsV, nb, hexB, -UInt8.toNat_ofNat', h ((b.toNat : Int) / 16) (by omega) (by omega), h ((b.toNat : Int) % 16) (by omega) (by omega)]

set_option maxRecDepth 100000 in
set_option maxHeartbeats 2000000 in
theorem digits_any (s : ByteArray) (hs : s.size ≤ 400000000) (w : World) : Calls Try.prog 13 #[.string s] w (StrIs w (hexL s.data.toList)) := by
  have hm : Try.prog.follows .mixedOrders = true := by kernel_rfl
  obtain ⟨iB, hiB, hzB, hsB, hbB⟩ := infoB
  go_enter Try.func13, Try.ntmps13
  go_wp2_with fail
  go_loopg [3, 4] s.size (fun r s3 i wi => ∃ (j : Nat) (A : Option Addr) (cap : Nat), j + r = s.size ∧ i = .int .i64 (j : Int) ∧ s3 = .slice A (2 * j) cap ∧ Buf wi w.heap.size 5 (.slice A (2 * j) cap) (bytesV (hexL (s.data.toList.take j))) ∧ Ext w wi)
  case atStart => exact ⟨0, none, 0, by omega, rfl, rfl, Buf.nil _ _ _, Ext.refl _⟩
  case round =>
    obtain ⟨j, A, cap, hj, rfl, rfl, hv, hE⟩ := hrel
    have hl4 : (bytesV (hexL (s.data.toList.take j))).length = 2 * j := by
      obtain ⟨_, _, he⟩ := hv.form
      injection he with _ h2 _
      exact h2.symm
    by_cases hlt : j < s.size
    · have hjI : (j : Int) < s.size := by omega
      have hlt' : j < s.data.toList.length := by simpa using hlt
      have hnx : hexL (s.data.toList.take (j + 1)) = hexL (s.data.toList.take j) ++ hexB (s.data.toList[j]) := by
        rw [hexL, hexL, List.take_succ_eq_append_getElem hlt', List.flatMap_append]; simp
      have hby : ((s[j].toNat : Nat) : Int) = ((s.data.toList[j]).toNat : Int) := by simp; rfl
      have hbr : (s.data.toList[j]).toNat < 256 := (s.data.toList[j]).toNat_lt
      have hV := hexV (s.data.toList[j])
      have hBw := hE.size
      have KX := Kept.mk hnx
      have KV := Kept.mk hv
      have KE := Kept.mk hE
      clear hnx hv hE
      generalize s.data.toList[j] = bb at KX hby hbr hV
      obtain ⟨b, hbe⟩ : ∃ b : Int, b = (bb.toNat : Int) := ⟨_, rfl⟩
      rw [← hbe] at hby hV
      have hb0 : 0 ≤ b := by omega
      have hb1 : b < 256 := by omega
      have KW := Kept.mk hV
      clear hbe hV hbr
      go_wp2_with fail
      refine wp_region_calm Ext 12 ([] :: [] :: [] :: [(12, 1), (13, 2)] :: [(14, 3)] :: [(15, 4)] :: [] :: [] :: [(17, 6), (18, 7)] :: [(19, 8)] :: [(20, 9)] :: [(16, 5), (21, 10)] :: [])
          ((11, 0) :: (12, 1) :: (13, 2) :: (14, 3) :: (15, 4) :: (16, 5) :: (17, 6) :: (18, 7) :: (19, 8) :: (20, 9) :: (21, 10) :: (22, 11) :: [])
          (EqV ?qce0 :: EqV ?qce1 :: EqV ?qce2 :: EqV (.int .u8 b) :: EqV (.int .u8 (b / 16)) :: EqV (.int .u8 (hexD (b / 16))) :: EqV ?qce6 :: EqV ?qce7 :: EqV (.int .u8 b) :: EqV (.int .u8 (b % 16)) :: EqV (.int .u8 (hexD (b % 16))) :: (fun W u => Buf W wr.heap.size 5 u ([.int .u8 (hexD (b / 16)), .int .u8 (hexD (b % 16))])) :: []) hm (by kernel_rfl) Ext.refl (fun _ _ _ => Ext.trans) Ext.drew
          (MonoL.at (MonoL.eq _ (MonoL.eq _ (MonoL.eq _ (MonoL.eq _ (MonoL.eq _ (MonoL.eq _ (MonoL.eq _ (MonoL.eq _ (MonoL.eq _ (MonoL.eq _ (MonoL.eq _ (MonoL.cons (fun a b u h k => Buf.ext k h) (MonoL.nil)))))))))))))) ?qcalmOps ?qcalmDone
      case qcalmOps =>
          intro vs
          refine (CalmOps.cons ?_ (CalmOps.cons ?_ (CalmOps.cons ?_ (CalmOps.cons ?_ (CalmOps.cons ?_ (CalmOps.cons ?_ (CalmOps.cons ?_ (CalmOps.cons ?_ (CalmOps.cons ?_ (CalmOps.cons ?_ (CalmOps.cons ?_ (CalmOps.cons ?_ trivial))))))))))))
          · intro w6 hR hL; simp [Look, VAt, EqV] at hL; simp [Guarded, setAll, bare, hL]; go_wp2_with fail; exact CalmPost.mk (by simp; rfl) rfl (Ext.refl _)
          · intro w6 hR hL; simp [Look, VAt, EqV] at hL; simp [Guarded, setAll, bare, hL]; go_wp2_with fail; exact CalmPost.mk (by simp; rfl) rfl (Ext.refl _)
          · intro w6 hR hL; simp [Look, VAt, EqV] at hL; simp [Guarded, setAll, bare, hL]; go_wp2_with fail; exact CalmPost.mk (by simp; rfl) rfl (Ext.refl _)
          · intro w6 hR hL; simp [Look, VAt, EqV] at hL; simp [Guarded, setAll, bare, hL]; go_wp2_with fail; exact CalmPost.mk (by simp) rfl (Ext.refl _)
          · intro w6 hR hL; simp [Look, VAt, EqV] at hL; simp [Guarded, setAll, bare, hL]; go_wp2_with fail; exact CalmPost.mk (by simp) rfl (Ext.refl _)
          · intro w6 hR hL; simp [Look, VAt, EqV] at hL; simp [Guarded, setAll, bare, hL]; go_wp2_with fail; refine (digit_any (b / 16) (by omega) (by omega) _).mono ?_; rintro ee ww ⟨rfl, rfl⟩; go_wp2_with fail; exact CalmPost.mk (by simp) rfl (Ext.refl _)
          · intro w6 hR hL; simp [Look, VAt, EqV] at hL; simp [Guarded, setAll, bare, hL]; go_wp2_with fail; exact CalmPost.mk (by simp; rfl) rfl (Ext.refl _)
          · intro w6 hR hL; simp [Look, VAt, EqV] at hL; simp [Guarded, setAll, bare, hL]; go_wp2_with fail; exact CalmPost.mk (by simp; rfl) rfl (Ext.refl _)
          · intro w6 hR hL; simp [Look, VAt, EqV] at hL; simp [Guarded, setAll, bare, hL]; go_wp2_with fail; exact CalmPost.mk (by simp) rfl (Ext.refl _)
          · intro w6 hR hL; simp [Look, VAt, EqV] at hL; simp [Guarded, setAll, bare, hL]; go_wp2_with fail; exact CalmPost.mk (by simp) rfl (Ext.refl _)
          · intro w6 hR hL; simp [Look, VAt, EqV] at hL; simp [Guarded, setAll, bare, hL]; go_wp2_with fail; refine (digit_any (b % 16) (by omega) (by omega) _).mono ?_; rintro ee ww ⟨rfl, rfl⟩; go_wp2_with fail; exact CalmPost.mk (by simp) rfl (Ext.refl _)
          · intro w6 hR hL; simp [Look, VAt, EqV] at hL; simp [Guarded, setAll, bare, hL]; go_wp2_with fail; exact CalmPost.mk (by simp) (Buf.lit w6 5 wr.heap.size hR.size ([.int .u8 (hexD (b / 16)), .int .u8 (hexD (b % 16))]) (by simp [maxLen])) (Ext.alloc _ _)
      case qcalmDone =>
            intro vs w6 hR hL; simp [Look, VAt, EqV] at hL
            have hB := hL.2.2.2.2.2.2.2.2.2.2.2
            simp [setAll, hL]; clear hL
            obtain ⟨A9, cap9, h9⟩ := hB.form
            rw [h9] at hB ⊢
            simp only [List.length_cons, List.length_nil, Nat.zero_add, Nat.reduceAdd] at hB ⊢
            go_wp2_with (refine wpList_append_buf (P := Try.prog) _ rfl (.tmp 11) (.tmp 22) 39 39 rfl 5 iB (.int .u8 0) Try.underlying39 hiB hzB hsB rfl w.heap.size (.slice A (2 * j) cap) (bytesV (hexL (s.data.toList.take j))) rfl (KV.out.ext hR) (.slice A9 2 cap9) 2 _ rfl (Buf.src _ hB Try.underlying39 (by simp [Value.oneCell'])) (Nat.le_trans hBw hR.size) (by rw [hl4]; simp only [maxLen]; omega) (by rw [hl4, hbB]; omega) ?_)
            intro v' w' hv' ht' ho'
            rw [← KW.out, ← bytesV_append, ← KX.out] at hv'
            have hE' : Ext w w' := Touch.below (KE.out.trans hR) ht' (fun j hj => (KV.out.owns j hj).1) (Nat.le_trans hBw hR.size)
            obtain ⟨A', cap', rfl⟩ := hv'.form
            have hl5 : (bytesV (hexL (s.data.toList.take (j + 1)))).length = 2 * (j + 1) := by rw [KX.out, bytesV_append, KW.out, List.length_append, hl4]; rfl
            rw [hl5] at hv' ⊢
            have KV := Kept.mk hv'
            have KE := Kept.mk hE'
            clear hv' hE' ht' ho' hl5
            go_wp2_with fail
            go_roundg (gk - 1)
            case measure => omega
            case rel => exact ⟨j + 1, A', cap', by omega, by go_num, rfl, KV.out, KE.out⟩
    · obtain rfl : j = s.size := by omega
      rw [List.take_of_length_le (by simp)] at hv
      have kc2 : (convert 39 9 (.slice A (2 * s.size) cap)).run Try.prog wr = .ok (.string (strOf (hexL s.data.toList))) wr := conv_buf wr _ _ _ Try.underlying39 Try.underlying5 Try.underlying9 _ hv
      have KE := Kept.mk hE
      clear hv hE
      go_wp2_with fail
      go_ret
      exact ⟨rfl, KE.out⟩
end Sha2
end Go.Proofs.Ytjfacolnlbfpmaa
