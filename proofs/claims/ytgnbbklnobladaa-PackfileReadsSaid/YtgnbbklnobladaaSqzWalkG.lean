/- The walk of squeeze's Press. No condition. -/
import Derived.Test.YtgnbbklnobladaaSqzMap
namespace Go.Proofs.Ytgnbbklnobladaa
open Go.RowKit Go.Maps
namespace Sqz
open Delta (TextE infoB wraps_i64 AppE AppE.mk)
set_option linter.unusedSimpArgs false
set_option linter.unusedVariables false
theorem lit_inj {a b : Int} (h : (DataW.lit (Lit.int .i64 a) : DataW Unit) = .lit (.int .i64 b)) : a = b := by cases h; rfl
def PressE (s : List UInt8) (w : World) (e : Ending) (w1 : World) : Prop :=
  ∃ q : List UInt8, e = .returned (.string (strOf q)) ∧ Ext w w1 ∧ q.length ≤ s.length + 1 ∧ (q = 0 :: s ∨ ∃ T, q = 1 :: T ∧ Leads [] T s)
set_option maxRecDepth 100000 in
set_option maxHeartbeats 4000000 in
theorem press_any (s : List UInt8) (hs : s.length ≤ 100000) (w : World) : Calls Try.prog 29 #[.string (strOf s)] w (PressE s w) := by
  have hm : Try.prog.follows .mixedOrders = true := by kernel_rfl
  obtain ⟨iB, hiB, hzB, hsB, hbB⟩ := infoB
  have hsz := strOf_size s
  have hmm := @run_makeMap Try.prog
  go_enter Try.func29, Try.ntmps29
  go_wp2_with fail
  go_loopg [4, 5, 6] s.length (fun r o fv iv wi => ∃ (i fr : Nat) (T : List UInt8) (A : Option Addr) (cap : Nat) (D : DataW Unit), i + r = s.length ∧ fr ≤ i ∧ o = .slice A (T.length + 1) cap ∧ fv = .int .i64 (fr : Int) ∧ iv = .int .i64 (i : Int) ∧ Leads [] T (s.take fr) ∧ T.length ≤ 2 * fr ∧ Good s i D ∧ wi.ownsMap Try.prog 82 (plainElem Try.prog 3) w.heap.size i D ∧ Buf wi (w.heap.size + 1) 5 (.slice A (T.length + 1) cap) (bytesV (1 :: T)) ∧ Ext w wi)
  case atStart =>
    refine ⟨0, 0, [], _, _, .map [], by omega, Nat.le_refl _, rfl, rfl, rfl, .nil _, Nat.zero_le _, Good.empty s 0, (World.ownsMap_made w _ _ _).alloc _, ?_, (Ext.alloc _ _).trans (Ext.alloc _ _)⟩
    have := Buf.lit (w.alloc (.map #[] 0)) 5 (w.heap.size + 1) (by simp) [.int .u8 1] (by simp [maxLen])
    have e : bytesV [1] = [.int .u8 1] := rfl
    rw [e]
    simpa using this
  case round =>
    obtain ⟨i, fr, T, A, cap, D, hr, hfr, rfl, rfl, rfl, hLd, hTl, hG, hown, hV, hE⟩ := hrel
    have hww := hE.size
    have hgl := hown.lt
    have KLd := Kept.mk hLd
    have KG := Kept.mk hG
    have KO := Kept.mk hown
    have KV := Kept.mk hV
    have KE := Kept.mk hE
    have Kr := Kept.mk hr
    have hib : i ≤ s.length := by omega
    clear hLd hG hown hV hE hr
    by_cases hlt : i + 4 ≤ s.length
    · have hltI : (i : Int) + 4 ≤ (s.length : Int) := by omega
      go_wp2_with fail
      refine (at_any s (by omega) i hlt _).mono ?_
      rintro e w1 ⟨rfl, h1⟩
      obtain ⟨kl, hkey⟩ := key_at s i
      have KKe := Kept.mk hkey
      have hK : keyOf Try.prog 82 (.agg (bytesV (fourL s i)).toArray) = some kl := hkey
      have hk1 : (bytesV (fourL s i)).all (·.oneCell') = true := List.all_eq_true.2 (fun u hu => bytesV_one _ u hu)
      have hkl : (bytesV (fourL s i)).length = 4 := by rw [bytesV_length]; rfl
      generalize bytesV (fourL s i) = kv at hK hk1 hkl ⊢
      have KK := Kept.mk hK
      have Kk1 := Kept.mk hk1
      clear hkey hK hk1
      have hO1 := ownsMap_block KO.out (h1.block _ hgl)
      have hV1 := KV.out.ext h1
      have hE1 := KE.out.trans h1
      have KO := Kept.mk hO1
      have KV := Kept.mk hV1
      have KE := Kept.mk hE1
      clear hO1 hV1 hE1 h1
      obtain ⟨c0, -, hat0, -⟩ := KO.out.lookup_int law46 Try.underlying80 Try.underlying3 (zero3 _) KK.out
      have hww1 := KE.out.size
      have KD := Kept.mk KO.out.isMap
      cases hh : Maps.has D kl with
      | false =>
        have Khat := Kept.mk hat0
        clear hat0
        go_wp2_with (first | (refine wpList_store_new rfl 82 (.tmp 7) (.tmp 20) rfl rfl rfl 82 [.int .u8 0, .int .u8 0, .int .u8 0, .int .u8 0] kv rfl hkl.symm (by rw [hkl]; exact info_size info4) Kk1.out ?_) | (refine wpList_load_blk rfl 82 (.tmp 7) rfl w1.heap.size rfl 82 kv (Blk.new _ _ _) _ Try.underlying82 rfl (by rw [hkl]; exact info_size info4) ?_) | (at_lookup; refine wpList_lookup_own_ok_int _ rfl _ _ 80 rfl 82 3 .i64 law46 Try.underlying80 Try.underlying3 (zero3 _) w.heap.size i D rfl (KO.out.alloc _) _ kl rfl KK.out ?_; intro c hat hwc; rw [hh]; obtain rfl : c = c0 := lit_inj (hat.symm.trans Khat.out); clear hat hwc) | (at_mapUpdate; refine wpList_mapUpdate_own _ rfl _ _ _ 80 rfl 82 3 law46 Try.underlying80 _ w.heap.size i D rfl (KO.out.alloc _) (by unfold maxLen; omega) _ _ kl rfl rfl KK.out _ [] (plainElem_int Try.underlying3 (WalkArith.wf_i64 (by omega))) ?_))
        intro w2 hown2 hgrow2
        have hV2 := (KV.out.ext (Ext.alloc w1 (.cells kv.toArray 82))).touch (touch_grown hgrow2) (fun j hj => by have := (KV.out.owns j hj).1; simp; omega)
        have hE2 := (KE.out.trans (Ext.alloc w1 (.cells kv.toArray 82))).grown hgrow2 (by first | (simp; done) | (simp; omega)) (fun k e => by cases e; exact Nat.le_refl _)
        have KO2 := Kept.mk hown2
        have KV2 := Kept.mk hV2
        have KE2 := Kept.mk hE2
        clear hown2 hgrow2 hV2 hE2
        go_wp2_with fail
        go_roundg (gk - 1)
        case measure => have := Kr.out; omega
        case rel => exact ⟨i + 1, fr, T, A, cap, _, by have := Kr.out; omega, by omega, rfl, rfl, rfl, KLd.out, hTl, KG.out.put KO.out.isMap hlt KKe.out (by omega), KO2.out, KV2.out, KE2.out⟩
      | true =>
        obtain ⟨p, hcp, hpi, hp4, hkp⟩ := KG.out kl c0 hh hat0
        subst hcp
        have Khat := Kept.mk hat0
        have Kkp := Kept.mk hkp
        clear hat0 hkp
        by_cases hd : i - p > 65535
        · have hdI : (i : Int) - (p : Int) > 65535 := by omega
          go_wp2_with (first | (refine wpList_store_new rfl 82 (.tmp 7) (.tmp 20) rfl rfl rfl 82 [.int .u8 0, .int .u8 0, .int .u8 0, .int .u8 0] kv rfl hkl.symm (by rw [hkl]; exact info_size info4) Kk1.out ?_) | (refine wpList_load_blk rfl 82 (.tmp 7) rfl w1.heap.size rfl 82 kv (Blk.new _ _ _) _ Try.underlying82 rfl (by rw [hkl]; exact info_size info4) ?_) | (at_lookup; refine wpList_lookup_own_ok_int _ rfl _ _ 80 rfl 82 3 .i64 law46 Try.underlying80 Try.underlying3 (zero3 _) w.heap.size i D rfl (KO.out.alloc _) _ kl rfl KK.out ?_; intro c hat hwc; rw [hh]; obtain rfl : c = (p : Int) := lit_inj (hat.symm.trans Khat.out); clear hat hwc) | (at_mapUpdate; refine wpList_mapUpdate_own _ rfl _ _ _ 80 rfl 82 3 law46 Try.underlying80 _ w.heap.size i D rfl (KO.out.alloc _) (by unfold maxLen; omega) _ _ kl rfl rfl KK.out _ [] (plainElem_int Try.underlying3 (WalkArith.wf_i64 (by omega))) ?_))
          intro w2 hown2 hgrow2
          have hV2 := (KV.out.ext (Ext.alloc w1 (.cells kv.toArray 82))).touch (touch_grown hgrow2) (fun j hj => by have := (KV.out.owns j hj).1; simp; omega)
          have hE2 := (KE.out.trans (Ext.alloc w1 (.cells kv.toArray 82))).grown hgrow2 (by first | (simp; done) | (simp; omega)) (fun k e => by cases e; exact Nat.le_refl _)
          have KO2 := Kept.mk hown2
          have KV2 := Kept.mk hV2
          have KE2 := Kept.mk hE2
          clear hown2 hgrow2 hV2 hE2
          go_wp2_with fail
          go_roundg (gk - 1)
          case measure => have := Kr.out; omega
          case rel => exact ⟨i + 1, fr, T, A, cap, _, by have := Kr.out; omega, by omega, rfl, rfl, rfl, KLd.out, hTl, KG.out.put KO.out.isMap hlt KKe.out (by omega), KO2.out, KV2.out, KE2.out⟩
        · have hdI : ¬ (i : Int) - (p : Int) > 65535 := by omega
          go_wp2_with (first | (refine wpList_store_new rfl 82 (.tmp 7) (.tmp 20) rfl rfl rfl 82 [.int .u8 0, .int .u8 0, .int .u8 0, .int .u8 0] kv rfl hkl.symm (by rw [hkl]; exact info_size info4) Kk1.out ?_) | (refine wpList_load_blk rfl 82 (.tmp 7) rfl w1.heap.size rfl 82 kv (Blk.new _ _ _) _ Try.underlying82 rfl (by rw [hkl]; exact info_size info4) ?_) | (at_lookup; refine wpList_lookup_own_ok_int _ rfl _ _ 80 rfl 82 3 .i64 law46 Try.underlying80 Try.underlying3 (zero3 _) w.heap.size i D rfl (KO.out.alloc _) _ kl rfl KK.out ?_; intro c hat hwc; rw [hh]; obtain rfl : c = (p : Int) := lit_inj (hat.symm.trans Khat.out); clear hat hwc) | (at_mapUpdate; refine wpList_mapUpdate_own _ rfl _ _ _ 80 rfl 82 3 law46 Try.underlying80 _ w.heap.size i D rfl (KO.out.alloc _) (by unfold maxLen; omega) _ _ kl rfl rfl KK.out _ [] (plainElem_int Try.underlying3 (WalkArith.wf_i64 (by omega))) ?_))
          intro w2 hown2 hgrow2
          have hV2 := (KV.out.ext (Ext.alloc w1 (.cells kv.toArray 82))).touch (touch_grown hgrow2) (fun j hj => by have := (KV.out.owns j hj).1; simp; omega)
          have hE2 := (KE.out.trans (Ext.alloc w1 (.cells kv.toArray 82))).grown hgrow2 (by first | (simp; done) | (simp; omega)) (fun k e => by cases e; exact Nat.le_refl _)
          have KO2 := Kept.mk hown2
          have KV2 := Kept.mk hV2
          have KE2 := Kept.mk hE2
          clear hown2 hgrow2 hV2 hE2
          go_wp2_with fail
          refine (run_any s (by omega) p i hpi hib _).mono ?_
          rintro e w3 ⟨n, rfl, hn1, hn2, hal, hmax, h3⟩
          have hn4 : 4 ≤ n := by
            rcases Nat.lt_or_ge n 4 with h | h
            · exact absurd (key_same Kkp.out KKe.out n h) (hmax (by omega) (by omega))
            · exact h
          have hO3 := ownsMap_block KO2.out (h3.block _ KO2.out.lt)
          have hV3 := KV2.out.ext h3
          have hE3 : Ext w w3 := Ext.trans KE2.out h3
          have hww3 := hE3.size
          have hgl3 := hO3.lt
          have KO3 := Kept.mk hO3
          have KV3 := Kept.mk hV3
          have KE3 := Kept.mk hE3
          have Kal := Kept.mk hal
          clear hO3 hV3 hE3 h3 hal hmax KO2 KV2 KE2 KO KV KE
          have hx : (strOf s).extract fr i = strOf ((s.drop fr).take (i - fr)) := by rw [strOf_extract]
          have hsl : ((s.drop fr).take (i - fr)).length = i - fr := by rw [List.length_take, List.length_drop]; omega
          have Kst := Kept.mk (show s.take fr ++ (s.drop fr).take (i - fr) = s.take i by
            rw [← List.take_add]; congr 1; omega)
          generalize (s.drop fr).take (i - fr) = seg at hx hsl Kst
          have hfrI : (fr : Int) ≤ (i : Int) := by omega
          have hibI : (i : Int) ≤ (s.length : Int) := by omega
          have Ksl := Kept.mk hsl
          clear hsl
          go_wp2_with fail
          refine (plain_any (w.heap.size + 1) A cap (1 :: T) seg (by simp; omega) (by have := Ksl.out; omega) _ (by omega) KV3.out).mono ?_
          rintro e w4 ⟨T2, hLd2, hT2, A4, cap4, rfl, hV4, ht4, ho4⟩
          have hO4 := ownsMap_block KO3.out (ht4.block _ hgl3 (fun hj => by have := (KV3.out.owns _ hj).1; omega))
          have hE4 : Ext w w4 := Touch.below KE3.out ht4 (fun j hj => by have := (KV3.out.owns j hj).1; omega) hww3
          have hl4 : (1 :: T ++ T2).length = (T ++ T2).length + 1 := rfl
          have hcat : 1 :: T ++ T2 = 1 :: (T ++ T2) := rfl
          have KLd4 := Kept.mk (show Leads [] (T ++ T2) (s.take i) by
            have h := KLd.out.trans (hLd2 _)
            rwa [Kst.out] at h)
          have hTl4 : (T ++ T2).length ≤ 2 * i := by rw [List.length_append]; have := Ksl.out; omega
          rw [hl4] at hV4 ⊢
          rw [hcat] at hV4
          generalize T ++ T2 = T3 at hV4 KLd4 hTl4 ⊢
          have hww4 := hE4.size
          have KO4 := Kept.mk hO4
          have KV4 := Kept.mk hV4
          have KE4 := Kept.mk hE4
          have hll4 : (bytesV (1 :: T3)).length = T3.length + 1 := by rw [bytesV_length]; rfl
          clear hO4 hE4 hV4 ht4 ho4 hl4 hcat KO3 KV3 KE3 hLd2 hT2 hx hww3 hgl3
          have hBw4 : w.heap.size + 1 ≤ w4.heap.size := KO4.out.lt
          go_wp2_with (refine wpList_append_lit (P := Try.prog) w4 rfl (.tmp 50) (.tmp 64) 54 rfl 5 iB (.int .u8 0) Try.underlying54 hiB hzB hsB rfl (w.heap.size + 1) (.slice A4 (T3.length + 1) cap4) (bytesV (1 :: T3)) rfl KV4.out [.int .u8 _, .int .u8 _, .int .u8 _] 3 rfl rfl (by simp [Value.oneCell']) hBw4 (by rw [hll4]; simp only [maxLen]; omega) (by rw [hll4, hbB]; omega) ?_)
          intro v5 w5 hv5 ht5 ho5
          have hO5 := ownsMap_block KO4.out (ht5.block _ KO4.out.lt (fun hj => by have := (KV4.out.owns _ hj).1; omega))
          have hE5 : Ext w w5 := Touch.below KE4.out ht5 (fun j hj => by have := (KV4.out.owns j hj).1; omega) hww4
          have KLd5 := Kept.mk (leads_far KLd4.out hpi (by omega) hn4 hn1 hn2 Kal.out)
          have hb3 : bytesV (1 :: T3) ++ [.int .u8 ((n : Int) - 4 + 128), .int .u8 (((i : Int) - (p : Int)) / 256), .int .u8 (((i : Int) - (p : Int)) % 256)] = bytesV (1 :: (T3 ++ [UInt8.ofNat (n + 124), UInt8.ofNat ((i - p) / 256), UInt8.ofNat ((i - p) % 256)])) := by
            rw [show 1 :: (T3 ++ [UInt8.ofNat (n + 124), UInt8.ofNat ((i - p) / 256), UInt8.ofNat ((i - p) % 256)]) = (1 :: T3) ++ [UInt8.ofNat (n + 124), UInt8.ofNat ((i - p) / 256), UInt8.ofNat ((i - p) % 256)] from rfl, bytesV_append]
            congr 1
            have e1 : (n : Int) - 4 + 128 = ((n + 124 : Nat) : Int) := by omega
            have e2 : ((i : Int) - (p : Int)) / 256 = (((i - p) / 256 : Nat) : Int) := by omega
            have e3 : ((i : Int) - (p : Int)) % 256 = (((i - p) % 256 : Nat) : Int) := by omega
            simp only [bytesV, numsV, nb, List.map_cons, List.map_nil]
            rw [ofNat_toNat _ (by omega), ofNat_toNat _ (by omega), ofNat_toNat _ (by omega), e1, e2, e3]
          rw [hb3] at hv5
          have hT5 : (T3 ++ [UInt8.ofNat (n + 124), UInt8.ofNat ((i - p) / 256), UInt8.ofNat ((i - p) % 256)]).length = T3.length + 3 := by simp
          generalize T3 ++ [UInt8.ofNat (n + 124), UInt8.ofNat ((i - p) / 256), UInt8.ofNat ((i - p) % 256)] = T5 at hv5 KLd5 hT5
          obtain ⟨A5, cap5, rfl⟩ := hv5.form
          have hl5 : (bytesV (1 :: T5)).length = T5.length + 1 := by rw [bytesV_length]; rfl
          rw [hl5] at hv5 ⊢
          have hT5b : T5.length ≤ 2 * (i + n) := by omega
          have KO5 := Kept.mk hO5
          have KV5 := Kept.mk hv5
          have KE5 := Kept.mk hE5
          clear hO5 hv5 hE5 ht5 ho5 hl5 hb3 hT5
          go_wp2_with fail
          go_roundg (gk - n)
          case measure => have := Kr.out; omega
          case rel => exact ⟨i + n, i + n, T5, A5, cap5, _, by have := Kr.out; omega, Nat.le_refl _, rfl, rfl, rfl, KLd5.out, hT5b, KG.out.put KD.out hlt KKe.out (by omega), KO5.out.mono (by omega), KV5.out, KE5.out⟩
    · have hltI : ¬ (i : Int) + 4 ≤ (s.length : Int) := by omega
      have hx : (strOf s).extract fr s.length = strOf (s.drop fr) := by
        have := strOf_tail s fr
        rwa [hsz] at this
      have hsl : (s.drop fr).length = s.length - fr := List.length_drop
      have Kst := Kept.mk (show s.take fr ++ s.drop fr = s from List.take_append_drop _ _)
      generalize s.drop fr = seg at hx hsl Kst
      have hfrI : (fr : Int) ≤ (s.length : Int) := by omega
      have Ksl := Kept.mk hsl
      clear hsl
      go_wp2_with fail
      refine (plain_any (w.heap.size + 1) A cap (1 :: T) seg (by simp; omega) (by have := Ksl.out; omega) _ (by omega) KV.out).mono ?_
      rintro e w4 ⟨T2, hLd2, hT2, A4, cap4, rfl, hV4, ht4, ho4⟩
      have hE4 : Ext w w4 := Touch.below KE.out ht4 (fun j hj => by have := (KV.out.owns j hj).1; omega) hww
      have hl4 : (1 :: T ++ T2).length = (T ++ T2).length + 1 := rfl
      have hcat : 1 :: T ++ T2 = 1 :: (T ++ T2) := rfl
      have KLd4 := Kept.mk (show Leads [] (T ++ T2) s by
        have h := KLd.out.trans (hLd2 _)
        rwa [Kst.out] at h)
      rw [hl4] at hV4 ⊢
      rw [hcat] at hV4
      generalize T ++ T2 = T3 at hV4 KLd4 ⊢
      have KV4 := Kept.mk hV4
      have KE4 := Kept.mk hE4
      clear hE4 hV4 ht4 ho4 hl4 hcat KV KE KO hLd2 hT2 hx
      by_cases hlong : T3.length + 1 > s.length + 1
      · have hlongI : ((T3.length : Int) + 1) > (s.length : Int) + 1 := by omega
        have hcc : (ByteArray.mk #[0]) ++ strOf s = strOf (0 :: s) := by
          rw [str_eq]; simp [strOf]
        have hz1 : (ByteArray.mk #[0]).size = 1 := rfl
        have hzz : (ByteArray.mk #[0]).size + (strOf s).size ≤ 9223372036854775807 := by rw [hz1]; omega
        have Kcc := Kept.mk hcc
        clear hcc
        go_wp2_with fail
        go_ret
        exact ⟨0 :: s, by first | rfl | rw [← Kcc.out], KE4.out, by simp, .inl rfl⟩
      · have hlongI : ¬ ((T3.length : Int) + 1) > (s.length : Int) + 1 := by omega
        have kc : (convert 54 9 (.slice A4 (T3.length + 1) cap4)).run Try.prog w4 = .ok (.string (strOf (1 :: T3))) w4 := conv_buf w4 _ _ _ Try.underlying54 Try.underlying5 Try.underlying9 _ KV4.out
        go_wp2_with fail
        go_ret
        exact ⟨1 :: T3, rfl, KE4.out, by simp; omega, .inr ⟨T3, rfl, KLd4.out⟩⟩
end Sqz
end Go.Proofs.Ytgnbbklnobladaa
