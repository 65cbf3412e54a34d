/- The walk of the statement Sha1Blocks. No condition. -/
import Derived.Test.YthkckmohhbddcaaSha1WalkO
import Derived.BigQuiet
namespace Go.Proofs.Ythkckmohhbddcaa
open Go.RowKit
namespace Sha1
set_option linter.unusedSimpArgs false
set_option linter.unusedVariables false
theorem bk_take (l : List UInt8) (k j : Nat) (hk : k ≤ 64) : bk (l.take 64) k j = bk l k j := by
  unfold bk byt
  split
  · rw [List.getD_eq_getElem?_getD, List.getD_eq_getElem?_getD, List.getElem?_take_of_lt (by omega)]
  · rfl
theorem pressC_take (c : Ch) (l : List UInt8) : pressC c (l.take 64) = pressC c l := by
  have h : min (l.take 64).length 64 = min l.length 64 := by rw [List.length_take]; omega
  have hw : w16 (l.take 64) = w16 l := by
    unfold w16
    rw [h]
    refine List.map_congr_left fun t _ => ?_
    unfold pw
    rw [bk_take _ _ _ (by omega), bk_take _ _ _ (by omega), bk_take _ _ _ (by omega), bk_take _ _ _ (by omega)]
  unfold pressC expand
  rw [hw]
def InR (c : Ch) : Prop := (0 ≤ c.a ∧ c.a < 4294967296) ∧ (0 ≤ c.b ∧ c.b < 4294967296) ∧ (0 ≤ c.c ∧ c.c < 4294967296) ∧ (0 ≤ c.d ∧ c.d < 4294967296) ∧ (0 ≤ c.e ∧ c.e < 4294967296)
theorem InR.press (c : Ch) (l : List UInt8) : InR (pressC c l) := by
  unfold pressC addC InR
  refine ⟨⟨?_, ?_⟩, ⟨?_, ?_⟩, ⟨?_, ?_⟩, ⟨?_, ?_⟩, ⟨?_, ?_⟩⟩ <;> (simp only []; omega)
theorem InR.chain : ∀ (k : Nat) (c : Ch) (l : List UInt8), InR c → InR (Sha1.chain k c l)
  | 0, c, l, h => h
  | k + 1, c, l, h => InR.chain k _ _ (InR.press _ _)
theorem InR.first : InR firstC := by unfold InR firstC; decide
/-- Four bytes joined. -/
theorem four_join (x : Int) (h0 : 0 ≤ x) (h1 : x < 4294967296) :
    bits .or .u32 (bits .or .u32 (bits .or .u32 (x / 16777216 % 256 * 16777216) (x / 65536 % 256 * 65536)) (x / 256 % 256 * 256)) (x % 256) = x := by
  rw [bits_join .u32 32 (by decide) wraps_u32 24 (x / 16777216 % 256 * 16777216) (x / 65536 % 256 * 65536) (by omega) (by omega) (by omega) (by omega) (by omega) (by omega)]
  rw [bits_join .u32 32 (by decide) wraps_u32 16 (x / 16777216 % 256 * 16777216 + x / 65536 % 256 * 65536) (x / 256 % 256 * 256) (by omega) (by omega) (by omega) (by omega) (by omega) (by omega)]
  rw [bits_join .u32 32 (by decide) wraps_u32 8 (x / 16777216 % 256 * 16777216 + x / 65536 % 256 * 65536 + x / 256 % 256 * 256) (x % 256) (by omega) (by omega) (by omega) (by omega) (by omega) (by omega)]
  omega
theorem byte_at (q : ByteArray) (l : List UInt8) (hq : q.data.toList = l) (i : Nat) (y : Int) (hi : i < q.size) (h : l[i]? = some (UInt8.ofNat (y % 256).toNat)) : ((q[i].toNat : Nat) : Int) = y % 256 := by
  have h1 : q.data.toList[i]? = some q[i] := by simp [hi]; rfl
  rw [hq, h] at h1
  injection h1 with h1
  rw [← h1]
  have := Int.emod_nonneg y (show (256 : Int) ≠ 0 by decide)
  have := Int.emod_lt_of_pos y (show (0 : Int) < 256 by decide)
  simp; omega
set_option linter.unusedSimpArgs false
set_option linter.unusedVariables false
set_option maxRecDepth 100000 in
set_option maxHeartbeats 2000000 in
theorem blocks_law (w : World) (s : ByteArray) (hs : s.size ≤ 9223372036854775807) : Calls Try.prog 5 #[.string s] w (TrueIs w) := by
  have hm : Try.prog.follows .mixedOrders = true := by kernel_rfl
  have hz5 := zero_run (P := Try.prog) info5
  go_enter Try.func5, Try.ntmps5
  go_wp2_with fail
  refine (awake_any _).mono ?_
  rintro e w1 ⟨rfl, h1⟩
  by_cases hlt0 : s.size ≤ 2000
  · have hltI : ¬ (s.size : Int) > 2000 := by omega
    obtain ⟨S, hS⟩ : ∃ S, S = s.size := ⟨_, rfl⟩
    have hsl : s.data.toList.length = S := by rw [hS]; simp
    have hn8 : ((S : Int) * 8) % 18446744073709551616 = (S : Int) * 8 := by omega
    have hn1 : (S : Int) % 18446744073709551616 = (S : Int) := by omega
    have hsz : (s.size : Int) = S := by rw [hS]
    have hszN : s.size = S := hS.symm
    rw [hszN] at hlt0
    have KSL := Kept.mk hsl
    clear hS hsl
    obtain ⟨Z, hZ⟩ : ∃ Z, Z = (119 - S % 64) % 64 := ⟨_, rfl⟩
    have KZ := Kept.mk hZ
    have hZb : Z ≤ 63 := by omega
    clear hZ
    have KE := Kept.mk h1
    clear h1
    go_wp2_with fail
    go_loopg [4] Z (fun r s4 wi => ∃ (z : Nat) (tv : ByteArray), z + r = Z ∧ s4 = .string tv ∧ tv.data.toList = s.data.toList ++ 128 :: List.replicate z 0 ∧ Ext w wi)
    case atStart => exact ⟨0, _, by omega, rfl, by simp [ByteArray.data_append], KE.out⟩
    case round =>
      obtain ⟨z, tv, hz, rfl, htv, hE⟩ := hrel
      have hts : tv.size = S + 1 + z := by
        have := congrArg List.length htv
        rw [List.length_append, KSL.out] at this
        simp at this
        omega
      have KE := Kept.mk hE
      have KT := Kept.mk htv
      have hzb : z ≤ 63 := by omega
      have htb : tv.size ≤ 3000 := by omega
      clear hE htv
      by_cases hlt : z < Z
      · have hne : (((tv.size : Int) % 64) != 56) = true := by have := KZ.out; rw [bne_iff_ne]; omega
        clear hts
        go_wp2_with fail
        go_roundg (gk - 1)
        case measure => omega
        case rel => exact ⟨z + 1, _, by omega, rfl, by rw [ByteArray.data_append, Array.toList_append, KT.out, List.replicate_succ', List.append_assoc]; rfl, KE.out⟩
      · obtain rfl : z = Z := by omega
        have heq : (((tv.size : Int) % 64) != 56) = false := by have := KZ.out; rw [bne_eq_false_iff_eq]; omega
        have KTS := Kept.mk hts
        clear hts
        go_wp2_with fail
        obtain ⟨N, hN⟩ : ∃ N, N = 8 * S % 2 ^ 64 := ⟨_, rfl⟩
        have hN8 : N = 8 * S := by omega
        have KP := Kept.mk (show s.data.toList ++ 128 :: List.replicate z 0 ++ be8 N = pad s.data.toList by rw [hN, ← KSL.out, pad, tailB, List.append_assoc, KSL.out, ← KZ.out])
        have KN8 := Kept.mk hN8
        clear hN hN8 heq htb
        obtain ⟨go, rfl⟩ : ∃ n : Nat, n = gk := ⟨_, rfl⟩
        obtain ⟨tl, htl⟩ : ∃ tl, tl = s.data.toList ++ 128 :: List.replicate z 0 := ⟨_, rfl⟩
        rw [← htl] at KT KP
        have hll : tl.length = S + 1 + z := by rw [← KTS.out, ← KT.out]; simp
        have KLL := Kept.mk hll
        clear htl hll
        go_loopg [4, 5] 8 (fun r s4 i wi => ∃ (k : Nat) (tv : ByteArray), k + r = 8 ∧ i = .int .i64 (7 - (k : Int)) ∧ s4 = .string tv ∧ tv.data.toList = tl ++ (be8 N).take k ∧ Ext w wi)
        case atStart => exact ⟨0, tv, rfl, rfl, rfl, by simpa using KT.out, KE.out⟩
        case round =>
          clear KT KE KTS
          obtain ⟨k, tv, hk, rfl, rfl, htv, hE⟩ := hrel
          have htb : tv.size ≤ 3100 := by
            have := congrArg List.length htv
            rw [List.length_append, KLL.out] at this
            simp [be8] at this
            omega
          have KE := Kept.mk hE
          have KT := Kept.mk htv
          clear hE htv
          have kc : ∀ x : Int, (convert 34 9 (.slice (some ⟨wr.heap.size, 0, none⟩) 1 1)).run Try.prog (wr.alloc (.cells #[.int .u8 x] 5)) = .ok (.string (strOfNums [x])) (wr.alloc (.cells #[.int .u8 x] 5)) := fun x => conv_new wr _ _ _ Try.underlying34 Try.underlying5 Try.underlying9 1 [x]
          have hq1 : ∀ x : Int, (strOfNums [x]).size = 1 := fun x => rfl
          by_cases hlt : k < 8
          · have KB := Kept.mk (be8_next N k hlt)
            have hkc : k = 0 ∨ k = 1 ∨ k = 2 ∨ k = 3 ∨ k = 4 ∨ k = 5 ∨ k = 6 ∨ k = 7 := by omega
            rcases hkc with rfl | rfl | rfl | rfl | rfl | rfl | rfl | rfl
            · go_wp2_with fail
              go_roundg (gk - 1)
              case measure => omega
              case rel =>
                refine ⟨0 + 1, _, by omega, by first | rfl | go_num, rfl, ?_, KE.out.trans (Ext.alloc _ _)⟩
                rw [KB.out, ← List.append_assoc, ByteArray.data_append, Array.toList_append, KT.out]
                have := KN8.out
                congr 1
                rw [strOfNums_data]
                simp
                congr 1
                omega
            · go_wp2_with fail
              go_roundg (gk - 1)
              case measure => omega
              case rel =>
                refine ⟨1 + 1, _, by omega, by first | rfl | go_num, rfl, ?_, KE.out.trans (Ext.alloc _ _)⟩
                rw [KB.out, ← List.append_assoc, ByteArray.data_append, Array.toList_append, KT.out]
                have := KN8.out
                congr 1
                rw [strOfNums_data]
                simp
                congr 1
                omega
            · go_wp2_with fail
              go_roundg (gk - 1)
              case measure => omega
              case rel =>
                refine ⟨2 + 1, _, by omega, by first | rfl | go_num, rfl, ?_, KE.out.trans (Ext.alloc _ _)⟩
                rw [KB.out, ← List.append_assoc, ByteArray.data_append, Array.toList_append, KT.out]
                have := KN8.out
                congr 1
                rw [strOfNums_data]
                simp
                congr 1
                omega
            · go_wp2_with fail
              go_roundg (gk - 1)
              case measure => omega
              case rel =>
                refine ⟨3 + 1, _, by omega, by first | rfl | go_num, rfl, ?_, KE.out.trans (Ext.alloc _ _)⟩
                rw [KB.out, ← List.append_assoc, ByteArray.data_append, Array.toList_append, KT.out]
                have := KN8.out
                congr 1
                rw [strOfNums_data]
                simp
                congr 1
                omega
            · go_wp2_with fail
              go_roundg (gk - 1)
              case measure => omega
              case rel =>
                refine ⟨4 + 1, _, by omega, by first | rfl | go_num, rfl, ?_, KE.out.trans (Ext.alloc _ _)⟩
                rw [KB.out, ← List.append_assoc, ByteArray.data_append, Array.toList_append, KT.out]
                have := KN8.out
                congr 1
                rw [strOfNums_data]
                simp
                congr 1
                omega
            · go_wp2_with fail
              go_roundg (gk - 1)
              case measure => omega
              case rel =>
                refine ⟨5 + 1, _, by omega, by first | rfl | go_num, rfl, ?_, KE.out.trans (Ext.alloc _ _)⟩
                rw [KB.out, ← List.append_assoc, ByteArray.data_append, Array.toList_append, KT.out]
                have := KN8.out
                congr 1
                rw [strOfNums_data]
                simp
                congr 1
                omega
            · go_wp2_with fail
              go_roundg (gk - 1)
              case measure => omega
              case rel =>
                refine ⟨6 + 1, _, by omega, by first | rfl | go_num, rfl, ?_, KE.out.trans (Ext.alloc _ _)⟩
                rw [KB.out, ← List.append_assoc, ByteArray.data_append, Array.toList_append, KT.out]
                have := KN8.out
                congr 1
                rw [strOfNums_data]
                simp
                congr 1
                omega
            · go_wp2_with fail
              go_roundg (gk - 1)
              case measure => omega
              case rel =>
                refine ⟨7 + 1, _, by omega, by first | rfl | go_num, rfl, ?_, KE.out.trans (Ext.alloc _ _)⟩
                rw [KB.out, ← List.append_assoc, ByteArray.data_append, Array.toList_append, KT.out]
                have := KN8.out
                congr 1
                rw [strOfNums_data]
                simp
                congr 1
                omega
          · obtain rfl : k = 8 := by omega
            have hbe : (be8 N).take 8 = be8 N := List.take_of_length_le (by simp [be8])
            rw [hbe, KP.out] at KT
            have hpl := pad_length s.data.toList
            generalize hLp : pad s.data.toList = L at hpl KT
            have KLp := Kept.mk hLp
            obtain ⟨K, hK⟩ : ∃ K, K = L.length / 64 := ⟨_, rfl⟩
            rw [← hK] at hpl
            have KK := Kept.mk hK
            have hKb : 64 * K ≤ 3100 := by
              have := congrArg List.length KT.out
              rw [hpl] at this
              simp at this
              omega
            have hsT : tv.size = 64 * K := by
              have := congrArg List.length KT.out
              rw [hpl] at this
              simpa using this
            clear hLp hK htb hpl
            go_wp2_with fail
            refine (first_any _).mono ?_
            rintro e w2 ⟨rfl, h2⟩
            rw [chV_eq]
            have hE2 := KE.out.trans h2
            clear h2 kc hq1
            go_wp2_with (refine wpList_store_new rfl 37 (.tmp 6) (.tmp 41) rfl rfl rfl 37 zW (chW firstC) rfl rfl (info_size info5) (chW_one _) ?_)
            have hb3 := Blk.new w2 37 (chW firstC)
            have hE3 : Ext w (w2.alloc (.cells (chW firstC).toArray 37)) := hE2.trans (Ext.alloc _ _)
            have hg : w.heap.size ≤ w2.heap.size := hE2.size
            generalize (w2.alloc (.cells (chW firstC).toArray 37)) = w3 at hb3 hE3 ⊢
            generalize w2.heap.size = g at hb3 hg ⊢
            clear hE2 KE
            obtain ⟨X, hX⟩ : ∃ X, X = Sha1.chain K firstC L := ⟨_, rfl⟩
            have KXX := Kept.mk hX
            obtain ⟨go9, rfl⟩ : ∃ n : Nat, n = gk := ⟨_, rfl⟩
            go_loopg [7] K (fun r i wi => ∃ (k : Nat) (c : Ch), k + r = K ∧ i = .int .i64 (64 * (k : Int)) ∧ Sha1.chain (K - k) c (L.drop (64 * k)) = X ∧ Blk wi g 37 (chW c) ∧ Ext w wi)
            case atStart => exact ⟨0, firstC, by omega, rfl, by simpa using hX.symm, hb3, hE3⟩
            case round =>
              clear hb3 hE3 hX
              obtain ⟨k, c, hk, rfl, hX, hb, hE⟩ := hrel
              by_cases hlt : k < K
              · have hkI : 64 * (k : Int) < 64 * (K : Int) := by omega
                obtain ⟨c2, hc2⟩ : ∃ c2, c2 = pressC c ((L.drop (64 * k)).take 64) := ⟨_, rfl⟩
                have hX2 : Sha1.chain (K - (k + 1)) c2 (L.drop (64 * (k + 1))) = X := by
                  rw [← hX, show K - k = (K - (k + 1)) + 1 by omega, Sha1.chain, hc2, List.drop_drop, show 64 * (k + 1) = 64 * k + 64 by omega]
                have KC2 := Kept.mk (hc2.trans (pressC_take _ _))
                have KX := Kept.mk hX2
                have KB := Kept.mk hb
                have KE := Kept.mk hE
                have KEX := Kept.mk (show tv.extract (64 * k) (64 * K) = strOf (L.drop (64 * k)) by
                  rw [str_eq, ByteArray.data_extract, strOf_list, ← KT.out]
                  simp [List.extract, ← hsT]
                  exact List.take_of_length_le (by simp))
                clear hc2 hX hX2 hb hE
                go_wp2_with fail
                refine wp_region_calm Ext 5 ([] :: [] :: [] :: [(49, 1), (50, 2)] :: [(48, 0), (51, 3)] :: [])
                  ((48, 0) :: (49, 1) :: (50, 2) :: (51, 3) :: (52, 4) :: [])
                  (EqV (.agg (chW c).toArray) :: EqV ?pce1 :: EqV ?pce2 :: EqV (.string (strOf (L.drop (64 * k)))) :: EqV (.agg (chW c2).toArray) :: []) hm (by kernel_rfl) Ext.refl (fun _ _ _ => Ext.trans) Ext.drew
                  (MonoL.at (MonoL.eq _ (MonoL.eq _ (MonoL.eq _ (MonoL.eq _ (MonoL.eq _ (MonoL.nil))))))) ?pcalmOps ?pcalmDone
                case pcalmOps =>
                  intro vs
                  refine (CalmOps.cons ?_ (CalmOps.cons ?_ (CalmOps.cons ?_ (CalmOps.cons ?_ (CalmOps.cons ?_ trivial)))))
                  · intro w6 hR hL; simp [Look, VAt, EqV] at hL; simp [Guarded, setAll, bare, hL]; go_wp2_with (refine wpList_load_blk rfl 37 (.tmp 6) rfl g rfl 37 (chW c) (KB.out.ext hR) _ Try.underlying37 rfl (info_size info5) ?_); exact CalmPost.mk (by simp) rfl (Ext.refl _)
                  · intro w6 hR hL; simp [Look, VAt, EqV] at hL; simp [Guarded, setAll, bare, hL]; go_wp2_with fail; exact CalmPost.mk (by simp; rfl) rfl (Ext.refl _)
                  · intro w6 hR hL; simp [Look, VAt, EqV] at hL; simp [Guarded, setAll, bare, hL]; go_wp2_with fail; exact CalmPost.mk (by simp; rfl) rfl (Ext.refl _)
                  · intro w6 hR hL; simp [Look, VAt, EqV] at hL; simp [Guarded, setAll, bare, hL]; go_wp2_with fail; exact CalmPost.mk (by simp [KEX.out]) rfl (Ext.refl _)
                  · intro w6 hR hL; simp [Look, VAt, EqV] at hL; simp [Guarded, setAll, bare, hL]; go_wp2_with fail; refine (press_any c (strOf (L.drop (64 * k))) (by rw [strOf_size, List.length_drop, ← KT.out]; simp; omega) _).mono ?_; rintro ee ww ⟨rfl, hbb⟩; rw [strOf_list, ← KC2.out, chV_eq]; go_wp2_with fail; exact CalmPost.mk (by simp) rfl hbb
                case pcalmDone =>
                  intro vs w6 hR hL; simp [Look, VAt, EqV] at hL; simp [setAll, hL]; clear hL
                  go_wp2_with (refine wpList_store_blk rfl 37 (.tmp 6) (.tmp 52) rfl rfl g rfl 37 (chW c) (chW c2) rfl (KB.out.ext hR) rfl (info_size info5) (chW_one _) ?_)
                  have hb7 := (KB.out.ext hR).row (chW c2)
                  have hE7 : Ext w (w6.setRow g (chW c2).toArray) := below_setRow (KE.out.trans hR) hg _
                  generalize (w6.setRow g (chW c2).toArray) = w7 at hb7 hE7 ⊢
                  have KB7 := Kept.mk hb7
                  have KE7 := Kept.mk hE7
                  clear hb7 hE7
                  go_wp2_with fail
                  go_roundg (gk - 1)
                  case measure => omega
                  case rel => exact ⟨k + 1, c2, by omega, by go_num, KX.out, KB7.out, KE7.out⟩
              · obtain rfl : k = K := by omega
                rw [Nat.sub_self] at hX
                have hX : c = X := hX
                subst hX
                have KB := Kept.mk hb
                have KE := Kept.mk hE
                clear hb hE
                go_wp2_with fail
                have hfl : flat [s] = s.data.toList := by simp [flat]
                refine (sumOf_any (some ⟨wr.heap.size, 0, none⟩) 1 [s] _ (Row.of_blk (Blk.new wr 9 [.string s])) (by intro j hj; simp [own] at hj; subst hj; simp) (by rw [hfl, KSL.out]; omega) (by simp)).mono ?_
                rintro e w5 ⟨rfl, h5⟩
                have hd : digest (flat [s]) = digestC c := by rw [hfl, digest, KLp.out, midC, ← KK.out, ← KXX.out]
                rw [hd]
                have hq := strOf_list (digestC c)
                have hqs : (strOf (digestC c)).size = 20 := by rw [strOf_size]; rfl
                generalize strOf (digestC c) = q at hq hqs ⊢
                have hr : InR c := by rw [KXX.out]; exact InR.chain _ _ _ InR.first
                have hB5 : Blk w5 g 37 (chW c) := (KB.out.old _).ext h5
                have hE5 : Ext w w5 := (KE.out.trans (Ext.alloc _ _)).trans h5
                have KQ := Kept.mk hq
                have KRR := Kept.mk hr
                have KB5 := Kept.mk hB5
                have KE5 := Kept.mk hE5
                clear hq hr hB5 hE5 h5 hfl hd KB KE
                go_wp2_with fail
                obtain ⟨go4, rfl⟩ : ∃ n : Nat, n = gk := ⟨_, rfl⟩
                go_loopg [9] 5 (fun r i wi => ∃ j : Nat, j + r = 5 ∧ i = .int .i64 (j : Int) ∧ Ext w wi ∧ Blk wi g 37 (chW c))
                case atStart => exact ⟨0, rfl, rfl, KE5.out, KB5.out⟩
                case round =>
                  clear KE5 KB5
                  obtain ⟨j, hj, rfl, hE, hb⟩ := hrel
                  by_cases hlt : j < 5
                  · have hjc : j = 0 ∨ j = 1 ∨ j = 2 ∨ j = 3 ∨ j = 4 := by omega
                    have KE := Kept.mk hE
                    clear hE
                    rcases hjc with rfl | rfl | rfl | rfl | rfl
                    · have hc : wr.cell? ⟨g, 0, none⟩ = some (.int .u32 c.a) := hb.cell 0
                      obtain ⟨y0, hy0⟩ : ∃ y : Int, y = c.a / 16777216 % 256 := ⟨_, rfl⟩
                      obtain ⟨y1, hy1⟩ : ∃ y : Int, y = c.a / 65536 % 256 := ⟨_, rfl⟩
                      obtain ⟨y2, hy2⟩ : ∃ y : Int, y = c.a / 256 % 256 := ⟨_, rfl⟩
                      obtain ⟨y3, hy3⟩ : ∃ y : Int, y = c.a % 256 := ⟨_, rfl⟩
                      have hx0 : ((q[0]'(by omega)).toNat : Int) = y0 := by rw [hy0]; exact byte_at q _ KQ.out 0 _ (by omega) rfl
                      have hx1 : ((q[1]'(by omega)).toNat : Int) = y1 := by rw [hy1]; exact byte_at q _ KQ.out 1 _ (by omega) rfl
                      have hx2 : ((q[2]'(by omega)).toNat : Int) = y2 := by rw [hy2]; exact byte_at q _ KQ.out 2 _ (by omega) rfl
                      have hx3 : ((q[3]'(by omega)).toNat : Int) = y3 := by rw [hy3]; exact byte_at q _ KQ.out 3 _ (by omega) rfl
                      have hfj := four_join c.a KRR.out.1.1 KRR.out.1.2
                      rw [← hy0, ← hy1, ← hy2, ← hy3] at hfj
                      have hr0 : 0 ≤ y0 ∧ y0 < 256 := by omega
                      have hr1 : 0 ≤ y1 ∧ y1 < 256 := by omega
                      have hr2 : 0 ≤ y2 ∧ y2 < 256 := by omega
                      have hr3 : 0 ≤ y3 ∧ y3 < 256 := by omega
                      have hm0 : y0 * 16777216 % 4294967296 = y0 * 16777216 := by omega
                      have hm1 : y1 * 65536 % 4294967296 = y1 * 65536 := by omega
                      have hm2 : y2 * 256 % 4294967296 = y2 * 256 := by omega
                      have hm3 : y3 % 4294967296 = y3 := by omega
                      have hb2 := Kept.mk hb
                      generalize c.a = x at hc hfj
                      clear hy0 hy1 hy2 hy3 hb
                      rw [show (((0 : Nat) : Int)) = 0 from rfl]
                      go_wp2_with fail
                      go_quiet (fail)
                      go_wp2_with fail
                      go_roundg (gk - 1)
                      case measure => omega
                      case rel => exact ⟨0 + 1, by omega, by first | rfl | go_num, KE.out.trans (Ext.drewN _ _), hb2.out.drewN _⟩
                    · have hc : wr.cell? ⟨g, 1, none⟩ = some (.int .u32 c.b) := hb.cell 1
                      obtain ⟨y0, hy0⟩ : ∃ y : Int, y = c.b / 16777216 % 256 := ⟨_, rfl⟩
                      obtain ⟨y1, hy1⟩ : ∃ y : Int, y = c.b / 65536 % 256 := ⟨_, rfl⟩
                      obtain ⟨y2, hy2⟩ : ∃ y : Int, y = c.b / 256 % 256 := ⟨_, rfl⟩
                      obtain ⟨y3, hy3⟩ : ∃ y : Int, y = c.b % 256 := ⟨_, rfl⟩
                      have hx0 : ((q[4]'(by omega)).toNat : Int) = y0 := by rw [hy0]; exact byte_at q _ KQ.out 4 _ (by omega) rfl
                      have hx1 : ((q[5]'(by omega)).toNat : Int) = y1 := by rw [hy1]; exact byte_at q _ KQ.out 5 _ (by omega) rfl
                      have hx2 : ((q[6]'(by omega)).toNat : Int) = y2 := by rw [hy2]; exact byte_at q _ KQ.out 6 _ (by omega) rfl
                      have hx3 : ((q[7]'(by omega)).toNat : Int) = y3 := by rw [hy3]; exact byte_at q _ KQ.out 7 _ (by omega) rfl
                      have hfj := four_join c.b KRR.out.2.1.1 KRR.out.2.1.2
                      rw [← hy0, ← hy1, ← hy2, ← hy3] at hfj
                      have hr0 : 0 ≤ y0 ∧ y0 < 256 := by omega
                      have hr1 : 0 ≤ y1 ∧ y1 < 256 := by omega
                      have hr2 : 0 ≤ y2 ∧ y2 < 256 := by omega
                      have hr3 : 0 ≤ y3 ∧ y3 < 256 := by omega
                      have hm0 : y0 * 16777216 % 4294967296 = y0 * 16777216 := by omega
                      have hm1 : y1 * 65536 % 4294967296 = y1 * 65536 := by omega
                      have hm2 : y2 * 256 % 4294967296 = y2 * 256 := by omega
                      have hm3 : y3 % 4294967296 = y3 := by omega
                      have hb2 := Kept.mk hb
                      generalize c.b = x at hc hfj
                      clear hy0 hy1 hy2 hy3 hb
                      rw [show (((1 : Nat) : Int)) = 1 from rfl]
                      go_wp2_with fail
                      go_quiet (fail)
                      go_wp2_with fail
                      go_roundg (gk - 1)
                      case measure => omega
                      case rel => exact ⟨1 + 1, by omega, by first | rfl | go_num, KE.out.trans (Ext.drewN _ _), hb2.out.drewN _⟩
                    · have hc : wr.cell? ⟨g, 2, none⟩ = some (.int .u32 c.c) := hb.cell 2
                      obtain ⟨y0, hy0⟩ : ∃ y : Int, y = c.c / 16777216 % 256 := ⟨_, rfl⟩
                      obtain ⟨y1, hy1⟩ : ∃ y : Int, y = c.c / 65536 % 256 := ⟨_, rfl⟩
                      obtain ⟨y2, hy2⟩ : ∃ y : Int, y = c.c / 256 % 256 := ⟨_, rfl⟩
                      obtain ⟨y3, hy3⟩ : ∃ y : Int, y = c.c % 256 := ⟨_, rfl⟩
                      have hx0 : ((q[8]'(by omega)).toNat : Int) = y0 := by rw [hy0]; exact byte_at q _ KQ.out 8 _ (by omega) rfl
                      have hx1 : ((q[9]'(by omega)).toNat : Int) = y1 := by rw [hy1]; exact byte_at q _ KQ.out 9 _ (by omega) rfl
                      have hx2 : ((q[10]'(by omega)).toNat : Int) = y2 := by rw [hy2]; exact byte_at q _ KQ.out 10 _ (by omega) rfl
                      have hx3 : ((q[11]'(by omega)).toNat : Int) = y3 := by rw [hy3]; exact byte_at q _ KQ.out 11 _ (by omega) rfl
                      have hfj := four_join c.c KRR.out.2.2.1.1 KRR.out.2.2.1.2
                      rw [← hy0, ← hy1, ← hy2, ← hy3] at hfj
                      have hr0 : 0 ≤ y0 ∧ y0 < 256 := by omega
                      have hr1 : 0 ≤ y1 ∧ y1 < 256 := by omega
                      have hr2 : 0 ≤ y2 ∧ y2 < 256 := by omega
                      have hr3 : 0 ≤ y3 ∧ y3 < 256 := by omega
                      have hm0 : y0 * 16777216 % 4294967296 = y0 * 16777216 := by omega
                      have hm1 : y1 * 65536 % 4294967296 = y1 * 65536 := by omega
                      have hm2 : y2 * 256 % 4294967296 = y2 * 256 := by omega
                      have hm3 : y3 % 4294967296 = y3 := by omega
                      have hb2 := Kept.mk hb
                      generalize c.c = x at hc hfj
                      clear hy0 hy1 hy2 hy3 hb
                      rw [show (((2 : Nat) : Int)) = 2 from rfl]
                      go_wp2_with fail
                      go_quiet (fail)
                      go_wp2_with fail
                      go_roundg (gk - 1)
                      case measure => omega
                      case rel => exact ⟨2 + 1, by omega, by first | rfl | go_num, KE.out.trans (Ext.drewN _ _), hb2.out.drewN _⟩
                    · have hc : wr.cell? ⟨g, 3, none⟩ = some (.int .u32 c.d) := hb.cell 3
                      obtain ⟨y0, hy0⟩ : ∃ y : Int, y = c.d / 16777216 % 256 := ⟨_, rfl⟩
                      obtain ⟨y1, hy1⟩ : ∃ y : Int, y = c.d / 65536 % 256 := ⟨_, rfl⟩
                      obtain ⟨y2, hy2⟩ : ∃ y : Int, y = c.d / 256 % 256 := ⟨_, rfl⟩
                      obtain ⟨y3, hy3⟩ : ∃ y : Int, y = c.d % 256 := ⟨_, rfl⟩
                      have hx0 : ((q[12]'(by omega)).toNat : Int) = y0 := by rw [hy0]; exact byte_at q _ KQ.out 12 _ (by omega) rfl
                      have hx1 : ((q[13]'(by omega)).toNat : Int) = y1 := by rw [hy1]; exact byte_at q _ KQ.out 13 _ (by omega) rfl
                      have hx2 : ((q[14]'(by omega)).toNat : Int) = y2 := by rw [hy2]; exact byte_at q _ KQ.out 14 _ (by omega) rfl
                      have hx3 : ((q[15]'(by omega)).toNat : Int) = y3 := by rw [hy3]; exact byte_at q _ KQ.out 15 _ (by omega) rfl
                      have hfj := four_join c.d KRR.out.2.2.2.1.1 KRR.out.2.2.2.1.2
                      rw [← hy0, ← hy1, ← hy2, ← hy3] at hfj
                      have hr0 : 0 ≤ y0 ∧ y0 < 256 := by omega
                      have hr1 : 0 ≤ y1 ∧ y1 < 256 := by omega
                      have hr2 : 0 ≤ y2 ∧ y2 < 256 := by omega
                      have hr3 : 0 ≤ y3 ∧ y3 < 256 := by omega
                      have hm0 : y0 * 16777216 % 4294967296 = y0 * 16777216 := by omega
                      have hm1 : y1 * 65536 % 4294967296 = y1 * 65536 := by omega
                      have hm2 : y2 * 256 % 4294967296 = y2 * 256 := by omega
                      have hm3 : y3 % 4294967296 = y3 := by omega
                      have hb2 := Kept.mk hb
                      generalize c.d = x at hc hfj
                      clear hy0 hy1 hy2 hy3 hb
                      rw [show (((3 : Nat) : Int)) = 3 from rfl]
                      go_wp2_with fail
                      go_quiet (fail)
                      go_wp2_with fail
                      go_roundg (gk - 1)
                      case measure => omega
                      case rel => exact ⟨3 + 1, by omega, by first | rfl | go_num, KE.out.trans (Ext.drewN _ _), hb2.out.drewN _⟩
                    · have hc : wr.cell? ⟨g, 4, none⟩ = some (.int .u32 c.e) := hb.cell 4
                      obtain ⟨y0, hy0⟩ : ∃ y : Int, y = c.e / 16777216 % 256 := ⟨_, rfl⟩
                      obtain ⟨y1, hy1⟩ : ∃ y : Int, y = c.e / 65536 % 256 := ⟨_, rfl⟩
                      obtain ⟨y2, hy2⟩ : ∃ y : Int, y = c.e / 256 % 256 := ⟨_, rfl⟩
                      obtain ⟨y3, hy3⟩ : ∃ y : Int, y = c.e % 256 := ⟨_, rfl⟩
                      have hx0 : ((q[16]'(by omega)).toNat : Int) = y0 := by rw [hy0]; exact byte_at q _ KQ.out 16 _ (by omega) rfl
                      have hx1 : ((q[17]'(by omega)).toNat : Int) = y1 := by rw [hy1]; exact byte_at q _ KQ.out 17 _ (by omega) rfl
                      have hx2 : ((q[18]'(by omega)).toNat : Int) = y2 := by rw [hy2]; exact byte_at q _ KQ.out 18 _ (by omega) rfl
                      have hx3 : ((q[19]'(by omega)).toNat : Int) = y3 := by rw [hy3]; exact byte_at q _ KQ.out 19 _ (by omega) rfl
                      have hfj := four_join c.e KRR.out.2.2.2.2.1 KRR.out.2.2.2.2.2
                      rw [← hy0, ← hy1, ← hy2, ← hy3] at hfj
                      have hr0 : 0 ≤ y0 ∧ y0 < 256 := by omega
                      have hr1 : 0 ≤ y1 ∧ y1 < 256 := by omega
                      have hr2 : 0 ≤ y2 ∧ y2 < 256 := by omega
                      have hr3 : 0 ≤ y3 ∧ y3 < 256 := by omega
                      have hm0 : y0 * 16777216 % 4294967296 = y0 * 16777216 := by omega
                      have hm1 : y1 * 65536 % 4294967296 = y1 * 65536 := by omega
                      have hm2 : y2 * 256 % 4294967296 = y2 * 256 := by omega
                      have hm3 : y3 % 4294967296 = y3 := by omega
                      have hb2 := Kept.mk hb
                      generalize c.e = x at hc hfj
                      clear hy0 hy1 hy2 hy3 hb
                      rw [show (((4 : Nat) : Int)) = 4 from rfl]
                      go_wp2_with fail
                      go_quiet (fail)
                      go_wp2_with fail
                      go_roundg (gk - 1)
                      case measure => omega
                      case rel => exact ⟨4 + 1, by omega, by first | rfl | go_num, KE.out.trans (Ext.drewN _ _), hb2.out.drewN _⟩
                  · have KE := Kept.mk hE
                    clear hE hb
                    go_wp2_with fail
                    go_ret
                    exact ⟨rfl, KE.out⟩
  · have hltI : (s.size : Int) > 2000 := by omega
    go_wp2_with fail
    go_ret
    exact ⟨rfl, h1⟩
end Sha1
end Go.Proofs.Ythkckmohhbddcaa
