/- The walk of packfile's read. No condition. -/
import Derived.Test.YtgnbbklnobladaaPackWalkD
namespace Go.Proofs.Ytgnbbklnobladaa
open Go.RowKit
namespace Pack
open Delta (wraps_i64 val4 val4_lt)
open Work (ints ints_length)
set_option linter.unusedSimpArgs false
set_option linter.unusedVariables false
theorem val4_take (l : List UInt8) (k : Nat) (hk : 4 ≤ k) : Delta.val4 l = Delta.val4 (l.take k) := by
  have h : ∀ j, j < 4 → byt l j = byt (l.take k) j := fun j hj => by
    unfold byt
    rw [List.getD_eq_getElem?_getD, List.getD_eq_getElem?_getD, List.getElem?_take_of_lt (by omega)]
  have h0 := h 0 (by decide); have h1 := h 1 (by decide); have h2 := h 2 (by decide); have h3 := h 3 (by decide)
  have a := Delta.val4_byt l; have b := Delta.val4_byt (l.take k)
  rw [h0, h1, h2, h3] at a
  omega
set_option maxRecDepth 100000 in
set_option maxHeartbeats 4000000 in
theorem read_any (p : List UInt8) (hp : p.length ≤ 900000) (w : World) : Calls Try.prog 15 #[.string (strOf p)] w (ReadE w p) := by
  have hm : Try.prog.follows .mixedOrders = true := by kernel_rfl
  have hsz := strOf_size p
  have hbigI : ¬ (1048576 : Int) < (p.length : Int) := by omega
  have hnw : IntKind.i64.wrap ((p.length : Int) - 32) = (p.length : Int) - 32 := by simp [IntKind.wrap, IntKind.bits, IntKind.signed]; omega
  by_cases h40 : p.length < 40
  · have h40I : (p.length : Int) - 32 < 8 := by omega
    have Kr : Kept (readP p = ([], [], 2)) := Kept.mk (by unfold readP; rw [if_neg (by omega), if_pos h40])
    clear h40
    go_enter Try.func15, Try.ntmps15
    go_wp2_with fail
    exact bodyPost_ret (v := .tuple #[.pointer none, .int .i64 2]) (by simp [results, Try.results15, go_sem]) rfl (by unfold ReadE; rw [Kr.out]; exact ⟨none, rfl, Ext.refl _, fun h => by cases h⟩)
  · have h40I : ¬ (p.length : Int) - 32 < 8 := by omega
    obtain ⟨n, hn⟩ : ∃ n, n = p.length - 32 := ⟨_, rfl⟩
    have hnI : (p.length : Int) - 32 = (n : Int) := by omega
    rw [hnI] at hnw h40I
    have hx4 : (strOf p).extract 0 4 = strOf (p.take 4) := by rw [strOf_extract]; rfl
    by_cases hmg : p.take 4 = [68, 80, 75, 49]
    · have Kr0 : Kept (readP p = if Sha2.digest (p.take n) ≠ p.drop n then ([], [], 14) else if 512 < Delta.val4 (p.drop 4) then ([], [], 9) else runP (Delta.val4 (p.drop 4)) [] [] ((p.take n).drop 8)) := Kept.mk (by
        unfold readP; rw [if_neg (by omega), if_neg h40, if_neg (by simp [hmg]), hn])
      have hxm : strOf (p.take 4) = ⟨#[68, 80, 75, 49]⟩ := by rw [hmg]; rfl
      have hx0 : (strOf p).extract 0 n = strOf (p.take n) := by rw [strOf_extract]; simp
      have hxn : (strOf p).extract n p.length = strOf (p.drop n) := by rw [← hsz]; exact strOf_tail p n
      have hxs : (strOf p).extract 4 n = strOf ((p.take n).drop 4) := by rw [strOf_extract, List.drop_take]
      have hnl : n ≤ p.length := by omega
      have hnlI : (n : Int) ≤ (p.length : Int) := by omega
      have hn4I : (4 : Int) ≤ (n : Int) := by omega
      have hn4 : 40 ≤ n + 32 := by omega
      have hn8 : 8 ≤ n := by omega
      have h4I : (4 : Int) ≤ (p.length : Int) := by omega
      have hn0I : (0 : Int) ≤ (n : Int) := by omega
      obtain ⟨dg, hdg⟩ : ∃ d, d = Sha2.digest (p.take n) := ⟨_, rfl⟩
      have KD := Kept.mk hdg.symm
      rw [← hdg] at Kr0
      clear hn h40 hmg hdg
      go_enter Try.func15, Try.ntmps15
      go_upto_region 8 with fail
      clear hxm hx4 hnI h40I hn4 hbigI
      generalize (⟨#[68, 80, 75, 49]⟩ : ByteArray) = mg
      go_cut [23] (fun s23 wx => ∃ b, s23 = .bool b ∧ (b = false ↔ dg = p.drop n) ∧ Ext w wx)
      case first =>
          refine wp_region_calm Ext 10 ([] :: [] :: [(24, 0), (25, 1)] :: [(26, 2)] :: [(27, 3)] :: [] :: [] :: [(29, 5), (30, 6)] :: [(28, 4), (31, 7)] :: [(32, 8)] :: [])
            ((24, 0) :: (25, 1) :: (26, 2) :: (27, 3) :: (28, 4) :: (29, 5) :: (30, 6) :: (31, 7) :: (32, 8) :: (23, 9) :: [])
            (EqV ?sce0 :: EqV ?sce1 :: EqV (.string (strOf (p.take n))) :: (fun W u => ∃ k, u = .slice (some ⟨k, 0, none⟩) 1 1 ∧ Blk W k 9 [.string (strOf (p.take n))]) :: EqV (.string (strOf dg)) :: EqV ?sce5 :: EqV ?sce6 :: EqV (.string (strOf (p.drop n))) :: EqV ?sce8 :: EqV ?sce9 :: []) hm (by kernel_rfl) Ext.refl (fun _ _ _ => Ext.trans) Ext.drew
            (MonoL.at (MonoL.eq _ (MonoL.eq _ (MonoL.eq _ (MonoL.cons (fun W W' u hR h => by obtain ⟨k, h1, h2⟩ := h; exact ⟨k, h1, h2.ext hR⟩) (MonoL.eq _ (MonoL.eq _ (MonoL.eq _ (MonoL.eq _ (MonoL.eq _ (MonoL.eq _ (MonoL.nil)))))))))))) ?scalmOps ?scalmDone
          case scalmOps =>
            intro vs
            refine (CalmOps.cons ?_ (CalmOps.cons ?_ (CalmOps.cons ?_ (CalmOps.cons ?_ (CalmOps.cons ?_ (CalmOps.cons ?_ (CalmOps.cons ?_ (CalmOps.cons ?_ (CalmOps.cons ?_ (CalmOps.cons ?_ trivial))))))))))
            · intro w hR hL; simp [Look, VAt, EqV] at hL; simp [Guarded, setAll, bare, hL]; go_wp2_with fail; exact CalmPost.mk (by first | (simp; done) | (simp; rfl) | rfl) rfl (Ext.refl _)
            · intro w hR hL; simp [Look, VAt, EqV] at hL; simp [Guarded, setAll, bare, hL]; go_wp2_with fail; exact CalmPost.mk (by first | (simp; done) | (simp; rfl) | rfl) rfl (Ext.refl _)
            · intro w hR hL; simp [Look, VAt, EqV] at hL; simp [Guarded, setAll, bare, hL]; go_wp2_with fail; exact CalmPost.mk (by first | (simp; done) | (simp; rfl) | rfl) rfl (Ext.refl _)
            · intro w hR hL; simp [Look, VAt, EqV] at hL; simp [Guarded, setAll, bare, hL]; go_wp2_with fail; exact CalmPost.mk (by first | (simp; done) | (simp; rfl) | rfl) ⟨_, rfl, Blk.new w 9 [.string (strOf (p.take n))]⟩ (Ext.alloc _ _)
            · intro w hR hL; simp [Look, VAt, EqV] at hL; obtain ⟨k3, hL3, hB3⟩ := hL; have KB3 := Kept.mk hB3; clear hB3; simp [Guarded, setAll, bare, hL3]; clear hL3; go_wp2_with fail; have hfl : Sha2.flat [strOf (p.take n)] = p.take n := by simp [Sha2.flat, strOf_list]
              refine (Sha2.sumOf_any (some ⟨k3, 0, none⟩) 1 [strOf (p.take n)] _ (Row.of_blk KB3.out) (by intro j hj; simp [own] at hj; subst hj; exact KB3.out.lt) (by rw [hfl, List.length_take]; omega) (by simp)).mono ?_
              rintro e wz ⟨rfl, hEz⟩
              rw [hfl, KD.out]
              go_wp2_with fail
              exact CalmPost.mk (by first | (simp; done) | (simp; rfl) | rfl) rfl hEz
            · intro w hR hL; simp [Look, VAt, EqV] at hL; simp [Guarded, setAll, bare, hL]; go_wp2_with fail; exact CalmPost.mk (by first | (simp; done) | (simp; rfl) | rfl) rfl (Ext.refl _)
            · intro w hR hL; simp [Look, VAt, EqV] at hL; simp [Guarded, setAll, bare, hL]; go_wp2_with fail; exact CalmPost.mk (by first | (simp; done) | (simp; rfl) | rfl) rfl (Ext.refl _)
            · intro w hR hL; simp [Look, VAt, EqV] at hL; simp [Guarded, setAll, bare, hL]; go_wp2_with fail; exact CalmPost.mk (by first | (simp; done) | (simp; rfl) | rfl) rfl (Ext.refl _)
            · intro w hR hL; simp [Look, VAt, EqV] at hL; simp [Guarded, setAll, bare, hL]; go_wp2_with fail; exact CalmPost.mk (by first | (simp; done) | (simp; rfl) | rfl) rfl (Ext.refl _)
            · intro w hR hL; simp [Look, VAt, EqV] at hL; simp [Guarded, setAll, bare, hL]; go_wp2_with fail; exact CalmPost.mk (by first | (simp; done) | (simp; rfl) | rfl) rfl (Ext.refl _)
          case scalmDone =>
            intro vs w6 hR hL
            simp [Look, VAt, EqV] at hL
            obtain ⟨L0, L1, L2, ⟨k3, L3, -⟩, L4, L5, L6, L7, L8, L9⟩ := hL
            simp [setAll, L0, L1, L2, L3, L4, L5, L6, L7, L8, L9]
            clear L0 L1 L2 L3 L4 L5 L6 L7 L8 L9
            have KR := Kept.mk hR
            clear hR
            go_wp2_with fail
            go_meet
            refine ⟨_, rfl, ?_, KR.out⟩
            rw [ByteArray.toList_eq, ByteArray.toList_eq, strOf_list, strOf_list]
            simp
      case rest =>
        obtain ⟨b, rfl, hbd, hE1⟩ := hcut
        have KE1 := Kept.mk hE1
        clear hE1
        by_cases hd : dg = p.drop n
        · obtain rfl : b = false := hbd.2 hd
          have Kr1 : Kept (readP p = if 512 < Delta.val4 (p.drop 4) then ([], [], 9) else runP (Delta.val4 (p.drop 4)) [] [] ((p.take n).drop 8)) := Kept.mk (by rw [Kr0.out, if_neg (by simp [hd])])
          obtain ⟨s0, hs0⟩ : ∃ s, s = (p.take n).drop 4 := ⟨_, rfl⟩
          have hs0l : 4 ≤ s0.length := by rw [hs0, List.length_drop, List.length_take]; omega
          have hs0m : s0.length ≤ 900000 := by rw [hs0, List.length_drop, List.length_take]; omega
          have hv0 : Delta.val4 (p.drop 4) = Delta.val4 s0 := by
            rw [hs0, List.drop_take]
            exact val4_take _ _ (by omega)
          have hd0 : (p.take n).drop 8 = s0.drop 4 := by rw [hs0, List.drop_drop]
          rw [hv0, hd0] at Kr1
          rw [← hs0] at hxs
          have Kx := Kept.mk hxs
          clear hs0 hv0 hd0 hbd hd Kr0 hxn hx0
          have KR0 : Kept (∀ W : World, Ext w W → RdAt (W.alloc (.cells #[.string (strOf s0), .slice none 0 0, .slice none 0 0] 48)) w.heap.size W.heap.size (.slice none 0 0) (.slice none 0 0) [] [] s0) := Kept.mk (fun W hW =>
            ⟨Blk.new W 48 [.string (strOf s0), .slice none 0 0, .slice none 0 0], BufS.nil 2 _ _ _, Buf.nil _ _ _, hW.size, by simp [own], by simp [own], fun j hj => by simp [own] at hj⟩)
          have hw1 := KE1.out.size
          go_wp2_with fail
          refine (number_any w.heap.size _ (.slice none 0 0) (.slice none 0 0) [] [] s0 (by omega) _ (KR0.out _ KE1.out)).mono ?_
          unfold NumE
          rw [if_neg (by omega), if_neg (by omega), decide_eq_true (by omega)]
          rintro e w2 ⟨rfl, hR2, hT2⟩
          have KR2 := Kept.mk hR2
          have KE2 : Kept (Ext w w2) := Kept.mk (Touch.below (KE1.out.trans (Ext.alloc _ _)) hT2 (fun j hj => by rw [List.mem_singleton] at hj; omega) (by have := KE1.out.size; simp; omega))
          clear hR2 hT2 KR0
          have hc := val4_lt s0
          obtain ⟨s1, hs1⟩ : ∃ s, s = s0.drop 4 := ⟨_, rfl⟩
          have hs1m : s1.length ≤ 900000 := by rw [hs1, List.length_drop]; omega
          rw [← hs1] at KR2 Kr1
          generalize Delta.val4 s0 = cnt at hc Kr1 ⊢
          clear hs1 Kx KE1
          by_cases h512 : 512 < cnt
          · have h512I : (cnt : Int) > 512 := by omega
            have Kr2 := Kept.mk (show readP p = ([], [], 9) from by rw [Kr1.out, if_pos h512])
            go_wp2_with fail
            exact bodyPost_ret (v := .tuple #[.pointer none, .int .i64 9]) (by simp [results, Try.results15, go_sem]) rfl (by unfold ReadE; rw [Kr2.out]; exact ⟨none, rfl, KE2.out, fun h => by cases h⟩)
          · have h512I : ¬ (cnt : Int) > 512 := by omega
            obtain ⟨R0, hR0⟩ : ∃ R, R = runP cnt [] [] s1 := ⟨_, rfl⟩
            have Kr2 := Kept.mk (show readP p = R0 from by rw [Kr1.out, if_neg h512, hR0])
            have Krun := Kept.mk hR0.symm
            generalize wc.heap.size = g at KR2 ⊢
            clear hR0 Kr1
            go_wp2_with fail
            go_loopg [8, 46] cnt (fun r _ iv wi => ∃ (i : Nat) (its : List It) (chs : List Int) (s : List UInt8) (vi vc : Value), i + r = cnt ∧ iv = .int .i64 (i : Int) ∧ Kept (Small its chs ∧ its.length = i ∧ RdAt wi w.heap.size g vi vc its chs s ∧ Ext w wi ∧ runP (cnt - i) its chs s = R0) ∧ s.length ≤ 900000)
            case atStart => exact ⟨0, [], [], s1, _, _, by omega, rfl, Kept.mk ⟨Small.nil, rfl, KR2.out, KE2.out, Krun.out⟩, hs1m⟩
            case round =>
              obtain ⟨i, its, chs, s, vi, vc, hr, rfl, KK, hsl⟩ := hrel
              have Kr := Kept.mk hr
              have hil : i ≤ cnt := by omega
              clear hr KR2 KE2 Krun
              by_cases hlt : i < cnt
              · have hltI : (i : Int) < (cnt : Int) := by omega
                go_wp2_with fail
                refine (item_any w _ KK.out.2.2.2.1 g vi vc its chs KK.out.1 s hsl KK.out.2.2.1).mono ?_
                rintro e w3 ⟨rfl, hE3, hR3⟩
                have KE3 := Kept.mk hE3
                have Kstep : Kept (runP (cnt - i) its chs s = if (itemP its chs s).e = 0 then runP (cnt - (i + 1)) (itemP its chs s).its (itemP its chs s).chs (itemP its chs s).s else ([], [], (itemP its chs s).e)) := Kept.mk (by
                  rw [show cnt - i = (cnt - (i + 1)) + 1 by omega]; rfl)
                by_cases h0 : (itemP its chs s).e = 0
                · obtain ⟨vi', vc', hR4⟩ := hR3 h0
                  have hsm := item_small KK.out.1 (by rw [KK.out.2.1]; omega) s h0
                  have KN := Kept.mk (show Small (itemP its chs s).its (itemP its chs s).chs ∧ (itemP its chs s).its.length = i + 1 ∧ RdAt w3 w.heap.size g vi' vc' (itemP its chs s).its (itemP its chs s).chs (itemP its chs s).s ∧ Ext w w3 ∧ runP (cnt - (i + 1)) (itemP its chs s).its (itemP its chs s).chs (itemP its chs s).s = R0 from
                    ⟨hsm.1, by rw [hsm.2.1, KK.out.2.1], hR4, KE3.out, by have := Kstep.out; rw [if_pos h0] at this; rw [← this]; exact KK.out.2.2.2.2⟩)
                  have hsl2 : (itemP its chs s).s.length ≤ 900000 := Nat.le_trans hsm.2.2 hsl
                  rw [h0]
                  clear hsm hR4 hR3 hE3 Kstep h0 KK
                  go_wp2_with fail
                  go_roundg (gk - 1)
                  case measure => have := Kr.out; omega
                  case rel => exact ⟨i + 1, _, _, _, _, _, by have := Kr.out; omega, by first | rfl | simp, KN, hsl2⟩
                · have Kr3 := Kept.mk (show readP p = ([], [], (itemP its chs s).e) from by rw [Kr2.out, ← KK.out.2.2.2.2, Kstep.out, if_neg h0])
                  have hne : ((itemP its chs s).e != 0) = true := by simpa using h0
                  generalize (itemP its chs s).e = ee at hne Kr3 ⊢
                  clear hR3 hE3 Kstep h0 KK
                  have Kne := Kept.mk (show ee ≠ 0 from by simpa using hne)
                  go_wp2_with fail
                  exact bodyPost_ret (v := .tuple #[.pointer none, .int .i64 ee]) (by simp [results, Try.results15, go_sem]) rfl (by unfold ReadE; rw [Kr3.out]; exact ⟨none, rfl, KE3.out, fun h => absurd h Kne.out⟩)
              · have hltI : ¬ (i : Int) < (cnt : Int) := by omega
                have hie : cnt - i = 0 := by omega
                have Kend := Kept.mk (show R0 = if s = [] then (its, chs, 0) else ([], [], 3) from by
                  rw [← KK.out.2.2.2.2, hie]; rfl)
                have c0 := KK.out.2.2.1.blk.cell 0
                simp only [List.getElem?_cons_zero] at c0
                clear hie
                by_cases hs : s = []
                · have Kr3 := Kept.mk (show readP p = (its, chs, 0) from by rw [Kr2.out, Kend.out, if_pos hs])
                  subst hs
                  have hne : (strOf []).toList.isEmpty = true := by rw [ByteArray.toList_eq]; rfl
                  go_wp2_with fail
                  exact bodyPost_ret (v := .tuple #[.pointer (some ⟨g, 0, none⟩), .int .i64 0]) (by simp [results, Try.results15, go_sem]) rfl (by unfold ReadE; rw [Kr3.out]; exact ⟨_, rfl, KK.out.2.2.2.1, fun _ => ⟨g, vi, vc, rfl, KK.out.2.2.1⟩⟩)
                · have Kr3 := Kept.mk (show readP p = ([], [], 3) from by rw [Kr2.out, Kend.out, if_neg hs])
                  have hne : (strOf s).toList.isEmpty = false := by
                    rw [ByteArray.toList_eq, strOf_list]; cases s with
                    | nil => exact absurd rfl hs
                    | cons a r => rfl
                  clear hs
                  go_wp2_with fail
                  exact bodyPost_ret (v := .tuple #[.pointer none, .int .i64 3]) (by simp [results, Try.results15, go_sem]) rfl (by unfold ReadE; rw [Kr3.out]; exact ⟨none, rfl, KK.out.2.2.2.1, fun h => by cases h⟩)
        · obtain rfl : b = true := by cases b with
            | true => rfl
            | false => exact absurd (hbd.1 rfl) hd
          have Kr1 : Kept (readP p = ([], [], 14)) := Kept.mk (by rw [Kr0.out, if_pos hd])
          clear hd hbd
          go_wp2_with fail
          exact bodyPost_ret (v := .tuple #[.pointer none, .int .i64 14]) (by simp [results, Try.results15, go_sem]) rfl (by unfold ReadE; rw [Kr1.out]; exact ⟨none, rfl, KE1.out, fun h => by cases h⟩)
    · have hneq : ((strOf (p.take 4)).toList == [68, 80, 75, 49]) = false := by rw [ByteArray.toList_eq, strOf_list]; simpa using hmg
      have Kr : Kept (readP p = ([], [], 3)) := Kept.mk (by unfold readP; rw [if_neg (by omega), if_neg h40, if_pos hmg])
      have h4I : (4 : Int) ≤ (p.length : Int) := by omega
      clear hn h40 hmg
      go_enter Try.func15, Try.ntmps15
      go_wp2_with fail
      exact bodyPost_ret (v := .tuple #[.pointer none, .int .i64 3]) (by simp [results, Try.results15, go_sem]) rfl (by unfold ReadE; rw [Kr.out]; exact ⟨none, rfl, Ext.refl _, fun h => by cases h⟩)
end Pack
end Go.Proofs.Ytgnbbklnobladaa
