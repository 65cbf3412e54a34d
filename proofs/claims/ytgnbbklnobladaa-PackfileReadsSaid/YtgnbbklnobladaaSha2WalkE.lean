/- The walks of SHA-256 of strings: Sum; the document's Fill. No condition. -/
import Derived.Test.YtgnbbklnobladaaSha2WalkD
namespace Go.Proofs.Ytgnbbklnobladaa
open Go.RowKit
namespace Sha2

set_option linter.unusedSimpArgs false
set_option linter.unusedVariables false
set_option maxRecDepth 100000 in
set_option maxHeartbeats 2000000 in
theorem sumOf_any (A : Option Addr) (c : Nat) (l : List ByteArray) (w : World) (hA : Row w A (l.map strV)) (hAp : ∀ j ∈ own (.slice A 0 0), j < w.heap.size) (hlen : (flat l).length ≤ 400000000) (hl : l.length ≤ 1000000000) :
    Calls Try.prog 22 #[.slice A l.length c] w (StrIs w (digest (flat l))) := by
  go_enter Try.func22, Try.ntmps22
  go_wp2_with fail
  refine (new_any _).mono ?_
  rintro e w1 ⟨p, rfl, hp, h1, hb⟩
  go_wp2_with fail
  refine (write_any p [] A c l w1 hb (hA.ext h1) (fun _ hj => by have := hAp _ hj; omega) (by simp; omega) hl).mono ?_
  rintro e w2 ⟨rfl, hb2, ht2⟩
  rw [List.nil_append] at hb2
  have hE2 : Ext w w2 := Touch.below h1 ht2 (by intro j hj; simp at hj; subst hj; exact hp) h1.size
  go_wp2_with fail
  refine (sum_any p (flat l) w2 hb2 (by omega)).mono ?_
  rintro e w3 ⟨rfl, h3⟩
  go_wp2_with fail
  go_ret
  exact ⟨rfl, hE2.trans h3⟩

set_option maxRecDepth 100000 in
set_option maxHeartbeats 2000000 in
theorem fill_any (s : ByteArray) (hs : s.size ≤ 400000000) (w : World) : Calls Try.prog 24 #[.string s] w (StrIs w (pad s.data.toList)) := by
  obtain ⟨iB, hiB, hzB, hsB, hbB⟩ := infoB
  obtain ⟨S, hS⟩ : ∃ S, S = s.size := ⟨_, rfl⟩
  have hsl : s.data.toList.length = S := by rw [hS]; simp
  obtain ⟨cap0, w0, hk0, h0, hv0⟩ := conv_bytes (P := Try.prog) w 9 54 5 Try.underlying9 Try.underlying54 Try.underlying5 w.heap.size (Nat.le_refl _) s (by simp only [maxLen]; omega)
  have hl0 : (bytesV s.data.toList).length = S := by rw [bytesV_length, hsl]
  rw [← hS] at hk0 hv0 hs
  have KS := Kept.mk hS
  clear hS
  go_enter Try.func24, Try.ntmps24
  go_wp2_with (refine wpList_append_lit (P := Try.prog) w0 rfl (.tmp 7) (.tmp 8) 54 rfl 5 iB (.int .u8 0) Try.underlying54 hiB hzB hsB rfl w.heap.size (.slice (some ⟨w.heap.size, 0, none⟩) S cap0) (bytesV s.data.toList) rfl hv0 [.int .u8 128] 1 rfl rfl (by simp [Value.oneCell']) h0.size (by rw [hl0]; simp only [maxLen]; omega) (by rw [hl0, hbB]; omega) ?_)
  intro v1 w1 hv1 ht1 ho1
  have hv1 := Buf.byte (b := 128) hv1 rfl
  have hE1 : Ext w w1 := Touch.below h0 ht1 (fun j hj => (hv0.owns j hj).1) h0.size
  obtain ⟨A1, cap1, rfl⟩ := hv1.form
  rw [show (bytesV (s.data.toList ++ [128])).length = S + 1 by rw [bytesV_length, List.length_append, hsl]; rfl] at hv1 ⊢
  have hM : (119 - S % 64) % 64 = (119 - S % 64) % 64 := rfl
  obtain ⟨Z, hZ⟩ : ∃ Z, Z = (119 - S % 64) % 64 := ⟨_, rfl⟩
  have KV1 := Kept.mk hv1
  have KE1 := Kept.mk hE1
  clear hv1 hE1 ht1 ho1 hM
  go_wp2_with fail
  go_loopg [3] Z (fun r s3 wi => ∃ (z : Nat) (A : Option Addr) (cap : Nat), z + r = Z ∧ s3 = .slice A (S + 1 + z) cap ∧ Buf wi w.heap.size 5 (.slice A (S + 1 + z) cap) (bytesV (s.data.toList ++ 128 :: List.replicate z 0)) ∧ Ext w wi)
  case atStart => exact ⟨0, A1, cap1, by omega, rfl, KV1.out, KE1.out⟩
  case round =>
    clear KV1 KE1 hk0 hv0
    obtain ⟨z, A, cap, hz, rfl, hv, hE⟩ := hrel
    have KV := Kept.mk hv
    have KE := Kept.mk hE
    have hBw := hE.size
    clear hv hE
    have hzb : z ≤ 63 := by omega
    have hll : (bytesV (s.data.toList ++ 128 :: List.replicate z 0)).length = S + 1 + z := by rw [bytesV_length, List.length_append, hsl]; simp; omega
    by_cases hlt : z < Z
    · have hne : ((((S : Int) + 1 + (z : Int)) % 64) != 56) = true := by rw [bne_iff_ne]; omega
      go_wp2_with (refine wpList_append_lit (P := Try.prog) wr rfl (.tmp 14) (.tmp 15) 54 rfl 5 iB (.int .u8 0) Try.underlying54 hiB hzB hsB rfl w.heap.size (.slice A (S + 1 + z) cap) (bytesV (s.data.toList ++ 128 :: List.replicate z 0)) rfl KV.out [.int .u8 0] 1 rfl rfl (by simp [Value.oneCell']) hBw (by rw [hll]; simp only [maxLen]; omega) (by rw [hll, hbB]; omega) ?_)
      intro v' w' hv' ht' ho'
      have hv' := Buf.byte (b := 0) hv' rfl
      rw [List.append_assoc, List.cons_append, ← List.replicate_succ'] at hv'
      have hE' : Ext w w' := Touch.below KE.out ht' (fun j hj => (KV.out.owns j hj).1) hBw
      obtain ⟨A', cap', rfl⟩ := hv'.form
      rw [show (bytesV (s.data.toList ++ 128 :: List.replicate (z + 1) 0)).length = S + 1 + (z + 1) by rw [bytesV_length, List.length_append, hsl]; simp; omega] at hv' ⊢
      have KV := Kept.mk hv'
      have KE := Kept.mk hE'
      clear hv' hE' ht' ho'
      go_wp2_with fail
      go_roundg (gk - 1)
      case measure => omega
      case rel => exact ⟨z + 1, A', cap', by omega, rfl, KV.out, KE.out⟩
    · obtain rfl : z = Z := by omega
      have heq : ((((S : Int) + 1 + (z : Int)) % 64) != 56) = false := by rw [bne_eq_false_iff_eq]; omega
      obtain ⟨N, hN⟩ : ∃ N, N = 8 * S % 2 ^ 64 := ⟨_, rfl⟩
      have hN8 : N = 8 * S := by omega
      have KP := Kept.mk (show s.data.toList ++ 128 :: List.replicate z 0 ++ be8 N = pad s.data.toList by rw [hN, ← hsl, pad, tailB, List.append_assoc, hsl, ← hZ])
      have hn8 : ((S : Int) * 8) % 18446744073709551616 = (S : Int) * 8 := by omega
      have hn1 : (S : Int) % 18446744073709551616 = (S : Int) := by omega
      have KN8 := Kept.mk hN8
      have KZ := Kept.mk hZ
      clear hN hN8 hZ
      generalize s.data.toList ++ 128 :: List.replicate z 0 = tl at KV hll KP
      have hsz : (s.size : Int) = S := by rw [KS.out]
      go_wp2_with fail
      obtain ⟨go, rfl⟩ : ∃ n : Nat, n = gk := ⟨_, rfl⟩
      go_loopg [3, 5] 8 (fun r s3 i wi => ∃ (k : Nat) (A : Option Addr) (cap : Nat), k + r = 8 ∧ i = .int .i64 (7 - (k : Int)) ∧ s3 = .slice A (S + 1 + z + k) cap ∧ Buf wi w.heap.size 5 (.slice A (S + 1 + z + k) cap) (bytesV (tl ++ (be8 N).take k)) ∧ Ext w wi)
      case atStart => exact ⟨0, A, cap, rfl, rfl, rfl, by simpa using KV.out, KE.out⟩
      case round =>
        clear KV KE heq hz hlt hBw
        obtain ⟨k, A, cap, hk, rfl, rfl, hv, hE⟩ := hrel
        have hBw := hE.size
        have hl8 : k ≤ 8 → (bytesV (tl ++ (be8 N).take k)).length = S + 1 + z + k := fun h => by rw [bytesV_append, List.length_append, hll, bytesV_length]; simp [be8]; omega
        have KV := Kept.mk hv
        have KE := Kept.mk hE
        clear hv hE
        by_cases hlt : k < 8
        · have hb8 := be8_next N k hlt
          have hl9 := hl8 (by omega)
          clear hl8
          have hkc : k = 0 ∨ k = 1 ∨ k = 2 ∨ k = 3 ∨ k = 4 ∨ k = 5 ∨ k = 6 ∨ k = 7 := by omega
          have KB := Kept.mk hb8
          clear hb8
          rcases hkc with rfl | rfl | rfl | rfl | rfl | rfl | rfl | rfl
          · go_wp2_with (refine wpList_append_lit (P := Try.prog) wr rfl (.tmp 25) (.tmp 32) 54 rfl 5 iB (.int .u8 0) Try.underlying54 hiB hzB hsB rfl w.heap.size (.slice A (S + 1 + z + 0) cap) (bytesV (tl ++ (be8 N).take 0)) rfl KV.out [.int .u8 _] 1 rfl rfl (by simp [Value.oneCell']) hBw (by rw [hl9]; simp only [maxLen]; omega) (by rw [hl9, hbB]; omega) ?_)
            intro v' w' hv' ht' ho'
            have hv' : Buf w' w.heap.size 5 v' (bytesV (tl ++ (be8 N).take (0 + 1))) := by
              rw [KB.out, ← List.append_assoc]
              exact Buf.byte (l := tl ++ (be8 N).take 0) (by simpa using hv') (by have := KN8.out; simp; omega)
            have hE' : Ext w w' := Touch.below KE.out ht' (fun j hj => (KV.out.owns j hj).1) hBw
            obtain ⟨A', cap', rfl⟩ := hv'.form
            rw [show (bytesV (tl ++ (be8 N).take (0 + 1))).length = S + 1 + z + (0 + 1) by rw [bytesV_length, List.length_append, ← bytesV_length tl, hll]; simp [be8]] at hv' ⊢
            have KV := Kept.mk hv'
            have KE := Kept.mk hE'
            clear hv' hE' ht' ho'
            go_wp2_with fail
            go_roundg (gk - 1)
            case measure => omega
            case rel => exact ⟨0 + 1, A', cap', by omega, by first | rfl | go_num, rfl, KV.out, KE.out⟩
          · go_wp2_with (refine wpList_append_lit (P := Try.prog) wr rfl (.tmp 25) (.tmp 32) 54 rfl 5 iB (.int .u8 0) Try.underlying54 hiB hzB hsB rfl w.heap.size (.slice A (S + 1 + z + 1) cap) (bytesV (tl ++ (be8 N).take 1)) rfl KV.out [.int .u8 _] 1 rfl rfl (by simp [Value.oneCell']) hBw (by rw [hl9]; simp only [maxLen]; omega) (by rw [hl9, hbB]; omega) ?_)
            intro v' w' hv' ht' ho'
            have hv' : Buf w' w.heap.size 5 v' (bytesV (tl ++ (be8 N).take (1 + 1))) := by
              rw [KB.out, ← List.append_assoc]
              exact Buf.byte (l := tl ++ (be8 N).take 1) (by simpa using hv') (by have := KN8.out; simp; omega)
            have hE' : Ext w w' := Touch.below KE.out ht' (fun j hj => (KV.out.owns j hj).1) hBw
            obtain ⟨A', cap', rfl⟩ := hv'.form
            rw [show (bytesV (tl ++ (be8 N).take (1 + 1))).length = S + 1 + z + (1 + 1) by rw [bytesV_length, List.length_append, ← bytesV_length tl, hll]; simp [be8]] at hv' ⊢
            have KV := Kept.mk hv'
            have KE := Kept.mk hE'
            clear hv' hE' ht' ho'
            go_wp2_with fail
            go_roundg (gk - 1)
            case measure => omega
            case rel => exact ⟨1 + 1, A', cap', by omega, by first | rfl | go_num, rfl, KV.out, KE.out⟩
          · go_wp2_with (refine wpList_append_lit (P := Try.prog) wr rfl (.tmp 25) (.tmp 32) 54 rfl 5 iB (.int .u8 0) Try.underlying54 hiB hzB hsB rfl w.heap.size (.slice A (S + 1 + z + 2) cap) (bytesV (tl ++ (be8 N).take 2)) rfl KV.out [.int .u8 _] 1 rfl rfl (by simp [Value.oneCell']) hBw (by rw [hl9]; simp only [maxLen]; omega) (by rw [hl9, hbB]; omega) ?_)
            intro v' w' hv' ht' ho'
            have hv' : Buf w' w.heap.size 5 v' (bytesV (tl ++ (be8 N).take (2 + 1))) := by
              rw [KB.out, ← List.append_assoc]
              exact Buf.byte (l := tl ++ (be8 N).take 2) (by simpa using hv') (by have := KN8.out; simp; omega)
            have hE' : Ext w w' := Touch.below KE.out ht' (fun j hj => (KV.out.owns j hj).1) hBw
            obtain ⟨A', cap', rfl⟩ := hv'.form
            rw [show (bytesV (tl ++ (be8 N).take (2 + 1))).length = S + 1 + z + (2 + 1) by rw [bytesV_length, List.length_append, ← bytesV_length tl, hll]; simp [be8]] at hv' ⊢
            have KV := Kept.mk hv'
            have KE := Kept.mk hE'
            clear hv' hE' ht' ho'
            go_wp2_with fail
            go_roundg (gk - 1)
            case measure => omega
            case rel => exact ⟨2 + 1, A', cap', by omega, by first | rfl | go_num, rfl, KV.out, KE.out⟩
          · go_wp2_with (refine wpList_append_lit (P := Try.prog) wr rfl (.tmp 25) (.tmp 32) 54 rfl 5 iB (.int .u8 0) Try.underlying54 hiB hzB hsB rfl w.heap.size (.slice A (S + 1 + z + 3) cap) (bytesV (tl ++ (be8 N).take 3)) rfl KV.out [.int .u8 _] 1 rfl rfl (by simp [Value.oneCell']) hBw (by rw [hl9]; simp only [maxLen]; omega) (by rw [hl9, hbB]; omega) ?_)
            intro v' w' hv' ht' ho'
            have hv' : Buf w' w.heap.size 5 v' (bytesV (tl ++ (be8 N).take (3 + 1))) := by
              rw [KB.out, ← List.append_assoc]
              exact Buf.byte (l := tl ++ (be8 N).take 3) (by simpa using hv') (by have := KN8.out; simp; omega)
            have hE' : Ext w w' := Touch.below KE.out ht' (fun j hj => (KV.out.owns j hj).1) hBw
            obtain ⟨A', cap', rfl⟩ := hv'.form
            rw [show (bytesV (tl ++ (be8 N).take (3 + 1))).length = S + 1 + z + (3 + 1) by rw [bytesV_length, List.length_append, ← bytesV_length tl, hll]; simp [be8]] at hv' ⊢
            have KV := Kept.mk hv'
            have KE := Kept.mk hE'
            clear hv' hE' ht' ho'
            go_wp2_with fail
            go_roundg (gk - 1)
            case measure => omega
            case rel => exact ⟨3 + 1, A', cap', by omega, by first | rfl | go_num, rfl, KV.out, KE.out⟩
          · go_wp2_with (refine wpList_append_lit (P := Try.prog) wr rfl (.tmp 25) (.tmp 32) 54 rfl 5 iB (.int .u8 0) Try.underlying54 hiB hzB hsB rfl w.heap.size (.slice A (S + 1 + z + 4) cap) (bytesV (tl ++ (be8 N).take 4)) rfl KV.out [.int .u8 _] 1 rfl rfl (by simp [Value.oneCell']) hBw (by rw [hl9]; simp only [maxLen]; omega) (by rw [hl9, hbB]; omega) ?_)
            intro v' w' hv' ht' ho'
            have hv' : Buf w' w.heap.size 5 v' (bytesV (tl ++ (be8 N).take (4 + 1))) := by
              rw [KB.out, ← List.append_assoc]
              exact Buf.byte (l := tl ++ (be8 N).take 4) (by simpa using hv') (by have := KN8.out; simp; omega)
            have hE' : Ext w w' := Touch.below KE.out ht' (fun j hj => (KV.out.owns j hj).1) hBw
            obtain ⟨A', cap', rfl⟩ := hv'.form
            rw [show (bytesV (tl ++ (be8 N).take (4 + 1))).length = S + 1 + z + (4 + 1) by rw [bytesV_length, List.length_append, ← bytesV_length tl, hll]; simp [be8]] at hv' ⊢
            have KV := Kept.mk hv'
            have KE := Kept.mk hE'
            clear hv' hE' ht' ho'
            go_wp2_with fail
            go_roundg (gk - 1)
            case measure => omega
            case rel => exact ⟨4 + 1, A', cap', by omega, by first | rfl | go_num, rfl, KV.out, KE.out⟩
          · go_wp2_with (refine wpList_append_lit (P := Try.prog) wr rfl (.tmp 25) (.tmp 32) 54 rfl 5 iB (.int .u8 0) Try.underlying54 hiB hzB hsB rfl w.heap.size (.slice A (S + 1 + z + 5) cap) (bytesV (tl ++ (be8 N).take 5)) rfl KV.out [.int .u8 _] 1 rfl rfl (by simp [Value.oneCell']) hBw (by rw [hl9]; simp only [maxLen]; omega) (by rw [hl9, hbB]; omega) ?_)
            intro v' w' hv' ht' ho'
            have hv' : Buf w' w.heap.size 5 v' (bytesV (tl ++ (be8 N).take (5 + 1))) := by
              rw [KB.out, ← List.append_assoc]
              exact Buf.byte (l := tl ++ (be8 N).take 5) (by simpa using hv') (by have := KN8.out; simp; omega)
            have hE' : Ext w w' := Touch.below KE.out ht' (fun j hj => (KV.out.owns j hj).1) hBw
            obtain ⟨A', cap', rfl⟩ := hv'.form
            rw [show (bytesV (tl ++ (be8 N).take (5 + 1))).length = S + 1 + z + (5 + 1) by rw [bytesV_length, List.length_append, ← bytesV_length tl, hll]; simp [be8]] at hv' ⊢
            have KV := Kept.mk hv'
            have KE := Kept.mk hE'
            clear hv' hE' ht' ho'
            go_wp2_with fail
            go_roundg (gk - 1)
            case measure => omega
            case rel => exact ⟨5 + 1, A', cap', by omega, by first | rfl | go_num, rfl, KV.out, KE.out⟩
          · go_wp2_with (refine wpList_append_lit (P := Try.prog) wr rfl (.tmp 25) (.tmp 32) 54 rfl 5 iB (.int .u8 0) Try.underlying54 hiB hzB hsB rfl w.heap.size (.slice A (S + 1 + z + 6) cap) (bytesV (tl ++ (be8 N).take 6)) rfl KV.out [.int .u8 _] 1 rfl rfl (by simp [Value.oneCell']) hBw (by rw [hl9]; simp only [maxLen]; omega) (by rw [hl9, hbB]; omega) ?_)
            intro v' w' hv' ht' ho'
            have hv' : Buf w' w.heap.size 5 v' (bytesV (tl ++ (be8 N).take (6 + 1))) := by
              rw [KB.out, ← List.append_assoc]
              exact Buf.byte (l := tl ++ (be8 N).take 6) (by simpa using hv') (by have := KN8.out; simp; omega)
            have hE' : Ext w w' := Touch.below KE.out ht' (fun j hj => (KV.out.owns j hj).1) hBw
            obtain ⟨A', cap', rfl⟩ := hv'.form
            rw [show (bytesV (tl ++ (be8 N).take (6 + 1))).length = S + 1 + z + (6 + 1) by rw [bytesV_length, List.length_append, ← bytesV_length tl, hll]; simp [be8]] at hv' ⊢
            have KV := Kept.mk hv'
            have KE := Kept.mk hE'
            clear hv' hE' ht' ho'
            go_wp2_with fail
            go_roundg (gk - 1)
            case measure => omega
            case rel => exact ⟨6 + 1, A', cap', by omega, by first | rfl | go_num, rfl, KV.out, KE.out⟩
          · go_wp2_with (refine wpList_append_lit (P := Try.prog) wr rfl (.tmp 25) (.tmp 32) 54 rfl 5 iB (.int .u8 0) Try.underlying54 hiB hzB hsB rfl w.heap.size (.slice A (S + 1 + z + 7) cap) (bytesV (tl ++ (be8 N).take 7)) rfl KV.out [.int .u8 _] 1 rfl rfl (by simp [Value.oneCell']) hBw (by rw [hl9]; simp only [maxLen]; omega) (by rw [hl9, hbB]; omega) ?_)
            intro v' w' hv' ht' ho'
            have hv' : Buf w' w.heap.size 5 v' (bytesV (tl ++ (be8 N).take (7 + 1))) := by
              rw [KB.out, ← List.append_assoc]
              exact Buf.byte (l := tl ++ (be8 N).take 7) (by simpa using hv') (by have := KN8.out; simp; omega)
            have hE' : Ext w w' := Touch.below KE.out ht' (fun j hj => (KV.out.owns j hj).1) hBw
            obtain ⟨A', cap', rfl⟩ := hv'.form
            rw [show (bytesV (tl ++ (be8 N).take (7 + 1))).length = S + 1 + z + (7 + 1) by rw [bytesV_length, List.length_append, ← bytesV_length tl, hll]; simp [be8]] at hv' ⊢
            have KV := Kept.mk hv'
            have KE := Kept.mk hE'
            clear hv' hE' ht' ho'
            go_wp2_with fail
            go_roundg (gk - 1)
            case measure => omega
            case rel => exact ⟨7 + 1, A', cap', by omega, by first | rfl | go_num, rfl, KV.out, KE.out⟩
        · obtain rfl : k = 8 := by omega
          clear hl8
          have hbe : (be8 N).take 8 = be8 N := List.take_of_length_le (by simp [be8])
          rw [hbe, KP.out] at KV
          have kc : (convert 54 9 (.slice A (S + 1 + z + 8) cap)).run Try.prog wr = .ok (.string (strOf (pad s.data.toList))) wr := conv_buf wr _ _ _ Try.underlying54 Try.underlying5 Try.underlying9 _ KV.out
          go_wp2_with fail
          go_ret
          exact ⟨rfl, KE.out⟩
end Sha2
end Go.Proofs.Ytgnbbklnobladaa
