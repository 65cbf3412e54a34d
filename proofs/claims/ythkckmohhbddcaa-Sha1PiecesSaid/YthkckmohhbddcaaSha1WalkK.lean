/- The walk of SHA-1's state: Sum. No condition. -/
import Derived.Test.YthkckmohhbddcaaSha1WalkJ
import Derived.Test.YthkckmohhbddcaaBufMore
namespace Go.Proofs.Ythkckmohhbddcaa
open Go.RowKit
namespace Sha1

/-- A string; all else is as it was. -/
def StrIs (w : World) (l : List UInt8) (e : Ending) (w' : World) : Prop := e = .returned (.string (strOf l)) ∧ Ext w w'
/-- Behind the copy: its state, and the tail so far. -/
def Mid (w : World) (q : Nat) (v1 : Value) (m l : List UInt8) (v : Value) (wi : World) : Prop :=
  Blk wi q 50 (stC (midC m) v1 m.length) ∧ Buf wi w.heap.size 5 v1 (bytesV (restB m)) ∧ Ext w wi ∧ Buf wi w.heap.size 5 v (bytesV l) ∧ ∀ j ∈ own v, j ≠ q ∧ j ∉ own v1
theorem Mid.next {w : World} {q : Nat} {v1 : Value} {m l : List UInt8} {v : Value} {wi : World} (h : Mid w q v1 m l v wi) {l' : List UInt8} {v' : Value} {w' : World} (hv : Buf w' w.heap.size 5 v' (bytesV l')) (ht : Touch (own v) wi w')
    (ho : ∀ j ∈ own v', j ∈ own v ∨ wi.heap.size ≤ j) : Mid w q v1 m l' v' w' := by
  obtain ⟨hb, h1, hE, h2, h3⟩ := h
  refine ⟨hb.touch ht (fun hm => (h3 q hm).1 rfl), h1.touch ht (fun j hj hm => (h3 j hm).2 hj), Touch.below hE ht (fun j hj => (h2.owns j hj).1) hE.size, hv, fun j hj => ?_⟩
  rcases ho j hj with h | h
  · exact h3 j h
  · exact ⟨fun e => by have := hb.lt; omega, fun hm => by have := (h1.owns j hm).2; omega⟩
theorem digit4V (x : Int) : bytesV (digit4 x) = [.int .u8 (x / 16777216 % 256), .int .u8 (x / 65536 % 256), .int .u8 (x / 256 % 256), .int .u8 (x % 256)] := by
  have h : ∀ y : Int, ((UInt8.ofNat (y % 256).toNat).toNat : Int) = y % 256 := fun y => by
    have := Int.emod_nonneg y (show (256 : Int) ≠ 0 by decide)
    have := Int.emod_lt_of_pos y (show (0 : Int) < 256 by decide)
    simp; omega
  simp [bytesV, numsV, nb, digit4, -UInt8.toNat_ofNat', h]
theorem be8_next (N i : Nat) (h : i < 8) : (be8 N).take (i + 1) = (be8 N).take i ++ [UInt8.ofNat (N / 2 ^ (56 - 8 * i) % 256)] := by
  rw [List.take_succ_eq_append_getElem (by simpa [be8] using h)]
  simp [be8]
set_option linter.unusedSimpArgs false
set_option linter.unusedVariables false
set_option maxRecDepth 100000 in
set_option maxHeartbeats 2000000 in
theorem sum_any (B p : Nat) (v0 : Value) (m : List UInt8) (w : World) (hb : Blk w p 50 (stC (midC m) v0 m.length)) (hv : Buf w B 5 v0 (bytesV (restB m))) (hlen : m.length ≤ 500000000) :
    Calls Try.prog 13 #[.pointer (some ⟨p, 0, none⟩)] w (StrIs w (digest m)) := by
  obtain ⟨iB, hiB, hzB, hsB, hbB⟩ := infoB
  have hzU := zero_run (P := Try.prog) infoB0
  have hc6 : w.cell? ⟨p, 6, none⟩ = some (.int .u64 (m.length : Int)) := hb.cell 6
  have hr1 := restB_length m
  go_enter Try.func13, Try.ntmps13
  go_wp2_with fail
  refine (copy_any B p v0 (midC m) (restB m) m.length w hb hv (by rw [hr1]; omega)).mono ?_
  rintro e w1 ⟨q, v1, rfl, hq, h1, hb1, hv1, hqv⟩
  clear hb hv
  go_wp2_with (refine wpList_make_blk (P := Try.prog) _ rfl (.const (.int .i64 1)) (.const (.int .i64 128)) 34 rfl 5 iB (.int .u8 0) Try.underlying34 hiB hzB hsB rfl .i64 .i64 1 128 1 128 rfl rfl rfl rfl (by omega) (by rw [hbB]; omega) (by omega) ?_)
  intro w2 hb2 h2 hs2
  have hcz : w2.cell? ⟨w1.heap.size, 0, none⟩ = some (.int .u8 0) := hb2.cell 0
  have hfz := hb2.free 0
  have hts := Touch.set w2 ⟨w1.heap.size, 0, none⟩ (.int .u8 128)
  have hbq := (hb1.ext h2).touch hts (by have := hb1.lt; simp; omega)
  have hvq := (hv1.ext h2).touch hts (by intro j hj h; simp at h; have := (hv1.owns j hj).2; omega)
  have hE := (h1.trans h2)
  have hE3 : Ext w (w2.setCell ⟨w1.heap.size, 0, none⟩ (.int .u8 128)) := Touch.below hE hts (by intro j hj; simp at hj; subst hj; exact h1.size) hE.size
  have hB3 : Buf (w2.setCell ⟨w1.heap.size, 0, none⟩ (.int .u8 128)) w.heap.size 5 (.slice (some ⟨w1.heap.size, 0, none⟩) 1 128) (bytesV (128 :: List.replicate 0 0)) :=
    ⟨_, 128, rfl, by decide, by decide, by intro j hj; simp [own] at hj; subst hj; have := h1.size; rw [size_setCell]; exact ⟨this, by omega⟩, .inr ⟨_, 0, _, rfl, (hb2.set 0 (.int .u8 128)).z, by simp, by simp [bytesV, numsV, nb]⟩⟩
  have hap : ∀ j ∈ own (.slice (some ⟨w1.heap.size, 0, none⟩) 1 128), j ≠ q ∧ j ∉ own v1 := by
    intro j hj; simp [own] at hj; subst hj
    exact ⟨by have := hb1.lt; omega, fun h => by have := (hv1.owns _ h).2; omega⟩
  go_wp2_with fail
  have hM : Mid w q v1 m (128 :: List.replicate 0 0) (.slice (some ⟨w1.heap.size, 0, none⟩) 1 128) (w2.setCell ⟨w1.heap.size, 0, none⟩ (.int .u8 128)) := ⟨hbq, hvq, hE3, hB3, hap⟩
  obtain ⟨A1, cap1, hv1e⟩ := hv1.form
  rw [bytesV_length] at hv1e
  have hqw : w.heap.size ≤ q := hq
  clear hb2 hb1 hv1 h1 h2 hE hbq hvq hE3 hB3 hap hcz hfz hts
  have KM := Kept.mk hM
  clear hM
  obtain ⟨Z, hZ⟩ : ∃ Z, Z = (119 - m.length % 64) % 64 := ⟨_, rfl⟩
  obtain ⟨R, hR⟩ : ∃ R, R = (restB m).length := ⟨_, rfl⟩
  rw [← hR] at hv1e hr1
  subst hv1e
  have hRb : R ≤ 63 := by omega
  have KR := Kept.mk hR
  have KR1 := Kept.mk hr1
  clear hR hr1
  generalize (w2.setCell ⟨w1.heap.size, 0, none⟩ (.int .u8 128)) = w3 at KM ⊢
  generalize (some ⟨w1.heap.size, 0, none⟩ : Option Addr) = A0 at KM ⊢
  clear hs2
  go_loopg [4] Z (fun r s wi => ∃ (z : Nat) (A : Option Addr) (cap : Nat), z + r = Z ∧ s = .slice A (z + 1) cap ∧ Mid w q (.slice A1 R cap1) m (128 :: List.replicate z 0) (.slice A (z + 1) cap) wi)
  case atStart => exact ⟨0, A0, 128, by omega, rfl, KM.out⟩
  case round =>
    clear KM
    obtain ⟨z, A, cap, hz, rfl, hM⟩ := hrel
    have hc5 : wr.cell? ⟨q, 5, none⟩ = some (.slice A1 R cap1) := hM.1.cell 5
    have KM := Kept.mk hM
    clear hM
    have hzb : z ≤ 63 := by omega
    by_cases hlt : z < Z
    · have hne : ((((R : Int) + ((z : Int) + 1)) % 64) != 56) = true := by have := KR1.out; rw [bne_iff_ne]; omega
      have hBw : w.heap.size ≤ wr.heap.size := KM.out.2.2.1.size
      have hll : (bytesV (128 :: List.replicate z 0)).length = z + 1 := by rw [bytesV_length]; simp
      go_wp2_with (refine wpList_append_lit (P := Try.prog) wr rfl (.tmp 24) (.tmp 25) 34 rfl 5 iB (.int .u8 0) Try.underlying34 hiB hzB hsB rfl w.heap.size (.slice A (z + 1) cap) (bytesV (128 :: List.replicate z 0)) rfl KM.out.2.2.2.1 [.int .u8 0] 1 rfl rfl (by simp [Value.oneCell']) hBw (by rw [hll]; simp only [maxLen]; omega) (by rw [hll, hbB]; omega) ?_)
      intro v' w' hv' ht' ho'
      have hv' := Buf.byte (b := 0) hv' rfl
      rw [List.cons_append, ← List.replicate_succ'] at hv'
      have hM := KM.out.next hv' ht' ho'
      obtain ⟨A', cap', rfl⟩ := hv'.form
      rw [show (bytesV (128 :: List.replicate (z + 1) 0)).length = z + 1 + 1 by rw [bytesV_length]; simp] at hM ⊢
      have KM := Kept.mk hM
      clear hM hv' ht' ho'
      go_wp2_with fail
      go_roundg (gk - 1)
      case measure => omega
      case rel => exact ⟨z + 1, A', cap', by omega, by go_num, KM.out⟩
    · obtain rfl : z = Z := by omega
      have heq : ((((R : Int) + ((z : Int) + 1)) % 64) != 56) = false := by have := KR1.out; rw [bne_eq_false_iff_eq]; omega
      have hT : tailB m.length = 128 :: List.replicate z 0 := by rw [tailB, hZ]
      rw [← hT] at KM
      have hll : (bytesV (tailB m.length)).length = z + 1 := by rw [bytesV_length, hT]; simp
      have KT := Kept.mk hT
      clear hT
      generalize tailB m.length = tl at KM hll KT
      have hz64 : z ≤ 64 := by omega
      have KZ := Kept.mk hZ
      clear hZ
      go_wp2_with fail
      obtain ⟨N, hN⟩ : ∃ N, N = 8 * m.length % 2 ^ 64 := ⟨_, rfl⟩
      have hN8 : N = 8 * m.length := by omega
      have KN := Kept.mk hN
      have KN8 := Kept.mk hN8
      clear hN hN8
      obtain ⟨go, rfl⟩ : ∃ n : Nat, n = gk := ⟨_, rfl⟩
      go_loopg [4, 27] 8 (fun r s i wi => ∃ (k : Nat) (A : Option Addr) (cap : Nat), k + r = 8 ∧ i = .int .i64 (k : Int) ∧ s = .slice A (z + 1 + k) cap ∧ Mid w q (.slice A1 R cap1) m (tl ++ (be8 N).take k) (.slice A (z + 1 + k) cap) wi)
      case atStart => exact ⟨0, A, cap, rfl, rfl, rfl, by simpa using KM.out⟩
      case round =>
        clear KM hc5 heq hz hlt
        obtain ⟨k, A, cap, hk, rfl, rfl, hM⟩ := hrel
        have hc6 := hM.2.2.1.cell hc6
        have hn8 : (8 * (m.length : Int)) % 18446744073709551616 = 8 * (m.length : Int) := by omega
        have hBw : w.heap.size ≤ wr.heap.size := hM.2.2.1.size
        have hl8 : k ≤ 8 → (bytesV (tl ++ (be8 N).take k)).length = z + 1 + k := fun h => by rw [bytesV_append, List.length_append, hll, bytesV_length]; simp [be8]; omega
        have KM := Kept.mk hM
        clear hM
        by_cases hlt : k < 8
        · have hb8 := be8_next N k hlt
          have hl9 := hl8 (by omega)
          clear hl8
          have hkc : k = 0 ∨ k = 1 ∨ k = 2 ∨ k = 3 ∨ k = 4 ∨ k = 5 ∨ k = 6 ∨ k = 7 := by omega
          have KB := Kept.mk hb8
          clear hb8
          rcases hkc with rfl | rfl | rfl | rfl | rfl | rfl | rfl | rfl
          · go_wp2_with (refine wpList_append_lit (P := Try.prog) wr rfl (.tmp 30) (.tmp 41) 34 rfl 5 iB (.int .u8 0) Try.underlying34 hiB hzB hsB rfl w.heap.size (.slice A (z + 1 + 0) cap) (bytesV (tl ++ (be8 N).take 0)) rfl KM.out.2.2.2.1 [.int .u8 _] 1 rfl rfl (by simp [Value.oneCell']) hBw (by rw [hl9]; simp only [maxLen]; omega) (by rw [hl9, hbB]; omega) ?_)
            intro v' w' hv' ht' ho'
            have hv' : Buf w' w.heap.size 5 v' (bytesV (tl ++ (be8 N).take (0 + 1))) := by
              rw [KB.out, ← List.append_assoc]
              exact Buf.byte (l := tl ++ (be8 N).take 0) (by simpa using hv') (by have := KN8.out; simp; omega)
            have hM := KM.out.next hv' ht' ho'
            obtain ⟨A', cap', rfl⟩ := hv'.form
            rw [show (bytesV (tl ++ (be8 N).take (0 + 1))).length = z + 1 + (0 + 1) by rw [bytesV_length, List.length_append, ← bytesV_length tl, hll]; simp [be8]] at hM ⊢
            have KM := Kept.mk hM
            clear hM hv' ht' ho'
            go_wp2_with fail
            go_roundg (gk - 1)
            case measure => omega
            case rel => exact ⟨0 + 1, A', cap', by omega, rfl, rfl, KM.out⟩
          · go_wp2_with (refine wpList_append_lit (P := Try.prog) wr rfl (.tmp 30) (.tmp 41) 34 rfl 5 iB (.int .u8 0) Try.underlying34 hiB hzB hsB rfl w.heap.size (.slice A (z + 1 + 1) cap) (bytesV (tl ++ (be8 N).take 1)) rfl KM.out.2.2.2.1 [.int .u8 _] 1 rfl rfl (by simp [Value.oneCell']) hBw (by rw [hl9]; simp only [maxLen]; omega) (by rw [hl9, hbB]; omega) ?_)
            intro v' w' hv' ht' ho'
            have hv' : Buf w' w.heap.size 5 v' (bytesV (tl ++ (be8 N).take (1 + 1))) := by
              rw [KB.out, ← List.append_assoc]
              exact Buf.byte (l := tl ++ (be8 N).take 1) (by simpa using hv') (by have := KN8.out; simp; omega)
            have hM := KM.out.next hv' ht' ho'
            obtain ⟨A', cap', rfl⟩ := hv'.form
            rw [show (bytesV (tl ++ (be8 N).take (1 + 1))).length = z + 1 + (1 + 1) by rw [bytesV_length, List.length_append, ← bytesV_length tl, hll]; simp [be8]] at hM ⊢
            have KM := Kept.mk hM
            clear hM hv' ht' ho'
            go_wp2_with fail
            go_roundg (gk - 1)
            case measure => omega
            case rel => exact ⟨1 + 1, A', cap', by omega, rfl, rfl, KM.out⟩
          · go_wp2_with (refine wpList_append_lit (P := Try.prog) wr rfl (.tmp 30) (.tmp 41) 34 rfl 5 iB (.int .u8 0) Try.underlying34 hiB hzB hsB rfl w.heap.size (.slice A (z + 1 + 2) cap) (bytesV (tl ++ (be8 N).take 2)) rfl KM.out.2.2.2.1 [.int .u8 _] 1 rfl rfl (by simp [Value.oneCell']) hBw (by rw [hl9]; simp only [maxLen]; omega) (by rw [hl9, hbB]; omega) ?_)
            intro v' w' hv' ht' ho'
            have hv' : Buf w' w.heap.size 5 v' (bytesV (tl ++ (be8 N).take (2 + 1))) := by
              rw [KB.out, ← List.append_assoc]
              exact Buf.byte (l := tl ++ (be8 N).take 2) (by simpa using hv') (by have := KN8.out; simp; omega)
            have hM := KM.out.next hv' ht' ho'
            obtain ⟨A', cap', rfl⟩ := hv'.form
            rw [show (bytesV (tl ++ (be8 N).take (2 + 1))).length = z + 1 + (2 + 1) by rw [bytesV_length, List.length_append, ← bytesV_length tl, hll]; simp [be8]] at hM ⊢
            have KM := Kept.mk hM
            clear hM hv' ht' ho'
            go_wp2_with fail
            go_roundg (gk - 1)
            case measure => omega
            case rel => exact ⟨2 + 1, A', cap', by omega, rfl, rfl, KM.out⟩
          · go_wp2_with (refine wpList_append_lit (P := Try.prog) wr rfl (.tmp 30) (.tmp 41) 34 rfl 5 iB (.int .u8 0) Try.underlying34 hiB hzB hsB rfl w.heap.size (.slice A (z + 1 + 3) cap) (bytesV (tl ++ (be8 N).take 3)) rfl KM.out.2.2.2.1 [.int .u8 _] 1 rfl rfl (by simp [Value.oneCell']) hBw (by rw [hl9]; simp only [maxLen]; omega) (by rw [hl9, hbB]; omega) ?_)
            intro v' w' hv' ht' ho'
            have hv' : Buf w' w.heap.size 5 v' (bytesV (tl ++ (be8 N).take (3 + 1))) := by
              rw [KB.out, ← List.append_assoc]
              exact Buf.byte (l := tl ++ (be8 N).take 3) (by simpa using hv') (by have := KN8.out; simp; omega)
            have hM := KM.out.next hv' ht' ho'
            obtain ⟨A', cap', rfl⟩ := hv'.form
            rw [show (bytesV (tl ++ (be8 N).take (3 + 1))).length = z + 1 + (3 + 1) by rw [bytesV_length, List.length_append, ← bytesV_length tl, hll]; simp [be8]] at hM ⊢
            have KM := Kept.mk hM
            clear hM hv' ht' ho'
            go_wp2_with fail
            go_roundg (gk - 1)
            case measure => omega
            case rel => exact ⟨3 + 1, A', cap', by omega, rfl, rfl, KM.out⟩
          · go_wp2_with (refine wpList_append_lit (P := Try.prog) wr rfl (.tmp 30) (.tmp 41) 34 rfl 5 iB (.int .u8 0) Try.underlying34 hiB hzB hsB rfl w.heap.size (.slice A (z + 1 + 4) cap) (bytesV (tl ++ (be8 N).take 4)) rfl KM.out.2.2.2.1 [.int .u8 _] 1 rfl rfl (by simp [Value.oneCell']) hBw (by rw [hl9]; simp only [maxLen]; omega) (by rw [hl9, hbB]; omega) ?_)
            intro v' w' hv' ht' ho'
            have hv' : Buf w' w.heap.size 5 v' (bytesV (tl ++ (be8 N).take (4 + 1))) := by
              rw [KB.out, ← List.append_assoc]
              exact Buf.byte (l := tl ++ (be8 N).take 4) (by simpa using hv') (by have := KN8.out; simp; omega)
            have hM := KM.out.next hv' ht' ho'
            obtain ⟨A', cap', rfl⟩ := hv'.form
            rw [show (bytesV (tl ++ (be8 N).take (4 + 1))).length = z + 1 + (4 + 1) by rw [bytesV_length, List.length_append, ← bytesV_length tl, hll]; simp [be8]] at hM ⊢
            have KM := Kept.mk hM
            clear hM hv' ht' ho'
            go_wp2_with fail
            go_roundg (gk - 1)
            case measure => omega
            case rel => exact ⟨4 + 1, A', cap', by omega, rfl, rfl, KM.out⟩
          · go_wp2_with (refine wpList_append_lit (P := Try.prog) wr rfl (.tmp 30) (.tmp 41) 34 rfl 5 iB (.int .u8 0) Try.underlying34 hiB hzB hsB rfl w.heap.size (.slice A (z + 1 + 5) cap) (bytesV (tl ++ (be8 N).take 5)) rfl KM.out.2.2.2.1 [.int .u8 _] 1 rfl rfl (by simp [Value.oneCell']) hBw (by rw [hl9]; simp only [maxLen]; omega) (by rw [hl9, hbB]; omega) ?_)
            intro v' w' hv' ht' ho'
            have hv' : Buf w' w.heap.size 5 v' (bytesV (tl ++ (be8 N).take (5 + 1))) := by
              rw [KB.out, ← List.append_assoc]
              exact Buf.byte (l := tl ++ (be8 N).take 5) (by simpa using hv') (by have := KN8.out; simp; omega)
            have hM := KM.out.next hv' ht' ho'
            obtain ⟨A', cap', rfl⟩ := hv'.form
            rw [show (bytesV (tl ++ (be8 N).take (5 + 1))).length = z + 1 + (5 + 1) by rw [bytesV_length, List.length_append, ← bytesV_length tl, hll]; simp [be8]] at hM ⊢
            have KM := Kept.mk hM
            clear hM hv' ht' ho'
            go_wp2_with fail
            go_roundg (gk - 1)
            case measure => omega
            case rel => exact ⟨5 + 1, A', cap', by omega, rfl, rfl, KM.out⟩
          · go_wp2_with (refine wpList_append_lit (P := Try.prog) wr rfl (.tmp 30) (.tmp 41) 34 rfl 5 iB (.int .u8 0) Try.underlying34 hiB hzB hsB rfl w.heap.size (.slice A (z + 1 + 6) cap) (bytesV (tl ++ (be8 N).take 6)) rfl KM.out.2.2.2.1 [.int .u8 _] 1 rfl rfl (by simp [Value.oneCell']) hBw (by rw [hl9]; simp only [maxLen]; omega) (by rw [hl9, hbB]; omega) ?_)
            intro v' w' hv' ht' ho'
            have hv' : Buf w' w.heap.size 5 v' (bytesV (tl ++ (be8 N).take (6 + 1))) := by
              rw [KB.out, ← List.append_assoc]
              exact Buf.byte (l := tl ++ (be8 N).take 6) (by simpa using hv') (by have := KN8.out; simp; omega)
            have hM := KM.out.next hv' ht' ho'
            obtain ⟨A', cap', rfl⟩ := hv'.form
            rw [show (bytesV (tl ++ (be8 N).take (6 + 1))).length = z + 1 + (6 + 1) by rw [bytesV_length, List.length_append, ← bytesV_length tl, hll]; simp [be8]] at hM ⊢
            have KM := Kept.mk hM
            clear hM hv' ht' ho'
            go_wp2_with fail
            go_roundg (gk - 1)
            case measure => omega
            case rel => exact ⟨6 + 1, A', cap', by omega, rfl, rfl, KM.out⟩
          · go_wp2_with (refine wpList_append_lit (P := Try.prog) wr rfl (.tmp 30) (.tmp 41) 34 rfl 5 iB (.int .u8 0) Try.underlying34 hiB hzB hsB rfl w.heap.size (.slice A (z + 1 + 7) cap) (bytesV (tl ++ (be8 N).take 7)) rfl KM.out.2.2.2.1 [.int .u8 _] 1 rfl rfl (by simp [Value.oneCell']) hBw (by rw [hl9]; simp only [maxLen]; omega) (by rw [hl9, hbB]; omega) ?_)
            intro v' w' hv' ht' ho'
            have hv' : Buf w' w.heap.size 5 v' (bytesV (tl ++ (be8 N).take (7 + 1))) := by
              rw [KB.out, ← List.append_assoc]
              exact Buf.byte (l := tl ++ (be8 N).take 7) (by simpa using hv') (by have := KN8.out; simp; omega)
            have hM := KM.out.next hv' ht' ho'
            obtain ⟨A', cap', rfl⟩ := hv'.form
            rw [show (bytesV (tl ++ (be8 N).take (7 + 1))).length = z + 1 + (7 + 1) by rw [bytesV_length, List.length_append, ← bytesV_length tl, hll]; simp [be8]] at hM ⊢
            have KM := Kept.mk hM
            clear hM hv' ht' ho'
            go_wp2_with fail
            go_roundg (gk - 1)
            case measure => omega
            case rel => exact ⟨7 + 1, A', cap', by omega, rfl, rfl, KM.out⟩
        · obtain rfl : k = 8 := by omega
          have hl9 := hl8 (by omega)
          clear hl8
          have hbe : (be8 N).take 8 = be8 N := List.take_of_length_le (by simp [be8])
          rw [hbe] at KM hl9
          have KE := Kept.mk (show tl ++ be8 N = tailB m.length ++ be8 (8 * m.length % 2 ^ 64) by rw [KN.out, KT.out, tailB, ← KZ.out])
          have kc : (convert 34 9 (.slice A (z + 1 + 8) cap)).run Try.prog wr = .ok (.string (strOf (tl ++ be8 N))) wr := conv_buf wr _ _ _ Try.underlying34 Try.underlying5 Try.underlying9 _ KM.out.2.2.2.1
          go_wp2_with fail
          have hE := KM.out.2.2.1
          have hBw' : w.heap.size ≤ (wr.alloc (.cells #[.string (strOf (tl ++ be8 N))] 9)).heap.size := Nat.le_trans hBw (by simp)
          have hqlt := KM.out.1.lt
          have hol := KM.out.2.1.owns
          have hzl : (tl ++ be8 N).length = z + 1 + 8 := by rw [← bytesV_length, hl9]
          refine (write_any w.heap.size q (.slice A1 R cap1) m (some ⟨wr.heap.size, 0, none⟩) 1 [strOf (tl ++ be8 N)] _ (KM.out.1.old _) (KM.out.2.1.ext (Ext.alloc _ _)) hBw' hqv (Row.of_blk (Blk.new wr 9 [.string (strOf (tl ++ be8 N))])) (by intro j hj; simp [own] at hj; subst hj; exact ⟨by omega, fun h => by have := (hol _ h).2; omega⟩) (by simp only [flat, List.map_cons, List.map_nil, List.flatten_cons, List.flatten_nil, List.append_nil, strOf_list]; rw [hzl]; omega) (by simp)).mono ?_
          rintro e w5 ⟨rfl, v5, hb5, -, ht5, -⟩
          have hfl : flat [strOf (tl ++ be8 N)] = tl ++ be8 N := by simp [flat, strOf_list]
          have hpad : m ++ flat [strOf (tl ++ be8 N)] = pad m := by rw [hfl, KE.out]; rfl
          rw [hpad] at hb5
          have hE5 : Ext w w5 := Touch.below (hE.trans (Ext.alloc _ _)) ht5 (by intro j hj; rcases List.mem_cons.1 hj with h | h; subst h; exact hq; exact (hol j h).1) hBw'
          have KB5 := Kept.mk hb5
          have KD := Kept.mk (show digest m = digestC (midC (pad m)) from rfl)
          generalize midC (pad m) = X at KB5 KD
          clear hb5 ht5 hfl hpad hE hBw' hqlt hol hzl KM KE
          go_wp2_with (refine wpList_load_part rfl 37 (.tmp 51) rfl q 0 rfl 50 _ (chW X) KB5.out rfl _ Try.underlying37 rfl (info_size info5) ?_)
          obtain ⟨go2, rfl⟩ : ∃ n : Nat, n = gk := ⟨_, rfl⟩
          go_loopg [6, 53] 5 (fun r s i wi => ∃ (k : Nat) (A : Option Addr) (cap : Nat), k + r = 5 ∧ i = .int .i64 (k : Int) ∧ s = .slice A (4 * k) cap ∧ Buf wi w.heap.size 5 (.slice A (4 * k) cap) (bytesV (((chL X).take k).flatMap digit4)) ∧ Ext w wi)
          case atStart => exact ⟨0, none, 0, rfl, rfl, rfl, Buf.nil _ _ _, hE5⟩
          case round =>
            clear hE5 KB5 hc6 hn8 hBw hl9
            obtain ⟨k, A, cap, hk, rfl, rfl, hv, hE⟩ := hrel
            by_cases hlt : k < 5
            · have hix := run_index_nums (P := Try.prog) 37 35 5 4 .u32 Try.underlying37 infoU32 Try.underlying35 (chL X) rfl k hlt wr
              have hkI : (k : Int) < 5 := by omega
              have hnx : ((chL X).take (k + 1)).flatMap digit4 = ((chL X).take k).flatMap digit4 ++ digit4 ((chL X).getD k 0) := by
                rw [List.take_succ_eq_append_getElem (show k < (chL X).length from hlt), List.flatMap_append, List.getD_eq_getElem?_getD, List.getElem?_eq_getElem (show k < (chL X).length from hlt)]
                simp
              have hl4 : (bytesV (((chL X).take k).flatMap digit4)).length = 4 * k := by
                obtain ⟨_, _, he⟩ := hv.form
                injection he with _ h2 _
                exact h2.symm
              have KX := Kept.mk hnx
              have KV := Kept.mk hv
              have KE := Kept.mk hE
              have hBw := hE.size
              generalize (chL X).getD k 0 = x at hix KX
              clear hnx hv hE
              have hix : (Instr.index 37 (.agg (chW X).toArray) (.int .i64 (k : Int))).run Try.prog wr = .ok (.int .u32 x) wr := hix
              go_wp2_with (refine wpList_append_lit (P := Try.prog) wr rfl (.tmp 56) (.tmp 68) 34 rfl 5 iB (.int .u8 0) Try.underlying34 hiB hzB hsB rfl w.heap.size (.slice A (4 * k) cap) (bytesV (((chL X).take k).flatMap digit4)) rfl KV.out [.int .u8 _, .int .u8 _, .int .u8 _, .int .u8 _] 4 rfl rfl (by simp [Value.oneCell']) hBw (by rw [hl4]; simp only [maxLen]; omega) (by rw [hl4, hbB]; omega) ?_)
              intro v' w' hv' ht' ho'
              rw [← digit4V, ← bytesV_append, ← KX.out] at hv'
              have hE' : Ext w w' := Touch.below KE.out ht' (fun j hj => (KV.out.owns j hj).1) hBw
              obtain ⟨A', cap', rfl⟩ := hv'.form
              have hl5 : (bytesV (((chL X).take (k + 1)).flatMap digit4)).length = 4 * (k + 1) := by rw [KX.out, bytesV_append, digit4V, List.length_append, hl4]; rfl
              rw [hl5] at hv' ⊢
              have KV := Kept.mk hv'
              have KE := Kept.mk hE'
              clear hv' hE' ht' ho' hl5
              go_wp2_with fail
              go_roundg (gk - 1)
              case measure => omega
              case rel => exact ⟨k + 1, A', cap', by omega, by go_num, rfl, KV.out, KE.out⟩
            · obtain rfl : k = 5 := by omega
              have hv : Buf wr w.heap.size 5 (.slice A (4 * 5) cap) (bytesV (digestC X)) := hv
              have kc2 : (convert 34 9 (.slice A 20 cap)).run Try.prog wr = .ok (.string (strOf (digestC X))) wr := conv_buf wr _ _ _ Try.underlying34 Try.underlying5 Try.underlying9 _ hv
              have KE := Kept.mk hE
              clear hv hE kc
              go_wp2_with fail
              go_ret
              rw [← KD.out]
              exact ⟨rfl, KE.out⟩
end Sha1
end Go.Proofs.Ythkckmohhbddcaa
