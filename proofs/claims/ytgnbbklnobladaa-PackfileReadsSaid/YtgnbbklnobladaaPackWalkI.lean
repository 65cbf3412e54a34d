/- The walk of packfile's entry. No condition. -/
import Derived.Test.YtgnbbklnobladaaPackWalkH
namespace Go.Proofs.Ytgnbbklnobladaa
open Go.RowKit
namespace Pack
open Delta
set_option linter.unusedSimpArgs false
set_option linter.unusedVariables false
/-- A text pressed. -/
def Pressed (s q : List UInt8) : Prop := q.length ≤ s.length + 1 ∧ (q = 0 :: s ∨ ∃ T, q = 1 :: T ∧ Sqz.Leads [] T s)
/-- What entry makes: the head, the length, the pressed text. -/
def EntryE (w : World) (hd text : List UInt8) (e : Ending) (w' : World) : Prop :=
  ∃ q A n cap, e = .returned (.slice A n cap) ∧ n = (hd ++ num4 (q.length : Int) ++ q).length ∧ Buf w' w.heap.size 5 (.slice A n cap) (bytesV (hd ++ num4 (q.length : Int) ++ q)) ∧ Ext w w' ∧ Pressed text q
theorem kindV (k : Int) (hk : 0 ≤ k ∧ k ≤ 255) (x : UInt8) : bytesV [UInt8.ofNat k.toNat, x] = [.int .u8 k, .int .u8 (x.toNat : Int)] := by
  have h : ((UInt8.ofNat k.toNat).toNat : Int) = k := by simp; omega
  simp [bytesV, numsV, nb, -UInt8.toNat_ofNat', h]
set_option maxRecDepth 100000 in
set_option maxHeartbeats 2000000 in
theorem entry_plain (k : Int) (hk : 0 ≤ k ∧ k ≤ 255) (c : ByteArray) (text : List UInt8) (ht : text.length ≤ 10000) (w : World) :
    Calls Try.prog 20 #[.agg #[.int .i64 k, .string c], .int .i64 (-1), .string (strOf text)] w (EntryE w [UInt8.ofNat k.toNat, 0] text) := by
  obtain ⟨iB, hiB, hzB, hsB, hbB⟩ := infoB
  have hkw : IntKind.u8.wrap k = k := by simp [IntKind.wrap, IntKind.bits, IntKind.signed]; omega
  have KV := Kept.mk (kindV k hk 0)
  have hk1 := hk.1
  have hk2 := hk.2
  have KY : Kept (∀ X : Obj, Buf ((w.alloc X).alloc (.cells #[.int .u8 k, .int .u8 0] 5)) w.heap.size 5 (.slice (some ⟨w.heap.size + 1, 0, none⟩) 2 2) (bytesV [UInt8.ofNat k.toNat, 0])) := Kept.mk (fun X => by
    rw [KV.out]
    have := Buf.lit (w.alloc X) 5 w.heap.size (by simp) [.int .u8 k, .int .u8 0] (by simp [maxLen])
    simpa using this)
  obtain ⟨H, hH⟩ : ∃ H, H = [UInt8.ofNat k.toNat, (0 : UInt8)] := ⟨_, rfl⟩
  have hHl : H.length ≤ 2 := by rw [hH]; exact Nat.le_refl _
  have KN := Kept.mk (fun (W : World) (hB : w.heap.size ≤ W.heap.size) (n : Nat) (hn : n ≤ 60000) (hv : Buf W w.heap.size 5 (.slice (some ⟨w.heap.size + 1, 0, none⟩) 2 2) (bytesV [UInt8.ofNat k.toNat, 0])) => (show Calls Try.prog 19 #[.slice (some ⟨w.heap.size + 1, 0, none⟩) 2 2, .int .i64 (n : Int)] W (AppE W w.heap.size (.slice (some ⟨w.heap.size + 1, 0, none⟩) 2 2) (H ++ num4 (n : Int))) from hH ▸ pnum_any w.heap.size (some ⟨w.heap.size + 1, 0, none⟩) 2 [UInt8.ofNat k.toNat, 0] n hn (by simp) W hB hv))
  rw [← hH]
  clear hk hH
  go_enter Try.func20, Try.ntmps20
  go_wp2_with fail
  refine (Sqz.press_any text (by omega) _).mono ?_
  rintro e w2 ⟨q, rfl, hE2, hq1, hq2⟩
  have KE2 := Kept.mk (show Ext w w2 from ((Ext.alloc w _).trans (Ext.alloc _ _)).trans hE2)
  have KV2 := Kept.mk ((KY.out _).ext hE2)
  have KP := Kept.mk (show Pressed text q from ⟨hq1, hq2⟩)
  have hql : q.length ≤ 10001 := by omega
  clear hE2 hq1 hq2 KY
  have hqz := strOf_size q
  have hB2 := KE2.out.size
  go_wp2_with fail
  refine (KN.out _ hB2 q.length (by omega) KV2.out).mono ?_
  rintro e w3 ⟨A3, c3, rfl, hv3, ht3, ho3⟩
  have KE3 := Kept.mk (show Ext w w3 from Touch.below KE2.out ht3 (fun j hj => (KV2.out.owns j hj).1) hB2)
  have KV3 := Kept.mk hv3
  have hB3 := KE3.out.size
  clear hv3 ht3 ho3 hB2
  generalize hM : H ++ num4 (q.length : Int) = M at KV3 ⊢
  have hMl : M.length ≤ 10 := by rw [← hM]; simp [num4]; omega
  have KM := Kept.mk hM
  clear hM
  go_wp2_with (refine wpList_append_buf (P := Try.prog) w3 rfl (.tmp 25) (.tmp 26) 54 9 rfl 5 iB _ Try.underlying54 hiB hzB hsB rfl w.heap.size (.slice A3 M.length c3) (bytesV M) rfl KV3.out (.string (strOf q)) q.length (byteCells (strOf q)) rfl (by have := Src.ofString w3 Try.underlying9 (strOf q); rw [hqz] at this; exact this) hB3 (by rw [bytesV_length]; simp only [maxLen]; omega) (by rw [bytesV_length, hbB]; omega) ?_)
  intro v4 w4 hv4 ht4 ho4
  rw [byteCells_eq, strOf_list, ← bytesV_append] at hv4
  have KE4 := Kept.mk (show Ext w w4 from Touch.below KE3.out ht4 (fun j hj => (KV3.out.owns j hj).1) hB3)
  obtain ⟨A4, c4, rfl⟩ := hv4.form
  rw [bytesV_length] at hv4 ⊢
  have KV4 := Kept.mk hv4
  clear hv4 ht4 ho4
  go_wp2_with fail
  go_ret
  exact ⟨q, A4, _, c4, rfl, by rw [KM.out], by rw [KM.out]; exact KV4.out, KE4.out, KP.out⟩
set_option maxRecDepth 100000 in
set_option maxHeartbeats 2000000 in
theorem entry_based (k : Int) (hk : 0 ≤ k ∧ k ≤ 255) (c : ByteArray) (b : Nat) (hb : b ≤ 1000) (text : List UInt8) (ht : text.length ≤ 10000) (w : World) :
    Calls Try.prog 20 #[.agg #[.int .i64 k, .string c], .int .i64 (b : Int), .string (strOf text)] w (EntryE w ([UInt8.ofNat k.toNat, 1] ++ num4 (b : Int)) text) := by
  obtain ⟨iB, hiB, hzB, hsB, hbB⟩ := infoB
  have hkw : IntKind.u8.wrap k = k := by simp [IntKind.wrap, IntKind.bits, IntKind.signed]; omega
  have KV := Kept.mk (kindV k hk 1)
  have hk1 := hk.1
  have hk2 := hk.2
  have KY : Kept (∀ X : Obj, Buf ((w.alloc X).alloc (.cells #[.int .u8 k, .int .u8 1] 5)) w.heap.size 5 (.slice (some ⟨w.heap.size + 1, 0, none⟩) 2 2) (bytesV [UInt8.ofNat k.toNat, 1])) := Kept.mk (fun X => by
    rw [KV.out]
    have := Buf.lit (w.alloc X) 5 w.heap.size (by simp) [.int .u8 k, .int .u8 1] (by simp [maxLen])
    simpa using this)
  have hbI : (0 : Int) ≤ (b : Int) := by omega
  obtain ⟨H, hH⟩ : ∃ H, H = [UInt8.ofNat k.toNat, 1] ++ num4 (b : Int) := ⟨_, rfl⟩
  have hHl : H.length ≤ 6 := by rw [hH]; exact Nat.le_refl _
  have KN := Kept.mk (fun (W : World) (hB : w.heap.size ≤ W.heap.size) (hv : Buf W w.heap.size 5 (.slice (some ⟨w.heap.size + 1, 0, none⟩) 2 2) (bytesV [UInt8.ofNat k.toNat, 1])) => hH ▸ pnum_any w.heap.size (some ⟨w.heap.size + 1, 0, none⟩) 2 [UInt8.ofNat k.toNat, 1] b (by omega) (by simp) W hB hv)
  rw [← hH]
  clear hk hH
  go_enter Try.func20, Try.ntmps20
  go_wp2_with fail
  refine (KN.out _ (by simp; omega) (KY.out _)).mono ?_
  rintro e w1 ⟨A1, c1, rfl, hv1, ht1, ho1⟩
  have KE1 := Kept.mk (show Ext w w1 from Touch.below ((Ext.alloc w _).trans (Ext.alloc _ _)) ht1 (fun j hj => by simp [own] at hj; omega) (by simp; omega))
  have KV1 := Kept.mk hv1
  clear hv1 ht1 ho1
  go_wp2_with fail
  refine (Sqz.press_any text (by omega) _).mono ?_
  rintro e w2 ⟨q, rfl, hE2, hq1, hq2⟩
  have KE2 := Kept.mk (KE1.out.trans hE2)
  have KV2 := Kept.mk (KV1.out.ext hE2)
  have KP := Kept.mk (show Pressed text q from ⟨hq1, hq2⟩)
  have hql : q.length ≤ 10001 := by omega
  clear hE2 hq1 hq2 KV1 KE1
  have hqz := strOf_size q
  have hB2 := KE2.out.size
  go_wp2_with fail
  refine (pnum_any w.heap.size A1 c1 H q.length (by omega) (by omega) _ hB2 KV2.out).mono ?_
  rintro e w3 ⟨A3, c3, rfl, hv3, ht3, ho3⟩
  have KE3 := Kept.mk (show Ext w w3 from Touch.below KE2.out ht3 (fun j hj => (KV2.out.owns j hj).1) hB2)
  have KV3 := Kept.mk hv3
  have hB3 := KE3.out.size
  clear hv3 ht3 ho3 hB2
  generalize hM : H ++ num4 (q.length : Int) = M at KV3 ⊢
  have hMl : M.length ≤ 10 := by rw [← hM]; simp [num4]; omega
  have KM := Kept.mk hM
  clear hM
  go_wp2_with (refine wpList_append_buf (P := Try.prog) w3 rfl (.tmp 25) (.tmp 26) 54 9 rfl 5 iB _ Try.underlying54 hiB hzB hsB rfl w.heap.size (.slice A3 M.length c3) (bytesV M) rfl KV3.out (.string (strOf q)) q.length (byteCells (strOf q)) rfl (by have := Src.ofString w3 Try.underlying9 (strOf q); rw [hqz] at this; exact this) hB3 (by rw [bytesV_length]; simp only [maxLen]; omega) (by rw [bytesV_length, hbB]; omega) ?_)
  intro v4 w4 hv4 ht4 ho4
  rw [byteCells_eq, strOf_list, ← bytesV_append] at hv4
  have KE4 := Kept.mk (show Ext w w4 from Touch.below KE3.out ht4 (fun j hj => (KV3.out.owns j hj).1) hB3)
  obtain ⟨A4, c4, rfl⟩ := hv4.form
  rw [bytesV_length] at hv4 ⊢
  have KV4 := Kept.mk hv4
  clear hv4 ht4 ho4
  go_wp2_with fail
  go_ret
  exact ⟨q, A4, _, c4, rfl, by rw [KM.out], by rw [KM.out]; exact KV4.out, KE4.out, KP.out⟩
end Pack
end Go.Proofs.Ytgnbbklnobladaa
