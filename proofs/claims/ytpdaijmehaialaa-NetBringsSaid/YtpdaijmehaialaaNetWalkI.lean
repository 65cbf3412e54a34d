/- The walk of the law's awake. No condition. -/
import Derived.Test.YtpdaijmehaialaaNetWalkH
namespace Go.Proofs.Ytpdaijmehaialaa
open Go.RowKit Go.ChangeShapes Go.WideShapes
namespace Net
set_option linter.unusedSimpArgs false
set_option linter.unusedVariables false
set_option maxRecDepth 100000 in
set_option maxHeartbeats 2000000 in
theorem awake_any (w : World) : Calls Try.prog 7 #[] w (BoolX w true) := by
  have e1 : sendP 2 [] ⟨0, 1, [97]⟩ = ([⟨0, 1, [97]⟩], true) := by decide
  have e2 : doubleP 2 [⟨0, 1, [97]⟩] 0 = ([⟨0, 1, [97]⟩, ⟨0, 1, [97]⟩], true) := by decide
  have e3 : doubleP 2 [⟨0, 1, [97]⟩, ⟨0, 1, [97]⟩] 0 = ([⟨0, 1, [97]⟩, ⟨0, 1, [97]⟩], false) := by decide
  have e4 : spoilP [⟨0, 1, [97]⟩, ⟨0, 1, [97]⟩] 1 5 3 = ([⟨0, 1, [97]⟩, ⟨0, 1, [98]⟩], true) := by decide
  have e5 : takeP [⟨0, 1, [97]⟩, ⟨0, 1, [98]⟩] 1 = ([⟨0, 1, [97]⟩], ⟨0, 1, [98]⟩, true) := by decide
  have e6 : emptyP [⟨0, 1, [97]⟩] 1 = [] := by decide
  have e7 : takeP [] 0 = ([], noPk, false) := by decide
  have K1 := Kept.mk e1
  have K2 := Kept.mk e2
  have K3 := Kept.mk e3
  have K4 := Kept.mk e4
  have K5 := Kept.mk e5
  have K6 := Kept.mk e6
  have K7 := Kept.mk e7
  clear e1 e2 e3 e4 e5 e6 e7
  go_enter Try.func7, Try.ntmps7
  go_wp2_with fail
  refine (new_any 2 (by decide) (by decide) w).mono ?_
  rintro e w1 ⟨rfl, hN1, hE1⟩
  have KN1 := Kept.mk hN1
  have KE1 := Kept.mk hE1
  clear hN1 hE1
  go_wp2_with fail
  refine (new_bad 0 (by decide) w1).mono ?_
  rintro e w1 ⟨rfl, rfl⟩
  go_wp2_with fail
  refine (send_any w.heap.size w.heap.size 2 (.slice none 0 0) [] (by simp) ⟨0, 1, [97]⟩ (by simp) w1 KN1.out).mono ?_
  rintro e w2 ⟨rfl, v2, hN, hT, ho⟩
  rw [K1.out] at hN ⊢
  have KN2 := Kept.mk hN
  have KT2 := Kept.mk (show Ext w w2 from Touch.below (B := w.heap.size) KE1.out hT (fun j hj => (KN1.out.owns j hj).1) (Ext.size KE1.out))
  clear hN hT ho
  go_wp2_with fail
  refine (double_any w.heap.size w.heap.size 2 v2 [⟨0, 1, [97]⟩] (by simp) (by simp) 0 w2 KN2.out).mono ?_
  rintro e w3 ⟨rfl, v3, hN, hT, ho⟩
  rw [K2.out] at hN ⊢
  have KN3 := Kept.mk hN
  have KT3 := Kept.mk (show Ext w w3 from Touch.below (B := w.heap.size) KT2.out hT (fun j hj => (KN2.out.owns j hj).1) (Ext.size KT2.out))
  clear hN hT ho
  go_wp2_with fail
  refine (double_any w.heap.size w.heap.size 2 v3 [⟨0, 1, [97]⟩, ⟨0, 1, [97]⟩] (by simp) (by simp) 0 w3 KN3.out).mono ?_
  rintro e w4 ⟨rfl, v4, hN, hT, ho⟩
  rw [K3.out] at hN ⊢
  have KN4 := Kept.mk hN
  have KT4 := Kept.mk (show Ext w w4 from Touch.below (B := w.heap.size) KT3.out hT (fun j hj => (KN3.out.owns j hj).1) (Ext.size KT3.out))
  clear hN hT ho
  go_wp2_with fail
  refine (spoil_any w.heap.size w.heap.size 2 v4 [⟨0, 1, [97]⟩, ⟨0, 1, [97]⟩] (by simp) (by simp) 1 5 3 (by decide) (by decide) w4 KN4.out).mono ?_
  rintro e w5 ⟨rfl, v5, hN, hT, ho⟩
  rw [K4.out] at hN ⊢
  have KN5 := Kept.mk hN
  have KT5 := Kept.mk (show Ext w w5 from Touch.below (B := w.heap.size) KT4.out hT (fun j hj => (KN4.out.owns j hj).1) (Ext.size KT4.out))
  clear hN hT ho
  go_wp2_with fail
  refine (take_any w.heap.size w.heap.size 2 v5 [⟨0, 1, [97]⟩, ⟨0, 1, [98]⟩] (by simp) 1 w5 KN5.out).mono ?_
  rintro e w6 ⟨rfl, v6, hN, hT, ho⟩
  rw [K5.out] at hN ⊢
  have KN6 := Kept.mk (hN.ext (Ext.alloc w6 (.cells #[.int .i64 0, .int .i64 1, .string (strOf [98])] 34)))
  have KT6 := Kept.mk ((show Ext w w6 from Touch.below (B := w.heap.size) KT5.out hT (fun j hj => (KN5.out.owns j hj).1) (Ext.size KT5.out)).trans (Ext.alloc w6 (.cells #[.int .i64 0, .int .i64 1, .string (strOf [98])] 34)))
  have hB : Blk (w6.alloc (.cells #[.int .i64 0, .int .i64 1, .string (strOf [98])] 34)) w6.heap.size 34 [.int .i64 0, .int .i64 1, .string (strOf [98])] := Blk.new _ _ _
  have b2 := hB.cell 2
  simp only [List.getElem?_cons_zero, List.getElem?_cons_succ] at b2
  have q2 : (strOf [98]).toList = [98] := by rw [ByteArray.toList_eq]; rfl
  simp only [pk]
  clear hN hT ho hB
  go_wp2_with fail
  generalize w6.alloc (.cells #[.int .i64 0, .int .i64 1, .string (strOf [98])] 34) = w7 at KN6 KT6 b2 ⊢
  refine (len_any w.heap.size w.heap.size 2 v6 [⟨0, 1, [97]⟩] w7 KN6.out).mono ?_
  rintro e w8 ⟨rfl, rfl⟩
  go_wp2_with fail
  refine (empty_any w.heap.size w.heap.size 2 v6 [⟨0, 1, [97]⟩] (by simp) 1 w7 KN6.out).mono ?_
  rintro e w8 ⟨rfl, v8, hN, hT, ho⟩
  rw [K6.out] at hN ⊢
  have KN8 := Kept.mk hN
  have KT8 := Kept.mk (show Ext w w8 from Touch.below (B := w.heap.size) KT6.out hT (fun j hj => (KN6.out.owns j hj).1) (Ext.size KT6.out))
  clear hN hT ho
  go_wp2_with fail
  refine (lose_any w.heap.size w.heap.size 2 v8 [] (by simp) 0 w8 KN8.out).mono ?_
  rintro e w9 ⟨rfl, v9, hN, hT, ho⟩
  rw [K7.out] at hN ⊢
  have KT9 := Kept.mk (show Ext w w9 from Touch.below (B := w.heap.size) KT8.out hT (fun j hj => (KN8.out.owns j hj).1) (Ext.size KT8.out))
  clear hN hT ho
  go_wp2_with fail
  go_ret
  exact ⟨by first | rfl | simp, KT9.out⟩
end Net
end Go.Proofs.Ytpdaijmehaialaa
