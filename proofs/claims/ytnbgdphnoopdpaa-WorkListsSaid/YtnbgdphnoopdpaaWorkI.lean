/- awake says true. No condition. -/
import Derived.Test.YtnbgdphnoopdpaaWorkH
import Derived.Test.YtnbgdphnoopdpaaWorkP
namespace Go.Proofs.Ytnbgdphnoopdpaa
open Go.RowKit Go.Maps
namespace Work
set_option linter.unusedSimpArgs false
set_option linter.unusedVariables false
def nxA (k : Int) : List Int × Bool := ([2, Int.tmod k 2], true)
def jNone (asked : List Int) (D : List Nat) (w : World) : Prop := D = []
set_option maxRecDepth 100000 in
set_option maxHeartbeats 2000000 in
theorem nextA_any (k : Int) (hk : k = 0 ∨ k = 1 ∨ k = 2) (w : World) : Calls Try.prog 33 #[.int .i64 k] w (NextE w [2, Int.tmod k 2] true) := by
  have KL := Kept.mk (Buf.lit w 3 w.heap.size (Nat.le_refl _) [.int .i64 2, .int .i64 (Int.tmod k 2)] (by simp [maxLen]))
  rcases hk with rfl | rfl | rfl
  · go_enter Try.func33, Try.ntmps33
    go_wp2_with fail
    exact bodyPost_ret (v := .tuple #[.slice (some ⟨w.heap.size, 0, none⟩) 2 2, .bool true]) (by simp [results, Try.results33, go_sem]) rfl ⟨_, 2, rfl, KL.out, Ext.alloc _ _⟩
  · go_enter Try.func33, Try.ntmps33
    go_wp2_with fail
    exact bodyPost_ret (v := .tuple #[.slice (some ⟨w.heap.size, 0, none⟩) 2 2, .bool true]) (by simp [results, Try.results33, go_sem]) rfl ⟨_, 2, rfl, KL.out, Ext.alloc _ _⟩
  · go_enter Try.func33, Try.ntmps33
    go_wp2_with fail
    exact bodyPost_ret (v := .tuple #[.slice (some ⟨w.heap.size, 0, none⟩) 2 2, .bool true]) (by simp [results, Try.results33, go_sem]) rfl ⟨_, 2, rfl, KL.out, Ext.alloc _ _⟩
theorem tellsA : Tells 33 #[] nxA [1, 2, 0] jNone 0 where
  touch := fun _ _ _ _ _ h _ _ _ => h
  lt := fun _ D _ h j hj => by rw [show D = [] from h] at hj; cases hj
  enter := enters_of Try.func33 (by kernel_rfl) rfl
  call := fun asked D w k _ hj hk => by
    have hD : D = [] := hj
    subst hD
    refine (nextA_any k (by simp at hk; omega) w).mono ?_
    rintro e w' ⟨A, c, rfl, h1, h2⟩
    exact ⟨A, c, [], rfl, h1, rfl, Touch.of_ext h2, by simp⟩
theorem walkA : walkG nxA [1, 2, 0] 9 [1] = ([1, 2, 0], true) := by decide
set_option maxRecDepth 100000 in
set_option maxHeartbeats 4000000 in
theorem awake_any (w : World) : Calls Try.prog 8 #[] w fun e w' => e = .returned (.bool true) ∧ Ext w w' := by
  have KNP := Kept.mk (newPipeS 1 w)
  go_enter Try.func8, Try.ntmps8
  go_wp2_with fail
  refine KNP.out.mono ?_
  rintro e w1 ⟨p, c, hP1, rfl, hE1⟩
  have KP1 := Kept.mk hP1
  have KE1 := Kept.mk hE1
  clear hP1 hE1
  have hbp := KP1.out.bp
  have hbc := KP1.out.bc
  have hpc : ∀ j ∈ [p, c], w.heap.size ≤ j := by simp; omega
  have KS1 := Kept.mk (sendRoomS w.heap.size p c (roomP 1) [] (by decide) ⟨#[97]⟩ w1 KP1.out)
  go_wp2_with fail
  refine KS1.out.mono ?_
  rintro e w2 ⟨rfl, hP2, hT2⟩
  have KP2 := Kept.mk hP2
  have KE2 := Kept.mk (show Ext w w2 from Touch.below KE1.out hT2 hpc (Ext.size KE1.out))
  clear hP2 hT2
  have KS2 := Kept.mk (sendFullS w.heap.size p c (roomP 1) [.string ⟨#[97]⟩] (by decide) ⟨#[98]⟩ w2 KP2.out)
  go_wp2_with fail
  refine KS2.out.mono ?_
  rintro e w3 ⟨rfl, hP3, hT3⟩
  have KP3 := Kept.mk hP3
  have KE3 := Kept.mk (show Ext w w3 from Touch.below KE2.out hT3 hpc (Ext.size KE2.out))
  clear hP3 hT3
  have KS3 := Kept.mk (nextSomeS w.heap.size p c (roomP 1) ⟨#[97]⟩ [] false w3 KP3.out)
  go_wp2_with fail
  refine KS3.out.mono ?_
  rintro e w4 ⟨rfl, hP4, hT4⟩
  have KP4 := Kept.mk hP4
  have KE4 := Kept.mk (show Ext w w4 from Touch.below KE3.out hT4 hpc (Ext.size KE3.out))
  clear hP4 hT4
  have KS4 := Kept.mk (closePS w.heap.size p c (roomP 1) [] false w4 KP4.out)
  go_wp2_with fail
  refine KS4.out.mono ?_
  rintro e w5 ⟨rfl, hP5, hT5⟩
  have KP5 := Kept.mk hP5
  have KE5 := Kept.mk (show Ext w w5 from Touch.below KE4.out hT5 hpc (Ext.size KE4.out))
  clear hP5 hT5
  have KS5 := Kept.mk (sendShutS w.heap.size p c (roomP 1) [] ⟨#[99]⟩ w5 KP5.out)
  go_wp2_with fail
  refine KS5.out.mono ?_
  rintro e w6 ⟨rfl, rfl⟩
  have hB5 : w.heap.size ≤ w5.heap.size := Ext.size KE5.out
  have KA1 := Kept.mk (Ext.alloc w5 (.cells #[.slice none 0 0] 50))
  have KTo : Kept (TodoAt (w5.alloc (.cells #[.slice none 0 0] 50)) w.heap.size w5.heap.size (.slice none 0 0) []) := Kept.mk ⟨Blk.new w5 _ _, Buf.nil _ _ _, hB5, by simp [own]⟩
  have KU1 := Kept.mk (push_any w.heap.size w5.heap.size (.slice none 0 0) [] (by simp) 5 _ KTo.out)
  have KE6 := Kept.mk (KE5.out.trans KA1.out)
  go_wp2_with fail
  generalize w5.alloc (.cells #[.slice none 0 0] 50) = w6 at KA1 KTo KU1 KE6
  have hg1 : w.heap.size ≤ w5.heap.size := hB5
  generalize w5.heap.size = g1 at *
  refine KU1.out.mono ?_
  rintro e w7 ⟨rfl, tv, t1, t2, t3⟩
  have KT7 := Kept.mk t1
  have KE7 := Kept.mk (show Ext w w7 from Touch.below KE6.out t2 (fun j hj => (KTo.out.owns j hj).1) (Ext.size KE6.out))
  clear t1 t2 t3
  have KU2 := Kept.mk (pop_any w.heap.size g1 tv [5] (by simp) w7 KT7.out)
  rw [show popP [5] = ([], 5, true) from rfl] at KU2
  go_wp2_with fail
  refine KU2.out.mono ?_
  rintro e w8 ⟨rfl, tv2, t1, t2, t3⟩
  have KE8 := Kept.mk (show Ext w w8 from Touch.below KE7.out t2 (fun j hj => (KT7.out.owns j hj).1) (Ext.size KE7.out))
  clear t1 t2 t3
  have hB8 : w.heap.size ≤ w8.heap.size := Ext.size KE8.out
  have KA2 := Kept.mk (Ext.alloc w8 (.cells #[.map none] 38))
  have KSe : Kept (SeenAt (w8.alloc (.cells #[.map none] 38)) w.heap.size w8.heap.size none []) := Kept.mk ⟨Blk.new w8 _ _, hB8, by simp, by simp, .inl ⟨rfl, rfl⟩⟩
  have hwf : Wf 7 := by unfold Wf; decide
  have KV1 := Kept.mk (add_any w.heap.size w8.heap.size none [] (by simp) 7 hwf _ KSe.out)
  have KE9 := Kept.mk (KE8.out.trans KA2.out)
  go_wp2_with fail
  generalize w8.alloc (.cells #[.map none] 38) = w9 at KA2 KSe KV1 KE9
  generalize w8.heap.size = g2 at *
  refine KV1.out.mono ?_
  rintro e w10 ⟨rfl, mb, t1, t2, t3⟩
  rw [if_neg (by simp)] at t1
  have KSa := Kept.mk t1
  have KE10 := Kept.mk (show Ext w w10 from Touch.below KE9.out t2 (fun j hj => (KSe.out.owns j hj).1) (Ext.size KE9.out))
  clear t1 t2 t3
  have KV2 := Kept.mk (add_any w.heap.size g2 mb [7] (by simp) 7 hwf _ KSa.out)
  go_wp2_with fail
  refine KV2.out.mono ?_
  rintro e w11 ⟨rfl, mb2, t1, t2, t3⟩
  rw [if_pos (by simp)] at t1
  have KSb := Kept.mk t1
  have KE11 := Kept.mk (show Ext w w11 from Touch.below KE10.out t2 (fun j hj => (KSa.out.owns j hj).1) (Ext.size KE10.out))
  clear t1 t2 t3
  have hEl := Ext.alloc w11 (.cells #[.int .i64 1] 3)
  have hrow : Row (w11.alloc (.cells #[.int .i64 1] 3)) (some ⟨w11.heap.size, 0, none⟩) (ints [1]) := Row.new w11 (ints [1]) 3
  have KW := Kept.mk (walk_any tellsA 2 (by simp [nxA]) (by omega) (by simp) (by intro k hk; simp at hk; rcases hk with rfl | rfl | rfl <;> (unfold Wf; decide)) (by intro k hk; simp at hk; rcases hk with rfl | rfl | rfl <;> simp [nxA]) 9 [1] (by simp) (by simp) (some ⟨w11.heap.size, 0, none⟩) 1 (w11.alloc (.cells #[.int .i64 1] 3)) (by omega) [] rfl hrow (by simp [own]))
  rw [walkA] at KW
  have KE12 := Kept.mk (KE11.out.trans hEl)
  have KSc := Kept.mk (KSb.out.ext hEl)
  clear hEl hrow
  go_wp2_with fail
  generalize w11.alloc (.cells #[.int .i64 1] 3) = w12 at KW KE12 KSc
  refine KW.out.mono ?_
  rintro e w13 ⟨A, cA, D', rfl, hV, hJ, hT, hD, hsep⟩
  have hEx : Ext w12 w13 := hT.to_ext
  have KE13 := Kept.mk (KE12.out.trans hEx)
  have KSd := Kept.mk (KSc.out.ext hEx)
  obtain ⟨b, off, rfl, hc⟩ := hV.cell (j := 2) (u := .int .i64 0) rfl
  clear hV hJ hT hD hsep hEx
  have KH := Kept.mk (has_any w.heap.size g2 mb2 [7] 7 hwf w13 KSd.out)
  simp only [List.length_cons, List.length_nil, Nat.reduceAdd] at hc ⊢
  go_wp2_with fail
  refine KH.out.mono ?_
  rintro e w14 ⟨rfl, h14⟩
  have KE14 := Kept.mk (KE13.out.trans h14)
  have hc14 := h14.cell hc
  clear h14 hc
  go_wp2_with fail
  go_ret
  exact ⟨by first | rfl | simp, KE14.out⟩
end Work
end Go.Proofs.Ytnbgdphnoopdpaa
