/- The walk of Walk, over any function that tells. No condition. -/
import Derived.Test.YtnbgdphnoopdpaaWorkWalk
import Derived.Test.YtnbgdphnoopdpaaWorkG
namespace Go.Proofs.Ytnbgdphnoopdpaa
open Go.RowKit Go.Maps
namespace Work
set_option linter.unusedSimpArgs false
set_option linter.unusedVariables false
def Sep (a b : List Nat) : Prop := ∀ j ∈ a, j ∉ b
theorem Sep.symm {a b : List Nat} (h : Sep a b) : Sep b a := fun j hj hm => h j hm hj
theorem Sep.new {n : Nat} {a a' b : List Nat} (h : Sep a b) (ha : ∀ j ∈ a', j ∈ a ∨ n ≤ j) (hb : ∀ j ∈ b, j < n) : Sep a' b := fun j hj hm => by
  rcases ha j hj with h1 | h1
  · exact h j h1 hm
  · have := hb j hm; omega
/-- What tells, in memory: J asked D w: it was asked for these; its blocks are D. -/
structure Tells (fn : FuncId) (caps : Array Value) (nx : Int → List Int × Bool) (U : List Int) (J : List Int → List Nat → World → Prop) (N : Nat) : Prop where
  touch : ∀ asked D S w w', J asked D w → Touch S w w' → Sep D S → (∀ j ∈ S, N ≤ j) → J asked D w'
  lt : ∀ asked D w, J asked D w → ∀ j ∈ D, j < w.heap.size
  enter : ∀ args w, (callFunc fn args).run Try.prog w = .ok (.enter fn args) w
  call : ∀ asked D w k, asked.length ≤ 2000 → J asked D w → k ∈ U → Calls Try.prog fn (#[.int .i64 k] ++ caps) w fun e w' => ∃ A c D', e = .returned (.tuple #[.slice A (nx k).1.length c, .bool (nx k).2]) ∧
    Buf w' w.heap.size 3 (.slice A (nx k).1.length c) (ints (nx k).1) ∧ J (asked ++ [k]) D' w' ∧ Touch D w w' ∧ ∀ j ∈ D', j ∈ D ∨ w.heap.size ≤ j
/-- A walk's state. -/
structure St (w0 w : World) (J : List Int → List Nat → World → Prop) (D0 : List Nat) (g1 g2 : Nat) (tv ov : Value) (mb : Option Nat) (D : List Nat) (s out asked : List Int) : Prop where
  todo : TodoAt w w0.heap.size g1 tv s.reverse
  seen : SeenAt w w0.heap.size g2 mb out
  buf : Buf w w0.heap.size 3 ov (ints out)
  j : J asked D w
  t : Touch D0 w0 w
  d : ∀ j ∈ D, j ∈ D0 ∨ w0.heap.size ≤ j
  s12 : Sep (g1 :: own tv) (g2 :: ownM mb)
  s13 : Sep (g1 :: own tv) (own ov)
  s1d : Sep (g1 :: own tv) D
  s23 : Sep (g2 :: ownM mb) (own ov)
  s2d : Sep (g2 :: ownM mb) D
  s3d : Sep (own ov) D
section
variable {fn : FuncId} {caps : Array Value} {nx : Int → List Int × Bool} {U : List Int} {w0 w w' : World} {J : List Int → List Nat → World → Prop} {D0 : List Nat} {g1 g2 : Nat} {tv ov : Value} {mb : Option Nat} {D : List Nat} {s out asked : List Int} {N : Nat}
theorem St.stepTodo (hT : Tells fn caps nx U J N) (hN : N ≤ w0.heap.size) (h : St w0 w J D0 g1 g2 tv ov mb D s out asked) {tv' : Value} {s' : List Int} (h1 : TodoAt w' w0.heap.size g1 tv' s'.reverse) (k : Touch (g1 :: own tv) w w') (o : ∀ j ∈ own tv', j ∈ own tv ∨ w.heap.size ≤ j) : St w0 w' J D0 g1 g2 tv' ov mb D s' out asked := by
  have o' : ∀ j ∈ g1 :: own tv', j ∈ g1 :: own tv ∨ w.heap.size ≤ j := fun j hj => by
    rcases List.mem_cons.1 hj with rfl | hj
    · exact .inl (by simp)
    · rcases o j hj with h | h
      · exact .inl (by simp [h])
      · exact .inr h
  exact ⟨h1, h.seen.touch k h.s12.symm, h.buf.touch k h.s13.symm, hT.touch _ _ _ _ _ h.j k h.s1d.symm (fun j hj => Nat.le_trans hN (h.todo.owns j hj).1), h.t.trans k (fun j hj => .inr (h.todo.owns j hj).1), h.d,
    h.s12.new o' (fun j hj => (h.seen.owns j hj).2), h.s13.new o' (fun j hj => (h.buf.owns j hj).2), h.s1d.new o' (hT.lt _ _ _ h.j), h.s23, h.s2d, h.s3d⟩
theorem St.stepSeen (hT : Tells fn caps nx U J N) (hN : N ≤ w0.heap.size) (h : St w0 w J D0 g1 g2 tv ov mb D s out asked) {mb' : Option Nat} {ks : List Int} (h1 : SeenAt w' w0.heap.size g2 mb' ks) (k : Touch (g2 :: ownM mb) w w') (o : ∀ j ∈ ownM mb', j ∈ ownM mb ∨ w.heap.size ≤ j)
    {ov' : Value} {w2 : World} (k2 : Touch (own ov) w' w2) (o2 : ∀ j ∈ own ov', j ∈ own ov ∨ w'.heap.size ≤ j) (hV : Buf w2 w0.heap.size 3 ov' (ints ks)) : St w0 w2 J D0 g1 g2 tv ov' mb' D s ks asked := by
  have o' : ∀ j ∈ g2 :: ownM mb', j ∈ g2 :: ownM mb ∨ w.heap.size ≤ j := fun j hj => by
    rcases List.mem_cons.1 hj with rfl | hj
    · exact .inl (by simp)
    · rcases o j hj with h | h
      · exact .inl (by simp [h])
      · exact .inr h
  have a23 : Sep (g2 :: ownM mb') (own ov) := h.s23.new o' (fun j hj => (h.buf.owns j hj).2)
  have hlt : ∀ {j}, j < w.heap.size → j < w'.heap.size := fun hj => Nat.lt_of_lt_of_le hj k.size
  have hj1 := hT.touch _ _ _ _ _ h.j k h.s2d.symm (fun j hj => Nat.le_trans hN (h.seen.owns j hj).1)
  exact ⟨(h.todo.touch k h.s12).touch k2 h.s13, h1.touch k2 a23, hV, hT.touch _ _ _ _ _ hj1 k2 h.s3d.symm (fun j hj => Nat.le_trans hN (h.buf.owns j hj).1),
    (h.t.trans k (fun j hj => .inr (h.seen.owns j hj).1)).trans k2 (fun j hj => .inr (h.buf.owns j hj).1), h.d,
    (h.s12.symm.new o' (fun j hj => (h.todo.owns j hj).2)).symm, (h.s13.symm.new o2 (fun j hj => hlt (h.todo.owns j hj).2)).symm, h.s1d,
    (a23.symm.new o2 (fun j hj => (h1.owns j hj).2)).symm, h.s2d.new o' (hT.lt _ _ _ h.j), h.s3d.new o2 (hT.lt _ _ _ hj1)⟩
theorem St.stepNext (hT : Tells fn caps nx U J N) (hN : N ≤ w0.heap.size) (h : St w0 w J D0 g1 g2 tv ov mb D s out asked) {D' : List Nat} {asked' : List Int} (h1 : J asked' D' w') (k : Touch D w w') (o : ∀ j ∈ D', j ∈ D ∨ w.heap.size ≤ j) : St w0 w' J D0 g1 g2 tv ov mb D' s out asked' :=
  ⟨h.todo.touch k h.s1d, h.seen.touch k h.s2d, h.buf.touch k h.s3d, h1, h.t.trans k h.d, fun j hj => by
    rcases o j hj with h2 | h2
    · exact h.d j h2
    · exact .inr (Nat.le_trans h.t.size h2),
    h.s12, h.s13, (h.s1d.symm.new o (fun j hj => (h.todo.owns j hj).2)).symm, h.s23, (h.s2d.symm.new o (fun j hj => (h.seen.owns j hj).2)).symm, (h.s3d.symm.new o (fun j hj => (h.buf.owns j hj).2)).symm⟩
theorem St.ext (hT : Tells fn caps nx U J N) (hN : N ≤ w0.heap.size) (h : St w0 w J D0 g1 g2 tv ov mb D s out asked) (k : Ext w w') : St w0 w' J D0 g1 g2 tv ov mb D s out asked :=
  ⟨h.todo.ext k, h.seen.ext k, h.buf.ext k, hT.touch _ _ [] _ _ h.j (Touch.of_ext k) (fun _ _ => by simp) (by simp), h.t.trans (Touch.of_ext (S := []) k) (by simp), h.d, h.s12, h.s13, h.s1d, h.s23, h.s2d, h.s3d⟩
end
theorem popP_rev (k : Int) (s : List Int) : popP (k :: s).reverse = (s.reverse, k, true) := by
  unfold popP
  rw [if_neg (by simp)]
  simp
theorem popP_nil : popP ([] : List Int).reverse = ([], 0, false) := rfl
/-- What a walk leaves. -/
def WalkE (w : World) (J : List Int → List Nat → World → Prop) (D : List Nat) (r : List Int × Bool) (e : Ending) (w' : World) : Prop :=
  ∃ A c D', e = .returned (.tuple #[.slice A r.1.length c, .bool r.2]) ∧ Buf w' w.heap.size 3 (.slice A r.1.length c) (ints r.1) ∧ J r.1 D' w' ∧ Touch D w w' ∧ (∀ j ∈ D', j ∈ D ∨ w.heap.size ≤ j) ∧ Sep (own (.slice A r.1.length c)) D'
set_option maxRecDepth 100000 in
set_option maxHeartbeats 2000000 in
theorem walk_any {fn : FuncId} {caps : Array Value} {nx : Int → List Int × Bool} {U : List Int} {J : List Int → List Nat → World → Prop} {N : Nat} (hT : Tells fn caps nx U J N) (M : Nat) (hM : ∀ k ∈ U, (nx k).1.length ≤ M) (hMs : M ≤ 1000) (hUs : U.length ≤ 500) (hUw : ∀ k ∈ U, Wf k)
    (hU : ∀ k ∈ U, ∀ j ∈ (nx k).1, j ∈ U) (most : Int) (first : List Int) (hfU : ∀ k ∈ first, k ∈ U) (hfl : first.length ≤ 500) (Al : Option Addr) (cl : Nat) (w : World) (hN : N ≤ w.heap.size) (D : List Nat) (hJ : J [] D w) (hF : Row w Al (ints first)) (hA : ∀ j ∈ own (.slice Al first.length cl), j < w.heap.size) :
    Calls Try.prog 9 #[.slice Al first.length cl, .int .i64 most, .func (.func fn) #[] caps] w (WalkE w J D (walkG nx U most first)) := by
  obtain ⟨iI, hiI, hzI, hsI, hbI⟩ := infoI
  have KT := Kept.mk hT
  have KJ := Kept.mk hJ
  have KF := Kept.mk hF
  have KA := Kept.mk hA
  have hen := hT.enter
  have K0 : Kept (St w ((w.alloc (.cells #[.slice none 0 0] 50)).alloc (.cells #[.map none] 38)) J D w.heap.size (w.heap.size + 1) (.slice none 0 0) (.slice none 0 0) none D [] [] []) := Kept.mk (by
    have hE1 := Ext.alloc w (.cells #[.slice none 0 0] 50)
    have hE2 := Ext.alloc (w.alloc (.cells #[.slice none 0 0] 50)) (.cells #[.map none] 38)
    have b1 : Blk (w.alloc (.cells #[.slice none 0 0] 50)) w.heap.size 50 [.slice none 0 0] := Blk.new w _ _
    have b2 : Blk ((w.alloc (.cells #[.slice none 0 0] 50)).alloc (.cells #[.map none] 38)) (w.heap.size + 1) 38 [.map none] := by
      have := Blk.new (w.alloc (.cells #[.slice none 0 0] 50)) 38 [.map none]
      rwa [World.size_alloc] at this
    have hd := hT.lt _ _ _ hJ
    exact ⟨⟨b1.ext hE2, Buf.nil _ _ _, Nat.le_refl _, by simp [own]⟩, ⟨b2, by omega, by simp, by simp, .inl ⟨rfl, rfl⟩⟩, Buf.nil _ _ _, hT.touch _ _ [] _ _ hJ (Touch.of_ext (hE1.trans hE2)) (fun _ _ => by simp) (by simp),
      Touch.of_ext (hE1.trans hE2), fun j hj => .inl hj, fun j hj => by simp [own, ownM] at hj ⊢; omega, fun j hj => by simp [own], fun j hj hm => by simp [own] at hj; have := hd j hm; omega, fun j hj => by simp [own], fun j hj hm => by simp [ownM] at hj; have := hd j hm; omega, fun j hj => by simp [own] at hj⟩)
  have hEw : Ext w ((w.alloc (.cells #[.slice none 0 0] 50)).alloc (.cells #[.map none] 38)) := (Ext.alloc _ _).trans (Ext.alloc _ _)
  have KP := Kept.mk (pushAll_any w.heap.size w.heap.size (.slice none 0 0) [] first (by omega) (by simp) Al cl _ K0.out.todo (hF.ext hEw) (fun j hj => ⟨Nat.lt_of_lt_of_le (hA j hj) hEw.size, by have := hA j hj; simp [own]; omega⟩))
  clear hT hJ hF hA hEw
  go_enter Try.func9, Try.ntmps9
  go_wp2_with fail
  generalize (w.alloc (.cells #[.slice none 0 0] 50)).alloc (.cells #[.map none] 38) = W0 at K0 KP ⊢
  refine KP.out.mono ?_
  rintro e W1 ⟨rfl, tv1, t1, t2, t3⟩
  rw [List.nil_append] at t1
  have KS := Kept.mk (K0.out.stepTodo KT.out hN t1 t2 t3)
  clear t1 t2 t3
  go_wp2_with fail
  have hUl : leftN U [] ≤ 500 := Nat.le_trans (List.length_filter_le _ _) hUs
  have KR : Kept (allF (comeG nx most (leftN U [])) [] first = walkG nx U most first) := Kept.mk rfl
  generalize walkG nx U most first = R at KR ⊢
  generalize hFU : leftN U [] = FU at KR hUl
  go_loopg [10] (FU * (M + 1) + first.length) (fun r ov wi => ∃ (s out : List Int) (A : Option Addr) (c : Nat) (tv : Value) (mb : Option Nat) (D' : List Nat), leftN U out * (M + 1) + s.length ≤ r ∧ ov = .slice A out.length c ∧ (∀ k ∈ s, k ∈ U) ∧ leftN U out ≤ FU ∧ out.length + leftN U out ≤ 500 ∧ leftN U out * (M + 1) + s.length ≤ 501000 ∧ allF (comeG nx most FU) out s = R ∧ St w wi J D w.heap.size (w.heap.size + 1) tv (.slice A out.length c) mb D' s out out)
  case atStart => exact ⟨first, [], none, 0, tv1, none, D, by rw [hFU]; exact Nat.le_refl _, rfl, hfU, by omega, by simp; omega, by
    rw [hFU]
    have := Nat.mul_le_mul hUl (show M + 1 ≤ 1001 by omega)
    omega, KR.out, KS.out⟩
  case round =>
    obtain ⟨s, out, A, c, tv, mb, D', hr, rfl, hsU, hlF, hol, hsl, hR, hS⟩ := hrel
    have Kr := Kept.mk hr
    have KsU := Kept.mk hsU
    have KlF := Kept.mk hlF
    have KR2 := Kept.mk hR
    have KS2 := Kept.mk hS
    have hoM : out.length ≤ 500 := by omega
    have KPo := Kept.mk (pop_any w.heap.size w.heap.size tv s.reverse (by simp; omega) wr hS.todo)
    clear hr hsU hlF hR hS
    cases s with
    | nil =>
      rw [popP_nil] at KPo
      go_wp2_with fail
      refine KPo.out.mono ?_
      rintro e w2 ⟨rfl, tv2, t1, t2, t3⟩
      have KS3 := Kept.mk (KS2.out.stepTodo KT.out hN (s' := []) t1 t2 t3)
      clear t1 t2 t3
      go_wp2_with fail
      refine bodyPost_ret (v := .tuple #[.slice A out.length c, .bool true]) (by simp [results, Try.results9, go_sem]) rfl ?_
      rw [← KR2.out]
      exact ⟨A, c, D', rfl, KS3.out.buf, KS3.out.j, KS3.out.t, KS3.out.d, KS3.out.s3d⟩
    | cons k s =>
      rw [popP_rev] at KPo
      have hkU : k ∈ U := KsU.out k (by simp)
      have hwk := hUw k hkU
      have Khas := Kept.mk (fun (W : World) h => has_any w.heap.size (w.heap.size + 1) mb out k hwk W h)
      have Kadd := Kept.mk (fun (W : World) h => add_any w.heap.size (w.heap.size + 1) mb out (by omega) k hwk W h)
      go_wp2_with fail
      refine KPo.out.mono ?_
      rintro e w2 ⟨rfl, tv2, t1, t2, t3⟩
      have KS3 := Kept.mk (KS2.out.stepTodo KT.out hN (s' := s) t1 t2 t3)
      clear t1 t2 t3
      have KH := Kept.mk (Khas.out w2 KS3.out.seen)
      simp only [List.length_cons] at Kr hsl
      by_cases hin : k ∈ out
      · rw [decide_eq_true hin] at KH
        have Kst := Kept.mk (show allF (comeG nx most FU) out s = R from by rw [← KR2.out, stack_in hin])
        clear hin
        go_wp2_with fail
        refine KH.out.mono ?_
        rintro e w3 ⟨rfl, h3⟩
        have KS4 := Kept.mk (KS3.out.ext KT.out hN h3)
        clear h3
        go_wp2_with fail
        go_roundg (gk - 1)
        case measure => have := Kr.out; omega
        case rel => exact ⟨s, out, A, c, tv2, mb, D', by have := Kr.out; omega, rfl, fun j hj => KsU.out j (by simp [hj]), KlF.out, hol, by omega, Kst.out, KS4.out⟩
      · rw [decide_eq_false hin] at KH
        have Kin := Kept.mk hin
        clear hin
        by_cases hm : most ≤ (out.length : Int)
        · go_wp2_with fail
          refine KH.out.mono ?_
          rintro e w3 ⟨rfl, h3⟩
          have KS4 := Kept.mk (KS3.out.ext KT.out hN h3)
          clear h3
          go_wp2_with fail
          refine bodyPost_ret (v := .tuple #[.slice A out.length c, .bool false]) (by simp [results, Try.results9, go_sem]) rfl ?_
          rw [← KR2.out, stack_full Kin.out hm]
          exact ⟨A, c, D', rfl, KS4.out.buf, KS4.out.j, KS4.out.t, KS4.out.d, KS4.out.s3d⟩
        · have Kg : Kept (leftN U (out ++ [k]) + 1 ≤ leftN U out ∧ (out ++ [k]).length + leftN U (out ++ [k]) ≤ out.length + leftN U out) := Kept.mk ⟨leftN_snoc hkU Kin.out, (Grow.snoc hkU Kin.out).2⟩
          have Kbad := Kept.mk (fun (hb : (nx k).2 = false) => (show R = (out ++ [k], false) from by rw [← KR2.out]; exact stack_bad Kin.out (by omega) hb))
          have Kon := Kept.mk (fun (hb : (nx k).2 = true) => (show allF (comeG nx most FU) (out ++ [k]) ((nx k).1 ++ s) = R from by rw [← KR2.out]; exact (stack_on hU KlF.out hkU Kin.out (by omega) hb).symm))
          have hnl := hM k hkU
          go_wp2_with fail
          refine KH.out.mono ?_
          rintro e w3 ⟨rfl, h3⟩
          have KS4 := Kept.mk (KS3.out.ext KT.out hN h3)
          clear h3
          have KA2 := Kept.mk (Kadd.out w3 KS4.out.seen)
          go_wp2_with fail
          refine KA2.out.mono ?_
          rintro e w4 ⟨rfl, mb2, a1, a2, a3⟩
          rw [if_neg Kin.out] at a1
          have Ka1 := Kept.mk a1
          have Ka2 := Kept.mk a2
          have Ka3 := Kept.mk a3
          clear a1 a2 a3
          have KB4 := Kept.mk (KS4.out.buf.touch Ka2.out KS4.out.s23.symm)
          have hB4 : w.heap.size ≤ w4.heap.size := Nat.le_trans KS4.out.t.size Ka2.out.size
          go_wp2_with (refine wpList_append_lit (P := Try.prog) w4 rfl (.tmp 36) (.tmp 38) 22 rfl 3 iI (.int .i64 0) Try.underlying22 hiI hzI hsI rfl w.heap.size (.slice A out.length c) (ints out) rfl KB4.out [.int .i64 k] 1 rfl rfl (by simp [Value.oneCell']) hB4 (by rw [ints_length]; simp only [maxLen]; omega) (by rw [ints_length, hbI]; omega) ?_)
          intro v5 w5 hV5 hT5 ho5
          rw [show ints out ++ [.int .i64 k] = ints (out ++ [k]) by simp [numsV]] at hV5
          have KS5 := Kept.mk (KS4.out.stepSeen KT.out hN Ka1.out Ka2.out Ka3.out hT5 ho5 hV5)
          have hfo : ∃ A5 c5, v5 = .slice A5 (out ++ [k]).length c5 := by
            obtain ⟨A5, c5, h5⟩ := hV5.form
            rw [ints_length] at h5
            exact ⟨A5, c5, h5⟩
          obtain ⟨A5, c5, rfl⟩ := hfo
          clear hV5 hT5 ho5
          have KN := Kept.mk (KT.out.call out D' w5 k (by omega) KS5.out.j hkU)
          have hg1 := Kg.out.1
          have hg2 := Kg.out.2
          clear Kg
          generalize out ++ [k] = o2 at KS5 KN Kbad Kon hg1 hg2 ⊢
          have Knu := Kept.mk (hU k hkU)
          generalize nx k = nk at KN Kbad Kon hnl Knu
          obtain ⟨l, ok⟩ := nk
          simp only [] at KN Kbad Kon hnl Knu
          go_wp2_with fail
          refine KN.out.mono ?_
          rintro e w6 ⟨Al6, cl6, D6, rfl, hV6, hJ6, hT6, ho6⟩
          have KS6 := Kept.mk (KS5.out.stepNext KT.out hN hJ6 hT6 ho6)
          have KP6 := Kept.mk (pushAll_any w.heap.size w.heap.size tv2 s.reverse l (by omega) (by simp; omega) Al6 cl6 w6 KS6.out.todo (row_of_buf hV6) (fun j hj => ⟨(hV6.owns j hj).2, fun hm => by have h1 := (hV6.owns j hj).1; have h2 := (KS5.out.todo.owns j hm).2; omega⟩))
          clear hV6 hJ6 hT6 ho6
          cases ok with
          | false =>
            go_wp2_with fail
            refine bodyPost_ret (v := .tuple #[.slice A5 o2.length c5, .bool false]) (by simp [results, Try.results9, go_sem]) rfl ?_
            rw [Kbad.out (by simp)]
            exact ⟨A5, c5, D6, rfl, KS6.out.buf, KS6.out.j, KS6.out.t, KS6.out.d, KS6.out.s3d⟩
          | true =>
            go_wp2_with fail
            refine KP6.out.mono ?_
            rintro e w7 ⟨rfl, tv7, t1, t2, t3⟩
            rw [← List.reverse_append] at t1
            have KS7 := Kept.mk (KS6.out.stepTodo KT.out hN t1 t2 t3)
            clear t1 t2 t3
            go_wp2_with fail
            have Kmu : Kept (leftN U o2 * (M + 1) + (l ++ s).length + 1 ≤ leftN U out * (M + 1) + (s.length + 1)) := Kept.mk (by
              have h2 : (leftN U o2 + 1) * (M + 1) ≤ leftN U out * (M + 1) := Nat.mul_le_mul_right _ hg1
              rw [Nat.add_mul, Nat.one_mul] at h2
              rw [List.length_append]
              omega)
            go_roundg (gk - 1)
            case measure => have := Kr.out; have := Kmu.out; omega
            case rel => exact ⟨l ++ s, o2, A5, c5, tv7, mb2, D6, by have := Kr.out; have := Kmu.out; omega, rfl, fun j hj => (List.mem_append.1 hj).elim (Knu.out j) (fun h => KsU.out j (by simp [h])), by have := KlF.out; omega, by omega, by have := Kmu.out; omega, Kon.out (by simp), KS7.out⟩
end Work
end Go.Proofs.Ytnbgdphnoopdpaa
