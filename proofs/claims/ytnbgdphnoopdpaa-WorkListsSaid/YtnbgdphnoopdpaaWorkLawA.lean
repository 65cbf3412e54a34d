/- The law on walks: the program's walk is the document's. No condition. -/
import Derived.Test.YtnbgdphnoopdpaaWorkJ
namespace Go.Proofs.Ytnbgdphnoopdpaa
open Go.RowKit Go.Maps
namespace Work
set_option linter.unusedSimpArgs false
set_option linter.unusedVariables false
theorem InEdges.ext {w w' : World} {a : Option Addr} {len cap : Nat} {es : List Edge} (h : InEdges w a len cap es) (k : Ext w w') : InEdges w' a len cap es := by
  obtain ⟨⟨h1, h2, h3, h4, h5⟩, h6⟩ := h
  exact ⟨⟨h1, h2, h3, h4.ext k, fun j hj => (h5 j hj).elim (fun h => .inl (Nat.lt_of_lt_of_le h k.size)) .inr⟩, h6⟩
def TrueIs (w : World) (e : Ending) (w' : World) : Prop := e = .returned (.bool true) ∧ Below w.heap.size w w'
theorem univ_wf {first : List Int} {es : List Edge} (h1 : ∀ x ∈ first, Wf x) (h2 : ∀ e ∈ es, EdgeOk e) : ∀ k ∈ univ first es, Wf k := by
  intro k hk
  rcases List.mem_append.1 hk with h | h
  · exact h1 k h
  · obtain ⟨e, he, rfl⟩ := List.mem_map.1 h
    exact (h2 e he).2
theorem univ_next {first : List Int} {es : List Edge} (bad : List Int) : ∀ k ∈ univ first es, ∀ j ∈ (nxF es bad k).1, j ∈ univ first es := by
  intro k _ j hj
  exact nextL_mem (U := univ first es) (fun e he => List.mem_append_right _ (List.mem_map_of_mem he)) k j hj
set_option maxRecDepth 100000 in
set_option maxHeartbeats 4000000 in
theorem walks_law (w : World) (a0 : Option Addr) (len0 cap0 : Nat) (first : List Int) (h0 : InInts w a0 len0 cap0 first) (most : Int) (hm : (Lit.int .i64 most).wf = true) (a2 : Option Addr) (len2 cap2 : Nat) (es : List Edge) (h2 : InEdges w a2 len2 cap2 es) (a3 : Option Addr) (len3 cap3 : Nat) (bad : List Int) (h3 : InInts w a3 len3 cap3 bad) :
    Calls Try.prog 3 #[.slice a0 len0 cap0, .int .i64 most, .slice a2 len2 cap2, .slice a3 len3 cap3] w (TrueIs w) := by
  obtain ⟨iI, hiI, hzI, hsI, hbI⟩ := infoI
  obtain ⟨hl0, hm0, hr0, hw0⟩ := h0
  obtain ⟨hl3, hm3, hr3, hw3⟩ := h3
  have hl2 : es.length = len2 := by simpa using h2.1.1
  have K2 := Kept.mk h2
  have Kr0 := Kept.mk hr0
  have Kr3 := Kept.mk hr3
  have Kw0 := Kept.mk hw0
  clear h2 hr0 hr3 hw0 hw3
  have hEa := Ext.alloc w (.cells #[.slice a2 len2 cap2] 23)
  have hEb := Ext.alloc (w.alloc (.cells #[.slice a2 len2 cap2] 23)) (.cells #[.slice a3 len3 cap3] 22)
  have hc1 : (w.alloc (.cells #[.slice a2 len2 cap2] 23)).cell? ⟨w.heap.size, 0, none⟩ = some (.slice a2 len2 cap2) := by rw [World.cell?_alloc_at _ _ _ _ rfl]; rfl
  have hc2 : ((w.alloc (.cells #[.slice a2 len2 cap2] 23)).alloc (.cells #[.slice a3 len3 cap3] 22)).cell? ⟨w.heap.size + 1, 0, none⟩ = some (.slice a3 len3 cap3) := by
    rw [World.cell?_alloc_at _ _ _ _ (by simp)]; rfl
  have hc1' := hEb.cell hc1
  have KE := Kept.mk (hEa.trans hEb)
  have KA := Kept.mk (awake_any ((w.alloc (.cells #[.slice a2 len2 cap2] 23)).alloc (.cells #[.slice a3 len3 cap3] 22)))
  clear hEa hEb hc1
  go_enter Try.func3, Try.ntmps3
  go_wp2_with fail
  generalize (w.alloc (.cells #[.slice a2 len2 cap2] 23)).alloc (.cells #[.slice a3 len3 cap3] 22) = w2 at *
  refine KA.out.mono ?_
  rintro e wN ⟨rfl, hE2⟩
  have hd1 := hE2.cell hc1'
  have hd2 := hE2.cell hc2
  have KEN := Kept.mk (KE.out.trans hE2)
  clear hE2 hc1' hc2
  by_cases g0 : 50 < len0
  · have g0I : (50 : Int) < (len0 : Int) := by omega
    go_wp2_with fail
    go_ret
    exact ⟨rfl, KEN.out⟩
  · have g0I : ¬ (50 : Int) < (len0 : Int) := by omega
    by_cases g2 : 120 < len2
    · have g2I : (120 : Int) < (len2 : Int) := by omega
      go_wp2_with fail
      go_ret
      exact ⟨rfl, KEN.out⟩
    · have g2I : ¬ (120 : Int) < (len2 : Int) := by omega
      by_cases g3 : 50 < len3
      · have g3I : (50 : Int) < (len3 : Int) := by omega
        go_wp2_with fail
        go_ret
        exact ⟨rfl, KEN.out⟩
      · have g3I : ¬ (50 : Int) < (len3 : Int) := by omega
        have hEc := Ext.alloc wN (.cells #[.slice none 0 0] 22)
        have hEd := Ext.alloc (wN.alloc (.cells #[.slice none 0 0] 22)) (.cells (([] : List Value).toArray) 3)
        have KEd := Kept.mk (hEc.trans hEd)
        have KBa := Kept.mk ((Blk.new wN 22 [.slice none 0 0]).ext hEd)
        have Kem : Kept (Buf ((wN.alloc (.cells #[.slice none 0 0] 22)).alloc (.cells (([] : List Value).toArray) 3)) (wN.heap.size + 1) 3 (.slice (some ⟨wN.heap.size + 1, 0, none⟩) 0 0) []) := Kept.mk (by
          have := Buf.lit (wN.alloc (.cells #[.slice none 0 0] 22)) 3 (wN.heap.size + 1) (by simp) [] (by simp [maxLen])
          rwa [World.size_alloc] at this)
        have KS := Kept.mk (Row.src (P := Try.prog) _ (tx := 22) (n := len0) (cap := cap0) (Kr0.out.ext (KEN.out.trans KEd.out)) (by rw [ints_length]; exact hl0) Try.underlying22 (ints_one first))
        have hsd : wN.heap.size + 1 ≤ ((wN.alloc (.cells #[.slice none 0 0] 22)).alloc (.cells (([] : List Value).toArray) 3)).heap.size := by simp
        clear hEc hEd
        go_wp2_with (refine wpList_append_buf (P := Try.prog) _ rfl (.tmp 30) (.tmp 31) 22 22 rfl 3 iI (.int .i64 0) Try.underlying22 hiI hzI hsI rfl (wN.heap.size + 1) (.slice (some ⟨wN.heap.size + 1, 0, none⟩) 0 0) [] rfl Kem.out (.slice a0 len0 cap0) len0 (ints first) rfl KS.out hsd (by simp only [maxLen, List.length_nil]; omega) (by rw [hbI]; simp only [List.length_nil]; omega) ?_)
        intro v5 w5 hV5 hT5 ho5
        have hfo : ∃ A c, v5 = .slice A first.length c := by
          obtain ⟨A5, c5, h5⟩ := hV5.form
          rw [ints_length] at h5
          exact ⟨A5, c5, h5⟩
        obtain ⟨A5, c5, rfl⟩ := hfo
        have hs5 : wN.heap.size + 1 ≤ w5.heap.size := Nat.le_trans hsd hT5.size
        have hE5 : Ext wN w5 := Touch.below KEd.out hT5 (fun j hj => by simp [own] at hj; omega) (by simp; omega)
        have KB5 := Kept.mk (KBa.out.touch hT5 (by simp [own]))
        have KJ5 : Kept (jAsk wN [] [wN.heap.size] w5) := Kept.mk ⟨hE5, _, KB5.out, Buf.nil _ _ _, by simp [own], rfl⟩
        have KTel := Kept.mk (tells_ask (univ first es) wN a2 len2 cap2 es (K2.out.ext KEN.out) (by omega) w.heap.size hd1 a3 len3 cap3 bad hl3 hm3 (Kr3.out.ext KEN.out) (w.heap.size + 1) hd2)
        have KW := Kept.mk (walk_any KTel.out 120 (fun k _ => Nat.le_trans (nextL_length es k) (by omega)) (by omega) (by unfold univ; rw [List.length_append, List.length_map]; omega) (univ_wf Kw0.out K2.out.2) (univ_next bad) most first (fun k hk => List.mem_append_left _ hk) (by omega) A5 c5 w5 (by omega) [wN.heap.size] KJ5.out (row_of_buf hV5) (fun j hj => (hV5.owns j hj).2))
        rw [show nxF es bad = fun k => (nextL es k, !decide (k ∈ bad)) from rfl, walkG_F] at KW
        have KR := Kept.mk (fun (W : World) (h : Ext w W) => refWalk_any w W a2 len2 cap2 es a3 len3 cap3 bad most ⟨K2.out, by omega, Kr3.out, hl3, hm3⟩ h first a0 cap0 (by omega) (Kr0.out.ext h))
        generalize walkF first most es bad = R at KW KR
        rw [hl0] at KW KR ⊢
        have KE5 := Kept.mk hE5
        clear hV5 hT5 ho5 hE5
        go_wp2_with fail
        refine KW.out.mono ?_
        rintro e w6 ⟨A6, c6, D6, rfl, hV6, ⟨hB6, v6, hv1, hv2, hv3, rfl⟩, hT6, hD6, hs6⟩
        have hE6 : Ext w w6 := KEN.out.trans hB6
        have hRl : R.1.length ≤ 9223372036854775807 := by
          have := buf_len hV6
          rw [ints_length] at this
          omega
        have e1 := Ext.cell (w := wN) hB6 hd1
        have e2 := Ext.cell (w := wN) hB6 hd2
        have e3 : w6.cell? ⟨wN.heap.size, 0, none⟩ = some v6 := by rw [hv1.cell]; rfl
        have hfo : ∃ A c, v6 = .slice A R.1.length c := by
          obtain ⟨A5, c5, h5⟩ := hv2.form
          rw [ints_length] at h5
          exact ⟨A5, c5, h5⟩
        obtain ⟨A7, c7, rfl⟩ := hfo
        have KE6 := Kept.mk hE6
        have KV6 := Kept.mk (row_of_buf hV6)
        have KV7 := Kept.mk (row_of_buf hv2)
        have KR2 := Kept.mk (KR.out w6 hE6)
        clear hV6 hB6 hv1 hv2 hv3 hT6 hD6 hs6 hE6
        go_wp2_with fail
        refine KR2.out.mono ?_
        rintro e w7 ⟨A8, c8, rfl, hV8, hE8⟩
        have KE7 := Kept.mk (KE6.out.trans hE8)
        have KV8 := Kept.mk (row_of_buf hV8)
        have f3 := hE8.cell e3
        have KSa := Kept.mk (same_any A6 R.1.length c6 R.1 rfl hRl A8 R.1.length c8 R.1 rfl hRl w7 (KV6.out.ext hE8) KV8.out)
        have KV9 := Kept.mk (KV6.out.ext hE8)
        have KV10 := Kept.mk (KV7.out.ext hE8)
        rw [decide_eq_true rfl] at KSa
        clear hV8 hE8 e1 e2 e3
        go_wp2_with fail
        refine KSa.out.mono ?_
        rintro e w8 ⟨rfl, hE9⟩
        have KE8 := Kept.mk (KE7.out.trans hE9)
        have KSb := Kept.mk (same_any A7 R.1.length c7 R.1 rfl hRl A6 R.1.length c6 R.1 rfl hRl w8 (KV10.out.ext hE9) (KV9.out.ext hE9))
        rw [decide_eq_true rfl] at KSb
        have f4 := hE9.cell f3
        clear hE9 f3
        obtain ⟨R1, R2⟩ := R
        simp only [] at *
        go_wp2_with fail
        refine KSb.out.mono ?_
        rintro e w9 ⟨rfl, hE10⟩
        have KE9 := Kept.mk (KE8.out.trans hE10)
        clear hE10
        go_wp2_with fail
        go_ret
        exact ⟨by first | rfl | simp, KE9.out⟩
end Work
end Go.Proofs.Ytnbgdphnoopdpaa
