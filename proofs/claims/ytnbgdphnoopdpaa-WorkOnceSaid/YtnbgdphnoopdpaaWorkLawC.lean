/- The law on walks from what was come to already. No condition. -/
import Derived.Test.YtnbgdphnoopdpaaWorkLawB
namespace Go.Proofs.Ytnbgdphnoopdpaa
open Go.RowKit Go.Maps
namespace Work
set_option linter.unusedSimpArgs false
set_option linter.unusedVariables false
/-- What the law asks, of the plain walks. -/
structure Once (es : List Edge) (U first L M : List Int) : Prop where
  l : walkG (nxF es []) U 1000 first = (L, true)
  m : walkG (nxF es []) U 1000 L = (M, true)
  n : walkG (nxF es []) U (L.length : Int) first = (L, true)
  ll : L.length ≤ 170
  lu : ∀ k ∈ L, k ∈ U
  ml : M.length = L.length
  mi : ∀ k ∈ M, k ∈ L
  mn : M.Nodup
theorem once_is (first : List Int) (es : List Edge) (h1 : first.length ≤ 50) (h2 : es.length ≤ 120) : ∃ L M, Once es (univ first es) first L M := by
  have hU : ∀ k ∈ univ first es, ∀ j ∈ (nxF es [] k).1, j ∈ univ first es := univ_next []
  have o1 := far_ok first es 1000 first (fun k hk => List.mem_append_left _ hk) (by omega)
  have w1 := o1.within (fun k hk => List.mem_append_left _ hk) hU
  have o2 := far_ok first es 1000 _ w1 (by omega)
  have n1 := o1.nodup
  have n2 := o2.nodup
  have i2 := o2.within (fun k hk => hk) (fun k hk j hj => o1.cl k hk (by simp) j hj)
  have a2 := o2.all
  have hy1 := o1.yes
  have hy2 := o2.yes
  have hle := nodup_le _ _ n1 w1
  have hul : (univ first es).length ≤ 170 := by unfold univ; rw [List.length_append, List.length_map]; omega
  have e1 : walkG (nxF es []) (univ first es) 1000 first = ((walkG (nxF es []) (univ first es) 1000 first).1, true) := Prod.ext rfl hy1
  have e2 := fun l => show walkG (nxF es []) (univ first es) 1000 l = ((walkG (nxF es []) (univ first es) 1000 l).1, (walkG (nxF es []) (univ first es) 1000 l).2) from rfl
  refine ⟨_, _, ⟨e1, Prod.ext rfl hy2, walkG_room e1 (Int.le_refl _), Nat.le_trans hle hul, w1, Nat.le_antisymm (nodup_le _ _ n2 i2) (nodup_le _ _ n1 a2), i2, n2⟩⟩
theorem nodup_take {l : List Int} (h : l.Nodup) {i : Nat} (hi : i < l.length) : l.getD i 0 ∉ l.take i := by
  rw [List.getD_eq_getElem?_getD, List.getElem?_eq_getElem hi]
  have e : l = l.take i ++ l[i] :: l.drop (i + 1) := by simp
  intro hm
  have h := h
  rw [e, List.nodup_append] at h
  exact h.2.2 l[i] hm l[i] List.mem_cons_self rfl
set_option maxRecDepth 100000 in
set_option maxHeartbeats 4000000 in
theorem once_law (w : World) (a0 : Option Addr) (len0 cap0 : Nat) (first : List Int) (h0 : InInts w a0 len0 cap0 first) (a2 : Option Addr) (len2 cap2 : Nat) (es : List Edge) (h2 : InEdges w a2 len2 cap2 es) :
    Calls Try.prog 5 #[.slice a0 len0 cap0, .slice a2 len2 cap2] w (TrueIs w) := by
  obtain ⟨iI, hiI, hzI, hsI, hbI⟩ := infoI
  obtain ⟨hl0, hm0, hr0, hw0⟩ := h0
  have hl2 : es.length = len2 := by simpa using h2.1.1
  have K2 := Kept.mk h2
  have Kr0 := Kept.mk hr0
  have Kw0 := Kept.mk hw0
  clear h2 hr0 hw0
  have hEa := Ext.alloc w (.cells #[.slice a2 len2 cap2] 23)
  have hc1 : (w.alloc (.cells #[.slice a2 len2 cap2] 23)).cell? ⟨w.heap.size, 0, none⟩ = some (.slice a2 len2 cap2) := by rw [World.cell?_alloc_at _ _ _ _ rfl]; rfl
  have KE := Kept.mk hEa
  have KA := Kept.mk (awake_any (w.alloc (.cells #[.slice a2 len2 cap2] 23)))
  clear hEa
  go_enter Try.func5, Try.ntmps5
  go_wp2_with fail
  generalize w.alloc (.cells #[.slice a2 len2 cap2] 23) = w2 at *
  refine KA.out.mono ?_
  rintro e wN ⟨rfl, hE2⟩
  have hd1 := hE2.cell hc1
  have KEN := Kept.mk (KE.out.trans hE2)
  clear hE2 hc1
  by_cases g0 : 50 < len0
  · have g0I : (50 : Int) < (len0 : Int) := by omega
    go_wp2_with fail
    go_ret
    exact ⟨rfl, KEN.out⟩
  · have g0I : ¬ (50 : Int) < (len0 : Int) := by omega
    by_cases g2 : 120 < len2
    · have g2I : (120 : Int) < (len2 : Int) := by omega
      go_wp2_with fail
      go_ret
      exact ⟨rfl, KEN.out⟩
    · have g2I : ¬ (120 : Int) < (len2 : Int) := by omega
      obtain ⟨L, M, hO⟩ := once_is first es (by omega) (by omega)
      have KO := Kept.mk hO
      have hLl := hO.ll
      have hMl := hO.ml
      clear hO
      have KTel := Kept.mk (tells_far (fn := 16) (caps := #[.pointer (some ⟨w.heap.size, 0, none⟩)]) (univ first es) wN es (enters_of Try.func16 (by kernel_rfl) rfl) (fun W k hE => nextO_any wN W hE a2 len2 cap2 es (K2.out.ext KEN.out) (by omega) w.heap.size hd1 k))
      have KEda := Kept.mk (Ext.alloc wN (.cells (([] : List Value).toArray) 3))
      have Kema : Kept (Buf (wN.alloc (.cells (([] : List Value).toArray) 3)) wN.heap.size 3 (.slice (some ⟨wN.heap.size, 0, none⟩) 0 0) []) := Kept.mk (Buf.lit wN 3 wN.heap.size (by simp) [] (by simp [maxLen]))
      have KSa := Kept.mk (Row.src (P := Try.prog) _ (tx := 22) (n := len0) (cap := cap0) (Row.ext (Kr0.out.ext KEN.out) KEda.out) ((ints_length _).trans hl0) Try.underlying22 (ints_one first))
      have hsda : wN.heap.size ≤ (wN.alloc (.cells (([] : List Value).toArray) 3)).heap.size := by simp
      go_wp2_with (refine wpList_append_buf (P := Try.prog) _ rfl (.tmp 26) (.tmp 27) 22 22 rfl 3 iI (.int .i64 0) Try.underlying22 hiI hzI hsI rfl wN.heap.size (.slice (some ⟨wN.heap.size, 0, none⟩) 0 0) [] rfl Kema.out (.slice a0 len0 cap0) len0 (ints first) rfl KSa.out hsda (by simp only [maxLen, List.length_nil]; omega) (by rw [hbI]; simp only [List.length_nil]; omega) ?_)
      intro v5 w5 hV5 hT5 ho5
      have hfo : ∃ A c, v5 = .slice A first.length c := by
        obtain ⟨A5, c5, h5⟩ := hV5.form
        rw [ints_length] at h5
        exact ⟨A5, c5, h5⟩
      obtain ⟨A5, c5, rfl⟩ := hfo
      have hE5 : Ext wN w5 := Touch.below KEda.out hT5 (fun j hj => by simp [own] at hj; omega) (by simp)
      have KW := Kept.mk (walk_any KTel.out 120 (fun k _ => Nat.le_trans (nextL_length es k) (by omega)) (by omega) (by unfold univ; rw [List.length_append, List.length_map]; omega) (univ_wf Kw0.out K2.out.2) (univ_next []) 1000 first (fun k hk => List.mem_append_left _ hk) (by omega) A5 c5 w5 (Nat.le_trans (Ext.refl wN).size hE5.size) [] ⟨rfl, (Ext.refl wN).trans hE5⟩ (row_of_buf hV5) (fun j hj => (hV5.owns j hj).2))
      rw [KO.out.l] at KW
      have KXa := Kept.mk hE5
      rw [show first.length = len0 from hl0] at KW ⊢
      clear hV5 hT5 ho5 hE5
      go_wp2_with fail
      refine KW.out.mono ?_
      clear KW
      rintro e w6 ⟨A6, c6, D6, rfl, hV6, ⟨hD, hE6⟩, hT6, hD6, hs6⟩
      have KE6 := Kept.mk hE6
      have KV6 := Kept.mk (row_of_buf hV6)
      clear hV6 hD hE6 hT6 hD6 hs6
      have KEdb := Kept.mk (Ext.alloc w6 (.cells (([] : List Value).toArray) 3))
      have Kemb : Kept (Buf (w6.alloc (.cells (([] : List Value).toArray) 3)) w6.heap.size 3 (.slice (some ⟨w6.heap.size, 0, none⟩) 0 0) []) := Kept.mk (Buf.lit w6 3 w6.heap.size (by simp) [] (by simp [maxLen]))
      have KSb := Kept.mk (Row.src (P := Try.prog) _ (tx := 22) (n := L.length) (cap := c6) (Row.ext (KV6.out) KEdb.out) ((ints_length _).trans rfl) Try.underlying22 (ints_one L))
      have hsdb : w6.heap.size ≤ (w6.alloc (.cells (([] : List Value).toArray) 3)).heap.size := by simp
      go_wp2_with (refine wpList_append_buf (P := Try.prog) _ rfl (.tmp 34) (.tmp 35) 22 22 rfl 3 iI (.int .i64 0) Try.underlying22 hiI hzI hsI rfl w6.heap.size (.slice (some ⟨w6.heap.size, 0, none⟩) 0 0) [] rfl Kemb.out (.slice A6 L.length c6) L.length (ints L) rfl KSb.out hsdb (by simp only [maxLen, List.length_nil]; omega) (by rw [hbI]; simp only [List.length_nil]; omega) ?_)
      intro v5 w5 hV5 hT5 ho5
      have hfo : ∃ A c, v5 = .slice A L.length c := by
        obtain ⟨A5, c5, h5⟩ := hV5.form
        rw [ints_length] at h5
        exact ⟨A5, c5, h5⟩
      obtain ⟨A5, c5, rfl⟩ := hfo
      have hE5 : Ext w6 w5 := Touch.below KEdb.out hT5 (fun j hj => by simp [own] at hj; omega) (by simp)
      have KW := Kept.mk (walk_any KTel.out 120 (fun k _ => Nat.le_trans (nextL_length es k) (by omega)) (by omega) (by unfold univ; rw [List.length_append, List.length_map]; omega) (univ_wf Kw0.out K2.out.2) (univ_next []) 1000 L KO.out.lu (by omega) A5 c5 w5 (Nat.le_trans (KE6.out).size hE5.size) [] ⟨rfl, (KE6.out).trans hE5⟩ (row_of_buf hV5) (fun j hj => (hV5.owns j hj).2))
      rw [KO.out.m] at KW
      have KXb := Kept.mk hE5
      clear hV5 hT5 ho5 hE5
      go_wp2_with fail
      refine KW.out.mono ?_
      clear KW
      rintro e w8 ⟨A8, c8, D8, rfl, hV8, ⟨hD, hE8⟩, hT8, hD8, hs8⟩
      have KE8 := Kept.mk hE8
      have hE68 : Ext w6 w8 := KXb.out.trans hT8.to_ext
      have KV8 := Kept.mk (row_of_buf hV8)
      have KV6b := Kept.mk (KV6.out.ext hE68)
      simp only [] at KV8
      clear hV8 hD hE8 hT8 hD8 hs8 hE68
      have hEs := Ext.alloc w8 (.cells #[.map none] 38)
      have KSe : Kept (SeenAt (w8.alloc (.cells #[.map none] 38)) w8.heap.size w8.heap.size none []) := Kept.mk ⟨Blk.new w8 _ _, Nat.le_refl _, by simp, by simp, .inl ⟨rfl, rfl⟩⟩
      have KEs := Kept.mk hEs
      have Kmwf := Kept.mk (show ∀ k ∈ M, Wf k from fun k hk => univ_wf Kw0.out K2.out.2 k (KO.out.lu k (KO.out.mi k hk)))
      clear hEs
      go_wp2_with fail
      go_loopg [11] M.length (fun r iv wi => ∃ (i : Nat) (mb : Option Nat), i + r = M.length ∧ iv = .int .i64 (i : Int) ∧ Ext w8 wi ∧ SeenAt wi w8.heap.size w8.heap.size mb (M.take i))
      case atStart => exact ⟨0, none, by omega, rfl, KEs.out, KSe.out⟩
      case round =>
        obtain ⟨i, mb, hr, rfl, hE, hS⟩ := hrel
        have Kr := Kept.mk hr
        have KE9 := Kept.mk hE
        have KSn := Kept.mk hS
        have hil : i ≤ M.length := by omega
        clear hr hE hS
        by_cases hlt : i < M.length
        · have hltI : (i : Int) < (M.length : Int) := by omega
          obtain ⟨b, off, rfl, hc⟩ := KV8.out.at (by rw [ints_length]; omega)
          have c0 := KE9.out.cell (hc i _ (ints_at M i hlt))
          have hmem : M.getD i 0 ∈ M := by
            rw [List.getD_eq_getElem?_getD, List.getElem?_eq_getElem hlt]
            exact List.getElem_mem _
          have KI := Kept.mk (in_any A6 L.length c6 L rfl (by omega) (M.getD i 0) wr (KV6b.out.ext KE9.out))
          rw [decide_eq_true (KO.out.mi _ hmem)] at KI
          have Kst := Kept.mk (take_snoc M i hlt)
          have KAd := Kept.mk (add_any w8.heap.size w8.heap.size mb (M.take i) (by rw [List.length_take]; omega) (M.getD i 0) (Kmwf.out _ hmem) wr KSn.out)
          have Knd := Kept.mk (nodup_take KO.out.mn hlt)
          generalize M.getD i 0 = x at c0 KI Kst KAd Knd
          clear hc hmem
          go_wp2_with fail
          refine KI.out.mono ?_
          rintro e w9 ⟨rfl, rfl⟩
          go_wp2_with fail
          refine KAd.out.mono ?_
          rintro e w9 ⟨rfl, mb2, t1, t2, t3⟩
          rw [if_neg Knd.out] at t1
          rw [decide_eq_true Knd.out]
          have KS2 := Kept.mk t1
          have KE10 := Kept.mk (show Ext w8 w9 from Touch.below KE9.out t2 (fun j hj => (KSn.out.owns j hj).1) KE9.out.size)
          clear t1 t2 t3
          go_wp2_with fail
          go_roundg (gk - 1)
          case measure => have := Kr.out; omega
          case rel => exact ⟨i + 1, mb2, by have := Kr.out; omega, by first | rfl | simp, KE10.out, by rw [Kst.out]; exact KS2.out⟩
        · have hltI : ¬ (i : Int) < (M.length : Int) := by omega
          have KV9 := Kept.mk (KV6b.out.ext KE9.out)
          have KE9b := Kept.mk (KE8.out.trans KE9.out)
          clear KSe KSn KV6 KV6b KV8
          have KEdc := Kept.mk (Ext.alloc wr (.cells (([] : List Value).toArray) 3))
          have Kemc : Kept (Buf (wr.alloc (.cells (([] : List Value).toArray) 3)) wr.heap.size 3 (.slice (some ⟨wr.heap.size, 0, none⟩) 0 0) []) := Kept.mk (Buf.lit wr 3 wr.heap.size (by simp) [] (by simp [maxLen]))
          have KSc := Kept.mk (Row.src (P := Try.prog) _ (tx := 22) (n := len0) (cap := cap0) (Row.ext (Kr0.out.ext (KEN.out.trans KE9b.out)) KEdc.out) ((ints_length _).trans hl0) Try.underlying22 (ints_one first))
          have hsdc : wr.heap.size ≤ (wr.alloc (.cells (([] : List Value).toArray) 3)).heap.size := by simp
          go_wp2_with (refine wpList_append_buf (P := Try.prog) _ rfl (.tmp 63) (.tmp 64) 22 22 rfl 3 iI (.int .i64 0) Try.underlying22 hiI hzI hsI rfl wr.heap.size (.slice (some ⟨wr.heap.size, 0, none⟩) 0 0) [] rfl Kemc.out (.slice a0 len0 cap0) len0 (ints first) rfl KSc.out hsdc (by simp only [maxLen, List.length_nil]; omega) (by rw [hbI]; simp only [List.length_nil]; omega) ?_)
          intro v5 w5 hV5 hT5 ho5
          have hfo : ∃ A c, v5 = .slice A first.length c := by
            obtain ⟨A5, c5, h5⟩ := hV5.form
            rw [ints_length] at h5
            exact ⟨A5, c5, h5⟩
          obtain ⟨A5, c5, rfl⟩ := hfo
          have hE5 : Ext wr w5 := Touch.below KEdc.out hT5 (fun j hj => by simp [own] at hj; omega) (by simp)
          have KW := Kept.mk (walk_any KTel.out 120 (fun k _ => Nat.le_trans (nextL_length es k) (by omega)) (by omega) (by unfold univ; rw [List.length_append, List.length_map]; omega) (univ_wf Kw0.out K2.out.2) (univ_next []) (L.length : Int) first (fun k hk => List.mem_append_left _ hk) (by omega) A5 c5 w5 (Nat.le_trans (KE9b.out).size hE5.size) [] ⟨rfl, (KE9b.out).trans hE5⟩ (row_of_buf hV5) (fun j hj => (hV5.owns j hj).2))
          rw [KO.out.n] at KW
          have KXc := Kept.mk hE5
          rw [show first.length = len0 from hl0] at KW ⊢
          clear hV5 hT5 ho5 hE5
          go_wp2_with fail
          refine KW.out.mono ?_
          clear KW
          rintro e w12 ⟨A12, c12, D12, rfl, hV12, ⟨hD, hE12⟩, hT12, hD12, hs12⟩
          have hE9 : Ext wr w12 := KXc.out.trans hT12.to_ext
          have KS := Kept.mk (same_any A6 L.length c6 L rfl (by omega) A12 L.length c12 L rfl (by omega) w12 (KV9.out.ext hE9) (row_of_buf hV12))
          rw [decide_eq_true rfl] at KS
          have KEz := Kept.mk (KEN.out.trans hE12)
          have hMI : ((M.length : Nat) : Int) = ((L.length : Nat) : Int) := by omega
          clear hV12 hD hE12 hT12 hD12 hs12 hE9
          go_wp2_with fail
          refine KS.out.mono ?_
          rintro e w13 ⟨rfl, hE13⟩
          have KEy := Kept.mk (KEz.out.trans hE13)
          clear hE13
          go_wp2_with fail
          go_ret
          exact ⟨by first | rfl | simp, KEy.out⟩
end Work
end Go.Proofs.Ytnbgdphnoopdpaa
