/- The law on what a walk comes to. No condition. -/
import Derived.Test.YtnbgdphnoopdpaaWorkLawA
import Derived.Test.YtnbgdphnoopdpaaWorkOk
namespace Go.Proofs.Ytnbgdphnoopdpaa
open Go.RowKit Go.Maps
namespace Work
set_option linter.unusedSimpArgs false
set_option linter.unusedVariables false
theorem leftN_univ (first : List Int) (es : List Edge) : leftN (univ first es) [] ≤ first.length + es.length := by
  unfold leftN univ
  refine Nat.le_trans (List.length_filter_le _ _) ?_
  rw [List.length_append, List.length_map]
  exact Nat.le_refl _
theorem far_ok (first : List Int) (es : List Edge) (most : Int) (l : List Int) (hl : ∀ k ∈ l, k ∈ univ first es) (hm : (first.length + es.length : Int) < most + 1) : OkW (nxF es []) [] l (walkG (nxF es []) (univ first es) most l) :=
  walkG_ok (univ_next []) (fun k _ => by simp [nxF]) most l hl (by have := leftN_univ first es; omega)
theorem far_mem {es : List Edge} {e : Edge} (he : e ∈ es) : e.t ∈ (nxF es [] e.f).1 := List.mem_map.2 ⟨e, List.mem_filter.2 ⟨he, by simp⟩, rfl⟩
theorem mem_far {es : List Edge} {j x : Int} (h : x ∈ (nxF es [] j).1) : ∃ e ∈ es, e.t = x ∧ e.f = j := by
  obtain ⟨e, he, rfl⟩ := List.mem_map.1 h
  exact ⟨e, (List.mem_filter.1 he).1, rfl, by simpa using (List.mem_filter.1 he).2⟩
theorem in_quiet (A : Option Addr) (n cap : Nat) (xs : List Int) (hn : xs.length = n) (hm : n ≤ 9223372036854775807) (k : Int) (w : World) (h : Row w A (ints xs)) (m : Nat) :
    Calls Try.prog 15 #[.slice A n cap, .int .i64 k] (w.drewN m) fun e w' => e = .returned (.bool (decide (k ∈ xs))) ∧ w' = w.drewN m :=
  (in_any A n cap xs hn hm k (w.drewN m) (h.ext (Ext.drewN w m))).mono fun _ _ h => ⟨h.1, h.2.symm⟩
set_option maxRecDepth 100000 in
set_option maxHeartbeats 4000000 in
theorem reaches_law (w : World) (a0 : Option Addr) (len0 cap0 : Nat) (first : List Int) (h0 : InInts w a0 len0 cap0 first) (a2 : Option Addr) (len2 cap2 : Nat) (es : List Edge) (h2 : InEdges w a2 len2 cap2 es) :
    Calls Try.prog 4 #[.slice a0 len0 cap0, .slice a2 len2 cap2] w (TrueIs w) := by
  obtain ⟨iI, hiI, hzI, hsI, hbI⟩ := infoI
  obtain ⟨hl0, hm0, hr0, hw0⟩ := h0
  have hl2 : es.length = len2 := by simpa using h2.1.1
  have K2 := Kept.mk h2
  have Kr0 := Kept.mk hr0
  have Kw0 := Kept.mk hw0
  clear h2 hr0 hw0
  have hEa := Ext.alloc w (.cells #[.slice a2 len2 cap2] 23)
  have hc1 : (w.alloc (.cells #[.slice a2 len2 cap2] 23)).cell? ⟨w.heap.size, 0, none⟩ = some (.slice a2 len2 cap2) := by rw [World.cell?_alloc_at _ _ _ _ rfl]; rfl
  have KE := Kept.mk hEa
  have KA := Kept.mk (awake_any (w.alloc (.cells #[.slice a2 len2 cap2] 23)))
  clear hEa
  go_enter Try.func4, Try.ntmps4
  go_wp2_with fail
  generalize w.alloc (.cells #[.slice a2 len2 cap2] 23) = w2 at *
  refine KA.out.mono ?_
  rintro e wN ⟨rfl, hE2⟩
  have hd1 := hE2.cell hc1
  have KEN := Kept.mk (KE.out.trans hE2)
  clear hE2 hc1
  by_cases g0 : 50 < len0
  · have g0I : (50 : Int) < (len0 : Int) := by omega
    go_wp2_with fail
    go_ret
    exact ⟨rfl, KEN.out⟩
  · have g0I : ¬ (50 : Int) < (len0 : Int) := by omega
    by_cases g2 : 120 < len2
    · have g2I : (120 : Int) < (len2 : Int) := by omega
      go_wp2_with fail
      go_ret
      exact ⟨rfl, KEN.out⟩
    · have g2I : ¬ (120 : Int) < (len2 : Int) := by omega
      have KEd := Kept.mk (Ext.alloc wN (.cells (([] : List Value).toArray) 3))
      have Kem : Kept (Buf (wN.alloc (.cells (([] : List Value).toArray) 3)) wN.heap.size 3 (.slice (some ⟨wN.heap.size, 0, none⟩) 0 0) []) := Kept.mk (Buf.lit wN 3 wN.heap.size (by simp) [] (by simp [maxLen]))
      have KS := Kept.mk (Row.src (P := Try.prog) _ (tx := 22) (n := len0) (cap := cap0) (Kr0.out.ext (KEN.out.trans KEd.out)) (by rw [ints_length]; exact hl0) Try.underlying22 (ints_one first))
      have hsd : wN.heap.size ≤ (wN.alloc (.cells (([] : List Value).toArray) 3)).heap.size := by simp
      go_wp2_with (refine wpList_append_buf (P := Try.prog) _ rfl (.tmp 23) (.tmp 24) 22 22 rfl 3 iI (.int .i64 0) Try.underlying22 hiI hzI hsI rfl wN.heap.size (.slice (some ⟨wN.heap.size, 0, none⟩) 0 0) [] rfl Kem.out (.slice a0 len0 cap0) len0 (ints first) rfl KS.out hsd (by simp only [maxLen, List.length_nil]; omega) (by rw [hbI]; simp only [List.length_nil]; omega) ?_)
      intro v5 w5 hV5 hT5 ho5
      have hfo : ∃ A c, v5 = .slice A first.length c := by
        obtain ⟨A5, c5, h5⟩ := hV5.form
        rw [ints_length] at h5
        exact ⟨A5, c5, h5⟩
      obtain ⟨A5, c5, rfl⟩ := hfo
      have hs5 : wN.heap.size ≤ w5.heap.size := Nat.le_trans hsd hT5.size
      have hE5 : Ext wN w5 := Touch.below KEd.out hT5 (fun j hj => by simp [own] at hj; omega) (by simp)
      have KTel := Kept.mk (tells_far (fn := 14) (caps := #[.pointer (some ⟨w.heap.size, 0, none⟩)]) (univ first es) wN es (enters_of Try.func14 (by kernel_rfl) rfl) (fun W k hE => nextR_any wN W hE a2 len2 cap2 es (K2.out.ext KEN.out) (by omega) w.heap.size hd1 k))
      have KW := Kept.mk (walk_any KTel.out 120 (fun k _ => Nat.le_trans (nextL_length es k) (by omega)) (by omega) (by unfold univ; rw [List.length_append, List.length_map]; omega) (univ_wf Kw0.out K2.out.2) (univ_next []) 1000 first (fun k hk => List.mem_append_left _ hk) (by omega) A5 c5 w5 (by omega) [] ⟨rfl, hE5⟩ (row_of_buf hV5) (fun j hj => (hV5.owns j hj).2))
      have KO := Kept.mk (far_ok first es 1000 first (fun k hk => List.mem_append_left _ hk) (by omega))
      generalize walkG (nxF es []) (univ first es) 1000 first = R at KW KO
      rw [hl0] at KW ⊢
      have KE5 := Kept.mk hE5
      have hyes := KO.out.yes
      obtain ⟨L, ok⟩ := R
      simp only [] at hyes
      subst hyes
      clear hV5 hT5 ho5 hE5
      go_wp2_with fail
      refine KW.out.mono ?_
      rintro e w6 ⟨A6, c6, D6, rfl, hV6, ⟨hD, hE6⟩, hT6, hD6, hs6⟩
      have KE6 := Kept.mk (KEN.out.trans hE6)
      have hd6 := hE6.cell hd1
      obtain ⟨hcap, hcm⟩ := buf_len hV6
      have KV6 := Kept.mk (row_of_buf hV6)
      simp only [] at KV6 hcap
      rw [ints_length] at hcap
      clear hV6 hD hE6 hT6 hD6 hs6 hd1
      go_wp2_with fail
      go_loopg [7] len0 (fun r iv wi => ∃ i : Nat, i + r = len0 ∧ iv = .int .i64 (i : Int) ∧ Ext w6 wi)
      case atStart => exact ⟨0, by omega, rfl, Ext.refl _⟩
      case round =>
        obtain ⟨i, hr, rfl, hE⟩ := hrel
        have Kr := Kept.mk hr
        have KE7 := Kept.mk hE
        have hil : i ≤ len0 := by omega
        clear hr hE
        by_cases hlt : i < len0
        · have hltI : (i : Int) < (len0 : Int) := by omega
          obtain ⟨b, off, rfl, hc⟩ := Kr0.out.at (by rw [ints_length]; omega)
          have c0 := (KE6.out.trans KE7.out).cell (hc i _ (ints_at first i (by omega)))
          have hmem : first.getD i 0 ∈ first := by
            rw [List.getD_eq_getElem?_getD, List.getElem?_eq_getElem (by omega)]
            exact List.getElem_mem _
          have KI := Kept.mk (in_any A6 L.length c6 L rfl (by omega) (first.getD i 0) wr (KV6.out.ext KE7.out))
          rw [decide_eq_true (KO.out.all _ hmem)] at KI
          generalize first.getD i 0 = x at c0 KI
          clear hc hmem
          go_wp2_with fail
          refine KI.out.mono ?_
          rintro e w8 ⟨rfl, rfl⟩
          go_wp2_with fail
          go_roundg (gk - 1)
          case measure => have := Kr.out; omega
          case rel => exact ⟨i + 1, by have := Kr.out; omega, by first | rfl | simp, KE7.out⟩
        · have hltI : ¬ (i : Int) < (len0 : Int) := by omega
          go_wp2_with fail
          go_loopg [8] len2 (fun r iv wi => ∃ i : Nat, i + r = len2 ∧ iv = .int .i64 (i : Int) ∧ Ext w6 wi)
          case atStart => exact ⟨0, by omega, rfl, KE7.out⟩
          case round =>
            clear KE7 Kr hil hlt hltI
            obtain ⟨i, hr, rfl, hE⟩ := hrel
            have Kr := Kept.mk hr
            have KE7 := Kept.mk hE
            have hil : i ≤ len2 := by omega
            have d6 := hE.cell hd6
            clear hr hE
            by_cases hlt : i < len2
            · have hltI : (i : Int) < (len2 : Int) := by omega
              obtain ⟨b, off, e, he, rfl, c0, c1⟩ := K2.out.at hlt
              have e0 := KE7.out.cell (KE6.out.cell c0)
              have e1 := KE7.out.cell (KE6.out.cell c1)
              have hem := List.mem_of_getElem? he
              clear c0 c1 he
              by_cases hin : e.f ∈ L
              · have KI := Kept.mk (in_any A6 L.length c6 L rfl (by omega) e.f wr (KV6.out.ext KE7.out))
                rw [decide_eq_true hin] at KI
                have KJ := Kept.mk (in_any A6 L.length c6 L rfl (by omega) e.t wr (KV6.out.ext KE7.out))
                rw [decide_eq_true (KO.out.cl _ hin (by simp) _ (far_mem hem))] at KJ
                obtain ⟨ef, et⟩ := e
                simp only [] at e0 e1 KI KJ
                clear hin hem
                go_wp2_with fail
                refine KI.out.mono ?_
                rintro e w8 ⟨rfl, rfl⟩
                go_wp2_with fail
                refine KJ.out.mono ?_
                rintro e w8 ⟨rfl, rfl⟩
                go_wp2_with fail
                go_roundg (gk - 1)
                case measure => have := Kr.out; omega
                case rel => exact ⟨i + 1, by have := Kr.out; omega, by first | rfl | simp, KE7.out⟩
              · have KI := Kept.mk (in_any A6 L.length c6 L rfl (by omega) e.f wr (KV6.out.ext KE7.out))
                rw [decide_eq_false hin] at KI
                obtain ⟨ef, et⟩ := e
                simp only [] at e0 e1 KI
                clear hin hem
                go_wp2_with fail
                refine KI.out.mono ?_
                rintro e w8 ⟨rfl, rfl⟩
                go_wp2_with fail
                go_roundg (gk - 1)
                case measure => have := Kr.out; omega
                case rel => exact ⟨i + 1, by have := Kr.out; omega, by first | rfl | simp, KE7.out⟩
            · have hltI : ¬ (i : Int) < (len2 : Int) := by omega
              go_wp2_with fail
              go_loopg [9] L.length (fun r iv wi => ∃ i : Nat, i + r = L.length ∧ iv = .int .i64 (i : Int) ∧ Ext w6 wi)
              case atStart => exact ⟨0, by omega, rfl, KE7.out⟩
              case round =>
                clear KE7 Kr hil hlt hltI d6
                obtain ⟨i, hr, rfl, hE⟩ := hrel
                have Kr := Kept.mk hr
                have KE7 := Kept.mk hE
                have hil : i ≤ L.length := by omega
                have d6 := hE.cell hd6
                clear hr hE
                by_cases hlt : i < L.length
                · have hltI : (i : Int) < (L.length : Int) := by omega
                  obtain ⟨b, off, rfl, hc⟩ := KV6.out.at (by rw [ints_length]; omega)
                  have cx := hc i _ (ints_at L i hlt)
                  have Ksplit := Kept.mk (show L = L.take i ++ (L.getD i 0 :: L.drop (i + 1)) from by
                    rw [List.getD_eq_getElem?_getD, List.getElem?_eq_getElem hlt]
                    simp)
                  have Ktold := Kept.mk (KO.out.told _ _ _ Ksplit.out (by simp))
                  generalize L.getD i 0 = x at cx Ksplit Ktold
                  have Kcx := Kept.mk cx
                  have c0 := KE7.out.cell cx
                  clear cx
                  have KI := Kept.mk (in_any a0 len0 cap0 first hl0 hm0 x wr (Kr0.out.ext (KE6.out.trans KE7.out)))
                  obtain ⟨q, hq⟩ : ∃ q, q = decide (x ∈ first) := ⟨_, rfl⟩
                  rw [← hq] at KI
                  have Kq := Kept.mk hq
                  clear hc hq
                  go_wp2_with fail
                  refine KI.out.mono ?_
                  rintro e w8 ⟨rfl, rfl⟩
                  go_wp2_with fail
                  obtain ⟨go, rfl⟩ : ∃ n : Nat, n = gk := ⟨_, rfl⟩
                  go_loopg [10, 11] len2 (fun r tv kv wi => ∃ (k : Nat) (tb : Bool), k + r = len2 ∧ tv = .bool tb ∧ kv = .int .i64 (k : Int) ∧ (tb = false → x ∉ first ∧ ∀ e ∈ es.take k, ¬ (e.t = x ∧ e.f ∈ L.take i)) ∧ Ext w6 wi)
                  case atStart => exact ⟨0, q, by omega, rfl, rfl, fun h => ⟨by rw [Kq.out] at h; simpa using h, by simp⟩, KE7.out⟩
                  case round =>
                    obtain ⟨k, tb, hr, rfl, rfl, htb, hE⟩ := hrel
                    have Kr2 := Kept.mk hr
                    have KE8 := Kept.mk hE
                    have Ktb := Kept.mk htb
                    have hkl : k ≤ len2 := by omega
                    have d8 := hE.cell hd6
                    have c8 := hE.cell Kcx.out
                    clear hr hE htb c0 d6
                    have hiI : (i : Int) ≤ (c6 : Int) := by omega
                    have hi0 : (0 : Int) ≤ (i : Int) := by omega
                    by_cases hkt : k < len2
                    · have hktI : (k : Int) < (len2 : Int) := by omega
                      obtain ⟨b2, off2, e, he, rfl, e0, e1⟩ := K2.out.at hkt
                      have f0 := KE8.out.cell (KE6.out.cell e0)
                      have f1 := KE8.out.cell (KE6.out.cell e1)
                      have Kst := Kept.mk (show es.take (k + 1) = es.take k ++ [e] from by rw [List.take_add_one, he]; rfl)
                      clear e0 e1 he
                      obtain ⟨ef, et⟩ := e
                      simp only [] at f0 f1
                      cases tb with
                      | true =>
                        go_wp2_with fail
                        go_quiet (fail)
                        go_wp2_with fail
                        go_roundg (gk - 1)
                        case measure => have := Kr2.out; omega
                        case rel => exact ⟨k + 1, true, by have := Kr2.out; omega, rfl, by first | rfl | simp, (fun h => by cases h), KE8.out.trans (Ext.drewN _ _)⟩
                      | false =>
                        by_cases hx : et = x
                        · have hxb : (et == x) = true := by simpa using hx
                          have KJ := Kept.mk (fun m => in_quiet (some ⟨b, off, none⟩) i c6 (L.take i) (by rw [List.length_take]; omega) (by omega) ef wr (by have := Row.front (KV6.out.ext KE8.out) i; rwa [← ints_take] at this) m)
                          by_cases hr : ef ∈ L.take i
                          · rw [decide_eq_true hr] at KJ
                            clear hr
                            go_wp2_with fail
                            go_quiet ((go_at_call 15; exact Calls.quiet_of_same (KJ.out _)))
                            go_wp2_with fail
                            go_roundg (gk - 1)
                            case measure => have := Kr2.out; omega
                            case rel => exact ⟨k + 1, true, by have := Kr2.out; omega, rfl, by first | rfl | simp, (fun h => by cases h), KE8.out.trans (Ext.drewN _ _)⟩
                          · rw [decide_eq_false hr] at KJ
                            have Kr3 := Kept.mk hr
                            clear hr
                            go_wp2_with fail
                            go_quiet ((go_at_call 15; exact Calls.quiet_of_same (KJ.out _)))
                            go_wp2_with fail
                            go_roundg (gk - 1)
                            case measure => have := Kr2.out; omega
                            case rel => exact ⟨k + 1, false, by have := Kr2.out; omega, rfl, by first | rfl | simp, (fun _ => ⟨(Ktb.out (by simp)).1, fun e he => by
                              rw [Kst.out] at he
                              rcases List.mem_append.1 he with he | he
                              · exact (Ktb.out (by simp)).2 e he
                              · rw [List.mem_singleton] at he; subst he; exact fun h => Kr3.out h.2⟩), KE8.out.trans (Ext.drewN _ _)⟩
                        · have hxb : (et == x) = false := by simpa using hx
                          have Kr3 := Kept.mk hx
                          clear hx
                          go_wp2_with fail
                          go_quiet (fail)
                          go_wp2_with fail
                          go_roundg (gk - 1)
                          case measure => have := Kr2.out; omega
                          case rel => exact ⟨k + 1, false, by have := Kr2.out; omega, rfl, by first | rfl | simp, (fun _ => ⟨(Ktb.out (by simp)).1, fun e he => by
                            rw [Kst.out] at he
                            rcases List.mem_append.1 he with he | he
                            · exact (Ktb.out (by simp)).2 e he
                            · rw [List.mem_singleton] at he; subst he; exact fun h => Kr3.out h.1⟩), KE8.out.trans (Ext.drewN _ _)⟩
                    · have hktI : ¬ (k : Int) < (len2 : Int) := by omega
                      have hkk : k = len2 := by omega
                      have htt : tb = true := by
                        cases tb with
                        | true => rfl
                        | false =>
                          exfalso
                          obtain ⟨h1, h2⟩ := Ktb.out (by simp)
                          rw [List.take_of_length_le (by omega)] at h2
                          rcases Ktold.out.2 with h3 | ⟨j, hj, h3⟩
                          · exact h1 h3
                          · obtain ⟨e, he, e1, e2⟩ := mem_far h3
                            exact h2 e he ⟨e1, by rw [e2]; exact hj⟩
                      subst htt
                      have KJ := Kept.mk (fun m => in_quiet (some ⟨b, off, none⟩) i c6 (L.take i) (by rw [List.length_take]; omega) (by omega) x wr (by have := Row.front (KV6.out.ext KE8.out) i; rwa [← ints_take] at this) m)
                      rw [decide_eq_false Ktold.out.1] at KJ
                      go_wp2_with fail
                      go_quiet ((go_at_call 15; exact Calls.quiet_of_same (KJ.out _)))
                      go_wp2_with fail
                      go_roundg (go - 1)
                      case measure => have := Kr.out; omega
                      case rel => exact ⟨i + 1, by have := Kr.out; omega, by first | rfl | simp, KE8.out.trans (Ext.drewN _ _)⟩
                · have hltI : ¬ (i : Int) < (L.length : Int) := by omega
                  go_wp2_with fail
                  go_ret
                  exact ⟨rfl, KE6.out.trans KE7.out⟩
end Work
end Go.Proofs.Ytnbgdphnoopdpaa
