/- The walk of the document's Names. No condition. -/
import Derived.Test.YtdjkcolceccclaaEdgeR
import Derived.Test.YtdjkcolceccclaaEdgeH
namespace Go.Proofs.Ytdjkcolceccclaa
open Go.RowKit
namespace Edge
set_option linter.unusedSimpArgs false
set_option linter.unusedVariables false
set_option maxRecDepth 100000 in
set_option maxHeartbeats 4000000 in
theorem refNames_any (o : Ob) (ev pv : Value) (he : o.ents.length ≤ 2000) (hp : o.pars.length ≤ 2000) (w : World) (hin : ObIn w o ev pv) :
    Calls Try.prog 12 #[.agg (obV o ev pv).toArray] w fun e w' => ∃ A c, e = .returned (.slice A (namesP o).length c) ∧ BufS 1 w' w.heap.size 9 (.slice A (namesP o).length c) ((namesP o).map sV) ∧ Ext w w' := by
  obtain ⟨iS, hiS, hzS, hsS, hbS⟩ := infoT
  have hE0 := Ext.alloc w (.cells (obV o ev pv).toArray 25)
  have KO := Kept.mk (refOf_any o ev pv he hp _ (hin.ext hE0))
  have hel := edges_len o he hp
  have KE0 := Kept.mk hE0
  have hNn : riseP ((edgesP o).map Ed.id) = namesP o := riseP_eq _
  rw [← hNn]
  unfold OfE at KO
  generalize edgesP o = E at KO hel ⊢
  obtain ⟨n, hn⟩ : ∃ n, n = E.length := ⟨_, rfl⟩
  rw [← hn] at KO
  have KN := Kept.mk hn
  have hn2 : n ≤ 2001 := by omega
  clear hE0 hin hel hn he hp hNn
  unfold obV at *
  go_enter Try.func12, Try.ntmps12
  go_wp2_with fail
  refine KO.out.mono ?_
  rintro e w1 ⟨A1, c1, rfl, hB1, hE1⟩
  have KE1 := Kept.mk (KE0.out.trans hE1)
  have KB1 := Kept.mk hB1
  clear hE1 hB1 KO KE0
  go_wp2_with fail
  go_loopg [3, 5] n (fun r ov iv wi => ∃ i : Nat, i + r = n ∧ iv = .int .i64 (i : Int) ∧ Kept (Buf wi w.heap.size 9 ov (((E.take i).map Ed.id).map tV) ∧ Ext w1 wi ∧ ∀ j ∈ own ov, w1.heap.size ≤ j))
  case atStart => exact ⟨0, by omega, rfl, Kept.mk ⟨by simpa using Buf.nil w1 w.heap.size 9, Ext.refl _, by simp [own]⟩⟩
  case round =>
    obtain ⟨i, hr, rfl, KK⟩ := hrel
    have Kr := Kept.mk hr
    have hil : i ≤ n := by omega
    clear hr
    obtain ⟨oA, oc, hov⟩ := KK.out.1.form
    rw [List.length_map, List.length_map, List.length_take, ← KN.out, Nat.min_eq_left hil] at hov
    subst hov
    by_cases hlt : i < n
    · have hltI : (i : Int) < (n : Int) := by omega
      have hiE2 : i < E.length := by rw [← KN.out]; exact hlt
      obtain ⟨b, off, rfl, hbl, hc⟩ := KB1.out.rd.get (by decide) (i := i) hiE2
      have s0 := KK.out.2.1.cell (hc 0 (.string (strOf E[i].id)) rfl)
      have Kst := Kept.mk (show E.take (i + 1) = E.take i ++ [E[i]] from List.take_succ_eq_append_getElem hiE2)
      generalize E[i] = x at s0 Kst
      rw [Nat.add_zero] at s0
      clear hc hiE2
      have Kl : Kept ((((E.take i).map Ed.id).map tV).length = i) := Kept.mk (by rw [List.length_map, List.length_map, List.length_take, ← KN.out]; omega)
      have KEx := Kept.mk KK.out.2.1
      have KBx := Kept.mk KK.out.1
      have Kow := Kept.mk KK.out.2.2
      have hBw : w.heap.size ≤ wr.heap.size := (KE1.out.trans KEx.out).size
      clear KK
      go_wp2_with (refine wpList_append_lit (P := Try.prog) wr rfl (.tmp 14) (.tmp 20) 23 rfl 9 iS _ Try.underlying23 hiS hzS hsS rfl w.heap.size (.slice oA i oc) (((E.take i).map Ed.id).map tV) rfl KBx.out [.string (strOf x.id)] 1 rfl rfl (by simp [Value.oneCell']) hBw (by rw [Kl.out]; simp only [maxLen]; omega) (by rw [Kl.out, hbS]; omega) ?_)
      intro v' w' hv' ht' ho'
      have KN2 := Kept.mk (show Buf w' w.heap.size 9 v' (((E.take (i + 1)).map Ed.id).map tV) ∧ Ext w1 w' ∧ ∀ j ∈ own v', w1.heap.size ≤ j from ⟨by rw [Kst.out, List.map_append, List.map_append]; have h := hv'; rw [← List.map_take, ← List.map_map] at h; exact h, Touch.below KEx.out ht' (fun j hj => Kow.out j hj) KEx.out.size, fun j hj => (ho' j hj).elim (fun h => Kow.out j h) (fun h => Nat.le_trans KEx.out.size h)⟩)
      obtain ⟨A', c', h'⟩ := hv'.form
      subst h'
      clear hv' ht' ho' hBw
      go_wp2_with fail
      go_roundg (gk - 1)
      case measure => have := Kr.out; omega
      case rel => exact ⟨i + 1, by have := Kr.out; omega, by first | rfl | simp, KN2⟩
    · have hltI : ¬ (i : Int) < (n : Int) := by omega
      have Kall := Kept.mk (show E.take i = E from List.take_of_length_le (by rw [← KN.out]; omega))
      rw [Kall.out] at KK
      have KE := Kept.mk (KE1.out.trans KK.out.2.1)
      have KR := Kept.mk (rise_any (E.map Ed.id) (by rw [List.length_map, ← KN.out]; omega) (.slice oA i oc) wr (by have := KK.out.1.rd; rwa [tV_rows] at this))
      clear KK
      go_wp2_with fail
      refine KR.out.mono ?_
      rintro e w2 ⟨A2, c2, rfl, hB2, hE2⟩
      have KF := Kept.mk (And.intro (hB2.lower KE.out.size) (KE.out.trans hE2))
      clear hB2 hE2
      go_wp2_with fail
      go_ret
      exact ⟨A2, c2, rfl, KF.out.1, KF.out.2⟩
end Edge
end Go.Proofs.Ytdjkcolceccclaa
