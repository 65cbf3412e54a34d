/- The walk of the document's Of. No condition. -/
import Derived.Test.YtdjkcolceccclaaEdgeC
namespace Go.Proofs.Ytdjkcolceccclaa
open Go.RowKit
namespace Edge
set_option linter.unusedSimpArgs false
set_option linter.unusedVariables false
theorem infoRe : ∃ i : TypeInfo, Try.prog.info? 35 = some i ∧ i.zero = some (.agg #[.string ByteArray.empty, .int .i64 0]) ∧ i.size = 2 ∧ i.bytes = 24 := by
  have h : (Try.prog.info? 35).map (fun i => (i.zero, i.size, i.bytes)) = some (some (.agg #[.string ByteArray.empty, .int .i64 0]), 2, 24) := by kernel_rfl
  obtain ⟨i, hi, he⟩ := Option.map_eq_some_iff.1 h
  injection he with e1 e2
  injection e2 with e2 e3
  exact ⟨i, hi, e1, e2, e3⟩
set_option maxRecDepth 100000 in
set_option maxHeartbeats 8000000 in
theorem refOf_any (o : Ob) (ev pv : Value) (he : o.ents.length ≤ 2000) (hp : o.pars.length ≤ 2000) (w : World) (hin : ObIn w o ev pv) :
    Calls Try.prog 9 #[.agg (obV o ev pv).toArray] w (OfE w 35 (edgesP o)) := by
  obtain ⟨iE, hiE, hzE, hsE, hbE⟩ := infoRe
  obtain ⟨k, text, ents, tree, pars, targ, of, name, who, when⟩ := o
  have hb0 := Blk.new w 25 (obV ⟨k, text, ents, tree, pars, targ, of, name, who, when⟩ ev pv)
  have hE0 := Ext.alloc w (.cells (obV ⟨k, text, ents, tree, pars, targ, of, name, who, when⟩ ev pv).toArray 25)
  obtain ⟨eA, ec, hev⟩ := hin.e.form
  obtain ⟨pA, pc, hpv⟩ := hin.p.form
  rw [List.length_map] at hev hpv
  subst hev hpv
  have KI := Kept.mk (hin.ext hE0)
  have KB := Kept.mk hb0
  have KE := Kept.mk hE0
  have KL : Kept (edgesP ⟨k, text, ents, tree, pars, targ, of, name, who, when⟩ = (if k = 2 then ents.map fun x => ⟨x.i, kindE x⟩ else if k = 3 then ⟨tree, 2⟩ :: pars.map fun p => ⟨p, 3⟩ else if k = 4 then [⟨targ, of⟩] else [])) := Kept.mk rfl
  unfold OfE
  simp only [obV] at *
  clear hb0 hE0 hin
  rw [KL.out]
  by_cases h2 : k = 2
  · have hkb : (k == 2) = true := by simpa using h2
    have hk3 : (k == 3) = false := by rw [h2]; rfl
    have hk4 : (k == 4) = false := by rw [h2]; rfl
    rw [if_pos h2]
    rw [List.length_map]
    generalize hn : ents.length = n at *
    have Kn := Kept.mk hn.symm
    have hn2 : n ≤ 2000 := he
    clear h2 hn KL he hp
    go_enter Try.func9, Try.ntmps9
    go_wp2_with fail
    generalize w.alloc (.cells #[.int .i64 k, .string (strOf text), .slice eA n ec, .string (strOf tree), .slice pA pars.length pc, .string (strOf targ), .int .i64 of, .string (strOf name), .string (strOf who), .int .i64 when] 25) = w1 at *
    go_loopg [3, 4] n (fun r ov iv wi => ∃ i : Nat, i + r = n ∧ iv = .int .i64 (i : Int) ∧ Kept (BufS 2 wi w.heap.size 35 ov (((ents.take i).map fun x => (⟨x.i, kindE x⟩ : Ed)).map edV) ∧ Ext w1 wi ∧ ∀ j ∈ own ov, w1.heap.size ≤ j))
    case atStart => exact ⟨0, by omega, rfl, Kept.mk ⟨by simpa using BufS.nil 2 w1 w.heap.size 35, Ext.refl _, by simp [own]⟩⟩
    case round =>
      obtain ⟨i, hr, rfl, KK⟩ := hrel
      have Kr := Kept.mk hr
      have hil : i ≤ n := by omega
      clear hr
      have Kl : Kept ((((ents.take i).map fun x => (⟨x.i, kindE x⟩ : Ed)).map edV).length = i) := Kept.mk (by rw [List.length_map, List.length_map, List.length_take, ← Kn.out]; omega)
      obtain ⟨oA, oc, hov⟩ := KK.out.1.form
      rw [Kl.out] at hov
      subst hov
      have KBr := KB.out.ext KK.out.2.1
      have c0 := KBr.cell 0
      have c2 := KBr.cell 2
      simp only [List.getElem?_cons_zero, List.getElem?_cons_succ] at c0 c2
      clear KBr
      by_cases hlt : i < n
      · have hltI : (i : Int) < (n : Int) := by omega
        have hi2 : i < ents.length := by rw [← Kn.out]; exact hlt
        obtain ⟨b, off, rfl, hbl, hc⟩ := KI.out.e.get (by decide) (i := i) hi2
        have s0 := KK.out.2.1.cell (hc 0 (.int .i64 ents[i].m) rfl)
        have s2 := KK.out.2.1.cell (hc 2 (.string (strOf ents[i].i)) rfl)
        rw [Nat.add_zero] at s0
        have Kst := Kept.mk (show ents.take (i + 1) = ents.take i ++ [ents[i]] from List.take_succ_eq_append_getElem hi2)
        have Kke := Kept.mk (show kindE ents[i] = if ents[i].m = 3 then 2 else 1 from rfl)
        generalize ents[i] = x at s0 s2 Kst Kke
        clear hc hi2
        have Kow := Kept.mk KK.out.2.2
        have KEx := Kept.mk KK.out.2.1
        have KBx := Kept.mk KK.out.1
        have hBw : w.heap.size ≤ wr.heap.size := (KE.out.trans KEx.out).size
        clear KK
        by_cases h3 : x.m = 3
        · have h3b : (x.m == 3) = true := by simpa using h3
          rw [if_pos h3] at Kke
          clear h3
          go_wp2_with (refine wpList_append_litS (P := Try.prog) wr rfl (.tmp 24) (.tmp 33) 30 rfl 2 (by decide) 35 iE _ Try.underlying30 hiE hzE hsE rfl w.heap.size (.slice oA i oc) (((ents.take i).map fun x => (⟨x.i, kindE x⟩ : Ed)).map edV) rfl KBx.out [.string (strOf x.i), .int .i64 2] rfl rfl (by simp [Value.oneCell']) hBw (by rw [Kl.out]; simp only [maxLen]; omega) (by rw [Kl.out, hbE]; omega) ?_)
          intro v' w' hv' ht' ho'
          have KN2 := Kept.mk (show BufS 2 w' w.heap.size 35 v' (((ents.take (i + 1)).map fun x => (⟨x.i, kindE x⟩ : Ed)).map edV) ∧ Ext w1 w' ∧ ∀ j ∈ own v', w1.heap.size ≤ j from ⟨by have h := hv'; rw [Kst.out, List.map_append, List.map_append]; show BufS 2 w' w.heap.size _ v' (_ ++ [[.string (strOf x.i), .int .i64 (kindE x)]]); rw [Kke.out]; (first | exact h | (rw [← List.map_take, ← List.map_map] at h; exact h) | (rw [← List.map_take] at h; rw [List.map_map]; exact h)), Touch.below KEx.out ht' (fun j hj => Kow.out j hj) KEx.out.size, fun j hj => (ho' j hj).elim (fun h => Kow.out j h) (fun h => Nat.le_trans KEx.out.size h)⟩)
          obtain ⟨A', n', c', h'⟩ := BufS.form3 hv'
          subst h'
          clear hv' ht' ho' hBw
          go_wp2_with fail
          go_roundg (gk - 1)
          case measure => have := Kr.out; omega
          case rel => exact ⟨i + 1, by have := Kr.out; omega, by first | rfl | simp, KN2⟩
        · have h3b : (x.m == 3) = false := by simpa using h3
          rw [if_neg h3] at Kke
          clear h3
          go_wp2_with (refine wpList_append_litS (P := Try.prog) wr rfl (.tmp 24) (.tmp 33) 30 rfl 2 (by decide) 35 iE _ Try.underlying30 hiE hzE hsE rfl w.heap.size (.slice oA i oc) (((ents.take i).map fun x => (⟨x.i, kindE x⟩ : Ed)).map edV) rfl KBx.out [.string (strOf x.i), .int .i64 1] rfl rfl (by simp [Value.oneCell']) hBw (by rw [Kl.out]; simp only [maxLen]; omega) (by rw [Kl.out, hbE]; omega) ?_)
          intro v' w' hv' ht' ho'
          have KN2 := Kept.mk (show BufS 2 w' w.heap.size 35 v' (((ents.take (i + 1)).map fun x => (⟨x.i, kindE x⟩ : Ed)).map edV) ∧ Ext w1 w' ∧ ∀ j ∈ own v', w1.heap.size ≤ j from ⟨by have h := hv'; rw [Kst.out, List.map_append, List.map_append]; show BufS 2 w' w.heap.size _ v' (_ ++ [[.string (strOf x.i), .int .i64 (kindE x)]]); rw [Kke.out]; (first | exact h | (rw [← List.map_take, ← List.map_map] at h; exact h) | (rw [← List.map_take] at h; rw [List.map_map]; exact h)), Touch.below KEx.out ht' (fun j hj => Kow.out j hj) KEx.out.size, fun j hj => (ho' j hj).elim (fun h => Kow.out j h) (fun h => Nat.le_trans KEx.out.size h)⟩)
          obtain ⟨A', n', c', h'⟩ := BufS.form3 hv'
          subst h'
          clear hv' ht' ho' hBw
          go_wp2_with fail
          go_roundg (gk - 1)
          case measure => have := Kr.out; omega
          case rel => exact ⟨i + 1, by have := Kr.out; omega, by first | rfl | simp, KN2⟩
      · have hltI : ¬ (i : Int) < (n : Int) := by omega
        have Kall := Kept.mk (show ents.take i = ents from List.take_of_length_le (by rw [← Kn.out]; omega))
        have Kin := Kept.mk (show i = n from by omega)
        go_wp2_with fail
        go_ret
        exact ⟨oA, oc, by rw [Kin.out]; rfl, by have := KK.out.1; rw [Kall.out, Kin.out] at this; (first | exact this | (rw [List.map_map] at this; exact this) | (rw [List.map_cons, List.map_map] at this; exact this) | simpa using this), KE.out.trans KK.out.2.1⟩
  · have hk2 : (k == 2) = false := by simpa using h2
    rw [if_neg h2]
    by_cases h3 : k = 3
    · have hk3 : (k == 3) = true := by simpa using h3
      have hk4 : (k == 4) = false := by rw [h3]; rfl
      rw [if_pos h3]
      rw [List.length_cons, List.length_map]
      generalize hn : pars.length = n at *
      have Kn := Kept.mk hn.symm
      have hn2 : n ≤ 2000 := hp
      clear h2 h3 hn KL he hp
      have hB0 : w.heap.size ≤ (w.alloc (.cells #[.int .i64 k, .string (strOf text), .slice eA ents.length ec, .string (strOf tree), .slice pA n pc, .string (strOf targ), .int .i64 of, .string (strOf name), .string (strOf who), .int .i64 when] 25)).heap.size := KE.out.size
      go_enter Try.func9, Try.ntmps9
      go_wp2_with (refine wpList_append_litS (P := Try.prog) _ rfl (.tmp 38) (.tmp 42) 30 rfl 2 (by decide) 35 iE _ Try.underlying30 hiE hzE hsE rfl w.heap.size (.slice none 0 0) [] rfl (BufS.nil 2 _ _ _) [.string (strOf tree), .int .i64 2] rfl (by first | rfl | (rw [World.size_alloc]; rfl)) (by simp [Value.oneCell']) hB0 (by simp [maxLen]) (by rw [hbE]; decide) ?_)
      intro v' w2 hv' ht' ho'
      have KA := Kept.mk (show BufS 2 w2 w.heap.size 35 v' (((⟨tree, 2⟩ :: (pars.take 0).map fun p => (⟨p, 3⟩ : Ed)).map edV)) ∧ Ext (w.alloc (.cells #[.int .i64 k, .string (strOf text), .slice eA ents.length ec, .string (strOf tree), .slice pA n pc, .string (strOf targ), .int .i64 of, .string (strOf name), .string (strOf who), .int .i64 when] 25)) w2 ∧ ∀ j ∈ own v', w.heap.size + 1 ≤ j from ⟨hv', Touch.below (Ext.refl _) ht' (fun j hj => by simp [own] at hj) (Nat.le_refl _), fun j hj => (ho' j hj).elim (fun h => by simp [own] at h) (fun h => by (try rw [World.size_alloc] at h); exact h)⟩)
      obtain ⟨A', n', c', h'⟩ := BufS.form3 hv'
      subst h'
      clear hv' ht' ho' hB0
      have KB2 := KB.out.ext KA.out.2.1
      have b4 := KB2.cell 4
      have b0 := KB2.cell 0
      simp only [List.getElem?_cons_zero, List.getElem?_cons_succ] at b4 b0
      clear KB2
      go_wp2_with fail
      have Kwz := Kept.mk (show (w.alloc (.cells #[.int .i64 k, .string (strOf text), .slice eA ents.length ec, .string (strOf tree), .slice pA n pc, .string (strOf targ), .int .i64 of, .string (strOf name), .string (strOf who), .int .i64 when] 25)).heap.size = w.heap.size + 1 from by simp)
      generalize w.alloc (.cells #[.int .i64 k, .string (strOf text), .slice eA ents.length ec, .string (strOf tree), .slice pA n pc, .string (strOf targ), .int .i64 of, .string (strOf name), .string (strOf who), .int .i64 when] 25) = w1 at *
      go_loopg [3, 6] n (fun r ov iv wi => ∃ i : Nat, i + r = n ∧ iv = .int .i64 (i : Int) ∧ Kept (BufS 2 wi w.heap.size 35 ov ((⟨tree, 2⟩ :: (pars.take i).map fun p => (⟨p, 3⟩ : Ed)).map edV) ∧ Ext w1 wi ∧ ∀ j ∈ own ov, w.heap.size + 1 ≤ j))
      case atStart => exact ⟨0, by omega, rfl, Kept.mk KA.out⟩
      case round =>
        clear b4 b0 KA
        obtain ⟨i, hr, rfl, KK⟩ := hrel
        have Kr := Kept.mk hr
        have hil : i ≤ n := by omega
        clear hr
        have Kl : Kept (((⟨tree, 2⟩ :: (pars.take i).map fun p => (⟨p, 3⟩ : Ed)).map edV).length = i + 1) := Kept.mk (by rw [List.length_map, List.length_cons, List.length_map, List.length_take, ← Kn.out]; omega)
        obtain ⟨oA, oc, hov⟩ := KK.out.1.form
        rw [Kl.out] at hov
        subst hov
        have KBr := KB.out.ext KK.out.2.1
        have c0 := KBr.cell 0
        have c4 := KBr.cell 4
        simp only [List.getElem?_cons_zero, List.getElem?_cons_succ] at c0 c4
        clear KBr
        by_cases hlt : i < n
        · have hltI : (i : Int) < (n : Int) := by omega
          have hi2 : i < pars.length := by rw [← Kn.out]; exact hlt
          obtain ⟨b, off, rfl, hbl, hc⟩ := KI.out.p.get (by decide) (i := i) hi2
          have s0 := KK.out.2.1.cell (hc 0 (.string (strOf pars[i])) rfl)
          rw [Nat.add_zero, Nat.mul_one] at s0
          have Kst := Kept.mk (show pars.take (i + 1) = pars.take i ++ [pars[i]] from List.take_succ_eq_append_getElem hi2)
          generalize pars[i] = x at s0 Kst
          clear hc hi2
          have Kow := Kept.mk KK.out.2.2
          have KEx := Kept.mk KK.out.2.1
          have KBx := Kept.mk KK.out.1
          have hBw : w.heap.size ≤ wr.heap.size := (KE.out.trans KEx.out).size
          have Kw1 := Kept.mk (show w1.heap.size ≤ wr.heap.size from KEx.out.size)
          clear KK
          go_wp2_with (refine wpList_append_litS (P := Try.prog) wr rfl (.tmp 51) (.tmp 58) 30 rfl 2 (by decide) 35 iE _ Try.underlying30 hiE hzE hsE rfl w.heap.size (.slice oA (i + 1) oc) ((⟨tree, 2⟩ :: (pars.take i).map fun p => (⟨p, 3⟩ : Ed)).map edV) rfl KBx.out [.string (strOf x), .int .i64 3] rfl rfl (by simp [Value.oneCell']) hBw (by rw [Kl.out]; simp only [maxLen]; omega) (by rw [Kl.out, hbE]; omega) ?_)
          intro v' w' hv' ht' ho'
          have KN2 := Kept.mk (show BufS 2 w' w.heap.size 35 v' ((⟨tree, 2⟩ :: (pars.take (i + 1)).map fun p => (⟨p, 3⟩ : Ed)).map edV) ∧ Ext w1 w' ∧ ∀ j ∈ own v', w.heap.size + 1 ≤ j from ⟨by have h := hv'; rw [← List.map_take] at h; rw [Kst.out, List.map_append, ← List.cons_append, List.map_append, List.map_cons, List.map_map]; exact h, Touch.below KEx.out ht' (fun j hj => by have := Kow.out j hj; have := Kwz.out; omega) KEx.out.size, fun j hj => (ho' j hj).elim (fun h => Kow.out j h) (fun h => by have := Kwz.out; have := Kw1.out; omega)⟩)
          obtain ⟨A', n', c', h'⟩ := BufS.form3 hv'
          subst h'
          clear hv' ht' ho' hBw
          go_wp2_with fail
          go_roundg (gk - 1)
          case measure => have := Kr.out; omega
          case rel => exact ⟨i + 1, by have := Kr.out; omega, by first | rfl | simp, KN2⟩
        · have hltI : ¬ (i : Int) < (n : Int) := by omega
          have Kall := Kept.mk (show pars.take i = pars from List.take_of_length_le (by rw [← Kn.out]; omega))
          have Kin := Kept.mk (show i = n from by omega)
          go_wp2_with fail
          go_ret
          exact ⟨oA, oc, by rw [Kin.out]; rfl, by have := KK.out.1; rw [Kall.out, Kin.out] at this; (first | exact this | (rw [List.map_map] at this; exact this) | (rw [List.map_cons, List.map_map] at this; exact this) | simpa using this), KE.out.trans KK.out.2.1⟩
    · have hk3 : (k == 3) = false := by simpa using h3
      rw [if_neg h3]
      by_cases h4 : k = 4
      · have hk4 : (k == 4) = true := by simpa using h4
        rw [if_pos h4]
        clear h2 h3 h4 KL he hp
        have hB0 : w.heap.size ≤ (w.alloc (.cells #[.int .i64 k, .string (strOf text), .slice eA ents.length ec, .string (strOf tree), .slice pA pars.length pc, .string (strOf targ), .int .i64 of, .string (strOf name), .string (strOf who), .int .i64 when] 25)).heap.size := KE.out.size
        go_enter Try.func9, Try.ntmps9
        go_wp2_with (refine wpList_append_litS (P := Try.prog) _ rfl (.tmp 63) (.tmp 69) 30 rfl 2 (by decide) 35 iE _ Try.underlying30 hiE hzE hsE rfl w.heap.size (.slice none 0 0) [] rfl (BufS.nil 2 _ _ _) [.string (strOf targ), .int .i64 of] rfl (by first | rfl | (rw [World.size_alloc]; rfl)) (by simp [Value.oneCell']) hB0 (by simp [maxLen]) (by rw [hbE]; decide) ?_)
        intro v' w2 hv' ht' ho'
        have KA := Kept.mk (show BufS 2 w2 w.heap.size 35 v' [edV ⟨targ, of⟩] ∧ Ext w w2 from ⟨hv', KE.out.trans (Touch.below (Ext.refl _) ht' (fun j hj => by simp [own] at hj) (Nat.le_refl _))⟩)
        obtain ⟨A', c', h'⟩ := hv'.form
        subst h'
        clear hv' ht' ho' hB0
        go_wp2_with fail
        go_ret
        exact ⟨A', c', rfl, KA.out.1, KA.out.2⟩
      · have hk4 : (k == 4) = false := by simpa using h4
        rw [if_neg h4]
        clear h2 h3 h4 KL he hp
        go_enter Try.func9, Try.ntmps9
        go_wp2_with fail
        go_ret
        exact ⟨none, 0, rfl, BufS.nil 2 _ _ _, KE.out⟩
end Edge
end Go.Proofs.Ytdjkcolceccclaa
