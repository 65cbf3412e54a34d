/- The walk of Few. No condition. -/
import Derived.Test.YtdjkcolceccclaaEdgeA
import Derived.BigQuiet
import Derived.IntWalk
namespace Go.Proofs.Ytdjkcolceccclaa
open Go.RowKit
namespace Edge
set_option linter.unusedSimpArgs false
set_option linter.unusedVariables false
/-- Its parts are within the machine's reach. -/
structure ObSz (o : Ob) : Prop where
  text : o.text.length ≤ 140737488351232
  tree : o.tree.length ≤ 140737488351232
  targ : o.targ.length ≤ 140737488351232
  name : o.name.length ≤ 140737488351232
  who : o.who.length ≤ 140737488351232
  ents : o.ents.length ≤ 140737488351232
  pars : o.pars.length ≤ 140737488351232
  en : ∀ x ∈ o.ents, x.n.length ≤ 140737488351232 ∧ x.i.length ≤ 140737488351232
  pn : ∀ p ∈ o.pars, p.length ≤ 140737488351232
/-- There is little of it. -/
structure FewOk (o : Ob) : Prop where
  ents : o.ents.length ≤ 749
  pars : o.pars.length ≤ 749
  tree : o.tree.length < 30000
  targ : o.targ.length < 30000
  en : ∀ x ∈ o.ents, x.i.length < 30000
  pn : ∀ p ∈ o.pars, p.length < 30000
def FewE (w : World) (o : Ob) (e : Ending) (w' : World) : Prop := ∃ b, e = .returned (.bool b) ∧ (b = true → FewOk o) ∧ Ext w w'
set_option maxRecDepth 100000 in
set_option maxHeartbeats 8000000 in
theorem few_any (o : Ob) (ev pv : Value) (hz : ObSz o) (w : World) (hin : ObIn w o ev pv) :
    Calls Try.prog 7 #[.agg (obV o ev pv).toArray] w (FewE w o) := by
  obtain ⟨k, text, ents, tree, pars, targ, of, name, who, when⟩ := o
  have KZ := Kept.mk hz
  have z1 := hz.text
  have z2 := hz.tree
  have z3 := hz.targ
  have z4 := hz.name
  have z5 := hz.who
  have z6 := hz.ents
  have z7 := hz.pars
  simp only at z1 z2 z3 z4 z5 z6 z7
  have hE0 := Ext.alloc w (.cells (obV ⟨k, text, ents, tree, pars, targ, of, name, who, when⟩ ev pv).toArray 25)
  have hb0 := Blk.new w 25 (obV ⟨k, text, ents, tree, pars, targ, of, name, who, when⟩ ev pv)
  have KI := Kept.mk (hin.ext hE0)
  have KB := Kept.mk hb0
  have KE := Kept.mk hE0
  obtain ⟨eA, ec, hev⟩ := hin.e.form
  obtain ⟨pA, pc, hpv⟩ := hin.p.form
  subst hev hpv
  clear hin hb0 hE0 hz
  simp only [obV, List.length_map] at *
  generalize hn : ents.length = n at *
  generalize hm : pars.length = m at *
  have Kn := Kept.mk hn
  have Km := Kept.mk hm
  clear hn hm
  have y1 : (strOf text).size = text.length := strOf_size _
  have y2 : (strOf tree).size = tree.length := strOf_size _
  have y3 : (strOf targ).size = targ.length := strOf_size _
  have y4 : (strOf name).size = name.length := strOf_size _
  have y5 : (strOf who).size = who.length := strOf_size _
  generalize text.length = l1 at y1 z1
  generalize htr : tree.length = l2 at y2 z2
  generalize htg : targ.length = l3 at y3 z3
  generalize name.length = l4 at y4 z4
  generalize who.length = l5 at y5 z5
  have Ktr := Kept.mk htr
  have Ktg := Kept.mk htg
  clear htr htg
  obtain ⟨T0, hT0⟩ : ∃ T0, T0 = l1 + l5 + l4 + l2 + l3 + 40 * n + 40 * m := ⟨_, rfl⟩
  have Kok : Kept (T0 < 30000 → (∀ x ∈ ents, x.i.length < 30000) → (∀ p ∈ pars, p.length < 30000) → FewOk ⟨k, text, ents, tree, pars, targ, of, name, who, when⟩) := Kept.mk (fun h1 h2 h3 => ⟨by show ents.length ≤ 749; rw [Kn.out]; omega, by show pars.length ≤ 749; rw [Km.out]; omega, by show tree.length < 30000; rw [Ktr.out]; omega, by show targ.length < 30000; rw [Ktg.out]; omega, h2, h3⟩)
  have hTI : (l1 : Int) + l5 + l4 + l2 + l3 + 40 * n + 40 * m = (T0 : Int) := by omega
  have hTb : T0 ≤ 20000000000000000 := by omega
  have KTI := Kept.mk hTI
  clear hT0 hTI
  go_enter Try.func7, Try.ntmps7
  go_wp2_with fail
  generalize w.alloc (.cells #[.int .i64 k, .string (strOf text), .slice eA n ec, .string (strOf tree), .slice pA m pc, .string (strOf targ), .int .i64 of, .string (strOf name), .string (strOf who), .int .i64 when] 25) = w1 at *
  rw [KTI.out]
  clear y1 y2 y3 y4 y5 z1 z2 z3 z4 z5
  go_loopg [3, 4] n (fun r s3 s4 wi => ∃ i nn : Nat, i + r = n ∧ s3 = .int .i64 (nn : Int) ∧ s4 = .int .i64 (i : Int) ∧ nn ≤ 20000000000000000 ∧ Kept (T0 ≤ nn ∧ (∀ x ∈ ents.take i, x.i.length ≤ nn) ∧ Ext w1 wi))
  case atStart => exact ⟨0, T0, by omega, rfl, rfl, hTb, Kept.mk ⟨Nat.le_refl _, by simp, Ext.refl _⟩⟩
  case round =>
    obtain ⟨i, nn, hr, rfl, rfl, hnb, KK⟩ := hrel
    have Kr := Kept.mk hr
    have hil : i ≤ n := by omega
    clear hr
    have Kf2 := Kept.mk ((KB.out.ext KK.out.2.2).cell 2)
    have f2 := Kf2.out
    simp only [List.getElem?_cons_zero, List.getElem?_cons_succ] at f2
    clear Kf2
    by_cases hlt : i < n
    · have hltI : (i : Int) < (n : Int) := by omega
      by_cases hnn : nn < 30000
      · have hnI : (nn : Int) < 30000 := by omega
        have hi2 : i < ents.length := by rw [Kn.out]; exact hlt
        obtain ⟨b, off, rfl, hbl, hc⟩ := KI.out.e.get (by decide) (i := i) hi2
        have s1 := KK.out.2.2.cell (hc 1 (.string (strOf ents[i].n)) rfl)
        have s2 := KK.out.2.2.cell (hc 2 (.string (strOf ents[i].i)) rfl)
        have Kst := Kept.mk (show ents.take (i + 1) = ents.take i ++ [ents[i]] from List.take_succ_eq_append_getElem hi2)
        have hx := KZ.out.en _ (List.getElem_mem hi2)
        have hxs : (strOf ents[i].n).size = ents[i].n.length := strOf_size _
        have hxt : (strOf ents[i].i).size = ents[i].i.length := strOf_size _
        generalize ents[i] = x at s1 s2 Kst hx hxs hxt
        generalize hla : x.n.length = la at hx hxs
        generalize hlb : x.i.length = lb at hx hxt
        obtain ⟨hx1, hx2⟩ := hx
        have Kb := Kept.mk hlb
        have q1 : IntKind.i64.wrap ((nn : Int) + (la : Int)) = (nn : Int) + (la : Int) := IntWalk.i64_in _ (by omega)
        have q2 : IntKind.i64.wrap ((nn : Int) + (la : Int) + (lb : Int)) = (nn : Int) + (la : Int) + (lb : Int) := IntWalk.i64_in _ (by omega)
        clear hc hi2 hla hlb
        go_wp2_with fail
        go_quiet (fail)
        have KE2 := Kept.mk (KK.out.2.2.trans (Ext.drewN wr nq))
        clear s1 s2 q1 q2
        go_wp2_with fail
        go_roundg (gk - 1)
        case measure => have := Kr.out; omega
        case rel => exact ⟨i + 1, nn + la + lb, by have := Kr.out; omega, by first | rfl | simp, by first | rfl | simp, by omega, Kept.mk ⟨by have := KK.out.1; omega, fun p hp => by
          rw [Kst.out, List.mem_append, List.mem_singleton] at hp
          rcases hp with hp | hp
          · have := KK.out.2.1 p hp; omega
          · rw [hp, Kb.out]; omega, KE2.out⟩⟩
      · have hnI : ¬ (nn : Int) < 30000 := by omega
        have KA := Kept.mk (And.intro KK.out.1 (show nn < 30000 → ∀ x ∈ ents, x.i.length < 30000 from fun h => absurd h hnn))
        have KA2 := Kept.mk KK.out.2.2
        clear KK
        have Kf4 := Kept.mk ((KB.out.ext KA2.out).cell 4)
        have f4 := Kf4.out
        simp only [List.getElem?_cons_zero, List.getElem?_cons_succ] at f4
        clear Kf4
        go_wp2_with fail
        go_loopg [3, 5] m (fun r s3 s5 wi => ∃ j nn2 : Nat, j + r = m ∧ s3 = .int .i64 (nn2 : Int) ∧ s5 = .int .i64 (j : Int) ∧ nn2 ≤ 20000000000000000 ∧ Kept (nn ≤ nn2 ∧ (∀ p ∈ pars.take j, p.length ≤ nn2) ∧ Ext w1 wi))
        case atStart => exact ⟨0, nn, by omega, rfl, rfl, hnb, Kept.mk ⟨Nat.le_refl _, by simp, KA2.out⟩⟩
        case round =>
          clear f4
          obtain ⟨j, nn2, hr2, rfl, rfl, hnb2, KK2⟩ := hrel
          have Kr2 := Kept.mk hr2
          have hjm : j ≤ m := by omega
          clear hr2
          have Kf4 := Kept.mk ((KB.out.ext KK2.out.2.2).cell 4)
          have f4 := Kf4.out
          simp only [List.getElem?_cons_zero, List.getElem?_cons_succ] at f4
          clear Kf4
          by_cases hlt2 : j < m
          · have hltJ : (j : Int) < (m : Int) := by omega
            by_cases hn2 : nn2 < 30000
            · have hnI2 : (nn2 : Int) < 30000 := by omega
              have hj2 : j < pars.length := by rw [Km.out]; exact hlt2
              obtain ⟨b, off, rfl, hbl, hc⟩ := KI.out.p.get (by decide) (i := j) hj2
              have s0 := KK2.out.2.2.cell (hc 0 (.string (strOf pars[j])) rfl)
              rw [Nat.add_zero, Nat.mul_one] at s0
              have Kst := Kept.mk (show pars.take (j + 1) = pars.take j ++ [pars[j]] from List.take_succ_eq_append_getElem hj2)
              have hx : pars[j].length ≤ 140737488351232 := KZ.out.pn _ (List.getElem_mem hj2)
              have hxs : (strOf pars[j]).size = pars[j].length := strOf_size _
              generalize pars[j] = x at s0 Kst hx hxs
              generalize hlx : x.length = lx at hx hxs
              have Kx := Kept.mk hlx
              clear hc hj2 hlx
              go_wp2_with fail
              go_roundg (gk - 1)
              case measure => have := Kr2.out; omega
              case rel => exact ⟨j + 1, nn2 + lx, by have := Kr2.out; omega, by first | rfl | simp, by first | rfl | simp, by omega, Kept.mk ⟨by have := KK2.out.1; omega, fun p hp => by
                rw [Kst.out, List.mem_append, List.mem_singleton] at hp
                rcases hp with hp | hp
                · have := KK2.out.2.1 p hp; omega
                · rw [hp, Kx.out]; omega, KK2.out.2.2⟩⟩
            · have hnI2 : ¬ (nn2 : Int) < 30000 := by omega
              go_wp2_with fail
              go_ret
              exact ⟨false, rfl, fun h => (by cases h), KE.out.trans KK2.out.2.2⟩
          · have hltJ : ¬ (j : Int) < (m : Int) := by omega
            have Kall := Kept.mk (show pars.take j = pars from List.take_of_length_le (by rw [Km.out]; omega))
            by_cases hf : nn2 < 30000
            · have hfI : (nn2 : Int) < 30000 := by omega
              go_wp2_with fail
              go_ret
              exact ⟨true, rfl, fun _ => Kok.out (by have := KK2.out.1; have := KA.out.1; omega) (KA.out.2 (by have := KK2.out.1; omega)) (fun p hp => Nat.lt_of_le_of_lt (KK2.out.2.1 p (by rw [Kall.out]; exact hp)) hf), KE.out.trans KK2.out.2.2⟩
            · have hfI : ¬ (nn2 : Int) < 30000 := by omega
              go_wp2_with fail
              go_ret
              exact ⟨false, rfl, fun h => (by cases h), KE.out.trans KK2.out.2.2⟩
    · have hltI : ¬ (i : Int) < (n : Int) := by omega
      have KA := Kept.mk (And.intro KK.out.1 (show nn < 30000 → ∀ x ∈ ents, x.i.length < 30000 from fun h x hx => Nat.lt_of_le_of_lt (KK.out.2.1 x (by rw [List.take_of_length_le (by rw [Kn.out]; omega)]; exact hx)) h))
      have KA2 := Kept.mk KK.out.2.2
      clear KK
      have Kf4 := Kept.mk ((KB.out.ext KA2.out).cell 4)
      have f4 := Kf4.out
      simp only [List.getElem?_cons_zero, List.getElem?_cons_succ] at f4
      clear Kf4
      go_wp2_with fail
      go_loopg [3, 5] m (fun r s3 s5 wi => ∃ j nn2 : Nat, j + r = m ∧ s3 = .int .i64 (nn2 : Int) ∧ s5 = .int .i64 (j : Int) ∧ nn2 ≤ 20000000000000000 ∧ Kept (nn ≤ nn2 ∧ (∀ p ∈ pars.take j, p.length ≤ nn2) ∧ Ext w1 wi))
      case atStart => exact ⟨0, nn, by omega, rfl, rfl, hnb, Kept.mk ⟨Nat.le_refl _, by simp, KA2.out⟩⟩
      case round =>
        clear f4
        obtain ⟨j, nn2, hr2, rfl, rfl, hnb2, KK2⟩ := hrel
        have Kr2 := Kept.mk hr2
        have hjm : j ≤ m := by omega
        clear hr2
        have Kf4 := Kept.mk ((KB.out.ext KK2.out.2.2).cell 4)
        have f4 := Kf4.out
        simp only [List.getElem?_cons_zero, List.getElem?_cons_succ] at f4
        clear Kf4
        by_cases hlt2 : j < m
        · have hltJ : (j : Int) < (m : Int) := by omega
          by_cases hn2 : nn2 < 30000
          · have hnI2 : (nn2 : Int) < 30000 := by omega
            have hj2 : j < pars.length := by rw [Km.out]; exact hlt2
            obtain ⟨b, off, rfl, hbl, hc⟩ := KI.out.p.get (by decide) (i := j) hj2
            have s0 := KK2.out.2.2.cell (hc 0 (.string (strOf pars[j])) rfl)
            rw [Nat.add_zero, Nat.mul_one] at s0
            have Kst := Kept.mk (show pars.take (j + 1) = pars.take j ++ [pars[j]] from List.take_succ_eq_append_getElem hj2)
            have hx : pars[j].length ≤ 140737488351232 := KZ.out.pn _ (List.getElem_mem hj2)
            have hxs : (strOf pars[j]).size = pars[j].length := strOf_size _
            generalize pars[j] = x at s0 Kst hx hxs
            generalize hlx : x.length = lx at hx hxs
            have Kx := Kept.mk hlx
            clear hc hj2 hlx
            go_wp2_with fail
            go_roundg (gk - 1)
            case measure => have := Kr2.out; omega
            case rel => exact ⟨j + 1, nn2 + lx, by have := Kr2.out; omega, by first | rfl | simp, by first | rfl | simp, by omega, Kept.mk ⟨by have := KK2.out.1; omega, fun p hp => by
              rw [Kst.out, List.mem_append, List.mem_singleton] at hp
              rcases hp with hp | hp
              · have := KK2.out.2.1 p hp; omega
              · rw [hp, Kx.out]; omega, KK2.out.2.2⟩⟩
          · have hnI2 : ¬ (nn2 : Int) < 30000 := by omega
            go_wp2_with fail
            go_ret
            exact ⟨false, rfl, fun h => (by cases h), KE.out.trans KK2.out.2.2⟩
        · have hltJ : ¬ (j : Int) < (m : Int) := by omega
          have Kall := Kept.mk (show pars.take j = pars from List.take_of_length_le (by rw [Km.out]; omega))
          by_cases hf : nn2 < 30000
          · have hfI : (nn2 : Int) < 30000 := by omega
            go_wp2_with fail
            go_ret
            exact ⟨true, rfl, fun _ => Kok.out (by have := KK2.out.1; have := KA.out.1; omega) (KA.out.2 (by have := KK2.out.1; omega)) (fun p hp => Nat.lt_of_le_of_lt (KK2.out.2.1 p (by rw [Kall.out]; exact hp)) hf), KE.out.trans KK2.out.2.2⟩
          · have hfI : ¬ (nn2 : Int) < 30000 := by omega
            go_wp2_with fail
            go_ret
            exact ⟨false, rfl, fun h => (by cases h), KE.out.trans KK2.out.2.2⟩
end Edge
end Go.Proofs.Ytdjkcolceccclaa
