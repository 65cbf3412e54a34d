/- The walk of edges.Of. No condition. -/
import Derived.Test.YtdjkcolceccclaaEdgeB
import Derived.Test.YtdjkcolceccclaaCalmSkip
namespace Go.Proofs.Ytdjkcolceccclaa
open Go.RowKit
namespace Edge
set_option linter.unusedSimpArgs false
set_option linter.unusedVariables false
theorem spots_len (g : Nat) (ev pv : Value) (o : Ob) : (spotsP g ev pv o).length = (edgesP o).length := by
  unfold spotsP edgesP
  repeat' split
  all_goals simp
/-- Each spot tells its edge. -/
theorem spots_at {w : World} {g : Nat} {ev pv : Value} {o : Ob} (hb : Blk w g 25 (obV o ev pv)) (hin : ObIn w o ev pv) {i : Nat} (hi : i < (edgesP o).length) :
    ∃ ab ao, (spotsP g ev pv o)[i]? = some (⟨ab, ao, none⟩, (edgesP o)[i].k) ∧ w.cell? ⟨ab, ao, none⟩ = some (.string (strOf (edgesP o)[i].id)) := by
  obtain ⟨eA, ec, hev⟩ := hin.e.form
  obtain ⟨pA, pc, hpv⟩ := hin.p.form
  subst hev hpv
  by_cases h2 : o.k = 2
  · have he : edgesP o = o.ents.map fun x => ⟨x.i, kindE x⟩ := by unfold edgesP; rw [if_pos h2]
    have hs : spotsP g (.slice eA (o.ents.map entV).length ec) (.slice pA (o.pars.map sV).length pc) o = (List.range o.ents.length).map (fun i => (behind eA (i * 3 + 2), kindE (o.ents.getD i ⟨0, [], []⟩))) := by unfold spotsP; rw [if_pos h2]; rfl
    have hi2 : i < o.ents.length := by rw [he, List.length_map] at hi; exact hi
    obtain ⟨b, off, rfl, hbl, hc⟩ := hin.e.get (by decide) (i := i) hi2
    refine ⟨b, off + (i * 3 + 2), ?_, ?_⟩
    · rw [hs, List.getElem?_map, List.getElem?_range hi2]
      simp only [he, List.getElem_map, Option.map_some, behind]
      rw [List.getD_eq_getElem?_getD, List.getElem?_eq_getElem hi2]
      rfl
    · have := hc 2 (.string (strOf o.ents[i].i)) rfl
      rw [← Nat.add_assoc, this]
      simp only [he, List.getElem_map]
  · by_cases h3 : o.k = 3
    · have he : edgesP o = ⟨o.tree, 2⟩ :: o.pars.map fun p => ⟨p, 3⟩ := by unfold edgesP; rw [if_neg h2, if_pos h3]
      have hs : spotsP g (.slice eA (o.ents.map entV).length ec) (.slice pA (o.pars.map sV).length pc) o = (⟨g, 3, none⟩, 2) :: (List.range o.pars.length).map (fun i => (behind pA i, 3)) := by unfold spotsP; rw [if_neg h2, if_pos h3]; rfl
      cases i with
      | zero =>
        refine ⟨g, 3, by rw [hs]; simp [he], ?_⟩
        rw [hb.cell]
        simp [he, obV]
      | succ i =>
        have hi2 : i < o.pars.length := by rw [he, List.length_cons, List.length_map] at hi; omega
        obtain ⟨b, off, rfl, hbl, hc⟩ := hin.p.get (by decide) (i := i) hi2
        refine ⟨b, off + i, ?_, ?_⟩
        · rw [hs, List.getElem?_cons_succ, List.getElem?_map, List.getElem?_range hi2]
          simp only [he, List.getElem_cons_succ, List.getElem_map, Option.map_some, behind]
        · have := hc 0 (.string (strOf o.pars[i])) rfl
          rw [Nat.add_zero, Nat.mul_one] at this
          rw [this]
          simp only [he, List.getElem_cons_succ, List.getElem_map]
    · by_cases h4 : o.k = 4
      · have he : edgesP o = [⟨o.targ, o.of⟩] := by unfold edgesP; rw [if_neg h2, if_neg h3, if_pos h4]
        have hs : spotsP g (.slice eA (o.ents.map entV).length ec) (.slice pA (o.pars.map sV).length pc) o = [(⟨g, 5, none⟩, o.of)] := by unfold spotsP; rw [if_neg h2, if_neg h3, if_pos h4]
        obtain rfl : i = 0 := by rw [he] at hi; simp at hi; exact hi
        refine ⟨g, 5, by rw [hs]; simp [he], ?_⟩
        rw [hb.cell]
        simp [he, obV]
      · have he : edgesP o = [] := by unfold edgesP; rw [if_neg h2, if_neg h3, if_neg h4]
        rw [he] at hi
        simp at hi
theorem edges_len (o : Ob) (he : o.ents.length ≤ 2000) (hp : o.pars.length ≤ 2000) : (edgesP o).length ≤ 2001 := by
  unfold edgesP
  repeat' split
  all_goals simp
  all_goals omega
theorem infoEd : ∃ i : TypeInfo, Try.prog.info? 36 = some i ∧ i.zero = some (.agg #[.string ByteArray.empty, .int .i64 0]) ∧ i.size = 2 ∧ i.bytes = 24 := by
  have h : (Try.prog.info? 36).map (fun i => (i.zero, i.size, i.bytes)) = some (some (.agg #[.string ByteArray.empty, .int .i64 0]), 2, 24) := by kernel_rfl
  obtain ⟨i, hi, he⟩ := Option.map_eq_some_iff.1 h
  injection he with e1 e2
  injection e2 with e2 e3
  exact ⟨i, hi, e1, e2, e3⟩
/-- What Of answers. -/
def OfE (w : World) (T : TypeId) (l : List Ed) (e : Ending) (w' : World) : Prop :=
  ∃ A cap, e = .returned (.slice A l.length cap) ∧ BufS 2 w' w.heap.size T (.slice A l.length cap) (l.map edV) ∧ Ext w w'
set_option maxRecDepth 100000 in
set_option maxHeartbeats 4000000 in
theorem of_any (o : Ob) (ev pv : Value) (he : o.ents.length ≤ 2000) (hp : o.pars.length ≤ 2000) (w : World) (hin : ObIn w o ev pv) :
    Calls Try.prog 8 #[.agg (obV o ev pv).toArray] w (OfE w 36 (edgesP o)) := by
  obtain ⟨iE, hiE, hzE, hsE, hbE⟩ := infoEd
  have hm : Try.prog.follows .mixedOrders = true := by kernel_rfl
  have hb0 := Blk.new w 25 (obV o ev pv)
  have hin0 := hin.ext (Ext.alloc w (.cells (obV o ev pv).toArray 25))
  have KS := Kept.mk (spots_any w.heap.size o ev pv he hp _ hb0 hin0)
  have KA := Kept.mk (fun i (hi : i < (edgesP o).length) => spots_at hb0 hin0 hi)
  have hll := spots_len w.heap.size ev pv o
  have hel := edges_len o he hp
  have KE0 := Kept.mk (Ext.alloc w (.cells (obV o ev pv).toArray 25))
  generalize spotsP w.heap.size ev pv o = L at KS KA hll
  generalize edgesP o = E at KA hll hel ⊢
  obtain ⟨n, hn⟩ : ∃ n, n = E.length := ⟨_, rfl⟩
  have KL := Kept.mk (hll.trans hn.symm)
  have KN := Kept.mk hn
  have hn2 : n ≤ 2001 := by omega
  unfold SpotsE at KS
  rw [hll, ← hn] at KS
  clear hb0 hin0 hll hel hn he hp hin
  unfold obV at *
  go_enter Try.func8, Try.ntmps8
  go_wp2_with fail
  refine KS.out.mono ?_
  rintro e w1 ⟨A1, c1, rfl, hB1, hE1⟩
  have KE1 := Kept.mk (KE0.out.trans hE1)
  have KE2 := Kept.mk hE1
  have KB1 := Kept.mk hB1
  clear hE1 hB1 KS
  go_wp2_with fail
  go_loopg [3, 8] n (fun r ov iv wi => ∃ i : Nat, i + r = n ∧ iv = .int .i64 (i : Int) ∧ Kept (BufS 2 wi w.heap.size 36 ov ((E.take i).map edV) ∧ Ext w1 wi ∧ ∀ j ∈ own ov, w1.heap.size ≤ j))
  case atStart => exact ⟨0, by omega, rfl, Kept.mk ⟨by simpa using BufS.nil 2 w1 w.heap.size 36, Ext.refl _, by simp [own]⟩⟩
  case round =>
    obtain ⟨i, hr, rfl, KK⟩ := hrel
    have Kr := Kept.mk hr
    have hil : i ≤ n := by omega
    clear hr
    obtain ⟨oA, oc, hov⟩ := KK.out.1.form
    rw [List.length_map, List.length_take, ← KN.out, Nat.min_eq_left hil] at hov
    subst hov
    by_cases hlt : i < n
    · have hltI : (i : Int) < (n : Int) := by omega
      have hiL : i < L.length := by rw [KL.out]; exact hlt
      have hiE2 : i < E.length := by rw [← KN.out]; exact hlt
      obtain ⟨b, off, rfl, hbl, hc⟩ := KB1.out.rd.get (by decide) (i := i) hiL
      obtain ⟨ab, ao, ha, hca⟩ := KA.out i hiE2
      rw [List.getElem?_eq_getElem hiL] at ha
      injection ha with ha
      rw [ha] at hc
      have s0 := KK.out.2.1.cell (hc 0 (.pointer (some ⟨ab, ao, none⟩)) rfl)
      have s1 := KK.out.2.1.cell (hc 1 (.int .i64 E[i].k) rfl)
      have s2 := KK.out.2.1.cell (KE2.out.cell hca)
      have Kst := Kept.mk (show E.take (i + 1) = E.take i ++ [E[i]] from List.take_succ_eq_append_getElem hiE2)
      generalize E[i] = x at s1 s2 Kst
      rw [Nat.add_zero] at s0
      clear hc hca ha
      go_wp2_with fail
      have Kl : Kept (((E.take i).map edV).length = i) := Kept.mk (by rw [List.length_map, List.length_take, ← KN.out]; omega)
      have hX := Blk.new wr 54 [.pointer (some ⟨ab, ao, none⟩), .int .i64 x.k]
      have hEx := Ext.alloc wr (.cells #[.pointer (some ⟨ab, ao, none⟩), .int .i64 x.k] 54)
      have d0 := hX.cell 0
      have d1 := hX.cell 1
      have d2 := hEx.cell s2
      simp only [List.getElem?_cons_zero, List.getElem?_cons_succ] at d0 d1
      have KEx := Kept.mk (KK.out.2.1.trans hEx)
      have KBx := Kept.mk (KK.out.1.ext hEx)
      have Kow := Kept.mk KK.out.2.2
      generalize hwx : wr.alloc (.cells #[.pointer (some ⟨ab, ao, none⟩), .int .i64 x.k] 54) = wx at *
      generalize wr.heap.size = xg at *
      clear hX hEx s0 s1 s2 hwx KK
      refine wp_region_calmS (v1 := .slice oA i oc) 0 Ext 7 ([] :: [] :: [(13, 1)] :: [(14, 2)] :: [(15, 3)] :: [] :: [(17, 5)] :: [])
        ((12, 0) :: (13, 1) :: (14, 2) :: (15, 3) :: (16, 4) :: (17, 5) :: (18, 6) :: [])
        (EqV (.slice oA i oc) :: EqV ?sce1 :: EqV ?sce2 :: EqV ?sce3 :: EqV ?sce4 :: EqV ?sce5 :: EqV ?sce6 :: []) hm (by kernel_rfl) (by decide) rfl (by kernel_rfl) (by kernel_rfl) (fun _ _ _ h => h) (.inl ⟨rfl, fun _ => rfl⟩) (fun _ => rfl) Ext.refl (fun _ _ _ => Ext.trans) Ext.drew
        (MonoL.at (MonoL.eq _ (MonoL.eq _ (MonoL.eq _ (MonoL.eq _ (MonoL.eq _ (MonoL.eq _ (MonoL.eq _ (MonoL.nil))))))))) ?scalmOps ?scalmDone
      case scalmOps =>
        intro vs
        refine (CalmOps.cons ?_ (CalmOps.cons ?_ (CalmOps.cons ?_ (CalmOps.cons ?_ (CalmOps.cons ?_ (CalmOps.cons ?_ (CalmOps.cons ?_ trivial)))))))
        · intro w6 hR hL; simp [Look, VAt, EqV] at hL; have q0 := hR.cell d0; have q1 := hR.cell d1; have q2 := hR.cell d2; simp [Guarded, setAll, bare, hL]; go_wp2_with fail; exact CalmPost.mk (by first | (simp; done) | (simp; rfl) | rfl) rfl (Ext.refl _)
        · intro w6 hR hL; simp [Look, VAt, EqV] at hL; have q0 := hR.cell d0; have q1 := hR.cell d1; have q2 := hR.cell d2; simp [Guarded, setAll, bare, hL]; go_wp2_with fail; exact CalmPost.mk (by first | (simp; done) | (simp; rfl) | rfl) rfl (Ext.refl _)
        · intro w6 hR hL; simp [Look, VAt, EqV] at hL; have q0 := hR.cell d0; have q1 := hR.cell d1; have q2 := hR.cell d2; simp [Guarded, setAll, bare, hL]; go_wp2_with fail; exact CalmPost.mk (by first | (simp; done) | (simp; rfl) | rfl) rfl (Ext.refl _)
        · intro w6 hR hL; simp [Look, VAt, EqV] at hL; have q0 := hR.cell d0; have q1 := hR.cell d1; have q2 := hR.cell d2; simp [Guarded, setAll, bare, hL]; go_wp2_with fail; exact CalmPost.mk (by first | (simp; done) | (simp; rfl) | rfl) rfl (Ext.refl _)
        · intro w6 hR hL; simp [Look, VAt, EqV] at hL; have q0 := hR.cell d0; have q1 := hR.cell d1; have q2 := hR.cell d2; simp [Guarded, setAll, bare, hL]; go_wp2_with fail; exact CalmPost.mk (by first | (simp; done) | (simp; rfl) | rfl) rfl (Ext.refl _)
        · intro w6 hR hL; simp [Look, VAt, EqV] at hL; have q0 := hR.cell d0; have q1 := hR.cell d1; have q2 := hR.cell d2; simp [Guarded, setAll, bare, hL]; go_wp2_with fail; exact CalmPost.mk (by first | (simp; done) | (simp; rfl) | rfl) rfl (Ext.refl _)
        · intro w6 hR hL; simp [Look, VAt, EqV] at hL; have q0 := hR.cell d0; have q1 := hR.cell d1; have q2 := hR.cell d2; simp [Guarded, setAll, bare, hL]; go_wp2_with fail; exact CalmPost.mk (by first | (simp; done) | (simp; rfl) | rfl) rfl (Ext.refl _)
      case scalmDone =>
        intro vs w6 hR hL
        simp [Look, VAt, EqV] at hL
        obtain ⟨L0, L1, L2, L3, L4, L5, L6⟩ := hL
        simp [setAll, L0, L1, L2, L3, L4, L5, L6]
        clear L0 L1 L2 L3 L4 L5 L6
        have KE6 := Kept.mk (KEx.out.trans hR)
        have KB6 := Kept.mk (KBx.out.ext hR)
        have hBw := (KE1.out.trans KE6.out).size
        clear hR KEx KBx d0 d1 d2
        go_wp2_with (refine wpList_append_litS (P := Try.prog) w6 rfl (.tmp 12) (.tmp 20) 28 rfl 2 (by decide) 36 iE _ Try.underlying28 hiE hzE hsE rfl w.heap.size (.slice oA i oc) ((E.take i).map edV) rfl KB6.out [.string (strOf x.id), .int .i64 x.k] rfl rfl (by simp [Value.oneCell']) hBw (by rw [Kl.out]; simp only [maxLen]; omega) (by rw [Kl.out, hbE]; omega) ?_)
        intro v' w' hv' ht' ho'
        have KN2 := Kept.mk (show BufS 2 w' w.heap.size 36 v' ((E.take (i + 1)).map edV) ∧ Ext w1 w' ∧ ∀ j ∈ own v', w1.heap.size ≤ j from ⟨by rw [Kst.out, List.map_append, List.map_take]; exact hv', Touch.below KE6.out ht' (fun j hj => Kow.out j hj) KE6.out.size, fun j hj => (ho' j hj).elim (fun h => Kow.out j h) (fun h => Nat.le_trans KE6.out.size h)⟩)
        obtain ⟨A', n', c', h'⟩ := BufS.form3 hv'
        subst h'
        clear hv' ht' ho' hBw
        go_wp2_with fail
        go_roundg (gk - 1)
        case measure => have := Kr.out; omega
        case rel => exact ⟨i + 1, by have := Kr.out; omega, by first | rfl | simp, KN2⟩
    · have hltI : ¬ (i : Int) < (n : Int) := by omega
      have Kall := Kept.mk (show E.take i = E from List.take_of_length_le (by rw [← KN.out]; omega))
      have Kin := Kept.mk (show i = E.length from by rw [← KN.out]; omega)
      go_wp2_with fail
      go_ret
      exact ⟨oA, oc, by rw [Kin.out]; rfl, by rw [← Kin.out]; have := KK.out.1; rwa [Kall.out] at this, KE1.out.trans KK.out.2.1⟩
end Edge
end Go.Proofs.Ytdjkcolceccclaa
