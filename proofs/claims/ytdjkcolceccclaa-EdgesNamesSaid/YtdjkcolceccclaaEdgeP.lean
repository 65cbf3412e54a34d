/- The law EdgesNames. No condition. -/
import Derived.Test.YtdjkcolceccclaaEdgeN
import Derived.Test.YtdjkcolceccclaaEdgeO
import Derived.Test.YtdjkcolceccclaaMap
import Derived.Sort.Walk0
namespace Go.Proofs.Ytdjkcolceccclaa
open Go.RowKit
namespace Edge
set_option linter.unusedSimpArgs false
set_option linter.unusedVariables false
def boolK (b : Bool) : Value := .bool b
theorem keySok : KeyOk Try.prog 9 strK := strK_ok Try.underlying9
theorem zeroB (w : World) : (zeroValue 4).run Try.prog w = .ok (.bool false) w := by
  have h : (Try.prog.info? 4).map (fun i => i.zero) = some (some (.bool false)) := by kernel_rfl
  obtain ⟨i, hi, hz⟩ := Option.map_eq_some_iff.1 h
  simp [zeroValue, typeInfo, hi, hz]
theorem less_no {a b : S} (h : b < a) : Op.bytesLess (strOf a).toList (strOf b).toList = false ∧ ((strOf a).toList == (strOf b).toList) = false := by
  rw [ByteArray.toList_eq, ByteArray.toList_eq, strOf_list, strOf_list, bytesLess_eq]
  refine ⟨decide_eq_false (fun hc => List.lt_irrefl a (List.lt_trans hc h)), ?_⟩
  simp only [beq_eq_false_iff_ne]
  intro e
  exact List.lt_irrefl a (by rw [← e] at h; exact h)
theorem ids_pre (o : Ob) (s : S) : (edgesP (updO o (fun i => s ++ idAt o i) (edgesP o).length)).map Ed.id = ((edgesP o).map Ed.id).map (s ++ ·) := by
  rw [edges_upd]
  apply List.ext_getElem
  · simp
  · intro j h1 h2
    have hj : j < (edgesP o).length := by simpa using h1
    simp only [List.getElem_map, List.getElem_mapIdx]
    rw [if_pos hj]
    simp only []
    rw [idAt_eq hj]
theorem names_pre (o : Ob) (s : S) : namesP (updO o (fun i => s ++ idAt o i) (edgesP o).length) = (namesP o).map (s ++ ·) := by
  show nP _ = (nP _).map _
  rw [ids_pre, nP_pre]
theorem names_small {o : Ob} (h : FewOk o) : ∀ x ∈ namesP o, x.length < 30000 := by
  intro x hx
  have h1 := (nP_mem ((edgesP o).map Ed.id) x).1 hx
  obtain ⟨e, he, rfl⟩ := List.mem_map.1 h1
  obtain ⟨i, hi, rfl⟩ := List.mem_iff_getElem.1 he
  exact ids_small h hi
set_option maxRecDepth 100000 in
set_option maxHeartbeats 16000000 in
theorem names_law (w : World) (o : Ob) (ev pv : Value) (hz : ObSz o) (hin : ObIn w o ev pv) (s : S) (hs : s.length ≤ 9223372036854775807) :
    Calls Try.prog 5 #[.agg (obV o ev pv).toArray, .string (strOf s)] w fun e w1 => e = .returned (.bool true) ∧ Below w.heap.size w w1 := by
  have hm : Try.prog.follows .mixedOrders = true := by kernel_rfl
  have hmm := @run_makeMap Try.prog
  have hb0 := Blk.new w 25 (obV o ev pv)
  have hE1 := Ext.alloc w (.cells (obV o ev pv).toArray 25)
  have hE2 := Ext.alloc (w.alloc (.cells (obV o ev pv).toArray 25)) (.cells #[.string (strOf s)] 9)
  have hb1 := Blk.new (w.alloc (.cells (obV o ev pv).toArray 25)) 9 [.string (strOf s)]
  rw [World.size_alloc] at hb1
  have KB := Kept.mk (hb0.ext hE2)
  have KS := Kept.mk hb1
  have KE := Kept.mk (hE1.trans hE2)
  have KF := Kept.mk (fun W (h : Ext w W) => few_any o ev pv hz W (hin.ext h))
  have KO := Kept.mk (fun W (h : Ext w W) (hf : FewOk o) => of_any o ev pv (by have := hf.ents; omega) (by have := hf.pars; omega) W (hin.ext h))
  have KNn := Kept.mk (fun W (h : Ext w W) (hf : FewOk o) => names_any o ev pv (by have := hf.ents; omega) (by have := hf.pars; omega) W (hin.ext h))
  have KM2 := Kept.mk (fun W (h : Ext w W) (hf : FewOk o) (hs1 : s.length ≤ 100) (g : Nat) (hg : W.cell? ⟨g, 0, none⟩ = some (.string (strOf s))) => mapOk_any (fn := 20) (caps := #[.pointer (some ⟨g, 0, none⟩)]) o (fun i => s ++ idAt o i) (enters_of Try.func20 (by kernel_rfl) rfl) ev pv (by have := hf.ents; omega) (by have := hf.pars; omega) W (hin.ext h) (fun i W' hi hE => by
    rw [idAt_eq hi]
    exact preN_any _ s g W' (by have := ids_small hf hi; omega) hs1 (hE.cell hg)))
  have KN2 := Kept.mk (fun W (hf : FewOk o) (ev3 pv3 : Value) (h : ObIn W (updO o (fun i => s ++ idAt o i) (edgesP o).length) ev3 pv3) => names_any (updO o (fun i => s ++ idAt o i) (edgesP o).length) ev3 pv3 (by rw [updO_elen]; have := hf.ents; omega) (by rw [updO_plen]; have := hf.pars; omega) W h)
  unfold NamesE at KNn KN2
  unfold OfE at KO
  rw [names_pre] at KN2
  generalize updO o (fun i => s ++ idAt o i) (edgesP o).length = q at KM2 KN2
  have Krise := Kept.mk (nP_rise ((edgesP o).map Ed.id))
  have Kmem := Kept.mk (fun i (hi : i < (edgesP o).length) => (nP_mem ((edgesP o).map Ed.id) (edgesP o)[i].id).2 (List.mem_map.2 ⟨_, List.getElem_mem hi, rfl⟩))
  have Kle := Kept.mk (show (nP ((edgesP o).map Ed.id)).length ≤ (edgesP o).length from by have := nP_len ((edgesP o).map Ed.id); rwa [List.length_map] at this)
  have Ksm := Kept.mk (fun (hf : FewOk o) => names_small hf)
  have Kel := Kept.mk (fun (hf : FewOk o) => edges_len o (by have := hf.ents; omega) (by have := hf.pars; omega))
  have hNn : nP ((edgesP o).map Ed.id) = namesP o := rfl
  rw [hNn] at Krise Kmem Kle
  generalize namesP o = N at KNn KN2 Krise Kmem Kle Ksm
  generalize edgesP o = E at KO Kmem Kle Kel
  have hse : (strOf s).size = s.length := strOf_size _
  have KAW := Kept.mk (fun W => awake_any W)
  obtain ⟨eA, ec, hev⟩ := hin.e.form
  obtain ⟨pA, pc, hpv⟩ := hin.p.form
  rw [List.length_map] at hev hpv
  subst hev hpv
  clear hb0 hE1 hE2 hb1 hin hz hNn
  unfold FewE at KF
  simp only [obV] at *
  go_enter Try.func5, Try.ntmps5
  go_wp2_with fail
  generalize (w.alloc (.cells #[.int .i64 o.k, .string (strOf o.text), .slice eA o.ents.length ec, .string (strOf o.tree), .slice pA o.pars.length pc, .string (strOf o.targ), .int .i64 o.of, .string (strOf o.name), .string (strOf o.who), .int .i64 o.when] 25)).alloc (.cells #[.string (strOf s)] 9) = w1 at *
  refine (KAW.out w1).mono ?_
  rintro e w2 ⟨rfl, hE2⟩
  have KE2 := Kept.mk (KE.out.trans hE2)
  have KB2 := Kept.mk (KB.out.ext hE2)
  have KS2 := Kept.mk (KS.out.ext hE2)
  clear hE2 KAW
  go_wp2_with (refine wpList_load_blk (P := Try.prog) rfl 25 (.tmp 2) rfl w.heap.size rfl 25 _ KB2.out _ Try.underlying25 rfl infoOb ?_)
  refine (KF.out w2 KE2.out).mono ?_
  rintro e w3 ⟨b, rfl, hb, hE3⟩
  have KE3 := Kept.mk (KE2.out.trans hE3)
  have KB3 := Kept.mk (KB2.out.ext hE3)
  have KS3 := Kept.mk (KS2.out.ext hE3)
  have sc := KS3.out.cell 0
  simp only [List.getElem?_cons_zero] at sc
  clear hE3 KF
  cases b with
  | false =>
    clear hb
    go_wp2_with fail
    go_ret
    exact ⟨rfl, KE3.out⟩
  | true =>
    have KFw := Kept.mk (hb rfl)
    clear hb
    by_cases h1 : s.length ≤ 100
    · have h1I : ¬ (100 : Int) < (s.length : Int) := by omega
      have d0 := KB3.out.cell 0
      have d1 := KB3.out.cell 1
      have d2 := KB3.out.cell 2
      have d3 := KB3.out.cell 3
      have d4 := KB3.out.cell 4
      have d5 := KB3.out.cell 5
      have d6 := KB3.out.cell 6
      have d7 := KB3.out.cell 7
      have d8 := KB3.out.cell 8
      have d9 := KB3.out.cell 9
      simp only [List.getElem?_cons_zero, List.getElem?_cons_succ] at d0 d1 d2 d3 d4 d5 d6 d7 d8 d9
      go_wp2_with fail
      refine wp_region_calm Ext 6 ([] :: [(24, 0)] :: [] :: [(26, 2)] :: [(25, 1)] :: [(27, 3)] :: [])
        ((24, 0) :: (25, 1) :: (26, 2) :: (27, 3) :: (5, 4) :: (6, 5) :: [])
        (EqV ?sce0 :: (fun W u => BufS 2 W w3.heap.size 36 u (E.map edV)) :: EqV ?sce2 :: (fun W u => Buf W w3.heap.size 9 u (N.map tV)) :: (fun W u => BufS 2 W w3.heap.size 36 u (E.map edV)) :: (fun W u => Buf W w3.heap.size 9 u (N.map tV)) :: []) hm (by kernel_rfl) Ext.refl (fun _ _ _ => Ext.trans) Ext.drew
        (MonoL.at (MonoL.eq _ (MonoL.cons (fun W W' u hR h => h.ext hR) (MonoL.eq _ (MonoL.cons (fun W W' u hR h => h.ext hR) (MonoL.cons (fun W W' u hR h => h.ext hR) (MonoL.cons (fun W W' u hR h => h.ext hR) (MonoL.nil)))))))) ?scalmOps ?scalmDone
      case scalmOps =>
        intro vs
        refine (CalmOps.cons ?_ (CalmOps.cons ?_ (CalmOps.cons ?_ (CalmOps.cons ?_ (CalmOps.cons ?_ (CalmOps.cons ?_ trivial))))))
        · intro w6 hR hL; simp [Look, VAt, EqV] at hL; have q0 := hR.cell d0; have q1 := hR.cell d1; have q2 := hR.cell d2; have q3 := hR.cell d3; have q4 := hR.cell d4; have q5 := hR.cell d5; have q6 := hR.cell d6; have q7 := hR.cell d7; have q8 := hR.cell d8; have q9 := hR.cell d9; simp [Guarded, setAll, bare, hL]; go_wp2_with fail; exact CalmPost.mk (by first | (simp; done) | (simp; rfl) | rfl) rfl (Ext.refl _)
        · intro w6 hR hL; simp [Look, VAt, EqV] at hL; simp [Guarded, setAll, bare, hL]; go_wp2_with fail; refine (KO.out _ (KE3.out.trans hR) KFw.out).mono ?_; rintro ee ww ⟨A9, c9, rfl, hB, hE⟩; have hB2 := hB.lower hR.size; go_wp2_with fail; exact CalmPost.mk (by first | (simp; done) | (simp; rfl) | rfl) hB2 hE
        · intro w6 hR hL; simp [Look, VAt, EqV] at hL; have q0 := hR.cell d0; have q1 := hR.cell d1; have q2 := hR.cell d2; have q3 := hR.cell d3; have q4 := hR.cell d4; have q5 := hR.cell d5; have q6 := hR.cell d6; have q7 := hR.cell d7; have q8 := hR.cell d8; have q9 := hR.cell d9; simp [Guarded, setAll, bare, hL]; go_wp2_with fail; exact CalmPost.mk (by first | (simp; done) | (simp; rfl) | rfl) rfl (Ext.refl _)
        · intro w6 hR hL; simp [Look, VAt, EqV] at hL; simp [Guarded, setAll, bare, hL]; go_wp2_with fail; refine (KNn.out _ (KE3.out.trans hR) KFw.out).mono ?_; rintro ee ww ⟨A9, c9, rfl, hB, hE⟩; have hB2 := hB.lower hR.size; go_wp2_with fail; exact CalmPost.mk (by first | (simp; done) | (simp; rfl) | rfl) hB2 hE
        · intro w6 hR hL; simp [Look, VAt, EqV] at hL; have KL := Kept.mk hL; obtain ⟨A9, n9, c9, h9⟩ := BufS.form3 hL; rw [h9] at KL; clear hL; simp [Guarded, setAll, bare, h9]; go_wp2_with fail; exact CalmPost.mk (by first | (simp; done) | (simp; rfl) | rfl) KL.out (Ext.refl _)
        · intro w6 hR hL; simp [Look, VAt, EqV] at hL; have KL := Kept.mk hL; obtain ⟨A9, n9, c9, h9⟩ := (show ∃ A n c, _ = Value.slice A n c from by obtain ⟨A, c, h⟩ := hL.form; exact ⟨A, _, c, h⟩); rw [h9] at KL; clear hL; simp [Guarded, setAll, bare, h9]; go_wp2_with fail; exact CalmPost.mk (by first | (simp; done) | (simp; rfl) | rfl) KL.out (Ext.refl _)
      case scalmDone =>
        intro vs w6 hR hL
        simp [Look, VAt, EqV] at hL
        obtain ⟨L0, L1, L2, L3, L4, L5⟩ := hL
        have KE6 := Kept.mk (KE3.out.trans hR)
        have KB6 := Kept.mk (KB3.out.ext hR)
        have KS6 := Kept.mk (KS3.out.ext hR)
        have Kz3 := Kept.mk hR.size
        clear L1 L3 L0 L2 hR sc d0 d1 d2 d3 d4 d5 d6 d7 d8 d9
        obtain ⟨lA, lc, h4⟩ := L4.form
        obtain ⟨nA, nc, h5⟩ := L5.form
        rw [List.length_map] at h4 h5
        rw [h4] at L4
        rw [h5] at L5
        have KL := Kept.mk L4
        have KN := Kept.mk L5
        simp [setAll, h4, h5]
        clear L4 L5 h4 h5
        generalize hv0 : vs 0 = v0
        generalize hv1 : vs 1 = v1
        generalize hv2 : vs 2 = v2
        generalize hv3 : vs 3 = v3
        clear hv0 hv1 hv2 hv3
        obtain ⟨nN, hnN⟩ : ∃ nN, nN = N.length := ⟨_, rfl⟩
        obtain ⟨nE, hnE⟩ : ∃ nE, nE = E.length := ⟨_, rfl⟩
        rw [← hnN] at KN ⊢
        rw [← hnE] at KL ⊢
        have KnN := Kept.mk hnN
        have KnE := Kept.mk hnE
        have hE2001 : nE ≤ 2001 := by rw [hnE]; exact Kel.out KFw.out
        have hNE : nN ≤ nE := by rw [hnN, hnE]; exact Kle.out
        have KMap := Kept.mk (MapOf.made (kv := strK) (ev := boolK) (α := S) (β := Bool) w6)
        have KEm := Kept.mk (Ext.alloc w6 (.map #[] 0))
        have Kmb := Kept.mk (show w3.heap.size ≤ w6.heap.size from Kz3.out)
        have KNlt := Kept.mk (show ∀ j ∈ own (.slice nA nN nc), j < w6.heap.size from fun j hj => (KN.out.owns j hj).2)
        have KLlt := Kept.mk (show ∀ j ∈ own (.slice lA nE lc), j < w6.heap.size from fun j hj => (KL.out.owns j hj).2)
        have KNm := Kept.mk (KN.out.ext KEm.out)
        have KLm := Kept.mk (KL.out.ext KEm.out)
        clear hnN hnE KN KL
        go_wp2_with fail
        generalize hmb : w6.heap.size = mb at *
        generalize w6.alloc (.map #[] 0) = wm at *
        have Kwmb := Kept.mk (show w.heap.size ≤ mb ∧ w.heap.size + 2 ≤ mb from by have := KS6.out.lt; rw [hmb] at this; omega)
        clear hmb
        go_loopg [8] nN (fun r iv wi => ∃ i : Nat, i + r = nN ∧ iv = .int .i64 (i : Int) ∧ Kept (∃ l : List (S × Bool), MapOf strK boolK wi mb l ∧ (∀ x ∈ N.take i, getK l x = some true) ∧ Touch [mb] wm wi))
        case atStart => exact ⟨0, by omega, rfl, Kept.mk ⟨[], KMap.out, by simp, Touch.refl _ _⟩⟩
        case round =>
          obtain ⟨i, hr, rfl, KK⟩ := hrel
          have Kr := Kept.mk hr
          have hil : i ≤ nN := by omega
          clear hr
          obtain ⟨l, hMl, hgl, hTl⟩ := KK.out
          have KMl := Kept.mk hMl
          have Kgl := Kept.mk hgl
          have KTl := Kept.mk hTl
          have KNr := Kept.mk (KNm.out.touch hTl (fun j hj hm => by rw [List.mem_singleton] at hm; have := KNlt.out j hj; omega))
          clear hMl hgl hTl KK
          by_cases hlt : i < nN
          · have hltI : (i : Int) < (nN : Int) := by omega
            have hi2 : i < N.length := by rw [← KnN.out]; exact hlt
            have hrd : Rd 1 wr (.slice nA nN nc) (N.map sV) := by have := KNr.out.rd; rwa [tV_rows] at this
            obtain ⟨b, off, rfl, hbl, hc⟩ := hrd.get (by decide) (i := i) hi2
            have s0 := hc 0 (.string (strOf N[i])) rfl
            rw [Nat.add_zero, Nat.mul_one] at s0
            have Kst := Kept.mk (show N.take (i + 1) = N.take i ++ [N[i]] from List.take_succ_eq_append_getElem hi2)
            have KD := Kept.mk (fun (nq : Nat) => KMl.out.ext (Ext.drewN wr nq))
            cases i with
            | zero =>
              rw [Nat.add_zero] at s0
              generalize N[0] = x at s0 Kst
              clear hc hrd
              go_wp2_with fail
              go_quiet (fail)
              have s0' := (Ext.drewN wr nq).cell s0
              go_wp2_with (refine wpList_put_of (kv := strK) (ev := boolK) (wr.drewN nq) rfl (.tmp 49) (.tmp 53) (.const (.bool true)) 48 rfl 9 4 keySok Try.underlying48 mb l (KD.out nq) rfl x true rfl rfl ?_)
              intro w7 hm7 ht7 hs7
              have KX := Kept.mk (show ∃ l : List (S × Bool), MapOf strK boolK w7 mb l ∧ (∀ x ∈ N.take (0 + 1), getK l x = some true) ∧ Touch [mb] wm w7 from ⟨_, hm7, fun y hy => by
                rw [Kst.out] at hy
                simp at hy
                rw [hy, getK_put, if_pos rfl], (KTl.out.trans (Touch.of_ext (S := []) (Ext.drewN wr nq)) (by simp)).trans ht7 (fun j hj => .inl hj)⟩)
              clear hm7 ht7 hs7 s0 s0'
              go_wp2_with fail
              go_roundg (gk - 1)
              case measure => have := Kr.out; omega
              case rel => exact ⟨0 + 1, by have := Kr.out; omega, by first | rfl | simp, KX⟩
            | succ i =>
              have hi3 : i < N.length := by omega
              obtain ⟨b', off', e1, -, hc'⟩ := hrd.get (by decide) (i := i) hi3
              injection e1 with e1
              injection e1 with e1 e2
              subst e1 e2
              have s1 := hc' 0 (.string (strOf N[i])) rfl
              rw [Nat.add_zero, Nat.mul_one] at s1
              obtain ⟨q1, q2⟩ := less_no (List.pairwise_iff_getElem.1 Krise.out i (i + 1) hi3 hi2 (by omega))
              generalize N[i + 1] = x at s0 Kst q1 q2
              generalize N[i] = y at s1 q1 q2
              have r1 : IntKind.i64.wrap ((i : Int) + 1 - 1) = (i : Int) := by rw [show (i : Int) + 1 - 1 = (i : Int) by omega]; exact IntWalk.i64_in _ (by omega)
              have r2 : IntKind.i64.wrap (i : Int) = (i : Int) := IntWalk.i64_in _ (by omega)
              have r3 : (0 : Int) < (i : Int) + 1 := by omega
              have r4 : (i : Int) + 1 < (nN : Int) := by omega
              have r5 : (i : Int) < (nN : Int) := by omega
              have r6 : ((i : Int) + 1).toNat = i + 1 := by omega
              have r7 : (0 : Int) ≤ (i : Int) + 1 := by omega
              clear hc hc' hrd
              go_wp2_with fail
              go_quiet (fail)
              have s0' := (Ext.drewN wr nq).cell s0
              clear r1 r2
              go_wp2_with (refine wpList_put_of (kv := strK) (ev := boolK) (wr.drewN nq) rfl (.tmp 49) (.tmp 53) (.const (.bool true)) 48 rfl 9 4 keySok Try.underlying48 mb l (KD.out nq) rfl x true rfl rfl ?_)
              intro w7 hm7 ht7 hs7
              have KX := Kept.mk (show ∃ l : List (S × Bool), MapOf strK boolK w7 mb l ∧ (∀ x ∈ N.take (i + 1 + 1), getK l x = some true) ∧ Touch [mb] wm w7 from ⟨_, hm7, fun y hy => by
                rw [Kst.out, List.mem_append, List.mem_singleton] at hy
                rw [getK_put]
                split
                · rfl
                · rename_i hne
                  exact Kgl.out y (hy.resolve_right hne), (KTl.out.trans (Touch.of_ext (S := []) (Ext.drewN wr nq)) (by simp)).trans ht7 (fun j hj => .inl hj)⟩)
              clear hm7 ht7 hs7 s0 s0' s1 q1 q2
              go_wp2_with fail
              go_roundg (gk - 1)
              case measure => have := Kr.out; omega
              case rel => exact ⟨i + 1 + 1, by have := Kr.out; omega, by first | rfl | simp, KX⟩
          · have hltI : ¬ (i : Int) < (nN : Int) := by omega
            have Kall := Kept.mk (show ∀ x ∈ N, getK l x = some true from fun x hx => Kgl.out x (by rw [List.take_of_length_le (by rw [← KnN.out]; omega)]; exact hx))
            have KLr := Kept.mk (KLm.out.touch KTl.out (fun j hj hm => by rw [List.mem_singleton] at hm; have := KLlt.out j hj; omega))
            obtain ⟨wz, hwz⟩ : ∃ wz, wz = wr := ⟨_, rfl⟩
            have KEz := Kept.mk (show Ext w wz from by rw [hwz]; exact Touch.below (KE6.out.trans KEm.out) KTl.out (fun j hj => by rw [List.mem_singleton] at hj; have := Kwmb.out.1; omega) (KE6.out.trans KEm.out).size)
            have KBz := Kept.mk (show Blk wz w.heap.size 25 [.int .i64 o.k, .string (strOf o.text), .slice eA o.ents.length ec, .string (strOf o.tree), .slice pA o.pars.length pc, .string (strOf o.targ), .int .i64 o.of, .string (strOf o.name), .string (strOf o.who), .int .i64 o.when] from by rw [hwz]; exact ((KB6.out.ext KEm.out).touch KTl.out (fun hm => by rw [List.mem_singleton] at hm; have := Kwmb.out.2; omega)))
            have KSz := Kept.mk (show Blk wz (w.heap.size + 1) 9 [.string (strOf s)] from by rw [hwz]; exact ((KS6.out.ext KEm.out).touch KTl.out (fun hm => by rw [List.mem_singleton] at hm; have := Kwmb.out.2; omega)))
            rw [← hwz] at KMl KNr KLr ⊢
            clear hwz KTl Kgl KE6 KB6 KS6 KEm KMap KNm KLm
            go_wp2_with fail
            go_loopg [9] nE (fun r iv wi => ∃ j : Nat, j + r = nE ∧ iv = .int .i64 (j : Int) ∧ wi = wz)
            case atStart => exact ⟨0, by omega, rfl, rfl⟩
            case round =>
              obtain ⟨j, hr2, rfl, rfl⟩ := hrel
              have Kr2 := Kept.mk hr2
              have hjl : j ≤ nE := by omega
              clear hr2
              by_cases hlt2 : j < nE
              · have hltJ : (j : Int) < (nE : Int) := by omega
                have hj2 : j < E.length := by rw [← KnE.out]; exact hlt2
                obtain ⟨b, off, rfl, hbl, hc⟩ := KLr.out.rd.get (by decide) (i := j) hj2
                have s0 := hc 0 (.string (strOf E[j].id)) rfl
                rw [Nat.add_zero] at s0
                have hlk := KMl.out.look keySok Try.underlying48 (zeroB wr) E[j].id
                rw [Kall.out _ (Kmem.out j hj2)] at hlk
                have hlk2 : (Instr.lookup 48 (.map (some mb)) (.string (strOf E[j].id)) false).run Try.prog wr = .ok (.bool true) wr := hlk
                generalize E[j] = x at s0 hlk2
                clear hc hlk
                go_wp2_with fail
                go_roundg (gk - 1)
                case measure => have := Kr2.out; omega
                case rel => exact ⟨j + 1, by have := Kr2.out; omega, by first | rfl | simp, rfl⟩
              · have hltJ : ¬ (j : Int) < (nE : Int) := by omega
                have sz := KSz.out.cell 0
                simp only [List.getElem?_cons_zero] at sz
                have KMq := Kept.mk (KM2.out wr KEz.out KFw.out h1 (w.heap.size + 1) sz)
                clear KM2
                go_wp2_with (refine wpList_load_blk (P := Try.prog) rfl 25 (.tmp 2) rfl w.heap.size rfl 25 _ KBz.out _ Try.underlying25 rfl infoOb ?_)
                refine KMq.out.mono ?_
                rintro e w8 ⟨ev8, pv8, rfl, hO8, hE8⟩
                obtain ⟨A8e, n8e, c8e, h8e⟩ := BufS.form3 hO8.e
                obtain ⟨A8p, n8p, c8p, h8p⟩ := BufS.form3 hO8.p
                subst h8e h8p
                have hA9 := Ext.alloc w8 (.cells #[.int .i64 q.k, .string (strOf q.text), .slice A8e n8e c8e, .string (strOf q.tree), .slice A8p n8p c8p, .string (strOf q.targ), .int .i64 q.of, .string (strOf q.name), .string (strOf q.who), .int .i64 q.when] 25)
                have Kp9 := Kept.mk (Blk.new w8 25 [.int .i64 q.k, .string (strOf q.text), .slice A8e n8e c8e, .string (strOf q.tree), .slice A8p n8p c8p, .string (strOf q.targ), .int .i64 q.of, .string (strOf q.name), .string (strOf q.who), .int .i64 q.when])
                have KI9 := Kept.mk (hO8.in.ext hA9)
                have KE89 := Kept.mk (hE8.trans hA9)
                clear hO8 hE8 hA9 sz KMq
                go_wp2_with (refine wpList_load_blk (P := Try.prog) rfl 25 (.tmp 10) rfl w8.heap.size rfl 25 _ Kp9.out _ Try.underlying25 rfl infoOb ?_)
                generalize hg9 : w8.heap.size = g9 at *
                generalize w8.alloc (.cells #[.int .i64 q.k, .string (strOf q.text), .slice A8e n8e c8e, .string (strOf q.tree), .slice A8p n8p c8p, .string (strOf q.targ), .int .i64 q.of, .string (strOf q.name), .string (strOf q.who), .int .i64 q.when] 25) = w9 at *
                clear hg9
                refine (KN2.out w9 KFw.out _ _ KI9.out).mono ?_
                rintro e wa ⟨Aa, ca, rfl, hBa, hEa⟩
                rw [List.length_map, ← KnN.out] at hBa ⊢
                have KEa := Kept.mk (KE89.out.trans hEa)
                have KNa := Kept.mk (KNr.out.ext KEa.out)
                have KSa := Kept.mk (KSz.out.ext KEa.out)
                have KBa := Kept.mk hBa
                have KEf := Kept.mk (KEz.out.trans KEa.out)
                have hNE2 : ¬ (nE : Int) < (nN : Int) := by omega
                clear hBa hEa KN2
                go_wp2_with fail
                go_loopg [13] nN (fun r iv wi => ∃ i : Nat, i + r = nN ∧ iv = .int .i64 (i : Int) ∧ Kept (Ext wa wi))
                case atStart => exact ⟨0, by omega, rfl, Kept.mk (Ext.refl _)⟩
                case round =>
                  obtain ⟨i3, hr3, rfl, KE3i⟩ := hrel
                  have Kr3 := Kept.mk hr3
                  have hil3 : i3 ≤ nN := by omega
                  clear hr3
                  by_cases hlt3 : i3 < nN
                  · have hltK : (i3 : Int) < (nN : Int) := by omega
                    have hi4 : i3 < N.length := by rw [← KnN.out]; exact hlt3
                    have hrd : Rd 1 wa (.slice nA nN nc) (N.map sV) := by have := KNa.out.rd; rwa [tV_rows] at this
                    have hrd2 : Rd 1 wa (.slice Aa nN ca) ((N.map (s ++ ·)).map sV) := by have := KBa.out.rd; rwa [tV_rows] at this
                    obtain ⟨b1, o1, rfl, -, hc1⟩ := hrd.get (by decide) (i := i3) hi4
                    obtain ⟨b2, o2, rfl, -, hc2⟩ := hrd2.get (by decide) (i := i3) (by rw [List.length_map]; exact hi4)
                    have s1 := KE3i.out.cell (hc1 0 (.string (strOf N[i3])) rfl)
                    have s2 := KE3i.out.cell (hc2 0 (.string (strOf (s ++ N[i3]))) (by simp [sV]))
                    have sq := KE3i.out.cell (show wa.cell? ⟨w.heap.size + 1, 0, none⟩ = some (.string (strOf s)) from KSa.out.cell 0)
                    rw [Nat.add_zero, Nat.mul_one] at s1 s2
                    have hsm := Ksm.out KFw.out N[i3] (List.getElem_mem hi4)
                    generalize N[i3] = x at s1 s2 hsm
                    have t1 := strOf_app s x
                    have t2 : (strOf s).size + (strOf x).size ≤ 9223372036854775807 := by rw [strOf_size, strOf_size]; omega
                    clear hc1 hc2 hrd hrd2
                    go_wp2_with fail
                    go_quiet (fail)
                    have KE4 := Kept.mk (KE3i.out.trans (Ext.drewN wr nq))
                    clear s1 s2 sq t1 t2
                    go_wp2_with fail
                    go_roundg (gk - 1)
                    case measure => have := Kr3.out; omega
                    case rel => exact ⟨i3 + 1, by have := Kr3.out; omega, by first | rfl | simp, KE4⟩
                  · have hltK : ¬ (i3 : Int) < (nN : Int) := by omega
                    go_wp2_with fail
                    go_ret
                    exact ⟨rfl, KEf.out.trans KE3i.out⟩
    · have h1I : (100 : Int) < (s.length : Int) := by omega
      go_wp2_with fail
      go_ret
      exact ⟨rfl, KE3.out⟩
theorem names_frame (w : World) (o : Ob) (ev pv : Value) (h : InOb w o ev pv) (a : ByteArray) (ha : a.size ≤ maxLen) : Calls Try.prog 5 #[.agg (obV o ev pv).toArray, .string a] w fun e w1 => e = .returned (.bool true) ∧ Below w.heap.size w w1 := by
  have := names_law w o ev pv h.1 h.2 a.data.toList (by rw [Array.length_toList]; exact ha)
  rwa [strOf_self] at this
end Edge
end Go.Proofs.Ytdjkcolceccclaa
