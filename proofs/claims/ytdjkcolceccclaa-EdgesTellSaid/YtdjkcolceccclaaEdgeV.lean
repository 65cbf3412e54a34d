/- The law EdgesTell. No condition. -/
import Derived.Test.YtdjkcolceccclaaEdgeN
import Derived.Test.YtdjkcolceccclaaEdgeIn
import Derived.Test.YtdjkcolceccclaaEdgeS
import Derived.Test.YtdjkcolceccclaaEdgeU
import Derived.Deep.DeepCutAuto
namespace Go.Proofs.Ytdjkcolceccclaa
open Go.RowKit
namespace Edge
set_option linter.unusedSimpArgs false
set_option linter.unusedVariables false
/-- The list of other names, in its cell. -/
structure OtherAt (w : World) (B ob : Nat) (l : List S) : Prop where
  ex : ∃ v, Blk w ob 23 [v] ∧ BufS 1 w B 9 v (l.map sV) ∧ ob ∉ own v
  b : B ≤ ob
theorem OtherAt.ext {w w' : World} {B ob : Nat} {l : List S} (h : OtherAt w B ob l) (k : Ext w w') : OtherAt w' B ob l := by
  obtain ⟨⟨v, h1, h2, h3⟩, h4⟩ := h
  exact ⟨⟨v, h1.ext k, h2.ext k, h3⟩, h4⟩
/-- An object that reads so. -/
def ObIs (o : Ob) (W : World) (u : Value) : Prop := ∃ ev pv, u = .agg (obV o ev pv).toArray ∧ ObIn W o ev pv
theorem ObIs.ext {o : Ob} {W W' : World} {u : Value} (h : ObIs o W u) (k : Ext W W') : ObIs o W' u := by
  obtain ⟨ev, pv, h1, h2⟩ := h
  exact ⟨ev, pv, h1, h2.ext k⟩
/-- A new cell for the document's edges. -/
def SlotW (B : Nat) (W : World) (u : Value) : Prop := ∃ g, u = .pointer (some ⟨g, 0, none⟩) ∧ B ≤ g ∧ Blk W g 30 [.slice none 0 0]
theorem SlotW.ext {B : Nat} {W W' : World} {u : Value} (h : SlotW B W u) (k : Ext W W') : SlotW B W' u := by
  obtain ⟨g, h1, h2, h3⟩ := h
  exact ⟨g, h1, h2, h3.ext k⟩
set_option maxRecDepth 100000 in
set_option maxHeartbeats 16000000 in
theorem tell_law (w : World) (o : Ob) (ev pv : Value) (hz : ObSz o) (hin : ObIn w o ev pv) (stop : Int) (hst : (Lit.int .i64 stop).wf = true) (turn : Int) (htn : (Lit.int .u8 turn).wf = true) :
    Calls Try.prog 3 #[.agg (obV o ev pv).toArray, .int .i64 stop, .int .u8 turn] w fun e w1 => e = .returned (.bool true) ∧ Below w.heap.size w w1 := by
  have hm : Try.prog.follows .mixedOrders = true := by kernel_rfl
  obtain ⟨iS, hiS, hzS, hsS, hbS⟩ := infoT
  obtain ⟨y, rfl⟩ : ∃ y : UInt8, turn = (y.toNat : Int) := by
    have h : (0 : Int) ≤ turn ∧ turn ≤ 255 := by have h2 := htn; simp [Lit.wf] at h2; exact h2
    exact ⟨UInt8.ofNat turn.toNat, by simp; omega⟩
  have hb0 := Blk.new w 25 (obV o ev pv)
  have hE1 := Ext.alloc w (.cells (obV o ev pv).toArray 25)
  have hE2 := Ext.alloc (w.alloc (.cells (obV o ev pv).toArray 25)) (.cells #[.int .i64 stop] 3)
  have hb1 := Blk.new (w.alloc (.cells (obV o ev pv).toArray 25)) 3 [.int .i64 stop]
  rw [World.size_alloc] at hb1
  have KB := Kept.mk (hb0.ext hE2)
  have KS := Kept.mk hb1
  have KE := Kept.mk (hE1.trans hE2)
  have KIn0 := Kept.mk hin
  have KF := Kept.mk (fun W (h : Ext w W) => few_any o ev pv hz W (hin.ext h))
  have KO := Kept.mk (fun W (h : Ext w W) (hf : FewOk o) => of_any o ev pv (by have := hf.ents; omega) (by have := hf.pars; omega) W (hin.ext h))
  have KR := Kept.mk (fun W (h : Ext w W) (hf : FewOk o) => refOf_any o ev pv (by have := hf.ents; omega) (by have := hf.pars; omega) W (hin.ext h))
  have KNn := Kept.mk (fun W (h : Ext w W) (hf : FewOk o) => names_any o ev pv (by have := hf.ents; omega) (by have := hf.pars; omega) W (hin.ext h))
  have KNr := Kept.mk (fun W (h : Ext w W) (hf : FewOk o) => refNames_any o ev pv (by have := hf.ents; omega) (by have := hf.pars; omega) W (hin.ext h))
  unfold NamesE at KNn
  unfold OfE at KO KR
  have Kids := Kept.mk (fun (hf : FewOk o) (i : Nat) (hi : i < (edgesP o).length) => ids_small hf hi)
  have Kel := Kept.mk (fun (hf : FewOk o) => edges_len o (by have := hf.ents; omega) (by have := hf.pars; omega))
  have KAW := Kept.mk (fun W => awake_any W)
  obtain ⟨eA, ec, hev⟩ := hin.e.form
  obtain ⟨pA, pc, hpv⟩ := hin.p.form
  rw [List.length_map] at hev hpv
  subst hev hpv
  clear hb0 hE1 hE2 hb1 hin hz
  unfold FewE at KF
  simp only [obV] at *
  go_enter Try.func3, Try.ntmps3
  go_wp2_with fail
  generalize (w.alloc (.cells #[.int .i64 o.k, .string (strOf o.text), .slice eA o.ents.length ec, .string (strOf o.tree), .slice pA o.pars.length pc, .string (strOf o.targ), .int .i64 o.of, .string (strOf o.name), .string (strOf o.who), .int .i64 o.when] 25)).alloc (.cells #[.int .i64 stop] 3) = w1 at *
  refine (KAW.out w1).mono ?_
  rintro e w2 ⟨rfl, hE2⟩
  have KE2 := Kept.mk (KE.out.trans hE2)
  have KB2 := Kept.mk (KB.out.ext hE2)
  have KS2 := Kept.mk (KS.out.ext hE2)
  clear hE2 KAW
  go_wp2_with (refine wpList_load_blk (P := Try.prog) rfl 25 (.tmp 3) rfl w.heap.size rfl 25 _ KB2.out _ Try.underlying25 rfl infoOb ?_)
  refine (KF.out w2 KE2.out).mono ?_
  rintro e w3 ⟨b, rfl, hb, hE3⟩
  have KE3 := Kept.mk (KE2.out.trans hE3)
  have KB3 := Kept.mk (KB2.out.ext hE3)
  have KS3 := Kept.mk (KS2.out.ext hE3)
  clear hE3 KF
  cases b with
  | false =>
    clear hb
    go_wp2_with fail
    go_ret
    exact ⟨rfl, KE3.out⟩
  | true =>
    have KFw := Kept.mk (hb rfl)
    clear hb
    have d0 := KB3.out.cell 0
    have d1 := KB3.out.cell 1
    have d2 := KB3.out.cell 2
    have d3 := KB3.out.cell 3
    have d4 := KB3.out.cell 4
    have d5 := KB3.out.cell 5
    have d6 := KB3.out.cell 6
    have d7 := KB3.out.cell 7
    have d8 := KB3.out.cell 8
    have d9 := KB3.out.cell 9
    simp only [List.getElem?_cons_zero, List.getElem?_cons_succ] at d0 d1 d2 d3 d4 d5 d6 d7 d8 d9
    go_wp2_with fail
    refine wp_region_calm Ext 6 ([] :: [(19, 0)] :: [] :: [(21, 2)] :: [] :: [(20, 1)] :: [])
      ((19, 0) :: (20, 1) :: (21, 2) :: (22, 3) :: (8, 4) :: (7, 5) :: [])
      (EqV ?sce0 :: (fun W u => BufS 2 W w3.heap.size 36 u ((edgesP o).map edV)) :: EqV ?sce2 :: (fun W u => BufS 2 W w3.heap.size 35 u ((edgesP o).map edV)) :: (fun W u => SlotW w3.heap.size W u) :: (fun W u => BufS 2 W w3.heap.size 36 u ((edgesP o).map edV)) :: []) hm (by kernel_rfl) Ext.refl (fun _ _ _ => Ext.trans) Ext.drew
      (MonoL.at (MonoL.eq _ (MonoL.cons (fun W W' u hR h => h.ext hR) (MonoL.eq _ (MonoL.cons (fun W W' u hR h => h.ext hR) (MonoL.cons (fun W W' u hR h => h.ext hR) (MonoL.cons (fun W W' u hR h => h.ext hR) (MonoL.nil)))))))) ?scalmOps ?scalmDone
    case scalmOps =>
      intro vs
      refine (CalmOps.cons ?_ (CalmOps.cons ?_ (CalmOps.cons ?_ (CalmOps.cons ?_ (CalmOps.cons ?_ (CalmOps.cons ?_ trivial))))))
      · intro w6 hR hL; simp [Look, VAt, EqV] at hL; have q0 := hR.cell d0; have q1 := hR.cell d1; have q2 := hR.cell d2; have q3 := hR.cell d3; have q4 := hR.cell d4; have q5 := hR.cell d5; have q6 := hR.cell d6; have q7 := hR.cell d7; have q8 := hR.cell d8; have q9 := hR.cell d9; simp [Guarded, setAll, bare, hL]; go_wp2_with fail; exact CalmPost.mk (by first | (simp; done) | (simp; rfl) | rfl) rfl (Ext.refl _)
      · intro w6 hR hL; simp [Look, VAt, EqV] at hL; simp [Guarded, setAll, bare, hL]; go_wp2_with fail; refine (KO.out _ (KE3.out.trans hR) KFw.out).mono ?_; rintro ee ww ⟨A9, c9, rfl, hB, hE⟩; have hB2 := hB.lower hR.size; go_wp2_with fail; exact CalmPost.mk (by first | (simp; done) | (simp; rfl) | rfl) hB2 hE
      · intro w6 hR hL; simp [Look, VAt, EqV] at hL; have q0 := hR.cell d0; have q1 := hR.cell d1; have q2 := hR.cell d2; have q3 := hR.cell d3; have q4 := hR.cell d4; have q5 := hR.cell d5; have q6 := hR.cell d6; have q7 := hR.cell d7; have q8 := hR.cell d8; have q9 := hR.cell d9; simp [Guarded, setAll, bare, hL]; go_wp2_with fail; exact CalmPost.mk (by first | (simp; done) | (simp; rfl) | rfl) rfl (Ext.refl _)
      · intro w6 hR hL; simp [Look, VAt, EqV] at hL; simp [Guarded, setAll, bare, hL]; go_wp2_with fail; refine (KR.out _ (KE3.out.trans hR) KFw.out).mono ?_; rintro ee ww ⟨A9, c9, rfl, hB, hE⟩; have hB2 := hB.lower hR.size; go_wp2_with fail; exact CalmPost.mk (by first | (simp; done) | (simp; rfl) | rfl) hB2 hE
      · intro w6 hR hL; simp [Look, VAt, EqV] at hL; simp [Guarded, setAll, bare, hL]; have hs : SlotW w3.heap.size (w6.alloc (.cells #[.slice none 0 0] 30)) (.pointer (some ⟨w6.heap.size, 0, none⟩)) := ⟨_, rfl, hR.size, Blk.new w6 _ _⟩; go_wp2_with fail; exact CalmPost.mk (by first | (simp; done) | (simp; rfl) | rfl) hs (Ext.alloc _ _)
      · intro w6 hR hL; simp [Look, VAt, EqV] at hL; have KL := Kept.mk hL; obtain ⟨A9, n9, c9, h9⟩ := BufS.form3 hL; rw [h9] at KL; clear hL; simp [Guarded, setAll, bare, h9]; go_wp2_with fail; exact CalmPost.mk (by first | (simp; done) | (simp; rfl) | rfl) KL.out (Ext.refl _)
    case scalmDone =>
      intro vs w6 hR hL
      simp [Look, VAt, EqV] at hL
      obtain ⟨L0, L1, L2, L3, L4, L5⟩ := hL
      have KE6 := Kept.mk (KE3.out.trans hR)
      have KB6 := Kept.mk (KB3.out.ext hR)
      have KS6 := Kept.mk (KS3.out.ext hR)
      have Kw3 := Kept.mk (show w.heap.size + 2 ≤ w3.heap.size from by have := KS3.out.lt; omega)
      clear L0 L2 L1 hR d0 d1 d2 d3 d4 d5 d6 d7 d8 d9
      obtain ⟨gm, h4, hgm, hbm⟩ := L4
      obtain ⟨lA, lc, h5⟩ := L5.form
      obtain ⟨mA, mc, h3⟩ := L3.form
      rw [List.length_map] at h5 h3
      rw [h5] at L5
      rw [h3] at L3
      have KL := Kept.mk L5
      have KM := Kept.mk L3
      have Kbm := Kept.mk hbm
      have Kgm := Kept.mk hgm
      simp [setAll, h4, h5, h3]
      clear L3 L5 h4 h5 h3 hbm hgm
      generalize hv0 : vs 0 = v0
      generalize hv1 : vs 1 = v1
      generalize hv2 : vs 2 = v2
      clear hv0 hv1 hv2
      obtain ⟨nE, hnE⟩ : ∃ nE, nE = (edgesP o).length := ⟨_, rfl⟩
      rw [← hnE] at KL KM ⊢
      have KnE := Kept.mk hnE
      have hE2001 : nE ≤ 2001 := by rw [hnE]; exact Kel.out KFw.out
      clear hnE
      have m0 := Kbm.out.cell 0
      have mf := Kbm.out.free 0
      simp only [List.getElem?_cons_zero] at m0
      have hTm := Touch.set w6 ⟨gm, 0, none⟩ (.slice mA nE mc)
      have KE7 := Kept.mk (show Ext w (w6.setCell ⟨gm, 0, none⟩ (.slice mA nE mc)) from Touch.below KE6.out hTm (fun j hj => by rw [List.mem_singleton] at hj; have := Kgm.out; have := Kw3.out; simp only at hj; omega) KE6.out.size)
      have KB7 := Kept.mk (KB6.out.touch hTm (fun hm => by rw [List.mem_singleton] at hm; have := Kgm.out; have := Kw3.out; simp only at hm; omega))
      have KS7 := Kept.mk (KS6.out.touch hTm (fun hm => by rw [List.mem_singleton] at hm; have := Kgm.out; have := Kw3.out; simp only at hm; omega))
      have KL7 := Kept.mk (BufS.other KL.out Kbm.out.z (by decide) hTm)
      have KM7 := Kept.mk (BufS.other KM.out Kbm.out.z (by decide) hTm)
      have Kb7 := Kept.mk (show Blk (w6.setCell ⟨gm, 0, none⟩ (.slice mA nE mc)) gm 30 [.slice mA nE mc] from Kbm.out.set 0 (.slice mA nE mc))
      clear hTm
      have e0 := KB7.out.cell 0
      have e1 := KB7.out.cell 1
      have e2 := KB7.out.cell 2
      have e3 := KB7.out.cell 3
      have e4 := KB7.out.cell 4
      have e5 := KB7.out.cell 5
      have e6 := KB7.out.cell 6
      have e7 := KB7.out.cell 7
      have e8 := KB7.out.cell 8
      have e9 := KB7.out.cell 9
      simp only [List.getElem?_cons_zero, List.getElem?_cons_succ] at e0 e1 e2 e3 e4 e5 e6 e7 e8 e9
      have m7 := Kb7.out.cell 0
      simp only [List.getElem?_cons_zero] at m7
      go_wp2_with fail
      generalize w6.setCell ⟨gm, 0, none⟩ (.slice mA nE mc) = w7 at *
      refine wp_region_calm Ext 13 ([] :: [(23, 0)] :: [] :: [(25, 2)] :: [(24, 1), (26, 3)] :: [(27, 4)] :: [(28, 5)] :: [(29, 6), (28, 5)] :: [(28, 5)] :: [(31, 8), (28, 5)] :: [(30, 7), (32, 9), (28, 5)] :: [(33, 10), (28, 5)] :: [(28, 5), (34, 11)] :: [])
        ((23, 0) :: (24, 1) :: (25, 2) :: (26, 3) :: (27, 4) :: (28, 5) :: (29, 6) :: (30, 7) :: (31, 8) :: (32, 9) :: (33, 10) :: (34, 11) :: (35, 12) :: [])
        (EqV ?usce0 :: EqV ?usce1 :: EqV ?usce2 :: EqV ?usce3 :: EqV ?usce4 :: EqV ?usce5 :: EqV ?usce6 :: (fun W u => Buf W w7.heap.size 9 u ((namesP o).map tV)) :: EqV ?usce8 :: (fun W u => BufS 1 W w7.heap.size 9 u ((namesP o).map sV)) :: EqV ?usce10 :: EqV ?usce11 :: EqV ?usce12 :: []) hm (by kernel_rfl) Ext.refl (fun _ _ _ => Ext.trans) Ext.drew
        (MonoL.at (MonoL.eq _ (MonoL.eq _ (MonoL.eq _ (MonoL.eq _ (MonoL.eq _ (MonoL.eq _ (MonoL.eq _ (MonoL.cons (fun W W' u hR h => h.ext hR) (MonoL.eq _ (MonoL.cons (fun W W' u hR h => h.ext hR) (MonoL.eq _ (MonoL.eq _ (MonoL.eq _ (MonoL.nil))))))))))))))) ?uscalmOps ?uscalmDone
      case uscalmOps =>
        intro vs
        refine (CalmOps.cons ?_ (CalmOps.cons ?_ (CalmOps.cons ?_ (CalmOps.cons ?_ (CalmOps.cons ?_ (CalmOps.cons ?_ (CalmOps.cons ?_ (CalmOps.cons ?_ (CalmOps.cons ?_ (CalmOps.cons ?_ (CalmOps.cons ?_ (CalmOps.cons ?_ (CalmOps.cons ?_ trivial)))))))))))))
        · intro w hR hL; simp [Look, VAt, EqV] at hL; simp [Guarded, setAll, bare, hL]; go_wp2_with fail; exact CalmPost.mk (by simp; rfl) rfl (Ext.refl _)
        · intro w hR hL; simp [Look, VAt, EqV] at hL; simp [Guarded, setAll, bare, hL]; go_wp2_with fail; exact CalmPost.mk (by simp; rfl) rfl (Ext.refl _)
        · intro w6 hR hL; simp [Look, VAt, EqV] at hL; have q0 := hR.cell m7; simp [Guarded, setAll, bare, hL]; go_wp2_with fail; exact CalmPost.mk (by first | (simp; done) | (simp; rfl) | rfl) rfl (Ext.refl _)
        · intro w hR hL; simp [Look, VAt, EqV] at hL; simp [Guarded, setAll, bare, hL]; go_wp2_with fail; exact CalmPost.mk (by simp; rfl) rfl (Ext.refl _)
        · intro w hR hL; simp [Look, VAt, EqV] at hL; simp [Guarded, setAll, bare, hL]; go_wp2_with fail; exact CalmPost.mk (by simp; rfl) rfl (Ext.refl _)
        · intro w hR hL; simp [Look, VAt, EqV] at hL; simp [Guarded, setAll, bare, hL]; go_wp2_with fail; exact CalmPost.mk (by simp; rfl) rfl (Ext.refl _)
        · intro w6 hR hL; simp [Look, VAt, EqV] at hL; have q0 := hR.cell e0; have q1 := hR.cell e1; have q2 := hR.cell e2; have q3 := hR.cell e3; have q4 := hR.cell e4; have q5 := hR.cell e5; have q6 := hR.cell e6; have q7 := hR.cell e7; have q8 := hR.cell e8; have q9 := hR.cell e9; simp [Guarded, setAll, bare, hL]; go_wp2_with fail; exact CalmPost.mk (by first | (simp; done) | (simp; rfl) | rfl) rfl (Ext.refl _)
        · intro w6 hR hL; simp [Look, VAt, EqV] at hL; simp [Guarded, setAll, bare, hL]; go_wp2_with fail; refine (KNn.out _ (KE7.out.trans hR) KFw.out).mono ?_; rintro ee ww ⟨A9, c9, rfl, hB, hE⟩; have hB2 := hB.lower hR.size; go_wp2_with fail; exact CalmPost.mk (by first | (simp; done) | (simp; rfl) | rfl) hB2 hE
        · intro w6 hR hL; simp [Look, VAt, EqV] at hL; have q0 := hR.cell e0; have q1 := hR.cell e1; have q2 := hR.cell e2; have q3 := hR.cell e3; have q4 := hR.cell e4; have q5 := hR.cell e5; have q6 := hR.cell e6; have q7 := hR.cell e7; have q8 := hR.cell e8; have q9 := hR.cell e9; simp [Guarded, setAll, bare, hL]; go_wp2_with fail; exact CalmPost.mk (by first | (simp; done) | (simp; rfl) | rfl) rfl (Ext.refl _)
        · intro w6 hR hL; simp [Look, VAt, EqV] at hL; simp [Guarded, setAll, bare, hL]; go_wp2_with fail; refine (KNr.out _ (KE7.out.trans hR) KFw.out).mono ?_; rintro ee ww ⟨A9, c9, rfl, hB, hE⟩; have hB2 := hB.lower hR.size; go_wp2_with fail; exact CalmPost.mk (by first | (simp; done) | (simp; rfl) | rfl) hB2 hE
        · intro w6 hR hL; simp [Look, VAt, EqV] at hL; obtain ⟨hN, hM, hg⟩ := hL; have KT := Kept.mk (texts_any (namesP o) (vs 7) (vs 9) w6 (by have := hN.rd; rwa [tV_rows] at this) hM.rd); clear hN hM; simp [Guarded, setAll, bare, hg]; go_wp2_with fail; refine KT.out.mono ?_; rintro ee ww ⟨rfl, hE⟩; go_wp2_with fail; exact CalmPost.mk (by first | (simp; done) | (simp; rfl) | rfl) rfl hE
        · intro w hR hL; simp [Look, VAt, EqV] at hL; simp [Guarded, setAll, bare, hL]; go_wp2_with fail; exact CalmPost.mk (by simp; rfl) rfl (Ext.refl _)
        · intro w hR hL; simp [Look, VAt, EqV] at hL; simp [Guarded, setAll, bare, hL]; go_wp2_with fail; exact CalmPost.mk (by simp; rfl) rfl (Ext.refl _)
      case uscalmDone =>
        intro vs w8 hR hL
        simp [Look, VAt, EqV] at hL
        obtain ⟨L0, L1, L2, L3, L4, L5, L6, -, L8, -, L10, L11, L12⟩ := hL
        have KE8 := Kept.mk (KE7.out.trans hR)
        have KB8 := Kept.mk (KB7.out.ext hR)
        have KS8 := Kept.mk (KS7.out.ext hR)
        have KL8 := Kept.mk (KL7.out.ext hR)
        have KM8 := Kept.mk (KM7.out.ext hR)
        have Kb8 := Kept.mk (Kb7.out.ext hR)
        simp [setAll, L0, L1, L2, L3, L4, L5, L6, L8, L10, L11, L12]
        clear L0 L1 L2 L3 L4 L5 L6 L8 L10 L11 L12 hR e0 e1 e2 e3 e4 e5 e6 e7 e8 e9 m7 m0 mf
        generalize hv7 : vs 7 = v7
        generalize hv9 : vs 9 = v9
        clear hv7 hv9
        have KOt := Kept.mk (show OtherAt (w8.alloc (.cells #[.slice none 0 0] 23)) w8.heap.size w8.heap.size [] from ⟨⟨_, Blk.new w8 _ [.slice none 0 0], BufS.nil 1 _ _ _, by simp [own]⟩, Nat.le_refl _⟩)
        have KEo := Kept.mk (Ext.alloc w8 (.cells #[.slice none 0 0] 23))
        go_wp2_with fail
        obtain ⟨OL, hOL⟩ : ∃ OL, OL = (edgesP o).map (fun x => y :: x.id) := ⟨_, rfl⟩
        have KOL := Kept.mk hOL
        have KOl := Kept.mk (show OL.length = nE from by rw [hOL, List.length_map, KnE.out])
        clear hOL
        go_loopg [10] nE (fun r iv wi => ∃ i : Nat, i + r = nE ∧ iv = .int .i64 (i : Int) ∧ Kept (OtherAt wi w8.heap.size w8.heap.size (OL.take i) ∧ Ext w8 wi))
        case atStart => exact ⟨0, by omega, rfl, Kept.mk ⟨by simpa using KOt.out, KEo.out⟩⟩
        case round =>
          obtain ⟨i, hr, rfl, KK⟩ := hrel
          have Kr := Kept.mk hr
          have hil : i ≤ nE := by omega
          clear hr
          by_cases hlt : i < nE
          · have hltI : (i : Int) < (nE : Int) := by omega
            have hiE : i < (edgesP o).length := by rw [← KnE.out]; exact hlt
            obtain ⟨lb, lo, rfl, -, hlc⟩ := KL8.out.rd.get (by decide) (i := i) hiE
            obtain ⟨mb, mo, rfl, -, hmc⟩ := KM8.out.rd.get (by decide) (i := i) hiE
            have a0 := KK.out.2.cell (hlc 0 (.string (strOf (edgesP o)[i].id)) rfl)
            have a1 := KK.out.2.cell (hlc 1 (.int .i64 (edgesP o)[i].k) rfl)
            have b0 := KK.out.2.cell (hmc 0 (.string (strOf (edgesP o)[i].id)) rfl)
            have b1 := KK.out.2.cell (hmc 1 (.int .i64 (edgesP o)[i].k) rfl)
            have m8 := KK.out.2.cell (show w8.cell? ⟨gm, 0, none⟩ = some (.slice (some ⟨mb, mo, none⟩) nE mc) from Kb8.out.cell 0)
            rw [Nat.add_zero] at a0 b0
            have hq := fun W => neq_edR (edgesP o)[i] (edgesP o)[i] W
            simp only [decide_true, Bool.not_true] at hq
            have hsm := Kids.out KFw.out i hiE
            have Kst := Kept.mk (show OL.take (i + 1) = OL.take i ++ [y :: (edgesP o)[i].id] from by
              have hiO : i < OL.length := by rw [KOl.out]; exact hlt
              rw [List.take_succ_eq_append_getElem hiO]
              congr 2
              simp only [KOL.out, List.getElem_map])
            generalize (edgesP o)[i] = x at a0 a1 b0 b1 hq hsm Kst
            clear hlc hmc
            go_wp2_with fail
            go_quiet (fail)
            have b0' := (Ext.drewN wr nq).cell b0
            have m8' := (Ext.drewN wr nq).cell m8
            have KK2 := Kept.mk (And.intro (KK.out.1.ext (Ext.drewN wr nq)) (KK.out.2.trans (Ext.drewN wr nq)))
            generalize wr.drewN nq = wq at *
            clear a0 a1 b0 b1 m8 hq KK
            obtain ⟨v, hv1, hv2, hv3⟩ := KK2.out.1.ex
            obtain ⟨vA, vn, vc, hvf⟩ := BufS.form3 hv2
            subst hvf
            have o0 := hv1.cell 0
            have of0 := hv1.free 0
            simp only [List.getElem?_cons_zero] at o0
            have k1 := strOf_app [y] x.id
            have k2 : (strOf [y]).size + (strOf x.id).size ≤ 9223372036854775807 := by rw [strOf_size, strOf_size, List.length_singleton]; omega
            have Kk := Kept.mk (And.intro k1 k2)
            clear k1 k2
            rw [List.singleton_append] at Kk
            have hov := Kept.mk hv2
            have hob := Kept.mk hv1
            have hon := Kept.mk hv3
            clear hv1 hv2 hv3
            go_wp2_with fail
            refine wp_region_calm Ext 11 ([] :: [] :: [(52, 1)] :: [(53, 2)] :: [] :: [] :: [(55, 4), (56, 5)] :: [(57, 6)] :: [(58, 7)] :: [(54, 3), (59, 8)] :: [(60, 9)] :: [])
              ((51, 0) :: (52, 1) :: (53, 2) :: (54, 3) :: (55, 4) :: (56, 5) :: (57, 6) :: (58, 7) :: (59, 8) :: (60, 9) :: (61, 10) :: [])
              (EqV ?orce0 :: EqV ?orce1 :: (fun W u => Buf W wq.heap.size 5 u (bytesV [y])) :: EqV ?orce3 :: EqV ?orce4 :: EqV ?orce5 :: EqV ?orce6 :: EqV ?orce7 :: EqV ?orce8 :: EqV ?orce9 :: (fun W u => BufS 1 W wq.heap.size 9 u [[.string (strOf (y :: x.id))]]) :: []) hm (by kernel_rfl) Ext.refl (fun _ _ _ => Ext.trans) Ext.drew
              (MonoL.at (MonoL.eq _ (MonoL.eq _ (MonoL.cons (fun W W' u hR h => h.ext hR) (MonoL.eq _ (MonoL.eq _ (MonoL.eq _ (MonoL.eq _ (MonoL.eq _ (MonoL.eq _ (MonoL.eq _ (MonoL.cons (fun W W' u hR h => h.ext hR) (MonoL.nil))))))))))))) ?orcalmOps ?orcalmDone
            case orcalmOps =>
              intro vs
              refine (CalmOps.cons ?_ (CalmOps.cons ?_ (CalmOps.cons ?_ (CalmOps.cons ?_ (CalmOps.cons ?_ (CalmOps.cons ?_ (CalmOps.cons ?_ (CalmOps.cons ?_ (CalmOps.cons ?_ (CalmOps.cons ?_ (CalmOps.cons ?_ trivial)))))))))))
              · intro w6 hR hL; simp [Look, VAt, EqV] at hL; have q0 := hR.cell o0; simp [Guarded, setAll, bare, hL]; go_wp2_with fail; exact CalmPost.mk (by first | (simp; done) | (simp; rfl) | rfl) rfl (Ext.refl _)
              · intro w hR hL; simp [Look, VAt, EqV] at hL; simp [Guarded, setAll, bare, hL]; go_wp2_with fail; exact CalmPost.mk (by simp; rfl) rfl (Ext.refl _)
              · intro w6 hR hL; simp [Look, VAt, EqV] at hL; simp [Guarded, setAll, bare, hL]; go_wp2_with fail; exact CalmPost.mk (by first | (simp; done) | (simp; rfl) | rfl) (Buf.lit w6 5 wq.heap.size hR.size [Value.int .u8 (y.toNat : Int)] (by simp [maxLen])) (Ext.alloc _ _)
              · intro w6 hR hL; simp [Look, VAt, EqV] at hL; obtain ⟨A9, c9, h9⟩ := hL.form; have KL9 := Kept.mk hL; rw [h9] at KL9; clear hL; have kc := conv_buf (P := Try.prog) w6 37 5 9 Try.underlying37 Try.underlying5 Try.underlying9 _ KL9.out; simp [Guarded, setAll, bare, h9]; go_wp2_with fail; exact CalmPost.mk (by first | (simp; done) | (simp; rfl) | rfl) rfl (Ext.refl _)
              · intro w6 hR hL; simp [Look, VAt, EqV] at hL; have q0 := hR.cell m8'; simp [Guarded, setAll, bare, hL]; go_wp2_with fail; exact CalmPost.mk (by first | (simp; done) | (simp; rfl) | rfl) rfl (Ext.refl _)
              · intro w hR hL; simp [Look, VAt, EqV] at hL; simp [Guarded, setAll, bare, hL]; go_wp2_with fail; exact CalmPost.mk (by simp; rfl) rfl (Ext.refl _)
              · intro w hR hL; simp [Look, VAt, EqV] at hL; simp [Guarded, setAll, bare, hL]; go_wp2_with fail; exact CalmPost.mk (by simp; rfl) rfl (Ext.refl _)
              · intro w hR hL; simp [Look, VAt, EqV] at hL; simp [Guarded, setAll, bare, hL]; go_wp2_with fail; exact CalmPost.mk (by simp; rfl) rfl (Ext.refl _)
              · intro w6 hR hL; simp [Look, VAt, EqV] at hL; have q0 := hR.cell b0'; simp [Guarded, setAll, bare, hL]; go_wp2_with fail; exact CalmPost.mk (by first | (simp; done) | (simp; rfl) | rfl) rfl (Ext.refl _)
              · intro w6 hR hL; simp [Look, VAt, EqV] at hL; have k1 := Kk.out.1; have k2 := Kk.out.2; simp [Guarded, setAll, bare, hL]; go_wp2_with fail; exact CalmPost.mk (by first | (simp; done) | (simp; rfl) | rfl) rfl (Ext.refl _)
              · intro w6 hR hL; simp [Look, VAt, EqV] at hL; simp [Guarded, setAll, bare, hL]; go_wp2_with fail; exact CalmPost.mk (by first | (simp; done) | (simp; rfl) | rfl) (BufS.lit 1 w6 9 wq.heap.size hR.size [[.string (strOf (y :: x.id))]] (by simp) (by simp [maxLen])) (Ext.alloc _ _)
            case orcalmDone =>
              intro vs w9 hR hL
              simp [Look, VAt, EqV] at hL
              obtain ⟨L0, L1, -, L3, L4, L5, L6, L7, L8, L9, L10⟩ := hL
              obtain ⟨qA, qc, hq10⟩ := L10.form
              rw [hq10] at L10
              have Kq := Kept.mk L10
              simp [setAll, L0, L1, L3, L4, L5, L6, L7, L8, L9, hq10]
              clear L0 L1 L3 L4 L5 L6 L7 L8 L9 L10 hq10 o0 of0 m8' b0'
              generalize hv2' : vs 2 = v2'
              clear hv2'
              have Kv9 := Kept.mk (hov.out.ext hR)
              have Kb9 := Kept.mk (hob.out.ext hR)
              have Ksz9 := Kept.mk (show w8.heap.size < w9.heap.size from by have := hob.out.lt; have := hR.size; omega)
              have KE9 := Kept.mk (KK2.out.2.trans hR)
              have KlT := Kept.mk (show ((OL.take i).map sV).length = i from by rw [List.length_map, List.length_take, KOl.out]; omega)
              have Ksrc := Kept.mk (BufS.src (P := Try.prog) _ Kq.out (by decide) Try.underlying23 (by simp [Value.oneCell']))
              clear hR hov hob
              go_wp2_with (refine wpList_append_bufS (P := Try.prog) w9 rfl (.tmp 51) (.tmp 61) 23 23 rfl 1 (by decide) 9 iS _ Try.underlying23 hiS hzS hsS (by rfl) w8.heap.size (.slice vA vn vc) ((OL.take i).map sV) rfl Kv9.out _ 1 [[.string (strOf (y :: x.id))]] (by simp) rfl Ksrc.out (Nat.le_of_lt Ksz9.out) (by rw [KlT.out]; simp only [maxLen]; omega) (by rw [KlT.out, hbS]; omega) ?_)
              intro v1 wa hV1 hT1 ho1
              obtain ⟨uA, un, uc, huf⟩ := BufS.form3 hV1
              have KV1 := Kept.mk hV1
              subst huf
              have Kba := Kept.mk (Kb9.out.touch hT1 hon.out)
              have c0 := Kba.out.cell 0
              have cf := Kba.out.free 0
              simp only [List.getElem?_cons_zero] at c0
              have hTs := Touch.set wa ⟨w8.heap.size, 0, none⟩ (.slice uA un uc)
              have Kown := Kept.mk (show w8.heap.size ∉ own (.slice uA un uc) from fun hm => by rcases ho1 with h | h <;> rw [h] at hm; exact hon.out hm; rw [List.mem_singleton] at hm; have := Ksz9.out; omega)
              have KEz := Kept.mk (show Ext w8 (wa.setCell ⟨w8.heap.size, 0, none⟩ (.slice uA un uc)) from Touch.below (Touch.below KE9.out hT1 (fun j hj => (Kv9.out.owns j hj).1) KE9.out.size) hTs (fun j hj => by rw [List.mem_singleton] at hj; simp only at hj; omega) (Nat.le_trans KE9.out.size hT1.size))
              have KOz : Kept (OtherAt (wa.setCell ⟨w8.heap.size, 0, none⟩ (.slice uA un uc)) w8.heap.size w8.heap.size (OL.take (i + 1))) := Kept.mk ⟨⟨.slice uA un uc, Kba.out.set 0 (.slice uA un uc), by
                rw [Kst.out, List.map_append]
                have hV3 := KV1.out
                rw [← List.map_take] at hV3
                exact hV3.touch hTs (fun j hj hm => by rw [List.mem_singleton] at hm; simp only at hm; subst hm; exact Kown.out hj), Kown.out⟩, Nat.le_refl _⟩
              clear hV1 hT1 ho1 hTs Kba Kv9 Kb9
              go_wp2_with fail
              go_roundg (gk - 1)
              case measure => have := Kr.out; omega
              case rel => exact ⟨i + 1, by have := Kr.out; omega, by first | rfl | simp, Kept.mk ⟨KOz.out, KEz.out⟩⟩
          · have hltI : ¬ (i : Int) < (nE : Int) := by omega
            have Kall := Kept.mk (show OL.take i = OL from List.take_of_length_le (by rw [KOl.out]; omega))
            obtain ⟨ov, hov1, hov2, hov3⟩ := KK.out.1.ex
            rw [Kall.out] at hov2
            have hEA := KK.out.2.trans (Ext.alloc wr (.cells #[.int .i64 0] 3))
            have hA := Ext.alloc wr (.cells #[.int .i64 0] 3)
            have hbA := Blk.new wr 3 [.int .i64 0]
            have Kgt := Kept.mk (show gm < wr.heap.size ∧ w.heap.size + 1 < wr.heap.size ∧ w8.heap.size < wr.heap.size from ⟨by have := Kb8.out.lt; have := KK.out.2.size; omega, by have := KS8.out.lt; have := KK.out.2.size; omega, hov1.lt⟩)
            have KEA := Kept.mk (KE8.out.trans hEA)
            have KBA := Kept.mk (KB8.out.ext hEA)
            have KSA := Kept.mk (KS8.out.ext hEA)
            have KMA := Kept.mk (KM8.out.ext hEA)
            have KbA := Kept.mk (Kb8.out.ext hEA)
            have KoA := Kept.mk (hov1.ext hA)
            have KorA := Kept.mk (hov2.ext hA)
            have Kga := Kept.mk hbA
            have Kn4 := Kept.mk (show wr.heap.size ∉ own (.slice mA nE mc) from fun hm => by have := (KM8.out.owns _ hm).2; have := KK.out.2.size; omega)
            have Kn5 := Kept.mk (show wr.heap.size ∉ own ov from fun hm => by have := (hov2.owns _ hm).2; omega)
            have hlo : OL.length = (edgesP o).length := by rw [KOl.out, KnE.out]
            have hG := gives_tell (wr.alloc (.cells #[.int .i64 0] 3)) wr.heap.size gm (w.heap.size + 1) w8.heap.size (edgesP o) stop OL hlo (by rw [← KnE.out]; exact hE2001) (.slice mA nE mc) ov _ _
              (KbA.out.cell 0) KMA.out (KSA.out.cell 0) (KoA.out.cell 0) KorA.out (by have := Kgt.out; omega) (by have := Kgt.out; omega) (by have := Kgt.out; omega) Kn4.out Kn5.out (by simp)
            have KMp := Kept.mk (map_any o hG (.slice eA o.ents.length ec) (.slice pA o.pars.length pc) (by have := KFw.out.ents; omega) (by have := KFw.out.pars; omega) _ (Nat.le_refl _) (KIn0.out.ext KEA.out) ⟨Touch.refl _ _, hbA⟩)
            have Ksz := Kept.mk (show (wr.alloc (.cells #[.int .i64 0] 3)).heap.size = wr.heap.size + 1 from by simp)
            clear hG hEA hA hbA hov1 hov2 hov3
            unfold obV at KMp
            go_wp2_with (refine wpList_load_blk (P := Try.prog) rfl 25 (.tmp 3) rfl w.heap.size rfl 25 _ KBA.out _ Try.underlying25 rfl infoOb ?_)
            generalize wr.heap.size = ga at *
            generalize wr.alloc (.cells #[.int .i64 0] 3) = wA at *
            refine KMp.out.mono ?_
            rintro e wm ⟨hTm, hcase⟩
            have KEm := Kept.mk (show Ext w wm from Touch.below KEA.out hTm (fun j hj => by rw [List.mem_singleton] at hj; have := Kgt.out; omega) KEA.out.size)
            have KBm := Kept.mk (KBA.out.touch hTm (fun hm => by rw [List.mem_singleton] at hm; have := Kgt.out; omega))
            have KSm := Kept.mk (KSA.out.touch hTm (fun hm => by rw [List.mem_singleton] at hm; have := Kgt.out; omega))
            have Kbm := Kept.mk (KbA.out.touch hTm (fun hm => by rw [List.mem_singleton] at hm; have := Kgt.out; omega))
            have Kom := Kept.mk (KoA.out.touch hTm (fun hm => by rw [List.mem_singleton] at hm; have := Kgt.out; omega))
            have Korm := Kept.mk (KorA.out.touch hTm (fun j hj hm => by rw [List.mem_singleton] at hm; subst hm; exact Kn5.out hj))
            clear hTm KMp
            rcases hcase with ⟨ev2, pv2, hz, rfl, hO, hJ⟩ | ⟨k, hk, hz, hne, rfl, hJ⟩
            · have hns : ¬ (0 ≤ stop ∧ stop < (nE : Int)) := fun hh => by
                have h1 := hz stop.toNat (by rw [← KnE.out]; omega)
                unfold fT at h1
                rw [if_pos (by omega)] at h1
                exact absurd h1 (by decide)
              have hcg : updO o (fun i => (fT stop OL i).1) (edgesP o).length = updO o (fun i => OL.getD i []) (edgesP o).length := updO_congr o (fun j hj => by
                unfold fT
                rw [if_neg (fun he => hns ⟨by omega, by rw [KnE.out]; omega⟩)])
              rw [hcg] at hO ⊢
              have KJ := Kept.mk hJ.2
              have KWo := Kept.mk (with_any o (.slice eA o.ents.length ec) (.slice pA o.pars.length pc) (by have := KFw.out.ents; omega) (by have := KFw.out.pars; omega) OL w8.heap.size ov)
              have KlO := Kept.mk hlo
              obtain ⟨oA, on, oc, hof⟩ := BufS.form3 Korm.out
              subst hof
              obtain ⟨eA2, en2, ec2, he2⟩ := BufS.form3 hO.e
              obtain ⟨pA2, pn2, pc2, hp2⟩ := BufS.form3 hO.p
              subst he2 hp2
              generalize updO o (fun i => OL.getD i []) (edgesP o).length = o2 at hO KWo ⊢
              unfold obV
              unfold WithE obV at KWo
              have hEn := Ext.alloc wm (.cells (obV o2 (.slice eA2 en2 ec2) (.slice pA2 pn2 pc2)).toArray 25)
              have hbn := Blk.new wm 25 (obV o2 (.slice eA2 en2 ec2) (.slice pA2 pn2 pc2))
              have KEn := Kept.mk (KEm.out.trans hEn)
              have Kbn := Kept.mk hbn
              have KBn := Kept.mk (KBm.out.ext hEn)
              have Kr1 := Kept.mk (KSm.out.ext hEn)
              have Kr2 := Kept.mk (Kbm.out.ext hEn)
              have Kr3 := Kept.mk (KJ.out.ext hEn)
              have Kr4 := Kept.mk (Kom.out.ext hEn)
              have Kr5 := Kept.mk (Korm.out.ext hEn)
              have KI2 := Kept.mk (hO.in.ext hEn)
              unfold obV at KEn Kbn Kr1 Kr2 Kr3 Kr4 Kr5 KBn KI2
              rw [← KnE.out] at Kr3
              clear hJ hEn hbn hO hcg hz
              go_upto_region 17 with (fail)
              generalize wm.heap.size = pg at *
              generalize wm.alloc (.cells #[.int .i64 o2.k, .string (strOf o2.text), .slice eA2 en2 ec2, .string (strOf o2.tree), .slice pA2 pn2 pc2, .string (strOf o2.targ), .int .i64 o2.of, .string (strOf o2.name), .string (strOf o2.who), .int .i64 o2.when] 25) = wn at *
              have s0 := Kr1.out.cell 0
              have s1 := Kr2.out.cell 0
              have s3 := Kr3.out.cell 0
              have s4 := Kr4.out.cell 0
              simp only [List.getElem?_cons_zero] at s0 s1 s3 s4
              have KGo : Kept (¬ (0 ≤ stop) ∨ (0 ≤ stop ∧ (nE : Int) ≤ stop)) := Kept.mk (by omega)
              clear hns
              rcases KGo.out with hs1 | ⟨hs1, hs2⟩
              all_goals
                go_wp2_with fail
                clear s0
                have n0 := Kbn.out.cell 0
                have n1 := Kbn.out.cell 1
                have n2 := Kbn.out.cell 2
                have n3 := Kbn.out.cell 3
                have n4 := Kbn.out.cell 4
                have n5 := Kbn.out.cell 5
                have n6 := Kbn.out.cell 6
                have n7 := Kbn.out.cell 7
                have n8 := Kbn.out.cell 8
                have n9 := Kbn.out.cell 9
                simp only [List.getElem?_cons_zero, List.getElem?_cons_succ] at n0 n1 n2 n3 n4 n5 n6 n7 n8 n9
                have d0 := KBn.out.cell 0
                have d1 := KBn.out.cell 1
                have d2 := KBn.out.cell 2
                have d3 := KBn.out.cell 3
                have d4 := KBn.out.cell 4
                have d5 := KBn.out.cell 5
                have d6 := KBn.out.cell 6
                have d7 := KBn.out.cell 7
                have d8 := KBn.out.cell 8
                have d9 := KBn.out.cell 9
                simp only [List.getElem?_cons_zero, List.getElem?_cons_succ] at d0 d1 d2 d3 d4 d5 d6 d7 d8 d9
                refine wp_region_calm Ext 15 ([] :: [(90, 0)] :: [(91, 1)] :: [(92, 2)] :: [(92, 2)] :: [(94, 4), (92, 2)] :: [(93, 3), (95, 5), (92, 2)] :: [(92, 2), (96, 6)] :: [(97, 7)] :: [(98, 8)] :: [(98, 8)] :: [(98, 8)] :: [(100, 10), (101, 11), (98, 8)] :: [(99, 9), (102, 12), (98, 8)] :: [(98, 8), (103, 13)] :: [])
                  ((90, 0) :: (91, 1) :: (92, 2) :: (93, 3) :: (94, 4) :: (95, 5) :: (96, 6) :: (97, 7) :: (98, 8) :: (99, 9) :: (100, 10) :: (101, 11) :: (102, 12) :: (103, 13) :: (104, 14) :: [])
                  (EqV ?zce0 :: EqV ?zce1 :: EqV ?zce2 :: EqV ?zce3 :: EqV ?zce4 :: EqV ?zce5 :: EqV ?zce6 :: EqV ?zce7 :: EqV ?zce8 :: EqV ?zce9 :: EqV ?zce10 :: EqV ?zce11 :: (fun W u => ObIs o2 W u) :: EqV ?zce13 :: EqV ?zce14 :: []) hm (by kernel_rfl) Ext.refl (fun _ _ _ => Ext.trans) Ext.drew
                  (MonoL.at (MonoL.eq _ (MonoL.eq _ (MonoL.eq _ (MonoL.eq _ (MonoL.eq _ (MonoL.eq _ (MonoL.eq _ (MonoL.eq _ (MonoL.eq _ (MonoL.eq _ (MonoL.eq _ (MonoL.eq _ (MonoL.cons (fun W W' u hR h => h.ext hR) (MonoL.eq _ (MonoL.eq _ (MonoL.nil))))))))))))))))) ?zcalmOps ?zcalmDone
                case zcalmOps =>
                  intro vs
                  refine (CalmOps.cons ?_ (CalmOps.cons ?_ (CalmOps.cons ?_ (CalmOps.cons ?_ (CalmOps.cons ?_ (CalmOps.cons ?_ (CalmOps.cons ?_ (CalmOps.cons ?_ (CalmOps.cons ?_ (CalmOps.cons ?_ (CalmOps.cons ?_ (CalmOps.cons ?_ (CalmOps.cons ?_ (CalmOps.cons ?_ (CalmOps.cons ?_ trivial)))))))))))))))
                  · intro w6 hR hL; simp [Look, VAt, EqV] at hL; simp [Guarded, setAll, bare, hL]; go_wp2_with fail; exact CalmPost.mk (by first | (simp; done) | (simp; rfl) | rfl) rfl (Ext.refl _)
                  · intro w6 hR hL; simp [Look, VAt, EqV] at hL; simp [Guarded, setAll, bare, hL]; go_wp2_with fail; exact CalmPost.mk (by first | (simp; done) | (simp; rfl) | rfl) rfl (Ext.refl _)
                  · intro w6 hR hL; simp [Look, VAt, EqV] at hL; simp [Guarded, setAll, bare, hL]; go_wp2_with fail; exact CalmPost.mk (by first | (simp; done) | (simp; rfl) | rfl) rfl (Ext.refl _)
                  · intro w6 hR hL; simp [Look, VAt, EqV] at hL; have q0 := hR.cell s3; simp [Guarded, setAll, bare, hL]; go_wp2_with fail; exact CalmPost.mk (by first | (simp; done) | (simp; rfl) | rfl) rfl (Ext.refl _)
                  · intro w6 hR hL; simp [Look, VAt, EqV] at hL; have q0 := hR.cell s1; simp [Guarded, setAll, bare, hL]; go_wp2_with fail; exact CalmPost.mk (by first | (simp; done) | (simp; rfl) | rfl) rfl (Ext.refl _)
                  · intro w6 hR hL; simp [Look, VAt, EqV] at hL; simp [Guarded, setAll, bare, hL]; go_wp2_with fail; exact CalmPost.mk (by first | (simp; done) | (simp; rfl) | rfl) rfl (Ext.refl _)
                  · intro w6 hR hL; simp [Look, VAt, EqV] at hL; simp [Guarded, setAll, bare, hL]; go_wp2_with fail; exact CalmPost.mk (by first | (simp; done) | (simp; rfl) | rfl) rfl (Ext.refl _)
                  · intro w6 hR hL; simp [Look, VAt, EqV] at hL; simp [Guarded, setAll, bare, hL]; go_wp2_with fail; exact CalmPost.mk (by first | (simp; done) | (simp; rfl) | rfl) rfl (Ext.refl _)
                  · intro w6 hR hL; simp [Look, VAt, EqV] at hL; simp [Guarded, setAll, bare, hL]; go_wp2_with fail; exact CalmPost.mk (by first | (simp; done) | (simp; rfl) | rfl) rfl (Ext.refl _)
                  · intro w6 hR hL; simp [Look, VAt, EqV] at hL; have q0 := hR.cell n0; have q1 := hR.cell n1; have q2 := hR.cell n2; have q3 := hR.cell n3; have q4 := hR.cell n4; have q5 := hR.cell n5; have q6 := hR.cell n6; have q7 := hR.cell n7; have q8 := hR.cell n8; have q9 := hR.cell n9; simp [Guarded, setAll, bare, hL]; go_wp2_with fail; exact CalmPost.mk (by first | (simp; done) | (simp; rfl) | rfl) rfl (Ext.refl _)
                  · intro w6 hR hL; simp [Look, VAt, EqV] at hL; have q0 := hR.cell d0; have q1 := hR.cell d1; have q2 := hR.cell d2; have q3 := hR.cell d3; have q4 := hR.cell d4; have q5 := hR.cell d5; have q6 := hR.cell d6; have q7 := hR.cell d7; have q8 := hR.cell d8; have q9 := hR.cell d9; simp [Guarded, setAll, bare, hL]; go_wp2_with fail; exact CalmPost.mk (by first | (simp; done) | (simp; rfl) | rfl) rfl (Ext.refl _)
                  · intro w6 hR hL; simp [Look, VAt, EqV] at hL; have q0 := hR.cell s4; simp [Guarded, setAll, bare, hL]; go_wp2_with fail; exact CalmPost.mk (by first | (simp; done) | (simp; rfl) | rfl) rfl (Ext.refl _)
                  · intro w6 hR hL; simp [Look, VAt, EqV] at hL; simp [Guarded, setAll, bare, hL]; have KW2 := Kept.mk (KWo.out w6 KlO.out (Kr5.out.ext hR) (KIn0.out.ext (KEn.out.trans hR))); go_wp2_with fail; refine KW2.out.mono ?_; rintro ee ww ⟨ev3, pv3, rfl, hI3, hE3⟩; have hob : ObIs o2 ww (.agg (obV o2 ev3 pv3).toArray) := ⟨ev3, pv3, rfl, hI3⟩; unfold obV at hob; go_wp2_with fail; exact CalmPost.mk (by first | (simp; done) | (simp; rfl) | rfl) hob hE3
                  · intro w6 hR hL; simp [Look, VAt, EqV] at hL; obtain ⟨h9, h12, h8⟩ := hL; obtain ⟨ev3, pv3, he3, hI3⟩ := h12; unfold obV at he3; have KS3 := Kept.mk (same_any o2 (.slice eA2 en2 ec2) (.slice pA2 pn2 pc2) ev3 pv3 w6 (KI2.out.ext hR) hI3); unfold obV at KS3; clear hI3; simp [Guarded, setAll, bare, h9, he3, h8]; clear he3 h9 h8; go_wp2_with fail; refine KS3.out.mono ?_; rintro ee ww ⟨rfl, hE⟩; go_wp2_with fail; exact CalmPost.mk (by first | (simp; done) | (simp; rfl) | rfl) rfl hE
                  · intro w6 hR hL; simp [Look, VAt, EqV] at hL; simp [Guarded, setAll, bare, hL]; go_wp2_with fail; exact CalmPost.mk (by first | (simp; done) | (simp; rfl) | rfl) rfl (Ext.refl _)
                case zcalmDone =>
                  intro vs wz hR hL
                  simp [Look, VAt, EqV] at hL
                  obtain ⟨L0, L1, L2, L3, L4, L5, L6, L7, L8, L9, L10, L11, L12, L13, L14⟩ := hL
                  have KEz := Kept.mk (KEn.out.trans hR)
                  simp [setAll, L0, L1, L2, L3, L4, L5, L6, L7, L8, L9, L10, L11, L13, L14]
                  clear L0 L1 L2 L3 L4 L5 L6 L7 L8 L9 L10 L11 L12 L13 L14 hR s1 s3 s4 n0 n1 n2 n3 n4 n5 n6 n7 n8 n9 d0 d1 d2 d3 d4 d5 d6 d7 d8 d9
                  generalize hv12 : vs 12 = v12
                  clear hv12
                  go_wp2_with fail
                  go_ret
                  exact ⟨rfl, KEz.out⟩
            · have hks : (k : Int) = stop := by
                refine Classical.byContradiction fun hc => hne ?_
                unfold fT; rw [if_neg hc]
              subst hks
              have h6 : (fT (k : Int) OL k).2 = 6 := by unfold fT; rw [if_pos rfl]
              rw [h6]
              have hkn : k < nE := by rw [KnE.out]; exact hk
              clear hz hne h6 hk
              have KJ := Kept.mk hJ.2
              unfold ob0
              have hEn := Ext.alloc wm (.cells ob0.toArray 25)
              have hbn := Blk.new wm 25 ob0
              have KEn := Kept.mk (KEm.out.trans hEn)
              have Kbn := Kept.mk hbn
              have Kr1 := Kept.mk (KSm.out.ext hEn)
              have Kr2 := Kept.mk (Kbm.out.ext hEn)
              have Kr3 := Kept.mk (KJ.out.ext hEn)
              unfold ob0 at KEn Kbn Kr1 Kr2 Kr3
              clear hJ hEn hbn
              go_upto_region 17 with (fail)
              generalize wm.heap.size = pg at *
              generalize wm.alloc (.cells #[.int .i64 0, .string ⟨#[]⟩, .slice none 0 0, .string ⟨#[]⟩, .slice none 0 0, .string ⟨#[]⟩, .int .i64 0, .string ⟨#[]⟩, .string ⟨#[]⟩, .int .i64 0] 25) = wn at *
              have s0 := Kr1.out.cell 0
              have s1 := Kr2.out.cell 0
              simp only [List.getElem?_cons_zero] at s0 s1
              have hknI : (k : Int) < (nE : Int) := by omega
              have hk0 : (0 : Int) ≤ (k : Int) := by omega
              have hk9 : k ≤ 2001 := by omega
              have g0 := Kr3.out.cell 0
              simp only [List.getElem?_cons_zero] at g0
              push_cast at g0
              have p0 := Kbn.out.cell 0
              have p1 := Kbn.out.cell 1
              have p2 := Kbn.out.cell 2
              have p3 := Kbn.out.cell 3
              have p4 := Kbn.out.cell 4
              have p5 := Kbn.out.cell 5
              have p6 := Kbn.out.cell 6
              have p7 := Kbn.out.cell 7
              have p8 := Kbn.out.cell 8
              have p9 := Kbn.out.cell 9
              simp only [List.getElem?_cons_zero, List.getElem?_cons_succ] at p0 p1 p2 p3 p4 p5 p6 p7 p8 p9
              have KSm2 := Kept.mk (same_any ⟨0, [], [], [], [], [], 0, [], [], 0⟩ (.slice none 0 0) (.slice none 0 0) (.slice none 0 0) (.slice none 0 0) wn ⟨(BufS.nil 3 wn 0 46).rd, (BufS.nil 1 wn 0 9).rd⟩ ⟨(BufS.nil 3 wn 0 46).rd, (BufS.nil 1 wn 0 9).rd⟩)
              go_wp2_with fail
              refine KSm2.out.mono ?_
              rintro e wf ⟨rfl, hEf⟩
              have KEf := Kept.mk (KEn.out.trans hEf)
              go_wp2_with fail
              go_ret
              exact ⟨rfl, KEf.out⟩
theorem tell_frame (w : World) (o : Ob) (ev pv : Value) (h : InOb w o ev pv) (stop : Int) (hst : (Lit.int .i64 stop).wf = true) (turn : Int) (htn : (Lit.int .u8 turn).wf = true) : Calls Try.prog 3 #[.agg (obV o ev pv).toArray, .int .i64 stop, .int .u8 turn] w fun e w1 => e = .returned (.bool true) ∧ Below w.heap.size w w1 := tell_law w o ev pv h.1 h.2 stop hst turn htn
end Edge
end Go.Proofs.Ytdjkcolceccclaa
