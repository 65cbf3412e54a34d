/- The document's Done and Seen. No condition. -/
import Derived.Test.YtjphmjegfpdbeaaDiskRB
import Derived.Test.YtjphmjegfpdbeaaCalm
namespace Go.Proofs.Ytjphmjegfpdbeaa
open Go.RowKit
namespace Disk
open Str
set_option linter.unusedSimpArgs false
set_option linter.unusedVariables false
/-- Files that read so. -/
def FilesR (G : Nat → Prop) (L : List F) (W : World) (u : Value) : Prop := Rd 2 W u (L.map fV) ∧ (L ≠ [] → ∀ j ∈ own u, G j)
theorem FilesR.ext {G : Nat → Prop} {L : List F} {W W' : World} {u : Value} (h : FilesR G L W u) (k : Ext W W') : FilesR G L W' u := ⟨Rd.ext h.1 k, h.2⟩
theorem FilesR.of {G : Nat → Prop} {L : List F} {W : World} {u : Value} {B b : Nat} {T : TypeId} (h : BufS 2 W B T u (L.map fV)) (hG : ∀ j, b ≤ j → G j) (hb : b ≤ B) : FilesR G L W u := ⟨h.rd, fun _ j hj => hG j (Nat.le_trans hb (h.owns j hj).1)⟩
def DoneE (G : Nat → Prop) (w : World) (L : List F) (e : Ending) (w' : World) : Prop := ∃ v, e = .returned v ∧ FilesR G L w' v ∧ Ext w w'
def effR (e : Eff) : List Value := [.int .i64 (e.k + 1), .string (strOf e.p), .string (strOf e.t)]
theorem FilesR.form {G : Nat → Prop} {L : List F} {W : World} {u : Value} (h : FilesR G L W u) : ∃ A n c, u = .slice A n c := by
  obtain ⟨A, c, h1⟩ := Rd.form h.1
  exact ⟨A, _, c, h1⟩
/-- Rows that read so. -/
def RowsR (G : Nat → Prop) (L : List Eff) (W : World) (u : Value) : Prop := Rd 3 W u (L.map effR) ∧ (L ≠ [] → ∀ j ∈ own u, G j)
theorem RowsR.ext {G : Nat → Prop} {L : List Eff} {W W' : World} {u : Value} (h : RowsR G L W u) (k : Ext W W') : RowsR G L W' u := ⟨Rd.ext h.1 k, h.2⟩
theorem RowsR.of {G : Nat → Prop} {L : List Eff} {W : World} {u : Value} {B b : Nat} {T : TypeId} (h : BufS 3 W B T u (L.map effR)) (hG : ∀ j, b ≤ j → G j) (hb : b ≤ B) : RowsR G L W u := ⟨h.rd, fun _ j hj => hG j (Nat.le_trans hb (h.owns j hj).1)⟩
theorem RowsR.nil (G : Nat → Prop) (W : World) : RowsR G [] W (.slice none 0 0) := ⟨Rd.nil _ _, fun h => absurd rfl h⟩
theorem FilesR.nil (G : Nat → Prop) (W : World) : FilesR G [] W (.slice none 0 0) := ⟨Rd.nil _ _, fun h => absurd rfl h⟩
theorem RowsR.form {G : Nat → Prop} {L : List Eff} {W : World} {u : Value} (h : RowsR G L W u) : ∃ A cap, u = .slice A (L.map effR).length cap := Rd.form h.1
/-- What is made behind w is good. -/
theorem good_ext {G : Nat → Prop} {w w' : World} (hG : ∀ j, w.heap.size ≤ j → G j) (h : Ext w w') : ∀ j, w'.heap.size ≤ j → G j := fun j hj => hG j (Nat.le_trans h.size hj)
set_option maxRecDepth 100000 in
set_option maxHeartbeats 8000000 in
theorem done_any {G : Nat → Prop} (L : List F) (hL : L.length ≤ 1048575) (v : Value) (e : Eff) (hk : e.k = 0 ∨ e.k = 1 ∨ e.k = 2) (j : Int) (hj : j = e.k + 1) (w : World) (hG : ∀ j, w.heap.size ≤ j → G j) (h : FilesR G L w v) :
    Calls Try.prog 39 #[v, .agg #[.int .i64 j, .string (strOf e.p), .string (strOf e.t)]] w (DoneE G w (doneP L e)) := by
  have KG := Kept.mk hG
  have hm : Try.prog.follows .mixedOrders = true := by kernel_rfl
  obtain ⟨k, p, t⟩ := e
  simp only at hk hj ⊢
  subst hj
  have hE := Ext.alloc w (.cells #[.int .i64 (k + 1), .string (strOf p), .string (strOf t)] 55)
  have KE := Kept.mk hE
  have Kx := Kept.mk (show Blk (w.alloc (.cells #[.int .i64 (k + 1), .string (strOf p), .string (strOf t)] 55)) w.heap.size 55 [.int .i64 (k + 1), .string (strOf p), .string (strOf t)] from Blk.new w _ _)
  have KR := Kept.mk (FilesR.ext h hE)
  obtain ⟨A, nn, c, rfl⟩ := FilesR.form h
  unfold DoneE
  clear h hE hG
  have Kdl := Kept.mk (len_drop L p)
  rcases hk with rfl | rfl | rfl
  · have KD := Kept.mk (done_0 L p t)
    go_enter Try.func39, Try.ntmps39
    go_upto_region 1 with (fail)
    simp only [show (0 : Int) + 1 = 1 from rfl] at KE Kx KR ⊢
    generalize w.alloc (.cells #[.int .i64 1, .string (strOf p), .string (strOf t)] 55) = w1 at *
    generalize w.heap.size = xg at Kx ⊢
    have x0 := Kx.out.cell 0
    have x1 := Kx.out.cell 1
    have x2 := Kx.out.cell 2
    simp only [List.getElem?_cons_zero, List.getElem?_cons_succ] at x0 x1 x2
    have KW := Kept.mk (with_any L hL _ p t w1 KR.out.1)
    go_wp2_with fail
    refine KW.out.mono ?_
    rintro e w2 ⟨v2, rfl, hb, hE2⟩
    have Kb := Kept.mk (show FilesR G (doneP L ⟨0, p, t⟩) w2 v2 from by rw [KD.out]; exact FilesR.of hb KG.out KE.out.size)
    obtain ⟨A2, n2, c2, rfl⟩ := BufS.form3 hb
    have KE2 := Kept.mk (KE.out.trans hE2)
    clear hb hE2 KW
    go_wp2_with fail
    go_ret
    exact ⟨_, rfl, Kb.out, KE2.out⟩
  · go_enter Try.func39, Try.ntmps39
    go_upto_region 1 with (fail)
    simp only [show (1 : Int) + 1 = 2 from rfl] at KE Kx KR ⊢
    generalize w.alloc (.cells #[.int .i64 2, .string (strOf p), .string (strOf t)] 55) = w1 at *
    generalize w.heap.size = xg at Kx ⊢
    have x0 := Kx.out.cell 0
    have x1 := Kx.out.cell 1
    have x2 := Kx.out.cell 2
    simp only [List.getElem?_cons_zero, List.getElem?_cons_succ] at x0 x1 x2
    have KF := Kept.mk (find_any L _ p w1 KR.out.1)
    unfold FindE at KF
    cases hg : getK L p with
    | none =>
      rw [hg] at KF
      have KD := Kept.mk (done_1n t hg)
      clear hg
      go_wp2_with fail
      refine KF.out.mono ?_
      rintro e w2 ⟨rfl, rfl⟩
      go_wp2_with fail
      go_ret
      exact ⟨_, rfl, by rw [KD.out]; exact KR.out, KE.out⟩
    | some xx =>
      rw [hg] at KF
      have KD := Kept.mk (done_1s t hg)
      simp only [Option.getD_some, Option.isSome_some] at KF
      clear hg
      go_wp2_with fail
      refine KF.out.mono ?_
      rintro e w2 ⟨rfl, rfl⟩
      clear KF
      go_wp2_with fail
      refine wp_region_calm Ext 10 ([] :: [] :: [(31, 1)] :: [(30, 0), (32, 2)] :: [] :: [(34, 4)] :: [] :: [(35, 5), (36, 6)] :: [(33, 3), (37, 7)] :: [(38, 8)] :: [])
        ((30, 0) :: (31, 1) :: (32, 2) :: (33, 3) :: (34, 4) :: (35, 5) :: (36, 6) :: (37, 7) :: (38, 8) :: (4, 9) :: [])
        (EqV ?sce0 :: EqV ?sce1 :: EqV ?sce2 :: (fun W u => FilesR G (dropP L p) W u) :: EqV ?sce4 :: EqV ?sce5 :: EqV ?sce6 :: EqV ?sce7 :: (fun W u => FilesR G (withP (dropP L p) (t, xx)) W u) :: (fun W u => FilesR G (withP (dropP L p) (t, xx)) W u) :: []) hm (by kernel_rfl) Ext.refl (fun _ _ _ => Ext.trans) Ext.drew
        (MonoL.at (MonoL.eq _ (MonoL.eq _ (MonoL.eq _ (MonoL.cons (fun W W' u hR h => FilesR.ext h hR) (MonoL.eq _ (MonoL.eq _ (MonoL.eq _ (MonoL.eq _ (MonoL.cons (fun W W' u hR h => FilesR.ext h hR) (MonoL.cons (fun W W' u hR h => FilesR.ext h hR) (MonoL.nil)))))))))))) ?scalmOps ?scalmDone
      case scalmOps =>
        intro vs
        refine (CalmOps.cons ?_ (CalmOps.cons ?_ (CalmOps.cons ?_ (CalmOps.cons ?_ (CalmOps.cons ?_ (CalmOps.cons ?_ (CalmOps.cons ?_ (CalmOps.cons ?_ (CalmOps.cons ?_ (CalmOps.cons ?_ trivial))))))))))
        · intro w6 hR hL; simp [Look, VAt, EqV] at hL; simp [Guarded, setAll, bare, hL]; go_wp2_with fail; exact CalmPost.mk (by first | (simp; done) | (simp; rfl) | rfl) rfl (Ext.refl _)
        · intro w6 hR hL; simp [Look, VAt, EqV] at hL; simp [Guarded, setAll, bare, hL]; go_wp2_with fail; exact CalmPost.mk (by first | (simp; done) | (simp; rfl) | rfl) rfl (Ext.refl _)
        · intro w6 hR hL; simp [Look, VAt, EqV] at hL; have q0 := hR.cell x1; simp [Guarded, setAll, bare, hL]; go_wp2_with fail; exact CalmPost.mk (by first | (simp; done) | (simp; rfl) | rfl) rfl (Ext.refl _)
        · intro w6 hR hL; simp [Look, VAt, EqV] at hL; have KW := Kept.mk (without_any L (by omega) _ p w6 (FilesR.ext KR.out hR).1); unfold WithoutE at KW; simp [Guarded, setAll, bare, hL]; go_wp2_with fail; refine KW.out.mono ?_; rintro ee ww ⟨v7, rfl, hb, hE, -⟩; have hb2 : FilesR G (dropP L p) ww v7 := FilesR.of hb KG.out (KE.out.trans hR).size; go_wp2_with fail; exact CalmPost.mk (by first | (simp; done) | (simp; rfl) | rfl) hb2 hE
        · intro w6 hR hL; simp [Look, VAt, EqV] at hL; simp [Guarded, setAll, bare, hL]; go_wp2_with fail; exact CalmPost.mk (by first | (simp; done) | (simp; rfl) | rfl) rfl (Ext.refl _)
        · intro w6 hR hL; simp [Look, VAt, EqV] at hL; have q0 := hR.cell x2; simp [Guarded, setAll, bare, hL]; go_wp2_with fail; exact CalmPost.mk (by first | (simp; done) | (simp; rfl) | rfl) rfl (Ext.refl _)
        · intro w6 hR hL; simp [Look, VAt, EqV] at hL; simp [Guarded, setAll, bare, hL]; go_wp2_with fail; exact CalmPost.mk (by first | (simp; done) | (simp; rfl) | rfl) rfl (Ext.refl _)
        · intro w6 hR hL; simp [Look, VAt, EqV] at hL; simp [Guarded, setAll, bare, hL]; go_wp2_with fail; exact CalmPost.mk (by first | (simp; done) | (simp; rfl) | rfl) rfl (Ext.refl _)
        · intro w6 hR hL; simp [Look, VAt, EqV] at hL; obtain ⟨h3, h7⟩ := hL; have KW := Kept.mk (with_any (dropP L p) (by have := Kdl.out; omega) _ t xx w6 h3.1); clear h3; simp [Guarded, setAll, bare, h7]; go_wp2_with fail; refine KW.out.mono ?_; rintro ee ww ⟨v7, rfl, hb, hE⟩; have hb2 : FilesR G (withP (dropP L p) (t, xx)) ww v7 := FilesR.of hb KG.out (KE.out.trans hR).size; go_wp2_with fail; exact CalmPost.mk (by first | (simp; done) | (simp; rfl) | rfl) hb2 hE
        · intro w6 hR hL; simp [Look, VAt, EqV] at hL; have KL := Kept.mk hL; clear hL; simp [Guarded, setAll, bare]; go_wp2_with fail; exact CalmPost.mk (by first | (simp; done) | (simp; rfl) | rfl) KL.out (Ext.refl _)
      case scalmDone =>
        intro vs w6 hR hL2
        simp [Look, VAt, EqV] at hL2
        obtain ⟨L0, L1, L2, -, L4, L5, L6, L7, -, L9⟩ := hL2
        obtain ⟨A2, n2, c2, hv9⟩ := FilesR.form L9
        have Kb := Kept.mk L9
        rw [hv9] at Kb
        have KE6 := Kept.mk (KE.out.trans hR)
        simp [setAll, L0, L1, L2, L4, L5, L6, L7, hv9]
        clear L0 L1 L2 L4 L5 L6 L7 L9 hR hv9
        generalize hv3 : vs 3 = v3
        generalize hv8 : vs 8 = v8
        clear hv3 hv8
        go_wp2_with fail
        go_ret
        exact ⟨_, rfl, by rw [KD.out]; exact Kb.out, KE6.out⟩
  · have KD := Kept.mk (done_2 L p t)
    go_enter Try.func39, Try.ntmps39
    go_upto_region 1 with (fail)
    simp only [show (2 : Int) + 1 = 3 from rfl] at KE Kx KR ⊢
    generalize w.alloc (.cells #[.int .i64 3, .string (strOf p), .string (strOf t)] 55) = w1 at *
    generalize w.heap.size = xg at Kx ⊢
    have x0 := Kx.out.cell 0
    have x1 := Kx.out.cell 1
    have x2 := Kx.out.cell 2
    simp only [List.getElem?_cons_zero, List.getElem?_cons_succ] at x0 x1 x2
    have KW := Kept.mk (without_any L (by omega) _ p w1 KR.out.1)
    unfold WithoutE at KW
    go_wp2_with fail
    refine KW.out.mono ?_
    rintro e w2 ⟨v2, rfl, hb, hE2, -⟩
    have Kb := Kept.mk (show FilesR G (doneP L ⟨2, p, t⟩) w2 v2 from by rw [KD.out]; exact FilesR.of hb KG.out KE.out.size)
    obtain ⟨A2, n2, c2, rfl⟩ := BufS.form3 hb
    have KE2 := Kept.mk (KE.out.trans hE2)
    clear hb hE2 KW
    go_wp2_with fail
    go_ret
    exact ⟨_, rfl, Kb.out, KE2.out⟩
end Disk
end Go.Proofs.Ytjphmjegfpdbeaa
