/- An effect that waits. No condition. -/
import Derived.Test.YtjphmjegfpdbeaaDiskE
import Derived.Test.YtjphmjegfpdbeaaBufFull
namespace Go.Proofs.Ytjphmjegfpdbeaa
open Go.RowKit
namespace Disk
open Str
set_option linter.unusedSimpArgs false
set_option linter.unusedVariables false
theorem infoEff : ∃ i : TypeInfo, Try.prog.info? 79 = some i ∧ i.zero = some (.agg #[.int .i64 0, .string ByteArray.empty, .string ByteArray.empty]) ∧ i.size = 3 ∧ i.bytes = 40 := by
  have h : (Try.prog.info? 79).map (fun i => (i.zero, i.size, i.bytes)) = some (some (.agg #[.int .i64 0, .string ByteArray.empty, .string ByteArray.empty]), 3, 40) := by kernel_rfl
  obtain ⟨i, hi, he⟩ := Option.map_eq_some_iff.1 h
  injection he with e1 e2
  injection e2 with e2 e3
  exact ⟨i, hi, e1, e2, e3⟩
set_option maxRecDepth 100000 in
set_option maxHeartbeats 2000000 in
theorem clip_any (A : Option Addr) (n c : Nat) (h1 : n ≤ c) (h2 : c ≤ 9223372036854775807) (w : World) : Calls Try.prog 49 #[.slice A n c] w fun e w' => e = .returned (.slice A n n) ∧ w = w' := by
  have h1I : (n : Int) ≤ (c : Int) := by omega
  go_enter Try.func49, Try.ntmps49
  go_wp2_with fail
  go_ret
  exact ⟨rfl, rfl⟩
theorem undef_no (b : Bool) : (undef = Value.bool b) = False := by
  rw [eq_iff_iff]
  exact ⟨(fun h => by cases h), False.elim⟩
/-- What a call that answers a number leaves. -/
def NumE (w : World) (B : Nat) (D : List Nat) (g : Nat) (r : Int × Dk) (e : Ending) (w' : World) : Prop := e = .returned (.int .i64 r.1) ∧ After w B D g r.2 w'
theorem call_fails (d : Dk) : callP d = if (failsP d).1 then (failP (failsP d).2, true) else ((failsP d).2, false) := by
  unfold callP failsP
  by_cases h0 : d.cnt = 0
  · simp [h0]
  · by_cases h1 : d.cnt - 1 = 0
    · simp [h0, h1, failP]
    · simp [h0, h1]
theorem fails_b {n : Nat} {d : Dk} (h : DkB n d) : DkB n (failsP d).2 := by
  unfold failsP
  split
  · exact h
  · exact ⟨h.lies, h.each, h.up, by have := h.cnt; simp only; omega, h.keep, h.room⟩
theorem fail_fails (d : Dk) : seenP (failsP d).2 = seenP d := by unfold failsP; split <;> rfl
set_option maxRecDepth 100000 in
set_option maxHeartbeats 16000000 in
theorem wait_any (w : World) (B : Nat) (D : List Nat) (g : Nat) (d : Dk) (n : Nat) (e : Eff) (h : DkAt w B D g d) (hb : DkB n d) (hn : n + 1 ≤ 1048576) (he : EffB e) :
    Calls Try.prog 37 #[.pointer (some ⟨g, 0, none⟩), .agg #[.int .i64 e.k, .string (strOf e.p), .string (strOf e.t)]] w (NumE w B D g (waitP d e)) := by
  have hm : Try.prog.follows .mixedOrders = true := by kernel_rfl
  obtain ⟨iF, hiF, hzF, hsF, hbF⟩ := infoEff
  have hE := Ext.alloc w (.cells (effV e).toArray 79)
  have Kg := Kept.mk h.1
  have Kw := Kept.mk (show ∀ j ∈ D, B ≤ j ∧ j < w.heap.size from h.lt)
  have KOld := Kept.mk h
  obtain ⟨-, bl, bs, v, hb1, hp⟩ := h
  obtain ⟨A, c, hv⟩ := hp.wb.form
  rw [List.length_map] at hv
  subst hv
  have hlen : d.rows.length ≤ n := hb.rows
  have hcap : d.rows.length ≤ c := by have := hp.wb.len.2.1; simpa using this
  have hcap2 : c ≤ 9223372036854775807 := by have := hp.wb.len.2.2; simp only [maxLen] at this; omega
  have KB := Kept.mk (hb1.ext hE)
  have KP := Kept.mk (hp.touch (Touch.of_ext (S := []) hE) (by simp) (by simp) (by simp))
  have Kx := Kept.mk (show Blk (w.alloc (.cells (effV e).toArray 79)) w.heap.size 79 (effV e) from Blk.new w _ _)
  have KE := Kept.mk hE
  have Kd := Kept.mk hb
  have Ke := Kept.mk he
  have Ksb := Kept.mk (hb.seen.done he)
  have Kbw := Kept.mk (hb.add he)
  obtain ⟨r, hr⟩ : ∃ r, r = d.rows.length := ⟨_, rfl⟩
  have KR := Kept.mk hr
  rw [← hr] at hlen hcap KB KP
  clear hE hb1 hp hb he hr
  unfold effV at Kx KE KB KP
  go_enter Try.func37, Try.ntmps37
  go_upto_region 1 with (fail)
  have Kxg := Kept.mk (Nat.le_refl w.heap.size)
  generalize hxg : w.heap.size = xg at Kx Kxg Kw ⊢
  have Kxw := Kept.mk hxg
  clear Kxg
  generalize w.alloc (.cells #[.int .i64 e.k, .string (strOf e.p), .string (strOf e.t)] 79) = w1 at *
  clear hxg
  have c2 := KB.out.cell 2
  simp only [dkV, List.getElem?_cons_zero, List.getElem?_cons_succ] at c2
  have KC := Kept.mk (clone_any w1 bs _ KP.out.fs)
  go_wp2_with fail
  refine KC.out.mono ?_
  rintro e1 w2 ⟨rfl, hf2, hE2, hs2⟩
  have Kn1 := Kept.mk (show xg < w1.heap.size from Kx.out.lt)
  have Kx2 := Kept.mk (Kx.out.ext hE2)
  have KB2 := Kept.mk (KB.out.ext hE2)
  have KP2 := Kept.mk (KP.out.touch (Touch.of_ext (S := []) hE2) (by simp) (by simp) (by simp))
  have KE2 := Kept.mk (KE.out.trans hE2)
  have x0 := Kx2.out.cell 0
  have x1 := Kx2.out.cell 1
  have x2 := Kx2.out.cell 2
  simp only [List.getElem?_cons_zero, List.getElem?_cons_succ] at x0 x1 x2
  have KDo := Kept.mk (do_any w2 w1.heap.size _ e Ke.out.2.2 hf2)
  generalize hnb : w1.heap.size = nb at *
  have Knb := Kept.mk (show (∀ j ∈ D, j ≠ nb) ∧ xg < nb ∧ nb < w2.heap.size from ⟨fun j hj => by have := (Kw.out j hj).2; have := Kn1.out; omega, Kn1.out, by omega⟩)
  clear hf2 hE2 hs2 KC c2 hnb KB Kx KE KP Kn1
  go_wp2_with fail
  refine KDo.out.mono ?_
  rintro e1 w3 ⟨rfl, hf3, hT3⟩
  have KE3 := Kept.mk (show Ext w w3 from Touch.below KE2.out hT3 (fun j hj => by rw [List.mem_singleton] at hj; have := Knb.out.2.1; have := Kxw.out; omega) KE2.out.size)
  have Kx3 := Kept.mk (Kx2.out.touch hT3 (by have := Knb.out.2.1; simp; omega))
  have KB3 := Kept.mk (KB2.out.touch hT3 (by simpa using Knb.out.1 g Kg.out))
  have KP3 := Kept.mk (KP2.out.touch hT3 (by simpa using Knb.out.1 _ KP2.out.dl) (by simpa using Knb.out.1 _ KP2.out.ds) (fun j hj => by simpa using Knb.out.1 j (KP2.out.dv j hj)))
  have Kf3 := Kept.mk hf3
  have Knb3 := Kept.mk (show nb < w3.heap.size from Nat.lt_of_lt_of_le Knb.out.2.2 hT3.size)
  clear hf3 hT3 KDo x0 x1 x2 Kx2 KB2 KP2 KE2
  have x0 := Kx3.out.cell 0
  have x1 := Kx3.out.cell 1
  have x2 := Kx3.out.cell 2
  have c0 := KB3.out.cell 0
  simp only [dkV, List.getElem?_cons_zero, List.getElem?_cons_succ] at x0 x1 x2 c0
  have Kfull : Kept (fullP d e = decide (e.k ≠ 2 ∧ (4096 < (doneP (seenP d) e).length ∨ d.room < (takenP (doneP (seenP d) e) : Int)))) := Kept.mk rfl
  have KN7 : Kept (∀ W, Ext w W → fullP d e = true → NumE w B D g (waitP d e) (.returned (.int .i64 7)) W) := Kept.mk (fun W hW hf => by
    unfold waitP
    rw [if_pos hf]
    exact ⟨rfl, After.same KOld.out hW⟩)
  have Ktk := Kept.mk (fun W (hW : Ext w3 W) => taken_any W nb _ (n + 1) (Kf3.out.ext hW) Ksb.out hn)
  have Kln := Kept.mk (fun W (hW : Ext w3 W) (ty : TypeId) => (Kf3.out.ext hW).len ty)
  have hln : (doneP (seenP d) e).length ≤ 1048576 := Nat.le_trans Ksb.out.len hn
  have htk : takenP (doneP (seenP d) e) ≤ 4503599627370496 := Nat.le_trans Ksb.out.taken (by omega)
  generalize hq1 : (doneP (seenP d) e).length = qn at Kfull hln Kln
  generalize hq2 : takenP (doneP (seenP d) e) = qt at Kfull htk Ktk
  clear hq1 hq2
  by_cases hk2 : e.k = 2
  · have hk2b : (e.k != 2) = false := by simp [hk2]
    have KF := Kept.mk (show fullP d e = false from by rw [Kfull.out]; simp [hk2])
    clear hk2 Kfull KN7
    generalize hke : e.k = ek at x0 hk2b ⊢
    clear hke
    go_wp2_with fail
    refine wp_region_calm Ext 17 ([] :: [(14, 0)] :: [(15, 1)] :: [(16, 2)] :: [(17, 3)] :: [(18, 4), (17, 3)] :: [(19, 5), (17, 3)] :: [(20, 6), (17, 3)] :: [(21, 7)] :: [(22, 8), (21, 7)] :: [(21, 7)] :: [(24, 10), (21, 7)] :: [(25, 11), (21, 7)] :: [(26, 12), (21, 7)] :: [(23, 9), (27, 13), (21, 7)] :: [(21, 7), (28, 14), (17, 3)] :: [(17, 3), (29, 15)] :: [])
      ((14, 0) :: (15, 1) :: (16, 2) :: (17, 3) :: (18, 4) :: (19, 5) :: (20, 6) :: (21, 7) :: (22, 8) :: (23, 9) :: (24, 10) :: (25, 11) :: (26, 12) :: (27, 13) :: (28, 14) :: (29, 15) :: (30, 16) :: [])
      (EqV ?ace0 :: EqV ?ace1 :: EqV ?ace2 :: EqV ?ace3 :: EqV ?ace4 :: EqV ?ace5 :: EqV ?ace6 :: EqV ?ace7 :: EqV ?ace8 :: EqV ?ace9 :: EqV ?ace10 :: EqV ?ace11 :: EqV ?ace12 :: EqV ?ace13 :: EqV ?ace14 :: EqV ?ace15 :: EqV ?ace16 :: []) hm (by kernel_rfl) Ext.refl (fun _ _ _ => Ext.trans) Ext.drew
      (MonoL.at (MonoL.eq _ (MonoL.eq _ (MonoL.eq _ (MonoL.eq _ (MonoL.eq _ (MonoL.eq _ (MonoL.eq _ (MonoL.eq _ (MonoL.eq _ (MonoL.eq _ (MonoL.eq _ (MonoL.eq _ (MonoL.eq _ (MonoL.eq _ (MonoL.eq _ (MonoL.eq _ (MonoL.eq _ (MonoL.nil))))))))))))))))))) ?acalmOps ?acalmDone
    case acalmOps =>
      intro vs
      refine (CalmOps.cons ?_ (CalmOps.cons ?_ (CalmOps.cons ?_ (CalmOps.cons ?_ (CalmOps.cons ?_ (CalmOps.cons ?_ (CalmOps.cons ?_ (CalmOps.cons ?_ (CalmOps.cons ?_ (CalmOps.cons ?_ (CalmOps.cons ?_ (CalmOps.cons ?_ (CalmOps.cons ?_ (CalmOps.cons ?_ (CalmOps.cons ?_ (CalmOps.cons ?_ (CalmOps.cons ?_ trivial)))))))))))))))))
      · intro w6 hR hL; simp [Look, VAt, EqV] at hL; simp [Guarded, setAll, bare, hL]; go_wp2_with fail; exact CalmPost.mk (by first | (simp; done) | (simp; rfl) | rfl) rfl (Ext.refl _)
      · intro w6 hR hL; simp [Look, VAt, EqV] at hL; have q0 := hR.cell x0; simp [Guarded, setAll, bare, hL]; go_wp2_with fail; exact CalmPost.mk (by first | (simp; done) | (simp; rfl) | rfl) rfl (Ext.refl _)
      · intro w6 hR hL; simp [Look, VAt, EqV] at hL; simp [Guarded, setAll, bare, hL]; go_wp2_with fail; exact CalmPost.mk (by first | (simp; done) | (simp; rfl) | rfl) rfl (Ext.refl _)
      · intro w6 hR hL; simp [Look, VAt, EqV] at hL; simp [Guarded, setAll, bare, hL]; go_wp2_with fail; exact CalmPost.mk (by first | (simp; done) | (simp; rfl) | rfl) rfl (Ext.refl _)
      · intro w6 hR hL; simp [Look, VAt, EqV] at hL; first | (simp [Guarded, setAll, bare, hL, VAt, EqV, undef_no]; done) | (simp [Guarded, setAll, bare, hL, VAt, EqV, undef_no]; rfl)
      · intro w6 hR hL; simp [Look, VAt, EqV] at hL; first | (simp [Guarded, setAll, bare, hL, VAt, EqV, undef_no]; done) | (simp [Guarded, setAll, bare, hL, VAt, EqV, undef_no]; rfl)
      · intro w6 hR hL; simp [Look, VAt, EqV] at hL; first | (simp [Guarded, setAll, bare, hL, VAt, EqV, undef_no]; done) | (simp [Guarded, setAll, bare, hL, VAt, EqV, undef_no]; rfl)
      · intro w6 hR hL; simp [Look, VAt, EqV] at hL; first | (simp [Guarded, setAll, bare, hL, VAt, EqV, undef_no]; done) | (simp [Guarded, setAll, bare, hL, VAt, EqV, undef_no]; rfl)
      · intro w6 hR hL; simp [Look, VAt, EqV] at hL; first | (simp [Guarded, setAll, bare, hL, VAt, EqV, undef_no]; done) | (simp [Guarded, setAll, bare, hL, VAt, EqV, undef_no]; rfl)
      · intro w6 hR hL; simp [Look, VAt, EqV] at hL; first | (simp [Guarded, setAll, bare, hL, VAt, EqV, undef_no]; done) | (simp [Guarded, setAll, bare, hL, VAt, EqV, undef_no]; rfl)
      · intro w6 hR hL; simp [Look, VAt, EqV] at hL; first | (simp [Guarded, setAll, bare, hL, VAt, EqV, undef_no]; done) | (simp [Guarded, setAll, bare, hL, VAt, EqV, undef_no]; rfl)
      · intro w6 hR hL; simp [Look, VAt, EqV] at hL; first | (simp [Guarded, setAll, bare, hL, VAt, EqV, undef_no]; done) | (simp [Guarded, setAll, bare, hL, VAt, EqV, undef_no]; rfl)
      · intro w6 hR hL; simp [Look, VAt, EqV] at hL; first | (simp [Guarded, setAll, bare, hL, VAt, EqV, undef_no]; done) | (simp [Guarded, setAll, bare, hL, VAt, EqV, undef_no]; rfl)
      · intro w6 hR hL; simp [Look, VAt, EqV] at hL; first | (simp [Guarded, setAll, bare, hL, VAt, EqV, undef_no]; done) | (simp [Guarded, setAll, bare, hL, VAt, EqV, undef_no]; rfl)
      · intro w6 hR hL; simp [Look, VAt, EqV] at hL; first | (simp [Guarded, setAll, bare, hL, VAt, EqV, undef_no]; done) | (simp [Guarded, setAll, bare, hL, VAt, EqV, undef_no]; rfl)
      · intro w6 hR hL; simp [Look, VAt, EqV] at hL; first | (simp [Guarded, setAll, bare, hL, VAt, EqV, undef_no]; done) | (simp [Guarded, setAll, bare, hL, VAt, EqV, undef_no]; rfl)
      · intro w6 hR hL; simp [Look, VAt, EqV] at hL; simp [Guarded, setAll, bare, hL]; go_wp2_with fail; exact CalmPost.mk (by first | (simp; done) | (simp; rfl) | rfl) rfl (Ext.refl _)
    case acalmDone =>
      intro vs w6 hR hL
      simp [Look, VAt, EqV] at hL
      obtain ⟨L0, L1, L2, L3, L4, L5, L6, L7, L8, L9, L10, L11, L12, L13, L14, L15, L16⟩ := hL
      simp [setAll, L0, L1, L2, L3, L4, L5, L6, L7, L8, L9, L10, L11, L12, L13, L14, L15, L16]
      have KR6 := Kept.mk hR
      clear hR
      clear L0 L1 L2 L3 L4 L5 L6 L7 L8 L9 L10 L11 L12 L13 L14 L15 L16
      have hq := KR6.out
      have KE6 := Kept.mk (KE3.out.trans hq)
      have Kx6 := Kept.mk (Kx3.out.ext hq)
      have KB6 := Kept.mk (KB3.out.ext hq)
      have KP6 := Kept.mk (KP3.out.touch (Touch.of_ext (S := []) hq) (by simp) (by simp) (by simp))
      have Kf6 := Kept.mk (Kf3.out.ext hq)
      have Knb6 := Kept.mk (show nb < w6.heap.size from Nat.lt_of_lt_of_le Knb3.out hq.size)
      clear x0 x1 x2 c0 hq KR6 Ktk Kln hk2b
      have c2 := KB6.out.cell 2
      have f2 := KB6.out.free 2
      simp only [dkV, List.getElem?_cons_zero, List.getElem?_cons_succ] at c2
      go_upto_region 6 with (fail)
      have hT7 := Touch.set w6 ⟨g, 2, none⟩ (.map (some nb))
      have Kne := Kept.mk (show nb ≠ g ∧ xg ≠ g from ⟨fun e => Knb.out.1 g Kg.out e.symm, fun e => by have := (Kw.out g Kg.out).2; omega⟩)
      have KB7 := Kept.mk (show Blk (w6.setCell ⟨g, 2, none⟩ (.map (some nb))) g 73 (dkV d bl nb (.slice A r c)) from KB6.out.set 2 (.map (some nb)))
      have Kx7 := Kept.mk (Kx6.out.touch hT7 (by simpa using Kne.out.2))
      have KP7 := Kept.mk (KP6.out.blk KB6.out.z hT7)
      have Kf7 := Kept.mk (Kf6.out.touch hT7 (by simpa using Kne.out.1))
      have KT7 := Kept.mk (show Touch D w (w6.setCell ⟨g, 2, none⟩ (.map (some nb))) from (Touch.of_ext (S := D) KE6.out).trans hT7 (fun j hj => by rw [List.mem_singleton] at hj; subst hj; exact .inl Kg.out))
      have Ks7 := Kept.mk (show nb < (w6.setCell ⟨g, 2, none⟩ (.map (some nb))).heap.size from Nat.lt_of_lt_of_le Knb6.out hT7.size)
      clear hT7 c2 f2 KB6 Kx6 KP6 Kf6 Knb6 KE6
      generalize w6.setCell ⟨g, 2, none⟩ (.map (some nb)) = w7 at *
      have x0 := Kx7.out.cell 0
      have x1 := Kx7.out.cell 1
      have x2 := Kx7.out.cell 2
      have c3 := KB7.out.cell 3
      simp only [dkV, List.getElem?_cons_zero, List.getElem?_cons_succ] at x0 x1 x2 c3
      have Krd := Kept.mk (show Rd 3 w7 (.slice A r c) (d.rows.map effV) from KP7.out.wb.rd)
      have KlR := Kept.mk (show (d.rows.map effV).length = r from by rw [List.length_map, KR.out])
      refine wp_region_calm Ext 11 ([] :: [] :: [(36, 1)] :: [(37, 2)] :: [(38, 3)] :: [(39, 4)] :: [] :: [(41, 6)] :: [(40, 5), (42, 7)] :: [(35, 0)] :: [(44, 9)] :: [])
        ((35, 0) :: (36, 1) :: (37, 2) :: (38, 3) :: (39, 4) :: (40, 5) :: (41, 6) :: (42, 7) :: (43, 8) :: (44, 9) :: (45, 10) :: [])
        (EqV ?a6ce0 :: EqV ?a6ce1 :: EqV ?a6ce2 :: EqV ?a6ce3 :: EqV ?a6ce4 :: EqV ?a6ce5 :: EqV ?a6ce6 :: (fun W u => BufS 3 W w7.heap.size 79 u [effV e]) :: (fun W u => BufS 3 W w7.heap.size 79 u (d.rows.map effV ++ [effV e])) :: EqV ?a6ce9 :: EqV ?a6ce10 :: []) hm (by kernel_rfl) Ext.refl (fun _ _ _ => Ext.trans) Ext.drew
        (MonoL.at (MonoL.eq _ (MonoL.eq _ (MonoL.eq _ (MonoL.eq _ (MonoL.eq _ (MonoL.eq _ (MonoL.eq _ (MonoL.cons (fun W W' u hR h => h.ext hR) (MonoL.cons (fun W W' u hR h => h.ext hR) (MonoL.eq _ (MonoL.eq _ (MonoL.nil))))))))))))) ?a6calmOps ?a6calmDone
      case a6calmOps =>
        intro vs
        refine (CalmOps.cons ?_ (CalmOps.cons ?_ (CalmOps.cons ?_ (CalmOps.cons ?_ (CalmOps.cons ?_ (CalmOps.cons ?_ (CalmOps.cons ?_ (CalmOps.cons ?_ (CalmOps.cons ?_ (CalmOps.cons ?_ (CalmOps.cons ?_ trivial)))))))))))
        · intro w6 hR hL; simp [Look, VAt, EqV] at hL; simp [Guarded, setAll, bare, hL]; go_wp2_with fail; exact CalmPost.mk (by first | (simp; done) | (simp; rfl) | rfl) rfl (Ext.refl _)
        · intro w6 hR hL; simp [Look, VAt, EqV] at hL; simp [Guarded, setAll, bare, hL]; go_wp2_with fail; exact CalmPost.mk (by first | (simp; done) | (simp; rfl) | rfl) rfl (Ext.refl _)
        · intro w6 hR hL; simp [Look, VAt, EqV] at hL; simp [Guarded, setAll, bare, hL]; go_wp2_with fail; exact CalmPost.mk (by first | (simp; done) | (simp; rfl) | rfl) rfl (Ext.refl _)
        · intro w6 hR hL; simp [Look, VAt, EqV] at hL; simp [Guarded, setAll, bare, hL]; go_wp2_with fail; exact CalmPost.mk (by first | (simp; done) | (simp; rfl) | rfl) rfl (Ext.refl _)
        · intro w6 hR hL; simp [Look, VAt, EqV] at hL; have q0 := hR.cell c3; simp [Guarded, setAll, bare, hL]; go_wp2_with fail; exact CalmPost.mk (by first | (simp; done) | (simp; rfl) | rfl) rfl (Ext.refl _)
        · intro w6 hR hL; simp [Look, VAt, EqV] at hL; have KC := Kept.mk (clip_any A r c hcap hcap2 w6); simp [Guarded, setAll, bare, hL]; go_wp2_with fail; refine KC.out.mono ?_; rintro ee ww ⟨rfl, rfl⟩; go_wp2_with fail; exact CalmPost.mk (by first | (simp; done) | (simp; rfl) | rfl) rfl (Ext.refl _)
        · intro w6 hR hL; simp [Look, VAt, EqV] at hL; have q0 := hR.cell x0; have q1 := hR.cell x1; have q2 := hR.cell x2; simp [Guarded, setAll, bare, hL]; go_wp2_with fail; exact CalmPost.mk (by first | (simp; done) | (simp; rfl) | rfl) rfl (Ext.refl _)
        · intro w6 hR hL; simp [Look, VAt, EqV] at hL; simp [Guarded, setAll, bare, hL]; go_wp2_with fail; exact CalmPost.mk (by first | (simp; done) | (simp; rfl) | rfl) (BufS.lit 3 w6 79 w7.heap.size hR.size [effV e] (by simp [effV]) (by simp [maxLen])) (Ext.alloc _ _)
        · intro w6 hR hL; simp [Look, VAt, EqV] at hL; obtain ⟨h5, h7⟩ := hL; obtain ⟨qA, qc, hq⟩ := h7.form; rw [hq] at h7; have Ksr := Kept.mk (BufS.src (P := Try.prog) _ h7 (by decide) Try.underlying71 (by simp [effV, Value.oneCell'])); have Krf := Kept.mk ((Krd.out.ext hR).clip); have Ksz := Kept.mk hR.size; clear h7; simp [Guarded, setAll, bare, h5, hq]; clear h5 hq; go_wp2_with (refine wpList_append_fullS (P := Try.prog) w6 rfl (.tmp 40) (.tmp 42) 71 71 rfl 3 (by decide) 79 iF _ Try.underlying71 hiF hzF hsF (by rfl) A r (d.rows.map effV) rfl Krf.out _ 1 (by decide) [effV e] (by simp [effV]) rfl Ksr.out (by rw [KlR.out]; simp only [maxLen]; omega) (by rw [KlR.out, hbF]; omega) ?_); intro v1 w9 hV1 hE1; have KV1 := Kept.mk (hV1.lower Ksz.out); clear hV1; go_wp2_with fail; exact CalmPost.mk (by first | (simp; done) | (simp; rfl) | rfl) KV1.out hE1
        · intro w6 hR hL; simp [Look, VAt, EqV] at hL; simp [Guarded, setAll, bare, hL]; go_wp2_with fail; exact CalmPost.mk (by first | (simp; done) | (simp; rfl) | rfl) rfl (Ext.refl _)
        · intro w6 hR hL; simp [Look, VAt, EqV] at hL; simp [Guarded, setAll, bare, hL]; go_wp2_with fail; exact CalmPost.mk (by first | (simp; done) | (simp; rfl) | rfl) rfl (Ext.refl _)
      case a6calmDone =>
        intro vs w8 hR hL
        simp [Look, VAt, EqV] at hL
        obtain ⟨L0, L1, L2, L3, L4, L5, L6, -, L8, L9, L10⟩ := hL
        obtain ⟨uA, un, uc, hu8⟩ := BufS.form3 L8
        rw [hu8] at L8
        have KU := Kept.mk L8
        have KR8 := Kept.mk hR
        simp [setAll, L0, L1, L2, L3, L4, L5, L6, hu8, L9, L10]
        clear L0 L1 L2 L3 L4 L5 L6 L8 L9 L10 hR hu8 x0 x1 x2 c3
        generalize hv7 : vs 7 = v7
        clear hv7
        have KB8 := Kept.mk (KB7.out.ext KR8.out)
        have c3 := KB8.out.cell 3
        have f3 := KB8.out.free 3
        simp only [dkV, List.getElem?_cons_zero, List.getElem?_cons_succ] at c3
        go_upto_region 7 with (fail)
        have hT9 := Touch.set w8 ⟨g, 3, none⟩ (.slice uA un uc)
        have KT9 := Kept.mk (show Touch D w (w8.setCell ⟨g, 3, none⟩ (.slice uA un uc)) from (KT7.out.trans (Touch.of_ext (S := []) KR8.out) (by simp)).trans hT9 (fun j hj => by rw [List.mem_singleton] at hj; subst hj; exact .inl Kg.out))
        have Kz9 := Kept.mk (show w7.heap.size ≤ (w8.setCell ⟨g, 3, none⟩ (.slice uA un uc)).heap.size from Nat.le_trans KR8.out.size hT9.size)
        have KD9 : Kept (∃ D', DkAt (w8.setCell ⟨g, 3, none⟩ (.slice uA un uc)) B D' g (addP d e) ∧ ∀ j ∈ D', j ∈ D ∨ w.heap.size ≤ j) := Kept.mk (by
          have hp8 := (KP7.out.touch (Touch.of_ext (S := []) KR8.out) (by simp) (by simp) (by simp)).blk KB8.out.z hT9
          have hu := KU.out
          have hu9 := other_type hu KB8.out.z (by decide) hT9
          refine ⟨nb :: (own (.slice uA un uc) ++ D), ⟨by simp [Kg.out], bl, nb, .slice uA un uc, KB8.out.set 3 (.slice uA un uc), ?_⟩, ?_⟩
          · refine ⟨hp8.fl, ?_, ?_, by simp [hp8.dl], by simp, fun j hj => by simp [hj], fun e => Knb.out.1 _ hp8.dl e, ?_⟩
            · rw [seen_add]; exact (Kf7.out.ext KR8.out).touch hT9 (by simpa using Kne.out.1)
            · rw [show (addP d e).rows.map effV = d.rows.map effV ++ [effV e] from by simp [addP]]
              exact hu9.lower (by have := (hp8.lo g Kg.out).1; have := KT7.out.size; have := (Kw.out g Kg.out).2; have := Kxw.out; omega)
            · intro j hj
              have hBw : B ≤ w.heap.size := by have := (Kw.out g Kg.out); have := Kxw.out; omega
              have hw7 := KT7.out.size
              simp only [List.mem_cons, List.mem_append] at hj
              rcases hj with rfl | hj | hj
              · have := Ks7.out
                have := Knb.out.2.1
                have := Kxw.out
                have := Kz9.out
                omega
              · have := hu9.owns j hj
                omega
              · exact hp8.lo j hj
          · intro j hj
            have hw7 := KT7.out.size
            simp only [List.mem_cons, List.mem_append] at hj
            rcases hj with rfl | hj | hj
            · have := Knb.out.2.1
              have := Kxw.out
              exact .inr (by omega)
            · have := hu9.owns j hj
              exact .inr (by omega)
            · exact .inl hj)
        clear hT9 c3 f3 KB8 KU KR8
        generalize w8.setCell ⟨g, 3, none⟩ (.slice uA un uc) = w9 at *
        obtain ⟨D9, hD9, hs9⟩ := KD9.out
        have KFs := Kept.mk (fails_any w9 B D9 g (addP d e) hD9 Kbw.out.cnt)
        have Ks9 := Kept.mk hs9
        clear hD9 hs9 KD9
        go_wp2_with fail
        refine KFs.out.mono ?_
        rintro e1 wa ⟨rfl, hA⟩
        have Kfb := Kept.mk (fails_b Kbw.out)
        have Kcf : Kept (waitP d e = if (failsP (addP d e)).1 then (8, failP (failsP (addP d e)).2) else (0, (failsP (addP d e)).2)) := Kept.mk (by
          unfold waitP
          rw [KF.out, call_fails]
          cases (failsP (addP d e)).1 <;> rfl)
        obtain ⟨Da, hDa, hTa, hsa⟩ := hA
        have KTa := Kept.mk (KT9.out.trans hTa (fun j hj => Ks9.out j hj))
        have Ksa := Kept.mk (show ∀ j ∈ Da, j ∈ D ∨ w.heap.size ≤ j from fun j hj => by
          rcases hsa j hj with h | h
          · exact Ks9.out j h
          · exact .inr (Nat.le_trans KT9.out.size h))
        have KDa := Kept.mk hDa
        clear hDa hTa hsa KFs
        generalize (failsP (addP d e)).2 = d2 at *
        generalize (failsP (addP d e)).1 = fb at *
        cases fb with
        | false =>
          go_wp2_with fail
          go_ret
          rw [Kcf.out]
          exact ⟨rfl, Da, KDa.out, KTa.out, Ksa.out⟩
        | true =>
          have KFl := Kept.mk (fail_any wa B Da g d2 (n + 1) KDa.out Kfb.out hn)
          go_wp2_with fail
          refine KFl.out.mono ?_
          rintro e1 wb ⟨rfl, hB⟩
          have KBb := Kept.mk (After.trans KTa.out Ksa.out hB)
          clear hB
          go_wp2_with fail
          go_ret
          rw [Kcf.out]
          exact ⟨rfl, KBb.out⟩
  · have hk2b : (e.k != 2) = true := by simpa using hk2
    by_cases hl : 4096 < qn
    · have hlI : (4096 : Int) < (qn : Int) := by omega
      have KF := Kept.mk (show fullP d e = true from by rw [Kfull.out]; simp [hk2, hl])
      clear hk2 Kfull
      generalize hke : e.k = ek at x0 hk2b ⊢
      clear hke
      go_wp2_with fail
      refine wp_region_calm Ext 17 ([] :: [(14, 0)] :: [(15, 1)] :: [(16, 2)] :: [(17, 3)] :: [(18, 4), (17, 3)] :: [(19, 5), (17, 3)] :: [(20, 6), (17, 3)] :: [(21, 7)] :: [(22, 8), (21, 7)] :: [(21, 7)] :: [(24, 10), (21, 7)] :: [(25, 11), (21, 7)] :: [(26, 12), (21, 7)] :: [(23, 9), (27, 13), (21, 7)] :: [(21, 7), (28, 14), (17, 3)] :: [(17, 3), (29, 15)] :: [])
        ((14, 0) :: (15, 1) :: (16, 2) :: (17, 3) :: (18, 4) :: (19, 5) :: (20, 6) :: (21, 7) :: (22, 8) :: (23, 9) :: (24, 10) :: (25, 11) :: (26, 12) :: (27, 13) :: (28, 14) :: (29, 15) :: (30, 16) :: [])
        (EqV ?bce0 :: EqV ?bce1 :: EqV ?bce2 :: EqV ?bce3 :: EqV ?bce4 :: EqV ?bce5 :: EqV (.bool true) :: EqV ?bce7 :: EqV ?bce8 :: EqV ?bce9 :: EqV ?bce10 :: EqV ?bce11 :: EqV ?bce12 :: EqV ?bce13 :: EqV ?bce14 :: EqV ?bce15 :: EqV ?bce16 :: []) hm (by kernel_rfl) Ext.refl (fun _ _ _ => Ext.trans) Ext.drew
        (MonoL.at (MonoL.eq _ (MonoL.eq _ (MonoL.eq _ (MonoL.eq _ (MonoL.eq _ (MonoL.eq _ (MonoL.eq _ (MonoL.eq _ (MonoL.eq _ (MonoL.eq _ (MonoL.eq _ (MonoL.eq _ (MonoL.eq _ (MonoL.eq _ (MonoL.eq _ (MonoL.eq _ (MonoL.eq _ (MonoL.nil))))))))))))))))))) ?bcalmOps ?bcalmDone
      case bcalmOps =>
        intro vs
        refine (CalmOps.cons ?_ (CalmOps.cons ?_ (CalmOps.cons ?_ (CalmOps.cons ?_ (CalmOps.cons ?_ (CalmOps.cons ?_ (CalmOps.cons ?_ (CalmOps.cons ?_ (CalmOps.cons ?_ (CalmOps.cons ?_ (CalmOps.cons ?_ (CalmOps.cons ?_ (CalmOps.cons ?_ (CalmOps.cons ?_ (CalmOps.cons ?_ (CalmOps.cons ?_ (CalmOps.cons ?_ trivial)))))))))))))))))
        · intro w6 hR hL; simp [Look, VAt, EqV] at hL; simp [Guarded, setAll, bare, hL]; go_wp2_with fail; exact CalmPost.mk (by first | (simp; done) | (simp; rfl) | rfl) rfl (Ext.refl _)
        · intro w6 hR hL; simp [Look, VAt, EqV] at hL; have q0 := hR.cell x0; simp [Guarded, setAll, bare, hL]; go_wp2_with fail; exact CalmPost.mk (by first | (simp; done) | (simp; rfl) | rfl) rfl (Ext.refl _)
        · intro w6 hR hL; simp [Look, VAt, EqV] at hL; simp [Guarded, setAll, bare, hL]; go_wp2_with fail; exact CalmPost.mk (by first | (simp; done) | (simp; rfl) | rfl) rfl (Ext.refl _)
        · intro w6 hR hL; simp [Look, VAt, EqV] at hL; simp [Guarded, setAll, bare, hL]; go_wp2_with fail; exact CalmPost.mk (by first | (simp; done) | (simp; rfl) | rfl) rfl (Ext.refl _)
        · intro w6 hR hL; simp [Look, VAt, EqV] at hL; simp [Guarded, setAll, bare, hL]; go_wp2_with fail; exact CalmPost.mk (by first | (simp; done) | (simp; rfl) | rfl) rfl (Ext.refl _)
        · intro w6 hR hL; simp [Look, VAt, EqV] at hL; have q := fun ty => Kln.out w6 hR ty; simp [Guarded, setAll, bare, hL]; go_wp2_with fail; exact CalmPost.mk (by first | (simp; done) | (simp; rfl) | rfl) rfl (Ext.refl _)
        · intro w6 hR hL; simp [Look, VAt, EqV] at hL; simp [Guarded, setAll, bare, hL]; go_wp2_with fail; exact CalmPost.mk (by first | (simp; done) | (simp; omega) | rfl) rfl (Ext.refl _)
        · intro w6 hR hL; simp [Look, VAt, EqV] at hL; simp [Guarded, setAll, bare, hL]; go_wp2_with fail; exact CalmPost.mk (by first | (simp; done) | (simp; rfl) | rfl) rfl (Ext.refl _)
        · intro w6 hR hL; simp [Look, VAt, EqV] at hL; first | (simp [Guarded, setAll, bare, hL, VAt, EqV, undef_no]; done) | (simp [Guarded, setAll, bare, hL, VAt, EqV, undef_no]; rfl)
        · intro w6 hR hL; simp [Look, VAt, EqV] at hL; first | (simp [Guarded, setAll, bare, hL, VAt, EqV, undef_no]; done) | (simp [Guarded, setAll, bare, hL, VAt, EqV, undef_no]; rfl)
        · intro w6 hR hL; simp [Look, VAt, EqV] at hL; first | (simp [Guarded, setAll, bare, hL, VAt, EqV, undef_no]; done) | (simp [Guarded, setAll, bare, hL, VAt, EqV, undef_no]; rfl)
        · intro w6 hR hL; simp [Look, VAt, EqV] at hL; first | (simp [Guarded, setAll, bare, hL, VAt, EqV, undef_no]; done) | (simp [Guarded, setAll, bare, hL, VAt, EqV, undef_no]; rfl)
        · intro w6 hR hL; simp [Look, VAt, EqV] at hL; first | (simp [Guarded, setAll, bare, hL, VAt, EqV, undef_no]; done) | (simp [Guarded, setAll, bare, hL, VAt, EqV, undef_no]; rfl)
        · intro w6 hR hL; simp [Look, VAt, EqV] at hL; first | (simp [Guarded, setAll, bare, hL, VAt, EqV, undef_no]; done) | (simp [Guarded, setAll, bare, hL, VAt, EqV, undef_no]; rfl)
        · intro w6 hR hL; simp [Look, VAt, EqV] at hL; first | (simp [Guarded, setAll, bare, hL, VAt, EqV, undef_no]; done) | (simp [Guarded, setAll, bare, hL, VAt, EqV, undef_no]; rfl)
        · intro w6 hR hL; simp [Look, VAt, EqV] at hL; simp [Guarded, setAll, bare, hL]; go_wp2_with fail; exact CalmPost.mk (by first | (simp; done) | (simp; rfl) | rfl) rfl (Ext.refl _)
        · intro w6 hR hL; simp [Look, VAt, EqV] at hL; simp [Guarded, setAll, bare, hL]; go_wp2_with fail; exact CalmPost.mk (by first | (simp; done) | (simp; rfl) | rfl) rfl (Ext.refl _)
      case bcalmDone =>
        intro vs w6 hR hL
        simp [Look, VAt, EqV] at hL
        obtain ⟨L0, L1, L2, L3, L4, L5, L6, L7, L8, L9, L10, L11, L12, L13, L14, L15, L16⟩ := hL
        simp [setAll, L0, L1, L2, L3, L4, L5, L6, L7, L8, L9, L10, L11, L12, L13, L14, L15, L16]
        have KR6 := Kept.mk hR
        clear hR
        clear L0 L1 L2 L3 L4 L5 L6 L7 L8 L9 L10 L11 L12 L13 L14 L15 L16
        go_wp2_with fail
        go_ret
        exact KN7.out w6 (KE3.out.trans KR6.out) KF.out
    · have hlI : ¬ (4096 : Int) < (qn : Int) := by omega
      by_cases ht : d.room < (qt : Int)
      · have KF := Kept.mk (show fullP d e = true from by rw [Kfull.out]; simp [hk2, ht])
        clear hk2 Kfull
        generalize hke : e.k = ek at x0 hk2b ⊢
        clear hke
        go_wp2_with fail
        refine wp_region_calm Ext 17 ([] :: [(14, 0)] :: [(15, 1)] :: [(16, 2)] :: [(17, 3)] :: [(18, 4), (17, 3)] :: [(19, 5), (17, 3)] :: [(20, 6), (17, 3)] :: [(21, 7)] :: [(22, 8), (21, 7)] :: [(21, 7)] :: [(24, 10), (21, 7)] :: [(25, 11), (21, 7)] :: [(26, 12), (21, 7)] :: [(23, 9), (27, 13), (21, 7)] :: [(21, 7), (28, 14), (17, 3)] :: [(17, 3), (29, 15)] :: [])
          ((14, 0) :: (15, 1) :: (16, 2) :: (17, 3) :: (18, 4) :: (19, 5) :: (20, 6) :: (21, 7) :: (22, 8) :: (23, 9) :: (24, 10) :: (25, 11) :: (26, 12) :: (27, 13) :: (28, 14) :: (29, 15) :: (30, 16) :: [])
          (EqV ?cce0 :: EqV ?cce1 :: EqV ?cce2 :: EqV ?cce3 :: EqV ?cce4 :: EqV ?cce5 :: EqV (.bool false) :: EqV ?cce7 :: EqV ?cce8 :: EqV ?cce9 :: EqV ?cce10 :: EqV ?cce11 :: EqV ?cce12 :: EqV ?cce13 :: EqV (.bool true) :: EqV ?cce15 :: EqV ?cce16 :: []) hm (by kernel_rfl) Ext.refl (fun _ _ _ => Ext.trans) Ext.drew
          (MonoL.at (MonoL.eq _ (MonoL.eq _ (MonoL.eq _ (MonoL.eq _ (MonoL.eq _ (MonoL.eq _ (MonoL.eq _ (MonoL.eq _ (MonoL.eq _ (MonoL.eq _ (MonoL.eq _ (MonoL.eq _ (MonoL.eq _ (MonoL.eq _ (MonoL.eq _ (MonoL.eq _ (MonoL.eq _ (MonoL.nil))))))))))))))))))) ?ccalmOps ?ccalmDone
        case ccalmOps =>
          intro vs
          refine (CalmOps.cons ?_ (CalmOps.cons ?_ (CalmOps.cons ?_ (CalmOps.cons ?_ (CalmOps.cons ?_ (CalmOps.cons ?_ (CalmOps.cons ?_ (CalmOps.cons ?_ (CalmOps.cons ?_ (CalmOps.cons ?_ (CalmOps.cons ?_ (CalmOps.cons ?_ (CalmOps.cons ?_ (CalmOps.cons ?_ (CalmOps.cons ?_ (CalmOps.cons ?_ (CalmOps.cons ?_ trivial)))))))))))))))))
          · intro w6 hR hL; simp [Look, VAt, EqV] at hL; simp [Guarded, setAll, bare, hL]; go_wp2_with fail; exact CalmPost.mk (by first | (simp; done) | (simp; rfl) | rfl) rfl (Ext.refl _)
          · intro w6 hR hL; simp [Look, VAt, EqV] at hL; have q0 := hR.cell x0; simp [Guarded, setAll, bare, hL]; go_wp2_with fail; exact CalmPost.mk (by first | (simp; done) | (simp; rfl) | rfl) rfl (Ext.refl _)
          · intro w6 hR hL; simp [Look, VAt, EqV] at hL; simp [Guarded, setAll, bare, hL]; go_wp2_with fail; exact CalmPost.mk (by first | (simp; done) | (simp; rfl) | rfl) rfl (Ext.refl _)
          · intro w6 hR hL; simp [Look, VAt, EqV] at hL; simp [Guarded, setAll, bare, hL]; go_wp2_with fail; exact CalmPost.mk (by first | (simp; done) | (simp; rfl) | rfl) rfl (Ext.refl _)
          · intro w6 hR hL; simp [Look, VAt, EqV] at hL; simp [Guarded, setAll, bare, hL]; go_wp2_with fail; exact CalmPost.mk (by first | (simp; done) | (simp; rfl) | rfl) rfl (Ext.refl _)
          · intro w6 hR hL; simp [Look, VAt, EqV] at hL; have q := fun ty => Kln.out w6 hR ty; simp [Guarded, setAll, bare, hL]; go_wp2_with fail; exact CalmPost.mk (by first | (simp; done) | (simp; rfl) | rfl) rfl (Ext.refl _)
          · intro w6 hR hL; simp [Look, VAt, EqV] at hL; simp [Guarded, setAll, bare, hL]; go_wp2_with fail; exact CalmPost.mk (by first | (simp; done) | (simp; omega) | rfl) rfl (Ext.refl _)
          · intro w6 hR hL; simp [Look, VAt, EqV] at hL; simp [Guarded, setAll, bare, hL]; go_wp2_with fail; exact CalmPost.mk (by first | (simp; done) | (simp; rfl) | rfl) rfl (Ext.refl _)
          · intro w6 hR hL; simp [Look, VAt, EqV] at hL; simp [Guarded, setAll, bare, hL]; go_wp2_with fail; exact CalmPost.mk (by first | (simp; done) | (simp; rfl) | rfl) rfl (Ext.refl _)
          · intro w6 hR hL; simp [Look, VAt, EqV] at hL; have KT := Kept.mk (Ktk.out w6 hR); simp [Guarded, setAll, bare, hL]; go_wp2_with fail; refine KT.out.mono ?_; rintro ee ww ⟨rfl, hE⟩; go_wp2_with fail; exact CalmPost.mk (by first | (simp; done) | (simp; rfl) | rfl) rfl hE
          · intro w6 hR hL; simp [Look, VAt, EqV] at hL; simp [Guarded, setAll, bare, hL]; go_wp2_with fail; exact CalmPost.mk (by first | (simp; done) | (simp; rfl) | rfl) rfl (Ext.refl _)
          · intro w6 hR hL; simp [Look, VAt, EqV] at hL; simp [Guarded, setAll, bare, hL]; go_wp2_with fail; exact CalmPost.mk (by first | (simp; done) | (simp; rfl) | rfl) rfl (Ext.refl _)
          · intro w6 hR hL; simp [Look, VAt, EqV] at hL; simp [Guarded, setAll, bare, hL]; go_wp2_with fail; exact CalmPost.mk (by first | (simp; done) | (simp; rfl) | rfl) rfl (Ext.refl _)
          · intro w6 hR hL; simp [Look, VAt, EqV] at hL; have q0 := hR.cell c0; simp [Guarded, setAll, bare, hL]; go_wp2_with fail; exact CalmPost.mk (by first | (simp; done) | (simp; rfl) | rfl) rfl (Ext.refl _)
          · intro w6 hR hL; simp [Look, VAt, EqV] at hL; simp [Guarded, setAll, bare, hL]; go_wp2_with fail; exact CalmPost.mk (by first | (simp; done) | (simp; omega) | rfl) rfl (Ext.refl _)
          · intro w6 hR hL; simp [Look, VAt, EqV] at hL; simp [Guarded, setAll, bare, hL]; go_wp2_with fail; exact CalmPost.mk (by first | (simp; done) | (simp; rfl) | rfl) rfl (Ext.refl _)
          · intro w6 hR hL; simp [Look, VAt, EqV] at hL; simp [Guarded, setAll, bare, hL]; go_wp2_with fail; exact CalmPost.mk (by first | (simp; done) | (simp; rfl) | rfl) rfl (Ext.refl _)
        case ccalmDone =>
          intro vs w6 hR hL
          simp [Look, VAt, EqV] at hL
          obtain ⟨L0, L1, L2, L3, L4, L5, L6, L7, L8, L9, L10, L11, L12, L13, L14, L15, L16⟩ := hL
          simp [setAll, L0, L1, L2, L3, L4, L5, L6, L7, L8, L9, L10, L11, L12, L13, L14, L15, L16]
          have KR6 := Kept.mk hR
          clear hR
          clear L0 L1 L2 L3 L4 L5 L6 L7 L8 L9 L10 L11 L12 L13 L14 L15 L16
          go_wp2_with fail
          go_ret
          exact KN7.out w6 (KE3.out.trans KR6.out) KF.out
      · have KF := Kept.mk (show fullP d e = false from by rw [Kfull.out]; simp [hk2, hl, ht])
        clear hk2 Kfull KN7
        generalize hke : e.k = ek at x0 hk2b ⊢
        clear hke
        go_wp2_with fail
        refine wp_region_calm Ext 17 ([] :: [(14, 0)] :: [(15, 1)] :: [(16, 2)] :: [(17, 3)] :: [(18, 4), (17, 3)] :: [(19, 5), (17, 3)] :: [(20, 6), (17, 3)] :: [(21, 7)] :: [(22, 8), (21, 7)] :: [(21, 7)] :: [(24, 10), (21, 7)] :: [(25, 11), (21, 7)] :: [(26, 12), (21, 7)] :: [(23, 9), (27, 13), (21, 7)] :: [(21, 7), (28, 14), (17, 3)] :: [(17, 3), (29, 15)] :: [])
          ((14, 0) :: (15, 1) :: (16, 2) :: (17, 3) :: (18, 4) :: (19, 5) :: (20, 6) :: (21, 7) :: (22, 8) :: (23, 9) :: (24, 10) :: (25, 11) :: (26, 12) :: (27, 13) :: (28, 14) :: (29, 15) :: (30, 16) :: [])
          (EqV ?ece0 :: EqV ?ece1 :: EqV ?ece2 :: EqV ?ece3 :: EqV ?ece4 :: EqV ?ece5 :: EqV (.bool false) :: EqV ?ece7 :: EqV ?ece8 :: EqV ?ece9 :: EqV ?ece10 :: EqV ?ece11 :: EqV ?ece12 :: EqV ?ece13 :: EqV (.bool false) :: EqV ?ece15 :: EqV ?ece16 :: []) hm (by kernel_rfl) Ext.refl (fun _ _ _ => Ext.trans) Ext.drew
          (MonoL.at (MonoL.eq _ (MonoL.eq _ (MonoL.eq _ (MonoL.eq _ (MonoL.eq _ (MonoL.eq _ (MonoL.eq _ (MonoL.eq _ (MonoL.eq _ (MonoL.eq _ (MonoL.eq _ (MonoL.eq _ (MonoL.eq _ (MonoL.eq _ (MonoL.eq _ (MonoL.eq _ (MonoL.eq _ (MonoL.nil))))))))))))))))))) ?ecalmOps ?ecalmDone
        case ecalmOps =>
          intro vs
          refine (CalmOps.cons ?_ (CalmOps.cons ?_ (CalmOps.cons ?_ (CalmOps.cons ?_ (CalmOps.cons ?_ (CalmOps.cons ?_ (CalmOps.cons ?_ (CalmOps.cons ?_ (CalmOps.cons ?_ (CalmOps.cons ?_ (CalmOps.cons ?_ (CalmOps.cons ?_ (CalmOps.cons ?_ (CalmOps.cons ?_ (CalmOps.cons ?_ (CalmOps.cons ?_ (CalmOps.cons ?_ trivial)))))))))))))))))
          · intro w6 hR hL; simp [Look, VAt, EqV] at hL; simp [Guarded, setAll, bare, hL]; go_wp2_with fail; exact CalmPost.mk (by first | (simp; done) | (simp; rfl) | rfl) rfl (Ext.refl _)
          · intro w6 hR hL; simp [Look, VAt, EqV] at hL; have q0 := hR.cell x0; simp [Guarded, setAll, bare, hL]; go_wp2_with fail; exact CalmPost.mk (by first | (simp; done) | (simp; rfl) | rfl) rfl (Ext.refl _)
          · intro w6 hR hL; simp [Look, VAt, EqV] at hL; simp [Guarded, setAll, bare, hL]; go_wp2_with fail; exact CalmPost.mk (by first | (simp; done) | (simp; rfl) | rfl) rfl (Ext.refl _)
          · intro w6 hR hL; simp [Look, VAt, EqV] at hL; simp [Guarded, setAll, bare, hL]; go_wp2_with fail; exact CalmPost.mk (by first | (simp; done) | (simp; rfl) | rfl) rfl (Ext.refl _)
          · intro w6 hR hL; simp [Look, VAt, EqV] at hL; simp [Guarded, setAll, bare, hL]; go_wp2_with fail; exact CalmPost.mk (by first | (simp; done) | (simp; rfl) | rfl) rfl (Ext.refl _)
          · intro w6 hR hL; simp [Look, VAt, EqV] at hL; have q := fun ty => Kln.out w6 hR ty; simp [Guarded, setAll, bare, hL]; go_wp2_with fail; exact CalmPost.mk (by first | (simp; done) | (simp; rfl) | rfl) rfl (Ext.refl _)
          · intro w6 hR hL; simp [Look, VAt, EqV] at hL; simp [Guarded, setAll, bare, hL]; go_wp2_with fail; exact CalmPost.mk (by first | (simp; done) | (simp; omega) | rfl) rfl (Ext.refl _)
          · intro w6 hR hL; simp [Look, VAt, EqV] at hL; simp [Guarded, setAll, bare, hL]; go_wp2_with fail; exact CalmPost.mk (by first | (simp; done) | (simp; rfl) | rfl) rfl (Ext.refl _)
          · intro w6 hR hL; simp [Look, VAt, EqV] at hL; simp [Guarded, setAll, bare, hL]; go_wp2_with fail; exact CalmPost.mk (by first | (simp; done) | (simp; rfl) | rfl) rfl (Ext.refl _)
          · intro w6 hR hL; simp [Look, VAt, EqV] at hL; have KT := Kept.mk (Ktk.out w6 hR); simp [Guarded, setAll, bare, hL]; go_wp2_with fail; refine KT.out.mono ?_; rintro ee ww ⟨rfl, hE⟩; go_wp2_with fail; exact CalmPost.mk (by first | (simp; done) | (simp; rfl) | rfl) rfl hE
          · intro w6 hR hL; simp [Look, VAt, EqV] at hL; simp [Guarded, setAll, bare, hL]; go_wp2_with fail; exact CalmPost.mk (by first | (simp; done) | (simp; rfl) | rfl) rfl (Ext.refl _)
          · intro w6 hR hL; simp [Look, VAt, EqV] at hL; simp [Guarded, setAll, bare, hL]; go_wp2_with fail; exact CalmPost.mk (by first | (simp; done) | (simp; rfl) | rfl) rfl (Ext.refl _)
          · intro w6 hR hL; simp [Look, VAt, EqV] at hL; simp [Guarded, setAll, bare, hL]; go_wp2_with fail; exact CalmPost.mk (by first | (simp; done) | (simp; rfl) | rfl) rfl (Ext.refl _)
          · intro w6 hR hL; simp [Look, VAt, EqV] at hL; have q0 := hR.cell c0; simp [Guarded, setAll, bare, hL]; go_wp2_with fail; exact CalmPost.mk (by first | (simp; done) | (simp; rfl) | rfl) rfl (Ext.refl _)
          · intro w6 hR hL; simp [Look, VAt, EqV] at hL; simp [Guarded, setAll, bare, hL]; go_wp2_with fail; exact CalmPost.mk (by first | (simp; done) | (simp; omega) | rfl) rfl (Ext.refl _)
          · intro w6 hR hL; simp [Look, VAt, EqV] at hL; simp [Guarded, setAll, bare, hL]; go_wp2_with fail; exact CalmPost.mk (by first | (simp; done) | (simp; rfl) | rfl) rfl (Ext.refl _)
          · intro w6 hR hL; simp [Look, VAt, EqV] at hL; simp [Guarded, setAll, bare, hL]; go_wp2_with fail; exact CalmPost.mk (by first | (simp; done) | (simp; rfl) | rfl) rfl (Ext.refl _)
        case ecalmDone =>
          intro vs w6 hR hL
          simp [Look, VAt, EqV] at hL
          obtain ⟨L0, L1, L2, L3, L4, L5, L6, L7, L8, L9, L10, L11, L12, L13, L14, L15, L16⟩ := hL
          simp [setAll, L0, L1, L2, L3, L4, L5, L6, L7, L8, L9, L10, L11, L12, L13, L14, L15, L16]
          have KR6 := Kept.mk hR
          clear hR
          clear L0 L1 L2 L3 L4 L5 L6 L7 L8 L9 L10 L11 L12 L13 L14 L15 L16
          have hq := KR6.out
          have KE6 := Kept.mk (KE3.out.trans hq)
          have Kx6 := Kept.mk (Kx3.out.ext hq)
          have KB6 := Kept.mk (KB3.out.ext hq)
          have KP6 := Kept.mk (KP3.out.touch (Touch.of_ext (S := []) hq) (by simp) (by simp) (by simp))
          have Kf6 := Kept.mk (Kf3.out.ext hq)
          have Knb6 := Kept.mk (show nb < w6.heap.size from Nat.lt_of_lt_of_le Knb3.out hq.size)
          clear x0 x1 x2 c0 hq KR6 Ktk Kln hk2b
          have c2 := KB6.out.cell 2
          have f2 := KB6.out.free 2
          simp only [dkV, List.getElem?_cons_zero, List.getElem?_cons_succ] at c2
          go_upto_region 6 with (fail)
          have hT7 := Touch.set w6 ⟨g, 2, none⟩ (.map (some nb))
          have Kne := Kept.mk (show nb ≠ g ∧ xg ≠ g from ⟨fun e => Knb.out.1 g Kg.out e.symm, fun e => by have := (Kw.out g Kg.out).2; omega⟩)
          have KB7 := Kept.mk (show Blk (w6.setCell ⟨g, 2, none⟩ (.map (some nb))) g 73 (dkV d bl nb (.slice A r c)) from KB6.out.set 2 (.map (some nb)))
          have Kx7 := Kept.mk (Kx6.out.touch hT7 (by simpa using Kne.out.2))
          have KP7 := Kept.mk (KP6.out.blk KB6.out.z hT7)
          have Kf7 := Kept.mk (Kf6.out.touch hT7 (by simpa using Kne.out.1))
          have KT7 := Kept.mk (show Touch D w (w6.setCell ⟨g, 2, none⟩ (.map (some nb))) from (Touch.of_ext (S := D) KE6.out).trans hT7 (fun j hj => by rw [List.mem_singleton] at hj; subst hj; exact .inl Kg.out))
          have Ks7 := Kept.mk (show nb < (w6.setCell ⟨g, 2, none⟩ (.map (some nb))).heap.size from Nat.lt_of_lt_of_le Knb6.out hT7.size)
          clear hT7 c2 f2 KB6 Kx6 KP6 Kf6 Knb6 KE6
          generalize w6.setCell ⟨g, 2, none⟩ (.map (some nb)) = w7 at *
          have x0 := Kx7.out.cell 0
          have x1 := Kx7.out.cell 1
          have x2 := Kx7.out.cell 2
          have c3 := KB7.out.cell 3
          simp only [dkV, List.getElem?_cons_zero, List.getElem?_cons_succ] at x0 x1 x2 c3
          have Krd := Kept.mk (show Rd 3 w7 (.slice A r c) (d.rows.map effV) from KP7.out.wb.rd)
          have KlR := Kept.mk (show (d.rows.map effV).length = r from by rw [List.length_map, KR.out])
          refine wp_region_calm Ext 11 ([] :: [] :: [(36, 1)] :: [(37, 2)] :: [(38, 3)] :: [(39, 4)] :: [] :: [(41, 6)] :: [(40, 5), (42, 7)] :: [(35, 0)] :: [(44, 9)] :: [])
            ((35, 0) :: (36, 1) :: (37, 2) :: (38, 3) :: (39, 4) :: (40, 5) :: (41, 6) :: (42, 7) :: (43, 8) :: (44, 9) :: (45, 10) :: [])
            (EqV ?e6ce0 :: EqV ?e6ce1 :: EqV ?e6ce2 :: EqV ?e6ce3 :: EqV ?e6ce4 :: EqV ?e6ce5 :: EqV ?e6ce6 :: (fun W u => BufS 3 W w7.heap.size 79 u [effV e]) :: (fun W u => BufS 3 W w7.heap.size 79 u (d.rows.map effV ++ [effV e])) :: EqV ?e6ce9 :: EqV ?e6ce10 :: []) hm (by kernel_rfl) Ext.refl (fun _ _ _ => Ext.trans) Ext.drew
            (MonoL.at (MonoL.eq _ (MonoL.eq _ (MonoL.eq _ (MonoL.eq _ (MonoL.eq _ (MonoL.eq _ (MonoL.eq _ (MonoL.cons (fun W W' u hR h => h.ext hR) (MonoL.cons (fun W W' u hR h => h.ext hR) (MonoL.eq _ (MonoL.eq _ (MonoL.nil))))))))))))) ?e6calmOps ?e6calmDone
          case e6calmOps =>
            intro vs
            refine (CalmOps.cons ?_ (CalmOps.cons ?_ (CalmOps.cons ?_ (CalmOps.cons ?_ (CalmOps.cons ?_ (CalmOps.cons ?_ (CalmOps.cons ?_ (CalmOps.cons ?_ (CalmOps.cons ?_ (CalmOps.cons ?_ (CalmOps.cons ?_ trivial)))))))))))
            · intro w6 hR hL; simp [Look, VAt, EqV] at hL; simp [Guarded, setAll, bare, hL]; go_wp2_with fail; exact CalmPost.mk (by first | (simp; done) | (simp; rfl) | rfl) rfl (Ext.refl _)
            · intro w6 hR hL; simp [Look, VAt, EqV] at hL; simp [Guarded, setAll, bare, hL]; go_wp2_with fail; exact CalmPost.mk (by first | (simp; done) | (simp; rfl) | rfl) rfl (Ext.refl _)
            · intro w6 hR hL; simp [Look, VAt, EqV] at hL; simp [Guarded, setAll, bare, hL]; go_wp2_with fail; exact CalmPost.mk (by first | (simp; done) | (simp; rfl) | rfl) rfl (Ext.refl _)
            · intro w6 hR hL; simp [Look, VAt, EqV] at hL; simp [Guarded, setAll, bare, hL]; go_wp2_with fail; exact CalmPost.mk (by first | (simp; done) | (simp; rfl) | rfl) rfl (Ext.refl _)
            · intro w6 hR hL; simp [Look, VAt, EqV] at hL; have q0 := hR.cell c3; simp [Guarded, setAll, bare, hL]; go_wp2_with fail; exact CalmPost.mk (by first | (simp; done) | (simp; rfl) | rfl) rfl (Ext.refl _)
            · intro w6 hR hL; simp [Look, VAt, EqV] at hL; have KC := Kept.mk (clip_any A r c hcap hcap2 w6); simp [Guarded, setAll, bare, hL]; go_wp2_with fail; refine KC.out.mono ?_; rintro ee ww ⟨rfl, rfl⟩; go_wp2_with fail; exact CalmPost.mk (by first | (simp; done) | (simp; rfl) | rfl) rfl (Ext.refl _)
            · intro w6 hR hL; simp [Look, VAt, EqV] at hL; have q0 := hR.cell x0; have q1 := hR.cell x1; have q2 := hR.cell x2; simp [Guarded, setAll, bare, hL]; go_wp2_with fail; exact CalmPost.mk (by first | (simp; done) | (simp; rfl) | rfl) rfl (Ext.refl _)
            · intro w6 hR hL; simp [Look, VAt, EqV] at hL; simp [Guarded, setAll, bare, hL]; go_wp2_with fail; exact CalmPost.mk (by first | (simp; done) | (simp; rfl) | rfl) (BufS.lit 3 w6 79 w7.heap.size hR.size [effV e] (by simp [effV]) (by simp [maxLen])) (Ext.alloc _ _)
            · intro w6 hR hL; simp [Look, VAt, EqV] at hL; obtain ⟨h5, h7⟩ := hL; obtain ⟨qA, qc, hq⟩ := h7.form; rw [hq] at h7; have Ksr := Kept.mk (BufS.src (P := Try.prog) _ h7 (by decide) Try.underlying71 (by simp [effV, Value.oneCell'])); have Krf := Kept.mk ((Krd.out.ext hR).clip); have Ksz := Kept.mk hR.size; clear h7; simp [Guarded, setAll, bare, h5, hq]; clear h5 hq; go_wp2_with (refine wpList_append_fullS (P := Try.prog) w6 rfl (.tmp 40) (.tmp 42) 71 71 rfl 3 (by decide) 79 iF _ Try.underlying71 hiF hzF hsF (by rfl) A r (d.rows.map effV) rfl Krf.out _ 1 (by decide) [effV e] (by simp [effV]) rfl Ksr.out (by rw [KlR.out]; simp only [maxLen]; omega) (by rw [KlR.out, hbF]; omega) ?_); intro v1 w9 hV1 hE1; have KV1 := Kept.mk (hV1.lower Ksz.out); clear hV1; go_wp2_with fail; exact CalmPost.mk (by first | (simp; done) | (simp; rfl) | rfl) KV1.out hE1
            · intro w6 hR hL; simp [Look, VAt, EqV] at hL; simp [Guarded, setAll, bare, hL]; go_wp2_with fail; exact CalmPost.mk (by first | (simp; done) | (simp; rfl) | rfl) rfl (Ext.refl _)
            · intro w6 hR hL; simp [Look, VAt, EqV] at hL; simp [Guarded, setAll, bare, hL]; go_wp2_with fail; exact CalmPost.mk (by first | (simp; done) | (simp; rfl) | rfl) rfl (Ext.refl _)
          case e6calmDone =>
            intro vs w8 hR hL
            simp [Look, VAt, EqV] at hL
            obtain ⟨L0, L1, L2, L3, L4, L5, L6, -, L8, L9, L10⟩ := hL
            obtain ⟨uA, un, uc, hu8⟩ := BufS.form3 L8
            rw [hu8] at L8
            have KU := Kept.mk L8
            have KR8 := Kept.mk hR
            simp [setAll, L0, L1, L2, L3, L4, L5, L6, hu8, L9, L10]
            clear L0 L1 L2 L3 L4 L5 L6 L8 L9 L10 hR hu8 x0 x1 x2 c3
            generalize hv7 : vs 7 = v7
            clear hv7
            have KB8 := Kept.mk (KB7.out.ext KR8.out)
            have c3 := KB8.out.cell 3
            have f3 := KB8.out.free 3
            simp only [dkV, List.getElem?_cons_zero, List.getElem?_cons_succ] at c3
            go_upto_region 7 with (fail)
            have hT9 := Touch.set w8 ⟨g, 3, none⟩ (.slice uA un uc)
            have KT9 := Kept.mk (show Touch D w (w8.setCell ⟨g, 3, none⟩ (.slice uA un uc)) from (KT7.out.trans (Touch.of_ext (S := []) KR8.out) (by simp)).trans hT9 (fun j hj => by rw [List.mem_singleton] at hj; subst hj; exact .inl Kg.out))
            have Kz9 := Kept.mk (show w7.heap.size ≤ (w8.setCell ⟨g, 3, none⟩ (.slice uA un uc)).heap.size from Nat.le_trans KR8.out.size hT9.size)
            have KD9 : Kept (∃ D', DkAt (w8.setCell ⟨g, 3, none⟩ (.slice uA un uc)) B D' g (addP d e) ∧ ∀ j ∈ D', j ∈ D ∨ w.heap.size ≤ j) := Kept.mk (by
              have hp8 := (KP7.out.touch (Touch.of_ext (S := []) KR8.out) (by simp) (by simp) (by simp)).blk KB8.out.z hT9
              have hu := KU.out
              have hu9 := other_type hu KB8.out.z (by decide) hT9
              refine ⟨nb :: (own (.slice uA un uc) ++ D), ⟨by simp [Kg.out], bl, nb, .slice uA un uc, KB8.out.set 3 (.slice uA un uc), ?_⟩, ?_⟩
              · refine ⟨hp8.fl, ?_, ?_, by simp [hp8.dl], by simp, fun j hj => by simp [hj], fun e => Knb.out.1 _ hp8.dl e, ?_⟩
                · rw [seen_add]; exact (Kf7.out.ext KR8.out).touch hT9 (by simpa using Kne.out.1)
                · rw [show (addP d e).rows.map effV = d.rows.map effV ++ [effV e] from by simp [addP]]
                  exact hu9.lower (by have := (hp8.lo g Kg.out).1; have := KT7.out.size; have := (Kw.out g Kg.out).2; have := Kxw.out; omega)
                · intro j hj
                  have hBw : B ≤ w.heap.size := by have := (Kw.out g Kg.out); have := Kxw.out; omega
                  have hw7 := KT7.out.size
                  simp only [List.mem_cons, List.mem_append] at hj
                  rcases hj with rfl | hj | hj
                  · have := Ks7.out
                    have := Knb.out.2.1
                    have := Kxw.out
                    have := Kz9.out
                    omega
                  · have := hu9.owns j hj
                    omega
                  · exact hp8.lo j hj
              · intro j hj
                have hw7 := KT7.out.size
                simp only [List.mem_cons, List.mem_append] at hj
                rcases hj with rfl | hj | hj
                · have := Knb.out.2.1
                  have := Kxw.out
                  exact .inr (by omega)
                · have := hu9.owns j hj
                  exact .inr (by omega)
                · exact .inl hj)
            clear hT9 c3 f3 KB8 KU KR8
            generalize w8.setCell ⟨g, 3, none⟩ (.slice uA un uc) = w9 at *
            obtain ⟨D9, hD9, hs9⟩ := KD9.out
            have KFs := Kept.mk (fails_any w9 B D9 g (addP d e) hD9 Kbw.out.cnt)
            have Ks9 := Kept.mk hs9
            clear hD9 hs9 KD9
            go_wp2_with fail
            refine KFs.out.mono ?_
            rintro e1 wa ⟨rfl, hA⟩
            have Kfb := Kept.mk (fails_b Kbw.out)
            have Kcf : Kept (waitP d e = if (failsP (addP d e)).1 then (8, failP (failsP (addP d e)).2) else (0, (failsP (addP d e)).2)) := Kept.mk (by
              unfold waitP
              rw [KF.out, call_fails]
              cases (failsP (addP d e)).1 <;> rfl)
            obtain ⟨Da, hDa, hTa, hsa⟩ := hA
            have KTa := Kept.mk (KT9.out.trans hTa (fun j hj => Ks9.out j hj))
            have Ksa := Kept.mk (show ∀ j ∈ Da, j ∈ D ∨ w.heap.size ≤ j from fun j hj => by
              rcases hsa j hj with h | h
              · exact Ks9.out j h
              · exact .inr (Nat.le_trans KT9.out.size h))
            have KDa := Kept.mk hDa
            clear hDa hTa hsa KFs
            generalize (failsP (addP d e)).2 = d2 at *
            generalize (failsP (addP d e)).1 = fb at *
            cases fb with
            | false =>
              go_wp2_with fail
              go_ret
              rw [Kcf.out]
              exact ⟨rfl, Da, KDa.out, KTa.out, Ksa.out⟩
            | true =>
              have KFl := Kept.mk (fail_any wa B Da g d2 (n + 1) KDa.out Kfb.out hn)
              go_wp2_with fail
              refine KFl.out.mono ?_
              rintro e1 wb ⟨rfl, hB⟩
              have KBb := Kept.mk (After.trans KTa.out Ksa.out hB)
              clear hB
              go_wp2_with fail
              go_ret
              rw [Kcf.out]
              exact ⟨rfl, KBb.out⟩
end Disk
end Go.Proofs.Ytjphmjegfpdbeaa
