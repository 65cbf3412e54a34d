/- The walks of slices.Clone at the two types, and of own. No condition. -/
import Derived.Test.YtdjkcolceccclaaEdgeC
import Derived.Lib.SliceRun
import Derived.Test.YtdjkcolceccclaaCalmSkip
namespace Go.Proofs.Ytdjkcolceccclaa
open Go.RowKit
namespace Edge
set_option linter.unusedSimpArgs false
set_option linter.unusedVariables false
theorem infoE : ∃ i : TypeInfo, Try.prog.info? 46 = some i ∧ i.zero = some (.agg #[.int .i64 0, .string ByteArray.empty, .string ByteArray.empty]) ∧ i.size = 3 ∧ i.bytes = 40 := by
  have h : (Try.prog.info? 46).map (fun i => (i.zero, i.size, i.bytes)) = some (some (.agg #[.int .i64 0, .string ByteArray.empty, .string ByteArray.empty]), 3, 40) := by kernel_rfl
  obtain ⟨i, hi, he⟩ := Option.map_eq_some_iff.1 h
  injection he with e1 e2
  injection e2 with e2 e3
  exact ⟨i, hi, e1, e2, e3⟩
set_option maxRecDepth 100000 in
set_option maxHeartbeats 1000000 in
theorem cloneE_any (v : Value) (css : List (List Value)) (hl : css.length ≤ 1000000) (w : World) (h : Rd 3 w v css) (h1 : ∀ u ∈ css.flatten, u.oneCell' = true) :
    Calls Try.prog 32 #[v] w fun e w' => ∃ u, e = .returned u ∧ BufS 3 w' w.heap.size 46 u css ∧ Ext w w' := by
  obtain ⟨i0, hi0, hz0, hs0, hb0⟩ := infoE
  obtain ⟨A, cap, rfl⟩ := h.form
  cases A with
  | none =>
    obtain rfl : css = [] := by
      obtain ⟨A', cap', he, h2, h3, h4, h5⟩ := h
      injection he with e1 e2 e3
      subst e1
      rcases h5 with h5 | ⟨b, off, e, _⟩
      · cases css with
        | nil => rfl
        | cons c r =>
          have := h4 c (by simp)
          rw [List.flatten_cons, List.append_eq_nil_iff] at h5
          rw [h5.1] at this
          simp at this
      · cases e
    have hq := fun W n c => Lib.run_eql_slice_nil (P := Try.prog) W 22 _ none n c 0 0 Try.underlying22
    go_enter Try.func32, Try.ntmps32
    go_wp2_with fail
    go_ret
    exact ⟨_, rfl, BufS.nil 3 _ _ _, Ext.refl _⟩
  | some a =>
    have hq := fun W n c => Lib.run_eql_slice_nil (P := Try.prog) W 22 _ (some a) n c 0 0 Try.underlying22
    have KS := Kept.mk (fun W (hE : Ext w W) => Rd.src (P := Try.prog) (h.ext hE) (by decide) Try.underlying22 h1)
    have KL := Kept.mk (by simpa using BufS.lit 3 w 46 w.heap.size (Nat.le_refl _) [] (by simp) (by simp [maxLen]) : BufS 3 (w.alloc (.cells #[] 46)) w.heap.size 46 (.slice (some ⟨w.heap.size, 0, none⟩) 0 0) [])
    have hcl : ∀ c ∈ css, c.length = 3 := by
      obtain ⟨A', cap', he, h2, h3, h4, h5⟩ := h
      exact h4
    have Kc := Kept.mk hcl
    clear h h1 hcl
    go_enter Try.func32, Try.ntmps32
    go_wp2_with (refine wpList_append_bufS (P := Try.prog) _ rfl (.tmp 5) (.tmp 6) 22 22 rfl 3 (by decide) 46 i0 _ Try.underlying22 hi0 hz0 hs0 rfl w.heap.size (.slice (some ⟨w.heap.size, 0, none⟩) 0 0) [] rfl KL.out (.slice (some a) css.length cap) css.length css Kc.out rfl (KS.out _ (Ext.alloc _ _)) (by simp) (by simp only [maxLen, List.length_nil]; omega) (by simp only [List.length_nil]; rw [hb0]; omega) ?_)
    intro v' w' hv' ht' ho'
    have KV := Kept.mk hv'
    have KE := Kept.mk (show Ext w w' from Touch.below (Ext.alloc _ _) ht' (fun j hj => by simp [own] at hj; omega) (by simp))
    obtain ⟨A', n', c', h'⟩ := BufS.form3 hv'
    subst h'
    clear hv' ht' ho'
    go_wp2_with fail
    go_ret
    exact ⟨_, rfl, KV.out, KE.out⟩
theorem infoS : ∃ i : TypeInfo, Try.prog.info? 9 = some i ∧ i.zero = some (.string ByteArray.empty) ∧ i.size = 1 ∧ i.bytes = 16 := by
  have h : (Try.prog.info? 9).map (fun i => (i.zero, i.size, i.bytes)) = some (some (.string ByteArray.empty), 1, 16) := by kernel_rfl
  obtain ⟨i, hi, he⟩ := Option.map_eq_some_iff.1 h
  injection he with e1 e2
  injection e2 with e2 e3
  exact ⟨i, hi, e1, e2, e3⟩
set_option maxRecDepth 100000 in
set_option maxHeartbeats 1000000 in
theorem cloneS_any (v : Value) (css : List (List Value)) (hl : css.length ≤ 1000000) (w : World) (h : Rd 1 w v css) (h1 : ∀ u ∈ css.flatten, u.oneCell' = true) :
    Calls Try.prog 33 #[v] w fun e w' => ∃ u, e = .returned u ∧ BufS 1 w' w.heap.size 9 u css ∧ Ext w w' := by
  obtain ⟨i0, hi0, hz0, hs0, hb0⟩ := infoS
  obtain ⟨A, cap, rfl⟩ := h.form
  cases A with
  | none =>
    obtain rfl : css = [] := by
      obtain ⟨A', cap', he, h2, h3, h4, h5⟩ := h
      injection he with e1 e2 e3
      subst e1
      rcases h5 with h5 | ⟨b, off, e, _⟩
      · cases css with
        | nil => rfl
        | cons c r =>
          have := h4 c (by simp)
          rw [List.flatten_cons, List.append_eq_nil_iff] at h5
          rw [h5.1] at this
          simp at this
      · cases e
    have hq := fun W n c => Lib.run_eql_slice_nil (P := Try.prog) W 23 _ none n c 0 0 Try.underlying23
    go_enter Try.func33, Try.ntmps33
    go_wp2_with fail
    go_ret
    exact ⟨_, rfl, BufS.nil 1 _ _ _, Ext.refl _⟩
  | some a =>
    have hq := fun W n c => Lib.run_eql_slice_nil (P := Try.prog) W 23 _ (some a) n c 0 0 Try.underlying23
    have KS := Kept.mk (fun W (hE : Ext w W) => Rd.src (P := Try.prog) (h.ext hE) (by decide) Try.underlying23 h1)
    have KL := Kept.mk (by simpa using BufS.lit 1 w 9 w.heap.size (Nat.le_refl _) [] (by simp) (by simp [maxLen]) : BufS 1 (w.alloc (.cells #[] 9)) w.heap.size 9 (.slice (some ⟨w.heap.size, 0, none⟩) 0 0) [])
    have hcl : ∀ c ∈ css, c.length = 1 := by
      obtain ⟨A', cap', he, h2, h3, h4, h5⟩ := h
      exact h4
    have Kc := Kept.mk hcl
    clear h h1 hcl
    go_enter Try.func33, Try.ntmps33
    go_wp2_with (refine wpList_append_bufS (P := Try.prog) _ rfl (.tmp 5) (.tmp 6) 23 23 rfl 1 (by decide) 9 i0 _ Try.underlying23 hi0 hz0 hs0 rfl w.heap.size (.slice (some ⟨w.heap.size, 0, none⟩) 0 0) [] rfl KL.out (.slice (some a) css.length cap) css.length css Kc.out rfl (KS.out _ (Ext.alloc _ _)) (by simp) (by simp only [maxLen, List.length_nil]; omega) (by simp only [List.length_nil]; rw [hb0]; omega) ?_)
    intro v' w' hv' ht' ho'
    have KV := Kept.mk hv'
    have KE := Kept.mk (show Ext w w' from Touch.below (Ext.alloc _ _) ht' (fun j hj => by simp [own] at hj; omega) (by simp))
    obtain ⟨A', n', c', h'⟩ := BufS.form3 hv'
    subst h'
    clear hv' ht' ho'
    go_wp2_with fail
    go_ret
    exact ⟨_, rfl, KV.out, KE.out⟩

/-- An object whose slices are the call's own. -/
structure ObOwn (w : World) (B : Nat) (o : Ob) (ev pv : Value) : Prop where
  e : BufS 3 w B 46 ev (o.ents.map entV)
  p : BufS 1 w B 9 pv (o.pars.map sV)
theorem ObOwn.ext {w w' : World} {B : Nat} {o : Ob} {ev pv : Value} (h : ObOwn w B o ev pv) (k : Ext w w') : ObOwn w' B o ev pv := ⟨h.e.ext k, h.p.ext k⟩
theorem ObOwn.in {w : World} {B : Nat} {o : Ob} {ev pv : Value} (h : ObOwn w B o ev pv) : ObIn w o ev pv := ⟨h.e.rd, h.p.rd⟩
def OwnE (w : World) (o : Ob) (e : Ending) (w' : World) : Prop := ∃ ev pv, e = .returned (.agg (obV o ev pv).toArray) ∧ ObOwn w' w.heap.size o ev pv ∧ Ext w w'
theorem infoOb : (Try.prog.info? 25).map (·.size) = some 10 := by kernel_rfl
theorem aggOb : (Try.prog.underlying 25).isSome = true := by kernel_rfl
theorem entV_one (l : List Ent) : ∀ u ∈ (l.map entV).flatten, u.oneCell' = true := by
  intro u hu
  obtain ⟨c, hc, hu⟩ := List.mem_flatten.1 hu
  obtain ⟨s, _, rfl⟩ := List.mem_map.1 hc
  simp only [entV, List.mem_cons, List.not_mem_nil, or_false] at hu
  rcases hu with rfl | rfl | rfl <;> rfl
set_option maxRecDepth 100000 in
set_option maxHeartbeats 4000000 in
theorem own_any (o : Ob) (ev pv : Value) (he : o.ents.length ≤ 2000) (hp : o.pars.length ≤ 2000) (w : World) (hin : ObIn w o ev pv) :
    Calls Try.prog 27 #[.agg (obV o ev pv).toArray] w (OwnE w o) := by
  have hm : Try.prog.follows .mixedOrders = true := by kernel_rfl
  have hb0 := Blk.new w 25 (obV o ev pv)
  have KI := Kept.mk (hin.ext (Ext.alloc w (.cells (obV o ev pv).toArray 25)))
  have KCE := Kept.mk (fun W (hI : ObIn W o ev pv) => cloneE_any ev _ (by rw [List.length_map]; omega) W hI.e (entV_one _))
  have KCS := Kept.mk (fun W (hI : ObIn W o ev pv) => cloneS_any pv _ (by rw [List.length_map]; omega) W hI.p (sV_one _))
  obtain ⟨eA, ec, hev⟩ := hin.e.form
  obtain ⟨pA, pc, hpv⟩ := hin.p.form
  rw [List.length_map] at hev hpv
  clear hin
  unfold obV at *
  subst hev hpv
  go_enter Try.func27, Try.ntmps27
  go_wp2_with fail
  have hr0 := Blk.new (w.alloc (.cells #[.int .i64 o.k, .string (strOf o.text), .slice eA o.ents.length ec, .string (strOf o.tree), .slice pA o.pars.length pc, .string (strOf o.targ), .int .i64 o.of, .string (strOf o.name), .string (strOf o.who), .int .i64 o.when] 25)) 25 [.int .i64 0, .string ⟨#[]⟩, .slice none 0 0, .string ⟨#[]⟩, .slice none 0 0, .string ⟨#[]⟩, .int .i64 0, .string ⟨#[]⟩, .string ⟨#[]⟩, .int .i64 0]
  have hE2 := Ext.alloc (w.alloc (.cells #[.int .i64 o.k, .string (strOf o.text), .slice eA o.ents.length ec, .string (strOf o.tree), .slice pA o.pars.length pc, .string (strOf o.targ), .int .i64 o.of, .string (strOf o.name), .string (strOf o.who), .int .i64 o.when] 25)) (.cells #[.int .i64 0, .string ⟨#[]⟩, .slice none 0 0, .string ⟨#[]⟩, .slice none 0 0, .string ⟨#[]⟩, .int .i64 0, .string ⟨#[]⟩, .string ⟨#[]⟩, .int .i64 0] 25)
  have Kb := Kept.mk (hb0.ext hE2)
  have KI1 := Kept.mk (KI.out.ext hE2)
  have KE1 := Kept.mk ((Ext.alloc w (.cells #[.int .i64 o.k, .string (strOf o.text), .slice eA o.ents.length ec, .string (strOf o.tree), .slice pA o.pars.length pc, .string (strOf o.targ), .int .i64 o.of, .string (strOf o.name), .string (strOf o.who), .int .i64 o.when] 25)).trans hE2)
  have hsz : (w.alloc (.cells #[.int .i64 o.k, .string (strOf o.text), .slice eA o.ents.length ec, .string (strOf o.tree), .slice pA o.pars.length pc, .string (strOf o.targ), .int .i64 o.of, .string (strOf o.name), .string (strOf o.who), .int .i64 o.when] 25)).heap.size = w.heap.size + 1 := by simp
  rw [hsz] at hr0
  have Kr := Kept.mk hr0
  generalize ((w.alloc (.cells #[.int .i64 o.k, .string (strOf o.text), .slice eA o.ents.length ec, .string (strOf o.tree), .slice pA o.pars.length pc, .string (strOf o.targ), .int .i64 o.of, .string (strOf o.name), .string (strOf o.who), .int .i64 o.when] 25)).alloc (.cells #[.int .i64 0, .string ⟨#[]⟩, .slice none 0 0, .string ⟨#[]⟩, .slice none 0 0, .string ⟨#[]⟩, .int .i64 0, .string ⟨#[]⟩, .string ⟨#[]⟩, .int .i64 0] 25)) = w1 at *
  clear hr0 hE2 hb0 KI hsz
  have d2 := Kb.out.cell 2
  have d4 := Kb.out.cell 4
  simp only [List.getElem?_cons_zero, List.getElem?_cons_succ] at d2 d4
  have hgl := Kb.out.lt
  have hrl := Kr.out.lt
  refine wp_region_calm Ext 7 ([] :: [(3, 0)] :: [(4, 1)] :: [] :: [(6, 3)] :: [(7, 4)] :: [] :: [])
    ((3, 0) :: (4, 1) :: (5, 2) :: (6, 3) :: (7, 4) :: (8, 5) :: (9, 6) :: [])
    (EqV ?sce0 :: EqV ?sce1 :: (fun W u => BufS 3 W w1.heap.size 46 u (o.ents.map entV)) :: EqV ?sce3 :: EqV ?sce4 :: (fun W u => BufS 1 W w1.heap.size 9 u (o.pars.map sV)) :: EqV ?sce6 :: []) hm (by kernel_rfl) Ext.refl (fun _ _ _ => Ext.trans) Ext.drew
    (MonoL.at (MonoL.eq _ (MonoL.eq _ (MonoL.cons (fun W W' u hR h => h.ext hR) (MonoL.eq _ (MonoL.eq _ (MonoL.cons (fun W W' u hR h => h.ext hR) (MonoL.eq _ (MonoL.nil))))))))) ?scalmOps ?scalmDone
  case scalmOps =>
    intro vs
    refine (CalmOps.cons ?_ (CalmOps.cons ?_ (CalmOps.cons ?_ (CalmOps.cons ?_ (CalmOps.cons ?_ (CalmOps.cons ?_ (CalmOps.cons ?_ trivial)))))))
    · intro w6 hR hL; simp [Look, VAt, EqV] at hL; have q0 := hR.cell d2; have q1 := hR.cell d4; simp [Guarded, setAll, bare, hL]; go_wp2_with fail; exact CalmPost.mk (by first | (simp; done) | (simp; rfl) | rfl) rfl (Ext.refl _)
    · intro w6 hR hL; simp [Look, VAt, EqV] at hL; have q0 := hR.cell d2; have q1 := hR.cell d4; simp [Guarded, setAll, bare, hL]; go_wp2_with fail; exact CalmPost.mk (by first | (simp; done) | (simp; rfl) | rfl) rfl (Ext.refl _)
    · intro w6 hR hL; simp [Look, VAt, EqV] at hL; simp [Guarded, setAll, bare, hL]; go_wp2_with fail; refine (KCE.out _ (KI1.out.ext hR)).mono ?_; rintro ee ww ⟨u, rfl, hB, hE⟩; have hB2 := hB.lower hR.size; obtain ⟨A9, n9, c9, h9⟩ := BufS.form3 hB2; subst h9; go_wp2_with fail; exact CalmPost.mk (by first | (simp; done) | (simp; rfl) | rfl) hB2 hE
    · intro w6 hR hL; simp [Look, VAt, EqV] at hL; have q0 := hR.cell d2; have q1 := hR.cell d4; simp [Guarded, setAll, bare, hL]; go_wp2_with fail; exact CalmPost.mk (by first | (simp; done) | (simp; rfl) | rfl) rfl (Ext.refl _)
    · intro w6 hR hL; simp [Look, VAt, EqV] at hL; have q0 := hR.cell d2; have q1 := hR.cell d4; simp [Guarded, setAll, bare, hL]; go_wp2_with fail; exact CalmPost.mk (by first | (simp; done) | (simp; rfl) | rfl) rfl (Ext.refl _)
    · intro w6 hR hL; simp [Look, VAt, EqV] at hL; simp [Guarded, setAll, bare, hL]; go_wp2_with fail; refine (KCS.out _ (KI1.out.ext hR)).mono ?_; rintro ee ww ⟨u, rfl, hB, hE⟩; have hB2 := hB.lower hR.size; obtain ⟨A9, n9, c9, h9⟩ := BufS.form3 hB2; subst h9; go_wp2_with fail; exact CalmPost.mk (by first | (simp; done) | (simp; rfl) | rfl) hB2 hE
    · intro w6 hR hL; simp [Look, VAt, EqV] at hL; have q0 := hR.cell d2; have q1 := hR.cell d4; simp [Guarded, setAll, bare, hL]; go_wp2_with fail; exact CalmPost.mk (by first | (simp; done) | (simp; rfl) | rfl) rfl (Ext.refl _)
  case scalmDone =>
    intro vs w6 hR hL
    simp [Look, VAt, EqV] at hL
    obtain ⟨L0, L1, L2, L3, L4, L5, L6⟩ := hL
    have KL2 := Kept.mk L2
    have KL5 := Kept.mk L5
    simp [setAll, L0, L1, L3, L4, L6]
    clear L0 L1 L2 L3 L4 L5 L6
    obtain ⟨A2, n2, c2, h2⟩ := BufS.form3 KL2.out
    obtain ⟨A5, n5, c5, h5⟩ := BufS.form3 KL5.out
    rw [h2] at KL2 ⊢
    rw [h5] at KL5 ⊢
    clear h2 h5
    have Kb6 := Kept.mk (Kb.out.ext hR)
    have Kr6 := Kept.mk (Kr.out.ext hR)
    have e2 := Kb6.out.cell 2
    have e4 := Kb6.out.cell 4
    have f2 := Kb6.out.free 2
    have f4 := Kb6.out.free 4
    simp only [List.getElem?_cons_zero, List.getElem?_cons_succ] at e2 e4
    have KE6 := Kept.mk (KE1.out.trans hR)
    have KE7 := Kept.mk (Touch.below KE6.out (Touch.set w6 ⟨w.heap.size, 2, none⟩ (.slice A2 n2 c2)) (fun j hj => by rw [List.mem_singleton] at hj; exact Nat.le_of_eq hj.symm) KE6.out.size)
    have KE8 := Kept.mk (Touch.below KE7.out (Touch.set _ ⟨w.heap.size, 4, none⟩ (.slice A5 n5 c5)) (fun j hj => by rw [List.mem_singleton] at hj; exact Nat.le_of_eq hj.symm) KE7.out.size)
    have Kb8 := Kept.mk ((Kb6.out.set 2 (.slice A2 n2 c2)).set 4 (.slice A5 n5 c5))
    have Kr8 := Kept.mk ((Kr6.out.set_other ⟨w.heap.size, 2, none⟩ (.slice A2 n2 c2) (by simp)).set_other ⟨w.heap.size, 4, none⟩ (.slice A5 n5 c5) (by simp))
    have hT : Touch [w.heap.size] w6 ((w6.setCell ⟨w.heap.size, 2, none⟩ (.slice A2 n2 c2)).setCell ⟨w.heap.size, 4, none⟩ (.slice A5 n5 c5)) := (Touch.set w6 ⟨w.heap.size, 2, none⟩ _).trans (Touch.set _ ⟨w.heap.size, 4, none⟩ _) (fun j hj => .inl hj)
    have hs1 : w1.heap.size ≤ w6.heap.size := hR.size
    have Kne := Kept.mk (show (∀ j ∈ own (.slice A2 n2 c2), j ≠ w.heap.size + 1) ∧ (∀ j ∈ own (.slice A5 n5 c5), j ≠ w.heap.size + 1) from ⟨fun j hj => by have := (KL2.out.owns _ hj).1; have := hrl; omega, fun j hj => by have := (KL5.out.owns _ hj).1; have := hrl; omega⟩)
    have KO8 := Kept.mk (show ObOwn ((w6.setCell ⟨w.heap.size, 2, none⟩ (.slice A2 n2 c2)).setCell ⟨w.heap.size, 4, none⟩ (.slice A5 n5 c5)) w.heap.size o (.slice A2 n2 c2) (.slice A5 n5 c5) from
      ⟨(KL2.out.touch hT (fun j hj hm => by rw [List.mem_singleton] at hm; subst hm; have := (KL2.out.owns _ hj).1; omega)).lower (by omega), (KL5.out.touch hT (fun j hj hm => by rw [List.mem_singleton] at hm; subst hm; have := (KL5.out.owns _ hj).1; omega)).lower (by omega)⟩)
    simp only [List.set_cons_succ, List.set_cons_zero] at Kb8
    clear hT hR KL2 KL5 Kb6 Kr6 KE6 KE7 d2 d4 Kb Kr hs1
    have Kfin := Kept.mk (show ∀ W, W = (((w6.setCell ⟨w.heap.size, 2, none⟩ (.slice A2 n2 c2)).setCell ⟨w.heap.size, 4, none⟩ (.slice A5 n5 c5)).setRow (w.heap.size + 1) (obV o (.slice A2 n2 c2) (.slice A5 n5 c5)).toArray) → ObOwn W w.heap.size o (.slice A2 n2 c2) (.slice A5 n5 c5) ∧ Ext w W ∧ Blk W (w.heap.size + 1) 25 (obV o (.slice A2 n2 c2) (.slice A5 n5 c5)) from fun W hW => by
      subst hW
      have hT := Touch.row ((w6.setCell ⟨w.heap.size, 2, none⟩ (.slice A2 n2 c2)).setCell ⟨w.heap.size, 4, none⟩ (.slice A5 n5 c5)) (w.heap.size + 1) (obV o (.slice A2 n2 c2) (.slice A5 n5 c5)).toArray
      refine ⟨⟨KO8.out.1.touch hT (fun j hj hm => ?_), KO8.out.2.touch hT (fun j hj hm => ?_)⟩, Touch.below KE8.out hT (fun j hj => by rw [List.mem_singleton] at hj; omega) KE8.out.size, Kr8.out.row _⟩
      · rw [List.mem_singleton] at hm; exact Kne.out.1 j hj hm
      · rw [List.mem_singleton] at hm; exact Kne.out.2 j hj hm)
    unfold obV at Kfin
    go_wp2_with (first | (refine wpList_load_blk (P := Try.prog) rfl 25 (.tmp 1) rfl w.heap.size rfl 25 _ Kb8.out _ Try.underlying25 rfl infoOb ?_) | (refine wpList_store_blk (P := Try.prog) rfl 25 (.tmp 2) (.tmp 11) rfl rfl (w.heap.size + 1) rfl 25 _ [.int .i64 o.k, .string (strOf o.text), .slice A2 n2 c2, .string (strOf o.tree), .slice A5 n5 c5, .string (strOf o.targ), .int .i64 o.of, .string (strOf o.name), .string (strOf o.who), .int .i64 o.when] rfl Kr8.out rfl infoOb rfl ?_))
    obtain ⟨F1, F2, F3⟩ := Kfin.out _ rfl
    exact bodyPost_ret (v := _) (results_blk rfl _ _ (w.heap.size + 1) 25 _ _ rfl F3 Try.underlying25 rfl infoOb) rfl ⟨_, _, rfl, F1, F2⟩
end Edge
end Go.Proofs.Ytdjkcolceccclaa
