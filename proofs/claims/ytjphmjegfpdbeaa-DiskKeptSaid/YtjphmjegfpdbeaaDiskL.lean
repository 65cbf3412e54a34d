/- A copy of the disk. No condition. -/
import Derived.Test.YtjphmjegfpdbeaaDiskBeside
import Derived.Test.YtjphmjegfpdbeaaBufReg
import Derived.Deep.RegionHeldLaw
import Derived.WalkSpells
namespace Go.Proofs.Ytjphmjegfpdbeaa
open Go.RowKit
namespace Disk
open Str
set_option linter.unusedSimpArgs false
set_option linter.unusedVariables false
theorem wpList_copyS {P : Program} (w : World) {ops : Array Oper} {rest : List Oper} {o : Oper} {a : Go.Act} {Q : Exit → Go.Act → World → Prop} (hgd : o.guard = none) (sl x : Operand) (t tx : TypeId)
    (ho : o.op = .call { callee := .builtin .append, args := #[sl, x], argTypes := #[t, tx] }) (s : Nat) (hs0 : 0 < s) (e : TypeId) (i : TypeInfo) (z : Value) (ht : P.underlying t = some (.slice e)) (hi : P.info? e = some i) (hz : i.zero = some z) (hs1 : i.size = s) (hz1 : z.cells.size = s)
    (B : Nat) (A : Option Addr) (hv : a.eval sl = .slice A 0 0) (hA : ∀ a, A = some a → B ≤ a.block ∧ a.block < w.heap.size) (xv : Value) (n : Nat) (news : List (List Value)) (hnc : ∀ c ∈ news, c.length = s) (hx : a.eval x = xv) (hs : Src P s tx xv n news.flatten w) (hB : B ≤ w.heap.size) (h63 : n ≤ maxLen) (hfit : n * i.bytes ≤ 140737488355328)
    (hk : ∀ v' w', BufS s w' B e v' news → Ext w w' → wpList P ops Q rest (a.put o.dst v') w') : wpList P ops Q (o :: rest) a w := by
  refine wpList_plain hgd fun K hK => ?_
  obtain ⟨v', w', hr, h2, h3, h4⟩ := run_append_emptyS (P := P) w s hs0 t tx o.type e i z ht hi hz hs1 hz1 B A hA xv n news hnc hs hB h63 hfit
  unfold Oper.wp execOp
  simp only [ho, resolve, invoke, builtin, Sem.run_bind, Sem.run_pure, Result.andThen_ok, List.map_toArray, List.map_cons, List.map_nil, hv, hx, hr]
  exact hK _ _ (hk v' w' h2 h3)
/-- What slices.Clone of effects answers. -/
def ECloneE (w : World) (R : List Eff) (e : Ending) (w' : World) : Prop := ∃ v, e = .returned v ∧ BufS 3 w' w.heap.size 79 v (R.map effV) ∧ Ext w w'
set_option maxRecDepth 100000 in
set_option maxHeartbeats 4000000 in
theorem eclone_any (w : World) (B : Nat) (v : Value) (R : List Eff) (h : BufS 3 w B 79 v (R.map effV)) (hR : R.length ≤ 1048576) : Calls Try.prog 44 #[v] w (ECloneE w R) := by
  obtain ⟨iF, hiF, hzF, hsF, hbF⟩ := infoEff
  obtain ⟨A, c, rfl⟩ := h.form
  rw [List.length_map] at *
  cases A with
  | none =>
    have hR0 : R = [] := by
      obtain ⟨A', cap', he, h1, h2, h3, h4, h5⟩ := h
      injection he with e1 e2 e3
      subst e1 e3
      rcases h5 with h5 | ⟨b, off, cs, he, _⟩
      · have : (R.map effV).length = 0 := by omega
        rw [List.length_map] at this
        exact List.eq_nil_of_length_eq_zero this
      · cases he
    subst hR0
    have hq := Lib.run_eql_slice_nil (P := Try.prog) w 71 _ none ([] : List Eff).length c 0 0 Try.underlying71
    clear h hR
    simp only [List.length_nil, Option.isNone_none] at hq ⊢
    go_enter Try.func44, Try.ntmps44
    go_wp2_with fail
    go_ret
    exact ⟨_, rfl, BufS.nil 3 _ _ _, Ext.refl _⟩
  | some ad =>
    have hq := Lib.run_eql_slice_nil (P := Try.prog) w 71 _ (some ad) R.length c 0 0 Try.underlying71
    simp only [Option.isNone_some] at hq
    have hE := Ext.alloc w (.cells #[] 79)
    have KE := Kept.mk hE
    have Ks := Kept.mk (BufS.src (P := Try.prog) _ (h.ext hE) (by decide) Try.underlying71 (fun c hc u hu => by
      obtain ⟨x, _, rfl⟩ := List.mem_map.1 hc
      simp [effV] at hu
      rcases hu with rfl | rfl | rfl <;> rfl))
    have Kc := Kept.mk (show ∀ c ∈ R.map effV, c.length = 3 from fun c hc => by obtain ⟨x, _, rfl⟩ := List.mem_map.1 hc; rfl)
    clear h hE
    generalize hn : R.length = n at *
    clear hn
    go_enter Try.func44, Try.ntmps44
    go_wp2_with (refine wpList_copyS (P := Try.prog) _ rfl (.tmp 5) (.tmp 6) 71 71 rfl 3 (by decide) 79 iF _ Try.underlying71 hiF hzF hsF (by rfl) w.heap.size (some ⟨w.heap.size, 0, none⟩) rfl (by intro a ha; injection ha with ha; subst ha; simp) _ n (R.map effV) Kc.out rfl Ks.out (by simp) (by simp only [maxLen]; omega) (by rw [hbF]; omega) ?_)
    intro v1 w1 hb hE1
    obtain ⟨vA, vn, vc, hv⟩ := BufS.form3 hb
    subst hv
    have Kb := Kept.mk hb
    have KE1 := Kept.mk (KE.out.trans hE1)
    clear hb hE1
    go_wp2_with fail
    go_ret
    exact ⟨_, rfl, Kb.out, KE1.out⟩
/-- What Copy answers. -/
def CopyE (w : World) (d : Dk) (e : Ending) (w' : World) : Prop := ∃ g D, e = .returned (.pointer (some ⟨g, 0, none⟩)) ∧ DkAt w' w.heap.size D g d ∧ Ext w w'
set_option maxRecDepth 100000 in
set_option maxHeartbeats 8000000 in
theorem copy_any (w : World) (B : Nat) (D : List Nat) (g : Nat) (d : Dk) (n : Nat) (h : DkAt w B D g d) (hb : DkB n d) (hn : n ≤ 1048576) : Calls Try.prog 32 #[.pointer (some ⟨g, 0, none⟩)] w (CopyE w d) := by
  have hm : Try.prog.follows .mixedOrders = true := by kernel_rfl
  obtain ⟨hg, bl, bs, v, hb1, hp⟩ := h
  have Kgl := Kept.mk (show g < w.heap.size from hb1.lt)
  obtain ⟨A, c, hv⟩ := hp.wb.form
  rw [List.length_map] at hv
  subst hv
  have hE := Ext.alloc w (.cells (dkV d bl bs (.slice A d.rows.length c)).toArray 73)
  have KE := Kept.mk hE
  have Kc := Kept.mk (Blk.new w 73 (dkV d bl bs (.slice A d.rows.length c)))
  have KB := Kept.mk (hb1.ext hE)
  have KC1 := Kept.mk (fun W (hW : Ext w W) => clone_any W bl _ (hp.fl.ext hW))
  have KC2 := Kept.mk (fun W (hW : Ext w W) => clone_any W bs _ (hp.fs.ext hW))
  have KC3 := Kept.mk (fun W (hW : Ext w W) => eclone_any W B _ d.rows (hp.wb.ext hW) (Nat.le_trans hb.rows hn))
  have c0 := hb1.cell 0
  have c1 := hb1.cell 1
  have c2 := hb1.cell 2
  have c3 := hb1.cell 3
  have c4 := hb1.cell 4
  have c5 := hb1.cell 5
  have c6 := hb1.cell 6
  simp only [dkV, List.getElem?_cons_zero, List.getElem?_cons_succ] at c0 c1 c2 c3 c4 c5 c6
  unfold dkV at KE Kc KB
  unfold ECloneE at KC3
  clear hE hb1 hp hb hg
  go_enter Try.func32, Try.ntmps32
  go_upto_region 2 with (fail)
  clear c0 c1 c2 c3 c4 c5 c6
  have Kne := Kept.mk (show g ≠ w.heap.size by have := Kgl.out; omega)
  generalize hcg : w.heap.size = cg at Kc Kne ⊢
  have Kcg := Kept.mk hcg
  clear hcg
  generalize w.alloc (.cells #[.int .i64 d.room, .map (some bl), .map (some bs), .slice A d.rows.length c, .bool d.down, .int .i64 d.cnt, .int .u64 d.keep] 73) = w1 at *
  have e1 := KB.out.cell 1
  have e2 := KB.out.cell 2
  have e3 := KB.out.cell 3
  simp only [List.getElem?_cons_zero, List.getElem?_cons_succ] at e1 e2 e3
  go_region_held_law (fun w' => w'.cell? ⟨g, 1, none⟩ = some (.map (some bl)) ∧ w'.cell? ⟨g, 2, none⟩ = some (.map (some bs)) ∧ w'.cell? ⟨g, 3, none⟩ = some (.slice A d.rows.length c))
    (first
      | with_reducible exact ⟨e1, e2, e3⟩
      | with_reducible exact ⟨r01, r02, r03⟩
      | with_reducible exact ⟨r11, r12, r13⟩
      | with_reducible exact ⟨r21, r22, r23⟩
      | with_reducible exact ⟨hX3.cell e1, hX3.cell e2, hX3.cell e3⟩
      | with_reducible exact ⟨hX2.cell e1, hX2.cell e2, hX2.cell e3⟩
      | with_reducible exact ⟨hX1.cell e1, hX1.cell e2, hX1.cell e3⟩
      | (refine ⟨Ext.cell ?_ e1, Ext.cell ?_ e2, Ext.cell ?_ e3⟩ <;> (with_reducible repeat (first | exact Ext.refl _ | exact hX3 | exact hX2 | exact hX1 | refine Ext.trans ?_ (Ext.drew _) | refine Ext.trans ?_ (Ext.alloc _ _))) ; done))
    ((first
      | (refine (KC1.out w1.drew (KE.out.trans (Ext.drew w1))).mono ?_; rintro ex w2 ⟨rfl, hf1, hY1, hs1⟩; have hX1 : Ext w1 w2 := (Ext.drew w1).trans hY1; have Kf1 := Kept.mk (And.intro hf1 hs1); clear hf1 hY1 hs1)
      | (refine (KC2.out w2 (KE.out.trans hX1)).mono ?_; rintro ex w3 ⟨rfl, hf2, hY2, hs2⟩; have hX2 : Ext w1 w3 := hX1.trans hY2; have Kf2 := Kept.mk (And.intro hf2 (And.intro hs2 hY2)); clear hf2 hY2 hs2)
      | (refine (KC3.out w3 (KE.out.trans hX2)).mono ?_; rintro ex w4 ⟨v4, rfl, hb4, hY3⟩; have hX3 : Ext w1 w4 := hX2.trans hY3; obtain ⟨vA, vn, vc, hv4⟩ := BufS.form3 hb4; subst hv4; have Kb4 := Kept.mk (And.intro hb4 hY3); have k1 := (Kc.out.ext hX3).cell 1; have k2 := (Kc.out.ext hX3).cell 2; have k3 := (Kc.out.ext hX3).cell 3; have l1 := (Kc.out.ext hX3).free 1; have l2 := (Kc.out.ext hX3).free 2; have l3 := (Kc.out.ext hX3).free 3; simp only [List.getElem?_cons_zero, List.getElem?_cons_succ] at k1 k2 k3; have r01 := ((KB.out.ext hX3).set_other ⟨cg, 1, none⟩ (.map (some w1.heap.size)) Kne.out).cell 1; have r02 := ((KB.out.ext hX3).set_other ⟨cg, 1, none⟩ (.map (some w1.heap.size)) Kne.out).cell 2; have r03 := ((KB.out.ext hX3).set_other ⟨cg, 1, none⟩ (.map (some w1.heap.size)) Kne.out).cell 3; have r11 := (((KB.out.ext hX3).set_other ⟨cg, 1, none⟩ (.map (some w1.heap.size)) Kne.out).set_other ⟨cg, 2, none⟩ (.map (some w2.heap.size)) Kne.out).cell 1; have r12 := (((KB.out.ext hX3).set_other ⟨cg, 1, none⟩ (.map (some w1.heap.size)) Kne.out).set_other ⟨cg, 2, none⟩ (.map (some w2.heap.size)) Kne.out).cell 2; have r13 := (((KB.out.ext hX3).set_other ⟨cg, 1, none⟩ (.map (some w1.heap.size)) Kne.out).set_other ⟨cg, 2, none⟩ (.map (some w2.heap.size)) Kne.out).cell 3; have r21 := ((((KB.out.ext hX3).set_other ⟨cg, 1, none⟩ (.map (some w1.heap.size)) Kne.out).set_other ⟨cg, 2, none⟩ (.map (some w2.heap.size)) Kne.out).set_other ⟨cg, 3, none⟩ (.slice vA vn vc) Kne.out).cell 1; have r22 := ((((KB.out.ext hX3).set_other ⟨cg, 1, none⟩ (.map (some w1.heap.size)) Kne.out).set_other ⟨cg, 2, none⟩ (.map (some w2.heap.size)) Kne.out).set_other ⟨cg, 3, none⟩ (.slice vA vn vc) Kne.out).cell 2; have r23 := ((((KB.out.ext hX3).set_other ⟨cg, 1, none⟩ (.map (some w1.heap.size)) Kne.out).set_other ⟨cg, 2, none⟩ (.map (some w2.heap.size)) Kne.out).set_other ⟨cg, 3, none⟩ (.slice vA vn vc) Kne.out).cell 3; simp only [List.getElem?_cons_zero, List.getElem?_cons_succ] at r01 r02 r03 r11 r12 r13 r21 r22 r23; clear hb4 hY3)))
  have Kfin : Kept (CopyE w d (.returned (.pointer (some ⟨cg, 0, none⟩))) (((w4.setCell ⟨cg, 1, none⟩ (.map (some w1.heap.size))).setCell ⟨cg, 2, none⟩ (.map (some w2.heap.size))).setCell ⟨cg, 3, none⟩ (.slice vA vn vc))) := Kept.mk (by
    have t1 := Touch.set w4 ⟨cg, 1, none⟩ (.map (some w1.heap.size))
    have t2 := Touch.set (w4.setCell ⟨cg, 1, none⟩ (.map (some w1.heap.size))) ⟨cg, 2, none⟩ (.map (some w2.heap.size))
    have t3 := Touch.set ((w4.setCell ⟨cg, 1, none⟩ (.map (some w1.heap.size))).setCell ⟨cg, 2, none⟩ (.map (some w2.heap.size))) ⟨cg, 3, none⟩ (.slice vA vn vc)
    have ht := (t1.trans t2 (fun j hj => .inl hj)).trans t3 (fun j hj => .inl hj)
    have hb := ((((Kc.out.ext hX3).set 1 (.map (some w1.heap.size))).set 2 (.map (some w2.heap.size))).set 3 (.slice vA vn vc))
    have hc1 : cg < w1.heap.size := Kc.out.lt
    have hz1 := hX1.size
    have hz2 := hX2.size
    have hz3 := hX3.size
    have q1 := Kf1.out.2
    have q2 := Kf2.out.2.1
    have q3 := Kf2.out.2.2.size
    have q4 := Kb4.out.2.size
    have hdr : w1.drew.heap.size = w1.heap.size := rfl
    have f1 := ((Kf1.out.1.ext Kf2.out.2.2).ext Kb4.out.2).touch ht (by simp; omega)
    have f2 := (Kf2.out.1.ext Kb4.out.2).touch ht (by simp; omega)
    have b4 := Kb4.out.1.touch ht (fun j hj hm => by rw [List.mem_singleton] at hm; simp only at hm; have := Kb4.out.1.owns j hj; omega)
    refine ⟨cg, cg :: w1.heap.size :: w2.heap.size :: own (.slice vA vn vc), rfl, ⟨by simp, w1.heap.size, w2.heap.size, .slice vA vn vc, hb, f1, f2, b4.lower (by have := Kcg.out; omega), by simp, by simp, fun j hj => by simp [hj], by omega, ?_⟩, ?_⟩
    · intro j hj
      have := Kcg.out
      have hz := ht.size
      simp only [List.mem_cons] at hj
      rcases hj with rfl | rfl | rfl | hj
      · omega
      · omega
      · omega
      · have := b4.owns j hj; omega
    · exact Touch.below (KE.out.trans hX3) ht (fun j hj => by rw [List.mem_singleton] at hj; subst hj; have := Kcg.out; omega) (KE.out.trans hX3).size)
  clear hX1 hX2 hX3 k1 k2 k3 l1 l2 l3 e1 e2 e3 r01 r02 r03 r11 r12 r13 r21 r22 r23
  go_wp2_with fail
  go_ret
  exact Kfin.out
theorem copy_at {w wi : World} {g : Nat} {d : Dk} (h : At0 w wi g d) (n : Nat) (hb : DkB n d) (hn : n ≤ 1048576) : Calls Try.prog 32 #[.pointer (some ⟨g, 0, none⟩)] wi (CopyE wi d) := by
  obtain ⟨D, h1, h2⟩ := h
  exact copy_any wi _ D g d n h1 hb hn
end Disk
end Go.Proofs.Ytjphmjegfpdbeaa
