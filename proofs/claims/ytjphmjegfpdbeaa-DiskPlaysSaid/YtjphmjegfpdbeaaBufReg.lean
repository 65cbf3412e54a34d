/- Appends as steps of regions that draw their order: a copy into a new row, and what is added to it. No condition. -/
import Derived.Test.YtjphmjegfpdbeaaBufSet
import Derived.Deep.RegionLaw
namespace Go.Proofs.Ytjphmjegfpdbeaa
open Go.RowKit
set_option linter.unusedVariables false
section
variable {P : Program} (w : World)
/-- append to an empty row without room: nothing that was there is written. -/
theorem run_append_emptyS (s : Nat) (hs0 : 0 < s) (t tx ty e : TypeId) (i : TypeInfo) (z : Value) (ht : P.underlying t = some (.slice e)) (hi : P.info? e = some i) (hz : i.zero = some z) (hs1 : i.size = s) (hz1 : z.cells.size = s)
    (B : Nat) (A : Option Addr) (hA : ∀ a, A = some a → B ≤ a.block ∧ a.block < w.heap.size) (x : Value) (n : Nat) (news : List (List Value)) (hnc : ∀ c ∈ news, c.length = s) (hs : Src P s tx x n news.flatten w) (hB : B ≤ w.heap.size) (h63 : n ≤ maxLen) (hfit : n * i.bytes ≤ 140737488355328) :
    ∃ v' w', (Builtin.append_ #[t, tx] ty #[.slice A 0 0, x]).run P w = .ok v' w' ∧ BufS s w' B e v' news ∧ Ext w w' ∧ (own v' = own (.slice A 0 0) ∨ own v' = [w.heap.size]) := by
  have hnl : news.length = n := by
    have := hs.newsLen
    rw [flat_len hnc] at this
    exact Nat.eq_of_mul_eq_mul_right hs0 this
  have hB0 : BufS s w B e (.slice A 0 0) [] := ⟨A, 0, rfl, Nat.le_refl _, Nat.zero_le _, by simp, fun k hk => by
    cases A with
    | none => simp [own] at hk
    | some a =>
      simp only [own, List.mem_singleton] at hk
      subst hk
      exact hA a rfl, .inl rfl⟩
  rcases Nat.eq_zero_or_pos n with h0 | h0
  · have hn : news = [] := List.eq_nil_of_length_eq_zero (by omega)
    subst hn
    have hn0 : n = 0 := by simpa using hnl.symm
    subst hn0
    refine ⟨.slice A 0 0, w, ?_, hB0, Ext.refl _, .inl rfl⟩
    have hc := hs.cells
    subst hs1
    rcases hs.kind with ⟨e', hk⟩ | hk <;> cases A <;> simp [Builtin.append_, run_underlying ht, run_underlying hk, sizeOf, typeInfo, hi, hs.len, hc, storeCells]
  · subst hs1
    have hold : (Builtin.firstCells i.size 0 (.slice A 0 0)).run P w.drew = .ok ([] : List Value).toArray w.drew := by
      cases A with
      | none => exact run_firstCells_none w.drew i.size 0 0 0
      | some a => exact run_firstCells_some w.drew i.size 0 a 0 0 [] (by simp) (by simp)
    have hr := run_append_grow_src (P := P) w t tx ty e i z ht hi hz A 0 0 [] hold x n news.flatten hs (by omega) (by simp only [maxLen] at h63; omega) (growslice_fits (by omega) (by rw [Nat.zero_add]; exact hfit))
    rw [Nat.zero_add] at hr
    have hge := grownCap_ge w n 0 e
    have hcm := grownCap_le_maxLen w n 0 e h63
    refine ⟨_, _, hr, ⟨_, _, by rw [hnl], by rw [hnl]; exact hge, hcm, hnc, by simp [own]; omega, .inr ⟨w.heap.size, 0, news.flatten ++ (Builtin.zeroCells z.cells (grownCap w n 0 e - n)).toList, rfl, ?_, ?_, ?_⟩⟩, ⟨rfl, rfl, rfl, by simp, fun k hk => heap_alloc_old w.drew _ hk⟩, .inr rfl⟩
    · have e1 : ((([] : List Value) ++ news.flatten).toArray ++ Builtin.zeroCells z.cells (grownCap w n 0 e - n)) = (news.flatten ++ (Builtin.zeroCells z.cells (grownCap w n 0 e - n)).toList).toArray := by
        apply Array.ext'
        simp
      rw [e1]
      exact (Blk.new w.drew e _).z
    · have hzl : (Builtin.zeroCells z.cells (grownCap w n 0 e - n)).toList.length = (grownCap w n 0 e - n) * i.size := by
        rw [Array.length_toList, size_zeroCells, hz1]
      rw [List.length_append, flat_len hnc, hnl, hzl, ← Nat.add_mul, Nat.zero_add]
      exact Nat.mul_le_mul_right _ (by omega)
    · rw [List.drop_zero]; exact List.take_left' (by rw [flat_len hnc])
/-- append([]T{}, xs...), as a step. -/
theorem step_copyS {ops : Array Oper} {o : Oper} {a : Act} {K : Act → World → Prop} {Q : Exit → Act → World → Prop} {E : Prop} (hgd : o.guard = none) (sl x : Operand) (t tx : TypeId)
    (ho : o.op = .call { callee := .builtin .append, args := #[sl, x], argTypes := #[t, tx] }) (s : Nat) (hs0 : 0 < s) (e : TypeId) (i : TypeInfo) (z : Value) (ht : P.underlying t = some (.slice e)) (hi : P.info? e = some i) (hz : i.zero = some z) (hs1 : i.size = s) (hz1 : z.cells.size = s)
    (B : Nat) (A : Option Addr) (hv : a.eval sl = .slice A 0 0) (hA : ∀ a, A = some a → B ≤ a.block ∧ a.block < w.heap.size) (xv : Value) (n : Nat) (news : List (List Value)) (hnc : ∀ c ∈ news, c.length = s) (hx : a.eval x = xv) (hs : Src P s tx xv n news.flatten w) (hB : B ≤ w.heap.size) (h63 : n ≤ maxLen) (hfit : n * i.bytes ≤ 140737488355328)
    (hk : ∀ v' w', BufS s w' B e v' news → Ext w w' → (∀ j ∈ own v', B ≤ j) → K (a.put o.dst v') w') :
    if Region.wanted o (yielded ops a.tmps) = true then Oper.wp P o a w K Q else E := by
  have hw : Region.wanted o (yielded ops a.tmps) = true := by simp [Region.wanted, hgd]
  rw [if_pos hw]
  obtain ⟨v', w', hr, h2, h3, h4⟩ := run_append_emptyS (P := P) w s hs0 t tx o.type e i z ht hi hz hs1 hz1 B A hA xv n news hnc hs hB h63 hfit
  unfold Oper.wp execOp
  simp only [ho, resolve, invoke, builtin, Sem.run_bind, Sem.run_pure, Result.andThen_ok, List.map_toArray, List.map_cons, List.map_nil, hv, hx, hr]
  exact hk v' w' h2 h3 (fun j hj => (h2.owns j hj).1)
/-- append(xs, ys...), as a step. -/
theorem step_addS {ops : Array Oper} {o : Oper} {a : Act} {K : Act → World → Prop} {Q : Exit → Act → World → Prop} {E : Prop} (hgd : o.guard = none) (sl x : Operand) (t tx : TypeId)
    (ho : o.op = .call { callee := .builtin .append, args := #[sl, x], argTypes := #[t, tx] }) (s : Nat) (hs0 : 0 < s) (e : TypeId) (i : TypeInfo) (z : Value) (ht : P.underlying t = some (.slice e)) (hi : P.info? e = some i) (hz : i.zero = some z) (hs1 : i.size = s) (hz1 : z.cells.size = s)
    (B : Nat) (v : Value) (css : List (List Value)) (hv : a.eval sl = v) (h : BufS s w B e v css) (xv : Value) (n : Nat) (news : List (List Value)) (hnc : ∀ c ∈ news, c.length = s) (hx : a.eval x = xv) (hs : Src P s tx xv n news.flatten w) (hB : B ≤ w.heap.size) (h63 : css.length + n ≤ maxLen) (hfit : (css.length + n) * i.bytes ≤ 140737488355328)
    (hk : ∀ v' w', BufS s w' B e v' (css ++ news) → Below B w w' → K (a.put o.dst v') w') :
    if Region.wanted o (yielded ops a.tmps) = true then Oper.wp P o a w K Q else E :=
  step_append_bufS w hgd sl x t tx ho s hs0 e i z ht hi hz hs1 hz1 B v css hv h xv n news hnc hx hs hB h63 hfit (fun v' w' h1 h2 h3 => hk v' w' h1 (Touch.below (Below.refl _ _) h2 (fun j hj => (h.owns j hj).1) hB))
/-- The literal of one element is read. -/
theorem src_lit {s : Nat} {t e e' : TypeId} {g : Nat} (hs0 : 0 < s) (ht : P.underlying t = some (.slice e')) {c : List Value} (hc : c.length = s) (h1 : ∀ u ∈ c, u.oneCell' = true) {w0 w' : World} (hb : Blk w0 g e c) (hE : Ext w0 w') : Src P s t (.slice (some ⟨g, 0, none⟩) 1 1) 1 [c].flatten w' := by
  rw [show [c].flatten = c by simp]
  refine Src.ofSlice w' ht _ 1 1 c (by omega) (fun j u hu => ?_) h1
  rw [Addr.add_lit, Nat.zero_add, (hb.ext hE).cell]
  exact hu
end
end Go.Proofs.Ytjphmjegfpdbeaa
